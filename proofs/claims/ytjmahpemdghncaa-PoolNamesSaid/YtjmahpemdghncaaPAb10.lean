/- What the law PoolNames needs of the text Ab10. -/
import Derived.Test.YtjmahpemdghncaaPAb9
set_option linter.unusedVariables false
set_option linter.unusedSimpArgs false
namespace Go.Zt
open Go.RowKit
section
open Ieee
theorem FE.two {k : FloatKind} {x x' y y' : Nat} (h : FE k x x') (g : FE k y y') {β : Type} (F : Datum → Datum → Option β) (h1 : ∀ d e, d.isNaN = true → F d e = none) (h2 : ∀ d e, e.isNaN = true → F d e = none) :
    F (k.format.read x) (k.format.read y) = F (k.format.read x') (k.format.read y') := by
  rcases h with rfl | ⟨hx, hx'⟩
  · rcases g with rfl | ⟨hy, hy'⟩
    · rfl
    · rw [h2 _ _ hy, h2 _ _ hy']
  · rw [h1 _ _ hx, h1 _ _ hx']
theorem nan_of {d : Datum} (h : d.isNaN = true) : ∃ s t, d = .nan s t := by cases d <;> simp_all [Datum.isNaN]
theorem FE.add {k : FloatKind} {x x' y y' : Nat} (h : FE k x x') (g : FE k y y') : k.format.add x y = k.format.add x' y' :=
  h.two g (fun d e => (d.sum e).map k.format.write) (fun d e hd => by obtain ⟨s, t, rfl⟩ := nan_of hd; rfl) (fun d e hd => by obtain ⟨s, t, rfl⟩ := nan_of hd; cases d <;> rfl)
theorem FE.sub {k : FloatKind} {x x' y y' : Nat} (h : FE k x x') (g : FE k y y') : k.format.sub x y = k.format.sub x' y' :=
  h.two g (fun d e => (d.sum e.opposite).map k.format.write) (fun d e hd => by obtain ⟨s, t, rfl⟩ := nan_of hd; rfl) (fun d e hd => by obtain ⟨s, t, rfl⟩ := nan_of hd; cases d <;> rfl)
theorem FE.mul {k : FloatKind} {x x' y y' : Nat} (h : FE k x x') (g : FE k y y') : k.format.mul x y = k.format.mul x' y' :=
  h.two g (fun d e => (d.product e).map k.format.write) (fun d e hd => by obtain ⟨s, t, rfl⟩ := nan_of hd; rfl) (fun d e hd => by obtain ⟨s, t, rfl⟩ := nan_of hd; cases d <;> rfl)
theorem FE.div {k : FloatKind} {x x' y y' : Nat} (h : FE k x x') (g : FE k y y') : k.format.div x y = k.format.div x' y' :=
  h.two g (fun d e => (d.quotient (k.format.fractionBits + 2) e).map k.format.write) (fun d e hd => by obtain ⟨s, t, rfl⟩ := nan_of hd; rfl) (fun d e hd => by obtain ⟨s, t, rfl⟩ := nan_of hd; cases d <;> rfl)
theorem FE.order {k : FloatKind} {x x' y y' : Nat} (h : FE k x x') (g : FE k y y') : k.format.order x y = k.format.order x' y' :=
  h.two g (fun d e => d.order e) (fun d e hd => by obtain ⟨s, t, rfl⟩ := nan_of hd; rfl) (fun d e hd => by obtain ⟨s, t, rfl⟩ := nan_of hd; cases d <;> rfl)
theorem fnan_nan (k : FloatKind) : fnanB k (fnan k) = true := by cases k <;> decide +kernel
theorem read_nan (f : Format) (w : Nat) (hb : f.binade ≤ f.infRung) (h : f.infRung < w % f.signWeight) : (f.read w).isNaN = true := by
  unfold Format.read
  simp only
  rw [if_neg (by omega), if_neg (by omega), if_neg (by omega)]
  rfl
theorem cut_nan (k : FloatKind) (x y t : Nat) : fnanB k ((Question.nanBits k x y).cut t) = true := by
  cases k
  · refine read_nan single _ (by decide) ?_
    rw [show single.infRung = 2139095040 by decide, show single.signWeight = 2147483648 by decide]
    have h1 := Nat.mod_lt (t / 2) (show 0 < 8388607 by decide)
    have h2 := Nat.mod_lt t (show 0 < 2 by decide)
    show _ < (t % 2 * 2147483648 + 2139095040 + 1 + t / 2 % 8388607) % 2147483648
    revert h1 h2
    generalize t / 2 % 8388607 = a
    generalize t % 2 = b
    intro h1 h2
    omega
  · refine read_nan double _ (by decide) ?_
    rw [show double.infRung = 9218868437227405312 by decide, show double.signWeight = 9223372036854775808 by decide]
    have h1 := Nat.mod_lt (t / 2) (show 0 < 4503599627370495 by decide)
    have h2 := Nat.mod_lt t (show 0 < 2 by decide)
    show _ < (t % 2 * 9223372036854775808 + 9218868437227405312 + 1 + t / 2 % 4503599627370495) % 9223372036854775808
    revert h1 h2
    generalize t / 2 % 4503599627370495 = a
    generalize t % 2 = b
    intro h1 h2
    omega
end
section
variable {C : Ctx} {B lo : Nat} {w0 : World} {m0 : Mp} {M0 : Mem} {m : Mp} {ml : Nat → Nat} {s s' : St} {w : World} {ρ : Operand → Value} {e : EV}
def PureRun (P : Program) (m : Mp) (M : Mem) (s : Sem Value) (w : World) (v : Value) : Prop :=
  ∃ cv n, s.run P w = .ok cv { w with drawn := n } ∧ VR m M v cv
theorem PureRun.of {P : Program} {m : Mp} {M : Mem} {s : Sem Value} {w : World} {v cv : Value} (h : s.run P w = .ok cv w) (hv : VR m M v cv) : PureRun P m M s w v := ⟨cv, w.drawn, h, hv⟩
theorem VR.flt_inv {m : Mp} {M : Mem} {k : FloatKind} {x : Nat} {c : Value} (h : VR m M (.float k x) c) : ∃ y, c = .float k y ∧ FE k x y := by
  cases h with
  | flt _ _ y h => exact ⟨y, rfl, h⟩
theorem arith_run {P : Program} {m : Mp} {M : Mem} {k : FloatKind} {op : BinOp} {x y x' y' : Nat} {f : Nat → Nat → Option Nat} (hf : ∀ w, (Op.floatArith op k x' y').run P w = (match f x' y' with | some r => (pure (.float k r) : Sem Value) | none => do pure (.float k (← choose (.nanBits k x' y')))).run P w)
    (hc : f x y = f x' y') (w : World) : PureRun P m M (Op.floatArith op k x' y') w (.float k ((f x y).getD (fnan k))) := by
  unfold PureRun
  rw [hf, hc]
  cases f x' y' with
  | some r => exact ⟨_, w.drawn, rfl, .flt _ _ _ (.inl rfl)⟩
  | none =>
    refine ⟨.float k ((Question.nanBits k x' y').cut (w.tape w.drawn (.nanBits k x' y'))), w.drawn + 1, ?_, .flt _ _ _ (.inr ⟨fnan_nan k, cut_nan k _ _ _⟩)⟩
    simp [Question.forced]
theorem binF_sound {P : Program} {m : Mp} {M : Mem} {op : BinOp} {t : TypeId} {k : FloatKind} {x y x' y' : Nat} (h : FE k x x') (g : FE k y y') {R : Type} {K : Value → Option R} {r : R} (hk : binF op k x y K = some r) (w : World) :
    ∃ v, K v = some r ∧ PureRun P m M (binOp op t (.float k x') (.float k y')) w v := by
  cases op <;> simp only [binF] at hk <;> first | (cases hk; done) | skip
  · refine ⟨_, hk, ?_⟩
    have := arith_run (P := P) (m := m) (M := M) (op := .add) (f := k.format.add) (fun w => by simp [Op.floatArith]; rfl) (h.add g) w
    simpa [binOp, fadd] using this
  · refine ⟨_, hk, ?_⟩
    have := arith_run (P := P) (m := m) (M := M) (op := .sub) (f := k.format.sub) (fun w => by simp [Op.floatArith]; rfl) (h.sub g) w
    simpa [binOp, fsub] using this
  · refine ⟨_, hk, ?_⟩
    have := arith_run (P := P) (m := m) (M := M) (op := .mul) (f := k.format.mul) (fun w => by simp [Op.floatArith]; rfl) (h.mul g) w
    simpa [binOp, fmul] using this
  · refine ⟨_, hk, ?_⟩
    have := arith_run (P := P) (m := m) (M := M) (op := .quo) (f := k.format.div) (fun w => by simp [Op.floatArith]; rfl) (h.div g) w
    simpa [binOp, fdiv] using this
  all_goals
    refine ⟨_, hk, ?_⟩
    rw [h.order g]
    exact PureRun.of (by simp [binOp, Op.floatCmp]) (.bool _)
theorem binI_sound {P : Program} {m : Mp} {M : Mem} {op : BinOp} {t : TypeId} {k : IntKind} {x y : Int} {R : Type} {K : Value → Option R} {r : R} (hk : binI op k x y K = some r) (w : World) :
    ∃ v, K v = some r ∧ PureRun P m M (binOp op t (.int k x) (.int k y)) w v := by
  cases op <;> simp only [binI, pb_eq] at hk <;> first | (cases hk; done) | skip
  case quo => split at hk <;> first | (cases hk; done) | exact ⟨_, hk, PureRun.of (by simp [binOp, Op.intDiv, *]) (.int _ _)⟩
  case rem => split at hk <;> first | (cases hk; done) | exact ⟨_, hk, PureRun.of (by simp [binOp, Op.intDiv, *]) (.int _ _)⟩
  case and => exact ⟨_, hk, PureRun.of (by simp only [binOp, if_neg (show ¬ (k ≠ k) by simp)]; rfl) (.int _ _)⟩
  case or => exact ⟨_, hk, PureRun.of (by simp only [binOp, if_neg (show ¬ (k ≠ k) by simp)]; rfl) (.int _ _)⟩
  case xor => exact ⟨_, hk, PureRun.of (by simp only [binOp, if_neg (show ¬ (k ≠ k) by simp)]; rfl) (.int _ _)⟩
  case andNot => exact ⟨_, hk, PureRun.of (by simp only [binOp, if_neg (show ¬ (k ≠ k) by simp)]; rfl) (.int _ _)⟩
  all_goals first
    | exact ⟨_, hk, PureRun.of (by simp [binOp, Op.intArith]) (.int _ _)⟩
    | exact ⟨_, hk, PureRun.of (by simp [binOp, Op.intCmp]) (.bool _)⟩
end
end Go.Zt
