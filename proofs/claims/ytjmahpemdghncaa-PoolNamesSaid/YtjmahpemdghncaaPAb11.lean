/- What the law PoolNames needs of the text Ab11. -/
import Derived.Test.YtjmahpemdghncaaPAb10
import Derived.DeepKeys
set_option linter.unusedVariables false
set_option linter.unusedSimpArgs false
namespace Go.Zt
open Go.RowKit
section
variable {C : Ctx} {B lo : Nat} {w0 : World} {m0 : Mp} {M0 : Mem} {m : Mp} {ml : Nat → Nat} {s s' : St} {w : World} {ρ : Operand → Value} {e : EV}
theorem guard_run {P : Program} {op : BinOp} {t : TypeId} {x y : Operand} {a b : Value} (h : ∀ ca cb, ¬ (a = .agg ca ∧ b = .agg cb)) (h' : ¬ (a = .nilIface ∧ b = .nilIface)) (w : World) : (eqGuard op t x y a b).run P w = .ok () w := by
  unfold eqGuard
  cases ho : !(op matches .eql | .neq)
  · cases a <;> cases b <;> first | rfl | (exact absurd ⟨rfl, rfl⟩ h') | (exact absurd ⟨rfl, rfl⟩ (h _ _))
  · rfl
theorem guarded {P : Program} {m : Mp} {M : Mem} {op : BinOp} {t : TypeId} {x y : Operand} {a b : Value} (h : ∀ ca cb, ¬ (a = .agg ca ∧ b = .agg cb)) (h' : ¬ (a = .nilIface ∧ b = .nilIface)) {w : World} {v : Value}
    (hr : PureRun P m M (binOp op t a b) w v) : PureRun P m M (do eqGuard op t x y a b; binOp op t a b) w v := by
  obtain ⟨cv, n, h1, h2⟩ := hr
  exact ⟨cv, n, by simp [guard_run h h', h1], h2⟩
theorem equal_one {P : Program} {t : TypeId} {d : TypeDesc} (hu : P.underlying t = some d) (a b : Value) (w : World) {r : Bool}
    (h : ∀ n, (Op.equalIn (n + 1) t a b).run P w = .ok r w) : (Op.equal t a b).run P w = .ok r w := h 9999
theorem keyLits_vr {P : Program} {m : Mp} {M : Mem} : ∀ {d : Nat} {t : TypeId} {cs cs' : List Value} {la : List Lit}, LR m M cs cs' → P.keyLits d t cs = some la → P.keyLits d t cs' = some la := by
  have map : ∀ {α : Type} {f g : α → Option (List Lit)} {l : List α} {r : List (List Lit)}, (∀ x y, f x = some y → g x = some y) → l.mapM f = some r → l.mapM g = some r := fun h hr => mapM_carry hr fun x y _ _ hx => h x y hx
  intro d
  induction d with
  | zero => intro t cs cs' la _ h; cases h
  | succ d ih =>
    intro t cs cs' la hl h
    unfold Program.keyLits at h ⊢
    split at h
    · rename_i hu
      obtain ⟨y, ys, rfl, hy, hr⟩ := hl.inv_cons
      obtain rfl := hr.inv_nil
      rw [hy.bool_inv]; simp only [hu]; exact h
    · rename_i hu
      obtain ⟨y, ys, rfl, hy, hr⟩ := hl.inv_cons
      obtain rfl := hr.inv_nil
      rw [hy.int_inv]; simp only [hu]; exact h
    · rename_i hu
      obtain ⟨y, ys, rfl, hy, hr⟩ := hl.inv_cons
      obtain rfl := hr.inv_nil
      rw [hy.str_inv]; simp only [hu]; exact h
    · rename_i n e _ hu
      simp only [hu]
      rw [← hl.1]
      split at h
      · rename_i hc
        rw [if_pos hc]
        obtain ⟨r, hr, rfl⟩ := Option.map_eq_some_iff.1 h
        rw [map (fun x y hx => ih ((hl.drop _).take _) hx) hr]; rfl
      · cases h
    · rename_i fs _ hu
      simp only [hu]
      rw [← hl.1]
      split at h
      · rename_i hc
        rw [if_pos hc]
        obtain ⟨r, hr, rfl⟩ := Option.map_eq_some_iff.1 h
        rw [map (fun x y hx => ih ((hl.drop _).take _) hx) hr]; rfl
      · cases h
    · cases h
theorem keyLits_formed {P : Program} {d : Nat} {t : TypeId} {xs : Array Value} {la : List Lit} (ha : isAggB P t = true) (h : P.keyLits d t xs.toList = some la) : (Value.agg xs).formed P t = true := by
  cases d with
  | zero => cases h
  | succ d =>
    unfold isAggB at ha
    unfold Value.formed
    split at ha
    · rename_i fs hu
      simp only [Program.keyLits, hu] at h ⊢
      split at h
      · rename_i hc; simpa using hc.1
      · cases h
    · rename_i n e hu
      simp only [Program.keyLits, hu] at h ⊢
      split at h
      · rename_i hc; simpa using hc
      · cases h
    · cases ha
theorem eqLits_run {P : Program} {t : TypeId} {xs ys : Array Value} {la lb : List Lit} (hk : P.keyTypeAt 8 t = true) (ha : isAggB P t = true) (hx : P.keyLits 9 t xs.toList = some la) (hy : P.keyLits 9 t ys.toList = some lb) (w : World) :
    (Op.equal t (.agg xs) (.agg ys)).run P w = .ok (sameLits la lb) w := by
  obtain ⟨r, hr, hiff⟩ := run_equalIn_deep (P := P) 9992 8 t hk w 9 9 (.agg xs) (.agg ys) la lb (keyLits_formed ha hx) (keyLits_formed ha hy) hx hy
  have : r = sameLits la lb := by
    unfold sameLits
    by_cases h : la = lb
    · rw [hiff.2 h]; simp [h]
    · cases hr' : r
      · simp [h]
      · exact absurd (hiff.1 hr') h
  rw [← this]
  exact hr
theorem guard_agg {P : Program} {op : BinOp} {t : TypeId} {x y : Operand} {a b : Array Value} (h : P.eqGuardType P.depth t = false) (w : World) : (eqGuard op t x y (.agg a) (.agg b)).run P w = .ok () w := by
  unfold eqGuard
  cases ho : !(op matches .eql | .neq)
  · simp [run_program, h]
  · rfl
theorem binOpA_sound {P : Program} {m : Mp} {M : Mem} {op : BinOp} {t : TypeId} {a b a' b' : Value} (ha : VR m M a a') (hb : VR m M b b') {R : Type} {K : Value → Option R} {r : R} (hk : binOpA P op t a b K = some r) (x y : Operand) (w : World) :
    ∃ v, K v = some r ∧ PureRun P m M (do eqGuard op t x y a' b'; binOp op t a' b') w v := by
  unfold binOpA at hk
  split at hk
  · rename_i k i k' j
    rw [ha.int_inv, hb.int_inv]
    split at hk
    · rw [pb_eq] at hk
      split at hk
      · cases hk
      · exact ⟨_, hk, guarded (by simp) (by simp) (PureRun.of (by simp [binOp, Op.shift, *, shlI]) (.int _ _))⟩
    · rw [pb_eq] at hk
      split at hk
      · cases hk
      · exact ⟨_, hk, guarded (by simp) (by simp) (PureRun.of (by simp [binOp, Op.shift, *, shrI]) (.int _ _))⟩
    · rw [pb_eq] at hk
      split at hk
      · rename_i hkk
        subst hkk
        obtain ⟨v, h1, h2⟩ := binI_sound (P := P) (m := m) (M := M) (t := t) hk w
        exact ⟨v, h1, guarded (by simp) (by simp) h2⟩
      · cases hk
  · rename_i k i k' j
    obtain ⟨i', rfl, hi⟩ := ha.flt_inv
    obtain ⟨j', rfl, hj⟩ := hb.flt_inv
    rw [pb_eq] at hk
    split at hk
    · rename_i hkk
      subst hkk
      obtain ⟨v, h1, h2⟩ := binF_sound (P := P) (m := m) (M := M) (t := t) hi hj hk w
      exact ⟨v, h1, guarded (by simp) (by simp) h2⟩
    · cases hk
  · rename_i i j
    rw [ha.bool_inv, hb.bool_inv]
    split at hk
    · rename_i hu
      have he : (Op.equal t (.bool i) (.bool j)).run P w = .ok (i == j) w := equal_one hu _ _ _ fun n => by simp [Op.equalIn, run_underlying hu]
      split at hk
      · exact ⟨_, hk, guarded (by simp) (by simp) (PureRun.of (by simp [binOp, he]) (.bool _))⟩
      · exact ⟨_, hk, guarded (by simp) (by simp) (PureRun.of (by simp [binOp, he]) (.bool _))⟩
      · cases hk
    · cases hk
  · rename_i i j
    rw [ha.str_inv, hb.str_inv]
    split at hk
    · rw [pb_eq] at hk
      split at hk
      · cases hk
      · rename_i hc
        exact ⟨_, hk, guarded (by simp) (by simp) (PureRun.of (by simp only [binOp, Op.stringOp, if_neg hc]; rfl) (.str _))⟩
    · exact ⟨_, hk, guarded (by simp) (by simp) (PureRun.of (by simp [binOp, Op.stringOp]) (.bool _))⟩
    · exact ⟨_, hk, guarded (by simp) (by simp) (PureRun.of (by simp [binOp, Op.stringOp]) (.bool _))⟩
    · cases hk
  · rename_i xs ys
    obtain ⟨xs', rfl, hxs⟩ := ha.agg_inv
    obtain ⟨ys', rfl, hys⟩ := hb.agg_inv
    split at hk
    · rename_i h1 h2 h3
      split at hk
      · rw [ob_eq] at hk
        obtain ⟨la, hla, hk⟩ := Option.bind_eq_some_iff.1 hk
        rw [ob_eq] at hk
        obtain ⟨lb, hlb, hk⟩ := Option.bind_eq_some_iff.1 hk
        have he := eqLits_run h1 h2 (keyLits_vr hxs hla) (keyLits_vr hys hlb) w
        exact ⟨_, hk, PureRun.of (by simp [guard_agg h3, binOp, he]) (.bool _)⟩
      · rw [ob_eq] at hk
        obtain ⟨la, hla, hk⟩ := Option.bind_eq_some_iff.1 hk
        rw [ob_eq] at hk
        obtain ⟨lb, hlb, hk⟩ := Option.bind_eq_some_iff.1 hk
        have he := eqLits_run h1 h2 (keyLits_vr hxs hla) (keyLits_vr hys hlb) w
        exact ⟨_, hk, PureRun.of (by simp [guard_agg h3, binOp, he]) (.bool _)⟩
      · cases hk
    · cases hk
  · rename_i A n1 c1 n2 c2
    obtain ⟨A', k', rfl, _, _, hA⟩ := ha.slc_any
    obtain ⟨_, _, rfl⟩ := hb.nil_inv
    have hAA : A'.isNone = A.isNone := by
      rcases hA with ⟨rfl, rfl, _⟩ | ⟨_, _, rfl, rfl, _⟩ <;> rfl
    split at hk
    · rename_i el hu
      have he : (Op.equal t (.slice A' n1 k') (.slice none 0 0)).run P w = .ok A.isNone w := equal_one hu _ _ _ fun n => by
        rw [← hAA]
        cases A' <;> simp [Op.equalIn, run_underlying hu]
      split at hk
      · exact ⟨_, hk, guarded (by simp) (by simp) (PureRun.of (by simp [binOp, he]) (.bool _))⟩
      · exact ⟨_, hk, guarded (by simp) (by simp) (PureRun.of (by simp [binOp, he]) (.bool _))⟩
      · cases hk
    · cases hk
  · rename_i A
    have hb' : b' = .pointer none := by cases hb; rfl
    subst hb'
    obtain ⟨A', rfl, hAA⟩ : ∃ A', a' = .pointer A' ∧ A'.isNone = A.isNone := by cases ha <;> exact ⟨_, rfl, rfl⟩
    split at hk
    · rename_i el hu
      have he : (Op.equal t (.pointer A') (.pointer none)).run P w = .ok A.isNone w := equal_one hu _ _ _ fun n => by
        rw [← hAA]
        cases A' <;> simp [Op.equalIn, run_underlying hu]
      split at hk
      · exact ⟨_, hk, guarded (by simp) (by simp) (PureRun.of (by simp [binOp, he]) (.bool _))⟩
      · exact ⟨_, hk, guarded (by simp) (by simp) (PureRun.of (by simp [binOp, he]) (.bool _))⟩
      · cases hk
    · cases hk
  · cases hk
theorem unOpA_sound {P : Program} {m : Mp} {M : Mem} {op : UnOp} {a a' : Value} (ha : VR m M a a') {R : Type} {K : Value → Option R} {r : R} (hk : unOpA op a K = some r) (w : World) :
    ∃ v, K v = some r ∧ PureRun P m M (Op.unary op a') w v := by
  unfold unOpA at hk
  split at hk
  · rw [ha.int_inv]; exact ⟨_, hk, PureRun.of (by simp [Op.unary, Op.intArith]) (.int _ _)⟩
  · rw [ha.int_inv]; exact ⟨_, hk, PureRun.of (by simp only [Op.unary]; rfl) (.int _ _)⟩
  · rw [ha.bool_inv]; exact ⟨_, hk, PureRun.of (by simp [Op.unary]) (.bool _)⟩
  · cases hk
theorem convA_sound {P : Program} {m : Mp} {M : Mem} {t u : TypeId} {a a' : Value} (ha : VR m M a a') {R : Type} {K : Value → Option R} {r : R} (hk : convA P t u a K = some r) (w : World) :
    ∃ v, K v = some r ∧ PureRun P m M (convert t u a') w v := by
  unfold convA at hk
  split at hk
  · rename_i h1 h2
    rw [ha.int_inv]; exact ⟨_, hk, PureRun.of (by simp [convert, run_underlying h1, run_underlying h2, Conv.intToInt]) (.int _ _)⟩
  · rename_i h1 h2
    rw [ha.int_inv]; exact ⟨_, hk, PureRun.of (by simp [convert, run_underlying h1, run_underlying h2, Conv.intToFloat]) (.flt _ _ _ (.inl rfl))⟩
  · cases hk
theorem pick_sound (hs : Setup C B lo w0 m0 M0 m ml s w ρ) {x y : Operand} {b : Bool} {R : Type} {K : EV → Option R} {r : R} (h : pickE b (opnd s x) (opnd s y) K = some r) :
    ∃ e, K e = some r ∧ ER m s.mem ml e (if b = true then ρ x else ρ y) := by
  unfold pickE at h
  split at h
  · rename_i k i k' j h1 h2
    rw [pb_eq] at h
    split at h
    · rename_i hkk
      subst hkk
      refine ⟨_, h, ?_⟩
      cases b
      · exact hs.rho y _ h2
      · exact hs.rho x _ h1
    · cases h
  · rename_i i j h1 h2
    refine ⟨_, h, ?_⟩
    cases b
    · exact hs.rho y _ h2
    · exact hs.rho x _ h1
  · cases b
    · rw [bb_eq, if_neg (by simp)] at h
      split at h
      · rename_i e' he; exact ⟨_, h, hs.rho y _ he⟩
      · cases h
    · rw [bb_eq, if_pos rfl] at h
      split at h
      · rename_i e' he; exact ⟨_, h, hs.rho x _ he⟩
      · cases h
theorem parts_sound (hs : Setup C B lo w0 m0 M0 m ml s w ρ) : ∀ {l : List (Nat × Operand)} {vs : List (Nat × Value)}, partsA s l = some vs →
    (l.map fun p => (p.1, ρ p.2)).length = vs.length ∧ ∀ (i : Nat) (p q : Nat × Value), vs[i]? = some p → (l.map fun p => (p.1, ρ p.2))[i]? = some q → p.1 = q.1 ∧ VR m s.mem p.2 q.2
  | [], vs, h => by simp [partsA] at h; subst h; exact ⟨rfl, fun i p q hp => by simp at hp⟩
  | (j, x) :: r, vs, h => by
    simp only [partsA] at h
    split at h
    · rename_i v l hv hl
      injection h with h; subst h
      obtain ⟨h1, h2⟩ := parts_sound hs hl
      refine ⟨by simpa using h1, fun i p q hp hq => ?_⟩
      cases i with
      | zero => simp at hp hq; subst hp; subst hq; exact ⟨rfl, hs.val hv⟩
      | succ i => exact h2 i p q (by simpa using hp) (by simpa using hq)
    · cases h
theorem foldl_setL (vs : List Value) : ∀ (cells : Array Value) (off k : Nat), ((vs.zipIdx k).foldl (fun cs (p : Value × Nat) => cs.setIfInBounds (off + p.2) p.1) cells).toList = setL cells.toList (off + k) vs := by
  induction vs with
  | nil => intro cells off k; rfl
  | cons v vs ih =>
    intro cells off k
    simp only [List.zipIdx_cons, List.foldl_cons, setL]
    rw [ih, Array.toList_setIfInBounds, Nat.add_assoc]
theorem fill_sound {m : Mp} {M : Mem} {place : Nat → Option (Nat × Nat)} : ∀ {l vs : List (Nat × Value)} {cs cs' : List Value} {cells : Array Value}, l.length = vs.length → (∀ (i : Nat) (p q : Nat × Value), vs[i]? = some p → l[i]? = some q → p.1 = q.1 ∧ VR m M p.2 q.2) →
    LR m M cs cells.toList → fillL place cs vs = some cs' → ∃ cells', Instr.fill place cells l = some cells' ∧ LR m M cs' cells'.toList
  | l, [], cs, cs', cells, hl, _, hlr, h => by
    obtain rfl := List.eq_nil_of_length_eq_zero hl
    simp only [fillL] at h
    injection h with h; subst h
    exact ⟨cells, rfl, hlr⟩
  | l, (i, v) :: vs, cs, cs', cells, hl, hr, hlr, h => by
    cases l with
    | nil => simp at hl
    | cons q l =>
      obtain ⟨e1, hv⟩ := hr 0 _ _ rfl rfl
      obtain ⟨i', c⟩ := q
      simp only at e1 hv
      subst e1
      simp only [fillL] at h
      split at h
      · cases h
      · rename_i off size hp
        split at h
        · rename_i h1 h2
          have hcl := hv.cells
          have hsz : c.cells.size = (cellsL v).length := by rw [← Array.length_toList, ← hcl.1]
          have hb := Nat.eq_of_beq_eq_true h1
          have hle := Nat.le_of_ble_eq_true h2
          obtain ⟨cells', g1, g2⟩ := fill_sound (place := place) (l := l) (cells := c.cells.zipIdx.foldl (fun cs (p : Value × Nat) => cs.setIfInBounds (off + p.2) p.1) cells) (by simpa using hl) (fun j p q hp hq => hr (j + 1) p q (by simpa using hp) (by simpa using hq)) (by
            have : (c.cells.zipIdx.foldl (fun cs (p : Value × Nat) => cs.setIfInBounds (off + p.2) p.1) cells).toList = setL cells.toList off c.cells.toList := by
              rw [← Array.foldl_toList, Array.toList_zipIdx]
              exact foldl_setL _ _ _ 0
            rw [this]
            exact hlr.setL off hcl) h
          refine ⟨cells', ?_, g2⟩
          have hcs : cs.length = cells.size := by rw [hlr.1, Array.length_toList]
          have h3 : ¬ (c.cells.size ≠ size ∨ off + c.cells.size > cells.size) := by omega
          simp only [Instr.fill, hp]
          rw [if_neg (by simpa using h3)]
          exact g1
        · cases h
end
end Go.Zt
