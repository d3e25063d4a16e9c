/- What the law ChainKnown needs of the text Fc. -/
import Derived.Test.YtbbfdebfhgdciaaPFb
import Derived.Test.YtbbfdebfhgdciaaPEq0
import Derived.KernelRfl
import Derived.Test.YtbbfdebfhgdciaaPEq2
import Derived.Test.YtbbfdebfhgdciaaPEq3
import Derived.Test.YtbbfdebfhgdciaaPEq4
set_option linter.unusedVariables false
set_option linter.unusedSimpArgs false
set_option maxRecDepth 100000
namespace Go.Zt
theorem slAddr_00 (B : Option Addr) (q : Nat) : slAddr 1 B 0 q = B := by
  unfold slAddr; split
  · rfl
  · cases B <;> rfl
abbrev wfI (x : Int) : Prop := (Lit.int .i64 x).wf = true
theorem key3 {a b c : Int} (wa : wfI a) (wb : wfI b) (wc : wfI c) : P.keyLits 8 65 [.int .i64 a, .int .i64 b, .int .i64 c] = some [.int .i64 a, .int .i64 b, .int .i64 c] :=
  keyLits_ints (l := [a, b, c]) (d := 6) (e := 3) (n := 3) Go.Proofs.Try.underlying65 Go.Proofs.Try.underlying3 (by kernel_rfl) (by kernel_rfl) rfl (by simp; exact ⟨wa, wb, wc⟩)
theorem keyB (b : Bool) : P.keyLits 8 4 [.bool b] = some [.bool b] := by
  unfold Program.keyLits
  simp only [Go.Proofs.Try.underlying4]
theorem key_unit {b : Bool} {a1 a2 a3 a4 a5 a6 : Int} (w1 : wfI a1) (w2 : wfI a2) (w3 : wfI a3) (w4 : wfI a4) (w5 : wfI a5) (w6 : wfI a6) :
    P.keyLits 9 67 [.bool b, .int .i64 a1, .int .i64 a2, .int .i64 a3, .int .i64 a4, .int .i64 a5, .int .i64 a6] = some [.bool b, .int .i64 a1, .int .i64 a2, .int .i64 a3, .int .i64 a4, .int .i64 a5, .int .i64 a6] := by
  unfold Program.keyLits
  simp only [Go.Proofs.Try.underlying67]
  rw [if_pos ⟨by kernel_rfl, by kernel_rfl⟩]
  have c4 : P.cellsOf 4 = 1 := by kernel_rfl
  have c23 : P.cellsOf 65 = 3 := by kernel_rfl
  simp only [List.mapM_cons, List.mapM_nil, c4, c23, List.drop_zero, List.drop_succ_cons, List.take_succ_cons, List.take_zero, keyB, key3 w1 w2 w3, key3 w4 w5 w6]
  rfl
theorem sameLits_eq (la lb : List Lit) : sameLits la lb = true ↔ la = lb := by
  unfold sameLits
  exact @decide_eq_true_iff _ (Classical.propDecidable _)
structure Tp where
  a : Int
  b : Int
  c : Int
def TapsP (t : Tp) : Prop := (-5 ≤ t.a ∧ t.a ≤ 10) ∧ (-23 ≤ t.b ∧ t.b ≤ 8) ∧ (-17 ≤ t.c ∧ t.c ≤ 46)
instance (t : Tp) : Decidable (TapsP t) := inferInstanceAs (Decidable (_ ∧ _))
def sevL (t : Tp) : List Int := if TapsP t then [t.a, t.b, t.c, 128 - 2 * (t.a + t.b + t.c), t.c, t.b, t.a] else [0, 0, 0, 0, 0, 0, 0]
theorem sevL_len (t : Tp) : (sevL t).length = 7 := by unfold sevL; split <;> rfl
theorem sevL_le (t : Tp) : ∀ x ∈ sevL t, -256 ≤ x ∧ x ≤ 256 := fun x hx => by
  unfold sevL at hx
  split at hx
  · rename_i h
    unfold TapsP at h
    simp at hx
    omega
  · simp at hx; omega
theorem wwithin_ok (lo : Nat) (v a b : Int) (M : Mem) : Ac P T lo F.wiener_within [.int .i64 v, .int .i64 a, .int .i64 b] M fun r => r = (.bool (decide (a ≤ v ∧ v ≤ b)), M) := by
  refine Ac.of (Evp.of_eq (fun k => wiener_within.entry k ..) ?_)
  refine Evp.dec (fun h => Evp.ret (Run.ret ?_)) fun h => Evp.ret (Run.ret (by rw [decide_eq_false (fun e => h e.1)]))
  congr 2
  exact decide_eq_decide.2 ⟨fun e => ⟨h, e⟩, fun e => e.2⟩
theorem wclip_ok (lo : Nat) (v a b : Int) (M : Mem) (h : a ≤ b) : Ac P T lo F.wiener_clip [.int .i64 v, .int .i64 a, .int .i64 b] M fun r => r = (.int .i64 (clipS v a b), M) := by
  refine Ac.of (Evp.of_eq (fun k => wiener_clip.entry k ..) ?_)
  refine Evp.ret (Run.ret ?_)
  have : minI (maxI v a) b = clipS v a b := by
    unfold minI maxI clipS
    repeat' split
    all_goals omega
  rw [this]
section
variable (lo : Nat) (t : Tp) (M : Mem)
theorem tapsMay_ok : Ac P T lo F.wiener_tapsMay [.agg ⟨[.int .i64 t.a, .int .i64 t.b, .int .i64 t.c]⟩] M fun r => r = (.bool (decide (TapsP t)), M) := by
  refine Ac.of (Evp.of_eq (fun k => wiener_tapsMay.entry k ..) ?_)
  refine Evp.ob (wwithin_ok ..) ?_
  rintro _ rfl
  simp only [ret_int, ret_bool, ret_flt, ret_slc, ret_str, ret_ptr, ret_agg, ret_tup, ob_some, bb_true, bb_false, List.getElem?_cons_zero, List.getElem?_cons_succ, List.length_cons, List.length_nil, Nat.reduceAdd, Nat.reduceLT]
  refine Evp.dec (fun h1 => ?_) fun h1 => Evp.ret (Run.ret (by rw [decide_eq_false (fun e => h1 e.1)]))
  refine Evp.ob (wwithin_ok ..) ?_
  rintro _ rfl
  simp only [ret_int, ret_bool, ret_flt, ret_slc, ret_str, ret_ptr, ret_agg, ret_tup, ob_some, bb_true, bb_false, List.getElem?_cons_zero, List.getElem?_cons_succ, List.length_cons, List.length_nil, Nat.reduceAdd, Nat.reduceLT]
  refine Evp.dec (fun h2 => ?_) fun h2 => Evp.ret (Run.ret (by rw [decide_eq_false (fun e => h2 e.2.1)]))
  refine Evp.ob (wwithin_ok ..) ?_
  rintro _ rfl
  simp only [ret_int, ret_bool, ret_flt, ret_slc, ret_str, ret_ptr, ret_agg, ret_tup, ob_some, bb_true, bb_false, List.getElem?_cons_zero, List.getElem?_cons_succ, List.length_cons, List.length_nil, Nat.reduceAdd, Nat.reduceLT]
  refine Evp.ret (Run.ret ?_)
  congr 2
  exact decide_eq_decide.2 ⟨fun e => ⟨h1, h2, e⟩, fun e => e.2.2⟩
def SevR (r : Value × Mem) : Prop := ∃ a b c d e f g : Int, r = (.tuple ⟨[.agg ⟨[.int .i64 a, .int .i64 b, .int .i64 c, .int .i64 d, .int .i64 e, .int .i64 f, .int .i64 g]⟩, .int .i64 (if TapsP t then 0 else 2)]⟩, M) ∧ sevL t = [a, b, c, d, e, f, g]
theorem seven_ok : Ac P T lo F.wiener_Seven [.agg ⟨[.int .i64 t.a, .int .i64 t.b, .int .i64 t.c]⟩] M (SevR t M) := by
  refine Ac.of (Evp.of_eq (fun k => wiener_Seven.entry k ..) ?_)
  refine Evp.ob (tapsMay_ok ..) ?_
  rintro _ rfl
  simp only [ret_int, ret_bool, ret_flt, ret_slc, ret_str, ret_ptr, ret_agg, ret_tup, ob_some, bb_true, bb_false, List.getElem?_cons_zero, List.getElem?_cons_succ, List.length_cons, List.length_nil, Nat.reduceAdd, Nat.reduceLT]
  by_cases h : TapsP t
  · rw [decide_eq_true h]
    refine Evp.ff rfl (Evp.ret ?_)
    have h' := h
    unfold TapsP at h'
    have e2 : ∀ z : Int, (z = t.a ∨ z = t.b ∨ z = t.c) → IntKind.i64.wrap (2 * z) = 2 * z := fun z hz => w64 (by omega)
    refine Run.cut (Evp.of_eq (fun k => wiener_Seven.p244 k ..) ?_)
    refine Evp.tt rfl (Evp.pos (by decide) (Evp.some rfl ?_))
    rw [e2 t.a (.inl rfl), w64 (x := 128 - 2 * t.a) (by omega), show IntKind.i64.wrap (0 + 1) = 1 from by decide]
    refine Evp.ret ?_
    refine Run.cut (Evp.of_eq (fun k => wiener_Seven.p244 k ..) ?_)
    refine Evp.tt rfl (Evp.pos (by decide) (Evp.some rfl ?_))
    rw [e2 t.b (.inr (.inl rfl)), w64 (x := 128 - 2 * t.a - 2 * t.b) (by omega), show IntKind.i64.wrap (1 + 1) = 2 from by decide]
    refine Evp.ret ?_
    refine Run.cut (Evp.of_eq (fun k => wiener_Seven.p244 k ..) ?_)
    refine Evp.tt rfl (Evp.pos (by decide) (Evp.some rfl ?_))
    rw [e2 t.c (.inr (.inr rfl)), w64 (x := 128 - 2 * t.a - 2 * t.b - 2 * t.c) (by omega), show IntKind.i64.wrap (2 + 1) = 3 from by decide]
    refine Evp.ret ?_
    refine Run.cut (Evp.of_eq (fun k => wiener_Seven.p244 k ..) ?_)
    refine Evp.ff rfl (Evp.ret (Run.ret ⟨_, _, _, _, _, _, _, by rw [if_pos h], ?_⟩))
    unfold sevL
    rw [if_pos h, show 128 - 2 * t.a - 2 * t.b - 2 * t.c = 128 - 2 * (t.a + t.b + t.c) by omega]
  · rw [decide_eq_false h]
    refine Evp.tt rfl (Evp.ret (Run.ret ⟨_, _, _, _, _, _, _, by rw [if_neg h], ?_⟩))
    unfold sevL
    rw [if_neg h]
end
structure Un where
  on : Bool
  v : Tp
  h : Tp
def Un.wf (u : Un) : Prop := wfI u.v.a ∧ wfI u.v.b ∧ wfI u.v.c ∧ wfI u.h.a ∧ wfI u.h.b ∧ wfI u.h.c
def Un.cells (u : Un) : List Value := [.bool u.on, .int .i64 u.v.a, .int .i64 u.v.b, .int .i64 u.v.c, .int .i64 u.h.a, .int .i64 u.h.b, .int .i64 u.h.c]
def u0 : Un := ⟨false, ⟨0, 0, 0⟩, ⟨0, 0, 0⟩⟩
def UnitP (u : Un) : Prop := (u.on = true ∧ TapsP u.v ∧ TapsP u.h) ∨ u = u0
noncomputable instance (u : Un) : Decidable (UnitP u) := Classical.propDecidable _
noncomputable def checkU (u : Un) : Int := if UnitP u then 0 else 2
theorem key_u {u : Un} (w : u.wf) : P.keyLits 9 67 u.cells = some [.bool u.on, .int .i64 u.v.a, .int .i64 u.v.b, .int .i64 u.v.c, .int .i64 u.h.a, .int .i64 u.h.b, .int .i64 u.h.c] := key_unit w.1 w.2.1 w.2.2.1 w.2.2.2.1 w.2.2.2.2.1 w.2.2.2.2.2
theorem key_u0 : P.keyLits 9 67 [.bool false, .int .i64 0, .int .i64 0, .int .i64 0, .int .i64 0, .int .i64 0, .int .i64 0] = some [.bool false, .int .i64 0, .int .i64 0, .int .i64 0, .int .i64 0, .int .i64 0, .int .i64 0] := key_unit (by decide) (by decide) (by decide) (by decide) (by decide) (by decide)
theorem same_u0 (u : Un) : sameLits [.bool u.on, .int .i64 u.v.a, .int .i64 u.v.b, .int .i64 u.v.c, .int .i64 u.h.a, .int .i64 u.h.b, .int .i64 u.h.c] [.bool false, .int .i64 0, .int .i64 0, .int .i64 0, .int .i64 0, .int .i64 0, .int .i64 0] = true ↔ u = u0 := by
  rw [sameLits_eq]
  obtain ⟨on, ⟨a, b, c⟩, ⟨d, e, f⟩⟩ := u
  simp [u0, and_assoc]
section
variable (lo : Nat) (u : Un) (M : Mem) (w : u.wf)
include w
theorem keys_end {f : FuncId} (hno : ¬ (u.on = true ∧ TapsP u.v ∧ TapsP u.h)) : Evp (fun k => ob (Program.keyLits P 9 67 [.bool u.on, .int .i64 u.v.a, .int .i64 u.v.b, .int .i64 u.v.c, .int .i64 u.h.a, .int .i64 u.h.b, .int .i64 u.h.c]) fun q17 => ob (Program.keyLits P 9 67 [.bool false, .int .i64 0, .int .i64 0, .int .i64 0, .int .i64 0, .int .i64 0, .int .i64 0]) fun q18 =>
    bb (sameLits q17 q18) (some (.ret (.int .i64 0) M)) (some (.ret (.int .i64 2) M))) fun out => Run P T lo f out fun r => r = (.int .i64 (checkU u), M) := by
  refine Evp.some (key_u w) (Evp.some key_u0 ?_)
  refine Evp.bb (fun h => Evp.ret (Run.ret ?_)) fun h => Evp.ret (Run.ret ?_)
  · unfold checkU; rw [if_pos (.inr ((same_u0 u).1 h))]
  · unfold checkU
    rw [if_neg]
    rintro (e | e)
    · exact hno e
    · rw [(same_u0 u).2 e] at h; cases h
theorem wcheck_ok : Ac P T lo F.wiener_Check [.agg ⟨u.cells⟩] M fun r => r = (.int .i64 (checkU u), M) := by
  have yes : (u.on = true ∧ TapsP u.v ∧ TapsP u.h) → checkU u = 0 := fun h => by unfold checkU; rw [if_pos (.inl h)]
  refine Ac.of (Evp.of_eq (fun k => wiener_Check.entry k ..) ?_)
  refine Evp.bb (fun h1 => ?_) fun h1 => keys_end lo u M w fun e => by rw [e.1] at h1; cases h1
  refine Evp.ob (tapsMay_ok lo u.v M) ?_
  rintro _ rfl
  simp only [ret_int, ret_bool, ret_flt, ret_slc, ret_str, ret_ptr, ret_agg, ret_tup, ob_some, bb_true, bb_false, List.getElem?_cons_zero, List.getElem?_cons_succ, List.length_cons, List.length_nil, Nat.reduceAdd, Nat.reduceLT]
  refine Evp.dec (fun h2 => ?_) fun h2 => keys_end lo u M w fun e => h2 e.2.1
  refine Evp.ob (tapsMay_ok lo u.h M) ?_
  rintro _ rfl
  simp only [ret_int, ret_bool, ret_flt, ret_slc, ret_str, ret_ptr, ret_agg, ret_tup, ob_some, bb_true, bb_false, List.getElem?_cons_zero, List.getElem?_cons_succ, List.length_cons, List.length_nil, Nat.reduceAdd, Nat.reduceLT]
  refine Evp.dec (fun h3 => ?_) fun h3 => keys_end lo u M w fun e => h3 e.2.2
  exact Evp.ret (Run.ret (by rw [yes ⟨h1, h2, h3⟩]))
end
def cellsU (us : List Un) : List Value := us.flatMap Un.cells
theorem cellsU_get {us : List Un} {k j : Nat} (hk : k < us.length) (hj : j < 7) : (cellsU us)[k * 7 + j]? = (us.getD k u0).cells[j]? := by
  unfold cellsU
  induction us generalizing k with
  | nil => simp at hk
  | cons u r ih =>
    rw [List.flatMap_cons]
    cases k with
    | zero =>
      rw [Nat.zero_mul, Nat.zero_add, List.getElem?_append_left (by simp [Un.cells]; omega)]
      rfl
    | succ k =>
      rw [List.getElem?_append_right (by simp [Un.cells]; omega), show (k + 1) * 7 + j - u.cells.length = k * 7 + j by simp [Un.cells]; omega, ih (by simpa using hk)]
      rfl
def RdU (M : Mem) (A : Option Addr) (us : List Un) : Prop := Rd M A us.length 7 (cellsU us)
theorem RdU.pre {M M' : Mem} {A : Option Addr} {us : List Un} (h : RdU M A us) (hp : Pre M M') : RdU M' A us := Rd.pre h hp
theorem unit_ld {M : Mem} {A : Option Addr} {us : List Un} (h : RdU M A us) {k : Nat} (hk : k < us.length) : ∃ a, A = some a ∧ M.ld (plus a (k * 7)) = some (.bool (us.getD k u0).on) ∧ M.ld (plus (plus a (k * 7)) 1) = some (.int .i64 (us.getD k u0).v.a) ∧ M.ld (plus (plus a (k * 7)) 2) = some (.int .i64 (us.getD k u0).v.b) ∧
    M.ld (plus (plus a (k * 7)) 3) = some (.int .i64 (us.getD k u0).v.c) ∧ M.ld (plus (plus a (k * 7)) 4) = some (.int .i64 (us.getD k u0).h.a) ∧ M.ld (plus (plus a (k * 7)) 5) = some (.int .i64 (us.getD k u0).h.b) ∧ M.ld (plus (plus a (k * 7)) 6) = some (.int .i64 (us.getD k u0).h.c) := by
  obtain ⟨a, rfl, _, h0⟩ := Rd.get h (i := k * 7 + 0) (by omega)
  have g : ∀ j, j < 7 → M.ld (plus a (k * 7 + j)) = (us.getD k u0).cells[j]? := fun j hj => by
    obtain ⟨a', e, _, h1⟩ := Rd.get h (i := k * 7 + j) (by omega)
    injection e with e; subst e
    rw [h1, cellsU_get hk hj]
  simp only [plus_plus]
  exact ⟨a, rfl, by have := g 0 (by omega); rwa [Nat.add_zero] at this, g 1 (by omega), g 2 (by omega), g 3 (by omega), g 4 (by omega), g 5 (by omega), g 6 (by omega)⟩
theorem Evp.ldU {α : Type} {Q : α → Prop} {M : Mem} {A : Option Addr} {us : List Un} {k : Nat} {f : Nat → Addr → Bool → Int → Int → Int → Int → Int → Int → Option α} (h : RdU M A us) (hk : k < us.length)
    (hf : ∀ a, A = .some a → Evp (fun kk => f kk a (us.getD k u0).on (us.getD k u0).v.a (us.getD k u0).v.b (us.getD k u0).v.c (us.getD k u0).h.a (us.getD k u0).h.b (us.getD k u0).h.c) Q) :
    Evp (fun kk => Zt.ob A fun a => Zt.ob ((M.ld (plus a (k * 7))).bind Value.bool?) fun b => Zt.ob ((M.ld (plus (plus a (k * 7)) 1)).bind (Value.int? .i64)) fun x1 => Zt.ob ((M.ld (plus (plus a (k * 7)) 2)).bind (Value.int? .i64)) fun x2 => Zt.ob ((M.ld (plus (plus a (k * 7)) 3)).bind (Value.int? .i64)) fun x3 =>
      Zt.ob ((M.ld (plus (plus a (k * 7)) 4)).bind (Value.int? .i64)) fun x4 => Zt.ob ((M.ld (plus (plus a (k * 7)) 5)).bind (Value.int? .i64)) fun x5 => Zt.ob ((M.ld (plus (plus a (k * 7)) 6)).bind (Value.int? .i64)) fun x6 => f kk a b x1 x2 x3 x4 x5 x6) Q := by
  obtain ⟨a, rfl, h0, h1, h2, h3, h4, h5, h6⟩ := unit_ld h hk
  refine Evp.of_eq (fun kk => ?_) (hf a rfl)
  rw [ob_some, h0, h1, h2, h3, h4, h5, h6, ret_bool, ret_int, ret_int, ret_int, ret_int, ret_int, ret_int]
def TsB (ts : List Int) : Prop := ts.length = 7 ∧ ∀ k, -256 ≤ ts.getD k 0 ∧ ts.getD k 0 ≤ 256
theorem sev_TsB (t : Tp) : TsB (sevL t) := ⟨sevL_len t, fun k => by
  by_cases hk : k < (sevL t).length
  · exact sevL_le t _ (by rw [List.getD_eq_getElem?_getD, List.getElem?_eq_getElem hk]; exact List.getElem_mem hk)
  · rw [List.getD_eq_getElem?_getD, List.getElem?_eq_none (by omega)]; decide⟩
def cxS (w x i : Nat) : Nat := (clipS ((x : Int) + i - 3) 0 ((w : Int) - 1)).toNat
theorem cx_eq {w x i : Nat} (hw : 1 ≤ w) : clipS ((x : Int) + i - 3) 0 ((w : Int) - 1) = ((cxS w x i : Nat) : Int) ∧ cxS w x i < w := by
  have : 0 ≤ clipS ((x : Int) + i - 3) 0 ((w : Int) - 1) ∧ clipS ((x : Int) + i - 3) 0 ((w : Int) - 1) ≤ (w : Int) - 1 := by
    unfold clipS
    repeat' split
    all_goals omega
  unfold cxS; omega
def accS (ts xs : List Int) (w y x : Nat) : Nat → Int
  | 0 => 0
  | i + 1 => accS ts xs w y x i + ts.getD i 0 * xs.getD (y * w + cxS w x i) 0
theorem prod_le {a b : Int} (ha : -256 ≤ a ∧ a ≤ 256) (hb : 0 ≤ b ∧ b ≤ 255) : -65280 ≤ a * b ∧ a * b ≤ 65280 := by
  have := mul_abs (a := a) (b := b) (A := 256) (B := 255) (by omega) (by omega); omega
theorem accS_le {ts xs : List Int} (ht : TsB ts) (bx : Bytes xs) (w y x : Nat) : ∀ i : Nat, -(65280 * (i : Int)) ≤ accS ts xs w y x i ∧ accS ts xs w y x i ≤ 65280 * (i : Int)
  | 0 => by simp [accS]
  | i + 1 => by
    have h1 := accS_le ht bx w y x i
    have h2 := prod_le (ht.2 i) (bx.get (y * w + cxS w x i))
    simp only [accS]; omega
def acS (ts xs : List Int) (w y x : Nat) : Int := clipS ((accS ts xs w y x 7 + 4) / 8) (-4096) 8191
theorem acS_le (ts xs : List Int) (w y x : Nat) : -4096 ≤ acS ts xs w y x ∧ acS ts xs w y x ≤ 8191 := by
  unfold acS clipS
  repeat' split
  all_goals omega
def acL (ts xs : List Int) (w y from_ n : Nat) : List Int := (List.range n).map fun j => acS ts xs w y (from_ + j)
theorem round3 (lo : Nat) (v : Int) (M : Mem) (hv : -1000000000 ≤ v ∧ v ≤ 1000000000) : Ac P T lo F.wiener_round [.int .i64 v, .int .i64 3] M fun r => r = (.int .i64 ((v + 4) / 8), M) := by
  refine Ac.of (Evp.of_eq (fun k => wiener_round.entry k ..) ?_)
  refine Evp.neg (by decide) (Evp.neg (by decide) (Evp.ret (Run.ret ?_)))
  rw [show (IntKind.i64.wrap ((3 : Int) - 1)).toNat = 2 from by decide, shl_one 2 (by omega), show ((3 : Int)).toNat = 3 from rfl, show ((2 : Int) ^ 2) = 4 from rfl, w64 (by omega), shr_eq 3 (by omega)]; rfl
theorem round11 (lo : Nat) (v : Int) (M : Mem) (hv : -1000000000 ≤ v ∧ v ≤ 1000000000) : Ac P T lo F.wiener_round [.int .i64 v, .int .i64 11] M fun r => r = (.int .i64 ((v + 1024) / 2048), M) := by
  refine Ac.of (Evp.of_eq (fun k => wiener_round.entry k ..) ?_)
  refine Evp.neg (by decide) (Evp.neg (by decide) (Evp.ret (Run.ret ?_)))
  rw [show (IntKind.i64.wrap ((11 : Int) - 1)).toNat = 10 from by decide, shl_one 10 (by omega), show ((11 : Int)).toNat = 11 from rfl, show ((2 : Int) ^ 10) = 1024 from rfl, w64 (by omega), shr_eq 11 (by omega)]; rfl
theorem seven_get {a b c d e f g : Int} (i : Nat) (hi : i < 7) : (([.int .i64 a, .int .i64 b, .int .i64 c, .int .i64 d, .int .i64 e, .int .i64 f, .int .i64 g] : List Value)[i]?).bind (Value.int? .i64) = some (([a, b, c, d, e, f, g] : List Int).getD i 0) := tab_get [a, b, c, d, e, f, g] i hi
theorem pos_iN {i n : Nat} (h : i < n) : (0 : Int) ≤ (i : Int) ∧ (i : Int) < (n : Int) := ⟨by omega, by omega⟩
theorem row_lt {h w y c : Nat} (hy : y < h) (hc : c < w) : y * w + c < h * w := by
  have : (y + 1) * w ≤ h * w := Nat.mul_le_mul_right w (by omega)
  rw [Nat.add_mul, Nat.one_mul] at this
  omega
section
variable (lo : Nat) (A : Option Addr) (cap : Nat) (xs : List Int) (w h y : Nat) (a b c d e f g : Int) (M0 : Mem)
variable (hlo : lo ≤ M0.length) (hx : RdI M0 .u8 A xs) (bx : Bytes xs) (hw : 1 ≤ w ∧ w ≤ 512) (hh : h ≤ 512) (hn : xs.length = h * w) (hy : y < h) (ht : TsB [a, b, c, d, e, f, g]) (hcap : xs.length ≤ cap)
include bx hw hn hy ht in
theorem across_in (R : Option Addr) (cr from_ to : Nat) (hR : RdI M0 .u8 R ((xs.drop (y * w)).take w)) (B : Option Addr) (n cb : Nat) (x : Nat) (hx2 : x ≤ 1024) (M : Mem) (hp : Pre M0 M) {Q : Value × Mem → Prop}
    (hf : Evp (fun k => ob (M.app lo 1 8 ⟨B, n, cb⟩ [.int .i64 (acS [a, b, c, d, e, f, g] xs w y x)] 1) fun r39 => some (wiener_across.c244 to r39.1.a r39.1.n r39.1.c R w cr (IntKind.i64.wrap ((x : Int) + 1)) w h A xs.length cap a b c d e f g r39.2)) fun out => Run P T lo F.wiener_across out Q) : ∀ (q i : Nat), 7 - i = q → i ≤ 7 →
    Run P T lo F.wiener_across (wiener_across.c62612 to B n cb R w cr x (accS [a, b, c, d, e, f, g] xs w y x i) a b c d e f g i w h A xs.length cap a b c d e f g M) Q := by
  intro q
  induction q with
  | zero =>
    intro i hq hi
    obtain rfl : i = 7 := by omega
    have := accS_le ht bx w y x 7
    refine Run.cut (Evp.of_eq (fun k => wiener_across.p62612 k ..) ?_)
    refine Evp.ff rfl ?_
    refine Evp.ob (round3 _ _ _ (by omega)) ?_
    rintro _ rfl
    simp only [ret_int, ret_bool, ret_flt, ret_slc, ret_str, ret_ptr, ret_agg, ret_tup, ob_some, bb_true, bb_false, List.getElem?_cons_zero, List.getElem?_cons_succ, List.length_cons, List.length_nil, Nat.reduceAdd, Nat.reduceLT]
    refine Evp.ob (wclip_ok _ _ _ _ _ (by omega)) ?_
    rintro _ rfl
    simp only [ret_int, ret_bool, ret_flt, ret_slc, ret_str, ret_ptr, ret_agg, ret_tup, ob_some, bb_true, bb_false, List.getElem?_cons_zero, List.getElem?_cons_succ, List.length_cons, List.length_nil, Nat.reduceAdd, Nat.reduceLT]
    exact hf
  | succ q ih =>
    intro i hq hi
    have ha := accS_le ht bx w y x i
    have hp2 := prod_le (ht.2 i) (bx.get (y * w + cxS w x i))
    have bg := bx.get (y * w + cxS w x i)
    obtain ⟨e1, e2⟩ := cx_eq (w := w) (x := x) (i := i) hw.1
    have hlt := row_lt hy e2
    have lr : ((xs.drop (y * w)).take w).length = w := by
      have := row_lt (c := 0) hy hw.1
      have h2 : (y + 1) * w ≤ h * w := Nat.mul_le_mul_right w (by omega)
      rw [Nat.add_mul, Nat.one_mul] at h2
      rw [List.length_take, List.length_drop]; omega
    have gr : ((xs.drop (y * w)).take w).getD (cxS w x i) 0 = xs.getD (y * w + cxS w x i) 0 := by
      simp only [List.getD_eq_getElem?_getD, List.getElem?_take, if_pos e2, List.getElem?_drop]
    refine Run.cut (Evp.of_eq (fun k => wiener_across.p62612 k ..) ?_)
    refine Evp.dec (fun _ => ?_) fun h => absurd h (by omega)
    refine Evp.pos (by omega) ?_
    simp only [Int.toNat_natCast, Nat.add_zero]
    refine Evp.some (seven_get i (by omega)) ?_
    rw [w64 (x := (x : Int) + i) (by omega), w64 (x := (x : Int) + i - 3) (by omega), w64 (x := (w : Int) - 1) (by omega)]
    refine Evp.ob (wclip_ok _ _ _ _ _ (by omega)) ?_
    rintro _ rfl
    simp only [ret_int, ret_bool, ret_flt, ret_slc, ret_str, ret_ptr, ret_agg, ret_tup, ob_some, bb_true, bb_false, List.getElem?_cons_zero, List.getElem?_cons_succ, List.length_cons, List.length_nil, Nat.reduceAdd, Nat.reduceLT]
    rw [e1]
    refine Evp.pos (pos_iN (by omega)) ?_
    simp only [Int.toNat_natCast]
    refine Evp.ldI (hR.pre hp) (by omega) fun _ _ => ?_
    rw [gr, w64 (x := xs.getD (y * w + cxS w x i) 0) (by omega), w64 (x := _ * _) (by omega), w64 (x := _ + _ * _) (by omega), w64 (x := (i : Int) + 1) (by omega)]
    exact Evp.ret (ih (i + 1) (by omega) (by omega))
include hlo bx hw hn hy ht in
theorem across_loop (R : Option Addr) (cr from_ to : Nat) (hft : from_ ≤ to) (hto : to ≤ 1024) (hR : RdI M0 .u8 R ((xs.drop (y * w)).take w)) : ∀ (q i : Nat) (B : Option Addr) (cb : Nat) (M : Mem), to - from_ - i = q → i ≤ to - from_ → Pre M0 M → Grow M0 M 1 B i (((acL [a, b, c, d, e, f, g] xs w y from_ i)).map (Value.int .i64)) →
    Run P T lo F.wiener_across (wiener_across.c244 to B i cb R w cr ((from_ + i : Nat) : Int) w h A xs.length cap a b c d e f g M) fun r => ∃ B' cb' M', r = (.slice B' (to - from_) cb', M') ∧ Pre M0 M' ∧ RdI M' .i64 B' (acL [a, b, c, d, e, f, g] xs w y from_ (to - from_)) ∧ ∀ z, B' = some z → M0.length ≤ z.block := by
  intro q
  induction q with
  | zero =>
    intro i B cb M hq hi hp hg
    obtain rfl : i = to - from_ := by omega
    refine Run.cut (Evp.of_eq (fun k => wiener_across.p244 k ..) ?_)
    refine Evp.dec (fun h => absurd h (by omega)) fun _ => ?_
    refine Evp.ret (Run.ret ⟨B, cb, M, rfl, hp, ?_, fun z hz => ?_⟩)
    rotate_left
    · rcases hg.at_ with ⟨e, _⟩ | ⟨b', e, hb', _⟩
      · rw [e] at hz; cases hz
      · rw [e] at hz; injection hz with hz; subst hz; exact hb'
    have := hg.rd
    unfold RdI
    rw [show (acL [a, b, c, d, e, f, g] xs w y from_ (to - from_)).length = to - from_ by simp [acL]]
    exact this
  | succ q ih =>
    intro i B cb M hq hi hp hg
    refine Run.cut (Evp.of_eq (fun k => wiener_across.p244 k ..) ?_)
    refine Evp.dec (fun _ => ?_) fun h => absurd h (by omega)
    refine Evp.ret ?_
    refine across_in lo A cap xs w h y a b c d e f g M0 bx hw hn hy ht R cr from_ to hR B i cb (from_ + i) (by omega) M hp ?_ 7 0 rfl (by omega)
    obtain ⟨s, M', h1, h2, h3, h4, _, _⟩ := hg.app (lo := lo) (bytes := 8) (c := cb) (m := 1) (vs := [.int .i64 (acS [a, b, c, d, e, f, g] xs w y (from_ + i))]) hp hlo (by simp) (by omega) (by omega)
    refine Evp.some h1 (Evp.ret ?_)
    have e2 : (acL [a, b, c, d, e, f, g] xs w y from_ i).map (Value.int .i64) ++ [.int .i64 (acS [a, b, c, d, e, f, g] xs w y (from_ + i))] = (acL [a, b, c, d, e, f, g] xs w y from_ (i + 1)).map (Value.int .i64) := by
      unfold acL; rw [List.range_succ, List.map_append, List.map_append]; rfl
    rw [h3, e2] at h2
    rw [h3, w64 (by omega)]
    have := ih (i + 1) s.a s.c M' (by omega) (by omega) h4 h2
    exact this
include hlo hx bx hw hn hy ht hh hcap in
theorem across_ok (from_ to : Nat) (hft : from_ ≤ to) (hto : to ≤ 1024) : Ac P T lo F.wiener_across [.agg ⟨[.int .i64 w, .int .i64 h, .slice A xs.length cap]⟩, .int .i64 y, .agg ⟨[.int .i64 a, .int .i64 b, .int .i64 c, .int .i64 d, .int .i64 e, .int .i64 f, .int .i64 g]⟩, .int .i64 (from_ : Nat), .int .i64 (to : Nat)] M0 fun r =>
    ∃ B' cb' M', r = (.slice B' (to - from_) cb', M') ∧ Pre M0 M' ∧ RdI M' .i64 B' (acL [a, b, c, d, e, f, g] xs w y from_ (to - from_)) ∧ ∀ z, B' = some z → M0.length ≤ z.block := by
  have h2 : (y + 1) * w ≤ h * w := Nat.mul_le_mul_right w (by omega)
  have sm : h * w ≤ 512 * 512 := Nat.mul_le_mul hh hw.2
  have e3 : (y + 1) * w = y * w + w := by rw [Nat.add_mul, Nat.one_mul]
  refine Ac.of (Evp.of_eq (fun k => wiener_across.entry k ..) ?_)
  rw [w64 (x := (to : Int) - from_) (by omega), ← Int.natCast_mul, w64 (x := ((y * w : Nat) : Int)) (by omega), w64 (x := (y : Int) + 1) (by omega), show ((y : Int) + 1) * (w : Int) = (((y + 1) * w : Nat) : Int) by rw [Int.natCast_mul]; rfl, w64 (x := (((y + 1) * w : Nat) : Int)) (by omega)]
  refine Evp.pos ⟨by omega, by show _ * 8 ≤ _; omega⟩ (Evp.pos ⟨by omega, by omega, by omega⟩ ?_)
  simp only [Int.toNat_natCast]
  have hR := hx.slAddr (l := y * w) (h := (y + 1) * w) (c := cap) (by omega) (by omega) hcap
  rw [show (y + 1) * w - y * w = w by omega] at hR ⊢
  have p1 := Pre.app M0 [⟨.op 1, []⟩]
  refine Evp.ret ?_
  have := across_loop lo A cap xs w h y a b c d e f g M0 hlo bx hw hn hy ht (slAddr 1 A (y * w) cap) (cap - y * w) from_ to hft hto hR _ 0 (some ⟨M0.length, 0, some 0⟩) 0 (M0 ++ [⟨.op 1, []⟩]) rfl (by omega) p1 ⟨by simp [acL], .inr ⟨M0.length, rfl, Nat.le_refl _, by simp [acL]⟩⟩
  exact this
end
def SideP (side : Nat) : Prop := side = 64 ∨ side = 32
def fstS (side y : Nat) : Int := (((y + side / 8) / side * side : Nat) : Int) - ((side / 8 : Nat) : Int)
def rowI (h side y i : Nat) : Int := clipS (clipS ((y : Int) + i - 3) 0 ((h : Int) - 1)) (fstS side y - 2) (fstS side y + side + 1)
def rowN (h side y i : Nat) : Nat := (rowI h side y i).toNat
theorem fst_le {side y : Nat} (hs : SideP side) : fstS side y ≤ y ∧ (y : Int) < fstS side y + side ∧ -8 ≤ fstS side y := by
  unfold fstS
  rcases hs with rfl | rfl <;> omega
theorem row_le {h side y i : Nat} (hs : SideP side) (hy : y < h) (hi : i < 7) : rowI h side y i = ((rowN h side y i : Nat) : Int) ∧ rowN h side y i < h := by
  have f := fst_le (y := y) hs
  have hs' : side = 64 ∨ side = 32 := hs
  have : 0 ≤ rowI h side y i ∧ rowI h side y i < h := by
    unfold rowI clipS
    generalize fstS side y = F at *
    repeat' split
    all_goals omega
  unfold rowN; omega
def inS (h side y i : Nat) : Prop := fstS side y ≤ rowI h side y i ∧ rowI h side y i < fstS side y + side
instance (h side y i : Nat) : Decidable (inS h side y i) := inferInstanceAs (Decidable (_ ∧ _))
def tapR (hts xs bs : List Int) (w h side y x i : Nat) : Int := if inS h side y i then acS hts xs w (rowN h side y i) x else acS hts bs w (rowN h side y i) x
theorem tapR_le (hts xs bs : List Int) (w h side y x i : Nat) : -4096 ≤ tapR hts xs bs w h side y x i ∧ tapR hts xs bs w h side y x i ≤ 8191 := by
  unfold tapR; split <;> exact acS_le ..
def vacc (vts hts xs bs : List Int) (w h side y x : Nat) : Nat → Int
  | 0 => 0
  | i + 1 => vacc vts hts xs bs w h side y x i + vts.getD i 0 * tapR hts xs bs w h side y x i
theorem vprod_le {a b : Int} (ha : -256 ≤ a ∧ a ≤ 256) (hb : -4096 ≤ b ∧ b ≤ 8191) : -2097152 ≤ a * b ∧ a * b ≤ 2097152 := by
  have := mul_abs (a := a) (b := b) (A := 256) (B := 8192) (by omega) (by omega); omega
theorem vacc_le {vts : List Int} (hv : TsB vts) (hts xs bs : List Int) (w h side y x : Nat) : ∀ i : Nat, -(2097152 * (i : Int)) ≤ vacc vts hts xs bs w h side y x i ∧ vacc vts hts xs bs w h side y x i ≤ 2097152 * (i : Int)
  | 0 => by simp [vacc]
  | i + 1 => by
    have h1 := vacc_le hv hts xs bs w h side y x i
    have h2 := vprod_le (hv.2 i) (tapR_le hts xs bs w h side y x i)
    simp only [vacc]; omega
def sampW (vts hts xs bs : List Int) (w h side y x : Nat) : Int := clipS ((vacc vts hts xs bs w h side y x 7 + 1024) / 2048) 0 255
theorem sampW_le (vts hts xs bs : List Int) (w h side y x : Nat) : 0 ≤ sampW vts hts xs bs w h side y x ∧ sampW vts hts xs bs w h side y x ≤ 255 := by
  unfold sampW clipS
  repeat' split
  all_goals omega
def sampU (u : Un) (xs bs : List Int) (w h side y x : Nat) : Int := sampW (sevL u.v) (sevL u.h) xs bs w h side y x
theorem side_eq {side : Nat} (hs : SideP side) (y : Nat) (hy : y ≤ 1024) :
    IntKind.i64.wrap ((IntKind.i64.wrap ((IntKind.i64.wrap (Int.tdiv (IntKind.i64.wrap ((y : Int) + (IntKind.i64.wrap (Int.tdiv (side : Int) 8)))) (side : Int))) * (side : Int))) - (IntKind.i64.wrap (Int.tdiv (side : Int) 8))) = fstS side y ∧
    IntKind.i64.wrap (fstS side y + side) = fstS side y + side := by
  have f := fst_le (y := y) hs
  have hs' := hs
  unfold SideP at hs'
  refine ⟨?_, w64 (by omega)⟩
  unfold fstS at *
  have e1 : Int.tdiv (side : Int) 8 = ((side / 8 : Nat) : Int) := rfl
  rw [e1, w64 (x := ((side / 8 : Nat) : Int)) (by omega), ← Int.natCast_add, w64 (x := ((y + side / 8 : Nat) : Int)) (by omega), show Int.tdiv ((y + side / 8 : Nat) : Int) (side : Int) = (((y + side / 8) / side : Nat) : Int) from rfl]
  have q : (y + side / 8) / side ≤ 1032 := Nat.le_trans (Nat.div_le_self _ _) (by omega)
  generalize (y + side / 8) / side = k at *
  rw [w64 (x := ((k : Nat) : Int)) (by omega), ← Int.natCast_mul]
  have : k * side ≤ 1032 * 64 := Nat.mul_le_mul q (by omega)
  rw [w64 (x := ((k * side : Nat) : Int)) (by omega), w64 (by omega)]
def wideN (w side : Nat) : Nat := (w + side - 1) / side
noncomputable def tgtW (us : List Un) (xs bs : List Int) (w h side p : Nat) : Int :=
  if (us.getD (p / w / side * wideN w side + p % w / side) u0).on = true then sampU (us.getD (p / w / side * wideN w side + p % w / side) u0) xs bs w h side (p / w) (p % w) else xs.getD p 0
noncomputable def outW (us : List Un) (xs bs : List Int) (w h side : Nat) : List Int := (List.range (h * w)).map fun p => tgtW us xs bs w h side p
def PlaneOk (us : List Un) (w h n w' h' n' side : Int) : Prop := checkS w h n = 0 ∧ checkS w' h' n' = 0 ∧ w = w' ∧ h = h' ∧ (side = 64 ∨ side = 32) ∧ us.length = wideN w.toNat side.toNat * wideN h.toNat side.toNat ∧ ∀ u ∈ us, UnitP u
noncomputable instance (us : List Un) (w h n w' h' n' side : Int) : Decidable (PlaneOk us w h n w' h' n' side) := Classical.propDecidable _
def PlaneR (M : Mem) (us : List Un) (w h w' h' side : Int) (xs bs : List Int) (r : Value × Mem) : Prop :=
  Pre M r.2 ∧ if PlaneOk us w h xs.length w' h' bs.length side then ∃ a cc, r.1 = .tuple ⟨[.agg ⟨[.int .i64 w, .int .i64 h, .slice (some a) xs.length cc]⟩, .int .i64 0]⟩ ∧ xs.length ≤ cc ∧ Buf M r.2 a ((outW us xs bs w.toNat h.toNat side.toNat).map (Value.int .u8))
    else r.1 = .tuple ⟨[.agg ⟨[.int .i64 0, .int .i64 0, .slice none 0 0]⟩, .int .i64 2]⟩
theorem tgtW_le {us : List Un} {xs bs : List Int} {w h side p : Nat} (bx : Bytes xs) : 0 ≤ tgtW us xs bs w h side p ∧ tgtW us xs bs w h side p ≤ 255 := by
  unfold tgtW; split
  · exact sampW_le ..
  · exact bx.get p
theorem outW_len (us : List Un) (xs bs : List Int) (w h side : Nat) : (outW us xs bs w h side).length = h * w := by simp [outW]
theorem outW_bytes {us : List Un} {xs bs : List Int} {w h side : Nat} (bx : Bytes xs) : Bytes (outW us xs bs w h side) := fun z hz => by
  unfold outW at hz
  obtain ⟨p, _, rfl⟩ := List.mem_map.1 hz
  exact tgtW_le bx
def InvW (us : List Un) (xs bs : List Int) (w h side m : Nat) (zs : List Int) : Prop := zs.length = h * w ∧ ∀ p, p < h * w → zs.getD p 0 = if p < m then tgtW us xs bs w h side p else xs.getD p 0
section
variable {us : List Un} {xs bs : List Int} {w h side m : Nat} {zs : List Int}
theorem InvW.skip (hi : InvW us xs bs w h side m zs) {m' : Nat} (h1 : m ≤ m') (h2 : ∀ p, m ≤ p → p < m' → p < h * w → tgtW us xs bs w h side p = xs.getD p 0) : InvW us xs bs w h side m' zs := by
  refine ⟨hi.1, fun p hp => ?_⟩
  rw [hi.2 p hp]
  by_cases g : p < m
  · rw [if_pos g, if_pos (by omega)]
  · rw [if_neg g]
    by_cases g' : p < m'
    · rw [if_pos g', h2 p (by omega) g' hp]
    · rw [if_neg g']
theorem InvW.set (hi : InvW us xs bs w h side m zs) (hm : m < h * w) : InvW us xs bs w h side (m + 1) (zs.set m (tgtW us xs bs w h side m)) := by
  refine ⟨by simpa using hi.1, fun p hp => ?_⟩
  rw [getD_set (by rw [hi.1]; exact hm)]
  by_cases e : p = m
  · rw [if_pos e, e, if_pos (by omega)]
  · rw [if_neg e, hi.2 p hp]
    by_cases g : p < m
    · rw [if_pos g, if_pos (by omega)]
    · rw [if_neg g, if_neg (by omega)]
theorem InvW.full (hi : InvW us xs bs w h side m zs) (hm : h * w ≤ m) : zs = outW us xs bs w h side := ext_getD (by rw [hi.1, outW_len]) fun p hp => by
  rw [hi.1] at hp
  rw [hi.2 p hp, if_pos (by omega)]
  unfold outW
  exact (getD_map_range hp).symm
theorem InvW.start (hl : xs.length = h * w) : InvW us xs bs w h side 0 xs := ⟨hl, fun p _ => by rw [if_neg (by omega)]⟩
end
theorem dmw {q r W : Nat} (h : r < W) : (q * W + r) / W = q ∧ (q * W + r) % W = r := by
  rw [Nat.add_comm]
  exact ⟨by rw [Nat.add_mul_div_right r q (by omega), Nat.div_eq_of_lt h, Nat.zero_add], by rw [Nat.add_mul_mod_self_right, Nat.mod_eq_of_lt h]⟩
theorem tgt_at {us : List Un} {xs bs : List Int} {w h side y x : Nat} (hx : x < w) : tgtW us xs bs w h side (y * w + x) = if (us.getD (y / side * wideN w side + x / side) u0).on = true then sampU (us.getD (y / side * wideN w side + x / side) u0) xs bs w h side y x else xs.getD (y * w + x) 0 := by
  obtain ⟨d1, d2⟩ := dmw (q := y) hx
  unfold tgtW
  rw [d1, d2]
theorem div_wide {x w side : Nat} (hs : SideP side) (hx : x < w) : x / side < wideN w side := by
  unfold wideN
  rcases hs with rfl | rfl <;> omega
theorem wide_eq {n side : Nat} (hs : SideP side) (hn : 1 ≤ n ∧ n ≤ 512) : IntKind.i64.wrap (Int.tdiv (IntKind.i64.wrap ((IntKind.i64.wrap ((n : Int) + side)) - 1)) (side : Int)) = ((wideN n side : Nat) : Int) ∧ 1 ≤ wideN n side ∧ wideN n side ≤ 16 := by
  have hs' : side = 64 ∨ side = 32 := hs
  rw [w64 (x := (n : Int) + side) (by omega), w64 (x := (n : Int) + side - 1) (by omega), show (n : Int) + side - 1 = ((n + side - 1 : Nat) : Int) by omega, show Int.tdiv ((n + side - 1 : Nat) : Int) (side : Int) = (((n + side - 1) / side : Nat) : Int) from rfl]
  have : 1 ≤ (n + side - 1) / side ∧ (n + side - 1) / side ≤ 16 := by rcases hs' with rfl | rfl <;> omega
  unfold wideN
  generalize (n + side - 1) / side = q at *
  exact ⟨w64 (by omega), this⟩
theorem un_get {us : List Un} {i : Nat} (hi : i < us.length) : us.getD i u0 ∈ us := by
  rw [List.getD_eq_getElem?_getD, List.getElem?_eq_getElem hi]; exact List.getElem_mem hi
theorem bad_ok (lo : Nat) (u : Un) (M : Mem) (w : u.wf) : Ac P T lo F.wiener_Plane_1 [.agg ⟨u.cells⟩] M fun r => r = (.bool (checkU u != 0), M) := by
  refine Ac.of (Evp.of_eq (fun k => wiener_Plane_1.entry k ..) ?_)
  refine Evp.ob (wcheck_ok lo u M w) ?_
  rintro _ rfl
  simp only [ret_int, ret_bool, ret_flt, ret_slc, ret_str, ret_ptr, ret_agg, ret_tup, ob_some, bb_true, bb_false, List.getElem?_cons_zero, List.getElem?_cons_succ, List.length_cons, List.length_nil, Nat.reduceAdd, Nat.reduceLT]
  exact Evp.ret (Run.ret rfl)
section
variable (lo : Nat) (AU : Option Addr) (cu : Nat) (us : List Un) (M : Mem) (hU : RdU M AU us) (hwf : ∀ u ∈ us, u.wf) (hul : us.length ≤ 140737488351232)
include hU hwf hul
theorem index_loop : ∀ (q i : Nat), us.length - i = q → i ≤ us.length → (∀ j, j < i → UnitP (us.getD j u0)) → Run P T lo F.slices_IndexFunc__api_Unit_api_Unit (slices_IndexFunc__api_Unit_api_Unit.c52 AU us.length cu (.func (.func F.wiener_Plane_1) ⟨[]⟩ ⟨[]⟩) us.length i M) fun r => ∃ z : Int, r = (.int .i64 z, M) ∧ (z ≥ 0 ↔ ∃ u ∈ us, ¬ UnitP u) := by
  intro q
  induction q with
  | zero =>
    intro i hq hi hj
    refine Run.cut (Evp.of_eq (fun k => slices_IndexFunc__api_Unit_api_Unit.p52 k ..) ?_)
    refine Evp.dec (fun h => absurd h (by omega)) fun _ => ?_
    refine Evp.ret (Run.ret ⟨-1, rfl, ⟨fun e => absurd e (by decide), ?_⟩⟩)
    rintro ⟨u, hu, hn⟩
    obtain ⟨j, hj', rfl⟩ := List.mem_iff_getElem.1 hu
    have := hj j (by omega)
    rw [List.getD_eq_getElem?_getD, List.getElem?_eq_getElem hj'] at this
    exact absurd this hn
  | succ q ih =>
    intro i hq hi hj
    refine Run.cut (Evp.of_eq (fun k => slices_IndexFunc__api_Unit_api_Unit.p52 k ..) ?_)
    refine Evp.dec (fun _ => ?_) fun h => absurd h (by omega)
    refine Evp.pos (by omega) ?_
    simp only [Int.toNat_natCast]
    refine Evp.ldU hU (by omega) fun _ _ => ?_
    refine Evp.some (b := (F.wiener_Plane_1, [], [])) rfl ?_
    refine Evp.ob (bad_ok lo (us.getD i u0) M (hwf _ (un_get (by omega)))) ?_
    rintro _ rfl
    simp only [ret_int, ret_bool, ret_flt, ret_slc, ret_str, ret_ptr, ret_agg, ret_tup, ob_some, bb_true, bb_false, List.getElem?_cons_zero, List.getElem?_cons_succ, List.length_cons, List.length_nil, Nat.reduceAdd, Nat.reduceLT]
    refine Evp.neb (fun g => Evp.ret (Run.ret ⟨_, rfl, ⟨fun _ => ⟨_, un_get (show i < us.length by omega), fun hp => g (by unfold checkU; rw [if_pos hp])⟩, fun _ => by omega⟩⟩)) fun g => ?_
    rw [w64 (by omega)]
    refine Evp.ret (ih (i + 1) (by omega) (by omega) fun j hj' => ?_)
    by_cases hji : j = i
    · rw [hji]
      unfold checkU at g
      by_cases hp : UnitP (us.getD i u0)
      · exact hp
      · rw [if_neg hp] at g; exact absurd g (by decide)
    · exact hj j (by omega)
theorem containsU_ok : Ac P T lo F.slices_ContainsFunc__api_Unit_api_Unit [.slice AU us.length cu, .func (.func F.wiener_Plane_1) ⟨[]⟩ ⟨[]⟩] M fun r => ∃ b : Bool, r = (.bool b, M) ∧ (b = true ↔ ∃ u ∈ us, ¬ UnitP u) := by
  refine Ac.of (Evp.of_eq (fun k => slices_ContainsFunc__api_Unit_api_Unit.entry k ..) ?_)
  have idx : Ac P T lo F.slices_IndexFunc__api_Unit_api_Unit [.slice AU us.length cu, .func (.func F.wiener_Plane_1) ⟨[]⟩ ⟨[]⟩] M fun r => ∃ z : Int, r = (.int .i64 z, M) ∧ (z ≥ 0 ↔ ∃ u ∈ us, ¬ UnitP u) := by
    refine Ac.of (Evp.of_eq (fun k => slices_IndexFunc__api_Unit_api_Unit.entry k ..) ?_)
    exact Evp.ret (index_loop lo AU cu us M hU hwf hul _ 0 rfl (by omega) fun j hj => absurd hj (by omega))
  refine Evp.ob idx ?_
  rintro _ ⟨z, rfl, hz⟩
  simp only [ret_int, ret_bool, ret_flt, ret_slc, ret_str, ret_ptr, ret_agg, ret_tup, ob_some, bb_true, bb_false, List.getElem?_cons_zero, List.getElem?_cons_succ, List.length_cons, List.length_nil, Nat.reduceAdd, Nat.reduceLT]
  exact Evp.ret (Run.ret ⟨_, rfl, by rw [decide_eq_true_iff]; exact hz⟩)
end
structure Wc where
  (AU A B : Option Addr) (cu cap capb : Nat) (us : List Un) (xs bs : List Int) (w h side : Nat) (ar ao : Addr) (co : Nat)
def Wc.wide (c : Wc) : Nat := wideN c.w c.side
structure Wok (c : Wc) (lo : Nat) (M0 : Mem) : Prop where
  hlo : lo ≤ M0.length
  hU : RdU M0 c.AU c.us
  hx : RdI M0 .u8 c.A c.xs
  hb : RdI M0 .u8 c.B c.bs
  bx : Bytes c.xs
  bb : Bytes c.bs
  hw : 1 ≤ c.w ∧ c.w ≤ 512
  hh : 1 ≤ c.h ∧ c.h ≤ 512
  hn : c.xs.length = c.h * c.w
  hnb : c.bs.length = c.h * c.w
  hs : SideP c.side
  hul : c.us.length = wideN c.w c.side * wideN c.h c.side
  hcap : c.xs.length ≤ c.cap
  hcapb : c.bs.length ≤ c.capb
  hco : c.xs.length ≤ c.co
  hne : c.ao.block ≠ c.ar.block
abbrev cRow (c : Wc) (y : Nat) (M : Mem) : Out := wiener_Plane.c7156 c.AU c.us.length c.cu c.side (c.wide : Nat) (some c.ar) c.side c.side c.h y c.w c.h c.A c.xs.length c.cap c.w c.h c.B c.bs.length c.capb 0 0 none 0 0 c.w c.h (some c.ao) c.xs.length c.co M
abbrev cEnd (c : Wc) (y : Nat) (M : Mem) : Out := wiener_Plane.c57255 c.AU c.us.length c.cu c.side (c.wide : Nat) (some c.ar) c.side c.side c.h y c.w c.h c.A c.xs.length c.cap c.w c.h c.B c.bs.length c.capb 0 0 none 0 0 c.w c.h (some c.ao) c.xs.length c.co M
abbrev cUnit (c : Wc) (y k : Nat) (M : Mem) : Out := wiener_Plane.c3664284 c.AU c.us.length c.cu c.side (c.wide : Nat) (some c.ar) c.side c.side y c.h y (c.wide : Nat) k c.w c.h c.A c.xs.length c.cap c.w c.h c.B c.bs.length c.capb 0 0 none 0 0 c.w c.h (some c.ao) c.xs.length c.co (fstS c.side y) (fstS c.side y + c.side) M
abbrev cNext (c : Wc) (y k : Nat) (M : Mem) : Out := wiener_Plane.c29314279 c.AU c.us.length c.cu c.side (c.wide : Nat) (some c.ar) c.side c.side y c.h y (c.wide : Nat) k c.w c.h c.A c.xs.length c.cap c.w c.h c.B c.bs.length c.capb 0 0 none 0 0 c.w c.h (some c.ao) c.xs.length c.co (fstS c.side y) (fstS c.side y + c.side) M
abbrev cTap (c : Wc) (y k f t : Nat) (v0 v1 v2 v3 v4 v5 v6 h0 h1 h2 h3 h4 h5 h6 : Int) (i : Nat) (M : Mem) : Out :=
  wiener_Plane.c240142569460 c.AU c.us.length c.cu c.side (c.wide : Nat) (some c.ar) c.side c.side y f t (some c.ar) (t - f) c.side c.h y (c.wide : Nat) k v0 v1 v2 v3 v4 v5 v6 i c.w c.h c.A c.xs.length c.cap c.w c.h c.B c.bs.length c.capb 0 0 none 0 0 c.w c.h (some c.ao) c.xs.length c.co (fstS c.side y) (fstS c.side y + c.side) h0 h1 h2 h3 h4 h5 h6 M
abbrev cAdd (c : Wc) (y k f t : Nat) (vi : Int) (v0 v1 v2 v3 v4 v5 v6 h0 h1 h2 h3 h4 h5 h6 : Int) (i : Nat) (S : Option Addr) (cs j : Nat) (M : Mem) : Out :=
  wiener_Plane.c245905991127868 c.AU c.us.length c.cu c.side (c.wide : Nat) (some c.ar) c.side c.side y f t (some c.ar) (t - f) c.side vi c.h y (c.wide : Nat) k v0 v1 v2 v3 v4 v5 v6 i S (t - f) cs ((t - f : Nat) : Int) j c.w c.h c.A c.xs.length c.cap c.w c.h c.B c.bs.length c.capb 0 0 none 0 0 c.w c.h (some c.ao) c.xs.length c.co (fstS c.side y) (fstS c.side y + c.side) h0 h1 h2 h3 h4 h5 h6 M
abbrev cPut (c : Wc) (y k f t j : Nat) (M : Mem) : Out :=
  wiener_Plane.c240142569468 c.AU c.us.length c.cu c.side (c.wide : Nat) (some c.ar) c.side c.side y f c.h y (c.wide : Nat) k (some c.ar) (t - f) c.side ((t - f : Nat) : Int) j c.w c.h c.A c.xs.length c.cap c.w c.h c.B c.bs.length c.capb 0 0 none 0 0 c.w c.h (some c.ao) c.xs.length c.co (fstS c.side y) (fstS c.side y + c.side) M
section
variable {c : Wc} {lo : Nat} {M0 : Mem} (o : Wok c lo M0) {Q : Value × Mem → Prop}
include o
structure St2 (c : Wc) (M0 M : Mem) (zs rs : List Int) : Prop where
  pre : Pre M0 M
  out : Buf M0 M c.ao (zs.map (Value.int .u8))
  room : Buf M0 M c.ar (rs.map (Value.int .i64))
  len : rs.length = c.side
theorem add_loop (y k f t : Nat) (ht : t - f ≤ c.side) (vi : Int) (v0 v1 v2 v3 v4 v5 v6 h0 h1 h2 h3 h4 h5 h6 : Int) (i : Nat) (S : Option Addr) (cs : Nat) (av : List Int) (hal : av.length = t - f) (zs : List Int) (G : Nat → Int)
    (hb : ∀ j, j < t - f → -100000000 ≤ G j ∧ G j ≤ 100000000 ∧ -2097152 ≤ vi * av.getD j 0 ∧ vi * av.getD j 0 ≤ 2097152)
    (hnext : ∀ rs M, St2 c M0 M zs rs → (∀ j, j < t - f → rs.getD j 0 = G j + vi * av.getD j 0) → Run P T lo F.wiener_Plane (cTap c y k f t v0 v1 v2 v3 v4 v5 v6 h0 h1 h2 h3 h4 h5 h6 (i + 1) M) Q) (hi7 : i < 7) (M1 : Mem) (hS : RdI M1 .i64 S av) (hp1 : Pre M0 M1) (hSb : ∀ a, S = some a → av ≠ [] → a.block ≠ c.ar.block) :
    ∀ (q j : Nat) (rs : List Int) (M : Mem), t - f - j = q → j ≤ t - f → St2 c M0 M zs rs → (∀ p, p < t - f → rs.getD p 0 = if p < j then G p + vi * av.getD p 0 else G p) → (∀ (b : Nat) (x : Blk), M1[b]? = some x → b ≠ c.ar.block → M[b]? = some x) →
      Run P T lo F.wiener_Plane (cAdd c y k f t vi v0 v1 v2 v3 v4 v5 v6 h0 h1 h2 h3 h4 h5 h6 i S cs j M) Q := by
  have hs' : c.side = 64 ∨ c.side = 32 := o.hs
  intro q
  induction q with
  | zero =>
    intro j rs M hq hj st hr hk
    obtain rfl : j = t - f := by omega
    refine Run.cut (Evp.of_eq (fun k => wiener_Plane.p245905991127868 k ..) ?_)
    refine Evp.dec (fun h => absurd h (by omega)) fun _ => ?_
    rw [w64 (by omega)]
    exact Evp.ret (hnext rs M st fun p hp => by rw [hr p hp, if_pos hp])
  | succ q ih =>
    intro j rs M hq hj st hr hk
    have hS' : RdI M .i64 S av := by
      by_cases he : av = []
      · rw [he] at hal; simp at hal; omega
      · refine Rd.keep (A' := some c.ar) hS (fun b x hx hne => hk b x hx fun e => hne c.ar rfl e.symm) fun a a' ha ha' => ?_
        injection ha' with ha'; subst ha'
        exact fun e => hSb a ha he e.symm
    have hg := hb j (by omega)
    have er := hr j (by omega)
    rw [if_neg (by omega)] at er
    have ln := st.len
    refine Run.cut (Evp.of_eq (fun k => wiener_Plane.p245905991127868 k ..) ?_)
    refine Evp.dec (fun _ => ?_) fun h => absurd h (by omega)
    refine Evp.pos (by omega) ?_
    simp only [Int.toNat_natCast]
    refine Evp.ldI hS' (by omega) fun _ _ => ?_
    refine Evp.pos (by omega) (Evp.ldI st.room.rdI (by omega) fun _ _ => ?_)
    refine Evp.pos (by omega) (Evp.some rfl ?_)
    rw [er, w64 (x := vi * av.getD j 0) (by omega), w64 (x := G j + vi * av.getD j 0) (by omega)]
    obtain ⟨M', g1, g2, g3, g4, g5⟩ := st.room.st (lo := lo) (i := j) (vs := [.int .i64 (G j + vi * av.getD j 0)]) st.pre o.hlo (by simp; omega)
    refine Evp.some g1 ?_
    rw [setL_one, set_map] at g2
    rw [w64 (by omega)]
    refine Evp.ret (ih (j + 1) _ M' (by omega) (by omega) ⟨g3, st.out.keep g4 (fun a ha => by injection ha with ha; subst ha; exact fun e => o.hne e.symm), g2, by simpa using ln⟩ (fun p hp => ?_) fun b x hx hne => g4 b x (hk b x hx hne) fun a ha => by injection ha with ha; subst ha; exact fun e => hne e.symm)
    rw [getD_set (by omega)]
    by_cases e : p = j
    · rw [if_pos e, e, if_pos (by omega)]
    · rw [if_neg e, hr p hp]
      by_cases g : p < j
      · rw [if_pos g, if_pos (by omega)]
      · rw [if_neg g, if_neg (by omega)]
theorem put_loop (y k f t : Nat) (hy : y < c.h) (hft : f ≤ t) (ht2 : t - f ≤ c.side) (htw : t ≤ c.w) (rs : List Int) (hv : ∀ j, j < t - f → -100000000 ≤ rs.getD j 0 ∧ rs.getD j 0 ≤ 100000000 ∧ clipS ((rs.getD j 0 + 1024) / 2048) 0 255 = tgtW c.us c.xs c.bs c.w c.h c.side (y * c.w + (f + j)))
    (hnext : ∀ zs rs M, St2 c M0 M zs rs → InvW c.us c.xs c.bs c.w c.h c.side (y * c.w + t) zs → Run P T lo F.wiener_Plane (cNext c y k M) Q) :
    ∀ (q j : Nat) (zs : List Int) (M : Mem), t - f - j = q → j ≤ t - f → St2 c M0 M zs rs → InvW c.us c.xs c.bs c.w c.h c.side (y * c.w + (f + j)) zs → Run P T lo F.wiener_Plane (cPut c y k f t j M) Q := by
  have hs' : c.side = 64 ∨ c.side = 32 := o.hs
  have sm : c.h * c.w ≤ 512 * 512 := Nat.mul_le_mul o.hh.2 o.hw.2
  intro q
  induction q with
  | zero =>
    intro j zs M hq hj st hinv
    obtain rfl : j = t - f := by omega
    refine Run.cut (Evp.of_eq (fun k => wiener_Plane.p240142569468 k ..) ?_)
    refine Evp.dec (fun h => absurd h (by omega)) fun _ => ?_
    refine Evp.ret (hnext zs rs M st ?_)
    rwa [show f + (t - f) = t by omega] at hinv
  | succ q ih =>
    intro j zs M hq hj st hinv
    have ln := st.len
    have hlt := row_lt (c := f + j) hy (show f + j < c.w by omega)
    obtain ⟨b1, b2, b3⟩ := hv j (by omega)
    have tl := tgtW_le (us := c.us) (bs := c.bs) (w := c.w) (h := c.h) (side := c.side) (p := y * c.w + (f + j)) o.bx
    refine Run.cut (Evp.of_eq (fun k => wiener_Plane.p240142569468 k ..) ?_)
    refine Evp.dec (fun _ => ?_) fun h => absurd h (by omega)
    refine Evp.pos (by omega) ?_
    simp only [Int.toNat_natCast]
    refine Evp.ldI st.room.rdI (by omega) fun _ _ => ?_
    refine Evp.ob (round11 _ _ _ (by omega)) ?_
    rintro _ rfl
    simp only [ret_int, ret_bool, ret_flt, ret_slc, ret_str, ret_ptr, ret_agg, ret_tup, ob_some, bb_true, bb_false, List.getElem?_cons_zero, List.getElem?_cons_succ, List.length_cons, List.length_nil, Nat.reduceAdd, Nat.reduceLT]
    refine Evp.ob (wclip_ok _ _ _ _ _ (by omega)) ?_
    rintro _ rfl
    simp only [ret_int, ret_bool, ret_flt, ret_slc, ret_str, ret_ptr, ret_agg, ret_tup, ob_some, bb_true, bb_false, List.getElem?_cons_zero, List.getElem?_cons_succ, List.length_cons, List.length_nil, Nat.reduceAdd, Nat.reduceLT]
    have ep : IntKind.i64.wrap ((IntKind.i64.wrap ((IntKind.i64.wrap ((y : Int) * c.w)) + (f : Int))) + (j : Int)) = ((y * c.w + (f + j) : Nat) : Int) := by
      rw [← Int.natCast_mul, w64 (x := ((y * c.w : Nat) : Int)) (by omega), w64 (x := ((y * c.w : Nat) : Int) + (f : Int)) (by omega), w64 (by omega)]; omega
    rw [ep, b3, wu8 (by omega)]
    refine Evp.pos (pos_iN (by have := o.hn; omega)) (Evp.some rfl ?_)
    simp only [Int.toNat_natCast]
    obtain ⟨M', h1, h2, h3, h4, h5⟩ := st.out.st (lo := lo) (i := y * c.w + (f + j)) (vs := [.int .u8 (tgtW c.us c.xs c.bs c.w c.h c.side (y * c.w + (f + j)))]) st.pre o.hlo (by simp [hinv.1]; omega)
    refine Evp.some h1 ?_
    rw [setL_one, set_map] at h2
    rw [w64 (by omega)]
    exact Evp.ret (ih (j + 1) _ M' (by omega) (by omega) ⟨h3, h2, st.room.keep h4 (fun a ha => by injection ha with ha; subst ha; exact o.hne), ln⟩ (hinv.set hlt))
end
theorem stripe_ok (lo : Nat) (side y : Nat) (M : Mem) (hs : SideP side) (hy : y ≤ 1024) : Ac P T lo F.wiener_stripeOf [.int .i64 (y : Nat), .int .i64 (side : Nat)] M fun r => r = (.agg ⟨[.int .i64 (fstS side y), .int .i64 (fstS side y + side)]⟩, M) := by
  obtain ⟨s1, s2⟩ := side_eq hs y hy
  have hs' : side = 64 ∨ side = 32 := hs
  refine Ac.of (Evp.of_eq (fun k => wiener_stripeOf.entry k ..) ?_)
  refine Evp.neg (by omega) ?_
  rw [s1, s2]
  exact Evp.ret (Run.ret rfl)
def colN (w side k : Nat) : Nat := min (k * side) w
theorem tgt_unit {us : List Un} {xs bs : List Int} {w h side y k x : Nat} (hs : SideP side) (h1 : k * side ≤ x) (h2 : x < (k + 1) * side) (hx : x < w) : tgtW us xs bs w h side (y * w + x) = if (us.getD (y / side * wideN w side + k) u0).on = true then sampU (us.getD (y / side * wideN w side + k) u0) xs bs w h side y x else xs.getD (y * w + x) 0 := by
  have : x / side = k := by rcases hs with rfl | rfl <;> omega
  rw [tgt_at hx, this]
section
variable {c : Wc} {lo : Nat} {M0 : Mem} (o : Wok c lo M0) {Q : Value × Mem → Prop}
include o
theorem tap_loop (y k f t : Nat) (hy : y < c.h) (hft : f ≤ t) (ht2 : t - f ≤ c.side) (htw : t ≤ c.w) (v0 v1 v2 v3 v4 v5 v6 h0 h1 h2 h3 h4 h5 h6 : Int) (tv : TsB [v0, v1, v2, v3, v4, v5, v6]) (th : TsB [h0, h1, h2, h3, h4, h5, h6]) (zs : List Int)
    (hnext : ∀ rs M, St2 c M0 M zs rs → (∀ j, j < t - f → rs.getD j 0 = vacc [v0, v1, v2, v3, v4, v5, v6] [h0, h1, h2, h3, h4, h5, h6] c.xs c.bs c.w c.h c.side y (f + j) 7) → Run P T lo F.wiener_Plane (cPut c y k f t 0 M) Q) :
    ∀ (q i : Nat) (rs : List Int) (M : Mem), 7 - i = q → i ≤ 7 → St2 c M0 M zs rs → (∀ j, j < t - f → rs.getD j 0 = vacc [v0, v1, v2, v3, v4, v5, v6] [h0, h1, h2, h3, h4, h5, h6] c.xs c.bs c.w c.h c.side y (f + j) i) →
      Run P T lo F.wiener_Plane (cTap c y k f t v0 v1 v2 v3 v4 v5 v6 h0 h1 h2 h3 h4 h5 h6 i M) Q := by
  have hs' : c.side = 64 ∨ c.side = 32 := o.hs
  have hw2 := o.hw.2; have hh2 := o.hh.2
  intro q
  induction q with
  | zero =>
    intro i rs M hq hi st hr
    obtain rfl : i = 7 := by omega
    refine Run.cut (Evp.of_eq (fun k => wiener_Plane.p240142569460 k ..) ?_)
    refine Evp.ff rfl ?_
    exact Evp.ret (hnext rs M st hr)
  | succ q ih =>
    intro i rs M hq hi st hr
    have fl := fst_le (y := y) o.hs
    obtain ⟨r1, r2⟩ := row_le (h := c.h) o.hs hy (i := i) (by omega)
    have lM : lo ≤ M.length := Nat.le_trans o.hlo st.pre.len
    have body : ∀ (A : Option Addr) (cap : Nat) (ps : List Int), RdI M0 .u8 A ps → Bytes ps → ps.length = c.h * c.w → ps.length ≤ cap → (∀ x, tapR [h0, h1, h2, h3, h4, h5, h6] c.xs c.bs c.w c.h c.side y x i = acS [h0, h1, h2, h3, h4, h5, h6] ps c.w (rowN c.h c.side y i) x) →
        Run P T lo F.wiener_Plane (wiener_Plane.c30738248890983 c.AU c.us.length c.cu c.side (c.wide : Nat) (some c.ar) c.side c.side y f t (some c.ar) (t - f) c.side (([v0, v1, v2, v3, v4, v5, v6] : List Int).getD i 0) (rowN c.h c.side y i : Nat) c.h y (c.wide : Nat) k v0 v1 v2 v3 v4 v5 v6 i c.w c.h c.A c.xs.length c.cap c.w c.h c.B c.bs.length c.capb 0 0 none 0 0 c.w c.h (some c.ao) c.xs.length c.co (fstS c.side y) (fstS c.side y + c.side) h0 h1 h2 h3 h4 h5 h6 c.w c.h A ps.length cap M) Q := fun A cap ps hA bp hpl hpc ht => by
      refine Run.cut (Evp.of_eq (fun k => wiener_Plane.p30738248890983 k ..) ?_)
      refine Evp.ob (across_ok lo A cap ps c.w c.h (rowN c.h c.side y i) h0 h1 h2 h3 h4 h5 h6 M lM (hA.pre st.pre) bp o.hw hh2 hpl r2 th hpc f t hft (by omega)) ?_
      rintro _ ⟨S, cs, M2, rfl, p2, hS, hSn⟩
      simp only [ret_int, ret_bool, ret_flt, ret_slc, ret_str, ret_ptr, ret_agg, ret_tup, ob_some, bb_true, bb_false, List.getElem?_cons_zero, List.getElem?_cons_succ, List.length_cons, List.length_nil, Nat.reduceAdd, Nat.reduceLT]
      have la : (acL [h0, h1, h2, h3, h4, h5, h6] ps c.w (rowN c.h c.side y i) f (t - f)).length = t - f := by simp [acL]
      have ga : ∀ j, j < t - f → (acL [h0, h1, h2, h3, h4, h5, h6] ps c.w (rowN c.h c.side y i) f (t - f)).getD j 0 = tapR [h0, h1, h2, h3, h4, h5, h6] c.xs c.bs c.w c.h c.side y (f + j) i := fun j hj => by
        rw [ht]; unfold acL; exact getD_map_range hj
      have hin : c.ar.block < M.length := by
        obtain ⟨_, _, _, hb, _⟩ := st.room
        exact (List.getElem?_eq_some_iff.1 hb).1
      refine Evp.ret (add_loop o y k f t ht2 (([v0, v1, v2, v3, v4, v5, v6] : List Int).getD i 0) v0 v1 v2 v3 v4 v5 v6 h0 h1 h2 h3 h4 h5 h6 i S cs _ la zs (fun j => vacc [v0, v1, v2, v3, v4, v5, v6] [h0, h1, h2, h3, h4, h5, h6] c.xs c.bs c.w c.h c.side y (f + j) i)
        (fun j hj => ?_) (fun rs M st hr => ih (i + 1) rs M (by omega) (by omega) st fun j hj => by rw [hr j hj, ga j hj]; rfl) (by omega) M2 hS (st.pre.trans p2) (fun z hz _ e => by have := hSn z hz; omega) (t - f) 0 rs M2 (by omega) (by omega) ⟨st.pre.trans p2, st.out.pre p2, st.room.pre p2, st.len⟩ (fun p hp => by rw [hr p hp, if_neg (by omega)]) (fun b x hx _ => hx))
      rw [ga j hj]
      have b1 := vacc_le tv [h0, h1, h2, h3, h4, h5, h6] c.xs c.bs c.w c.h c.side y (f + j) i
      have b2 := vprod_le (tv.2 i) (tapR_le [h0, h1, h2, h3, h4, h5, h6] c.xs c.bs c.w c.h c.side y (f + j) i)
      show -100000000 ≤ vacc [v0, v1, v2, v3, v4, v5, v6] [h0, h1, h2, h3, h4, h5, h6] c.xs c.bs c.w c.h c.side y (f + j) i ∧ _
      omega
    refine Run.cut (Evp.of_eq (fun k => wiener_Plane.p240142569460 k ..) ?_)
    refine Evp.dec (fun _ => ?_) fun h => absurd h (by omega)
    refine Evp.pos (by omega) ?_
    simp only [Int.toNat_natCast, Nat.add_zero]
    refine Evp.some (seven_get i (by omega)) ?_
    rw [w64 (x := (y : Int) + i) (by omega), w64 (x := (y : Int) + i - 3) (by omega), w64 (x := (c.h : Int) - 1) (by omega), w64 (x := fstS c.side y - 2) (by omega), w64 (x := fstS c.side y + c.side + 1) (by omega), w64 (x := fstS c.side y + c.side - 1) (by omega)]
    refine Evp.ob (wclip_ok _ _ _ _ _ (by omega)) ?_
    rintro _ rfl
    simp only [ret_int, ret_bool, ret_flt, ret_slc, ret_str, ret_ptr, ret_agg, ret_tup, ob_some, bb_true, bb_false, List.getElem?_cons_zero, List.getElem?_cons_succ, List.length_cons, List.length_nil, Nat.reduceAdd, Nat.reduceLT]
    refine Evp.ob (wclip_ok _ _ _ _ _ (by omega)) ?_
    rintro _ rfl
    simp only [ret_int, ret_bool, ret_flt, ret_slc, ret_str, ret_ptr, ret_agg, ret_tup, ob_some, bb_true, bb_false, List.getElem?_cons_zero, List.getElem?_cons_succ, List.length_cons, List.length_nil, Nat.reduceAdd, Nat.reduceLT]
    rw [show clipS (clipS ((y : Int) + i - 3) 0 ((c.h : Int) - 1)) (fstS c.side y - 2) (fstS c.side y + c.side + 1) = rowI c.h c.side y i from rfl, r1]
    refine Evp.ob (wwithin_ok ..) ?_
    rintro _ rfl
    simp only [ret_int, ret_bool, ret_flt, ret_slc, ret_str, ret_ptr, ret_agg, ret_tup, ob_some, bb_true, bb_false, List.getElem?_cons_zero, List.getElem?_cons_succ, List.length_cons, List.length_nil, Nat.reduceAdd, Nat.reduceLT]
    refine Evp.nb (fun g => Evp.ret (body c.B c.capb c.bs o.hb o.bb o.hnb o.hcapb fun x => ?_)) fun g => Evp.ret (body c.A c.cap c.xs o.hx o.bx o.hn o.hcap fun x => ?_)
    · have g := of_decide_eq_false g
      unfold tapR
      rw [if_neg (fun e => g (by unfold inS at e; rw [r1] at e; omega))]
    · have g := of_decide_eq_true g
      unfold tapR
      rw [if_pos (by unfold inS; rw [r1]; omega)]
theorem unit_loop (y : Nat) (hy : y < c.h) (hnext : ∀ zs rs M, St2 c M0 M zs rs → InvW c.us c.xs c.bs c.w c.h c.side ((y + 1) * c.w) zs → Run P T lo F.wiener_Plane (cEnd c y M) Q) :
    ∀ (q k : Nat) (zs rs : List Int) (M : Mem), c.wide - k = q → k ≤ c.wide → St2 c M0 M zs rs → InvW c.us c.xs c.bs c.w c.h c.side (y * c.w + colN c.w c.side k) zs → Run P T lo F.wiener_Plane (cUnit c y k M) Q := by
  have hs' : c.side = 64 ∨ c.side = 32 := o.hs
  have hw2 := o.hw.2; have hh2 := o.hh.2; have hw1 := o.hw.1
  obtain ⟨_, wa, wb⟩ := wide_eq o.hs o.hw
  have last : colN c.w c.side c.wide = c.w := by
    unfold colN Wc.wide wideN
    rcases hs' with e | e <;> rw [e] <;> omega
  have fin : ∀ zs rs M, St2 c M0 M zs rs → InvW c.us c.xs c.bs c.w c.h c.side (y * c.w + colN c.w c.side c.wide) zs → Run P T lo F.wiener_Plane (cEnd c y M) Q := fun zs rs M st hi => hnext zs rs M st (by rw [last] at hi; rw [Nat.add_mul, Nat.one_mul]; exact hi)
  intro q
  induction q with
  | zero =>
    intro k zs rs M hq hk st hinv
    obtain rfl : k = c.wide := by omega
    refine Run.cut (Evp.of_eq (fun k => wiener_Plane.p3664284 k ..) ?_)
    refine Evp.dec (fun h => absurd h (by omega)) fun _ => ?_
    exact Evp.ret (fin zs rs M st hinv)
  | succ q ih =>
    intro k zs rs M hq hk st hinv
    have hkw : k < wideN c.w c.side := by have : c.wide = wideN c.w c.side := rfl; omega
    have hkf : k * c.side < c.w := by
      unfold wideN at hkw
      rcases hs' with e | e <;> rw [e] at hkw ⊢ <;> omega
    have next : ∀ zs rs M, St2 c M0 M zs rs → InvW c.us c.xs c.bs c.w c.h c.side (y * c.w + colN c.w c.side (k + 1)) zs → Run P T lo F.wiener_Plane (cNext c y k M) Q := fun zs rs M st hinv => by
      refine Run.cut (Evp.of_eq (fun k => wiener_Plane.p29314279 k ..) ?_)
      rw [w64 (by omega)]
      exact Evp.ret (ih (k + 1) zs rs M (by omega) (by omega) st hinv)
    have e1 : Int.tdiv (y : Int) (c.side : Int) = ((y / c.side : Nat) : Int) := rfl
    have l1 : y / c.side ≤ 512 := Nat.le_trans (Nat.div_le_self _ _) (by omega)
    have hyh := div_wide (w := c.h) o.hs hy
    have ul : y / c.side * c.wide + k < c.us.length := by
      have := row_lt (h := wideN c.h c.side) (w := wideN c.w c.side) (y := y / c.side) (c := k) hyh hkw
      show y / c.side * wideN c.w c.side + k < _
      rw [o.hul, Nat.mul_comm (wideN c.w c.side) (wideN c.h c.side)]; exact this
    have ei : IntKind.i64.wrap ((IntKind.i64.wrap ((IntKind.i64.wrap (Int.tdiv (y : Int) (c.side : Int))) * ((c.wide : Nat) : Int))) + (k : Int)) = ((y / c.side * c.wide + k : Nat) : Int) := by
      rw [e1]
      have l3 : y / c.side * c.wide ≤ 512 * 16 := Nat.mul_le_mul l1 wb
      generalize y / c.side = p at *
      rw [w64 (x := ((p : Nat) : Int)) (by omega), ← Int.natCast_mul, w64 (x := ((p * c.wide : Nat) : Int)) (by omega), w64 (by omega)]
      omega
    have k1 : (k + 1) * c.side = k * c.side + c.side := by rw [Nat.add_mul, Nat.one_mul]
    have ck : colN c.w c.side k = k * c.side := by unfold colN; omega
    have ck1 : colN c.w c.side (k + 1) = min (k * c.side + c.side) c.w := by unfold colN; rw [k1]
    have tu : ∀ x, k * c.side ≤ x → x < k * c.side + c.side → x < c.w → tgtW c.us c.xs c.bs c.w c.h c.side (y * c.w + x) = if (c.us.getD (y / c.side * c.wide + k) u0).on = true then sampU (c.us.getD (y / c.side * c.wide + k) u0) c.xs c.bs c.w c.h c.side y x else c.xs.getD (y * c.w + x) 0 := fun x x1 x2 x3 => tgt_unit o.hs x1 (by rw [k1]; exact x2) x3
    refine Run.cut (Evp.of_eq (fun k => wiener_Plane.p3664284 k ..) ?_)
    refine Evp.dec (fun _ => ?_) fun h => absurd h (by have : c.wide = wideN c.w c.side := rfl; omega)
    refine Evp.neg (by omega) ?_
    rw [ei]
    refine Evp.pos (pos_iN ul) ?_
    simp only [Int.toNat_natCast]
    refine Evp.ldU (o.hU.pre st.pre) ul fun _ _ => ?_
    refine Evp.nb (fun hoff => ?_) fun hon => ?_
    · have inv2 : InvW c.us c.xs c.bs c.w c.h c.side (y * c.w + colN c.w c.side (k + 1)) zs := hinv.skip (by rw [ck, ck1]; omega) fun p g1 g2 g3 => by
        rw [ck] at g1
        rw [ck1] at g2
        obtain ⟨x, rfl⟩ : ∃ x, p = y * c.w + x := ⟨p - y * c.w, by omega⟩
        rw [tu x (by omega) (by omega) (by omega), if_neg (by rw [hoff]; simp)]
      refine Evp.eqb (fun e => Evp.ret (fin zs rs M st ?_)) fun _ => Evp.ret (next zs rs M st inv2)
      have hcw : c.wide = wideN c.w c.side := rfl
      rw [w64 (by omega)] at e
      have : k + 1 = c.wide := by omega
      rw [← this]; exact inv2
    · refine Evp.ob (seven_ok lo (c.us.getD (y / c.side * c.wide + k) u0).v M) ?_
      rintro _ ⟨v0, v1, v2, v3, v4, v5, v6, rfl, ev⟩
      simp only [ret_int, ret_bool, ret_flt, ret_slc, ret_str, ret_ptr, ret_agg, ret_tup, ob_some, bb_true, bb_false, List.getElem?_cons_zero, List.getElem?_cons_succ, List.length_cons, List.length_nil, Nat.reduceAdd, Nat.reduceLT]
      refine Evp.ob (seven_ok lo (c.us.getD (y / c.side * c.wide + k) u0).h M) ?_
      rintro _ ⟨h0, h1, h2, h3, h4, h5, h6, rfl, eh⟩
      simp only [ret_int, ret_bool, ret_flt, ret_slc, ret_str, ret_ptr, ret_agg, ret_tup, ob_some, bb_true, bb_false, List.getElem?_cons_zero, List.getElem?_cons_succ, List.length_cons, List.length_nil, Nat.reduceAdd, Nat.reduceLT]
      have tv := sev_TsB (c.us.getD (y / c.side * c.wide + k) u0).v
      have th := sev_TsB (c.us.getD (y / c.side * c.wide + k) u0).h
      rw [ev] at tv
      rw [eh] at th
      have ek : IntKind.i64.wrap ((k : Int) * c.side) = ((k * c.side : Nat) : Int) := by rw [← Int.natCast_mul]; exact w64 (by omega)
      have ek1 : minI (IntKind.i64.wrap ((IntKind.i64.wrap ((k : Int) + 1)) * c.side)) (c.w : Int) = ((min (k * c.side + c.side) c.w : Nat) : Int) := by
        rw [w64 (x := (k : Int) + 1) (by omega), show ((k : Int) + 1) * (c.side : Int) = (((k + 1) * c.side : Nat) : Int) by rw [Int.natCast_mul]; rfl, k1, w64 (by omega)]
        unfold minI; split <;> omega
      rw [ek, ek1]
      obtain ⟨f, hf⟩ : ∃ f, f = k * c.side := ⟨_, rfl⟩
      obtain ⟨t, ht⟩ : ∃ t, t = min (k * c.side + c.side) c.w := ⟨_, rfl⟩
      rw [← ht, ← hf]
      rw [w64 (x := (t : Int) - f) (by omega), show (t : Int) - f = ((t - f : Nat) : Int) by omega]
      simp only [Int.toNat_natCast, Nat.sub_zero, slAddr_00]
      refine Evp.pos (by omega) (Evp.neg (by omega) (Evp.some rfl ?_))
      have ln := st.len
      obtain ⟨M2, g1, g2, g3, g4, g5⟩ := st.room.st (lo := lo) (i := 0) (vs := List.replicate (t - f) (.int .i64 0)) st.pre o.hlo (by simp; omega)
      rw [plus_zero] at g1
      rw [zerosL_one]
      refine Evp.some g1 ?_
      have er : setL (rs.map (Value.int .i64)) 0 (List.replicate (t - f) (.int .i64 0)) = (List.replicate (t - f) 0 ++ rs.drop (t - f)).map (Value.int .i64) := by
        have := setL_all [] ((rs.take (t - f)).map (Value.int .i64)) (List.replicate (t - f) (Value.int .i64 0)) ((rs.drop (t - f)).map (Value.int .i64)) (by simp; omega)
        simp only [List.nil_append, List.length_nil] at this
        rw [← List.map_append, List.take_append_drop] at this
        rw [this, List.map_append, List.map_replicate]
      rw [er] at g2
      have st2 : St2 c M0 M2 zs (List.replicate (t - f) 0 ++ rs.drop (t - f)) := ⟨g3, st.out.keep g4 (fun a ha => by injection ha with ha; subst ha; exact fun e => o.hne e.symm), g2, by simp; omega⟩
      refine Evp.ret (tap_loop o y k f t hy (by omega) (by omega) (by omega) v0 v1 v2 v3 v4 v5 v6 h0 h1 h2 h3 h4 h5 h6 tv th zs (fun rs M st hr => ?_) 7 0 _ M2 rfl (by omega) st2 fun j hj => ?_)
      · refine put_loop o y k f t hy (by omega) (by omega) (by omega) rs (fun j hj => ?_) (fun zs rs M st hi => next zs rs M st (by rw [ck1, ← ht]; exact hi)) (t - f) 0 zs M (by omega) (by omega) st (by rw [Nat.add_zero, hf, ← ck]; exact hinv)
        have b1 := vacc_le tv [h0, h1, h2, h3, h4, h5, h6] c.xs c.bs c.w c.h c.side y (f + j) 7
        rw [hr j hj]
        refine ⟨by omega, by omega, ?_⟩
        rw [tu (f + j) (by omega) (by omega) (by omega), if_pos hon]
        unfold sampU sampW
        rw [ev, eh]
      · rw [List.getD_eq_getElem?_getD, List.getElem?_append_left (by simpa using hj), List.getElem?_replicate, if_pos hj]; rfl
theorem row_loop (hnext : ∀ zs M, Pre M0 M → Buf M0 M c.ao (zs.map (Value.int .u8)) → InvW c.us c.xs c.bs c.w c.h c.side (c.h * c.w) zs → Q (.tuple ⟨[.agg ⟨[.int .i64 c.w, .int .i64 c.h, .slice (some c.ao) c.xs.length c.co]⟩, .int .i64 0]⟩, M)) :
    ∀ (q y : Nat) (zs rs : List Int) (M : Mem), c.h - y = q → y ≤ c.h → St2 c M0 M zs rs → InvW c.us c.xs c.bs c.w c.h c.side (y * c.w) zs → Run P T lo F.wiener_Plane (cRow c y M) Q := by
  have hh2 := o.hh.2
  intro q
  induction q with
  | zero =>
    intro y zs rs M hq hy st hinv
    obtain rfl : y = c.h := by omega
    refine Run.cut (Evp.of_eq (fun k => wiener_Plane.p7156 k ..) ?_)
    refine Evp.dec (fun h => absurd h (by omega)) fun _ => ?_
    exact Evp.ret (Run.ret (hnext zs M st.pre st.out hinv))
  | succ q ih =>
    intro y zs rs M hq hy st hinv
    have hw1 := o.hw.1
    refine Run.cut (Evp.of_eq (fun k => wiener_Plane.p7156 k ..) ?_)
    refine Evp.dec (fun _ => ?_) fun h => absurd h (by omega)
    refine Evp.ob (stripe_ok lo c.side y M o.hs (by omega)) ?_
    rintro _ rfl
    simp only [ret_int, ret_bool, ret_flt, ret_slc, ret_str, ret_ptr, ret_agg, ret_tup, ob_some, bb_true, bb_false, List.getElem?_cons_zero, List.getElem?_cons_succ, List.length_cons, List.length_nil, Nat.reduceAdd, Nat.reduceLT]
    refine Evp.ret (unit_loop o y (by omega) (fun zs rs M st hi => ?_) _ 0 zs rs M rfl (by omega) st (by unfold colN; simpa using hinv))
    refine Run.cut (Evp.of_eq (fun k => wiener_Plane.p57255 k ..) ?_)
    rw [w64 (by omega)]
    exact Evp.ret (ih (y + 1) zs rs M (by omega) (by omega) st hi)
end
section
variable (lo : Nat) (AU A B : Option Addr) (cu cap capb : Nat) (us : List Un) (xs bs : List Int) (w h w' h' side : Int) (M0 : Mem)
variable (hlo : lo ≤ M0.length) (hU : RdU M0 AU us) (hwf : ∀ u ∈ us, u.wf) (hul : us.length ≤ 140737488351232) (hx : RdI M0 .u8 A xs) (hb : RdI M0 .u8 B bs) (bx : Bytes xs) (bb' : Bytes bs) (hcap : xs.length ≤ cap) (hcapb : bs.length ≤ capb)
include hlo hU hwf hul hx hb bx bb' hcap hcapb
theorem plane_ok : Ac P T lo F.wiener_Plane [.agg ⟨[.int .i64 w, .int .i64 h, .slice A xs.length cap]⟩, .agg ⟨[.int .i64 w', .int .i64 h', .slice B bs.length capb]⟩, .slice AU us.length cu, .int .i64 side] M0 (PlaneR M0 us w h w' h' side xs bs) := by
  have bad : ¬ PlaneOk us w h xs.length w' h' bs.length side → Run P T lo F.wiener_Plane (.ret (.tuple ⟨[.agg ⟨[.int .i64 0, .int .i64 0, .slice none 0 0]⟩, .int .i64 2]⟩) M0) (PlaneR M0 us w h w' h' side xs bs) := fun hno => Run.ret ⟨Pre.refl _, by rw [if_neg hno]⟩
  refine Ac.of (Evp.of_eq (fun k => wiener_Plane.entry k ..) ?_)
  refine Evp.ob (check_ok ..) ?_
  rintro _ rfl
  simp only [ret_int, ret_bool, ret_flt, ret_slc, ret_str, ret_ptr, ret_agg, ret_tup, ob_some, bb_true, bb_false, List.getElem?_cons_zero, List.getElem?_cons_succ, List.length_cons, List.length_nil, Nat.reduceAdd, Nat.reduceLT]
  refine Evp.neb (fun g => Evp.ret (bad fun e => g e.1)) fun k1 => ?_
  refine Evp.ob (check_ok ..) ?_
  rintro _ rfl
  simp only [ret_int, ret_bool, ret_flt, ret_slc, ret_str, ret_ptr, ret_agg, ret_tup, ob_some, bb_true, bb_false, List.getElem?_cons_zero, List.getElem?_cons_succ, List.length_cons, List.length_nil, Nat.reduceAdd, Nat.reduceLT]
  refine Evp.neb (fun g => Evp.ret (bad fun e => g e.2.1)) fun k2 => ?_
  refine Evp.neb (fun g => Evp.ret (bad fun e => g e.2.2.1)) fun k3 => ?_
  refine Evp.neb (fun g => Evp.ret (bad fun e => g e.2.2.2.1)) fun k4 => ?_
  subst k3; subst k4
  have s1 := checkS_len' k1
  have s2 := checkS_len' k2
  obtain ⟨w, rfl⟩ := Int.eq_ofNat_of_zero_le (a := w) (by omega)
  obtain ⟨h, rfl⟩ := Int.eq_ofNat_of_zero_le (a := h) (by omega)
  have n1 : xs.length = h * w := by have := s1.2.2.2.2; rw [← Int.natCast_mul, Nat.mul_comm] at this; omega
  have n2 : bs.length = h * w := by have := s2.2.2.2.2; rw [← Int.natCast_mul, Nat.mul_comm] at this; omega
  have sm2 : h * w ≤ 512 * 512 := Nat.mul_le_mul (by omega) (by omega)
  have hpos : 1 * 1 ≤ h * w := Nat.mul_le_mul (by omega) (by omega)
  have rest : ∀ sd : Nat, SideP sd → side = (sd : Int) → Evp (fun k => pb (side = 0) none (pb (side = 0) none (bb ((us.length : Int) != IntKind.i64.wrap ((IntKind.i64.wrap (Int.tdiv (IntKind.i64.wrap ((IntKind.i64.wrap ((w : Int) + side)) - 1)) side)) * (IntKind.i64.wrap (Int.tdiv (IntKind.i64.wrap ((IntKind.i64.wrap ((h : Int) + side)) - 1)) side))))
      (some (.ret (.tuple ⟨[.agg ⟨[.int .i64 0, .int .i64 0, .slice none 0 0]⟩, .int .i64 2]⟩) M0))
      (ob (acall P T k lo F.slices_ContainsFunc__api_Unit_api_Unit [.slice AU us.length cu, .func (.func F.wiener_Plane_1) ⟨[]⟩ ⟨[]⟩] M0) fun r24 => ob ((some r24.1).bind Value.bool?) fun b25 => bb b25
        (some (.ret (.tuple ⟨[.agg ⟨[.int .i64 0, .int .i64 0, .slice none 0 0]⟩, .int .i64 2]⟩) r24.2))
        (ob (acall P T k r24.2.length F.slices_Clone__uint8_uint8 [.slice A xs.length cap] r24.2) fun r26 => ob ((some r26.1).bind Value.slc?) fun s27 => pb (0 ≤ side ∧ room side.toNat 8)
          (some (wiener_Plane.c7156 AU us.length cu side (IntKind.i64.wrap (Int.tdiv (IntKind.i64.wrap ((IntKind.i64.wrap ((w : Int) + side)) - 1)) side)) (some ⟨r26.2.length, 0, none⟩) side.toNat side.toNat h 0 w h A xs.length cap w h B bs.length capb 0 0 none 0 0 w h s27.a s27.n s27.c (r26.2 ++ [⟨.fx, zerosL [.int .i64 0] side.toNat⟩] : Mem))) none))))) fun out => Run P T lo F.wiener_Plane out (PlaneR M0 us w h w h side xs bs) := by
    rintro sd hs rfl
    have hs' : sd = 64 ∨ sd = 32 := hs
    obtain ⟨e1, a1, a2⟩ := wide_eq (n := w) hs (by omega)
    obtain ⟨e2, b1, b2⟩ := wide_eq (n := h) hs (by omega)
    have sm : wideN w sd * wideN h sd ≤ 16 * 16 := Nat.mul_le_mul a2 b2
    refine Evp.neg (by omega) (Evp.neg (by omega) ?_)
    rw [e1, e2, ← Int.natCast_mul, w64 (x := ((wideN w sd * wideN h sd : Nat) : Int)) (by omega)]
    refine Evp.neb (fun g => Evp.ret (bad fun e => ?_)) fun hl => ?_
    · have := e.2.2.2.2.2.1
      simp only [Int.toNat_natCast] at this
      exact g (by rw [this])
    have hl : us.length = wideN w sd * wideN h sd := by omega
    refine Evp.ob (containsU_ok lo AU cu us M0 hU hwf hul) ?_
    rintro _ ⟨b, rfl, hb'⟩
    simp only [ret_int, ret_bool, ret_flt, ret_slc, ret_str, ret_ptr, ret_agg, ret_tup, ob_some, bb_true, bb_false, List.getElem?_cons_zero, List.getElem?_cons_succ, List.length_cons, List.length_nil, Nat.reduceAdd, Nat.reduceLT]
    refine Evp.bb (fun g => Evp.ret (bad fun e => ?_)) fun g => ?_
    · obtain ⟨u, hu, hn⟩ := hb'.1 g
      exact hn (e.2.2.2.2.2.2 u hu)
    have hall : ∀ u ∈ us, UnitP u := fun u hu => by
      by_cases hp : UnitP u
      · exact hp
      · rw [hb'.2 ⟨u, hu, hp⟩] at g; cases g
    have ok : PlaneOk us w h xs.length w h bs.length sd := ⟨k1, k2, rfl, rfl, by omega, by simp only [Int.toNat_natCast]; exact hl, hall⟩
    refine Evp.ob (clone_ok M0.length A cap xs M0 hx (by omega) (by omega) (Nat.le_refl _)) ?_
    rintro _ ⟨ao, co, M1, rfl, p1, hco, hbuf⟩
    simp only [ret_int, ret_bool, ret_flt, ret_slc, ret_str, ret_ptr, ret_agg, ret_tup, ob_some, bb_true, bb_false, List.getElem?_cons_zero, List.getElem?_cons_succ, List.length_cons, List.length_nil, Nat.reduceAdd, Nat.reduceLT]
    refine Evp.pos ⟨by omega, by show _ * 8 ≤ _; omega⟩ ?_
    simp only [Int.toNat_natCast]
    have p2 := Pre.app M1 [⟨.fx, zerosL [.int .i64 0] sd⟩]
    have hin : ao.block < M1.length := by
      obtain ⟨_, _, _, hb2, _⟩ := hbuf
      exact (List.getElem?_eq_some_iff.1 hb2).1
    have hw' : 1 ≤ w ∧ w ≤ 512 := by omega
    have hh' : 1 ≤ h ∧ h ≤ 512 := by omega
    have o : Wok ⟨AU, A, B, cu, cap, capb, us, xs, bs, w, h, sd, ⟨M1.length, 0, none⟩, ao, co⟩ lo M0 := ⟨hlo, hU, hx, hb, bx, bb', hw', hh', n1, n2, hs, hl, hcap, hcapb, hco, fun e => by
      have e : ao.block = M1.length := e
      omega⟩
    refine Evp.ret (row_loop o (fun zs M hp hbf hi => ⟨hp, ?_⟩) h 0 xs (List.replicate sd 0) _ rfl (by omega) ⟨p1.trans p2, hbuf.pre p2, by rw [zerosL_one, List.map_replicate]; exact Buf.push p1, by simp⟩ (by rw [Nat.zero_mul]; exact InvW.start n1))
    rw [if_pos ok]
    refine ⟨ao, co, rfl, hco, ?_⟩
    simp only [Int.toNat_natCast]
    rw [← hi.full (Nat.le_refl _)]; exact hbf
  refine Evp.neb (fun g1 => ?_) fun g1 => rest 64 (.inl rfl) g1
  refine Evp.neb (fun g2 => Evp.ret (bad fun e => ?_)) fun g2 => rest 32 (.inr rfl) g2
  rcases e.2.2.2.2.1 with e | e
  · exact g1 e
  · exact g2 e
end
theorem PlaneR.got {M M' : Mem} {us : List Un} {w h w' h' side : Int} {xs bs : List Int} {v : Value} (hr : PlaneR M us w h w' h' side xs bs (v, M')) (hk : PlaneOk us w h xs.length w' h' bs.length side) :
    ∃ a cc, v = .tuple ⟨[.agg ⟨[.int .i64 w, .int .i64 h, .slice (some a) xs.length cc]⟩, .int .i64 0]⟩ ∧ Pre M M' ∧ xs.length ≤ cc ∧ Buf M M' a ((outW us xs bs w.toNat h.toNat side.toNat).map (Value.int .u8)) := by
  obtain ⟨p, h⟩ := hr
  rw [if_pos hk] at h
  obtain ⟨a, cc, e, h1, h2⟩ := h
  exact ⟨a, cc, e, p, h1, h2⟩
theorem PlaneR.not {M M' : Mem} {us : List Un} {w h w' h' side : Int} {xs bs : List Int} {v : Value} (hr : PlaneR M us w h w' h' side xs bs (v, M')) (hk : ¬ PlaneOk us w h xs.length w' h' bs.length side) :
    v = .tuple ⟨[.agg ⟨[.int .i64 0, .int .i64 0, .slice none 0 0]⟩, .int .i64 2]⟩ ∧ Pre M M' := by
  obtain ⟨p, h⟩ := hr
  rw [if_neg hk] at h
  exact ⟨h, p⟩
theorem TapsP.wf {t : Tp} (h : TapsP t) : wfI t.a ∧ wfI t.b ∧ wfI t.c := by
  unfold TapsP at h
  simp [wfI, Lit.wf, IntKind.min, IntKind.max, IntKind.signed, IntKind.bits]
  omega
end Go.Zt
