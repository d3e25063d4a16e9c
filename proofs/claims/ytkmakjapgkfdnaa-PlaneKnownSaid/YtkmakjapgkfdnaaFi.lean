/- The law that Cut, Lay, Pad answer as the chapter says. -/
import Derived.Test.YtkmakjapgkfdnaaFh
set_option linter.unusedVariables false
set_option linter.unusedSimpArgs false
set_option maxRecDepth 100000
namespace Go.Zt
/-- What lies from a block on has not turned. -/
def KeepU (U : Nat) (M M' : Mem) : Prop := ∀ (b : Nat) (k : Blk), M[b]? = some k → U ≤ b → M'[b]? = some k
section
variable {M0 M1 M M' : Mem} {A : Option Addr} {xs : List Int}
theorem OwnM.keepU {U : Nat} (h : OwnM M0 M A xs) (hk : KeepU U M M') (hU : U ≤ M0.length) : OwnM M0 M' A xs := by
  rcases h with h | ⟨a, rfl, k, h1, h2, h3, h4⟩
  · exact .inl h
  · exact .inr ⟨a, rfl, k, h1, h2, hk _ _ h3 (Nat.le_trans hU h2), h4⟩
theorem OwnM.pre (h : OwnM M0 M A xs) (hp : Pre M M') : OwnM M0 M' A xs := by
  rcases h with h | ⟨a, rfl, h⟩
  · exact .inl h
  · exact .inr ⟨a, rfl, h.pre hp⟩
theorem OwnM.floor (h : OwnM M1 M A xs) (hl : M0.length ≤ M1.length) : OwnM M0 M A xs := by
  rcases h with h | ⟨a, rfl, h⟩
  · exact .inl h
  · exact .inr ⟨a, rfl, h.floor hl⟩
theorem OwnM.lt (h : OwnM M0 M A xs) : ∀ a, A = some a → xs ≠ [] → a.block < M.length := fun a hA hx => by
  rcases h with h | ⟨a', hA', h⟩
  · exact absurd h hx
  · rw [hA] at hA'; cases hA'; exact h.in_
end
theorem spoil_nil (lo : Nat) (w h : Int) (A : Option Addr) (c : Nat) (M : Mem) : Ac P T lo F.zoetropelaw05_spoil [.agg ⟨[.int .i64 w, .int .i64 h, .slice A 0 c]⟩] M fun r => r = (.tuple ⟨[]⟩, M) := by
  refine Ac.of (Evp.of_eq (fun k => zoetropelaw05_spoil.entry k ..) ?_)
  refine Evp.ret ?_
  refine Run.cut (Evp.of_eq (fun k => zoetropelaw05_spoil.p28 k ..) ?_)
  exact Evp.ff rfl (Evp.ret (Run.ret rfl))
theorem told2_ok (lo : Nat) (w h e : Int) (A B : Option Addr) (c c' : Nat) (xs : List Int) (M0 M : Mem) (U : Nat) (hlo : lo ≤ M0.length) (hp : Pre M0 M) (hz : xs.length ≤ 262144) (hA : OwnM M0 M A xs) (hB : RdI M .u8 B xs) (hU : ∀ a, A = some a → xs ≠ [] → a.block < U) :
    Ac P T lo F.zoetropelaw05_told [.agg ⟨[.int .i64 w, .int .i64 h, .slice A xs.length c]⟩, .int .i64 e, .agg ⟨[.int .i64 w, .int .i64 h, .slice B xs.length c']⟩, .int .i64 e] M fun r => ∃ M', r = (.bool true, M') ∧ Pre M0 M' ∧ KeepU U M M' := by
  refine Ac.of (Evp.of_eq (fun k => zoetropelaw05_told.entry k ..) ?_)
  refine Evp.eqb (fun _ => ?_) fun h => absurd rfl h
  refine Evp.ob (rsame_ok _ _ _ _ _ _ _ _ _ _ _ _ hA.rd hB (by omega)) ?_
  rintro _ rfl
  simp only [ret_int, ret_bool, ret_flt, ret_slc, ret_str, ret_ptr, ret_agg, ret_tup, ob_some, bb_true, bb_false, List.getElem?_cons_zero, List.getElem?_cons_succ, List.length_cons, List.length_nil, Nat.reduceAdd, Nat.reduceLT]
  by_cases hx : xs = []
  · subst hx
    refine Evp.ob (spoil_nil lo w h A c M) ?_
    rintro _ rfl
    simp only [ret_int, ret_bool, ret_flt, ret_slc, ret_str, ret_ptr, ret_agg, ret_tup, ob_some, bb_true, bb_false, List.getElem?_cons_zero, List.getElem?_cons_succ, List.length_cons, List.length_nil, Nat.reduceAdd, Nat.reduceLT]
    exact Evp.ret (Run.ret ⟨M, rfl, hp, fun b kk hb _ => hb⟩)
  · refine Evp.ob (spoil_ok lo w h A c xs M0 M hlo hp (by omega) hA) ?_
    rintro _ ⟨M', rfl, p, k⟩
    simp only [ret_int, ret_bool, ret_flt, ret_slc, ret_str, ret_ptr, ret_agg, ret_tup, ob_some, bb_true, bb_false, List.getElem?_cons_zero, List.getElem?_cons_succ, List.length_cons, List.length_nil, Nat.reduceAdd, Nat.reduceLT]
    refine Evp.ret (Run.ret ⟨M', ?_, p, fun b kk hb hUb => k b kk hb fun a hAa => by have := hU a hAa hx; omega⟩)
    rw [decide_eq_true ⟨trivial, trivial, trivial⟩]
def PadC (w h : Int) (xs : List Int) (W H : Int) : Prop := checkS w h xs.length = 0 ∧ w ≤ W ∧ W ≤ 512 ∧ h ≤ H ∧ H ≤ 512
instance (w h : Int) (xs : List Int) (W H : Int) : Decidable (PadC w h xs W H) := inferInstanceAs (Decidable (_ ∧ _))
def padL (w h : Int) (xs : List Int) (W H : Int) : List Int := if PadC w h xs W H then sizedS w h xs W.toNat (H.toNat * W.toNat) else []
theorem padL_len (w h : Int) (xs : List Int) (W H : Int) : (padL w h xs W H).length ≤ 262144 := by
  unfold padL
  split
  · rename_i hc
    have hs := checkS_len' hc.1
    have hc' := hc.2
    rw [sizedS_len]
    exact Nat.mul_le_mul (by omega : H.toNat ≤ 512) (by omega : W.toNat ≤ 512)
  · decide
theorem PadR.one {M1 M2 : Mem} {v : Value} {w h : Int} {xs : List Int} {W H : Int} (h1 : PadR M1 w h xs W H (v, M2)) :
    ∃ (A : Option Addr) (c : Nat), v = .tuple ⟨[.agg ⟨[.int .i64 (if PadC w h xs W H then W else 0), .int .i64 (if PadC w h xs W H then H else 0), .slice A (padL w h xs W H).length c]⟩, .int .i64 (if PadC w h xs W H then 0 else 2)]⟩ ∧ Pre M1 M2 ∧ OwnM M1 M2 A (padL w h xs W H) := by
  obtain ⟨hp, h1⟩ := h1
  by_cases hc : checkS w h xs.length = 0 ∧ w ≤ W ∧ W ≤ 512 ∧ h ≤ H ∧ H ≤ 512
  · have hc' : PadC w h xs W H := hc
    have hL : padL w h xs W H = sizedS w h xs W.toNat (H.toNat * W.toNat) := by unfold padL; rw [if_pos hc']
    rw [if_pos hc] at h1
    obtain ⟨a, e1, b1⟩ := h1
    rw [hL, if_pos hc', if_pos hc', if_pos hc', sizedS_len]
    exact ⟨some a, _, e1, hp, .inr ⟨a, rfl, b1⟩⟩
  · have hc' : ¬ PadC w h xs W H := hc
    have hL : padL w h xs W H = [] := by unfold padL; rw [if_neg hc']
    rw [if_neg hc] at h1
    rw [hL, if_neg hc', if_neg hc', if_neg hc']
    exact ⟨none, 0, h1, hp, .inl rfl⟩
def LayC (w h : Int) (xs bs : List Int) (x y rw rh : Int) : Prop := checkS w h xs.length = 0 ∧ WithinP w h x y rw rh ∧ (bs.length : Int) = rw * rh
instance (w h : Int) (xs bs : List Int) (x y rw rh : Int) : Decidable (LayC w h xs bs x y rw rh) := inferInstanceAs (Decidable (_ ∧ _))
def layL (w h : Int) (xs bs : List Int) (x y rw rh : Int) : List Int := if LayC w h xs bs x y rw rh then layS w.toNat xs bs x.toNat y.toNat rw.toNat rh.toNat else []
theorem layL_len (w h : Int) (xs bs : List Int) (x y rw rh : Int) : (layL w h xs bs x y rw rh).length ≤ 262144 := by
  unfold layL
  split
  · rename_i hc
    have hs := checkS_len' hc.1
    have har := area (w := w) (h := h) (by omega)
    rw [layS_len]; omega
  · decide
theorem LayR.one {M1 M2 : Mem} {v : Value} {w h : Int} {xs bs : List Int} {x y rw rh : Int} (h1 : LayR M1 w h xs bs x y rw rh (v, M2)) :
    ∃ (A : Option Addr) (c : Nat), v = .tuple ⟨[.agg ⟨[.int .i64 (if LayC w h xs bs x y rw rh then w else 0), .int .i64 (if LayC w h xs bs x y rw rh then h else 0), .slice A (layL w h xs bs x y rw rh).length c]⟩, .int .i64 (if LayC w h xs bs x y rw rh then 0 else 2)]⟩ ∧ Pre M1 M2 ∧ OwnM M1 M2 A (layL w h xs bs x y rw rh) := by
  obtain ⟨hp, h1⟩ := h1
  by_cases hc : checkS w h xs.length = 0 ∧ WithinP w h x y rw rh ∧ (bs.length : Int) = rw * rh
  · have hc' : LayC w h xs bs x y rw rh := hc
    have hL : layL w h xs bs x y rw rh = layS w.toNat xs bs x.toNat y.toNat rw.toNat rh.toNat := by unfold layL; rw [if_pos hc']
    rw [if_pos hc] at h1
    obtain ⟨a, cc, e1, _, b1⟩ := h1
    rw [hL, if_pos hc', if_pos hc', if_pos hc', layS_len]
    exact ⟨some a, cc, e1, hp, .inr ⟨a, rfl, b1⟩⟩
  · have hc' : ¬ LayC w h xs bs x y rw rh := hc
    have hL : layL w h xs bs x y rw rh = [] := by unfold layL; rw [if_neg hc']
    rw [if_neg hc] at h1
    rw [hL, if_neg hc', if_neg hc', if_neg hc']
    exact ⟨none, 0, h1, hp, .inl rfl⟩
section
variable (w h : Int) (A X : Option Addr) (c cx : Nat) (xs : List Int) (x y rw rh : Int) (B S : Option Addr) (cb cs : Nat) (bs : List Int) (M0 M2 : Mem)
theorem cuts_end (hx : RdI M0 .u8 A xs) (hb : RdI M0 .u8 B bs) (hX : RdI M2 .u8 X xs) (hS : RdI M2 .u8 S bs) (hcx : xs.length ≤ cx) (hcs : bs.length ≤ cs) (hp : Pre M0 M2) (hn : xs.length ≤ 140737488351232) (hn' : bs.length ≤ 140737488351232) (K : Option Addr) (n cc : Nat) (i : Int) (M : Mem) (hpM : Pre M2 M) (hi : ¬ i < n) :
    Run P T M0.length F.zoetropelaw05_PlaneCuts (zoetropelaw05_PlaneCuts.c1012 B bs.length cb S bs.length cs K n cc i w h A xs.length c x y rw rh w h X xs.length cx M) fun r => r.1 = .bool true := by
  have l0 := hp.len
  refine Run.cut (Evp.of_eq (fun k => zoetropelaw05_PlaneCuts.p1012 k ..) ?_)
  refine Evp.dec (fun h => absurd h hi) fun _ => ?_
  refine Evp.ob (play_ok _ w h X cx xs x y rw rh S cs bs M (hX.pre hpM) (hS.pre hpM) hcs (hp.trans hpM).len) ?_
  rintro ⟨v3, M3⟩ h3
  obtain ⟨A3, c3, rfl, p3, o3⟩ := h3.one
  simp only [ret_int, ret_bool, ret_flt, ret_slc, ret_str, ret_ptr, ret_agg, ret_tup, ob_some, bb_true, bb_false, List.getElem?_cons_zero, List.getElem?_cons_succ, List.length_cons, List.length_nil, Nat.reduceAdd, Nat.reduceLT]
  have q3 := hpM.trans p3
  refine Evp.ob (rlay_ok _ w h A c xs x y rw rh B cb bs M3 (hx.pre (hp.trans q3)) (hb.pre (hp.trans q3)) (hp.trans q3).len) ?_
  rintro ⟨v4, M4⟩ h4
  obtain ⟨A4, c4, rfl, p4, o4⟩ := h4.one
  simp only [ret_int, ret_bool, ret_flt, ret_slc, ret_str, ret_ptr, ret_agg, ret_tup, ob_some, bb_true, bb_false, List.getElem?_cons_zero, List.getElem?_cons_succ, List.length_cons, List.length_nil, Nat.reduceAdd, Nat.reduceLT]
  have q4 := q3.trans p4
  refine Evp.ob (told2_ok M0.length _ _ _ A3 A4 c3 c4 _ M2 M4 M4.length l0 q4 (layL_len ..) ((o3.pre p4).floor hpM.len) o4.rd (o3.pre p4).lt) ?_
  rintro _ ⟨M5, rfl, q5, _⟩
  simp only [ret_int, ret_bool, ret_flt, ret_slc, ret_str, ret_ptr, ret_agg, ret_tup, ob_some, bb_true, bb_false, List.getElem?_cons_zero, List.getElem?_cons_succ, List.length_cons, List.length_nil, Nat.reduceAdd, Nat.reduceLT]
  refine Evp.ff rfl ?_
  refine Evp.ob (eqBytes_ok _ _ _ _ _ _ _ _ (hS.pre q5) (hb.pre (hp.trans q5)) hn') ?_
  rintro _ rfl
  simp only [ret_int, ret_bool, ret_flt, ret_slc, ret_str, ret_ptr, ret_agg, ret_tup, ob_some, bb_true, bb_false, List.getElem?_cons_zero, List.getElem?_cons_succ, List.length_cons, List.length_nil, Nat.reduceAdd, Nat.reduceLT]
  refine Evp.ff (by simp) ?_
  refine Evp.ob (rsame_ok _ _ _ _ _ _ _ _ _ _ _ _ (hX.pre q5) (hx.pre (hp.trans q5)) hn) ?_
  rintro _ rfl
  simp only [ret_int, ret_bool, ret_flt, ret_slc, ret_str, ret_ptr, ret_agg, ret_tup, ob_some, bb_true, bb_false, List.getElem?_cons_zero, List.getElem?_cons_succ, List.length_cons, List.length_nil, Nat.reduceAdd, Nat.reduceLT]
  refine Evp.ff (by simp) ?_
  refine Evp.ob (ppad_ok _ w h rw rh X cx xs M5 (hp.trans q5).len (hX.pre q5) hcx) ?_
  rintro ⟨v6, M6⟩ h6
  obtain ⟨A6, c6, rfl, p6, o6⟩ := h6.one
  simp only [ret_int, ret_bool, ret_flt, ret_slc, ret_str, ret_ptr, ret_agg, ret_tup, ob_some, bb_true, bb_false, List.getElem?_cons_zero, List.getElem?_cons_succ, List.length_cons, List.length_nil, Nat.reduceAdd, Nat.reduceLT]
  have q6 := q5.trans p6
  refine Evp.ob (rpad_ok _ w h rw rh A c xs M6 (hp.trans q6).len (hx.pre (hp.trans q6))) ?_
  rintro ⟨v7, M7⟩ h7
  obtain ⟨A7, c7, rfl, p7, o7⟩ := h7.one
  simp only [ret_int, ret_bool, ret_flt, ret_slc, ret_str, ret_ptr, ret_agg, ret_tup, ob_some, bb_true, bb_false, List.getElem?_cons_zero, List.getElem?_cons_succ, List.length_cons, List.length_nil, Nat.reduceAdd, Nat.reduceLT]
  have q7 := q6.trans p7
  refine Evp.ob (bring_ok _ _ _ _ (by decide)) ?_
  rintro _ rfl
  simp only [ret_int, ret_bool, ret_flt, ret_slc, ret_str, ret_ptr, ret_agg, ret_tup, ob_some, bb_true, bb_false, List.getElem?_cons_zero, List.getElem?_cons_succ, List.length_cons, List.length_nil, Nat.reduceAdd, Nat.reduceLT]
  refine Evp.ob (bring_ok _ _ _ _ (by decide)) ?_
  rintro _ rfl
  simp only [ret_int, ret_bool, ret_flt, ret_slc, ret_str, ret_ptr, ret_agg, ret_tup, ob_some, bb_true, bb_false, List.getElem?_cons_zero, List.getElem?_cons_succ, List.length_cons, List.length_nil, Nat.reduceAdd, Nat.reduceLT]
  obtain ⟨W2, hW2⟩ : ∃ z, z = IntKind.i64.wrap (w + bringS x 9) := ⟨_, rfl⟩
  obtain ⟨H2, hH2⟩ : ∃ z, z = IntKind.i64.wrap (h + bringS y 9) := ⟨_, rfl⟩
  rw [← hW2, ← hH2]
  refine Evp.ob (ppad_ok _ w h W2 H2 X cx xs M7 (Nat.le_refl _) (hX.pre q7) hcx) ?_
  rintro ⟨v8, M8⟩ h8
  obtain ⟨A8, c8, rfl, p8, o8⟩ := h8.one
  simp only [ret_int, ret_bool, ret_flt, ret_slc, ret_str, ret_ptr, ret_agg, ret_tup, ob_some, bb_true, bb_false, List.getElem?_cons_zero, List.getElem?_cons_succ, List.length_cons, List.length_nil, Nat.reduceAdd, Nat.reduceLT]
  have q8 := q7.trans p8
  refine Evp.ob (bring_ok _ _ _ _ (by decide)) ?_
  rintro _ rfl
  simp only [ret_int, ret_bool, ret_flt, ret_slc, ret_str, ret_ptr, ret_agg, ret_tup, ob_some, bb_true, bb_false, List.getElem?_cons_zero, List.getElem?_cons_succ, List.length_cons, List.length_nil, Nat.reduceAdd, Nat.reduceLT]
  refine Evp.ob (bring_ok _ _ _ _ (by decide)) ?_
  rintro _ rfl
  simp only [ret_int, ret_bool, ret_flt, ret_slc, ret_str, ret_ptr, ret_agg, ret_tup, ob_some, bb_true, bb_false, List.getElem?_cons_zero, List.getElem?_cons_succ, List.length_cons, List.length_nil, Nat.reduceAdd, Nat.reduceLT]
  rw [← hW2, ← hH2]
  refine Evp.ob (rpad_ok _ w h W2 H2 A c xs M8 (Nat.le_refl _) (hx.pre (hp.trans q8))) ?_
  rintro ⟨v9, M9⟩ h9
  obtain ⟨A9, c9, rfl, p9, o9⟩ := h9.one
  simp only [ret_int, ret_bool, ret_flt, ret_slc, ret_str, ret_ptr, ret_agg, ret_tup, ob_some, bb_true, bb_false, List.getElem?_cons_zero, List.getElem?_cons_succ, List.length_cons, List.length_nil, Nat.reduceAdd, Nat.reduceLT]
  have q9 := q8.trans p9
  have l67 := p7.len
  refine Evp.ob (told2_ok M0.length _ _ _ A6 A7 c6 c7 _ M2 M9 M7.length l0 q9 (padL_len ..) ((o6.pre ((p7.trans p8).trans p9)).floor q5.len) (o7.pre (p8.trans p9)).rd (fun a ha hz => Nat.lt_of_lt_of_le (o6.lt a ha hz) l67)) ?_
  rintro _ ⟨M10, rfl, q10, kk⟩
  simp only [ret_int, ret_bool, ret_flt, ret_slc, ret_str, ret_ptr, ret_agg, ret_tup, ob_some, bb_true, bb_false, List.getElem?_cons_zero, List.getElem?_cons_succ, List.length_cons, List.length_nil, Nat.reduceAdd, Nat.reduceLT]
  refine Evp.tt rfl ?_
  have o8' := (o8.pre p9).keepU kk (Nat.le_refl _)
  have o9' := o9.keepU kk p8.len
  refine Evp.ob (told2_ok M0.length _ _ _ A8 A9 c8 c9 _ M2 M10 M10.length l0 q10 (padL_len ..) (o8'.floor q7.len) o9'.rd o8'.lt) ?_
  rintro _ ⟨M11, rfl, q11, _⟩
  simp only [ret_int, ret_bool, ret_flt, ret_slc, ret_str, ret_ptr, ret_agg, ret_tup, ob_some, bb_true, bb_false, List.getElem?_cons_zero, List.getElem?_cons_succ, List.length_cons, List.length_nil, Nat.reduceAdd, Nat.reduceLT]
  refine Evp.tt rfl ?_
  refine Evp.ob (rsame_ok _ _ _ _ _ _ _ _ _ _ _ _ (hX.pre q11) (hx.pre (hp.trans q11)) hn) ?_
  rintro _ rfl
  simp only [ret_int, ret_bool, ret_flt, ret_slc, ret_str, ret_ptr, ret_agg, ret_tup, ob_some, bb_true, bb_false, List.getElem?_cons_zero, List.getElem?_cons_succ, List.length_cons, List.length_nil, Nat.reduceAdd, Nat.reduceLT]
  refine Evp.tt (by simp) ?_
  refine Evp.ob (works_ok _ _ (hp.trans q11).len) ?_
  rintro _ ⟨M12, rfl, _⟩
  simp only [ret_int, ret_bool, ret_flt, ret_slc, ret_str, ret_ptr, ret_agg, ret_tup, ob_some, bb_true, bb_false, List.getElem?_cons_zero, List.getElem?_cons_succ, List.length_cons, List.length_nil, Nat.reduceAdd, Nat.reduceLT]
  exact Evp.ret (Run.ret rfl)
theorem cuts_loop (hx : RdI M0 .u8 A xs) (hb : RdI M0 .u8 B bs) (hX : RdI M2 .u8 X xs) (hS : RdI M2 .u8 S bs) (hcx : xs.length ≤ cx) (hcs : bs.length ≤ cs) (hp : Pre M0 M2) (hn : xs.length ≤ 140737488351232) (hn' : bs.length ≤ 140737488351232) (a : Addr) (cc : Nat) : ∀ (d i : Nat) (zs : List Int) (M : Mem), zs.length - i = d → i ≤ zs.length → zs.length ≤ 262144 → Pre M2 M → Buf M2 M a (zs.map (Value.int .u8)) →
    Run P T M0.length F.zoetropelaw05_PlaneCuts (zoetropelaw05_PlaneCuts.c1012 B bs.length cb S bs.length cs (some a) zs.length cc i w h A xs.length c x y rw rh w h X xs.length cx M) fun r => r.1 = .bool true := by
  intro d
  induction d with
  | zero =>
    intro i zs M hd hi hz hpM hbuf
    exact cuts_end w h A X c cx xs x y rw rh B S cb cs bs M0 M2 hx hb hX hS hcx hcs hp hn hn' _ _ _ _ M hpM (by omega)
  | succ d ih =>
    intro i zs M hd hi hz hpM hbuf
    refine Run.cut (Evp.of_eq (fun k => zoetropelaw05_PlaneCuts.p1012 k ..) ?_)
    refine Evp.dec (fun _ => ?_) fun h => absurd h (by omega)
    refine Evp.pos (by omega) ?_
    simp only [Int.toNat_natCast]
    refine Evp.ldI hbuf.rdI (by omega) fun _ _ => ?_
    refine Evp.pos (by omega) (Evp.some rfl ?_)
    obtain ⟨M3, h1, h2, h3, h4, h5⟩ := hbuf.st (lo := M0.length) (i := i) (vs := [.int .u8 (xorI .u8 (zs.getD i 0) 255)]) hpM hp.len (by simp; omega)
    refine Evp.some h1 ?_
    rw [setL_one, set_map] at h2
    rw [w64 (by omega)]
    have := ih (i + 1) (zs.set i (xorI .u8 (zs.getD i 0) 255)) M3 (by simp; omega) (by simp; omega) (by simpa using hz) h3 h2
    rw [List.length_set] at this
    exact Evp.ret this
end
theorem PlaneCuts_law (M : Mem) (vs : List Value) (hro : AllRo M) (hv : LaysArgs P M [24, 26, 22] vs) : Ac P T M.length F.zoetropelaw05_PlaneCuts vs M fun r => r.1 = .bool true := by
  obtain ⟨w, h, A, c, xs, x, y, rw', rh, B, cb, bs, rfl, _, _, hc, hn, hx, wx, _, _, _, _, hc', hn', hb, wb⟩ := Arg.PlaneCuts hv
  refine Ac.of (Evp.of_eq (fun k => zoetropelaw05_PlaneCuts.entry k ..) ?_)
  refine Evp.ob (copyPlane_ok _ _ _ _ _ _ _ hx (by omega)) ?_
  rintro _ ⟨X, cx, M1, rfl, p1, g1, k1⟩
  simp only [ret_int, ret_bool, ret_flt, ret_slc, ret_str, ret_ptr, ret_agg, ret_tup, ob_some, bb_true, bb_false, List.getElem?_cons_zero, List.getElem?_cons_succ, List.length_cons, List.length_nil, Nat.reduceAdd, Nat.reduceLT]
  refine Evp.ob (copyBytes_ok _ _ _ _ _ (hb.pre p1) (by omega) p1.len) ?_
  rintro _ ⟨S, cs, M2, rfl, p2, g2, k2⟩
  simp only [ret_int, ret_bool, ret_flt, ret_slc, ret_str, ret_ptr, ret_agg, ret_tup, ob_some, bb_true, bb_false, List.getElem?_cons_zero, List.getElem?_cons_succ, List.length_cons, List.length_nil, Nat.reduceAdd, Nat.reduceLT]
  have p12 := p1.trans p2
  have hX := k1.rdI.pre p2
  have fin := fun (K : Option Addr) (n cc : Nat) (i : Int) (M3 : Mem) (hpM : Pre M2 M3) (hi : ¬ i < n) => cuts_end w h A X c cx xs x y rw' rh B S cb cs bs M M2 hx hb hX k2.rdI g1 g2 p12 (by omega) (by omega) K n cc i M3 hpM hi
  have lp := cuts_loop w h A X c cx xs x y rw' rh B S cb cs bs M M2 hx hb hX k2.rdI g1 g2 p12 (by omega) (by omega)
  refine Evp.ob (pcut_ok _ w h X cx xs x y rw' rh M2 hX g1 p12.len) ?_
  rintro ⟨v3, M3⟩ ⟨p3, h3⟩
  by_cases hcond : checkS w h xs.length = 0 ∧ WithinP w h x y rw' rh
  · rw [if_pos hcond] at h3
    obtain ⟨K, cc, rfl, g3, _⟩ := h3
    simp only [ret_int, ret_bool, ret_flt, ret_slc, ret_str, ret_ptr, ret_agg, ret_tup, ob_some, bb_true, bb_false, List.getElem?_cons_zero, List.getElem?_cons_succ, List.length_cons, List.length_nil, Nat.reduceAdd, Nat.reduceLT]
    refine Evp.ob (rcut_ok _ w h A c xs x y rw' rh M3 (hx.pre (p12.trans p3)) (p12.trans p3).len) ?_
    rintro ⟨v4, M4⟩ ⟨p4, h4⟩
    rw [if_pos hcond] at h4
    obtain ⟨K', cc', rfl, g4, _⟩ := h4
    simp only [ret_int, ret_bool, ret_flt, ret_slc, ret_str, ret_ptr, ret_agg, ret_tup, ob_some, bb_true, bb_false, List.getElem?_cons_zero, List.getElem?_cons_succ, List.length_cons, List.length_nil, Nat.reduceAdd, Nat.reduceLT]
    refine Evp.neb (fun h => absurd rfl h) fun _ => ?_
    have hs := checkS_len' hcond.1
    obtain ⟨r1, r2, r3, r4, r5, r6⟩ := hcond.2
    have hm : rh.toNat * rw'.toNat ≤ 512 * 512 := Nat.mul_le_mul (by omega) (by omega)
    have hl := cutS_len w.toNat xs x.toNat y.toNat rw'.toNat (rh.toNat * rw'.toNat)
    refine Evp.ob (eqBytes_ok _ _ _ _ _ _ _ _ (g3.rdI.pre p4) g4.rdI (by omega)) ?_
    rintro _ rfl
    simp only [ret_int, ret_bool, ret_flt, ret_slc, ret_str, ret_ptr, ret_agg, ret_tup, ob_some, bb_true, bb_false, List.getElem?_cons_zero, List.getElem?_cons_succ, List.length_cons, List.length_nil, Nat.reduceAdd, Nat.reduceLT]
    refine Evp.ff (by simp) ?_
    obtain ⟨a, rfl, hbuf⟩ := (g3.pre p4).buf (by rw [hl]; exact Nat.mul_ne_zero (by omega) (by omega))
    exact Evp.ret (lp a cc _ 0 _ M4 rfl (by omega) (by omega) (p3.trans p4) hbuf)
  · rw [if_neg hcond] at h3
    subst h3
    simp only [ret_int, ret_bool, ret_flt, ret_slc, ret_str, ret_ptr, ret_agg, ret_tup, ob_some, bb_true, bb_false, List.getElem?_cons_zero, List.getElem?_cons_succ, List.length_cons, List.length_nil, Nat.reduceAdd, Nat.reduceLT]
    refine Evp.ob (rcut_ok _ w h A c xs x y rw' rh M3 (hx.pre (p12.trans p3)) (p12.trans p3).len) ?_
    rintro ⟨v4, M4⟩ ⟨p4, h4⟩
    rw [if_neg hcond] at h4
    subst h4
    simp only [ret_int, ret_bool, ret_flt, ret_slc, ret_str, ret_ptr, ret_agg, ret_tup, ob_some, bb_true, bb_false, List.getElem?_cons_zero, List.getElem?_cons_succ, List.length_cons, List.length_nil, Nat.reduceAdd, Nat.reduceLT]
    refine Evp.neb (fun h => absurd rfl h) fun _ => ?_
    refine Evp.ob (eqBytes_ok _ none none 0 0 [] [] _ RdI.nil RdI.nil (by decide)) ?_
    rintro _ rfl
    simp only [ret_int, ret_bool, ret_flt, ret_slc, ret_str, ret_ptr, ret_agg, ret_tup, ob_some, bb_true, bb_false, List.getElem?_cons_zero, List.getElem?_cons_succ, List.length_cons, List.length_nil, Nat.reduceAdd, Nat.reduceLT]
    refine Evp.ff (by simp) ?_
    exact Evp.ret (fin none 0 0 0 M4 (p3.trans p4) (by omega))
end Go.Zt
