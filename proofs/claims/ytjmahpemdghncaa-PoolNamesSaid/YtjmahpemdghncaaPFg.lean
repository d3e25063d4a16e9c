/- What the law PoolNames needs of the text Fg. -/
import Derived.Test.YtjmahpemdghncaaPFf
set_option linter.unusedVariables false
set_option linter.unusedSimpArgs false
set_option maxRecDepth 100000
namespace Go.Zt
theorem setL_in {α : Type} : ∀ (vs cs : List α) (off j : Nat), j < vs.length → off + vs.length ≤ cs.length → (setL cs off vs)[off + j]? = vs[j]?
  | [], cs, off, j, hj, _ => by simp at hj
  | v :: vs, cs, off, j, hj, hl => by
    simp only [List.length_cons] at hj hl
    have hout : ∀ (vs cs : List α) (off i : Nat), i < off → (setL cs off vs)[i]? = cs[i]? := by
      intro vs
      induction vs with
      | nil => intro cs off i _; rfl
      | cons v vs ih => intro cs off i hi; rw [setL, ih _ _ _ (by omega), List.getElem?_set_ne (by omega)]
    cases j with
    | zero => rw [setL, hout _ _ _ _ (by omega), Nat.add_zero, List.getElem?_set_self (by omega)]; rfl
    | succ j =>
      have := setL_in vs (cs.set off v) (off + 1) j (by omega) (by rw [List.length_set]; omega)
      rw [setL, show off + (j + 1) = off + 1 + j by omega, this]; rfl
theorem setL_out {α : Type} : ∀ (vs cs : List α) (off i : Nat), (i < off ∨ off + vs.length ≤ i) → (setL cs off vs)[i]? = cs[i]?
  | [], cs, off, i, _ => rfl
  | v :: vs, cs, off, i, h => by
    simp only [List.length_cons] at h
    rw [setL, setL_out vs _ _ _ (by omega), List.getElem?_set_ne (by omega)]
theorem RawS.len (r : RawS) : r.cells.length = 11 := rfl
theorem PoolRaw.put {M : Mem} {b lo i : Nat} {R : Nat → RawS} (h : PoolRaw M b R) (X : RawS) (hi : i < 8) (hlo : lo ≤ b) :
    ∃ M', M.st lo (plus (plus ⟨b, 0, none⟩ 1) (i * 11)) X.cells = some M' ∧ PoolRaw M' b (fun n => if n = i then X else R n) ∧ KeepB b M M' ∧ M'.length = M.length := by
  obtain ⟨cs, h1, h2, h3, h4⟩ := h
  have e : plus (plus ⟨b, 0, none⟩ 1) (i * 11) = plus ⟨b, 0, none⟩ (1 + i * 11) := by simp only [plus_eq, Nat.zero_add]
  refine ⟨M.set b ⟨.fx, setL cs (1 + i * 11) X.cells⟩, ?_, ⟨setL cs (1 + i * 11) X.cells, set_self (lt_of_get h1), by rw [setL_len]; exact h2, ?_, fun n j hn hj => ?_⟩, KeepB.set _ _ _, by simp⟩
  · rw [e]; exact fx_sts h1 hlo (by rw [h2, X.len]; omega)
  · rw [setL_out _ _ _ _ (.inl (by omega))]; exact h3
  · by_cases hni : n = i
    · subst hni
      rw [setL_in _ _ _ _ (by rw [X.len]; omega) (by rw [h2, X.len]; omega)]
      simp only [if_true]
    · rw [setL_out _ _ _ _ (by rw [X.len]; omega), h4 n j hn hj]
      simp only [if_neg hni]
section
variable (lo : Nat) (S : Nat → Prop) (b : Nat) (sl : Nat → Option SlotV) (R : Nat → RawS) (M : Mem)
theorem pnew_ok : Ac P T lo F.pool_New [] M fun r => ∃ M', r = (.pointer (some ⟨M.length, 0, none⟩), M') ∧ Pre M M' ∧ M'.length = M.length + 1 ∧ PoolIs S M' M.length (fun _ => none) := by
  refine Ac.of (Evp.of_eq (fun k => pool_New.entry k ..) ?_)
  refine Evp.ret (Run.ret ⟨_, rfl, Pre.app _ _, by simp, fun _ => RawS.zero, ⟨_, push_self _ _, rfl, rfl, fun n j hn hj => ?_⟩, fun n _ => rfl⟩)
  show (Value.bool true :: poolL fun _ => RawS.zero)[1 + n * 11 + j]? = _
  rw [show 1 + n * 11 + j = n * 11 + j + 1 by omega, List.getElem?_cons_succ, poolL_get _ n hn j hj]
theorem pnone_ok (h : PoolRaw M b R) : Ac P T lo F.pool_Pool_none [.pointer (some ⟨b, 0, none⟩)] M fun r => r = (.bool false, M) := by
  refine Ac.of (Evp.of_eq (fun k => pool_Pool_none.entry k ..) ?_)
  rw [h.made]
  exact Evp.ret (Run.ret rfl)
theorem slot_bad (h : PoolRaw M b R) (n : Int) (hn : n < 0 ∨ 8 ≤ n) : Ac P T lo F.pool_Pool_slot [.pointer (some ⟨b, 0, none⟩), .int .i64 n] M fun r => r = (.tuple ⟨[.agg ⟨RawS.zero.cells⟩, .int .i64 2]⟩, M) := by
  refine Ac.of (Evp.of_eq (fun k => pool_Pool_slot.entry k ..) ?_)
  refine Evp.ob (pnone_ok _ _ _ _ h) ?_
  rintro _ rfl
  simp only [ret_int, ret_bool, ret_flt, ret_slc, ret_str, ret_ptr, ret_agg, ret_tup, ob_some, bb_true, bb_false, List.getElem?_cons_zero, List.getElem?_cons_succ, List.length_cons, List.length_nil, Nat.reduceAdd, Nat.reduceLT]
  refine Evp.ff rfl (Evp.dec (fun _ => Evp.ret (Run.ret rfl)) fun h1 => Evp.dec (fun _ => Evp.ret (Run.ret rfl)) fun h2 => absurd hn (by omega))
theorem slot_ok (h : PoolRaw M b R) (n : Nat) (hn : n < 8) : Ac P T lo F.pool_Pool_slot [.pointer (some ⟨b, 0, none⟩), .int .i64 n] M fun r => r = (if (R n).t = true then .tuple ⟨[.agg ⟨(R n).cells⟩, .int .i64 0]⟩ else .tuple ⟨[.agg ⟨RawS.zero.cells⟩, .int .i64 6]⟩, M) := by
  have ad : ∀ j, plus (plus (plus ⟨b, 0, none⟩ 1) (n * 11)) j = (⟨b, 1 + n * 11 + j, none⟩ : Addr) := fun j => by simp only [plus_eq, Nat.zero_add]
  have l : ∀ j, j < 11 → M.ld (plus (plus (plus ⟨b, 0, none⟩ 1) (n * 11)) j) = (R n).cells[j]? := fun j hj => h.ld n j hn hj _ (ad j)
  have l0 : M.ld (plus (plus ⟨b, 0, none⟩ 1) (n * 11)) = some (.bool (R n).t) := l 0 (by decide)
  refine Ac.of (Evp.of_eq (fun k => pool_Pool_slot.entry k ..) ?_)
  refine Evp.ob (pnone_ok _ _ _ _ h) ?_
  rintro _ rfl
  simp only [ret_int, ret_bool, ret_flt, ret_slc, ret_str, ret_ptr, ret_agg, ret_tup, ob_some, bb_true, bb_false, List.getElem?_cons_zero, List.getElem?_cons_succ, List.length_cons, List.length_nil, Nat.reduceAdd, Nat.reduceLT]
  refine Evp.ff rfl (Evp.dec (fun h1 => absurd h1 (by omega)) fun _ => Evp.dec (fun h1 => absurd h1 (by omega)) fun _ => Evp.pos (by omega) ?_)
  simp only [Int.toNat_natCast]
  refine Evp.some (b := (R n).t) (by rw [l0]; rfl) ?_
  refine Evp.nb (fun ht => Evp.ret (Run.ret (by rw [if_neg (by rw [ht]; decide)]; rfl))) fun ht => ?_
  refine Evp.pos (by omega) ?_
  refine evp_ld11 (r := R n) l0 (l 1 (by decide)) (l 2 (by decide)) (l 3 (by decide)) (l 4 (by decide)) (l 5 (by decide)) (l 6 (by decide)) (l 7 (by decide)) (l 8 (by decide)) (l 9 (by decide)) (l 10 (by decide)) ?_
  exact Evp.ret (Run.ret (by rw [if_pos ht]; rfl))
theorem pframe_bad (h : PoolIs S M b sl) (n : Int) (hn : n < 0 ∨ 8 ≤ n) : Ac P T lo F.pool_Pool_Frame [.pointer (some ⟨b, 0, none⟩), .int .i64 n] M fun r => r = (.tuple ⟨[.agg ⟨[.int .i64 0, .int .i64 0, .slice none 0 0, .int .i64 0, .int .i64 0, .slice none 0 0, .int .i64 0, .int .i64 0, .slice none 0 0]⟩, .int .i64 2]⟩, M) := by
  obtain ⟨R, h1, h2⟩ := h
  refine Ac.of (Evp.of_eq (fun k => pool_Pool_Frame.entry k ..) ?_)
  refine Evp.ob (slot_bad lo b R M h1 n hn) ?_
  rintro _ rfl
  simp only [RawS.cells, RawS.zero, ret_int, ret_bool, ret_flt, ret_slc, ret_str, ret_ptr, ret_agg, ret_tup, ob_some, bb_true, bb_false, List.getElem?_cons_zero, List.getElem?_cons_succ, List.length_cons, List.length_nil, Nat.reduceAdd, Nat.reduceLT]
  exact Evp.tt rfl (Evp.ret (Run.ret rfl))
theorem pframe_none (h : PoolIs S M b sl) (n : Nat) (hn : n < 8) (hs : sl n = none) : Ac P T lo F.pool_Pool_Frame [.pointer (some ⟨b, 0, none⟩), .int .i64 n] M fun r => r = (.tuple ⟨[.agg ⟨[.int .i64 0, .int .i64 0, .slice none 0 0, .int .i64 0, .int .i64 0, .slice none 0 0, .int .i64 0, .int .i64 0, .slice none 0 0]⟩, .int .i64 6]⟩, M) := by
  obtain ⟨R, h1, h2⟩ := h
  have hr := h2 n hn
  rw [hs] at hr
  have hr : R n = RawS.zero := hr
  refine Ac.of (Evp.of_eq (fun k => pool_Pool_Frame.entry k ..) ?_)
  refine Evp.ob (slot_ok lo b R M h1 n hn) ?_
  rw [hr, if_neg (by decide)]
  rintro _ rfl
  simp only [RawS.cells, RawS.zero, ret_int, ret_bool, ret_flt, ret_slc, ret_str, ret_ptr, ret_agg, ret_tup, ob_some, bb_true, bb_false, List.getElem?_cons_zero, List.getElem?_cons_succ, List.length_cons, List.length_nil, Nat.reduceAdd, Nat.reduceLT]
  exact Evp.tt rfl (Evp.ret (Run.ret rfl))
theorem pframe_some (h : PoolIs S M b sl) (n : Nat) (hn : n < 8) (f : FrV) (rows : List (List Tb)) (hs : sl n = some (f, rows)) (hlo : lo ≤ M.length) :
    Ac P T lo F.pool_Pool_Frame [.pointer (some ⟨b, 0, none⟩), .int .i64 n] M fun r => ∃ a0 a1 a2 d0 d1 d2 M', r = (.tuple ⟨[.agg ⟨[.int .i64 f.w0, .int .i64 f.h0, .slice (some a0) f.x0.length d0, .int .i64 f.w1, .int .i64 f.h1, .slice (some a1) f.x1.length d1, .int .i64 f.w2, .int .i64 f.h2, .slice (some a2) f.x2.length d2]⟩, .int .i64 0]⟩, M') ∧ Pre M M' ∧
      Buf M M' a0 (f.x0.map (Value.int .u8)) ∧ Buf M M' a1 (f.x1.map (Value.int .u8)) ∧ Buf M M' a2 (f.x2.map (Value.int .u8)) ∧ a0.block ≠ a1.block ∧ a0.block ≠ a2.block ∧ a1.block ≠ a2.block := by
  obtain ⟨R, h1, h2⟩ := h
  have hr := h2 n hn
  rw [hs] at hr
  have hr : SlotS S M (R n) f rows := hr
  refine Ac.of (Evp.of_eq (fun k => pool_Pool_Frame.entry k ..) ?_)
  refine Evp.ob (slot_ok lo b R M h1 n hn) ?_
  rw [if_pos hr.t]
  rintro _ rfl
  simp only [RawS.cells, ret_int, ret_bool, ret_flt, ret_slc, ret_str, ret_ptr, ret_agg, ret_tup, ob_some, bb_true, bb_false, List.getElem?_cons_zero, List.getElem?_cons_succ, List.length_cons, List.length_nil, Nat.reduceAdd, Nat.reduceLT]
  rw [hr.w0, hr.h0, hr.n0, hr.w1, hr.h1, hr.n1, hr.w2, hr.h2, hr.n2]
  refine Evp.ff rfl ?_
  refine Evp.ob (fcopied_ok lo S _ _ _ _ _ _ f M hr.fr hr.fw hlo) ?_
  rintro _ ⟨a0, a1, a2, d0, d1, d2, M', rfl, k⟩
  simp only [ret_int, ret_bool, ret_flt, ret_slc, ret_str, ret_ptr, ret_agg, ret_tup, ob_some, bb_true, bb_false, List.getElem?_cons_zero, List.getElem?_cons_succ, List.length_cons, List.length_nil, Nat.reduceAdd, Nat.reduceLT]
  exact Evp.ret (Run.ret ⟨a0, a1, a2, d0, d1, d2, M', rfl, k⟩)
def hasN (sl : Nat → Option SlotV) : Nat → Int
  | 0 => 0
  | k + 1 => hasN sl k + if (sl k).isSome then 2 ^ k else 0
theorem hasN_b (sl : Nat → Option SlotV) : ∀ k, 0 ≤ hasN sl k ∧ hasN sl k < 2 ^ k
  | 0 => ⟨Int.le_refl _, by show (0 : Int) < 2 ^ 0; decide⟩
  | k + 1 => by
    have := hasN_b sl k
    have hp : (0 : Int) < 2 ^ k := Int.pow_pos (by decide)
    rw [hasN, Int.pow_succ]
    split <;> omega
theorem or_two : ∀ k, k < 8 → ∀ x : Nat, x < 2 ^ k → orI .i64 (x : Int) (shlI .i64 (1 : Int) k) = (x : Int) + 2 ^ k := by decide +kernel
theorem has_loop (h : ∀ n, n < 8 → SlotIs S M (R n) (sl n)) : ∀ (d k : Nat), 8 - k = d → k ≤ 8 →
    Run P T lo F.pool_Pool_Has (pool_Pool_Has.c244 (hasN sl k) (R 0).t (R 0).w0 (R 0).h0 (R 0).A0 (R 0).n0 (R 0).c0 (R 0).w1 (R 0).h1 (R 0).A1 (R 0).n1 (R 0).c1 (R 0).w2 (R 0).h2 (R 0).A2 (R 0).n2 (R 0).c2 (R 0).As (R 0).ns (R 0).cs (R 1).t (R 1).w0 (R 1).h0 (R 1).A0 (R 1).n0 (R 1).c0 (R 1).w1 (R 1).h1 (R 1).A1 (R 1).n1 (R 1).c1 (R 1).w2 (R 1).h2 (R 1).A2 (R 1).n2 (R 1).c2 (R 1).As (R 1).ns (R 1).cs (R 2).t (R 2).w0 (R 2).h0 (R 2).A0 (R 2).n0 (R 2).c0 (R 2).w1 (R 2).h1 (R 2).A1 (R 2).n1 (R 2).c1 (R 2).w2 (R 2).h2 (R 2).A2 (R 2).n2 (R 2).c2 (R 2).As (R 2).ns (R 2).cs (R 3).t (R 3).w0 (R 3).h0 (R 3).A0 (R 3).n0 (R 3).c0 (R 3).w1 (R 3).h1 (R 3).A1 (R 3).n1 (R 3).c1 (R 3).w2 (R 3).h2 (R 3).A2 (R 3).n2 (R 3).c2 (R 3).As (R 3).ns (R 3).cs (R 4).t (R 4).w0 (R 4).h0 (R 4).A0 (R 4).n0 (R 4).c0 (R 4).w1 (R 4).h1 (R 4).A1 (R 4).n1 (R 4).c1 (R 4).w2 (R 4).h2 (R 4).A2 (R 4).n2 (R 4).c2 (R 4).As (R 4).ns (R 4).cs (R 5).t (R 5).w0 (R 5).h0 (R 5).A0 (R 5).n0 (R 5).c0 (R 5).w1 (R 5).h1 (R 5).A1 (R 5).n1 (R 5).c1 (R 5).w2 (R 5).h2 (R 5).A2 (R 5).n2 (R 5).c2 (R 5).As (R 5).ns (R 5).cs (R 6).t (R 6).w0 (R 6).h0 (R 6).A0 (R 6).n0 (R 6).c0 (R 6).w1 (R 6).h1 (R 6).A1 (R 6).n1 (R 6).c1 (R 6).w2 (R 6).h2 (R 6).A2 (R 6).n2 (R 6).c2 (R 6).As (R 6).ns (R 6).cs (R 7).t (R 7).w0 (R 7).h0 (R 7).A0 (R 7).n0 (R 7).c0 (R 7).w1 (R 7).h1 (R 7).A1 (R 7).n1 (R 7).c1 (R 7).w2 (R 7).h2 (R 7).A2 (R 7).n2 (R 7).c2 (R 7).As (R 7).ns (R 7).cs (k : Int) M) fun r => r = (.int .i64 (hasN sl 8), M) := by
  intro d
  induction d with
  | zero =>
    intro k hd hk
    obtain rfl : k = 8 := by omega
    refine Run.cut (Evp.of_eq (fun k => pool_Pool_Has.p244 k ..) ?_)
    exact Evp.dec (fun h => absurd h (by omega)) fun _ => Evp.ret (Run.ret rfl)
  | succ d ih =>
    intro k hd hk
    have hk8 : k < 8 := by omega
    have hb := hasN_b sl k
    refine Run.cut (Evp.of_eq (fun k => pool_Pool_Has.p244 k ..) ?_)
    refine Evp.dec (fun _ => ?_) fun h => absurd h (by omega)
    refine Evp.pos (by omega) ?_
    simp only [Int.toNat_natCast]
    refine evp_c11 (r := R k) (poolL_get R k hk8) ?_
    have e : hasN sl (k + 1) = if (R k).t = true then hasN sl k + 2 ^ k else hasN sl k := by
      rw [hasN]
      have hr := h k hk8
      cases hs : sl k with
      | none =>
        rw [hs] at hr
        have hr : R k = RawS.zero := hr
        rw [hr, if_neg (by decide), if_neg (by decide), Int.add_zero]
      | some v =>
        obtain ⟨f, rows⟩ := v
        rw [hs] at hr
        have hr : SlotS S M (R k) f rows := hr
        rw [if_pos hr.t]; rfl
    refine Evp.bb (fun ht => Evp.neg (by omega) (Evp.ret ?_)) fun ht => Evp.ret ?_
    · refine Run.cut (Evp.of_eq (fun k => pool_Pool_Has.p1959 k ..) ?_)
      have := or_two k hk8 (hasN sl k).toNat (by
        have : ((2 : Nat) ^ k : Nat) = ((2 : Int) ^ k).toNat := by rw [← Int.toNat_natCast (2 ^ k)]; simp
        omega)
      rw [Int.toNat_of_nonneg hb.1] at this
      rw [this, w64 (x := (k : Int) + 1) (by omega)]
      have := ih (k + 1) (by omega) (by omega)
      rw [e, if_pos ht] at this
      exact Evp.ret this
    · refine Run.cut (Evp.of_eq (fun k => pool_Pool_Has.p1959 k ..) ?_)
      rw [w64 (x := (k : Int) + 1) (by omega)]
      have := ih (k + 1) (by omega) (by omega)
      rw [e, if_neg (by rw [ht]; decide)] at this
      exact Evp.ret this
theorem has_ok (h : PoolIs S M b sl) : Ac P T lo F.pool_Pool_Has [.pointer (some ⟨b, 0, none⟩)] M fun r => r = (.int .i64 (hasN sl 8), M) := by
  obtain ⟨R, hR, h2⟩ := h
  refine Ac.of (Evp.of_eq (fun k => pool_Pool_Has.entry k ..) ?_)
  refine Evp.ob (pnone_ok _ _ _ _ hR) ?_
  rintro _ rfl
  simp only [ret_int, ret_bool, ret_flt, ret_slc, ret_str, ret_ptr, ret_agg, ret_tup, ob_some, bb_true, bb_false, List.getElem?_cons_zero, List.getElem?_cons_succ, List.length_cons, List.length_nil, Nat.reduceAdd, Nat.reduceLT]
  refine Evp.ff rfl ?_
  refine evp_ld11 (hR.ld 0 0 (by decide) (by decide) _ rfl) (hR.ld 0 1 (by decide) (by decide) _ rfl) (hR.ld 0 2 (by decide) (by decide) _ rfl) (hR.ld 0 3 (by decide) (by decide) _ rfl) (hR.ld 0 4 (by decide) (by decide) _ rfl) (hR.ld 0 5 (by decide) (by decide) _ rfl) (hR.ld 0 6 (by decide) (by decide) _ rfl) (hR.ld 0 7 (by decide) (by decide) _ rfl) (hR.ld 0 8 (by decide) (by decide) _ rfl) (hR.ld 0 9 (by decide) (by decide) _ rfl) (hR.ld 0 10 (by decide) (by decide) _ rfl) ?_
  refine evp_ld11 (hR.ld 1 0 (by decide) (by decide) _ rfl) (hR.ld 1 1 (by decide) (by decide) _ rfl) (hR.ld 1 2 (by decide) (by decide) _ rfl) (hR.ld 1 3 (by decide) (by decide) _ rfl) (hR.ld 1 4 (by decide) (by decide) _ rfl) (hR.ld 1 5 (by decide) (by decide) _ rfl) (hR.ld 1 6 (by decide) (by decide) _ rfl) (hR.ld 1 7 (by decide) (by decide) _ rfl) (hR.ld 1 8 (by decide) (by decide) _ rfl) (hR.ld 1 9 (by decide) (by decide) _ rfl) (hR.ld 1 10 (by decide) (by decide) _ rfl) ?_
  refine evp_ld11 (hR.ld 2 0 (by decide) (by decide) _ rfl) (hR.ld 2 1 (by decide) (by decide) _ rfl) (hR.ld 2 2 (by decide) (by decide) _ rfl) (hR.ld 2 3 (by decide) (by decide) _ rfl) (hR.ld 2 4 (by decide) (by decide) _ rfl) (hR.ld 2 5 (by decide) (by decide) _ rfl) (hR.ld 2 6 (by decide) (by decide) _ rfl) (hR.ld 2 7 (by decide) (by decide) _ rfl) (hR.ld 2 8 (by decide) (by decide) _ rfl) (hR.ld 2 9 (by decide) (by decide) _ rfl) (hR.ld 2 10 (by decide) (by decide) _ rfl) ?_
  refine evp_ld11 (hR.ld 3 0 (by decide) (by decide) _ rfl) (hR.ld 3 1 (by decide) (by decide) _ rfl) (hR.ld 3 2 (by decide) (by decide) _ rfl) (hR.ld 3 3 (by decide) (by decide) _ rfl) (hR.ld 3 4 (by decide) (by decide) _ rfl) (hR.ld 3 5 (by decide) (by decide) _ rfl) (hR.ld 3 6 (by decide) (by decide) _ rfl) (hR.ld 3 7 (by decide) (by decide) _ rfl) (hR.ld 3 8 (by decide) (by decide) _ rfl) (hR.ld 3 9 (by decide) (by decide) _ rfl) (hR.ld 3 10 (by decide) (by decide) _ rfl) ?_
  refine evp_ld11 (hR.ld 4 0 (by decide) (by decide) _ rfl) (hR.ld 4 1 (by decide) (by decide) _ rfl) (hR.ld 4 2 (by decide) (by decide) _ rfl) (hR.ld 4 3 (by decide) (by decide) _ rfl) (hR.ld 4 4 (by decide) (by decide) _ rfl) (hR.ld 4 5 (by decide) (by decide) _ rfl) (hR.ld 4 6 (by decide) (by decide) _ rfl) (hR.ld 4 7 (by decide) (by decide) _ rfl) (hR.ld 4 8 (by decide) (by decide) _ rfl) (hR.ld 4 9 (by decide) (by decide) _ rfl) (hR.ld 4 10 (by decide) (by decide) _ rfl) ?_
  refine evp_ld11 (hR.ld 5 0 (by decide) (by decide) _ rfl) (hR.ld 5 1 (by decide) (by decide) _ rfl) (hR.ld 5 2 (by decide) (by decide) _ rfl) (hR.ld 5 3 (by decide) (by decide) _ rfl) (hR.ld 5 4 (by decide) (by decide) _ rfl) (hR.ld 5 5 (by decide) (by decide) _ rfl) (hR.ld 5 6 (by decide) (by decide) _ rfl) (hR.ld 5 7 (by decide) (by decide) _ rfl) (hR.ld 5 8 (by decide) (by decide) _ rfl) (hR.ld 5 9 (by decide) (by decide) _ rfl) (hR.ld 5 10 (by decide) (by decide) _ rfl) ?_
  refine evp_ld11 (hR.ld 6 0 (by decide) (by decide) _ rfl) (hR.ld 6 1 (by decide) (by decide) _ rfl) (hR.ld 6 2 (by decide) (by decide) _ rfl) (hR.ld 6 3 (by decide) (by decide) _ rfl) (hR.ld 6 4 (by decide) (by decide) _ rfl) (hR.ld 6 5 (by decide) (by decide) _ rfl) (hR.ld 6 6 (by decide) (by decide) _ rfl) (hR.ld 6 7 (by decide) (by decide) _ rfl) (hR.ld 6 8 (by decide) (by decide) _ rfl) (hR.ld 6 9 (by decide) (by decide) _ rfl) (hR.ld 6 10 (by decide) (by decide) _ rfl) ?_
  refine evp_ld11 (hR.ld 7 0 (by decide) (by decide) _ rfl) (hR.ld 7 1 (by decide) (by decide) _ rfl) (hR.ld 7 2 (by decide) (by decide) _ rfl) (hR.ld 7 3 (by decide) (by decide) _ rfl) (hR.ld 7 4 (by decide) (by decide) _ rfl) (hR.ld 7 5 (by decide) (by decide) _ rfl) (hR.ld 7 6 (by decide) (by decide) _ rfl) (hR.ld 7 7 (by decide) (by decide) _ rfl) (hR.ld 7 8 (by decide) (by decide) _ rfl) (hR.ld 7 9 (by decide) (by decide) _ rfl) (hR.ld 7 10 (by decide) (by decide) _ rfl) ?_
  exact Evp.ret (has_loop lo S sl R M h2 _ 0 rfl (by omega))
def bitS (r : Int) (k : Nat) : Bool := decide (r / 2 ^ k % 2 = 1)
def putS (sl : Nat → Option SlotV) (r : Int) (v : SlotV) : Nat → Option SlotV := fun k => if bitS r k = true then some v else sl k
def PutP (r : Int) (f : FrV) (rows : List (List Tb)) : Prop := 0 ≤ r ∧ r ≤ 255 ∧ WholeF f ∧ SetP rows
theorem bit_eq (r : Int) (k : Nat) (hk : k ≤ 8) : (andI .i64 (shrI .i64 r k) 1 == 1) = bitS r k := by
  rw [shr_eq k (by omega), show (1 : Int) = 2 ^ 1 - 1 from rfl, and_mask 1 (by omega)]
  unfold bitS
  rw [show ((2 : Int) ^ 1 - 1) = 1 from rfl, show ((2 : Int) ^ 1) = 2 from rfl]
  cases h : (r / 2 ^ k % 2 == 1) with
  | true => rw [decide_eq_true (by simpa using h)]
  | false => rw [decide_eq_false (by simpa using h)]
section
variable (A0 A1 A2 As : Option Addr) (c0 c1 c2 cs : Nat) (f : FrV) (rows : List (List Tb)) (r : Int) (S' : Nat → Prop)
theorem put_bad (h : PoolIs S M b sl) (hset : SetIs S' M As rows) (hb : ∀ row ∈ rows, row.length ≤ 140737488355328 ∧ ∀ t ∈ row, t.1.length ≤ 140737488355328) (hp : ¬ PutP r f rows) :
    Ac P T lo F.pool_Pool_Put [.pointer (some ⟨b, 0, none⟩), .int .i64 r, .agg ⟨[.int .i64 f.w0, .int .i64 f.h0, .slice A0 f.x0.length c0, .int .i64 f.w1, .int .i64 f.h1, .slice A1 f.x1.length c1, .int .i64 f.w2, .int .i64 f.h2, .slice A2 f.x2.length c2]⟩, .agg ⟨[.slice As rows.length cs]⟩] M fun q => q = (.int .i64 2, M) := by
  obtain ⟨R, hR, h2⟩ := h
  refine Ac.of (Evp.of_eq (fun k => pool_Pool_Put.entry k ..) ?_)
  refine Evp.ob (pnone_ok _ _ _ _ hR) ?_
  rintro _ rfl
  simp only [ret_int, ret_bool, ret_flt, ret_slc, ret_str, ret_ptr, ret_agg, ret_tup, ob_some, bb_true, bb_false, List.getElem?_cons_zero, List.getElem?_cons_succ, List.length_cons, List.length_nil, Nat.reduceAdd, Nat.reduceLT]
  refine Evp.ff rfl (Evp.dec (fun _ => Evp.ret (Run.ret rfl)) fun h1 => Evp.dec (fun _ => Evp.ret (Run.ret rfl)) fun h2 => ?_)
  refine Evp.ob (whole_ok ..) ?_
  rintro _ rfl
  simp only [ret_int, ret_bool, ret_flt, ret_slc, ret_str, ret_ptr, ret_agg, ret_tup, ob_some, bb_true, bb_false, List.getElem?_cons_zero, List.getElem?_cons_succ, List.length_cons, List.length_nil, Nat.reduceAdd, Nat.reduceLT]
  refine Evp.neb (fun _ => Evp.ret (Run.ret rfl)) fun h3 => ?_
  refine Evp.ob (scheck_ok lo S' As cs rows M hset hb) ?_
  rintro _ rfl
  simp only [ret_int, ret_bool, ret_flt, ret_slc, ret_str, ret_ptr, ret_agg, ret_tup, ob_some, bb_true, bb_false, List.getElem?_cons_zero, List.getElem?_cons_succ, List.length_cons, List.length_nil, Nat.reduceAdd, Nat.reduceLT]
  refine Evp.neb (fun _ => Evp.ret (Run.ret rfl)) fun h4 => absurd ⟨by omega, by omega, ?_, ?_⟩ hp
  · unfold wholeS at h3
    split at h3
    · assumption
    · cases h3
  · unfold setS at h4
    split at h4
    · assumption
    · cases h4
theorem put_loop (X : RawS) (hr : 0 ≤ r) (hlo : lo ≤ b) : ∀ (d i : Nat) (M1 : Mem), 8 - i = d → i ≤ 8 → KeepB b M M1 → M1.length = M.length → PoolRaw M1 b (fun n => if n < i ∧ bitS r n = true then X else R n) →
    Run P T lo F.pool_Pool_Put (pool_Pool_Put.c244 ⟨b, 0, none⟩ r (i : Int) X.t X.w0 X.h0 X.A0 X.n0 X.c0 X.w1 X.h1 X.A1 X.n1 X.c1 X.w2 X.h2 X.A2 X.n2 X.c2 X.As X.ns X.cs M1) fun q => ∃ M', q = (.int .i64 0, M') ∧ KeepB b M M' ∧ M'.length = M.length ∧ PoolRaw M' b (fun n => if n < 8 ∧ bitS r n = true then X else R n) := by
  intro d
  induction d with
  | zero =>
    intro i M1 hd hi hk hl hp
    obtain rfl : i = 8 := by omega
    refine Run.cut (Evp.of_eq (fun k => pool_Pool_Put.p244 k ..) ?_)
    exact Evp.dec (fun h => absurd h (by omega)) fun _ => Evp.ret (Run.ret ⟨M1, rfl, hk, hl, hp⟩)
  | succ d ih =>
    intro i M1 hd hi hk hl hp
    refine Run.cut (Evp.of_eq (fun k => pool_Pool_Put.p244 k ..) ?_)
    refine Evp.dec (fun _ => ?_) fun h => absurd h (by omega)
    refine Evp.neg (by omega) ?_
    simp only [Int.toNat_natCast]
    rw [bit_eq r i (by omega)]
    refine Evp.bb (fun hbit => ?_) fun hbit => Evp.ret ?_
    · refine Evp.pos (by omega) ?_
      obtain ⟨M2, g1, g2, g3, g4⟩ := hp.put (lo := lo) X (i := i) (by omega) hlo
      refine Evp.some g1 (Evp.ret ?_)
      refine Run.cut (Evp.of_eq (fun k => pool_Pool_Put.p1959 k ..) ?_)
      rw [w64 (x := (i : Int) + 1) (by omega)]
      refine Evp.ret (ih (i + 1) M2 (by omega) (by omega) (hk.trans g3) (by omega) ?_)
      have e : (fun n => if n < i + 1 ∧ bitS r n = true then X else R n) = fun n => if n = i then X else if n < i ∧ bitS r n = true then X else R n := by
        funext n
        by_cases hn : n = i
        · subst hn; rw [if_pos ⟨by omega, hbit⟩, if_pos rfl]
        · rw [if_neg hn]
          by_cases hn2 : n < i
          · by_cases hb : bitS r n = true
            · rw [if_pos ⟨by omega, hb⟩, if_pos ⟨hn2, hb⟩]
            · rw [if_neg (fun e => hb e.2), if_neg (fun e => hb e.2)]
          · rw [if_neg (by omega), if_neg (by omega)]
      rw [e]; exact g2
    · refine Run.cut (Evp.of_eq (fun k => pool_Pool_Put.p1959 k ..) ?_)
      rw [w64 (x := (i : Int) + 1) (by omega)]
      refine Evp.ret (ih (i + 1) M1 (by omega) (by omega) hk hl ?_)
      have e : (fun n => if n < i + 1 ∧ bitS r n = true then X else R n) = fun n => if n < i ∧ bitS r n = true then X else R n := by
        funext n
        by_cases hn : n = i
        · subst hn; rw [if_neg (fun e => by rw [hbit] at e; exact absurd e.2 (by decide)), if_neg (by omega)]
        · by_cases hn2 : n < i
          · by_cases hb : bitS r n = true
            · rw [if_pos ⟨by omega, hb⟩, if_pos ⟨hn2, hb⟩]
            · rw [if_neg (fun e => hb e.2), if_neg (fun e => hb e.2)]
          · rw [if_neg (by omega), if_neg (by omega)]
      rw [e]; exact hp
theorem put_ok (h : PoolIs S M b sl) (hSb : ¬ S b) (S2 : Nat → Prop) (hfr : FrIs S2 M A0 A1 A2 f) (hset : SetIs S' M As rows) (hp : PutP r f rows) (hlo : lo ≤ b) :
    Ac P T lo F.pool_Pool_Put [.pointer (some ⟨b, 0, none⟩), .int .i64 r, .agg ⟨[.int .i64 f.w0, .int .i64 f.h0, .slice A0 f.x0.length c0, .int .i64 f.w1, .int .i64 f.h1, .slice A1 f.x1.length c1, .int .i64 f.w2, .int .i64 f.h2, .slice A2 f.x2.length c2]⟩, .agg ⟨[.slice As rows.length cs]⟩] M fun q => ∃ M', q = (.int .i64 0, M') ∧ KeepB b M M' ∧ M.length ≤ M'.length ∧ PoolIs (fun x => S x ∨ M.length ≤ x) M' b (putS sl r (f, rows)) := by
  obtain ⟨h1, h2, h3, h4⟩ := hp
  have hin := h.in_
  have hne := h4.ne
  obtain ⟨R, hR, hsl⟩ := h
  refine Ac.of (Evp.of_eq (fun k => pool_Pool_Put.entry k ..) ?_)
  refine Evp.ob (pnone_ok _ _ _ _ hR) ?_
  rintro _ rfl
  simp only [ret_int, ret_bool, ret_flt, ret_slc, ret_str, ret_ptr, ret_agg, ret_tup, ob_some, bb_true, bb_false, List.getElem?_cons_zero, List.getElem?_cons_succ, List.length_cons, List.length_nil, Nat.reduceAdd, Nat.reduceLT]
  refine Evp.ff rfl (Evp.dec (fun h => absurd h (by omega)) fun _ => Evp.dec (fun h => absurd h (by omega)) fun _ => ?_)
  refine Evp.ob (whole_ok ..) ?_
  rintro _ rfl
  simp only [ret_int, ret_bool, ret_flt, ret_slc, ret_str, ret_ptr, ret_agg, ret_tup, ob_some, bb_true, bb_false, List.getElem?_cons_zero, List.getElem?_cons_succ, List.length_cons, List.length_nil, Nat.reduceAdd, Nat.reduceLT]
  refine Evp.neb (fun h => absurd (by unfold wholeS; exact if_pos h3) h) fun _ => ?_
  refine Evp.ob (scheck_ok lo S' As cs rows M hset fun row hrow => ⟨by have := (hne.2 row hrow).2.1; omega, fun t ht => by have := ((hne.2 row hrow).2.2 t ht).2; omega⟩) ?_
  rintro _ rfl
  simp only [ret_int, ret_bool, ret_flt, ret_slc, ret_str, ret_ptr, ret_agg, ret_tup, ob_some, bb_true, bb_false, List.getElem?_cons_zero, List.getElem?_cons_succ, List.length_cons, List.length_nil, Nat.reduceAdd, Nat.reduceLT]
  refine Evp.neb (fun h => absurd (by unfold setS; rw [if_pos h4]) h) fun _ => ?_
  refine Evp.ob (fcopied_ok _ S2 A0 A1 A2 c0 c1 c2 f M hfr h3 (by omega)) ?_
  rintro _ ⟨a0, a1, a2, d0, d1, d2, M1, rfl, p1, b0, b1, b2, _⟩
  simp only [ret_int, ret_bool, ret_flt, ret_slc, ret_str, ret_ptr, ret_agg, ret_tup, ob_some, bb_true, bb_false, List.getElem?_cons_zero, List.getElem?_cons_succ, List.length_cons, List.length_nil, Nat.reduceAdd, Nat.reduceLT]
  have l1 := p1.len
  refine Evp.ob (scopy_ok lo S' As cs rows M1 (hset.pre p1) h4 (by omega)) ?_
  rintro _ ⟨sa, cc, M2, rfl, p2, hs2⟩
  simp only [ret_int, ret_bool, ret_flt, ret_slc, ret_str, ret_ptr, ret_agg, ret_tup, ob_some, bb_true, bb_false, List.getElem?_cons_zero, List.getElem?_cons_succ, List.length_cons, List.length_nil, Nat.reduceAdd, Nat.reduceLT]
  have l2 := p2.len
  have e0 : (fun n => if n < 0 ∧ bitS r n = true then (⟨true, f.w0, f.h0, some a0, f.x0.length, d0, f.w1, f.h1, some a1, f.x1.length, d1, f.w2, f.h2, some a2, f.x2.length, d2, some sa, rows.length, cc⟩ : RawS) else R n) = R := by
    funext n; rw [if_neg (by omega)]
  refine Evp.ret ((put_loop lo b R M2 r ⟨true, f.w0, f.h0, some a0, f.x0.length, d0, f.w1, f.h1, some a1, f.x1.length, d1, f.w2, f.h2, some a2, f.x2.length, d2, some sa, rows.length, cc⟩ h1 hlo _ 0 M2 rfl (by omega) (KeepB.refl _ _) rfl (by rw [e0]; exact hR.keep fun k hk => p2 _ _ (p1 _ _ hk))).mono ?_)
  rintro q ⟨M', rfl, kb, hl, hraw⟩
  have kS : KeepS (fun x => S x ∨ M.length ≤ x) M2 M' := kb.keepS fun h => h.elim hSb fun h => by omega
  refine ⟨M', rfl, ((p1.trans p2).keepB b).trans kb, by omega, _, hraw, fun n hn => ?_⟩
  by_cases hbit : bitS r n = true
  · simp only [hn, hbit, and_self, if_true]
    have e : putS sl r (f, rows) n = some (f, rows) := by unfold putS; rw [if_pos hbit]
    rw [e]
    have n0 := b0.new
    have n1 := b1.new
    have n2 := b2.new
    refine SlotIs.keepS (o := some (f, rows)) (S := fun x => S x ∨ M.length ≤ x) (M := M2) ?_ kS
    exact ⟨rfl, rfl, rfl, rfl, rfl, rfl, rfl, rfl, rfl, rfl, ⟨fun a ha => by injection ha with ha; subst ha; exact .inr n0, fun a ha => by injection ha with ha; subst ha; exact .inr n1, fun a ha => by injection ha with ha; subst ha; exact .inr n2, (b0.rdI).pre p2, (b1.rdI).pre p2, (b2.rdI).pre p2⟩, rfl, hs2.mono fun x hx => .inr (by omega), h3, h4⟩
  · simp only [if_neg (fun e : n < 8 ∧ bitS r n = true => hbit e.2)]
    have e : putS sl r (f, rows) n = sl n := by unfold putS; rw [if_neg hbit]
    rw [e]
    exact SlotIs.keepS (S := fun x => S x ∨ M.length ≤ x) (((hsl n hn).keepS ((p1.trans p2).keepS)).mono fun x hx => Or.inl hx) kS
end
end
end Go.Zt
