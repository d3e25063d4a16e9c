/- The taps of both texts. -/
import Derived.Test.YtgpobephldelaaaFa
set_option linter.unusedVariables false
set_option linter.unusedSimpArgs false
namespace Go.Zt
theorem Buf.ldI {M0 M : Mem} {a : Addr} {k : IntKind} {xs : List Int} (h : Buf M0 M a (xs.map (Value.int k))) {i : Nat} (hi : i < xs.length) : (M.ld (plus a i)).bind (Value.int? k) = some (xs.getD i 0) := by
  obtain ⟨a', e, _, h2⟩ := h.rdI.ld hi
  injection e with e; subst e
  rw [h2]; simp [Value.int?]
theorem rowT_map (tab : List Int) (n : Nat) : (rowT tab n).map (Value.int .i64) = [.int .i64 (tab.getD (0 + n * 8 + 0) 0), .int .i64 (tab.getD (0 + n * 8 + 1) 0), .int .i64 (tab.getD (0 + n * 8 + 2) 0), .int .i64 (tab.getD (0 + n * 8 + 3) 0), .int .i64 (tab.getD (0 + n * 8 + 4) 0), .int .i64 (tab.getD (0 + n * 8 + 5) 0), .int .i64 (tab.getD (0 + n * 8 + 6) 0), .int .i64 (tab.getD (0 + n * 8 + 7) 0)] := rfl
theorem list8 (l : List Int) (h : l.length = 8) : l.map (Value.int .i64) = [.int .i64 (l.getD 0 0), .int .i64 (l.getD 1 0), .int .i64 (l.getD 2 0), .int .i64 (l.getD 3 0), .int .i64 (l.getD 4 0), .int .i64 (l.getD 5 0), .int .i64 (l.getD 6 0), .int .i64 (l.getD 7 0)] := by
  match l, h with
  | [a, b, c, d, e, f, g, i], _ => rfl
theorem tapsS_bad {kind at_ : Int} (h : at_ < 0 ∨ at_ > 15 ∨ kind < 0 ∨ kind > 2) : tapsS kind at_ = [0, 0, 0, 0, 0, 0, 0, 0] ∧ tapsE kind at_ = 2 := by
  unfold tapsS tapsE; rw [if_pos h, if_pos h]; exact ⟨rfl, rfl⟩
theorem tapsE_ok {kind at_ : Int} (h : ¬ (at_ < 0 ∨ at_ > 15 ∨ kind < 0 ∨ kind > 2)) : tapsE kind at_ = 0 := by unfold tapsE; rw [if_neg h]

/-- The reverse of a row, in the program's way. -/
theorem half_rev (lo : Nat) (M : Mem) (l : List Int) (hl : l.length = 8) (hlo : lo ≤ M.length) {vs : List Value} (hv : vs = l.map (Value.int .i64)) {Q : Out → Prop} {f : Nat → Value × Mem → List Value → Option Out}
    (hf : ∀ M', Pre M M' → Buf M M' ⟨M.length, 0, none⟩ (l.reverse.map (Value.int .i64)) → Evp (fun k => f k (.tuple ⟨[]⟩, M') []) Q) :
    Evp (fun k => ob ((M ++ [⟨.fx, [.int .i64 0, .int .i64 0, .int .i64 0, .int .i64 0, .int .i64 0, .int .i64 0, .int .i64 0, .int .i64 0]⟩] : Mem).st lo ⟨M.length, 0, none⟩ vs) fun M172 =>
      pb ((none : Option Nat) = none) (pb (0 ≤ (0 : Int) ∧ (0 : Int) ≤ (8 : Int))
        (ob (acall P T k lo F.slices_Reverse__int_int [.slice (slAddr 1 (some ⟨M.length, 0, none⟩) 0 8) 8 8] M172) fun r173 => ob (r173.1.tup? 0) fun l174 => f k r173 l174) none) none) Q := by
  subst hv
  obtain ⟨M1, h1, h2, h3, h4, h5⟩ := (Buf.push (cs := [.int .i64 0, .int .i64 0, .int .i64 0, .int .i64 0, .int .i64 0, .int .i64 0, .int .i64 0, .int .i64 0]) (Pre.refl M)).st (lo := lo) (i := 0) (vs := l.map (Value.int .i64)) (Pre.app _ _) hlo (by simp [hl])
  refine Evp.some h1 (Evp.pos rfl (Evp.pos (by omega) ?_))
  have e : setL [Value.int .i64 0, .int .i64 0, .int .i64 0, .int .i64 0, .int .i64 0, .int .i64 0, .int .i64 0, .int .i64 0] 0 (l.map (Value.int .i64)) = l.map (Value.int .i64) := by
    rw [list8 l hl]; rfl
  rw [e] at h2
  have e2 : slAddr 1 (some ⟨M.length, 0, none⟩) 0 8 = some ⟨M.length, 0, none⟩ := rfl
  rw [e2]
  have := reverse_ok lo 8 M M1 ⟨M.length, 0, none⟩ l hlo (by omega) h3 h2
  rw [hl] at this
  refine Evp.ob this ?_
  rintro _ ⟨M', rfl, g1, _, _, g2⟩
  simp only [ret_int, ret_bool, ret_flt, ret_slc, ret_str, ret_ptr, ret_agg, ret_tup, ob_some, bb_true, bb_false, List.getElem?_cons_zero, List.getElem?_cons_succ, List.length_cons, List.length_nil, Nat.reduceAdd, Nat.reduceLT]
  exact hf M' g1 g2

theorem taps_ok (lo : Nat) (kind at_ : Int) (M : Mem) (hlo : lo ≤ M.length) : Ac P T lo F.subpel_Taps [.int .i64 kind, .int .i64 at_] M fun r => ∃ M', r = (.tuple ⟨[.agg ⟨(tapsS kind at_).map (Value.int .i64)⟩, .int .i64 (tapsE kind at_)]⟩, M') ∧ Pre M M' := by
  refine Ac.of (Evp.of_eq (fun k => subpel_Taps.entry k ..) ?_)
  refine Evp.dec (fun h => ?_) fun h1 => ?_
  · obtain ⟨e1, e2⟩ := tapsS_bad (kind := kind) (at_ := at_) (.inl h)
    rw [e1, e2]; exact Evp.ret (Run.ret ⟨_, rfl, Pre.refl _⟩)
  refine Evp.dec (fun h => ?_) fun h2 => ?_
  · obtain ⟨e1, e2⟩ := tapsS_bad (kind := kind) (at_ := at_) (.inr (.inl h))
    rw [e1, e2]; exact Evp.ret (Run.ret ⟨_, rfl, Pre.refl _⟩)
  refine Evp.ob (soft_ok ..) ?_
  rintro _ rfl
  refine Evp.some (b := softL.map (Value.int .i64)) rfl ?_
  iterate 72 refine Evp.some rfl ?_
  refine Evp.eqb (fun h3 => ?_) fun h3 => ?_
  · subst h3
    rw [w64 (x := 8 * at_) (by omega), w64 (by omega), tapsE_ok (by omega)]
    refine Evp.ret (Run.ret ⟨_, ?_, Pre.refl _⟩)
    unfold tapsS
    rw [if_neg (by omega), if_pos rfl]; rfl
  refine Evp.eqb (fun h4 => ?_) fun h4 => ?_
  · subst h4
    refine Evp.ob (sharp_ok ..) ?_
    rintro _ rfl
    refine Evp.some (b := sharpL.map (Value.int .i64)) rfl ?_
    iterate 72 refine Evp.some rfl ?_
    have el : sharpL.length = 72 := rfl
    refine Evp.dec (fun h5 => ?_) fun h5 => ?_
    · refine Evp.pos (by omega) ?_
      refine Evp.some (tab_get sharpL _ (by omega)) ?_
      refine Evp.some (tab_get sharpL _ (by omega)) ?_
      refine Evp.some (tab_get sharpL _ (by omega)) ?_
      refine Evp.some (tab_get sharpL _ (by omega)) ?_
      refine Evp.some (tab_get sharpL _ (by omega)) ?_
      refine Evp.some (tab_get sharpL _ (by omega)) ?_
      refine Evp.some (tab_get sharpL _ (by omega)) ?_
      refine Evp.some (tab_get sharpL _ (by omega)) ?_
      refine Evp.ret (Run.ret ⟨_, ?_, Pre.refl _⟩)
      rw [tapsE_ok (by omega)]
      unfold tapsS
      rw [if_neg (by omega), if_neg (by omega), if_pos h5, if_pos rfl, rowT_map]
    · rw [w64 (by omega)]
      refine Evp.pos (by omega) ?_
      refine Evp.some (tab_get sharpL _ (by omega)) ?_
      refine Evp.some (tab_get sharpL _ (by omega)) ?_
      refine Evp.some (tab_get sharpL _ (by omega)) ?_
      refine Evp.some (tab_get sharpL _ (by omega)) ?_
      refine Evp.some (tab_get sharpL _ (by omega)) ?_
      refine Evp.some (tab_get sharpL _ (by omega)) ?_
      refine Evp.some (tab_get sharpL _ (by omega)) ?_
      refine Evp.some (tab_get sharpL _ (by omega)) ?_
      dsimp only
      refine half_rev lo M (rowT sharpL (16 - at_).toNat) rfl hlo (hv := ?_) fun M' g1 g2 => ?_
      · rfl
      dsimp only
      have gl : (rowT sharpL (16 - at_).toNat).reverse.length = 8 := rfl
      refine Evp.some (g2.ldI (i := 0) (by omega)) ?_
      refine Evp.some (g2.ldI (i := 1) (by omega)) ?_
      refine Evp.some (g2.ldI (i := 2) (by omega)) ?_
      refine Evp.some (g2.ldI (i := 3) (by omega)) ?_
      refine Evp.some (g2.ldI (i := 4) (by omega)) ?_
      refine Evp.some (g2.ldI (i := 5) (by omega)) ?_
      refine Evp.some (g2.ldI (i := 6) (by omega)) ?_
      refine Evp.some (g2.ldI (i := 7) (by omega)) ?_
      refine Evp.ret (Run.ret ⟨_, ?_, g1⟩)
      rw [tapsE_ok (by omega)]
      unfold tapsS
      rw [if_neg (by omega), if_neg (by omega), if_neg h5, if_pos rfl]; rfl
  refine Evp.eqb (fun h4 => ?_) fun h4 => ?_
  · subst h4
    have el : softL.length = 72 := rfl
    refine Evp.dec (fun h5 => ?_) fun h5 => ?_
    · refine Evp.pos (by omega) ?_
      refine Evp.some (tab_get softL _ (by omega)) ?_
      refine Evp.some (tab_get softL _ (by omega)) ?_
      refine Evp.some (tab_get softL _ (by omega)) ?_
      refine Evp.some (tab_get softL _ (by omega)) ?_
      refine Evp.some (tab_get softL _ (by omega)) ?_
      refine Evp.some (tab_get softL _ (by omega)) ?_
      refine Evp.some (tab_get softL _ (by omega)) ?_
      refine Evp.some (tab_get softL _ (by omega)) ?_
      refine Evp.ret (Run.ret ⟨_, ?_, Pre.refl _⟩)
      rw [tapsE_ok (by omega)]
      unfold tapsS
      rw [if_neg (by omega), if_neg (by omega), if_pos h5, if_neg (by omega), rowT_map]
    · rw [w64 (by omega)]
      refine Evp.pos (by omega) ?_
      refine Evp.some (tab_get softL _ (by omega)) ?_
      refine Evp.some (tab_get softL _ (by omega)) ?_
      refine Evp.some (tab_get softL _ (by omega)) ?_
      refine Evp.some (tab_get softL _ (by omega)) ?_
      refine Evp.some (tab_get softL _ (by omega)) ?_
      refine Evp.some (tab_get softL _ (by omega)) ?_
      refine Evp.some (tab_get softL _ (by omega)) ?_
      refine Evp.some (tab_get softL _ (by omega)) ?_
      dsimp only
      refine half_rev lo M (rowT softL (16 - at_).toNat) rfl hlo (hv := ?_) fun M' g1 g2 => ?_
      · rfl
      dsimp only
      have gl : (rowT softL (16 - at_).toNat).reverse.length = 8 := rfl
      refine Evp.some (g2.ldI (i := 0) (by omega)) ?_
      refine Evp.some (g2.ldI (i := 1) (by omega)) ?_
      refine Evp.some (g2.ldI (i := 2) (by omega)) ?_
      refine Evp.some (g2.ldI (i := 3) (by omega)) ?_
      refine Evp.some (g2.ldI (i := 4) (by omega)) ?_
      refine Evp.some (g2.ldI (i := 5) (by omega)) ?_
      refine Evp.some (g2.ldI (i := 6) (by omega)) ?_
      refine Evp.some (g2.ldI (i := 7) (by omega)) ?_
      refine Evp.ret (Run.ret ⟨_, ?_, g1⟩)
      rw [tapsE_ok (by omega)]
      unfold tapsS
      rw [if_neg (by omega), if_neg (by omega), if_neg h5, if_neg (by omega)]; rfl
  · obtain ⟨e1, e2⟩ := tapsS_bad (kind := kind) (at_ := at_) (by omega)
    rw [e1, e2]; exact Evp.ret (Run.ret ⟨_, rfl, Pre.refl _⟩)
end Go.Zt
