/- A block's direction, the program's: weights. -/
import Derived.Test.YtkbdmbjhgomaiaaFb
set_option linter.unusedVariables false
set_option linter.unusedSimpArgs false
set_option maxRecDepth 100000
namespace Go.Zt
def manyL (d : Nat) : List Int := [manyD d 0 64, manyD d 1 64, manyD d 2 64, manyD d 3 64, manyD d 4 64, manyD d 5 64, manyD d 6 64, manyD d 7 64, manyD d 8 64, manyD d 9 64, manyD d 10 64, manyD d 11 64, manyD d 12 64, manyD d 13 64, manyD d 14 64, manyD d 15 64]
theorem manyL_get {d k : Nat} (hk : k < 16) : (manyL d).getD k 0 = manyD d k 64 := by
  have : k = 0 ∨ k = 1 ∨ k = 2 ∨ k = 3 ∨ k = 4 ∨ k = 5 ∨ k = 6 ∨ k = 7 ∨ k = 8 ∨ k = 9 ∨ k = 10 ∨ k = 11 ∨ k = 12 ∨ k = 13 ∨ k = 14 ∨ k = 15 := by omega
  rcases this with rfl | rfl | rfl | rfl | rfl | rfl | rfl | rfl | rfl | rfl | rfl | rfl | rfl | rfl | rfl | rfl <;> rfl
def WgtI (b : List Int) (d k : Nat) (G : List Int) : Prop := G.length = 8 ∧ ∀ d', d' < 8 → G.getD d' 0 = if d' < d then wgtD b d' 16 else if d' = d then wgtD b d k else 0
theorem WgtI.start (b : List Int) : WgtI b 0 0 [0, 0, 0, 0, 0, 0, 0, 0] := ⟨rfl, fun d' h => by
  have : ([0, 0, 0, 0, 0, 0, 0, 0] : List Int).getD d' 0 = 0 := by
    have : d' = 0 ∨ d' = 1 ∨ d' = 2 ∨ d' = 3 ∨ d' = 4 ∨ d' = 5 ∨ d' = 6 ∨ d' = 7 := by omega
    rcases this with rfl | rfl | rfl | rfl | rfl | rfl | rfl | rfl <;> rfl
  rw [this, if_neg (by omega)]
  split <;> rfl⟩
theorem WgtI.turn {b : List Int} {d : Nat} {G : List Int} (h : WgtI b d 16 G) : WgtI b (d + 1) 0 G := ⟨h.1, fun d' hd => by
  rw [h.2 d' hd]
  by_cases g : d' < d
  · rw [if_pos g, if_pos (by omega)]
  · rw [if_neg g]
    by_cases g2 : d' = d
    · subst g2; rw [if_pos rfl, if_pos (by omega)]
    · rw [if_neg g2, if_neg (by omega)]
      split
      · simp [wgtD]
      · rfl⟩
theorem WgtI.next {b : List Int} {d k : Nat} {G : List Int} (h : WgtI b d k G) (hd : d < 8) {v : Int} (hv : v = wgtD b d (k + 1)) : WgtI b d (k + 1) (G.set d v) := ⟨by simpa using h.1, fun d' hd' => by
  have h1 := h.1
  rw [getD_set (by omega), h.2 d' hd']
  by_cases e : d' = d
  · subst e; rw [if_pos rfl, if_neg (by omega), if_pos rfl, hv]
  · rw [if_neg e, if_neg e, if_neg e]⟩
theorem WgtI.skip {b : List Int} {d k : Nat} {G : List Int} (h : WgtI b d k G) (hz : wgtD b d (k + 1) = wgtD b d k) : WgtI b d (k + 1) G := ⟨h.1, fun d' hd' => by rw [h.2 d' hd', hz]⟩
/-- A direction and its strength. -/
def strD (b : List Int) : Int := (wgtD b (bestD b 8) 16 - wgtD b ((bestD b 8 + 4) % 8) 16) / 1024
section
variable (lo : Nat) (b : List Int) (M : Mem) (bb : Bytes b) (L K : List Int) (hL : SumI b 64 0 L) (hK : ManyI 64 0 K) (Q : Value × Mem → Prop)
include bb hL
theorem dir_weight (x1 : Int) (d : Nat) (hd : d < 8) (next : ∀ G, WgtI b d 16 G → Run P T lo F.cdef_Direction (cdef_Direction.c2074196 x1 d d (manyD d 0 64) (manyD d 1 64) (manyD d 2 64) (manyD d 3 64) (manyD d 4 64) (manyD d 5 64) (manyD d 6 64) (manyD d 7 64) (manyD d 8 64) (manyD d 9 64) (manyD d 10 64) (manyD d 11 64) (manyD d 12 64) (manyD d 13 64) (manyD d 14 64) (manyD d 15 64) 16 (L.map (Value.int .i64)) (K.map (Value.int .i64)) (G.map (Value.int .i64)) M) Q) :
    ∀ (e k : Nat) (G : List Int), 16 - k = e → k ≤ 16 → WgtI b d k G → Run P T lo F.cdef_Direction (cdef_Direction.c2074196 x1 d d (manyD d 0 64) (manyD d 1 64) (manyD d 2 64) (manyD d 3 64) (manyD d 4 64) (manyD d 5 64) (manyD d 6 64) (manyD d 7 64) (manyD d 8 64) (manyD d 9 64) (manyD d 10 64) (manyD d 11 64) (manyD d 12 64) (manyD d 13 64) (manyD d 14 64) (manyD d 15 64) k (L.map (Value.int .i64)) (K.map (Value.int .i64)) (G.map (Value.int .i64)) M) Q := by
  intro e
  induction e with
  | zero =>
    intro k G he hk hG
    obtain rfl : k = 16 := by omega
    exact next G hG
  | succ e ih =>
    intro k G he hk hG
    have hk16 : k < 16 := by omega
    have nx : ∀ G', WgtI b d (k + 1) G' → Run P T lo F.cdef_Direction (cdef_Direction.c16593575 x1 d d (manyD d 0 64) (manyD d 1 64) (manyD d 2 64) (manyD d 3 64) (manyD d 4 64) (manyD d 5 64) (manyD d 6 64) (manyD d 7 64) (manyD d 8 64) (manyD d 9 64) (manyD d 10 64) (manyD d 11 64) (manyD d 12 64) (manyD d 13 64) (manyD d 14 64) (manyD d 15 64) k (L.map (Value.int .i64)) (K.map (Value.int .i64)) (G'.map (Value.int .i64)) M) Q := fun G' hG' => by
      refine Run.cut (Evp.of_eq (fun k => cdef_Direction.p16593575 k ..) ?_)
      rw [w64 (by omega)]
      exact Evp.ret (ih (k + 1) G' (by omega) (by omega) hG')
    have hml : ((manyL d).map (Value.int .i64))[k]?.bind (Value.int? .i64) = some (manyD d k 64) := by rw [tabI (by show k < 16; exact hk16), manyL_get hk16]
    have hs := hL.2 d k hd hk16
    rw [if_neg (by omega)] at hs
    have hg := hG.2 d hd
    rw [if_neg (by omega), if_pos rfl] at hg
    have s := sumD_le bb d k 64
    have q := sq_le (s := sumD b d k 64) (by omega)
    have m := manyD_le d k 64
    have wl := wgtD_le bb d k
    have tl := term_le bb d k
    have l1 := hL.1
    have g1 := hG.1
    refine Run.cut (Evp.of_eq (fun k => cdef_Direction.p2074196 k ..) ?_)
    refine Evp.dec (fun _ => ?_) fun h => absurd h (by omega)
    refine Evp.pos (by omega) ?_
    simp only [Int.toNat_natCast, Nat.add_zero, Nat.zero_add]
    refine Evp.some hml ?_
    refine Evp.eqb (fun h0 => Evp.ret (nx G (hG.skip (by simp only [wgtD]; rw [if_pos h0, Int.add_zero])))) fun h0 => ?_
    rw [if_neg h0] at tl
    refine Evp.pos (by omega) (Evp.some (tabI (by omega)) ?_)
    refine Evp.pos (by omega) (Evp.pos (by omega) (Evp.some (tabI (by omega)) ?_))
    refine Evp.pos (by omega) (Evp.pos (by omega) (Evp.some (tabI (by omega)) ?_))
    refine Evp.neg h0 (Evp.pos (by omega) (Evp.pos (by simp; omega) ?_))
    have dv : Int.tdiv 840 (manyD d k 64) = 840 / manyD d k 64 := Int.tdiv_eq_ediv_of_nonneg (by omega)
    have dl : 0 ≤ 840 / manyD d k 64 ∧ 840 / manyD d k 64 ≤ 840 := ⟨Int.ediv_nonneg (by omega) m.1, Int.ediv_le_self _ (by omega)⟩
    rw [setL_one, set_map, hs, hg, dv, w64 (x := sumD b d k 64 * sumD b d k 64) (by omega), w64 (x := 840 / manyD d k 64) (by omega), w64 (x := sumD b d k 64 * sumD b d k 64 * (840 / manyD d k 64)) (by omega), w64 (by omega)]
    refine Evp.ret (nx _ (hG.next hd ?_))
    simp only [wgtD]
    rw [if_neg h0]
include hK
theorem dir_best (fin : Q (.tuple ⟨[.int .i64 (bestD b 8 : Nat), .int .i64 (strD b), .int .i64 0]⟩, M)) : ∀ (e d : Nat) (G : List Int), 8 - d = e → d ≤ 8 → WgtI b d 0 G →
    Run P T lo F.cdef_Direction (cdef_Direction.c1012 (bestD b d : Nat) d (L.map (Value.int .i64)) (K.map (Value.int .i64)) (G.map (Value.int .i64)) M) Q := by
  intro e
  induction e with
  | zero =>
    intro d G he hd hG
    obtain rfl : d = 8 := by omega
    have bl := bestD_lt b 8
    have g1 := hG.1
    have h1 := hG.2 (bestD b 8) (by omega)
    have h2 := hG.2 ((bestD b 8 + 4) % 8) (by omega)
    rw [if_pos (by omega)] at h1
    rw [if_pos (by omega)] at h2
    have w1 := wgtD_le bb (bestD b 8) 16
    have w2 := wgtD_le bb ((bestD b 8 + 4) % 8) 16
    refine Run.cut (Evp.of_eq (fun k => cdef_Direction.p1012 k ..) ?_)
    refine Evp.dec (fun h => absurd h (by omega)) fun _ => ?_
    have et : Int.tmod (IntKind.i64.wrap (((bestD b 8 : Nat) : Int) + 4)) 8 = (((bestD b 8 + 4) % 8 : Nat) : Int) := by
      rw [w64 (by omega), show ((bestD b 8 : Nat) : Int) + 4 = ((bestD b 8 + 4 : Nat) : Int) by omega]; rfl
    rw [et]
    refine Evp.pos (by omega) ?_
    simp only [Int.toNat_natCast, Nat.add_zero, Nat.zero_add]
    refine Evp.some (tabI (by omega)) (Evp.pos (by omega) (Evp.some (tabI (by omega)) ?_))
    rw [h1, h2, w64 (by omega), shr_eq 10 (by omega)]
    exact Evp.ret (Run.ret fin)
  | succ e ih =>
    intro d G he hd hG
    have hd8 : d < 8 := by omega
    have k1 := hK.1
    have hm : ∀ j, j < 16 → ((K.map (Value.int .i64))[d * 16 + j]?).bind (Value.int? .i64) = some (manyD d j 64) := fun j hj => by
      rw [tabI (by omega), hK.2 d j hd8 hj, if_neg (by omega)]
    refine Run.cut (Evp.of_eq (fun k => cdef_Direction.p1012 k ..) ?_)
    refine Evp.dec (fun _ => ?_) fun h => absurd h (by omega)
    refine Evp.pos (by omega) ?_
    simp only [Int.toNat_natCast, Nat.zero_add]
    refine Evp.some (hm 0 (by omega)) (Evp.some (hm 1 (by omega)) (Evp.some (hm 2 (by omega)) (Evp.some (hm 3 (by omega)) (Evp.some (hm 4 (by omega)) (Evp.some (hm 5 (by omega)) (Evp.some (hm 6 (by omega)) (Evp.some (hm 7 (by omega)) ?_)))))))
    refine Evp.some (hm 8 (by omega)) (Evp.some (hm 9 (by omega)) (Evp.some (hm 10 (by omega)) (Evp.some (hm 11 (by omega)) (Evp.some (hm 12 (by omega)) (Evp.some (hm 13 (by omega)) (Evp.some (hm 14 (by omega)) (Evp.some (hm 15 (by omega)) ?_)))))))
    refine Evp.ret (dir_weight lo b M bb L K hL Q _ d hd8 (fun G' hG' => ?_) 16 0 G rfl (by omega) hG)
    have bl := bestD_lt b d
    have g1 := hG'.1
    have h1 := hG'.2 d hd8
    rw [if_neg (by omega), if_pos rfl] at h1
    have h2 : G'.getD (bestD b d) 0 = wgtD b (bestD b d) 16 := by
      rw [hG'.2 _ (by omega)]
      by_cases g : bestD b d < d
      · rw [if_pos g]
      · have e0 : bestD b d = d := by omega
        rw [if_neg g, if_pos e0, e0]
    refine Run.cut (Evp.of_eq (fun k => cdef_Direction.p2074196 k ..) ?_)
    refine Evp.dec (fun h => absurd h (by decide)) fun _ => ?_
    refine Evp.pos (by omega) ?_
    simp only [Int.toNat_natCast, Nat.add_zero, Nat.zero_add]
    refine Evp.some (tabI (by omega)) (Evp.pos (by omega) ?_)
    refine Evp.some (tabI (by omega)) ?_
    rw [h1, h2]
    have eb : bestD b (d + 1) = if wgtD b d 16 > wgtD b (bestD b d) 16 then d else bestD b d := rfl
    have go : ∀ x : Nat, x = bestD b (d + 1) → Run P T lo F.cdef_Direction (cdef_Direction.c8103 x d (L.map (Value.int .i64)) (K.map (Value.int .i64)) (G'.map (Value.int .i64)) M) Q := fun x hx => by
      subst hx
      refine Run.cut (Evp.of_eq (fun k => cdef_Direction.p8103 k ..) ?_)
      rw [w64 (by omega)]
      exact Evp.ret (ih (d + 1) G' (by omega) (by omega) hG'.turn)
    refine Evp.dec (fun g => Evp.ret (go d (by rw [eb, if_pos g]))) fun g => Evp.ret (go (bestD b d) (by rw [eb, if_neg g]))
end
/-- What Direction hands back. -/
def DirR (b : List Int) (M : Mem) (r : Value × Mem) : Prop := r = if b.length = 64 then (.tuple ⟨[.int .i64 (bestD b 8 : Nat), .int .i64 (strD b), .int .i64 0]⟩, M) else (.tuple ⟨[.int .i64 0, .int .i64 0, .int .i64 2]⟩, M)
theorem direction_ok (lo : Nat) (A : Option Addr) (c : Nat) (b : List Int) (M : Mem) (hx : RdI M .u8 A b) (bb : Bytes b) : Ac P T lo F.cdef_Direction [.slice A b.length c] M (DirR b M) := by
  refine Ac.of (Evp.of_eq (fun k => cdef_Direction.entry k ..) ?_)
  refine Evp.neb (fun h => Evp.ret (Run.ret (by unfold DirR; rw [if_neg (by omega)]))) fun h => ?_
  have hl : b.length = 64 := by omega
  have z : ∀ i, i < 128 → (List.replicate 128 (0 : Int)).getD i 0 = 0 := fun i hi => by rw [List.getD_eq_getElem?_getD, List.getElem?_replicate, if_pos hi]; rfl
  have sL : SumI b 0 0 (List.replicate 128 0) := ⟨List.length_replicate, fun d' k hd' hk => by rw [z _ (by omega), if_neg (by omega)]; rfl⟩
  have sK : ManyI 0 0 (List.replicate 128 0) := ⟨List.length_replicate, fun d' k hd' hk => by rw [z _ (by omega), if_neg (by omega)]; rfl⟩
  rw [hl]
  exact Evp.ret (dir_samples lo A c b M hx bb hl (DirR b M) 0 (fun L K hL hK => dir_best lo b M bb L K hL hK (DirR b M) (by unfold DirR; rw [if_pos hl]) 8 0 _ rfl (by omega) (WgtI.start b)) 64 0 _ _ rfl (by omega) sL sK)
end Go.Zt
