/- A block's direction, the program's. -/
import Derived.Test.YtkbdmbjhgomaiaaFa
set_option linter.unusedVariables false
set_option linter.unusedSimpArgs false
set_option maxRecDepth 100000
namespace Go.Zt
/-- The number of a sample's line. -/
def numS (d r c : Nat) : Nat :=
  if d = 0 then r + c else if d = 1 then r + c / 2 else if d = 2 then r else if d = 3 then 3 + r - c / 2 else if d = 4 then 7 + r - c else if d = 5 then 3 - r / 2 + c else if d = 6 then c else r / 2 + c
theorem numS_lt {d r c : Nat} (hr : r < 8) (hc : c < 8) : numS d r c < 16 := by
  unfold numS
  repeat' split
  all_goals omega
def linesL (r c : Nat) : List Int := [(numS 0 r c : Nat), (numS 1 r c : Nat), (numS 2 r c : Nat), (numS 3 r c : Nat), (numS 4 r c : Nat), (numS 5 r c : Nat), (numS 6 r c : Nat), (numS 7 r c : Nat)]
theorem linesL_get {r c d : Nat} (hd : d < 8) : (linesL r c).getD d 0 = (numS d r c : Nat) := by
  have : d = 0 ∨ d = 1 ∨ d = 2 ∨ d = 3 ∨ d = 4 ∨ d = 5 ∨ d = 6 ∨ d = 7 := by omega
  rcases this with rfl | rfl | rfl | rfl | rfl | rfl | rfl | rfl <;> rfl
theorem lines_ok (lo r c : Nat) (M : Mem) (hr : r < 8) (hc : c < 8) : Ac P T lo F.cdef_lines [.int .i64 r, .int .i64 c] M fun q => q = (.agg ⟨(linesL r c).map (Value.int .i64)⟩, M) := by
  refine Ac.of (Evp.of_eq (fun k => cdef_lines.entry k ..) ?_)
  have dr : Int.tdiv (r : Int) 2 = ((r / 2 : Nat) : Int) := rfl
  have dc : Int.tdiv (c : Int) 2 = ((c / 2 : Nat) : Int) := rfl
  rw [dr, dc, w64 (x := ((c / 2 : Nat) : Int)) (by omega), w64 (x := ((r / 2 : Nat) : Int)) (by omega), w64 (x := (r : Int) + c) (by omega), w64 (x := (r : Int) + ((c / 2 : Nat) : Int)) (by omega), w64 (x := 3 + (r : Int)) (by omega), w64 (x := 3 + (r : Int) - ((c / 2 : Nat) : Int)) (by omega), w64 (x := 7 + (r : Int)) (by omega), w64 (x := 7 + (r : Int) - c) (by omega), w64 (x := 3 - ((r / 2 : Nat) : Int)) (by omega), w64 (x := 3 - ((r / 2 : Nat) : Int) + c) (by omega), w64 (x := ((r / 2 : Nat) : Int) + c) (by omega)]
  refine Evp.ret (Run.ret ?_)
  have e0 : (r : Int) + c = ((numS 0 r c : Nat) : Int) := by simp [numS]
  have e1 : (r : Int) + ((c / 2 : Nat) : Int) = ((numS 1 r c : Nat) : Int) := by simp [numS]
  have e3 : 3 + (r : Int) - ((c / 2 : Nat) : Int) = ((numS 3 r c : Nat) : Int) := by show _ = ((3 + r - c / 2 : Nat) : Int); omega
  have e4 : 7 + (r : Int) - c = ((numS 4 r c : Nat) : Int) := by show _ = ((7 + r - c : Nat) : Int); omega
  have e5 : 3 - ((r / 2 : Nat) : Int) + c = ((numS 5 r c : Nat) : Int) := by show _ = ((3 - r / 2 + c : Nat) : Int); omega
  have e7 : ((r / 2 : Nat) : Int) + c = ((numS 7 r c : Nat) : Int) := by show _ = ((r / 2 + c : Nat) : Int); omega
  rw [e0, e1, e3, e4, e5, e7]
  rfl
/-! ### Sums of lines -/
def sumD (b : List Int) (d k : Nat) : Nat → Int
  | 0 => 0
  | i + 1 => sumD b d k i + (if numS d (i / 8) (i % 8) = k then b.getD i 0 - 128 else 0)
def manyD (d k : Nat) : Nat → Int
  | 0 => 0
  | i + 1 => manyD d k i + (if numS d (i / 8) (i % 8) = k then 1 else 0)
theorem sumD_le {b : List Int} (bb : Bytes b) (d k : Nat) : ∀ i : Nat, -(128 * (i : Int)) ≤ sumD b d k i ∧ sumD b d k i ≤ 128 * (i : Int)
  | 0 => by simp [sumD]
  | i + 1 => by
    have ih := sumD_le bb d k i
    have := bb.get i
    simp only [sumD]
    split <;> omega
theorem manyD_le (d k : Nat) : ∀ i : Nat, 0 ≤ manyD d k i ∧ manyD d k i ≤ (i : Int)
  | 0 => by simp [manyD]
  | i + 1 => by
    have ih := manyD_le d k i
    simp only [manyD]
    split <;> omega
/-- What stands in the table of sums, and of how many. -/
def SumI (b : List Int) (i d : Nat) (L : List Int) : Prop := L.length = 128 ∧ ∀ d' k, d' < 8 → k < 16 → L.getD (d' * 16 + k) 0 = sumD b d' k (if d' < d then i + 1 else i)
def ManyI (i d : Nat) (L : List Int) : Prop := L.length = 128 ∧ ∀ d' k, d' < 8 → k < 16 → L.getD (d' * 16 + k) 0 = manyD d' k (if d' < d then i + 1 else i)
theorem SumI.next {b : List Int} {i d : Nat} {L : List Int} (h : SumI b i d L) (hd : d < 8) (hi : i < 64) : SumI b i (d + 1) (L.set (d * 16 + numS d (i / 8) (i % 8)) (L.getD (d * 16 + numS d (i / 8) (i % 8)) 0 + (b.getD i 0 - 128))) := by
  have hn := numS_lt (d := d) (r := i / 8) (c := i % 8) (by omega) (by omega)
  refine ⟨by simpa using h.1, fun d' k hd' hk => ?_⟩
  have h1 := h.1
  rw [getD_set (by omega)]
  by_cases e : d' * 16 + k = d * 16 + numS d (i / 8) (i % 8)
  · have e1 : d' = d := by omega
    have e2 : k = numS d (i / 8) (i % 8) := by omega
    subst e1
    rw [if_pos e, h.2 d' _ hd hn, if_neg (by omega), if_pos (by omega), e2]
    simp only [sumD, if_true]
  · rw [if_neg e, h.2 d' k hd' hk]
    by_cases g : d' < d
    · rw [if_pos g, if_pos (by omega)]
    · by_cases g2 : d' = d
      · subst g2
        have hne : ¬ numS d' (i / 8) (i % 8) = k := fun h => e (by rw [h])
        rw [if_neg g, if_pos (by omega)]
        simp only [sumD]
        rw [if_neg hne, Int.add_zero]
      · rw [if_neg g, if_neg (by omega)]
theorem ManyI.next {i d : Nat} {L : List Int} (h : ManyI i d L) (hd : d < 8) (hi : i < 64) : ManyI i (d + 1) (L.set (d * 16 + numS d (i / 8) (i % 8)) (L.getD (d * 16 + numS d (i / 8) (i % 8)) 0 + 1)) := by
  have hn := numS_lt (d := d) (r := i / 8) (c := i % 8) (by omega) (by omega)
  refine ⟨by simpa using h.1, fun d' k hd' hk => ?_⟩
  have h1 := h.1
  rw [getD_set (by omega)]
  by_cases e : d' * 16 + k = d * 16 + numS d (i / 8) (i % 8)
  · have e1 : d' = d := by omega
    have e2 : k = numS d (i / 8) (i % 8) := by omega
    subst e1
    rw [if_pos e, h.2 d' _ hd hn, if_neg (by omega), if_pos (by omega), e2]
    simp only [manyD, if_true]
  · rw [if_neg e, h.2 d' k hd' hk]
    by_cases g : d' < d
    · rw [if_pos g, if_pos (by omega)]
    · by_cases g2 : d' = d
      · subst g2
        have hne : ¬ numS d' (i / 8) (i % 8) = k := fun h => e (by rw [h])
        rw [if_neg g, if_pos (by omega)]
        simp only [manyD]
        rw [if_neg hne, Int.add_zero]
      · rw [if_neg g, if_neg (by omega)]
theorem SumI.turn {b : List Int} {i : Nat} {L : List Int} (h : SumI b i 8 L) : SumI b (i + 1) 0 L := ⟨h.1, fun d' k hd' hk => by rw [h.2 d' k hd' hk, if_pos hd', if_neg (by omega)]⟩
theorem ManyI.turn {i : Nat} {L : List Int} (h : ManyI i 8 L) : ManyI (i + 1) 0 L := ⟨h.1, fun d' k hd' hk => by rw [h.2 d' k hd' hk, if_pos hd', if_neg (by omega)]⟩
/-! ### Weights -/
def wgtD (b : List Int) (d : Nat) : Nat → Int
  | 0 => 0
  | k + 1 => wgtD b d k + (if manyD d k 64 = 0 then 0 else sumD b d k 64 * sumD b d k 64 * (840 / manyD d k 64))
theorem sq_le {s : Int} (h : -8192 ≤ s ∧ s ≤ 8192) : 0 ≤ s * s ∧ s * s ≤ 67108864 := by
  have := mul_abs (a := s) (b := s) (A := 8192) (B := 8192) (by omega) (by omega)
  have h0 : 0 ≤ s * s := by
    rcases Int.le_total 0 s with h | h
    · exact Int.mul_nonneg h h
    · rw [← Int.neg_mul_neg]; exact Int.mul_nonneg (by omega) (by omega)
  omega
theorem term_le {b : List Int} (bb : Bytes b) (d k : Nat) : 0 ≤ (if manyD d k 64 = 0 then 0 else sumD b d k 64 * sumD b d k 64 * (840 / manyD d k 64)) ∧ (if manyD d k 64 = 0 then 0 else sumD b d k 64 * sumD b d k 64 * (840 / manyD d k 64)) ≤ 67108864 * 840 := by
  have s := sumD_le bb d k 64
  have q := sq_le (s := sumD b d k 64) (by omega)
  have m := manyD_le d k 64
  split
  · omega
  · have h1 : 0 ≤ 840 / manyD d k 64 := Int.ediv_nonneg (by omega) m.1
    have h2 : 840 / manyD d k 64 ≤ 840 := Int.ediv_le_self _ (by omega)
    exact ⟨Int.mul_nonneg q.1 h1, Int.mul_le_mul q.2 h2 h1 (by omega)⟩
theorem wgtD_le {b : List Int} (bb : Bytes b) (d : Nat) : ∀ k : Nat, 0 ≤ wgtD b d k ∧ wgtD b d k ≤ 67108864 * 840 * (k : Int)
  | 0 => by simp [wgtD]
  | k + 1 => by
    have ih := wgtD_le bb d k
    have := term_le bb d k
    simp only [wgtD]
    omega
/-- The best direction of the first. -/
def bestD (b : List Int) : Nat → Nat
  | 0 => 0
  | d + 1 => if wgtD b d 16 > wgtD b (bestD b d) 16 then d else bestD b d
theorem bestD_lt (b : List Int) : ∀ n, bestD b n < max n 1
  | 0 => by simp [bestD]
  | n + 1 => by
    have := bestD_lt b n
    simp only [bestD]
    split <;> omega
theorem tabI {L : List Int} {i : Nat} (h : i < L.length) : ((L.map (Value.int .i64))[i]?).bind (Value.int? .i64) = some (L.getD i 0) := tab_get L i h
section
variable (lo : Nat) (A : Option Addr) (c : Nat) (b : List Int) (M : Mem) (hx : RdI M .u8 A b) (bb : Bytes b) (hl : b.length = 64) (Q : Value × Mem → Prop)
include bb
theorem dir_lines (x1 : Int) (i : Nat) (hi : i < 64) (next : ∀ L K, SumI b (i + 1) 0 L → ManyI (i + 1) 0 K → Run P T lo F.cdef_Direction (cdef_Direction.c244 x1 A 64 c 64 ((i + 1 : Nat) : Int) (L.map (Value.int .i64)) (K.map (Value.int .i64)) M) Q) :
    ∀ (e d : Nat) (L K : List Int), 8 - d = e → d ≤ 8 → SumI b i d L → ManyI i d K →
    Run P T lo F.cdef_Direction (cdef_Direction.c62668 x1 (b.getD i 0) A 64 c 64 i (numS 0 (i / 8) (i % 8) : Nat) (numS 1 (i / 8) (i % 8) : Nat) (numS 2 (i / 8) (i % 8) : Nat) (numS 3 (i / 8) (i % 8) : Nat) (numS 4 (i / 8) (i % 8) : Nat) (numS 5 (i / 8) (i % 8) : Nat) (numS 6 (i / 8) (i % 8) : Nat) (numS 7 (i / 8) (i % 8) : Nat) d (L.map (Value.int .i64)) (K.map (Value.int .i64)) M) Q := by
  intro e
  induction e with
  | zero =>
    intro d L K he hd hL hK
    obtain rfl : d = 8 := by omega
    refine Run.cut (Evp.of_eq (fun k => cdef_Direction.p62668 k ..) ?_)
    refine Evp.dec (fun h => absurd h (by omega)) fun _ => ?_
    rw [w64 (by omega)]
    exact Evp.ret (next L K hL.turn hK.turn)
  | succ e ih =>
    intro d L K he hd hL hK
    have hd8 : d < 8 := by omega
    have hn := numS_lt (d := d) (r := i / 8) (c := i % 8) (by omega) (by omega)
    have g0 := hL.2 d (numS d (i / 8) (i % 8)) hd8 hn
    have g1 := hK.2 d (numS d (i / 8) (i % 8)) hd8 hn
    rw [if_neg (by omega)] at g0 g1
    have b0 := sumD_le bb d (numS d (i / 8) (i % 8)) i
    have b1 := manyD_le d (numS d (i / 8) (i % 8)) i
    have bi := bb.get i
    have l1 := hL.1
    have k1 := hK.1
    have hget := linesL_get (r := i / 8) (c := i % 8) hd8
    have hla : ((linesL (i / 8) (i % 8)).map (Value.int .i64))[d]?.bind (Value.int? .i64) = some ((numS d (i / 8) (i % 8) : Nat) : Int) := by rw [tabI (by show d < 8; exact hd8), hget]
    refine Run.cut (Evp.of_eq (fun k => cdef_Direction.p62668 k ..) ?_)
    refine Evp.dec (fun _ => ?_) fun h => absurd h (by omega)
    refine Evp.pos (by omega) ?_
    simp only [Int.toNat_natCast, Nat.add_zero, Nat.zero_add]
    refine Evp.some hla ?_
    generalize hk : numS d (i / 8) (i % 8) = k at *
    simp only [Int.toNat_natCast, Nat.add_zero]
    refine Evp.pos (by omega) (Evp.pos (by omega) (Evp.some (tabI (by omega)) ?_))
    refine Evp.pos (by omega) (Evp.pos (by omega) (Evp.pos (by simp; omega) ?_))
    refine Evp.pos (by omega) (Evp.pos (by omega) (Evp.some (tabI (by omega)) ?_))
    refine Evp.pos (by omega) (Evp.pos (by omega) (Evp.pos (by simp; omega) ?_))
    rw [setL_one, setL_one, set_map, set_map, w64 (x := b.getD i 0) (by omega), w64 (x := b.getD i 0 - 128) (by omega), w64 (x := L.getD (d * 16 + k) 0 + (b.getD i 0 - 128)) (by omega), w64 (x := K.getD (d * 16 + k) 0 + 1) (by omega), w64 (by omega)]
    have nL := hL.next hd8 hi
    have nK := hK.next hd8 hi
    rw [hk] at nL nK
    exact Evp.ret (ih (d + 1) _ _ (by omega) (by omega) nL nK)
include hx hl
theorem dir_samples (x1 : Int) (next : ∀ L K, SumI b 64 0 L → ManyI 64 0 K → Run P T lo F.cdef_Direction (cdef_Direction.c1012 x1 0 (L.map (Value.int .i64)) (K.map (Value.int .i64)) [.int .i64 0, .int .i64 0, .int .i64 0, .int .i64 0, .int .i64 0, .int .i64 0, .int .i64 0, .int .i64 0] M) Q) :
    ∀ (e i : Nat) (L K : List Int), 64 - i = e → i ≤ 64 → SumI b i 0 L → ManyI i 0 K → Run P T lo F.cdef_Direction (cdef_Direction.c244 x1 A 64 c 64 i (L.map (Value.int .i64)) (K.map (Value.int .i64)) M) Q := by
  intro e
  induction e with
  | zero =>
    intro i L K he hi hL hK
    obtain rfl : i = 64 := by omega
    refine Run.cut (Evp.of_eq (fun k => cdef_Direction.p244 k ..) ?_)
    exact Evp.dec (fun h => absurd h (by omega)) fun _ => Evp.ret (next L K hL hK)
  | succ e ih =>
    intro i L K he hi hL hK
    refine Run.cut (Evp.of_eq (fun k => cdef_Direction.p244 k ..) ?_)
    refine Evp.dec (fun _ => ?_) fun h => absurd h (by omega)
    refine Evp.pos (by omega) ?_
    simp only [Int.toNat_natCast]
    refine Evp.ldI hx (by omega) fun _ _ => ?_
    rw [show Int.tdiv (i : Int) 8 = ((i / 8 : Nat) : Int) from rfl, show Int.tmod (i : Int) 8 = ((i % 8 : Nat) : Int) from rfl, w64 (x := ((i / 8 : Nat) : Int)) (by omega)]
    refine Evp.ob (lines_ok lo (i / 8) (i % 8) M (by omega) (by omega)) ?_
    rintro _ rfl
    simp only [linesL, List.map_cons, List.map_nil, ret_int, ret_bool, ret_flt, ret_slc, ret_str, ret_ptr, ret_agg, ret_tup, ob_some, bb_true, bb_false, List.getElem?_cons_zero, List.getElem?_cons_succ, List.length_cons, List.length_nil, Nat.reduceAdd, Nat.reduceLT]
    exact Evp.ret (dir_lines lo A c b M bb Q x1 i (by omega) (fun L K hL hK => ih (i + 1) L K (by omega) (by omega) hL hK) _ 0 L K rfl (by omega) hL hK)
end
end Go.Zt
