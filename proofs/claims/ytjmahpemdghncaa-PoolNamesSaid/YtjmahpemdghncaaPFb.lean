/- What the law PoolNames needs of the text Fb. -/
import Derived.Test.YtjmahpemdghncaaPFa
set_option linter.unusedVariables false
set_option linter.unusedSimpArgs false
set_option maxRecDepth 100000
namespace Go.Zt
def shC (k : Nat) : Nat := [8, 4, 3, 3, 4, 8, 1, 1, 1, 2, 1, 3, 3, 1, 3, 1, 3, 1, 2, 2, 1, 1, 4, 2, 2, 2, 2, 2, 10, 14, 6, 3].getD k 0
def shV (k : Nat) : Nat := [10, 8, 2, 2, 13, 7, 13, 14, 8, 16, 2, 3, 9, 2, 3, 2, 4, 4, 11, 8, 3, 2, 2, 5, 7, 9, 11, 3, 4, 4, 2, 2].getD k 0
def shB (k : Nat) : Bool := [false, false, false, false, false, false, false, false, false, true, false, false, false, false, false, false, false, false, true, false, false, false, false, false, false, false, false, true, true, true, false, false].getD k false
theorem shC_get : ∀ k, k < 32 → (([.int .i64 8, .int .i64 10, .bool false, .int .i64 4, .int .i64 8, .bool false, .int .i64 3, .int .i64 2, .bool false, .int .i64 3, .int .i64 2, .bool false, .int .i64 4, .int .i64 13, .bool false, .int .i64 8, .int .i64 7, .bool false, .int .i64 1, .int .i64 13, .bool false, .int .i64 1, .int .i64 14, .bool false, .int .i64 1, .int .i64 8, .bool false, .int .i64 2, .int .i64 16, .bool true, .int .i64 1, .int .i64 2, .bool false, .int .i64 3, .int .i64 3, .bool false, .int .i64 3, .int .i64 9, .bool false, .int .i64 1, .int .i64 2, .bool false, .int .i64 3, .int .i64 3, .bool false, .int .i64 1, .int .i64 2, .bool false, .int .i64 3, .int .i64 4, .bool false, .int .i64 1, .int .i64 4, .bool false, .int .i64 2, .int .i64 11, .bool true, .int .i64 2, .int .i64 8, .bool false, .int .i64 1, .int .i64 3, .bool false, .int .i64 1, .int .i64 2, .bool false, .int .i64 4, .int .i64 2, .bool false, .int .i64 2, .int .i64 5, .bool false, .int .i64 2, .int .i64 7, .bool false, .int .i64 2, .int .i64 9, .bool false, .int .i64 2, .int .i64 11, .bool false, .int .i64 2, .int .i64 3, .bool true, .int .i64 10, .int .i64 4, .bool true, .int .i64 14, .int .i64 4, .bool true, .int .i64 6, .int .i64 2, .bool false, .int .i64 3, .int .i64 2, .bool false] : List Value)[k * 3 + 0]?).bind (Value.int? .i64) = some (shC k : Int) := fun k h => match k, h with
  | 0, _ => rfl
  | 1, _ => rfl
  | 2, _ => rfl
  | 3, _ => rfl
  | 4, _ => rfl
  | 5, _ => rfl
  | 6, _ => rfl
  | 7, _ => rfl
  | 8, _ => rfl
  | 9, _ => rfl
  | 10, _ => rfl
  | 11, _ => rfl
  | 12, _ => rfl
  | 13, _ => rfl
  | 14, _ => rfl
  | 15, _ => rfl
  | 16, _ => rfl
  | 17, _ => rfl
  | 18, _ => rfl
  | 19, _ => rfl
  | 20, _ => rfl
  | 21, _ => rfl
  | 22, _ => rfl
  | 23, _ => rfl
  | 24, _ => rfl
  | 25, _ => rfl
  | 26, _ => rfl
  | 27, _ => rfl
  | 28, _ => rfl
  | 29, _ => rfl
  | 30, _ => rfl
  | 31, _ => rfl
  | k + 32, h => absurd h (by omega)
theorem shV_get : ∀ k, k < 32 → (([.int .i64 8, .int .i64 10, .bool false, .int .i64 4, .int .i64 8, .bool false, .int .i64 3, .int .i64 2, .bool false, .int .i64 3, .int .i64 2, .bool false, .int .i64 4, .int .i64 13, .bool false, .int .i64 8, .int .i64 7, .bool false, .int .i64 1, .int .i64 13, .bool false, .int .i64 1, .int .i64 14, .bool false, .int .i64 1, .int .i64 8, .bool false, .int .i64 2, .int .i64 16, .bool true, .int .i64 1, .int .i64 2, .bool false, .int .i64 3, .int .i64 3, .bool false, .int .i64 3, .int .i64 9, .bool false, .int .i64 1, .int .i64 2, .bool false, .int .i64 3, .int .i64 3, .bool false, .int .i64 1, .int .i64 2, .bool false, .int .i64 3, .int .i64 4, .bool false, .int .i64 1, .int .i64 4, .bool false, .int .i64 2, .int .i64 11, .bool true, .int .i64 2, .int .i64 8, .bool false, .int .i64 1, .int .i64 3, .bool false, .int .i64 1, .int .i64 2, .bool false, .int .i64 4, .int .i64 2, .bool false, .int .i64 2, .int .i64 5, .bool false, .int .i64 2, .int .i64 7, .bool false, .int .i64 2, .int .i64 9, .bool false, .int .i64 2, .int .i64 11, .bool false, .int .i64 2, .int .i64 3, .bool true, .int .i64 10, .int .i64 4, .bool true, .int .i64 14, .int .i64 4, .bool true, .int .i64 6, .int .i64 2, .bool false, .int .i64 3, .int .i64 2, .bool false] : List Value)[k * 3 + 1]?).bind (Value.int? .i64) = some (shV k : Int) := fun k h => match k, h with
  | 0, _ => rfl
  | 1, _ => rfl
  | 2, _ => rfl
  | 3, _ => rfl
  | 4, _ => rfl
  | 5, _ => rfl
  | 6, _ => rfl
  | 7, _ => rfl
  | 8, _ => rfl
  | 9, _ => rfl
  | 10, _ => rfl
  | 11, _ => rfl
  | 12, _ => rfl
  | 13, _ => rfl
  | 14, _ => rfl
  | 15, _ => rfl
  | 16, _ => rfl
  | 17, _ => rfl
  | 18, _ => rfl
  | 19, _ => rfl
  | 20, _ => rfl
  | 21, _ => rfl
  | 22, _ => rfl
  | 23, _ => rfl
  | 24, _ => rfl
  | 25, _ => rfl
  | 26, _ => rfl
  | 27, _ => rfl
  | 28, _ => rfl
  | 29, _ => rfl
  | 30, _ => rfl
  | 31, _ => rfl
  | k + 32, h => absurd h (by omega)
theorem shB_get : ∀ k, k < 32 → (([.int .i64 8, .int .i64 10, .bool false, .int .i64 4, .int .i64 8, .bool false, .int .i64 3, .int .i64 2, .bool false, .int .i64 3, .int .i64 2, .bool false, .int .i64 4, .int .i64 13, .bool false, .int .i64 8, .int .i64 7, .bool false, .int .i64 1, .int .i64 13, .bool false, .int .i64 1, .int .i64 14, .bool false, .int .i64 1, .int .i64 8, .bool false, .int .i64 2, .int .i64 16, .bool true, .int .i64 1, .int .i64 2, .bool false, .int .i64 3, .int .i64 3, .bool false, .int .i64 3, .int .i64 9, .bool false, .int .i64 1, .int .i64 2, .bool false, .int .i64 3, .int .i64 3, .bool false, .int .i64 1, .int .i64 2, .bool false, .int .i64 3, .int .i64 4, .bool false, .int .i64 1, .int .i64 4, .bool false, .int .i64 2, .int .i64 11, .bool true, .int .i64 2, .int .i64 8, .bool false, .int .i64 1, .int .i64 3, .bool false, .int .i64 1, .int .i64 2, .bool false, .int .i64 4, .int .i64 2, .bool false, .int .i64 2, .int .i64 5, .bool false, .int .i64 2, .int .i64 7, .bool false, .int .i64 2, .int .i64 9, .bool false, .int .i64 2, .int .i64 11, .bool false, .int .i64 2, .int .i64 3, .bool true, .int .i64 10, .int .i64 4, .bool true, .int .i64 14, .int .i64 4, .bool true, .int .i64 6, .int .i64 2, .bool false, .int .i64 3, .int .i64 2, .bool false] : List Value)[k * 3 + 2]?).bind Value.bool? = some (shB k) := fun k h => match k, h with
  | 0, _ => rfl
  | 1, _ => rfl
  | 2, _ => rfl
  | 3, _ => rfl
  | 4, _ => rfl
  | 5, _ => rfl
  | 6, _ => rfl
  | 7, _ => rfl
  | 8, _ => rfl
  | 9, _ => rfl
  | 10, _ => rfl
  | 11, _ => rfl
  | 12, _ => rfl
  | 13, _ => rfl
  | 14, _ => rfl
  | 15, _ => rfl
  | 16, _ => rfl
  | 17, _ => rfl
  | 18, _ => rfl
  | 19, _ => rfl
  | 20, _ => rfl
  | 21, _ => rfl
  | 22, _ => rfl
  | 23, _ => rfl
  | 24, _ => rfl
  | 25, _ => rfl
  | 26, _ => rfl
  | 27, _ => rfl
  | 28, _ => rfl
  | 29, _ => rfl
  | 30, _ => rfl
  | 31, _ => rfl
  | k + 32, h => absurd h (by omega)
theorem sh_bound : ∀ k, k < 32 → 1 ≤ shC k ∧ shC k ≤ 14 ∧ 2 ≤ shV k ∧ shV k ≤ 16 := by decide
theorem shapes_ok (lo : Nat) (M : Mem) : Ac P T lo F.syms_shapes [] M fun r => r = (.agg ⟨[.int .i64 8, .int .i64 10, .bool false, .int .i64 4, .int .i64 8, .bool false, .int .i64 3, .int .i64 2, .bool false, .int .i64 3, .int .i64 2, .bool false, .int .i64 4, .int .i64 13, .bool false, .int .i64 8, .int .i64 7, .bool false, .int .i64 1, .int .i64 13, .bool false, .int .i64 1, .int .i64 14, .bool false, .int .i64 1, .int .i64 8, .bool false, .int .i64 2, .int .i64 16, .bool true, .int .i64 1, .int .i64 2, .bool false, .int .i64 3, .int .i64 3, .bool false, .int .i64 3, .int .i64 9, .bool false, .int .i64 1, .int .i64 2, .bool false, .int .i64 3, .int .i64 3, .bool false, .int .i64 1, .int .i64 2, .bool false, .int .i64 3, .int .i64 4, .bool false, .int .i64 1, .int .i64 4, .bool false, .int .i64 2, .int .i64 11, .bool true, .int .i64 2, .int .i64 8, .bool false, .int .i64 1, .int .i64 3, .bool false, .int .i64 1, .int .i64 2, .bool false, .int .i64 4, .int .i64 2, .bool false, .int .i64 2, .int .i64 5, .bool false, .int .i64 2, .int .i64 7, .bool false, .int .i64 2, .int .i64 9, .bool false, .int .i64 2, .int .i64 11, .bool false, .int .i64 2, .int .i64 3, .bool true, .int .i64 10, .int .i64 4, .bool true, .int .i64 14, .int .i64 4, .bool true, .int .i64 6, .int .i64 2, .bool false, .int .i64 3, .int .i64 2, .bool false]⟩, M) := by
  refine Ac.of (Evp.of_eq (fun k => syms_shapes.entry k ..) ?_)
  exact Evp.ret (Run.ret rfl)
def flatF (n : Nat) (i : Nat) : Int := (32768 * ((i : Int) + 1)) / n
def flatS (n : Nat) : List Int := (List.range n).map (flatF n)
def steepS (n : Nat) : List Int := (List.range n).map fun i : Nat => if i = n - 1 then 32768 else 32768 - 32768 / 2 ^ (i + 1)
theorem tsizes_ok (lo : Nat) (n : Int) (M : Mem) : Ac P T lo F.cdf_sizes [.int .i64 n] M fun r => r = (.bool (decide (2 ≤ n ∧ n ≤ 16)), M) := by
  refine Ac.of (Evp.of_eq (fun k => cdf_sizes.entry k ..) ?_)
  refine Evp.dec (fun h => Evp.ret (Run.ret ?_)) fun h => Evp.ret (Run.ret ?_)
  · congr 2
    exact decide_eq_decide.2 (by omega)
  · rw [decide_eq_false (by omega)]
theorem wu16 {x : Int} (h : 0 ≤ x ∧ x ≤ 65535) : IntKind.u16.wrap x = x := by
  simp [IntKind.wrap, IntKind.bits, IntKind.signed]; omega
theorem zeros_u16 (n : Nat) : zerosL [Value.int .u16 0] n = (List.replicate n 0).map (Value.int .u16) := by rw [zerosL_one]; simp
def fillF (f : Nat → Int) (n i : Nat) : List Int := (List.range n).map fun j => if j < i then f j else 0
theorem fillF_zero (f : Nat → Int) (n : Nat) : List.replicate n 0 = fillF f n 0 := by
  unfold fillF
  apply List.ext_getElem <;> simp
theorem fillF_full (f : Nat → Int) (n : Nat) : fillF f n n = (List.range n).map f := by
  unfold fillF
  apply List.map_congr_left
  intro j hj
  rw [if_pos (List.mem_range.1 hj)]
theorem fillF_len (f : Nat → Int) (n i : Nat) : (fillF f n i).length = n := by simp [fillF]
theorem fillF_set (f : Nat → Int) (n i : Nat) (k : IntKind) : setL ((fillF f n i).map (Value.int k)) i [.int k (f i)] = (fillF f n (i + 1)).map (Value.int k) := by
  rw [setL_one, set_map]
  congr 1
  unfold fillF
  apply List.ext_getElem
  · simp
  · intro j h1 h2
    rw [List.getElem_set]
    simp only [List.getElem_map, List.getElem_range]
    split
    · rename_i e; subst e; rw [if_pos (by omega)]
    · split <;> (try rw [if_pos (by omega)]) <;> (try rw [if_neg (by omega)])
theorem flatF_b (n i : Nat) (hn : 2 ≤ n ∧ n ≤ 16) (hi : i < n) : 0 ≤ flatF n i ∧ flatF n i ≤ 32768 := by
  unfold flatF
  constructor
  · exact Int.ediv_nonneg (by omega) (by omega)
  · exact Int.le_of_lt_add_one (Int.ediv_lt_of_lt_mul (by omega) (by
      have : (32768 + 1 : Int) * n = 32769 * n := rfl
      omega))
theorem flat_loop (lo : Nat) (M0 : Mem) (a : Addr) (n : Nat) (hn : 2 ≤ n ∧ n ≤ 16) (hlo : lo ≤ M0.length) : ∀ (d i : Nat) (M : Mem), n - i = d → i ≤ n → Pre M0 M → Buf M0 M a ((fillF (flatF n) n i).map (Value.int .u16)) →
    Run P T lo F.cdf_Flat (cdf_Flat.c244 (n : Int) (n : Int) (i : Int) none 0 0 0 (some a) n n 0 M) fun r => ∃ M', r = (.tuple ⟨[.agg ⟨[.slice (some a) n n, .int .i64 0]⟩, .int .i64 0]⟩, M') ∧ Pre M0 M' ∧ Buf M0 M' a ((flatS n).map (Value.int .u16)) := by
  intro d
  induction d with
  | zero =>
    intro i M hd hi hp hb
    obtain rfl : i = n := by omega
    refine Run.cut (Evp.of_eq (fun k => cdf_Flat.p244 k ..) ?_)
    refine Evp.dec (fun h => absurd h (by omega)) fun _ => Evp.ret (Run.ret ⟨M, rfl, hp, ?_⟩)
    rw [fillF_full] at hb
    exact hb
  | succ d ih =>
    intro i M hd hi hp hb
    refine Run.cut (Evp.of_eq (fun k => cdf_Flat.p244 k ..) ?_)
    refine Evp.dec (fun _ => ?_) fun h => absurd h (by omega)
    refine Evp.neg (by omega) (Evp.pos (by omega) (Evp.some rfl ?_))
    have hb0 := flatF_b n i hn (by omega)
    have e : IntKind.u16.wrap (IntKind.i64.wrap (Int.tdiv (IntKind.i64.wrap (32768 * (IntKind.i64.wrap ((i : Int) + 1)))) (n : Int))) = flatF n i := by
      rw [w64 (x := (i : Int) + 1) (by omega), w64 (x := 32768 * ((i : Int) + 1)) (by omega)]
      have : Int.tdiv (32768 * ((i : Int) + 1)) (n : Int) = flatF n i := Int.tdiv_eq_ediv_of_nonneg (by omega)
      rw [this, w64 (by omega), wu16 (by omega)]
    rw [e, w64 (x := (i : Int) + 1) (by omega)]
    simp only [Int.toNat_natCast]
    obtain ⟨M1, g1, g2, g3, g4, g5⟩ := hb.st (lo := lo) (i := i) (vs := [.int .u16 (flatF n i)]) hp hlo (by simp [fillF_len]; omega)
    refine Evp.some g1 ?_
    rw [fillF_set] at g2
    exact Evp.ret (ih (i + 1) M1 (by omega) (by omega) g3 g2)
theorem flat_ok (lo : Nat) (n : Nat) (M : Mem) (hn : 2 ≤ n ∧ n ≤ 16) (hlo : lo ≤ M.length) :
    Ac P T lo F.cdf_Flat [.int .i64 n] M fun r => ∃ a M', r = (.tuple ⟨[.agg ⟨[.slice (some a) n n, .int .i64 0]⟩, .int .i64 0]⟩, M') ∧ Pre M M' ∧ Buf M M' a ((flatS n).map (Value.int .u16)) := by
  refine Ac.of (Evp.of_eq (fun k => cdf_Flat.entry k ..) ?_)
  refine Evp.ob (tsizes_ok ..) ?_
  rintro _ rfl
  simp only [ret_int, ret_bool, ret_flt, ret_slc, ret_str, ret_ptr, ret_agg, ret_tup, ob_some, bb_true, bb_false, List.getElem?_cons_zero, List.getElem?_cons_succ, List.length_cons, List.length_nil, Nat.reduceAdd, Nat.reduceLT]
  refine Evp.ff (by rw [decide_eq_true (by omega)]; rfl) ?_
  refine Evp.pos ⟨by omega, by show (n : Int).toNat * 2 ≤ 140737488355328; omega⟩ ?_
  simp only [Int.toNat_natCast]
  rw [zeros_u16, fillF_zero (flatF n)]
  refine Evp.ret ((flat_loop lo M ⟨M.length, 0, none⟩ n hn hlo _ 0 _ rfl (by omega) (Pre.app _ _) (Buf.push (Pre.refl M))).mono ?_)
  rintro r ⟨M', rfl, h1, h2⟩
  exact ⟨_, M', rfl, h1, h2⟩
def steepF (n : Nat) (i : Nat) : Int := 32768 - 32768 / 2 ^ (i + 1)
theorem steepF_w : ∀ i : Nat, i < 16 → IntKind.u16.wrap (32768 - shrI .u16 (32768 : Int) ((IntKind.i64.wrap ((i : Int) + 1)).toNat)) = steepF 0 i := fun i h => match i, h with
  | 0, _ => rfl
  | 1, _ => rfl
  | 2, _ => rfl
  | 3, _ => rfl
  | 4, _ => rfl
  | 5, _ => rfl
  | 6, _ => rfl
  | 7, _ => rfl
  | 8, _ => rfl
  | 9, _ => rfl
  | 10, _ => rfl
  | 11, _ => rfl
  | 12, _ => rfl
  | 13, _ => rfl
  | 14, _ => rfl
  | 15, _ => rfl
  | k + 16, h => absurd h (by omega)
theorem steep_loop (lo : Nat) (M0 : Mem) (a : Addr) (n : Nat) (hn : 2 ≤ n ∧ n ≤ 16) (hlo : lo ≤ M0.length) : ∀ (d i : Nat) (M : Mem), n - i = d → i ≤ n → Pre M0 M → Buf M0 M a ((fillF (steepF 0) n i).map (Value.int .u16)) →
    Run P T lo F.cdf_Steep (cdf_Steep.c244 (n : Int) (n : Int) (i : Int) none 0 0 0 (some a) n n 0 M) fun r => ∃ M', r = (.tuple ⟨[.agg ⟨[.slice (some a) n n, .int .i64 0]⟩, .int .i64 0]⟩, M') ∧ Pre M0 M' ∧ Buf M0 M' a ((steepS n).map (Value.int .u16)) := by
  intro d
  induction d with
  | zero =>
    intro i M hd hi hp hb
    obtain rfl : i = n := by omega
    refine Run.cut (Evp.of_eq (fun k => cdf_Steep.p244 k ..) ?_)
    refine Evp.dec (fun h => absurd h (by omega)) fun _ => ?_
    rw [fillF_full] at hb
    rw [w64 (x := (i : Int) - 1) (by omega), show ((i : Int) - 1).toNat = i - 1 by omega]
    refine Evp.pos (by omega) (Evp.some rfl ?_)
    obtain ⟨M1, g1, g2, g3, g4, g5⟩ := hb.st (lo := lo) (i := i - 1) (vs := [.int .u16 32768]) hp hlo (by simp; omega)
    refine Evp.some g1 (Evp.ret (Run.ret ⟨M1, rfl, g3, ?_⟩))
    rw [setL_one, set_map] at g2
    have e : ((List.range i).map (steepF 0)).set (i - 1) 32768 = steepS i := by
      unfold steepS
      apply List.ext_getElem
      · simp
      · intro j h1 h2
        rw [List.getElem_set]
        simp only [List.getElem_map, List.getElem_range]
        split
        · rename_i e; subst e; rw [if_pos rfl]
        · rename_i e; rw [if_neg (by omega)]; rfl
    rw [e] at g2
    exact g2
  | succ d ih =>
    intro i M hd hi hp hb
    refine Run.cut (Evp.of_eq (fun k => cdf_Steep.p244 k ..) ?_)
    refine Evp.dec (fun _ => ?_) fun h => absurd h (by omega)
    rw [steepF_w i (by omega), w64 (x := (i : Int) + 1) (by omega)]
    refine Evp.neg (by omega) (Evp.pos (by omega) (Evp.some rfl ?_))
    simp only [Int.toNat_natCast]
    obtain ⟨M1, g1, g2, g3, g4, g5⟩ := hb.st (lo := lo) (i := i) (vs := [.int .u16 (steepF 0 i)]) hp hlo (by simp [fillF_len]; omega)
    refine Evp.some g1 ?_
    rw [fillF_set] at g2
    exact Evp.ret (ih (i + 1) M1 (by omega) (by omega) g3 g2)
theorem steep_ok (lo : Nat) (n : Nat) (M : Mem) (hn : 2 ≤ n ∧ n ≤ 16) (hlo : lo ≤ M.length) :
    Ac P T lo F.cdf_Steep [.int .i64 n] M fun r => ∃ a M', r = (.tuple ⟨[.agg ⟨[.slice (some a) n n, .int .i64 0]⟩, .int .i64 0]⟩, M') ∧ Pre M M' ∧ Buf M M' a ((steepS n).map (Value.int .u16)) := by
  refine Ac.of (Evp.of_eq (fun k => cdf_Steep.entry k ..) ?_)
  refine Evp.ob (tsizes_ok ..) ?_
  rintro _ rfl
  simp only [ret_int, ret_bool, ret_flt, ret_slc, ret_str, ret_ptr, ret_agg, ret_tup, ob_some, bb_true, bb_false, List.getElem?_cons_zero, List.getElem?_cons_succ, List.length_cons, List.length_nil, Nat.reduceAdd, Nat.reduceLT]
  refine Evp.ff (by rw [decide_eq_true (by omega)]; rfl) ?_
  refine Evp.pos ⟨by omega, by show (n : Int).toNat * 2 ≤ 140737488355328; omega⟩ ?_
  simp only [Int.toNat_natCast]
  rw [zeros_u16, fillF_zero (steepF 0)]
  refine Evp.ret ((steep_loop lo M ⟨M.length, 0, none⟩ n hn hlo _ 0 _ rfl (by omega) (Pre.app _ _) (Buf.push (Pre.refl M))).mono ?_)
  rintro r ⟨M', rfl, h1, h2⟩
  exact ⟨_, M', rfl, h1, h2⟩
def sortB (xs : List Int) : Bool := (List.range (xs.length - 1)).all fun i => decide (xs.getD i 0 ≤ xs.getD (i + 1) 0)
theorem nan_ok (lo : Nat) (x : Int) (M : Mem) : Ac P T lo F.cmp_isNaN_uint16 [.int .u16 x] M fun r => r = (.bool false, M) := by
  refine Ac.of (Evp.of_eq (fun k => cmp_isNaN_uint16.entry k ..) ?_)
  exact Evp.ret (Run.ret (by simp))
theorem less_ok (lo : Nat) (x y : Int) (M : Mem) : Ac P T lo F.cmp_Less_uint16 [.int .u16 x, .int .u16 y] M fun r => r = (.bool (decide (x < y)), M) := by
  refine Ac.of (Evp.of_eq (fun k => cmp_Less_uint16.entry k ..) ?_)
  refine Evp.ob (nan_ok ..) ?_
  rintro _ rfl
  simp only [ret_int, ret_bool, ret_flt, ret_slc, ret_str, ret_ptr, ret_agg, ret_tup, ob_some, bb_true, bb_false, List.getElem?_cons_zero, List.getElem?_cons_succ, List.length_cons, List.length_nil, Nat.reduceAdd, Nat.reduceLT]
  exact Evp.ff rfl (Evp.ret (Run.ret rfl))
theorem sorted_loop (lo : Nat) (A : Option Addr) (c : Nat) (xs : List Int) (M : Mem) (hx : RdI M .u16 A xs) (hn : xs.length ≤ 140737488355328) : ∀ (i : Nat), (i < xs.length ∨ i = 0) → (∀ j, i ≤ j → j + 1 < xs.length → xs.getD j 0 ≤ xs.getD (j + 1) 0) →
    Run P T lo F.slices_IsSorted__uint16_uint16 (slices_IsSorted__uint16_uint16.c52 A xs.length c (i : Int) M) fun r => r = (.bool (sortB xs), M) := by
  intro i
  induction i with
  | zero =>
    intro hi hs
    refine Run.cut (Evp.of_eq (fun k => slices_IsSorted__uint16_uint16.p52 k ..) ?_)
    refine Evp.dec (fun h => absurd h (by omega)) fun _ => Evp.ret (Run.ret ?_)
    have : sortB xs = true := List.all_eq_true.2 fun j hj => decide_eq_true (hs j (by omega) (by have := List.mem_range.1 hj; omega))
    rw [this]
  | succ i ih =>
    intro hi hs
    have hi : i + 1 < xs.length := by omega
    refine Run.cut (Evp.of_eq (fun k => slices_IsSorted__uint16_uint16.p52 k ..) ?_)
    refine Evp.dec (fun _ => ?_) fun h => absurd h (by omega)
    rw [show ((i + 1 : Nat) : Int) - 1 = (i : Int) by omega, w64 (x := (i : Int)) (by omega)]
    simp only [Int.toNat_natCast]
    refine Evp.pos (by omega) (Evp.ldI hx hi fun _ _ => Evp.pos (by omega) (Evp.ldI hx (by omega) fun _ _ => ?_))
    refine Evp.ob (less_ok ..) ?_
    rintro _ rfl
    simp only [ret_int, ret_bool, ret_flt, ret_slc, ret_str, ret_ptr, ret_agg, ret_tup, ob_some, bb_true, bb_false, List.getElem?_cons_zero, List.getElem?_cons_succ, List.length_cons, List.length_nil, Nat.reduceAdd, Nat.reduceLT]
    refine Evp.dec (fun h => ?_) fun h => ?_
    · refine Evp.ret (Run.ret ?_)
      have : sortB xs = false := by
        cases hb : sortB xs with
        | false => rfl
        | true =>
          have := of_decide_eq_true (List.all_eq_true.1 hb i (List.mem_range.2 (by omega)))
          omega
      rw [this]
    · refine Evp.ret (ih (.inl (by omega)) fun j h1 h2 => ?_)
      by_cases e : j = i
      · subst e; omega
      · exact hs j (by omega) h2
theorem sorted_ok (lo : Nat) (A : Option Addr) (c : Nat) (xs : List Int) (M : Mem) (hx : RdI M .u16 A xs) (hn : 1 ≤ xs.length ∧ xs.length ≤ 140737488355328) :
    Ac P T lo F.slices_IsSorted__uint16_uint16 [.slice A xs.length c] M fun r => r = (.bool (sortB xs), M) := by
  refine Ac.of (Evp.of_eq (fun k => slices_IsSorted__uint16_uint16.entry k ..) ?_)
  rw [show ((xs.length : Nat) : Int) - 1 = ((xs.length - 1 : Nat) : Int) by omega, w64 (by omega)]
  exact Evp.ret (sorted_loop lo A c xs M hx hn.2 _ (by omega) fun j h1 h2 => absurd h2 (by omega))
abbrev Tb := List Int × Int
def TabP (t : Tb) : Prop := 2 ≤ t.1.length ∧ t.1.length ≤ 16 ∧ 0 ≤ t.2 ∧ t.2 ≤ 32 ∧ sortB t.1 = true ∧ t.1.getD (t.1.length - 1) 0 = 32768
instance (t : Tb) : Decidable (TabP t) := inferInstanceAs (Decidable (_ ∧ _))
def tabS (t : Tb) : Int := if TabP t then 0 else 2
theorem tcheck_ok (lo : Nat) (A : Option Addr) (c : Nat) (t : Tb) (M : Mem) (hx : RdI M .u16 A t.1) (hn : t.1.length ≤ 140737488355328) :
    Ac P T lo F.cdf_Check [.agg ⟨[.slice A t.1.length c, .int .i64 t.2]⟩] M fun r => r = (.int .i64 (tabS t), M) := by
  have no : ¬ TabP t → Run P T lo F.cdf_Check (.ret (.int .i64 2) M) fun r => r = (.int .i64 (tabS t), M) := fun h => Run.ret (by unfold tabS; rw [if_neg h])
  refine Ac.of (Evp.of_eq (fun k => cdf_Check.entry k ..) ?_)
  refine Evp.ob (tsizes_ok ..) ?_
  rintro _ rfl
  simp only [ret_int, ret_bool, ret_flt, ret_slc, ret_str, ret_ptr, ret_agg, ret_tup, ob_some, bb_true, bb_false, List.getElem?_cons_zero, List.getElem?_cons_succ, List.length_cons, List.length_nil, Nat.reduceAdd, Nat.reduceLT]
  refine Evp.nb (fun h => ?_) fun h => ?_
  · have h := of_decide_eq_false h
    refine Evp.ret ?_
    refine Run.cut (Evp.of_eq (fun k => cdf_Check.p25 k ..) ?_)
    refine Evp.tt (by rw [decide_eq_false h]; rfl) (Evp.ret (no fun e => h ⟨by have := e.1; omega, by have := e.2.1; omega⟩))
  have h := of_decide_eq_true h
  refine Evp.dec (fun h1 => ?_) fun h1 => ?_
  · refine Evp.ret ?_
    refine Run.cut (Evp.of_eq (fun k => cdf_Check.p25 k ..) ?_)
    exact Evp.tt (decide_eq_true h1) (Evp.ret (no fun e => by have := e.2.2.1; omega))
  refine Evp.ret ?_
  refine Run.cut (Evp.of_eq (fun k => cdf_Check.p25 k ..) ?_)
  refine Evp.dec (fun h2 => Evp.ret (no fun e => by have := e.2.2.2.1; omega)) fun h2 => ?_
  refine Evp.ob (sorted_ok _ _ _ _ _ hx ⟨by omega, hn⟩) ?_
  rintro _ rfl
  simp only [ret_int, ret_bool, ret_flt, ret_slc, ret_str, ret_ptr, ret_agg, ret_tup, ob_some, bb_true, bb_false, List.getElem?_cons_zero, List.getElem?_cons_succ, List.length_cons, List.length_nil, Nat.reduceAdd, Nat.reduceLT]
  refine Evp.nb (fun h3 => ?_) fun h3 => ?_
  · refine Evp.ret ?_
    refine Run.cut (Evp.of_eq (fun k => cdf_Check.p103 k ..) ?_)
    exact Evp.tt (by rw [h3]; rfl) (Evp.ret (no fun e => by have := e.2.2.2.2.1; rw [h3] at this; cases this))
  rw [show ((t.1.length : Nat) : Int) - 1 = ((t.1.length - 1 : Nat) : Int) by omega, w64 (x := ((t.1.length - 1 : Nat) : Int)) (by omega)]
  simp only [Int.toNat_natCast]
  refine Evp.pos (by omega) (Evp.ldI hx (by omega) fun _ _ => ?_)
  refine Evp.ret ?_
  refine Run.cut (Evp.of_eq (fun k => cdf_Check.p103 k ..) ?_)
  refine Evp.neb (fun h4 => Evp.ret (no fun e => h4 e.2.2.2.2.2)) fun h4 => Evp.ret (Run.ret ?_)
  unfold tabS
  rw [if_pos ⟨by omega, by omega, by omega, by omega, h3, h4⟩]
end Go.Zt
