/- Wide filters. -/
import Derived.Test.YtibbmknipkifeaaFc
set_option linter.unusedVariables false
set_option linter.unusedSimpArgs false
set_option maxRecDepth 100000
namespace Go.Zt
theorem within_ok (lo : Nat) (n a b : Int) (M : Mem) : Ac P T lo F.deblock_within [.int .i64 n, .int .i64 a, .int .i64 b] M fun r => r = (.bool (decide (a ≤ n ∧ n ≤ b)), M) := by
  refine Ac.of (Evp.of_eq (fun k => deblock_within.entry k ..) ?_)
  refine Evp.dec (fun h => ?_) fun h => Evp.ret (Run.ret (by rw [decide_eq_false (fun e => h e.1)]))
  refine Evp.ret (Run.ret ?_)
  congr 2
  exact decide_eq_decide.2 (by omega)
theorem dclip_ok (lo : Nat) (v a b : Int) (M : Mem) (h : a ≤ b) : Ac P T lo F.deblock_clip [.int .i64 v, .int .i64 a, .int .i64 b] M fun r => r = (.int .i64 (clipS v a b), M) := by
  refine Ac.of (Evp.of_eq (fun k => deblock_clip.entry k ..) ?_)
  rw [minmax_clip h]
  exact Evp.ret (Run.ret rfl)
/-- What a place of a wide filter sums, from -n on. -/
def sumE (xs : List Int) (n m : Nat) (i : Int) : Nat → Int
  | 0 => 0
  | t + 1 => sumE xs n m i t + (if -(m : Int) ≤ -(n : Int) + t ∧ -(n : Int) + t ≤ m then 2 else 1) * atE xs (clipS (i + (-(n : Int) + t)) (-(n : Int) - 1) n)
theorem sumE_le {xs : List Int} (bx : Bytes xs) (n m : Nat) (i : Int) (t : Nat) : 0 ≤ sumE xs n m i t ∧ sumE xs n m i t ≤ 510 * t := by
  induction t with
  | zero => simp [sumE]
  | succ t ih =>
    have := atE_le xs bx (clipS (i + (-(n : Int) + t)) (-(n : Int) - 1) n)
    simp only [sumE]
    split <;> omega
def valE (sum sh : Int) : Int := IntKind.u8.wrap (shrI .i64 (IntKind.i64.wrap (sum + shlI .i64 1 ((IntKind.i64.wrap (sh - 1)).toNat))) sh.toNat)
def wideL (xs : List Int) (n m : Nat) (sh : Int) : Nat → List Int
  | 0 => xs
  | k + 1 => (wideL xs n m sh k).set (xs.length / 2 - n + k) (valE (sumE xs n m (-(n : Int) + k) (2 * n + 1)) sh)
theorem wideL_len (xs : List Int) (n m : Nat) (sh : Int) (k : Nat) : (wideL xs n m sh k).length = xs.length := by
  induction k with
  | zero => rfl
  | succ k ih => simp [wideL, ih]
section
variable {lo : Nat} {A : Option Addr} {c : Nat} {xs : List Int} {M0 : Mem} {a : Addr} {cc : Nat} {Q : Value × Mem → Prop} {n m : Nat} {sh : Int}
theorem wide_sum (hx : RdI M0 .u8 A xs) (bx : Bytes xs) (hn : xs.length ≤ 1000) (h2 : 2 * (xs.length / 2) = xs.length) (hnn : n + 1 ≤ xs.length / 2) (hm : m ≤ n) (M : Mem) (hp : Pre M0 M) (B : Option Addr) (nb cb : Nat) (i : Int) (hi : -(n : Int) ≤ i ∧ i < n)
    (hend : Run P T lo F.deblock_line_wide (deblock_line_wide.c29844 n m sh B nb cb i (sumE xs n m i (2 * n + 1)) ((n : Int) + 1) A xs.length c ((xs.length / 2 : Nat) : Int) M) Q) :
    ∀ (d t : Nat), 2 * n + 1 - t = d → t ≤ 2 * n + 1 →
    Run P T lo F.deblock_line_wide (deblock_line_wide.c29844 n m sh B nb cb i (sumE xs n m i t) (-(n : Int) + t) A xs.length c ((xs.length / 2 : Nat) : Int) M) Q := by
  intro d
  induction d with
  | zero =>
    intro t hd ht
    obtain rfl : t = 2 * n + 1 := by omega
    rw [show -(n : Int) + ((2 * n + 1 : Nat) : Int) = (n : Int) + 1 by omega]
    exact hend
  | succ d ih =>
    intro t hd ht
    refine Run.cut (Evp.of_eq (fun k => deblock_line_wide.p29844 k ..) ?_)
    refine Evp.dec (fun _ => ?_) fun h => absurd h (by omega)
    rw [w64 (x := i + (-(n : Int) + t)) (by omega), w64 (x := 0 - (n : Int)) (by omega), w64 (x := 0 - (n : Int) - 1) (by omega), show 0 - (n : Int) - 1 = -(n : Int) - 1 by omega]
    refine Evp.ob (dclip_ok _ _ _ _ _ (by omega)) ?_
    rintro _ rfl
    simp only [ret_int, ret_bool, ret_flt, ret_slc, ret_str, ret_ptr, ret_agg, ret_tup, ob_some, bb_true, bb_false, List.getElem?_cons_zero, List.getElem?_cons_succ, List.length_cons, List.length_nil, Nat.reduceAdd, Nat.reduceLT]
    have hc := clipS_le (v := i + (-(n : Int) + t)) (a := -(n : Int) - 1) (b := n) (by omega)
    have hs := sumE_le bx n m i t
    have ha := atE_le xs bx (clipS (i + (-(n : Int) + t)) (-(n : Int) - 1) n)
    rw [w64 (x := ((xs.length / 2 : Nat) : Int) + clipS (i + (-(n : Int) + t)) (-(n : Int) - 1) n) (by omega)]
    refine Evp.pos (by omega) (Evp.ldI (hx.pre hp) (by omega) fun _ _ => ?_)
    rw [show xs.getD (((xs.length / 2 : Nat) : Int) + clipS (i + (-(n : Int) + t)) (-(n : Int) - 1) n).toNat 0 = atE xs (clipS (i + (-(n : Int) + t)) (-(n : Int) - 1) n) from rfl]
    rw [w64 (x := 0 - (m : Int)) (by omega), show 0 - (m : Int) = -(m : Int) by omega]
    refine Evp.ob (within_ok ..) ?_
    rintro _ rfl
    simp only [ret_int, ret_bool, ret_flt, ret_slc, ret_str, ret_ptr, ret_agg, ret_tup, ob_some, bb_true, bb_false, List.getElem?_cons_zero, List.getElem?_cons_succ, List.length_cons, List.length_nil, Nat.reduceAdd, Nat.reduceLT]
    have nxt := ih (t + 1) (by omega) (by omega)
    simp only [sumE] at nxt
    generalize atE xs (clipS (i + (-(n : Int) + t)) (-(n : Int) - 1) n) = v at *
    rw [w64 (x := v) (by omega)]
    refine Evp.dec (fun h => ?_) fun h => ?_
    · rw [if_pos h] at nxt
      rw [w64 (x := sumE xs n m i t + v) (by omega), w64 (x := sumE xs n m i t + v + v) (by omega)]
      refine Evp.ret ?_
      refine Run.cut (Evp.of_eq (fun k => deblock_line_wide.p119379 k ..) ?_)
      rw [w64 (x := -(n : Int) + t + 1) (by omega), show -(n : Int) + t + 1 = -(n : Int) + ((t + 1 : Nat) : Int) by omega, show sumE xs n m i t + v + v = sumE xs n m i t + 2 * v by omega]
      exact Evp.ret nxt
    · rw [if_neg h, Int.one_mul] at nxt
      rw [w64 (x := sumE xs n m i t + v) (by omega)]
      refine Evp.ret ?_
      refine Run.cut (Evp.of_eq (fun k => deblock_line_wide.p119379 k ..) ?_)
      rw [w64 (x := -(n : Int) + t + 1) (by omega), show -(n : Int) + t + 1 = -(n : Int) + ((t + 1 : Nat) : Int) by omega]
      exact Evp.ret nxt
theorem wide_loop (hlo : lo ≤ M0.length) (hx : RdI M0 .u8 A xs) (bx : Bytes xs) (hn : xs.length ≤ 1000) (h2 : 2 * (xs.length / 2) = xs.length) (hnn : n + 1 ≤ xs.length / 2) (hm : m ≤ n) (hsh : sh = 3 ∨ sh = 4) :
    ∀ (d k : Nat) (M : Mem), 2 * n - k = d → k ≤ 2 * n → Pre M0 M → Buf M0 M a ((wideL xs n m sh k).map (Value.int .u8)) →
    Run P T lo F.deblock_line_wide (deblock_line_wide.c116 n m sh (some a) xs.length cc (-(n : Int) + k) A xs.length c ((xs.length / 2 : Nat) : Int) M) fun r => ∃ M', r = (.slice (some a) xs.length cc, M') ∧ Pre M0 M' ∧ Buf M0 M' a ((wideL xs n m sh (2 * n)).map (Value.int .u8)) := by
  intro d
  induction d with
  | zero =>
    intro k M hd hk hp hb
    obtain rfl : k = 2 * n := by omega
    refine Run.cut (Evp.of_eq (fun k => deblock_line_wide.p116 k ..) ?_)
    exact Evp.dec (fun h => absurd h (by omega)) fun _ => Evp.ret (Run.ret ⟨M, rfl, hp, hb⟩)
  | succ d ih =>
    intro k M hd hk hp hb
    refine Run.cut (Evp.of_eq (fun k => deblock_line_wide.p116 k ..) ?_)
    refine Evp.dec (fun _ => ?_) fun h => absurd h (by omega)
    rw [w64 (x := 0 - (n : Int)) (by omega), show 0 - (n : Int) = -(n : Int) + ((0 : Nat) : Int) by omega]
    refine Evp.ret (wide_sum hx bx hn h2 hnn hm M hp (some a) xs.length cc (-(n : Int) + k) (by omega) ?_ _ 0 rfl (by omega))
    refine Run.cut (Evp.of_eq (fun k => deblock_line_wide.p29844 k ..) ?_)
    refine Evp.dec (fun h => absurd h (by omega)) fun _ => ?_
    rw [w64 (x := sh - 1) (by omega), w64 (x := ((xs.length / 2 : Nat) : Int) + (-(n : Int) + k)) (by omega)]
    refine Evp.neg (by omega) (Evp.neg (by omega) (Evp.pos (by omega) (Evp.some rfl ?_)))
    rw [show (((xs.length / 2 : Nat) : Int) + (-(n : Int) + k)).toNat = xs.length / 2 - n + k by omega]
    obtain ⟨M1, g1, g2, g3, g4, g5⟩ := hb.st (lo := lo) (i := xs.length / 2 - n + k) (vs := [.int .u8 (valE (sumE xs n m (-(n : Int) + k) (2 * n + 1)) sh)]) hp hlo (by simp [wideL_len]; omega)
    unfold valE at g1
    rw [w64 (x := sh - 1) (by omega)] at g1
    refine Evp.some g1 ?_
    rw [setL_one, set_map] at g2
    rw [w64 (x := -(n : Int) + k + 1) (by omega), show -(n : Int) + k + 1 = -(n : Int) + ((k + 1 : Nat) : Int) by omega]
    exact Evp.ret (ih (k + 1) M1 (by omega) (by omega) g3 g2)
end
end Go.Zt
