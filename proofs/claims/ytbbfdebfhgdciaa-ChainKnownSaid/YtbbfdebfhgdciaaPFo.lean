/- What the law ChainKnown needs of the text Fo. -/
import Derived.Test.YtbbfdebfhgdciaaPFn
set_option linter.unusedVariables false
set_option linter.unusedSimpArgs false
set_option maxRecDepth 100000
namespace Go.Zt
theorem taps_sum {t : Tp} (h : TapsP t) (v : Int) : (sevL t).getD 0 0 * v + (sevL t).getD 1 0 * v + (sevL t).getD 2 0 * v + (sevL t).getD 3 0 * v + (sevL t).getD 4 0 * v + (sevL t).getD 5 0 * v + (sevL t).getD 6 0 * v = 128 * v := by
  unfold sevL
  rw [if_pos h]
  show t.a * v + t.b * v + t.c * v + (128 - 2 * (t.a + t.b + t.c)) * v + t.c * v + t.b * v + t.a * v = 128 * v
  rw [Int.sub_mul, Int.mul_assoc, Int.add_mul, Int.add_mul]
  omega
theorem flat_acS {t : Tp} (h : TapsP t) {xs : List Int} {w y x : Nat} {v : Int} (hv : 0 ≤ v ∧ v ≤ 255) (hx : ∀ j, j < 7 → xs.getD (y * w + cxS w x j) 0 = v) : acS (sevL t) xs w y x = 16 * v := by
  have : accS (sevL t) xs w y x 7 = 128 * v := by
    rw [← taps_sum h v]
    simp only [accS, hx 0 (by omega), hx 1 (by omega), hx 2 (by omega), hx 3 (by omega), hx 4 (by omega), hx 5 (by omega), hx 6 (by omega)]
    omega
  unfold acS clipS
  rw [this]
  repeat' split
  all_goals omega
theorem flat_sampU {u : Un} (h1 : TapsP u.v) (h2 : TapsP u.h) {xs bs : List Int} {w h side y x : Nat} {v : Int} (hv : 0 ≤ v ∧ v ≤ 255) (hx : ∀ i j, i < 7 → j < 7 → xs.getD (rowN h side y i * w + cxS w x j) 0 = v) (hb : ∀ i j, i < 7 → j < 7 → bs.getD (rowN h side y i * w + cxS w x j) 0 = v) :
    sampU u xs bs w h side y x = v := by
  have t : ∀ i, i < 7 → tapR (sevL u.h) xs bs w h side y x i = 16 * v := fun i hi => by
    unfold tapR
    rw [flat_acS h2 hv (hx i · hi), flat_acS h2 hv (hb i · hi)]
    split <;> rfl
  have : vacc (sevL u.v) (sevL u.h) xs bs w h side y x 7 = 128 * (16 * v) := by
    rw [← taps_sum h1 (16 * v)]
    simp only [vacc, t 0 (by omega), t 1 (by omega), t 2 (by omega), t 3 (by omega), t 4 (by omega), t 5 (by omega), t 6 (by omega)]
    omega
  unfold sampU sampW clipS
  rw [this]
  repeat' split
  all_goals omega
theorem outW_same {us : List Un} {xs bs : List Int} {w h side : Nat} (hn : xs.length = h * w) (hw : 1 ≤ w) (hh : ∀ y x, y < h → x < w → (us.getD (y / side * wideN w side + x / side) u0).on = true → sampU (us.getD (y / side * wideN w side + x / side) u0) xs bs w h side y x = xs.getD (y * w + x) 0) : outW us xs bs w h side = xs := by
  refine ext_getD (by rw [outW_len, hn]) fun p hp => ?_
  rw [outW_len] at hp
  unfold outW
  rw [getD_map_range hp]
  have hy : p / w < h := (Nat.div_lt_iff_lt_mul (by omega)).2 hp
  have hx : p % w < w := Nat.mod_lt _ (by omega)
  have e : p / w * w + p % w = p := by rw [Nat.mul_comm]; exact Nat.div_add_mod p w
  have := hh (p / w) (p % w) hy hx
  rw [e] at this
  unfold tgtW
  split
  · rename_i h; exact this h
  · rfl
theorem rep_v {n k : Nat} {v : Int} (h : k < n) : (List.replicate n v).getD k 0 = v := by
  rw [List.getD_eq_getElem?_getD, List.getElem?_replicate, if_pos h]; rfl
end Go.Zt
