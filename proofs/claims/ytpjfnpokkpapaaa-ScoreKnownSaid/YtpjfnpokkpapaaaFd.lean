/- Numbers with a fraction: their order, rounding, sums, products, quotients. -/
import Derived.Test.YtpjfnpokkpapaaaFb
import Ieee.Arith
import GoSem.Core.Float
set_option linter.unusedVariables false
set_option maxRecDepth 10000
set_option exponentiation.threshold 5000
namespace Go.Zt
open Ieee
/-! ### To the nearest -/
/-- n / g to the nearest whole number; between two, the even one. -/
def rne (n g : Nat) : Nat := n / g + (decide (g < 2 * (n % g)) || (decide (g = 2 * (n % g)) && decide (n / g % 2 = 1))).toNat
theorem rne_le (n g : Nat) : rne n g ≤ n / g + 1 := by
  unfold rne
  have : ∀ b : Bool, b.toNat ≤ 1 := by decide
  have := this (decide (g < 2 * (n % g)) || (decide (g = 2 * (n % g)) && decide (n / g % 2 = 1)))
  omega
theorem le_rne (n g : Nat) : n / g ≤ rne n g := Nat.le_add_right _ _
theorem rne_mono {n1 n2 g : Nat} (h : n1 ≤ n2) : rne n1 g ≤ rne n2 g := by
  have hd := Nat.div_le_div_right (c := g) h
  by_cases he : n1 / g = n2 / g
  · have e1 := Nat.div_add_mod n1 g
    have e2 := Nat.div_add_mod n2 g
    rw [he] at e1
    have hm : n1 % g ≤ n2 % g := by omega
    unfold rne
    rw [he]
    have : ∀ a b : Bool, (a = true → b = true) → a.toNat ≤ b.toNat := by decide
    have := this (decide (g < 2 * (n1 % g)) || (decide (g = 2 * (n1 % g)) && decide (n2 / g % 2 = 1))) (decide (g < 2 * (n2 % g)) || (decide (g = 2 * (n2 % g)) && decide (n2 / g % 2 = 1))) (by
      simp only [Bool.or_eq_true, Bool.and_eq_true, decide_eq_true_eq]
      omega)
    omega
  · have := rne_le n1 g
    have := le_rne n2 g
    omega
theorem rne_scale (n g k : Nat) : rne (n * 2 ^ k) (g * 2 ^ k) = rne n g := by
  have hk : 0 < 2 ^ k := Nat.two_pow_pos k
  unfold rne
  rw [Nat.mul_div_mul_right _ _ hk, Nat.mul_mod_mul_right]
  have e1 : (g * 2 ^ k < 2 * (n % g * 2 ^ k)) ↔ g < 2 * (n % g) := by
    rw [← Nat.mul_assoc]; exact Nat.mul_lt_mul_right hk
  have e2 : (g * 2 ^ k = 2 * (n % g * 2 ^ k)) ↔ g = 2 * (n % g) := by
    rw [← Nat.mul_assoc]; exact Nat.mul_left_inj (by omega)
  simp only [e1, e2]
theorem rne_exact (n g : Nat) (hg : 0 < g) : rne (n * g) g = n := by
  unfold rne
  rw [Nat.mul_div_cancel _ hg, Nat.mul_mod_left]
  simp; omega
theorem rne_one (n : Nat) : rne n 1 = n := by
  have := rne_exact n 1 (by omega); rwa [Nat.mul_one] at this
theorem cut_eq (neg : Bool) (n d : Nat) : Toward.even.cut neg n d = rne n (2 ^ d) := by
  have main : Toward.even.cut neg n d = n / (1 <<< min d (n.log2 + 2)) + (decide ((1 <<< min d (n.log2 + 2)) < 2 * (n % (1 <<< min d (n.log2 + 2)))) || (decide ((1 <<< min d (n.log2 + 2)) = 2 * (n % (1 <<< min d (n.log2 + 2)))) && decide (n / (1 <<< min d (n.log2 + 2)) % 2 = 1))).toNat := rfl
  rw [main, Nat.shiftLeft_eq, Nat.one_mul]
  by_cases h : d ≤ n.log2 + 2
  · rw [Nat.min_eq_left h]; rfl
  · rw [Nat.min_eq_right (by omega)]
    have h1 : n < 2 ^ (n.log2 + 1) := Nat.lt_log2_self
    have small : ∀ e, n.log2 + 2 ≤ e → rne n (2 ^ e) = 0 := fun e he => by
      have h2 : 2 ^ (n.log2 + 2) ≤ 2 ^ e := Nat.pow_le_pow_right (by decide) he
      have h3 : 2 ^ (n.log2 + 2) = 2 * 2 ^ (n.log2 + 1) := by rw [Nat.pow_succ, Nat.mul_comm]
      unfold rne
      rw [Nat.div_eq_of_lt (by omega), Nat.mod_eq_of_lt (by omega)]
      simp; omega
    rw [small d (by omega)]
    exact small _ (Nat.le_refl _)

/-! ### Rungs -/
abbrev lastOf (m : Nat) (p : Int) : Int := max (p + m.log2 - 52) (-1074)
def rungOf (m : Nat) (p : Int) : Nat := if m = 0 then 0 else min ((lastOf m p + 1074).toNat * 2 ^ 52 + rne (m * 2 ^ (p - lastOf m p).toNat) (2 ^ (lastOf m p - p).toNat)) (2047 * 2 ^ 52)
theorem nearest_eq (neg : Bool) (m : Nat) (p : Int) : double.nearest neg m p = double.word neg (rungOf m p) := by
  unfold Format.nearest rungOf
  by_cases h : m = 0
  · rw [if_pos h, if_pos h]
  · rw [if_neg h, if_neg h]
    simp only [cut_eq, Nat.shiftLeft_eq]
    rfl
theorem rungOf_zero (p : Int) : rungOf 0 p = 0 := if_pos rfl
theorem rungOf_le (m : Nat) (p : Int) : rungOf m p ≤ 2047 * 2 ^ 52 := by
  unfold rungOf; split
  · omega
  · exact Nat.min_le_right _ _
/-- What is kept, from any place that is low enough. -/
theorem kept_at {m : Nat} {p l b : Int} (h1 : b ≤ p) (h2 : b ≤ l) : rne (m * 2 ^ (p - l).toNat) (2 ^ (l - p).toNat) = rne (m * 2 ^ (p - b).toNat) (2 ^ (l - b).toNat) := by
  by_cases h : p ≤ l
  · have e := rne_scale (m * 2 ^ (p - l).toNat) (2 ^ (l - p).toNat) (p - b).toNat
    rw [← e, show (p - l).toNat = 0 by omega, Nat.pow_zero, Nat.mul_one, ← Nat.pow_add, show (l - p).toNat + (p - b).toNat = (l - b).toNat by omega]
  · have e := rne_scale (m * 2 ^ (p - l).toNat) (2 ^ (l - p).toNat) (l - b).toNat
    rw [← e, show (l - p).toNat = 0 by omega, Nat.pow_zero, Nat.one_mul, Nat.mul_assoc, ← Nat.pow_add, show (p - l).toNat + (l - b).toNat = (p - b).toNat by omega]
theorem log2_mul_pow {m : Nat} (hm : m ≠ 0) (k : Nat) : (m * 2 ^ k).log2 = m.log2 + k := by
  have hk : 0 < 2 ^ k := Nat.two_pow_pos k
  have hne : m * 2 ^ k ≠ 0 := Nat.mul_ne_zero hm (by omega)
  have h1 : m.log2 + k ≤ (m * 2 ^ k).log2 := by
    rw [Nat.le_log2 hne, Nat.pow_add]
    exact Nat.mul_le_mul_right _ (Nat.log2_self_le hm)
  have h2 : (m * 2 ^ k).log2 < m.log2 + k + 1 := by
    rw [Nat.log2_lt hne, Nat.add_right_comm, Nat.pow_add]
    exact Nat.mul_lt_mul_of_pos_right Nat.lt_log2_self hk
  omega
theorem log2_mono {m n : Nat} (hm : m ≠ 0) (h : m ≤ n) : m.log2 ≤ n.log2 := by
  rw [Nat.le_log2 (by omega)]
  exact Nat.le_trans (Nat.log2_self_le hm) h
theorem rungOf_scale (m : Nat) (p : Int) (k : Nat) : rungOf (m * 2 ^ k) (p - k) = rungOf m p := by
  have hk : 0 < 2 ^ k := Nat.two_pow_pos k
  unfold rungOf
  by_cases h : m = 0
  · subst h; simp
  · have hne : m * 2 ^ k ≠ 0 := Nat.mul_ne_zero h (by omega)
    rw [if_neg h, if_neg hne]
    have el : lastOf (m * 2 ^ k) (p - k) = lastOf m p := by
      unfold lastOf; rw [log2_mul_pow h]; congr 1; omega
    rw [el]
    have key : rne (m * 2 ^ k * 2 ^ (p - k - lastOf m p).toNat) (2 ^ (lastOf m p - (p - k)).toNat) = rne (m * 2 ^ (p - lastOf m p).toNat) (2 ^ (lastOf m p - p).toNat) := by
      have b : ∃ b : Int, b ≤ p - k ∧ b ≤ lastOf m p := ⟨min (p - k) (lastOf m p), by omega, by omega⟩
      obtain ⟨b, b1, b2⟩ := b
      rw [kept_at (b := b) b1 b2, kept_at (b := b) (by omega) b2, Nat.mul_assoc, ← Nat.pow_add, show k + (p - k - b).toNat = (p - b).toNat by omega]
    rw [key]
theorem rne_lt {m : Nat} {p l : Int} (hm : m ≠ 0) (h : p + m.log2 - 52 ≤ l) : rne (m * 2 ^ (p - l).toNat) (2 ^ (l - p).toNat) ≤ 2 ^ 53 := by
  have h1 : m < 2 ^ (m.log2 + 1) := Nat.lt_log2_self
  have key : m * 2 ^ (p - l).toNat < 2 ^ 53 * 2 ^ (l - p).toNat := by
    rw [← Nat.pow_add]
    refine Nat.lt_of_lt_of_le (Nat.mul_lt_mul_of_pos_right h1 (Nat.two_pow_pos _)) ?_
    rw [← Nat.pow_add]
    exact Nat.pow_le_pow_right (by decide) (by omega)
  have hd : m * 2 ^ (p - l).toNat / 2 ^ (l - p).toNat < 2 ^ 53 := (Nat.div_lt_iff_lt_mul (Nat.two_pow_pos _)).2 key
  have := rne_le (m * 2 ^ (p - l).toNat) (2 ^ (l - p).toNat)
  omega
theorem le_rne52 {m : Nat} {p l : Int} (hm : m ≠ 0) (h : l = p + m.log2 - 52) : 2 ^ 52 ≤ rne (m * 2 ^ (p - l).toNat) (2 ^ (l - p).toNat) := by
  refine Nat.le_trans ?_ (le_rne _ _)
  rw [Nat.le_div_iff_mul_le (Nat.two_pow_pos _), ← Nat.pow_add]
  have h1 := Nat.log2_self_le hm
  refine Nat.le_trans ?_ (Nat.mul_le_mul_right _ h1)
  rw [← Nat.pow_add]
  exact Nat.pow_le_pow_right (by decide) (by omega)
theorem rungOf_mono1 {m1 m2 : Nat} {p : Int} (h : m1 ≤ m2) : rungOf m1 p ≤ rungOf m2 p := by
  by_cases h1 : m1 = 0
  · subst h1; rw [rungOf_zero]; exact Nat.zero_le _
  have h2 : m2 ≠ 0 := by omega
  have hl := log2_mono h1 h
  unfold rungOf
  rw [if_neg h1, if_neg h2]
  have key : (lastOf m1 p + 1074).toNat * 2 ^ 52 + rne (m1 * 2 ^ (p - lastOf m1 p).toNat) (2 ^ (lastOf m1 p - p).toNat) ≤ (lastOf m2 p + 1074).toNat * 2 ^ 52 + rne (m2 * 2 ^ (p - lastOf m2 p).toNat) (2 ^ (lastOf m2 p - p).toNat) := by
    by_cases he : lastOf m1 p = lastOf m2 p
    · rw [he]
      have := rne_mono (g := 2 ^ (lastOf m2 p - p).toNat) (Nat.mul_le_mul_right (2 ^ (p - lastOf m2 p).toNat) h)
      omega
    · have hlt : lastOf m1 p < lastOf m2 p := by unfold lastOf at he ⊢; omega
      have e2 : lastOf m2 p = p + m2.log2 - 52 := by unfold lastOf at hlt ⊢; omega
      have b1 := rne_lt (p := p) (l := lastOf m1 p) h1 (by unfold lastOf; omega)
      have b2 := le_rne52 (p := p) h2 e2
      have g1 : -1074 ≤ lastOf m1 p := by unfold lastOf; omega
      have g2 : (lastOf m1 p + 1074).toNat + 1 ≤ (lastOf m2 p + 1074).toNat := by omega
      generalize rne (m1 * 2 ^ (p - lastOf m1 p).toNat) (2 ^ (lastOf m1 p - p).toNat) = r1 at *
      generalize rne (m2 * 2 ^ (p - lastOf m2 p).toNat) (2 ^ (lastOf m2 p - p).toNat) = r2 at *
      generalize (lastOf m1 p + 1074).toNat = q1 at *
      generalize (lastOf m2 p + 1074).toNat = q2 at *
      omega
  omega
theorem rungOf_mono {m1 m2 : Nat} {p1 p2 : Int} (b : Int) (h1 : b ≤ p1) (h2 : b ≤ p2) (h : m1 * 2 ^ (p1 - b).toNat ≤ m2 * 2 ^ (p2 - b).toNat) : rungOf m1 p1 ≤ rungOf m2 p2 := by
  have e1 := rungOf_scale m1 p1 (p1 - b).toNat
  have e2 := rungOf_scale m2 p2 (p2 - b).toNat
  rw [show p1 - ((p1 - b).toNat : Int) = b by omega] at e1
  rw [show p2 - ((p2 - b).toNat : Int) = b by omega] at e2
  rw [← e1, ← e2]
  exact rungOf_mono1 h

/-! ### What a rung stands for -/
def magR (r : Nat) : Nat := if r < 2 ^ 52 then r else 2 ^ 52 + r % 2 ^ 52
def plR (r : Nat) : Int := if r < 2 ^ 52 then -1074 else -1074 + ((r / 2 ^ 52 - 1 : Nat) : Int)
theorem read_word {neg : Bool} {r : Nat} (h : r < 2047 * 2 ^ 52) : double.read (double.word neg r) = .number neg (magR r) (plR r) := by
  have e : double.signWeight = 2 ^ 63 := rfl
  have b : double.binade = 2 ^ 52 := rfl
  have i : double.infRung = 2047 * 2 ^ 52 := rfl
  have l : double.leastPlace = -1074 := rfl
  have h1 : double.word neg r % double.signWeight = r := by
    unfold Format.word; rw [e]; split <;> omega
  have h2 : (double.word neg r / double.signWeight % 2 == 1) = neg := by
    unfold Format.word; rw [e]; cases neg
    · rw [if_neg (by decide), Nat.div_eq_of_lt (by omega)]; rfl
    · rw [if_pos rfl, show (2 ^ 63 + r) / 2 ^ 63 = 1 by omega]; rfl
  unfold Format.read
  simp only [h1, h2, b, i, l]
  unfold magR plR
  by_cases hr : r < 2 ^ 52
  · rw [if_pos hr, if_pos hr, if_pos hr]
  · rw [if_neg hr, if_pos h, if_neg hr, if_neg hr]
theorem read_inf {neg : Bool} : double.read (double.word neg (2047 * 2 ^ 52)) = .infinity neg := by cases neg <;> decide +kernel
theorem plR_le (r : Nat) : -1074 ≤ plR r := by unfold plR; split <;> omega
theorem lastOf_of {m : Nat} {p : Int} (h : m.log2 = 52) (hp : -1074 ≤ p) : lastOf m p = p := by unfold lastOf; rw [h]; omega
theorem rungOf_read {r : Nat} (h : r < 2047 * 2 ^ 52) : rungOf (magR r) (plR r) = r := by
  unfold rungOf magR plR
  by_cases hr : r < 2 ^ 52
  · rw [if_pos hr, if_pos hr]
    by_cases h0 : r = 0
    · rw [if_pos h0, h0]
    · rw [if_neg h0]
      have hl : r.log2 < 52 := (Nat.log2_lt h0).2 hr
      have el : lastOf r (-1074) = -1074 := by unfold lastOf; omega
      rw [el]
      have := rne_one r
      simp only [Int.sub_self, Int.toNat_zero, Nat.pow_zero, Nat.mul_one, this]
      omega
  · rw [if_neg hr, if_neg hr]
    have hm : 2 ^ 52 + r % 2 ^ 52 ≠ 0 := by omega
    rw [if_neg hm]
    have hl : (2 ^ 52 + r % 2 ^ 52).log2 = 52 := by
      have h1 : (2 ^ 52 + r % 2 ^ 52).log2 < 53 := (Nat.log2_lt hm).2 (by omega)
      have h2 : 52 ≤ (2 ^ 52 + r % 2 ^ 52).log2 := (Nat.le_log2 hm).2 (by omega)
      omega
    have el : lastOf (2 ^ 52 + r % 2 ^ 52) (-1074 + ((r / 2 ^ 52 - 1 : Nat) : Int)) = -1074 + ((r / 2 ^ 52 - 1 : Nat) : Int) := lastOf_of hl (by omega)
    rw [el]
    simp only [Int.sub_self, Int.toNat_zero, Nat.pow_zero, Nat.mul_one, rne_one]
    omega
def bigK : Nat := 2 ^ 3000
/-- The value, in units of the least place. -/
def keyR (r : Nat) : Nat := if r < 2047 * 2 ^ 52 then magR r * 2 ^ (plR r + 1074).toNat else bigK
theorem magR_lt (r : Nat) : magR r < 2 ^ 53 := by unfold magR; split <;> omega
theorem plR_lt {r : Nat} (h : r < 2047 * 2 ^ 52) : plR r < 972 := by unfold plR; split <;> omega
theorem keyR_lt {r : Nat} (h : r < 2047 * 2 ^ 52) : keyR r < bigK := by
  unfold keyR bigK
  rw [if_pos h]
  have h1 := magR_lt r
  have h2 := plR_lt h
  refine Nat.lt_of_lt_of_le (Nat.mul_lt_mul_of_pos_right h1 (Nat.two_pow_pos _)) ?_
  rw [← Nat.pow_add]
  exact Nat.pow_le_pow_right (by decide) (by omega)
theorem keyR_mono {r s : Nat} (h : r < s) (hs : s ≤ 2047 * 2 ^ 52) : keyR r < keyR s := by
  have hr : r < 2047 * 2 ^ 52 := by omega
  by_cases he : s = 2047 * 2 ^ 52
  · have := keyR_lt hr
    unfold keyR at this ⊢
    rw [if_neg (show ¬ s < 2047 * 2 ^ 52 by omega)]
    exact this
  · have hs' : s < 2047 * 2 ^ 52 := by omega
    refine Nat.lt_of_not_le fun hle => ?_
    unfold keyR at hle
    rw [if_pos hr, if_pos hs'] at hle
    have p1 := plR_le r
    have p2 := plR_le s
    have := rungOf_mono (-1074) p2 p1 (by rw [show plR s - -1074 = plR s + 1074 by omega, show plR r - -1074 = plR r + 1074 by omega]; exact hle)
    rw [rungOf_read hr, rungOf_read hs'] at this
    omega
theorem keyR_le {r s : Nat} (h : r ≤ s) (hs : s ≤ 2047 * 2 ^ 52) : keyR r ≤ keyR s := by
  rcases Nat.lt_or_eq_of_le h with h | h
  · exact Nat.le_of_lt (keyR_mono h hs)
  · rw [h]; exact Nat.le_refl _

/-! ### The order -/
/-- The value of a word, in units of the least place; none of what is no number. -/
def fkey (x : Nat) : Option Int := match double.read x with
  | .nan .. => none
  | .infinity s => some (if s then -(bigK : Int) else bigK)
  | .number s m i => some (signed s m (i + 1074).toNat)
theorem read_place {x : Nat} {s : Bool} {m : Nat} {i : Int} (h : double.read x = .number s m i) : -1074 ≤ i ∧ i < 972 ∧ m < 2 ^ 53 := by
  have e : double.signWeight = 2 ^ 63 := rfl
  have b : double.binade = 2 ^ 52 := rfl
  have hi : double.infRung = 2047 * 2 ^ 52 := rfl
  have l : double.leastPlace = -1074 := rfl
  unfold Format.read at h
  simp only [b, hi, l] at h
  split at h
  · injection h with h1 h2 h3; omega
  · split at h
    · injection h with h1 h2 h3; omega
    · split at h <;> cases h
theorem signed_mul (s : Bool) (m a b : Nat) : signed s m (a + b) = signed s m a * 2 ^ b := by
  unfold signed
  simp only [Nat.shiftLeft_eq, Nat.pow_add, ← Nat.mul_assoc]
  split
  · rw [Int.neg_mul]; simp
  · simp
theorem cmp_scale (a b : Int) (k : Nat) : compare (a * 2 ^ k) (b * 2 ^ k) = compare a b := by
  have hk : (0 : Int) < 2 ^ k := Int.pow_pos (by decide)
  simp only [compare, compareOfLessAndEq]
  have e1 : a * 2 ^ k < b * 2 ^ k ↔ a < b := Int.mul_lt_mul_right hk
  have e2 : a * 2 ^ k = b * 2 ^ k ↔ a = b := Int.mul_eq_mul_right_iff (by omega)
  simp only [e1, e2]
theorem signed_lt {s : Bool} {m n : Nat} (h : m < 2 ^ 53) (hn : n < 2046) : -(bigK : Int) < signed s m n ∧ signed s m n < (bigK : Int) := by
  have h1 : m * 2 ^ n < bigK := by
    unfold bigK
    refine Nat.lt_of_lt_of_le (Nat.mul_lt_mul_of_pos_right h (Nat.two_pow_pos _)) ?_
    rw [← Nat.pow_add]
    exact Nat.pow_le_pow_right (by decide) (by omega)
  unfold signed
  rw [Nat.shiftLeft_eq]
  generalize m * 2 ^ n = z at *
  split <;> omega
theorem bigK_pos : 0 < bigK := Nat.two_pow_pos _
theorem order_key (x y : Nat) : double.order x y = match fkey x, fkey y with | some a, some b => some (compare a b) | _, _ => none := by
  unfold Format.order fkey
  cases hx : double.read x with
  | nan s f => cases double.read y <;> rfl
  | infinity s =>
    cases hy : double.read y with
    | nan => rfl
    | infinity t =>
      have := bigK_pos
      simp only [Datum.order]
      congr 1
      cases s <;> cases t <;> simp only [Bool.false_eq_true, if_false, if_true, compare, compareOfLessAndEq, Bool.toNat_true, Bool.toNat_false]
      · simp
      · rw [if_neg (show ¬ ((bigK : Int) < -(bigK : Int)) by omega), if_neg (show ¬ ((bigK : Int) = -(bigK : Int)) by omega)]; rfl
      · rw [if_pos (show (-(bigK : Int) < (bigK : Int)) by omega)]; rfl
      · simp
    | number t n j =>
      obtain ⟨y1, y2, y3⟩ := read_place hy
      have := signed_lt (s := t) (n := (j + 1074).toNat) y3 (by omega)
      simp only [Datum.order]
      congr 1
      cases s
      · simp only [Bool.false_eq_true, if_false, compare, compareOfLessAndEq]
        rw [if_neg (by omega), if_neg (by omega)]
      · simp only [if_true, compare, compareOfLessAndEq]
        rw [if_pos (by omega)]
  | number s m i =>
    obtain ⟨x1, x2, x3⟩ := read_place hx
    have hxs := signed_lt (s := s) (n := (i + 1074).toNat) x3 (by omega)
    cases hy : double.read y with
    | nan => rfl
    | infinity t =>
      simp only [Datum.order]
      congr 1
      cases t
      · simp only [Bool.false_eq_true, if_false, compare, compareOfLessAndEq]
        rw [if_pos (by omega)]
      · simp only [if_true, compare, compareOfLessAndEq]
        rw [if_neg (by omega), if_neg (by omega)]
    | number t n j =>
      obtain ⟨y1, y2, y3⟩ := read_place hy
      simp only [Datum.order]
      congr 1
      rw [show (i + 1074).toNat = (i - min i j).toNat + (min i j + 1074).toNat by omega, show (j + 1074).toNat = (j - min i j).toNat + (min i j + 1074).toNat by omega, signed_mul, signed_mul, cmp_scale]
theorem fkey_word {neg : Bool} {r : Nat} (h : r ≤ 2047 * 2 ^ 52) : fkey (double.word neg r) = some (if neg then -(keyR r : Int) else keyR r) := by
  unfold fkey
  by_cases hr : r < 2047 * 2 ^ 52
  · rw [read_word hr]
    simp only [signed, Nat.shiftLeft_eq]
    unfold keyR
    rw [if_pos hr]
  · have : r = 2047 * 2 ^ 52 := by omega
    subst this
    rw [read_inf]
    unfold keyR
    rw [if_neg hr]
/-! ### Words that are not below 0 -/
abbrev infR : Nat := 2047 * 2 ^ 52
theorem word_false (r : Nat) : double.word false r = r := rfl
theorem key_of {x : Nat} (h : x ≤ infR) : fkey x = some (keyR x : Int) := by
  have := fkey_word (neg := false) (r := x) h
  simpa [word_false] using this
theorem read_of {x : Nat} (h : x < infR) : double.read x = .number false (magR x) (plR x) := read_word (neg := false) h
theorem mag_key {x : Nat} (h : x < infR) : magR x * 2 ^ (plR x + 1074).toNat = keyR x := by unfold keyR; rw [if_pos h]
/-- What a sum comes to. -/
def sumR (r e : Nat) : Nat := if r = infR then infR else rungOf (keyR r + keyR e) (-1074)
theorem sumR_le (r e : Nat) : sumR r e ≤ infR := by
  unfold sumR; split
  · exact Nat.le_refl _
  · exact rungOf_le _ _
theorem sumR_mono {r1 r2 e1 e2 : Nat} (h : r1 ≤ r2) (h2 : r2 ≤ infR) (he : e1 ≤ e2) (he2 : e2 ≤ infR) : sumR r1 e1 ≤ sumR r2 e2 := by
  by_cases hi : r2 = infR
  · have := sumR_le r1 e1
    unfold sumR at this ⊢
    rw [if_pos hi]; exact this
  · have k1 := keyR_le h h2
    have k2 := keyR_le he he2
    unfold sumR
    rw [if_neg hi, if_neg (by omega)]
    exact rungOf_mono1 (by omega)
theorem signed_false (m n : Nat) : signed false m n = ((m * 2 ^ n : Nat) : Int) := by unfold signed; rw [Nat.shiftLeft_eq]; rfl
theorem signed_zero (s : Bool) (n : Nat) : signed s 0 n = 0 := by unfold signed; rw [Nat.shiftLeft_eq]; cases s <;> simp
/-- A sum, as its value in units of the least place. -/
theorem sum_number {s t : Bool} {m n : Nat} {i j : Int} (hi : -1074 ≤ i) (hj : -1074 ≤ j) {a b : Int} (ha : signed s m (i + 1074).toNat = a) (hb : signed t n (j + 1074).toNat = b) :
    ((Datum.number s m i).sum (.number t n j)).map double.write = some (double.word (if a + b = 0 then s && t else decide (a + b < 0)) (rungOf (a + b).natAbs (-1074))) := by
  have e1 : (i + 1074).toNat = (i - min i j).toNat + (min i j + 1074).toNat := by omega
  have e2 : (j + 1074).toNat = (j - min i j).toNat + (min i j + 1074).toNat := by omega
  rw [e1, signed_mul] at ha
  rw [e2, signed_mul] at hb
  have hk : (0 : Int) < 2 ^ (min i j + 1074).toNat := Int.pow_pos (by decide)
  simp only [Datum.sum, Option.map_some, Format.write, nearest_eq]
  congr 1
  have es : a + b = (signed s m (i - min i j).toNat + signed t n (j - min i j).toNat) * 2 ^ (min i j + 1074).toNat := by rw [← ha, ← hb, Int.add_mul]
  rw [es]
  generalize signed s m (i - min i j).toNat + signed t n (j - min i j).toNat = total
  have z : total * 2 ^ (min i j + 1074).toNat = 0 ↔ total = 0 := by
    rw [Int.mul_eq_zero]; constructor
    · rintro (h | h)
      · exact h
      · omega
    · exact .inl
  have l : total * 2 ^ (min i j + 1074).toNat < 0 ↔ total < 0 := by
    have := Int.mul_lt_mul_right (b := total) (c := 0) hk
    rwa [Int.zero_mul] at this
  congr 1
  · simp only [z, l]
  · rw [Int.natAbs_mul, Int.natAbs_pow]
    have := rungOf_scale total.natAbs (min i j) (min i j + 1074).toNat
    rw [show min i j - ((min i j + 1074).toNat : Int) = -1074 by omega] at this
    exact this.symm
theorem mag0 : magR 0 = 0 := by unfold magR; rw [if_pos (by omega)]
theorem infR_ne : infR ≠ 0 := by unfold infR; omega
theorem sum_inf {m : Nat} {i : Int} : ((Datum.infinity false).sum (.number false m i)).map double.write = some (double.word false double.infRung) := rfl
theorem inf_word : double.word false double.infRung = infR := by decide +kernel
theorem add_of {x : Nat} {r e : Nat} {s : Bool} (hx : x = double.word s r) (hs : s = true → r = 0) (hr : r ≤ infR) (he : e < infR) : double.add x e = some (sumR r e) := by
  subst hx
  unfold Format.add
  rw [read_of he]
  unfold sumR
  by_cases hi : r = infR
  · subst hi
    have : s = false := by cases s; rfl; exact absurd (hs rfl) infR_ne
    subst this
    rw [read_inf, if_pos rfl, sum_inf, inf_word]
  · have hr' : r < infR := by omega
    rw [read_word hr', if_neg hi]
    have p1 := plR_le r
    have p2 := plR_le e
    have ha : signed s (magR r) (plR r + 1074).toNat = ((keyR r : Nat) : Int) := by
      cases s with
      | false => rw [signed_false, mag_key hr']
      | true =>
        have := hs rfl
        subst this
        rw [mag0, signed_zero, ← mag_key hr', mag0, Nat.zero_mul]; rfl
    rw [sum_number p1 p2 ha (by rw [signed_false, mag_key he])]
    congr 1
    rw [← Int.natCast_add, Int.natAbs_natCast]
    have : (if ((keyR r + keyR e : Nat) : Int) = 0 then s && false else decide (((keyR r + keyR e : Nat) : Int) < 0)) = false := by
      split
      · simp
      · simp; omega
    rw [this, word_false]
theorem mul_of {x : Nat} {s : Bool} {m : Nat} {i : Int} {r : Nat} (hx : double.read x = .number s m i) (hr : r < infR) : double.mul x r = some (double.word s (rungOf (m * magR r) (i + plR r))) := by
  unfold Format.mul
  rw [hx, read_of hr]
  simp only [Datum.product, Option.map_some, Format.write, nearest_eq, Bool.bne_false]
theorem mul_mono {m : Nat} {i : Int} {r1 r2 : Nat} (h : r1 ≤ r2) (h2 : r2 < infR) : rungOf (m * magR r1) (i + plR r1) ≤ rungOf (m * magR r2) (i + plR r2) := by
  have p1 := plR_le r1
  have p2 := plR_le r2
  refine rungOf_mono (i - 1074) (by omega) (by omega) ?_
  rw [show i + plR r1 - (i - 1074) = plR r1 + 1074 by omega, show i + plR r2 - (i - 1074) = plR r2 + 1074 by omega, Nat.mul_assoc, Nat.mul_assoc, mag_key (by omega), mag_key h2]
  exact Nat.mul_le_mul_left _ (keyR_le h (Nat.le_of_lt h2))
theorem nat_rung_lt {n : Nat} (h : n < 2 ^ 64) : rungOf n 0 < infR := by
  have h1 : rungOf n 0 ≤ rungOf (2 ^ 64) 0 := rungOf_mono1 (by omega)
  have h2 : rungOf (2 ^ 64) 0 < infR := by decide +kernel
  omega
/-- Not below 0, and finite: as a number. -/
theorem read_pos {x : Nat} {a : Int} (h : fkey x = some a) (h0 : 0 ≤ a) (hi : a < bigK) : ∃ s m i, double.read x = .number s m i ∧ (s = true → m = 0) := by
  unfold fkey at h
  split at h
  · cases h
  · rename_i s hr
    have := bigK_pos
    cases s <;> simp at h <;> omega
  · rename_i s m i hr
    refine ⟨s, m, i, hr, fun e => ?_⟩
    subst e
    injection h with h
    unfold signed at h
    rw [Nat.shiftLeft_eq, if_pos rfl] at h
    have : m * 2 ^ (i + 1074).toNat = 0 := by omega
    rcases Nat.mul_eq_zero.1 this with h | h
    · exact h
    · exact absurd h (Nat.pos_iff_ne_zero.1 (Nat.two_pow_pos _))

/-! ### Comparisons -/
section
variable {x y : Nat} {a b : Int}
theorem c_lt {a b : Int} : (compare a b == Ordering.lt) = decide (a < b) := by
  simp only [compare, compareOfLessAndEq]; split
  · simp [*]
  · split <;> simp [*]
theorem c_eq {a b : Int} : (compare a b == Ordering.eq) = decide (a = b) := by
  simp only [compare, compareOfLessAndEq]; split
  · simp; omega
  · split <;> simp [*]
theorem c_gt {a b : Int} : (compare a b == Ordering.gt) = decide (b < a) := by
  simp only [compare, compareOfLessAndEq]; split
  · simp; omega
  · split
    · simp; omega
    · simp; omega
theorem ord_of (hx : fkey x = some a) (hy : fkey y = some b) : double.order x y = some (compare a b) := by rw [order_key, hx, hy]
theorem o_lt (hx : fkey x = some a) (hy : fkey y = some b) : (double.order x y == some .lt) = decide (a < b) := by rw [ord_of hx hy]; exact c_lt
theorem o_eq (hx : fkey x = some a) (hy : fkey y = some b) : (double.order x y == some .eq) = decide (a = b) := by rw [ord_of hx hy]; exact c_eq
theorem o_gt (hx : fkey x = some a) (hy : fkey y = some b) : (double.order x y == some .gt) = decide (b < a) := by rw [ord_of hx hy]; exact c_gt
theorem o_le (hx : fkey x = some a) (hy : fkey y = some b) : (double.order x y == some .lt || double.order x y == some .eq) = decide (a ≤ b) := by
  rw [o_lt hx hy, o_eq hx hy, ← Bool.decide_or]
  exact decide_eq_decide.2 (by omega)
theorem o_ge (hx : fkey x = some a) (hy : fkey y = some b) : (double.order x y == some .gt || double.order x y == some .eq) = decide (b ≤ a) := by
  rw [o_gt hx hy, o_eq hx hy, ← Bool.decide_or]
  exact decide_eq_decide.2 (by omega)
end

/-! ### Whole numbers -/
def intF (z : Int) : Nat := double.word (decide (z < 0)) (rungOf z.natAbs 0)
theorem exact_key {n : Nat} (h : n < 2 ^ 53) : keyR (rungOf n 0) = n * 2 ^ 1074 := by
  by_cases h0 : n = 0
  · subst h0; rw [rungOf_zero]; decide +kernel
  have hl : n.log2 < 53 := (Nat.log2_lt h0).2 h
  have el : lastOf n 0 = (n.log2 : Int) - 52 := by unfold lastOf; omega
  have k1 : 2 ^ 52 ≤ n * 2 ^ (52 - n.log2) := by
    refine Nat.le_trans ?_ (Nat.mul_le_mul_right _ (Nat.log2_self_le h0))
    rw [← Nat.pow_add]
    exact Nat.pow_le_pow_right (by decide) (by omega)
  have k2 : n * 2 ^ (52 - n.log2) < 2 ^ 53 := by
    refine Nat.lt_of_lt_of_le (Nat.mul_lt_mul_of_pos_right Nat.lt_log2_self (Nat.two_pow_pos _)) ?_
    rw [← Nat.pow_add]
    exact Nat.pow_le_pow_right (by decide) (by omega)
  have er : rungOf n 0 = (n.log2 + 1022) * 2 ^ 52 + n * 2 ^ (52 - n.log2) := by
    unfold rungOf
    rw [if_neg h0, el, show ((0 : Int) - ((n.log2 : Int) - 52)).toNat = 52 - n.log2 by omega, show ((n.log2 : Int) - 52 - 0).toNat = 0 by omega, Nat.pow_zero, rne_one, show ((n.log2 : Int) - 52 + 1074).toNat = n.log2 + 1022 by omega]
    generalize n * 2 ^ (52 - n.log2) = k at *
    omega
  have hlt : rungOf n 0 < infR := by
    rw [er]; generalize n * 2 ^ (52 - n.log2) = k at *; unfold infR; omega
  rw [← mag_key hlt]
  have em : magR (rungOf n 0) = n * 2 ^ (52 - n.log2) := by
    rw [er]; unfold magR
    generalize n * 2 ^ (52 - n.log2) = k at *
    split <;> omega
  have ep : plR (rungOf n 0) + 1074 = ((n.log2 + 1022 : Nat) : Int) := by
    rw [er]; unfold plR
    generalize n * 2 ^ (52 - n.log2) = k at *
    split <;> omega
  rw [em, ep, Int.toNat_natCast, Nat.mul_assoc, ← Nat.pow_add]
  congr 2; omega
theorem read_int {z : Int} (h : z.natAbs < 2 ^ 53) : ∃ m i, double.read (intF z) = .number (decide (z < 0)) m i ∧ -1074 ≤ i ∧ m * 2 ^ (i + 1074).toNat = z.natAbs * 2 ^ 1074 ∧ signed (decide (z < 0)) m (i + 1074).toNat = z * 2 ^ 1074 := by
  have hlt := nat_rung_lt (n := z.natAbs) (by omega)
  refine ⟨_, _, read_word hlt, plR_le _, by rw [mag_key hlt, exact_key h], ?_⟩
  unfold signed
  rw [Nat.shiftLeft_eq, mag_key hlt, exact_key h]
  by_cases hz : z < 0
  · rw [decide_eq_true hz, if_pos rfl, Int.natCast_mul, show ((z.natAbs : Nat) : Int) = -z by omega, Int.neg_mul, Int.neg_neg]; simp
  · rw [decide_eq_false hz, if_neg (by decide), Int.natCast_mul, show ((z.natAbs : Nat) : Int) = z by omega]; simp
theorem key_int {z : Int} (h : z.natAbs < 2 ^ 53) : fkey (intF z) = some (z * 2 ^ 1074) := by
  obtain ⟨m, i, h1, h2, h3, h4⟩ := read_int h
  unfold fkey
  rw [h1]
  simp only [h4]
theorem rungOf_int (n : Nat) : rungOf (n * 2 ^ 1074) (-1074) = rungOf n 0 := rungOf_scale n 0 1074
theorem add_int {a b : Int} (ha : a.natAbs < 2 ^ 53) (hb : b.natAbs < 2 ^ 53) : double.add (intF a) (intF b) = some (intF (a + b)) := by
  obtain ⟨m, i, h1, h2, h3, h4⟩ := read_int ha
  obtain ⟨n, j, g1, g2, g3, g4⟩ := read_int hb
  unfold Format.add
  rw [h1, g1, sum_number h2 g2 h4 g4]
  congr 1
  rw [← Int.add_mul]
  have hk : (0 : Int) < 2 ^ 1074 := Int.pow_pos (by decide)
  have z : (a + b) * 2 ^ 1074 = 0 ↔ a + b = 0 := by
    rw [Int.mul_eq_zero]; constructor
    · rintro (h | h)
      · exact h
      · omega
    · exact .inl
  have l : (a + b) * 2 ^ 1074 < 0 ↔ a + b < 0 := by
    have := Int.mul_lt_mul_right (b := a + b) (c := 0) hk
    rwa [Int.zero_mul] at this
  have na : ((a + b) * 2 ^ 1074).natAbs = (a + b).natAbs * 2 ^ 1074 := by rw [Int.natAbs_mul, Int.natAbs_pow]; rfl
  rw [na, rungOf_int]
  unfold intF
  congr 1
  simp only [z, l]
  by_cases h : a + b = 0
  · rw [if_pos h, decide_eq_false (show ¬ a + b < 0 by omega)]
    by_cases h1 : a < 0
    · rw [decide_eq_false (show ¬ b < 0 by omega)]; simp
    · rw [decide_eq_false h1]; simp
  · rw [if_neg h]
theorem nearest_int (z : Int) : FloatKind.f64.nearest z = intF z := by
  unfold FloatKind.nearest intF
  exact nearest_eq _ _ _

/-! ### Quotients -/
theorem quo_ge {m n c more : Nat} {b pc : Int} (hn : n ≠ 0) (hb : b ≤ pc) (h : c * 2 ^ (pc - b).toNat * n ≤ m * 2 ^ more) : rungOf c pc ≤ rungOf (2 * (m * 2 ^ more / n) + (m * 2 ^ more % n != 0).toNat) (b - 1) := by
  refine rungOf_mono (b - 1) (by omega) (Int.le_refl _) ?_
  rw [Int.sub_self, Int.toNat_zero, Nat.pow_zero, Nat.mul_one, show (pc - (b - 1)).toNat = (pc - b).toNat + 1 by omega, Nat.pow_succ, ← Nat.mul_assoc]
  have := (Nat.le_div_iff_mul_le (Nat.pos_of_ne_zero hn)).2 h
  omega
theorem quo_le {m n c more : Nat} {b pc : Int} (hn : n ≠ 0) (hb : b ≤ pc) (h : m * 2 ^ more ≤ c * 2 ^ (pc - b).toNat * n) : rungOf (2 * (m * 2 ^ more / n) + (m * 2 ^ more % n != 0).toNat) (b - 1) ≤ rungOf c pc := by
  refine rungOf_mono (b - 1) (Int.le_refl _) (by omega) ?_
  rw [Int.sub_self, Int.toNat_zero, Nat.pow_zero, Nat.mul_one, show (pc - (b - 1)).toNat = (pc - b).toNat + 1 by omega, Nat.pow_succ, ← Nat.mul_assoc]
  generalize c * 2 ^ (pc - b).toNat = C at *
  have e := Nat.div_add_mod (m * 2 ^ more) n
  by_cases hm : m * 2 ^ more % n = 0
  · rw [hm]
    have : n * (m * 2 ^ more / n) ≤ n * C := by rw [Nat.mul_comm n C]; omega
    have := Nat.le_of_mul_le_mul_left this (Nat.pos_of_ne_zero hn)
    simp; omega
  · have : m * 2 ^ more / n < C := by
      rw [Nat.div_lt_iff_lt_mul (Nat.pos_of_ne_zero hn)]
      refine Nat.lt_of_le_of_ne h fun h' => hm ?_
      rw [h', Nat.mul_mod_left]
    have e1 : (m * 2 ^ more % n != 0) = true := by simp [hm]
    rw [e1]
    simp; omega
end Go.Zt
