/- What scores come to: the plain laws. -/
import Derived.Test.YtpjfnpokkpapaaaFd
import Derived.Laws.Strings
set_option linter.unusedVariables false
set_option linter.unusedSimpArgs false
set_option maxRecDepth 10000
set_option exponentiation.threshold 5000
namespace Go.Zt
open Ieee
/-! ### What is no number -/
theorem nan_key {x : Nat} : nanF x = (fkey x).isNone := by
  unfold nanF
  rw [fmt64, order_key]
  cases fkey x with
  | none => rfl
  | some a => simp [cmp_self]
theorem key_some {x : Nat} (h : nanF x = false) : ∃ a, fkey x = some a := by
  rw [nan_key] at h
  cases hk : fkey x with
  | none => rw [hk] at h; cases h
  | some a => exact ⟨a, rfl⟩
theorem key0 : fkey 0 = some 0 := by
  have := key_of (x := 0) (by unfold infR; omega)
  rw [this, ← mag_key (by unfold infR; omega), mag0, Nat.zero_mul]; rfl
theorem key_abs {x : Nat} {a : Int} (h : fkey x = some a) : -(bigK : Int) ≤ a ∧ a ≤ bigK := by
  have := bigK_pos
  unfold fkey at h
  split at h
  · cases h
  · rename_i s hr; cases s <;> simp at h <;> omega
  · rename_i s m i hr
    injection h with h
    obtain ⟨x1, x2, x3⟩ := read_place hr
    have := signed_lt (s := s) (n := (i + 1074).toNat) x3 (by omega)
    omega
theorem key_inf {x : Nat} {a : Int} (h : fkey x = some a) : (∃ s, double.read x = .infinity s) ↔ a = bigK ∨ a = -(bigK : Int) := by
  have := bigK_pos
  constructor
  · rintro ⟨s, hr⟩
    unfold fkey at h
    rw [hr] at h
    cases s <;> simp at h <;> omega
  · intro ha
    unfold fkey at h
    split at h
    · cases h
    · rename_i s hr; exact ⟨s, hr⟩
    · rename_i s m i hr
      injection h with h
      obtain ⟨x1, x2, x3⟩ := read_place hr
      have := signed_lt (s := s) (n := (i + 1074).toNat) x3 (by omega)
      omega
theorem sub_nan_iff {x : Nat} {a : Int} (h : fkey x = some a) : nanF (fsub .f64 x x) = decide (a = bigK ∨ a = -(bigK : Int)) := by
  have hn : nanF x = false := by rw [nan_key, h]; rfl
  rw [← decide_eq_decide.2 (key_inf h)]
  rcases sub_self hn with e | ⟨h1, e⟩
  · rw [e, nan_zero]
    symm
    apply decide_eq_false
    rintro ⟨s, hr⟩
    have : fsub .f64 x x = fnan .f64 := by
      unfold fsub; rw [fmt64]; unfold Format.sub; rw [hr]; cases s <;> rfl
    rw [this] at e
    have := nan_nan
    rw [e, nan_zero] at this
    cases this
  · rw [e, nan_nan, decide_eq_true h1]
abbrev infT : ByteArray := ⟨#[105, 110, 102]⟩
theorem bytes_eq (a b : ByteArray) : (a.toList == b.toList) = decide (a = b) := by
  by_cases h : a = b
  · subst h; simp
  · rw [decide_eq_false h]
    apply Bool.eq_false_iff.2
    intro he
    apply h
    have he : a.toList = b.toList := by simpa using he
    rw [ByteArray.toList_eq, ByteArray.toList_eq] at he
    cases a; cases b
    congr 1
    exact Array.toList_inj.1 he
theorem class_inf {x : Nat} {a : Int} (h : fkey x = some a) : ((classS x).toList == infT.toList) = decide (a = bigK) := by
  have hn : nanF x = false := by rw [nan_key, h]; rfl
  have := bigK_pos
  rw [bytes_eq]
  apply decide_eq_decide.2
  unfold classS
  rw [hn, fmt64, o_eq h key0, o_lt h key0, sub_nan_iff h]
  by_cases h0 : a = 0
  · rw [decide_eq_true h0]
    simp only [Bool.false_eq_true, if_false, if_true]
    constructor
    · intro e; split at e <;> cases e
    · omega
  · rw [decide_eq_false h0]
    simp only [Bool.false_eq_true, if_false]
    by_cases hb : a = bigK
    · rw [decide_eq_true (.inl hb), decide_eq_false (show ¬ a < 0 by omega)]
      simp [hb]
    · by_cases hc : a = -(bigK : Int)
      · rw [decide_eq_true (.inr hc), decide_eq_true (show a < 0 by omega)]
        simp only [if_true]
        constructor
        · intro e; cases e
        · omega
      · rw [decide_eq_false (by omega)]
        simp only [Bool.false_eq_true, if_false]
        constructor
        · intro e
          split at e
          · cases e
          · split at e <;> cases e
        · omega

/-! ### What it costs -/
theorem int_pos {z : Int} (h : 0 ≤ z) : intF z = rungOf z.toNat 0 := by
  unfold intF
  rw [decide_eq_false (by omega), word_false]
  congr 1; omega
theorem costS_eq {d rate : Int} {l : Nat} {s : Bool} {m : Nat} {i : Int} (hl : double.read l = .number s m i) (hs : s = true → m = 0) (hd : 0 ≤ d ∧ d < 2 ^ 64) (hr : 0 ≤ rate ∧ rate < 2 ^ 64) :
    costS d rate l = sumR (rungOf (m * magR (rungOf rate.toNat 0)) (i + plR (rungOf rate.toNat 0))) (rungOf d.toNat 0) := by
  unfold costS fadd fmul
  have r1 := nat_rung_lt (n := rate.toNat) (by omega)
  have r2 := nat_rung_lt (n := d.toNat) (by omega)
  rw [fmt64, nearest_int, nearest_int, int_pos hr.1, int_pos hd.1, mul_of hl r1, Option.getD_some, add_of (s := s) rfl (fun e => by rw [hs e, Nat.zero_mul, rungOf_zero]) (rungOf_le _ _) r2]
  rfl
theorem cost_mono {d1 d2 r1 r2 : Int} {l : Nat} {a : Int} (hl : fkey l = some a) (h0 : 0 ≤ a) (hi : a < bigK) (hd : 0 ≤ d1 ∧ d1 ≤ d2 ∧ d2 < 2 ^ 64) (hr : 0 ≤ r1 ∧ r1 ≤ r2 ∧ r2 < 2 ^ 64) :
    costS d1 r1 l ≤ costS d2 r2 l ∧ costS d2 r2 l ≤ infR := by
  obtain ⟨s, m, i, h1, h2⟩ := read_pos hl h0 hi
  rw [costS_eq h1 h2 ⟨by omega, by omega⟩ ⟨by omega, by omega⟩, costS_eq h1 h2 ⟨by omega, by omega⟩ ⟨by omega, by omega⟩]
  refine ⟨sumR_mono (mul_mono (rungOf_mono1 (by omega)) (nat_rung_lt (by omega))) (rungOf_le _ _) (rungOf_mono1 (by omega)) (rungOf_le _ _), sumR_le _ _⟩

/-! ### Means -/
theorem quo_read {s t : Bool} {m n : Nat} {i j : Int} (hn : n ≠ 0) : ((Datum.number s m i).quotient 54 (.number t n j)).map double.write =
    some (double.word (s ^^ t) (rungOf (2 * (m * 2 ^ (54 + n.log2 - m.log2) / n) + (m * 2 ^ (54 + n.log2 - m.log2) % n != 0).toNat) (i - j - (54 + n.log2 - m.log2 : Nat) - 1))) := by
  unfold Datum.quotient
  simp only [if_neg hn, Option.map_some, Format.write, nearest_eq, Nat.shiftLeft_eq]
/-- A quotient of whole numbers. -/
def tQ (S N : Nat) : Nat := 54 + N.log2 - S.log2
def quoN (S N : Nat) : Nat := rungOf (2 * (S * 2 ^ tQ S N / N) + (S * 2 ^ tQ S N % N != 0).toNat) (-(tQ S N : Int) - 1)
theorem div_cross {a n A N : Nat} (hn : n ≠ 0) (hN : N ≠ 0) (h : a * N = A * n) : a / n = A / N ∧ (a % n = 0 ↔ A % N = 0) := by
  have hn' := Nat.pos_of_ne_zero hn
  have hN' := Nat.pos_of_ne_zero hN
  have e1 : a / n = a * N / (n * N) := (Nat.mul_div_mul_right _ _ hN').symm
  have e2 : A / N = A * n / (N * n) := (Nat.mul_div_mul_right _ _ hn').symm
  have e3 : a % n * N = a * N % (n * N) := (Nat.mul_mod_mul_right ..).symm
  have e4 : A % N * n = A * n % (N * n) := (Nat.mul_mod_mul_right ..).symm
  have hc : n * N = N * n := Nat.mul_comm _ _
  constructor
  · rw [e1, e2, h, hc]
  · rw [h, hc] at e3
    constructor
    · intro hz
      rw [hz, Nat.zero_mul, ← e4] at e3
      rcases Nat.mul_eq_zero.1 e3.symm with h | h
      · exact h
      · exact absurd h hn
    · intro hz
      rw [hz, Nat.zero_mul] at e4
      rw [← e4] at e3
      rcases Nat.mul_eq_zero.1 e3 with h | h
      · exact h
      · exact absurd h hN
theorem ne_of {a b : Nat} (h : a = 0 ↔ b = 0) : (a != 0) = (b != 0) := by
  by_cases hb : b = 0
  · rw [hb, h.2 hb]
  · rw [bne_iff_ne.2 hb, bne_iff_ne.2 fun e => hb (h.1 e)]
theorem quo_int {z N : Int} (hz : z.natAbs < 2 ^ 53) (hN : 1 ≤ N) (hN2 : N.natAbs < 2 ^ 53) : double.div (intF z) (intF N) = some (double.word (decide (z < 0)) (quoN z.natAbs N.toNat)) := by
  obtain ⟨m, i, h1, h2, h3, h4⟩ := read_int hz
  obtain ⟨n, j, g1, g2, g3, g4⟩ := read_int hN2
  have hk : 0 < 2 ^ 1074 := Nat.two_pow_pos _
  have eN : N.natAbs = N.toNat := by omega
  rw [eN] at g3 hN2
  have hNn : N.toNat ≠ 0 := by omega
  generalize z.natAbs = S at *
  generalize N.toNat = D at *
  have hn0 : n ≠ 0 := fun e => by
    rw [e, Nat.zero_mul] at g3
    rcases Nat.mul_eq_zero.1 g3.symm with h | h
    · exact hNn h
    · exact absurd h (Nat.pos_iff_ne_zero.1 hk)
  unfold Format.div
  rw [h1, g1, decide_eq_false (show ¬ N < 0 by omega)]
  have := quo_read (s := decide (z < 0)) (t := false) (m := m) (i := i) (j := j) hn0
  rw [show double.fractionBits + 2 = 54 from rfl, this]
  congr 1
  rw [Bool.xor_false]
  congr 1
  have l1 : n.log2 + j = D.log2 := by
    have := congrArg Nat.log2 g3
    rw [log2_mul_pow hn0, log2_mul_pow hNn] at this
    omega
  by_cases h0 : m = 0
  · have hS : S = 0 := by
      rw [h0, Nat.zero_mul] at h3
      rcases Nat.mul_eq_zero.1 h3.symm with h | h
      · exact h
      · exact absurd h (Nat.pos_iff_ne_zero.1 hk)
    subst h0; subst hS
    unfold quoN
    simp only [Nat.zero_mul, Nat.zero_div, Nat.zero_mod]
    exact (rungOf_zero _).trans (rungOf_zero _).symm
  have hS0 : S ≠ 0 := fun e => by
    rw [e, Nat.zero_mul] at h3
    rcases Nat.mul_eq_zero.1 h3 with h | h
    · exact h0 h
    · exact absurd h (Nat.pos_iff_ne_zero.1 (Nat.two_pow_pos _))
  have l2 : m.log2 + i = S.log2 := by
    have := congrArg Nat.log2 h3
    rw [log2_mul_pow h0, log2_mul_pow hS0] at this
    omega
  have lS : S.log2 < 53 := (Nat.log2_lt hS0).2 hz
  have lm : m.log2 < 53 := (Nat.log2_lt h0).2 (read_place h1).2.2
  have ht : tQ S D = 54 + D.log2 - S.log2 := rfl
  have hb : i - j - (54 + n.log2 - m.log2 : Nat) = -(tQ S D : Int) := by omega
  have key : m * 2 ^ (54 + n.log2 - m.log2) * D = S * 2 ^ tQ S D * n := by
    have e : (i + 1074).toNat + tQ S D = (j + 1074).toNat + (54 + n.log2 - m.log2) := by omega
    apply Nat.eq_of_mul_eq_mul_right (Nat.mul_pos (Nat.two_pow_pos (i + 1074).toNat) (Nat.two_pow_pos 1074))
    generalize 54 + n.log2 - m.log2 = w at *
    generalize tQ S D = t at *
    generalize (i + 1074).toNat = B at *
    generalize (j + 1074).toNat = A at *
    calc m * 2 ^ w * D * (2 ^ B * 2 ^ 1074) = (m * 2 ^ B) * (D * 2 ^ 1074) * 2 ^ w := by simp only [Nat.mul_assoc, Nat.mul_comm, Nat.mul_left_comm]
      _ = (S * 2 ^ 1074) * (n * 2 ^ A) * 2 ^ w := by rw [h3, g3]
      _ = S * n * 2 ^ 1074 * 2 ^ (A + w) := by rw [Nat.pow_add]; simp only [Nat.mul_assoc, Nat.mul_comm, Nat.mul_left_comm]
      _ = S * n * 2 ^ 1074 * 2 ^ (B + t) := by rw [e]
      _ = S * 2 ^ t * n * (2 ^ B * 2 ^ 1074) := by rw [Nat.pow_add]; simp only [Nat.mul_assoc, Nat.mul_comm, Nat.mul_left_comm]
  obtain ⟨d1, d2⟩ := div_cross hn0 hNn key
  have d3 : (m * 2 ^ (54 + n.log2 - m.log2) % n != 0) = (S * 2 ^ tQ S D % D != 0) := by
    exact ne_of d2
  unfold quoN
  rw [hb, d1, d3]
theorem quoN_ge {k S N : Nat} (hN : N ≠ 0) (h : k * N ≤ S) : rungOf k 0 ≤ quoN S N := by
  refine quo_ge hN (b := -(tQ S N : Int)) (by omega) ?_
  rw [show (0 - -(tQ S N : Int)).toNat = tQ S N by omega, Nat.mul_right_comm]
  exact Nat.mul_le_mul_right _ h
theorem quoN_le {k S N : Nat} (hN : N ≠ 0) (h : S ≤ k * N) : quoN S N ≤ rungOf k 0 := by
  refine quo_le hN (b := -(tQ S N : Int)) (by omega) ?_
  rw [show (0 - -(tQ S N : Int)).toNat = tQ S N by omega, Nat.mul_right_comm]
  exact Nat.mul_le_mul_right _ h
theorem quoN_inf (S N : Nat) : quoN S N ≤ infR := rungOf_le _ _
/-- By more there is no more. -/
theorem quoN_mono {S N1 N2 : Nat} (h1 : N1 ≠ 0) (h : N1 ≤ N2) (h2 : N2 < 2 ^ 53) (hS : S ≠ 0) (hS2 : S < 2 ^ 53) : quoN S N2 ≤ quoN S N1 := by
  rcases Nat.lt_or_eq_of_le h with h | h
  · have l1 : N1.log2 ≤ N2.log2 := log2_mono h1 (by omega)
    have lS : S.log2 < 53 := (Nat.log2_lt hS).2 hS2
    obtain ⟨e, he⟩ : ∃ e, tQ S N2 = tQ S N1 + e := ⟨N2.log2 - N1.log2, by unfold tQ; omega⟩
    have hF : 2 ^ 53 ≤ S * 2 ^ tQ S N1 / N1 := by
      rw [Nat.le_div_iff_mul_le (by omega)]
      have a1 := Nat.log2_self_le hS
      have a2 : N1 < 2 ^ (N1.log2 + 1) := Nat.lt_log2_self
      refine Nat.le_trans (Nat.mul_le_mul_left _ (Nat.le_of_lt a2)) ?_
      refine Nat.le_trans ?_ (Nat.mul_le_mul_right _ a1)
      rw [← Nat.pow_add, ← Nat.pow_add]
      exact Nat.pow_le_pow_right (by decide) (by unfold tQ; omega)
    have hlt : S * 2 ^ tQ S N1 < (S * 2 ^ tQ S N1 / N1 + 1) * N1 := by
      have e1 := Nat.div_add_mod (S * 2 ^ tQ S N1) N1
      have e2 := Nat.mod_lt (S * 2 ^ tQ S N1) (show N1 > 0 by omega)
      rw [Nat.add_mul, Nat.one_mul, Nat.mul_comm _ N1]
      omega
    have g1 : rungOf (S * 2 ^ tQ S N1 / N1) (-(tQ S N1 : Int)) ≤ quoN S N1 := by
      refine quo_ge h1 (b := -(tQ S N1 : Int)) (Int.le_refl _) ?_
      rw [Int.sub_self, Int.toNat_zero, Nat.pow_zero, Nat.mul_one]
      exact Nat.div_mul_le_self _ _
    refine Nat.le_trans ?_ g1
    refine quo_le (by omega) (b := -(tQ S N2 : Int)) (by omega) ?_
    rw [show (-(tQ S N1 : Int) - -(tQ S N2 : Int)).toNat = e by omega, he, Nat.pow_add, ← Nat.mul_assoc]
    generalize S * 2 ^ tQ S N1 / N1 = F at *
    have : (F + 1) * N1 ≤ F * N2 := by
      have : F * (N1 + 1) ≤ F * N2 := Nat.mul_le_mul_left _ h
      rw [Nat.mul_add] at this
      rw [Nat.add_mul]
      omega
    refine Nat.le_trans (Nat.mul_le_mul_right _ (Nat.le_of_lt (Nat.lt_of_lt_of_le hlt this))) ?_
    rw [Nat.mul_right_comm]
    exact Nat.le_refl _
  · rw [h]; exact Nat.le_refl _

/-- A sum of whole numbers. -/
def sumZ (zs : List Int) : Nat → Int
  | 0 => zs.getD 0 0
  | n + 1 => sumZ zs n + zs.getD (n + 1) 0
theorem getD_mem {zs : List Int} {i : Nat} (h : i < zs.length) : zs.getD i 0 ∈ zs := by
  rw [List.getD_eq_getElem?_getD, List.getElem?_eq_getElem h]; exact List.getElem_mem h
theorem sumZ_between {zs : List Int} {a b : Int} (h : ∀ z ∈ zs, a ≤ z ∧ z ≤ b) : ∀ n, n < zs.length → a * (n + 1 : Nat) ≤ sumZ zs n ∧ sumZ zs n ≤ b * (n + 1 : Nat)
  | 0, hn => by
    have := h _ (getD_mem hn)
    simp only [sumZ]; omega
  | n + 1, hn => by
    have h1 := sumZ_between h n (by omega)
    have h2 := h _ (getD_mem hn)
    simp only [sumZ]
    rw [Int.natCast_add (n + 1) 1, Int.mul_add, Int.mul_add]
    omega
theorem getD_mapF {zs : List Int} {i : Nat} (h : i < zs.length) : (zs.map intF).getD i 0 = intF (zs.getD i 0) := by
  rw [List.getD_eq_getElem?_getD, List.getD_eq_getElem?_getD, List.getElem?_map, List.getElem?_eq_getElem h]; rfl
theorem sum_int {zs : List Int} (h : ∀ z ∈ zs, -1099511627776 ≤ z ∧ z ≤ 1099511627776) (hl : zs.length ≤ 1000) : ∀ n, n < zs.length → sumS (zs.map intF) n = intF (sumZ zs n)
  | 0, hn => by
    simp only [sumS, sumZ]
    exact getD_mapF hn
  | n + 1, hn => by
    have h0 := sumZ_between h n (by omega)
    have h2 := h _ (getD_mem hn)
    have ih := sum_int h hl n (by omega)
    simp only [sumS, sumZ]
    rw [ih, getD_mapF hn]
    unfold fadd
    rw [fmt64, add_int (by omega) (by omega), Option.getD_some]
theorem key_le_of {x y : Nat} (h : x ≤ y) (hy : y ≤ infR) : keyR x ≤ keyR y := keyR_le h hy
/-- A mean of whole numbers lies between. -/
theorem mean_between {zs : List Int} {a b : Int} (h0 : zs ≠ []) (hl : zs.length ≤ 1000) (h : ∀ z ∈ zs, a ≤ z ∧ z ≤ b) (ha : -1099511627776 ≤ a) (hb : b ≤ 1099511627776) :
    ∃ k, fkey (meanS (zs.map intF)) = some k ∧ a * 2 ^ 1074 ≤ k ∧ k ≤ b * 2 ^ 1074 := by
  have hpos : 0 < zs.length := List.length_pos_iff.2 h0
  have hs := sumZ_between h (zs.length - 1) (by omega)
  rw [show zs.length - 1 + 1 = zs.length by omega] at hs
  have hab : a ≤ b := by have := h _ (getD_mem hpos); omega
  have hS : (sumZ zs (zs.length - 1)).natAbs < 2 ^ 53 := by
    have h1 : a * (zs.length : Int) ≥ -1099511627776 * 1000 := by
      have : a * (zs.length : Int) ≥ -1099511627776 * (zs.length : Int) := Int.mul_le_mul_of_nonneg_right ha (by omega)
      omega
    have h2 : b * (zs.length : Int) ≤ 1099511627776 * 1000 := by
      have : b * (zs.length : Int) ≤ 1099511627776 * (zs.length : Int) := Int.mul_le_mul_of_nonneg_right hb (by omega)
      omega
    omega
  have em : meanS (zs.map intF) = double.word (decide (sumZ zs (zs.length - 1) < 0)) (quoN (sumZ zs (zs.length - 1)).natAbs zs.length) := by
    unfold meanS fdiv
    rw [List.length_map, if_neg (by omega), sum_int (fun z hz => by have := h z hz; omega) hl _ (by omega), nearest_int, fmt64, quo_int hS (by omega) (by omega), Option.getD_some, Int.toNat_natCast]
  rw [em]
  generalize sumZ zs (zs.length - 1) = S at *
  generalize zs.length = N at *
  have hk : (0 : Int) < 2 ^ 1074 := Int.pow_pos (by decide)
  have kk : ∀ k : Nat, k < 2 ^ 53 → ((keyR (rungOf k 0) : Nat) : Int) = (k : Int) * 2 ^ 1074 := fun k hk => by rw [exact_key hk, Int.natCast_mul]; simp
  refine ⟨_, fkey_word (quoN_inf _ _), ?_⟩
  have hi := quoN_inf S.natAbs N
  by_cases hz : S < 0
  · rw [decide_eq_true hz, if_pos rfl]
    have a0 : a < 0 := by
      refine Int.not_le.1 fun h => ?_
      have : 0 ≤ a * (N : Int) := Int.mul_nonneg h (by omega)
      omega
    constructor
    · have g := quoN_le (S := S.natAbs) (N := N) (k := a.natAbs) (by omega) (by
        have : ((a.natAbs * N : Nat) : Int) = -(a * N) := by rw [Int.natCast_mul, show ((a.natAbs : Nat) : Int) = -a by omega, Int.neg_mul]
        omega)
      have g' := keyR_le g (rungOf_le _ _)
      have := kk a.natAbs (by omega)
      rw [show ((a.natAbs : Nat) : Int) = -a by omega, Int.neg_mul] at this
      omega
    · by_cases b0 : b < 0
      · have g := quoN_ge (S := S.natAbs) (N := N) (k := b.natAbs) (by omega) (by
          have : ((b.natAbs * N : Nat) : Int) = -(b * N) := by rw [Int.natCast_mul, show ((b.natAbs : Nat) : Int) = -b by omega, Int.neg_mul]
          omega)
        have g' := keyR_le g hi
        have := kk b.natAbs (by omega)
        rw [show ((b.natAbs : Nat) : Int) = -b by omega, Int.neg_mul] at this
        omega
      · have : 0 ≤ b * 2 ^ 1074 := Int.mul_nonneg (by omega) (by omega)
        omega
  · rw [decide_eq_false hz, if_neg (by decide)]
    have b0 : 0 ≤ b := by
      refine Int.not_lt.1 fun h => ?_
      have : b * (N : Int) < 0 := Int.mul_neg_of_neg_of_pos h (by omega)
      omega
    constructor
    · by_cases a0 : 0 ≤ a
      · have g := quoN_ge (S := S.natAbs) (N := N) (k := a.natAbs) (by omega) (by
          have : ((a.natAbs * N : Nat) : Int) = a * N := by rw [Int.natCast_mul, show ((a.natAbs : Nat) : Int) = a by omega]
          omega)
        have g' := keyR_le g hi
        have := kk a.natAbs (by omega)
        rw [show ((a.natAbs : Nat) : Int) = a by omega] at this
        omega
      · have : a * 2 ^ 1074 < 0 := Int.mul_neg_of_neg_of_pos (by omega) hk
        omega
    · have g := quoN_le (S := S.natAbs) (N := N) (k := b.natAbs) (by omega) (by
        have : ((b.natAbs * N : Nat) : Int) = b * N := by rw [Int.natCast_mul, show ((b.natAbs : Nat) : Int) = b by omega]
        omega)
      have g' := keyR_le g (rungOf_le _ _)
      have := kk b.natAbs (by omega)
      rw [show ((b.natAbs : Nat) : Int) = b by omega] at this
      omega

/-! ### The best -/
theorem better_key {x y : Nat} {a b : Int} (hx : fkey x = some a) (hy : fkey y = some b) : better x y = decide (a < b) := by
  unfold better; rw [fmt64]; exact o_lt hx hy
/-- The best of the first ones. -/
def BestAt (xs : List Nat) (n : Nat) (b : Int) : Prop :=
  (b = -1 ∧ ∀ j, j < n → fkey (xs.getD j 0) = none) ∨
  ∃ i : Nat, b = i ∧ i < n ∧ ∃ a, fkey (xs.getD i 0) = some a ∧ ∀ j, j < n → ∀ c, fkey (xs.getD j 0) = some c → a ≤ c ∧ (j < i → a < c)
theorem bestAt (xs : List Nat) : ∀ n, BestAt xs n (bestS xs n)
  | 0 => .inl ⟨rfl, fun j hj => by omega⟩
  | n + 1 => by
    have ih := bestAt xs n
    unfold bestS
    cases hk : fkey (xs.getD n 0) with
    | none =>
      have hn : nanF (xs.getD n 0) = true := by rw [nan_key, hk]; rfl
      rw [hn, if_neg (by simp)]
      rcases ih with ⟨h1, h2⟩ | ⟨i, h1, h2, a, h3, h4⟩
      · exact .inl ⟨h1, fun j hj => by
          by_cases e : j = n
          · rw [e]; exact hk
          · exact h2 j (by omega)⟩
      · exact .inr ⟨i, h1, by omega, a, h3, fun j hj c hc => by
          by_cases e : j = n
          · rw [e, hk] at hc; cases hc
          · exact h4 j (by omega) c hc⟩
    | some q =>
      have hn : nanF (xs.getD n 0) = false := by rw [nan_key, hk]; rfl
      rcases ih with ⟨h1, h2⟩ | ⟨i, h1, h2, a, h3, h4⟩
      · rw [if_pos ⟨hn, .inl (by omega)⟩]
        exact .inr ⟨n, rfl, by omega, q, hk, fun j hj c hc => by
          by_cases e : j = n
          · rw [e, hk] at hc; injection hc with hc; exact ⟨by omega, by omega⟩
          · rw [h2 j (by omega)] at hc; cases hc⟩
      · rw [h1]
        have hbk := better_key hk h3
        by_cases hq : q < a
        · rw [if_pos ⟨hn, .inr (by rw [Int.toNat_natCast, hbk]; exact decide_eq_true hq)⟩]
          exact .inr ⟨n, rfl, by omega, q, hk, fun j hj c hc => by
            by_cases e : j = n
            · rw [e, hk] at hc; injection hc with hc; exact ⟨by omega, by omega⟩
            · have := h4 j (by omega) c hc; omega⟩
        · rw [if_neg (by rw [Int.toNat_natCast, hbk]; simp [hq])]
          exact .inr ⟨i, rfl, by omega, a, h3, fun j hj c hc => by
            by_cases e : j = n
            · rw [e, hk] at hc; injection hc with hc; exact ⟨by omega, by omega⟩
            · exact h4 j (by omega) c hc⟩
theorem bestAt_unique {xs : List Nat} {n : Nat} {b b' : Int} (h : BestAt xs n b) (h' : BestAt xs n b') : b = b' := by
  rcases h with ⟨h1, h2⟩ | ⟨i, h1, h2, a, h3, h4⟩
  · rcases h' with ⟨g1, g2⟩ | ⟨k, g1, g2, c, g3, g4⟩
    · omega
    · rw [h2 k g2] at g3; cases g3
  · rcases h' with ⟨g1, g2⟩ | ⟨k, g1, g2, c, g3, g4⟩
    · rw [g2 i h2] at h3; cases h3
    · have u1 := h4 k g2 c g3
      have u2 := g4 i h2 a h3
      omega
/-- A list, itself again, and what is none: the same place. -/
theorem best_twice {xs : List Nat} {q : Nat} (hq : fkey q = none) : bestS (xs ++ xs ++ [q]) (xs ++ xs ++ [q]).length = bestS xs xs.length := by
  refine bestAt_unique (bestAt _ _) ?_
  have g : ∀ j, j < (xs ++ xs ++ [q]).length → fkey ((xs ++ xs ++ [q]).getD j 0) = none ∨ ∃ k, k < xs.length ∧ k ≤ j ∧ (xs ++ xs ++ [q]).getD j 0 = xs.getD k 0 := fun j hj => by
    simp only [List.length_append, List.length_cons, List.length_nil] at hj
    by_cases h1 : j < xs.length
    · right; exact ⟨j, h1, Nat.le_refl _, by rw [List.append_assoc, List.getD_eq_getElem?_getD, List.getD_eq_getElem?_getD, List.getElem?_append_left h1]⟩
    · by_cases h2 : j < xs.length + xs.length
      · right; exact ⟨j - xs.length, by omega, by omega, by rw [List.append_assoc, List.getD_eq_getElem?_getD, List.getD_eq_getElem?_getD, List.getElem?_append_right (by omega), List.getElem?_append_left (by omega)]⟩
      · left
        have : j = (xs ++ xs).length := by simp; omega
        rw [List.getD_eq_getElem?_getD, List.getElem?_append_right (by omega), this]
        simpa using hq
  have g0 : ∀ j, j < xs.length → (xs ++ xs ++ [q]).getD j 0 = xs.getD j 0 := fun j h1 => by
    rw [List.append_assoc, List.getD_eq_getElem?_getD, List.getD_eq_getElem?_getD, List.getElem?_append_left h1]
  rcases bestAt xs xs.length with ⟨h1, h2⟩ | ⟨i, h1, h2, a, h3, h4⟩
  · exact .inl ⟨h1, fun j hj => by
      rcases g j hj with h | ⟨k, k1, _, k2⟩
      · exact h
      · rw [k2]; exact h2 k k1⟩
  · refine .inr ⟨i, h1, by simp; omega, a, by rw [g0 i h2]; exact h3, fun j hj c hc => ?_⟩
    rcases g j hj with h | ⟨k, k1, k2, k3⟩
    · rw [h] at hc; cases hc
    · rw [k3] at hc
      have u := h4 k k1 c hc
      exact ⟨u.1, fun hj => by
        by_cases hji : j < xs.length
        · rw [← k3, g0 j hji] at hc; exact (h4 j hji c hc).2 hj
        · omega⟩

/-! ### How alike -/
def ratioN (S A : Nat) : Nat := if A = 0 then infR else quoN S A
theorem ratioN_le (S A : Nat) : ratioN S A ≤ infR := by
  unfold ratioN; split
  · exact Nat.le_refl _
  · exact quoN_inf _ _
theorem ratioN_mono {S A B : Nat} (h : A ≤ B) (hB : B < 2 ^ 53) (hS : S ≠ 0) (hS2 : S < 2 ^ 53) : ratioN S B ≤ ratioN S A := by
  unfold ratioN
  by_cases hA : A = 0
  · rw [if_pos hA]; exact ratioN_le S B
  · rw [if_neg hA, if_neg (by omega)]; exact quoN_mono hA h hB hS hS2
theorem ratioN_one {S A : Nat} (h : A ≤ S) : rungOf 1 0 ≤ ratioN S A := by
  unfold ratioN
  split
  · exact rungOf_le _ _
  · exact quoN_ge (by omega) (by omega)
theorem ratioN_inf {S A : Nat} (hS2 : S < 2 ^ 53) : keyR (ratioN S A) = bigK ↔ A = 0 := by
  unfold ratioN
  by_cases hA : A = 0
  · rw [if_pos hA]
    have : keyR infR = bigK := by unfold keyR; rw [if_neg (Nat.lt_irrefl _)]
    exact ⟨fun _ => hA, fun _ => this⟩
  · rw [if_neg hA]
    have h1 : quoN S A ≤ rungOf S 0 := quoN_le hA (by have := Nat.le_mul_of_pos_right S (Nat.pos_of_ne_zero hA); omega)
    have h2 := nat_rung_lt (n := S) (by omega)
    have := keyR_lt (r := quoN S A) (Nat.lt_of_le_of_lt h1 h2)
    exact ⟨fun e => absurd e (by omega), fun e => absurd e hA⟩
theorem read_int0 : double.read (intF 0) = .number false 0 (-1074) := by
  have : intF 0 = 0 := by rw [int_pos (by omega)]; exact rungOf_zero 0
  rw [this]; exact read0
theorem ratio_eq {S A : Int} (hS : 1 ≤ S ∧ S < 2 ^ 53) (hA : 0 ≤ A ∧ A < 2 ^ 53) : fdiv .f64 (FloatKind.f64.nearest S) (FloatKind.f64.nearest A) = ratioN S.toNat A.toNat := by
  unfold fdiv ratioN
  rw [fmt64, nearest_int, nearest_int]
  by_cases h : A = 0
  · subst h
    rw [if_pos (by decide)]
    obtain ⟨m, i, h1, h2, h3, h4⟩ := read_int (z := S) (by omega)
    unfold Format.div
    rw [read_int0, h1, decide_eq_false (by omega)]
    have hm : m ≠ 0 := fun e => by
      rw [e, Nat.zero_mul] at h3
      rcases Nat.mul_eq_zero.1 h3.symm with h | h
      · omega
      · exact absurd h (Nat.pos_iff_ne_zero.1 (Nat.two_pow_pos _))
    have : (Datum.number false m i).quotient (double.fractionBits + 2) (.number false 0 (-1074)) = some (.infinity false) := by
      unfold Datum.quotient
      simp only [if_neg hm, if_true, Bool.xor_false]
    rw [this]
    exact inf_word
  · rw [if_neg (by omega), quo_int (by omega) (by omega) (by omega), decide_eq_false (by omega), Option.getD_some, word_false, show S.natAbs = S.toNat by omega]
theorem one_rung : rungOf 1 0 = oneF := by decide +kernel
theorem class_none {x : Nat} (h : nanF x = true) : classS x = ⟨#[110, 111, 110, 101]⟩ := by unfold classS; rw [if_pos h]
end Go.Zt
