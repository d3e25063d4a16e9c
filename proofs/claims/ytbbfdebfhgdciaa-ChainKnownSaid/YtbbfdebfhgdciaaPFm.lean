/- What the law ChainKnown needs of the text Fm. -/
import Derived.Test.YtbbfdebfhgdciaaPFi
import Derived.Test.YtbbfdebfhgdciaaPArg
set_option linter.unusedVariables false
set_option linter.unusedSimpArgs false
set_option maxRecDepth 100000
namespace Go.Zt
def okL (a b : Int) : Int → List Int → Prop
  | _, [] => True
  | p, x :: r => ((a ≤ x ∧ x ≤ b) ∨ (b ≤ x ∧ x ≤ a)) ∧ ((a ≤ b ∧ p ≤ x) ∨ (b < a ∧ x ≤ p)) ∧ okL a b x r
theorem okL_get {a b : Int} : ∀ {l : List Int} {p : Int}, okL a b p l → ∀ i, i < l.length → ((a ≤ l.getD i 0 ∧ l.getD i 0 ≤ b) ∨ (b ≤ l.getD i 0 ∧ l.getD i 0 ≤ a)) ∧ ((a ≤ b ∧ (if i = 0 then p else l.getD (i - 1) 0) ≤ l.getD i 0) ∨ (b < a ∧ l.getD i 0 ≤ (if i = 0 then p else l.getD (i - 1) 0)))
  | [], _, _, i, hi => by simp at hi
  | x :: r, p, h, 0, hi => by simpa using ⟨h.1, h.2.1⟩
  | x :: r, p, h, i + 1, hi => by
    have := okL_get h.2.2 i (by simpa using hi)
    have e : (x :: r).getD (i + 1) 0 = r.getD i 0 := by simp
    rw [e, if_neg (by omega)]
    cases i with
    | zero => simpa using this
    | succ i => simpa using this
theorem valE3 {s : Int} (h : 0 ≤ s ∧ s ≤ 2040) : valE s 3 = (s + 4) / 8 := by
  unfold valE
  rw [show (IntKind.i64.wrap ((3 : Int) - 1)).toNat = 2 from by decide, show shlI .i64 1 2 = 4 from by decide, show ((3 : Int)).toNat = 3 from rfl, w64 (by omega), shr_eq 3 (by omega), show ((2 : Int) ^ 3) = 8 from rfl]
  exact wu8 (by omega)
theorem valE4 {s : Int} (h : 0 ≤ s ∧ s ≤ 4080) : valE s 4 = (s + 8) / 16 := by
  unfold valE
  rw [show (IntKind.i64.wrap ((4 : Int) - 1)).toNat = 3 from by decide, show shlI .i64 1 3 = 8 from by decide, show ((4 : Int)).toNat = 4 from rfl, w64 (by omega), shr_eq 4 (by omega), show ((2 : Int) ^ 4) = 16 from rfl]
  exact wu8 (by omega)
section
variable {a b : Int} (ha : 0 ≤ a ∧ a ≤ 255) (hb : 0 ≤ b ∧ b ≤ 255)
include ha hb
theorem wideS_6 : okL a b a (wideL [a, a, a, b, b, b] 2 1 3 (2 * 2)) := by
  rw [show wideL [a, a, a, b, b, b] 2 1 3 (2 * 2) = [a, valE (0 + 1 * a + 2 * a + 2 * a + 2 * a + 1 * b) 3, valE (0 + 1 * a + 2 * a + 2 * a + 2 * b + 1 * b) 3, valE (0 + 1 * a + 2 * a + 2 * b + 2 * b + 1 * b) 3, valE (0 + 1 * a + 2 * b + 2 * b + 2 * b + 1 * b) 3, b] from by kernel_rfl]
  simp only [okL]
  rw [valE3 (s := 0 + 1 * a + 2 * a + 2 * a + 2 * a + 1 * b) (by omega)]
  rw [valE3 (s := 0 + 1 * a + 2 * a + 2 * a + 2 * b + 1 * b) (by omega)]
  rw [valE3 (s := 0 + 1 * a + 2 * a + 2 * b + 2 * b + 1 * b) (by omega)]
  rw [valE3 (s := 0 + 1 * a + 2 * b + 2 * b + 2 * b + 1 * b) (by omega)]
  rcases Int.le_total a b with h | h
  · refine ⟨?_, ?_, ?_, ?_, ?_, ?_, ?_, ?_, ?_, ?_, ?_, ?_, trivial⟩ <;> omega
  · by_cases e : a = b
    · subst e; refine ⟨?_, ?_, ?_, ?_, ?_, ?_, ?_, ?_, ?_, ?_, ?_, ?_, trivial⟩ <;> omega
    · refine ⟨?_, ?_, ?_, ?_, ?_, ?_, ?_, ?_, ?_, ?_, ?_, ?_, trivial⟩ <;> omega
theorem wideS_8 : okL a b a (wideL [a, a, a, a, b, b, b, b] 3 0 3 (2 * 3)) := by
  rw [show wideL [a, a, a, a, b, b, b, b] 3 0 3 (2 * 3) = [a, valE (0 + 1 * a + 1 * a + 1 * a + 2 * a + 1 * a + 1 * a + 1 * b) 3, valE (0 + 1 * a + 1 * a + 1 * a + 2 * a + 1 * a + 1 * b + 1 * b) 3, valE (0 + 1 * a + 1 * a + 1 * a + 2 * a + 1 * b + 1 * b + 1 * b) 3, valE (0 + 1 * a + 1 * a + 1 * a + 2 * b + 1 * b + 1 * b + 1 * b) 3, valE (0 + 1 * a + 1 * a + 1 * b + 2 * b + 1 * b + 1 * b + 1 * b) 3, valE (0 + 1 * a + 1 * b + 1 * b + 2 * b + 1 * b + 1 * b + 1 * b) 3, b] from by kernel_rfl]
  simp only [okL]
  rw [valE3 (s := 0 + 1 * a + 1 * a + 1 * a + 2 * a + 1 * a + 1 * a + 1 * b) (by omega)]
  rw [valE3 (s := 0 + 1 * a + 1 * a + 1 * a + 2 * a + 1 * a + 1 * b + 1 * b) (by omega)]
  rw [valE3 (s := 0 + 1 * a + 1 * a + 1 * a + 2 * a + 1 * b + 1 * b + 1 * b) (by omega)]
  rw [valE3 (s := 0 + 1 * a + 1 * a + 1 * a + 2 * b + 1 * b + 1 * b + 1 * b) (by omega)]
  rw [valE3 (s := 0 + 1 * a + 1 * a + 1 * b + 2 * b + 1 * b + 1 * b + 1 * b) (by omega)]
  rw [valE3 (s := 0 + 1 * a + 1 * b + 1 * b + 2 * b + 1 * b + 1 * b + 1 * b) (by omega)]
  rcases Int.le_total a b with h | h
  · refine ⟨?_, ?_, ?_, ?_, ?_, ?_, ?_, ?_, ?_, ?_, ?_, ?_, ?_, ?_, ?_, ?_, trivial⟩ <;> omega
  · by_cases e : a = b
    · subst e; refine ⟨?_, ?_, ?_, ?_, ?_, ?_, ?_, ?_, ?_, ?_, ?_, ?_, ?_, ?_, ?_, ?_, trivial⟩ <;> omega
    · refine ⟨?_, ?_, ?_, ?_, ?_, ?_, ?_, ?_, ?_, ?_, ?_, ?_, ?_, ?_, ?_, ?_, trivial⟩ <;> omega
theorem wideS_14 : okL a b a (wideL [a, a, a, a, a, a, a, b, b, b, b, b, b, b] 6 1 4 (2 * 6)) := by
  rw [show wideL [a, a, a, a, a, a, a, b, b, b, b, b, b, b] 6 1 4 (2 * 6) = [a, valE (0 + 1 * a + 1 * a + 1 * a + 1 * a + 1 * a + 2 * a + 2 * a + 2 * a + 1 * a + 1 * a + 1 * a + 1 * a + 1 * b) 4, valE (0 + 1 * a + 1 * a + 1 * a + 1 * a + 1 * a + 2 * a + 2 * a + 2 * a + 1 * a + 1 * a + 1 * a + 1 * b + 1 * b) 4, valE (0 + 1 * a + 1 * a + 1 * a + 1 * a + 1 * a + 2 * a + 2 * a + 2 * a + 1 * a + 1 * a + 1 * b + 1 * b + 1 * b) 4, valE (0 + 1 * a + 1 * a + 1 * a + 1 * a + 1 * a + 2 * a + 2 * a + 2 * a + 1 * a + 1 * b + 1 * b + 1 * b + 1 * b) 4, valE (0 + 1 * a + 1 * a + 1 * a + 1 * a + 1 * a + 2 * a + 2 * a + 2 * a + 1 * b + 1 * b + 1 * b + 1 * b + 1 * b) 4, valE (0 + 1 * a + 1 * a + 1 * a + 1 * a + 1 * a + 2 * a + 2 * a + 2 * b + 1 * b + 1 * b + 1 * b + 1 * b + 1 * b) 4, valE (0 + 1 * a + 1 * a + 1 * a + 1 * a + 1 * a + 2 * a + 2 * b + 2 * b + 1 * b + 1 * b + 1 * b + 1 * b + 1 * b) 4, valE (0 + 1 * a + 1 * a + 1 * a + 1 * a + 1 * a + 2 * b + 2 * b + 2 * b + 1 * b + 1 * b + 1 * b + 1 * b + 1 * b) 4, valE (0 + 1 * a + 1 * a + 1 * a + 1 * a + 1 * b + 2 * b + 2 * b + 2 * b + 1 * b + 1 * b + 1 * b + 1 * b + 1 * b) 4, valE (0 + 1 * a + 1 * a + 1 * a + 1 * b + 1 * b + 2 * b + 2 * b + 2 * b + 1 * b + 1 * b + 1 * b + 1 * b + 1 * b) 4, valE (0 + 1 * a + 1 * a + 1 * b + 1 * b + 1 * b + 2 * b + 2 * b + 2 * b + 1 * b + 1 * b + 1 * b + 1 * b + 1 * b) 4, valE (0 + 1 * a + 1 * b + 1 * b + 1 * b + 1 * b + 2 * b + 2 * b + 2 * b + 1 * b + 1 * b + 1 * b + 1 * b + 1 * b) 4, b] from by kernel_rfl]
  simp only [okL]
  rw [valE4 (s := 0 + 1 * a + 1 * a + 1 * a + 1 * a + 1 * a + 2 * a + 2 * a + 2 * a + 1 * a + 1 * a + 1 * a + 1 * a + 1 * b) (by omega)]
  rw [valE4 (s := 0 + 1 * a + 1 * a + 1 * a + 1 * a + 1 * a + 2 * a + 2 * a + 2 * a + 1 * a + 1 * a + 1 * a + 1 * b + 1 * b) (by omega)]
  rw [valE4 (s := 0 + 1 * a + 1 * a + 1 * a + 1 * a + 1 * a + 2 * a + 2 * a + 2 * a + 1 * a + 1 * a + 1 * b + 1 * b + 1 * b) (by omega)]
  rw [valE4 (s := 0 + 1 * a + 1 * a + 1 * a + 1 * a + 1 * a + 2 * a + 2 * a + 2 * a + 1 * a + 1 * b + 1 * b + 1 * b + 1 * b) (by omega)]
  rw [valE4 (s := 0 + 1 * a + 1 * a + 1 * a + 1 * a + 1 * a + 2 * a + 2 * a + 2 * a + 1 * b + 1 * b + 1 * b + 1 * b + 1 * b) (by omega)]
  rw [valE4 (s := 0 + 1 * a + 1 * a + 1 * a + 1 * a + 1 * a + 2 * a + 2 * a + 2 * b + 1 * b + 1 * b + 1 * b + 1 * b + 1 * b) (by omega)]
  rw [valE4 (s := 0 + 1 * a + 1 * a + 1 * a + 1 * a + 1 * a + 2 * a + 2 * b + 2 * b + 1 * b + 1 * b + 1 * b + 1 * b + 1 * b) (by omega)]
  rw [valE4 (s := 0 + 1 * a + 1 * a + 1 * a + 1 * a + 1 * a + 2 * b + 2 * b + 2 * b + 1 * b + 1 * b + 1 * b + 1 * b + 1 * b) (by omega)]
  rw [valE4 (s := 0 + 1 * a + 1 * a + 1 * a + 1 * a + 1 * b + 2 * b + 2 * b + 2 * b + 1 * b + 1 * b + 1 * b + 1 * b + 1 * b) (by omega)]
  rw [valE4 (s := 0 + 1 * a + 1 * a + 1 * a + 1 * b + 1 * b + 2 * b + 2 * b + 2 * b + 1 * b + 1 * b + 1 * b + 1 * b + 1 * b) (by omega)]
  rw [valE4 (s := 0 + 1 * a + 1 * a + 1 * b + 1 * b + 1 * b + 2 * b + 2 * b + 2 * b + 1 * b + 1 * b + 1 * b + 1 * b + 1 * b) (by omega)]
  rw [valE4 (s := 0 + 1 * a + 1 * b + 1 * b + 1 * b + 1 * b + 2 * b + 2 * b + 2 * b + 1 * b + 1 * b + 1 * b + 1 * b + 1 * b) (by omega)]
  rcases Int.le_total a b with h | h
  · refine ⟨?_, ?_, ?_, ?_, ?_, ?_, ?_, ?_, ?_, ?_, ?_, ?_, ?_, ?_, ?_, ?_, ?_, ?_, ?_, ?_, ?_, ?_, ?_, ?_, ?_, ?_, ?_, ?_, trivial⟩ <;> omega
  · by_cases e : a = b
    · subst e; refine ⟨?_, ?_, ?_, ?_, ?_, ?_, ?_, ?_, ?_, ?_, ?_, ?_, ?_, ?_, ?_, ?_, ?_, ?_, ?_, ?_, ?_, ?_, ?_, ?_, ?_, ?_, ?_, ?_, trivial⟩ <;> omega
    · refine ⟨?_, ?_, ?_, ?_, ?_, ?_, ?_, ?_, ?_, ?_, ?_, ?_, ?_, ?_, ?_, ?_, ?_, ?_, ?_, ?_, ?_, ?_, ?_, ?_, ?_, ?_, ?_, ?_, trivial⟩ <;> omega
theorem narrowS (t : Int) (ht : 0 ≤ t) : okL a b a (narrowL [a, a, b, b] t) := by
  have e0 : atE [a, a, b, b] (-2) = a := by kernel_rfl
  have e1 : atE [a, a, b, b] (-1) = a := by kernel_rfl
  have e2 : atE [a, a, b, b] 0 = b := by kernel_rfl
  have e3 : atE [a, a, b, b] 1 = b := by kernel_rfl
  have hh : ¬ hevP [a, a, b, b] t := by
    unfold hevP farE absS
    rw [e0, e1, e2, e3]
    split <;> split <;> omega
  have e : narrowL [a, a, b, b] t = [clipS (a + dE [a, a, b, b] t) 0 255, clipS (a + bE [a, a, b, b] t) 0 255, clipS (b - aE [a, a, b, b] t) 0 255, clipS (b - dE [a, a, b, b] t) 0 255] := by
    unfold narrowL
    rw [if_neg hh, e0, e1, e2, e3]
    kernel_rfl
  rw [e]
  have f0 : fE [a, a, b, b] t = cB (0 + 3 * (b - a)) := by unfold fE fE0; rw [if_neg hh, e1, e2]
  unfold dE
  unfold aE bE
  rw [f0]
  have c1 : ∀ v : Int, cB v = (if v < -128 then -128 else if v > 127 then 127 else v) := fun v => by
    unfold cB clipS; rfl
  have c2 : ∀ v : Int, clipS v 0 255 = (if v < 0 then 0 else if v > 255 then 255 else v) := fun v => by
    unfold clipS; rfl
  simp only [okL]
  rw [c1 (0 + 3 * (b - a))]
  generalize hf : (if 0 + 3 * (b - a) < -128 then -128 else if 0 + 3 * (b - a) > 127 then 127 else 0 + 3 * (b - a)) = f
  have hf' : (0 + 3 * (b - a) < -128 ∧ f = -128) ∨ (0 + 3 * (b - a) > 127 ∧ f = 127) ∨ (-128 ≤ 0 + 3 * (b - a) ∧ 0 + 3 * (b - a) ≤ 127 ∧ f = 0 + 3 * (b - a)) := by
    split at hf
    · left; omega
    · split at hf
      · right; left; omega
      · right; right; omega
  have g1 : cB (f + 4) = min (f + 4) 127 := by rw [c1]; split; omega; split <;> omega
  have g2 : cB (f + 3) = min (f + 3) 127 := by rw [c1]; split; omega; split <;> omega
  rw [g1, g2]
  have kf : f ≤ -3 ∨ f = 0 ∨ f = 3 ∨ 6 ≤ f := by omega
  have kA : min (f + 3) 127 / 8 ≤ min (f + 4) 127 / 8 ∧ min (f + 4) 127 / 8 ≤ min (f + 3) 127 / 8 + 1 := by omega
  have kB : 6 ≤ f → 1 ≤ min (f + 3) 127 / 8 := by omega
  have kC : f ≤ -3 → min (f + 4) 127 / 8 ≤ 0 := by omega
  have kD : 6 ≤ f → min (f + 3) 127 / 8 + min (f + 4) 127 / 8 ≤ b - a := by omega
  have kE : f ≤ -3 → b - a ≤ min (f + 3) 127 / 8 + min (f + 4) 127 / 8 := by omega
  have kG : 6 ≤ f → a ≤ b := by omega
  have kH : f ≤ -3 → b < a := by omega
  have kI : f = 0 → a = b ∧ min (f + 3) 127 / 8 = 0 ∧ min (f + 4) 127 / 8 = 0 := by omega
  have kJ : f = 3 → b = a + 1 ∧ min (f + 3) 127 / 8 = 0 ∧ min (f + 4) 127 / 8 = 0 := by omega
  clear hf' hf g1 g2 f0 e
  generalize min (f + 3) 127 / 8 = B at *
  generalize min (f + 4) 127 / 8 = A at *
  have kK : 2 * ((A + 1) / 2) ≤ A + 1 ∧ A ≤ 2 * ((A + 1) / 2) := by omega
  generalize (A + 1) / 2 = D at *
  have c3 : ∀ v : Int, 0 ≤ v ∧ v ≤ 255 → clipS v 0 255 = v := fun v hv => by rw [c2, if_neg (by omega), if_neg (by omega)]
  rw [c3 (a + D) (by omega), c3 (a + B) (by omega), c3 (b - A) (by omega), c3 (b - D) (by omega)]
  rcases kf with kf | kf | kf | kf
  · have := kC kf; have := kE kf; have := kH kf
    exact ⟨by omega, by omega, by omega, by omega, by omega, by omega, by omega, by omega, trivial⟩
  · have := kI kf
    exact ⟨by omega, by omega, by omega, by omega, by omega, by omega, by omega, by omega, trivial⟩
  · have := kJ kf
    exact ⟨by omega, by omega, by omega, by omega, by omega, by omega, by omega, by omega, trivial⟩
  · have := kB kf; have := kD kf; have := kG kf
    exact ⟨by omega, by omega, by omega, by omega, by omega, by omega, by omega, by omega, trivial⟩
end
def de_stepL (k : Nat) (a b : Int) : List Int := List.replicate k a ++ List.replicate k b
theorem far_same (x : Int) : absS (x - x) = 0 := by unfold absS; split <;> omega
theorem flatS (k : Nat) (a b : Int) : ∀ n, n < k → flatP (de_stepL k a b) n := by
  have hl : (de_stepL k a b).length / 2 = k := by simp [de_stepL]; omega
  have lo : ∀ i : Nat, i < k → atE (de_stepL k a b) (-1 - (i : Int)) = a := fun i hi => by
    unfold atE
    rw [hl, show ((k : Int) + (-1 - (i : Int))).toNat = k - 1 - i by omega]
    simp [de_stepL, List.getD_eq_getElem?_getD, List.getElem?_append_left (show k - 1 - i < (List.replicate k a).length by simp; omega), List.getElem?_replicate, show k - 1 - i < k by omega]
  have hi : ∀ i : Nat, i < k → atE (de_stepL k a b) (i : Int) = b := fun i hi => by
    unfold atE
    rw [hl, show ((k : Int) + (i : Int)).toNat = k + i by omega]
    simp [de_stepL, List.getD_eq_getElem?_getD, List.getElem?_append_right (show (List.replicate k a).length ≤ k + i by simp), List.getElem?_replicate, hi]
  intro n
  induction n with
  | zero => intro _; trivial
  | succ n ih =>
    intro hn
    refine ⟨ih (by omega), ?_, ?_⟩
    · unfold farE
      have e1 := lo (n + 1) (by omega)
      have e2 := lo 0 (by omega)
      rw [show (-2 - (n : Int)) = -1 - ((n + 1 : Nat) : Int) by omega, e1, show (-1 : Int) = -1 - ((0 : Nat) : Int) by omega, e2, far_same]; decide
    · unfold farE
      have e1 := hi (n + 1) (by omega)
      have e2 := hi 0 (by omega)
      rw [show ((n : Int) + 1) = ((n + 1 : Nat) : Int) by omega, e1, show (0 : Int) = ((0 : Nat) : Int) by omega, e2]
      rw [far_same]; decide
theorem okL_same {a b : Int} (k : Nat) : okL a b a (de_stepL k a b) := by
  have h2 : ∀ n : Nat, ∀ p, (p = a ∨ p = b) → okL a b p (List.replicate n b) := fun n => by
    induction n with
    | zero => intro p _; trivial
    | succ n ih =>
      intro p hp
      rw [List.replicate_succ]
      exact ⟨by omega, by omega, ih b (.inr rfl)⟩
  have h1 : ∀ n : Nat, okL a b a (List.replicate n a ++ List.replicate k b) := fun n => by
    induction n with
    | zero => exact h2 k a (.inl rfl)
    | succ n ih =>
      rw [List.replicate_succ]
      exact ⟨by omega, by omega, ih⟩
  exact h1 k
theorem edge_step {a b level sharp : Int} (ha : 0 ≤ a ∧ a ≤ 255) (hb : 0 ≤ b ∧ b ≤ 255) (hl : 0 ≤ level) {k : Nat} (hk : k = 2 ∨ k = 3 ∨ k = 4 ∨ k = 7) : okL a b a (edgeL (de_stepL k a b) level sharp) := by
  unfold edgeL
  split
  · rcases hk with rfl | rfl | rfl | rfl
    · have e : passL (de_stepL 2 a b) level = narrowL [a, a, b, b] (level / 16) := by
        unfold passL
        rw [if_neg (fun e => absurd e.1 (by simp [de_stepL])), if_neg (fun e => absurd e.1 (by simp [de_stepL])), if_neg (fun e => absurd e.1 (by simp [de_stepL]))]; rfl
      rw [e]; exact narrowS ha hb _ (by omega)
    · have e : passL (de_stepL 3 a b) level = wideL [a, a, a, b, b, b] 2 1 3 (2 * 2) := by
        unfold passL
        rw [if_pos ⟨by simp [de_stepL], flatS 3 a b 2 (by omega)⟩]; rfl
      rw [e]; exact wideS_6 ha hb
    · have e : passL (de_stepL 4 a b) level = wideL [a, a, a, a, b, b, b, b] 3 0 3 (2 * 3) := by
        unfold passL
        rw [if_neg (fun e => absurd e.1 (by simp [de_stepL])), if_neg (fun e => absurd e.1 (by simp [de_stepL])), if_pos ⟨by simp [de_stepL], flatS 4 a b 3 (by omega)⟩]; rfl
      rw [e]; exact wideS_8 ha hb
    · have e : passL (de_stepL 7 a b) level = wideL [a, a, a, a, a, a, a, b, b, b, b, b, b, b] 6 1 4 (2 * 6) := by
        unfold passL
        rw [if_neg (fun e => absurd e.1 (by simp [de_stepL])), if_pos ⟨by simp [de_stepL], flatS 7 a b 6 (by omega)⟩]; rfl
      rw [e]; exact wideS_14 ha hb
  · exact okL_same k
theorem flat_edge {v level sharp : Int} (hv : 0 ≤ v ∧ v ≤ 255) (hl : 0 ≤ level) {k : Nat} (hk : k = 2 ∨ k = 3 ∨ k = 4 ∨ k = 7) : edgeL (List.replicate (2 * k) v) level sharp = List.replicate (2 * k) v := by
  have e : List.replicate (2 * k) v = de_stepL k v v := by
    unfold de_stepL
    rw [List.replicate_append_replicate, Nat.two_mul]
  have o := edge_step (a := v) (b := v) (level := level) (sharp := sharp) hv hv hl hk
  rw [← e] at o
  refine ext_getD (edgeL_len _ _ _) fun i hi => ?_
  have g := (okL_get o i hi).1
  rw [edgeL_len, List.length_replicate] at hi
  rw [List.getD_eq_getElem?_getD (l := List.replicate _ _), List.getElem?_replicate, if_pos hi]
  show _ = v
  omega
theorem rep_get {n i : Nat} {v : Int} (h : i < n) : (List.replicate n v).getD i 0 = v := by
  rw [List.getD_eq_getElem?_getD, List.getElem?_replicate, if_pos h]; rfl
end Go.Zt
