/- What the law PoolNames needs of the text Ab23. -/
import Derived.Test.YtjmahpemdghncaaPAb22
set_option linter.unusedVariables false
set_option linter.unusedSimpArgs false
namespace Go.Zt
section
variable {ann : Ann} {ops : Array Oper}
theorem maskOf_bit {acc : List Nat} {b : Nat} : ∀ {es : List Edge} {s : Nat}, (maskOf acc es s).testBit b = true → s.testBit b = true ∨ ∃ e ∈ es, Region.binds .any e = true ∧ (e.on = b ∨ (acc.getD e.on 0).testBit b = true)
  | [], s, h => .inl h
  | e :: r, s, h => by
    simp only [maskOf] at h
    split at h
    · rename_i hb
      rcases maskOf_bit h with h | ⟨e', h1, h2⟩
      · rw [Nat.testBit_or, Nat.testBit_or, Nat.testBit_two_pow] at h
        rcases Bool.or_eq_true_iff.1 h with h | h
        · rcases Bool.or_eq_true_iff.1 h with h | h
          · exact .inl h
          · exact .inr ⟨e, by simp, hb, .inl (by simpa using h)⟩
        · exact .inr ⟨e, by simp, hb, .inr h⟩
      · exact .inr ⟨e', by simp [h1], h2⟩
    · rcases maskOf_bit h with h | ⟨e', h1, h2⟩
      · exact .inl h
      · exact .inr ⟨e', by simp [h1], h2⟩
theorem befL_spec : ∀ (l : List Oper) (acc : List Nat), ∃ tail, befL l acc = acc ++ tail ∧ tail.length = l.length ∧ ∀ (i : Nat) (o : Oper), l[i]? = some o → tail[i]? = some (maskOf (acc ++ tail.take i) o.after.toList 0)
  | [], acc => ⟨[], by simp [befL], rfl, fun i o h => by simp at h⟩
  | o :: r, acc => by
    obtain ⟨tail, h1, h2, h3⟩ := befL_spec r (acc ++ [maskOf acc o.after.toList 0])
    refine ⟨maskOf acc o.after.toList 0 :: tail, by simp [befL, h1], by simp [h2], fun i o' h => ?_⟩
    cases i with
    | zero => simp at h; subst h; simp
    | succ i =>
      have := h3 i o' (by simpa using h)
      simpa using this
def Closed (ops : Array Oper) (L : Nat → Prop) : Prop := ∀ (i : Nat) (o : Oper), L i → ops[i]? = some o → ∀ e ∈ o.after.toList, Region.binds .any e = true → L e.on
theorem mask_listed {L : Nat → Prop} (hc : Closed ops L) : ∀ (n i : Nat) (o : Oper), i < n → ops[i]? = some o → (∀ e ∈ o.after.toList, Region.binds .any e = true → L e.on) → ∀ b, ((befL ops.toList []).getD i 0).testBit b = true → L b := by
  intro n
  induction n with
  | zero => intro i o hi; omega
  | succ n ih =>
    intro i o hi ho ha b hb
    obtain ⟨tail, h1, h2, h3⟩ := befL_spec ops.toList []
    rw [List.nil_append] at h1
    have hm := h3 i o (by rw [Array.getElem?_toList]; exact ho)
    rw [h1, List.getD_eq_getElem?_getD, hm] at hb
    rcases maskOf_bit hb with h | ⟨e, h4, h5, h6⟩
    · simp at h
    · have hl := ha e h4 h5
      rcases h6 with rfl | h6
      · exact hl
      · rw [List.nil_append, List.getD_eq_getElem?_getD, List.getElem?_take] at h6
        split at h6
        · rename_i hlt
          have hsz : e.on < ops.size := by
            have := (Array.getElem?_eq_some_iff.1 ho).1
            omega
          refine ih e.on ops[e.on] (by omega) (Array.getElem?_eq_getElem hsz) (fun e' he' hb' => hc e.on _ hl (Array.getElem?_eq_getElem hsz) e' he' hb') b ?_
          rw [h1, List.getD_eq_getElem?_getD]; exact h6
        · simp at h6
theorem okPairs_spec {y : Oper} {m : Nat} : ∀ {l : List Oper} {i : Nat}, okPairs ann ops y m l i = true → ∀ (j : Nat) (x : Oper), l[j]? = some x → clash ann ops x y = true → m.testBit (i + j) = true
  | [], i, h, j, x, hx, _ => by simp at hx
  | z :: r, i, h, j, x, hx, hcl => by
    simp only [okPairs] at h
    split at h
    · cases h
    · rename_i hz
      cases j with
      | zero =>
        simp at hx; subst hx
        rw [hcl] at hz
        simpa using hz
      | succ j =>
        rw [show i + (j + 1) = i + 1 + j by omega]
        exact okPairs_spec h j x (by simpa using hx) hcl
theorem okAll_spec : ∀ {l done : List Oper} {ms : List Nat}, okAll ann ops done l ms = true → ∀ (k : Nat) (y : Oper), l[k]? = some y → okPairs ann ops y (ms.getD k 0) (done ++ l.take k) 0 = true
  | [], done, ms, h, k, y, hy => by simp at hy
  | z :: r, done, [], h, k, y, hy => by simp [okAll] at h
  | z :: r, done, m :: ms, h, k, y, hy => by
    simp only [okAll] at h
    split at h
    · rename_i hz
      cases k with
      | zero => simp at hy; subst hy; simpa using hz
      | succ k =>
        have := okAll_spec h k y (by simpa using hy)
        simpa using this
    · cases h
theorem meets_false : ∀ {l l' : List Nat}, meets l l' = false → ∀ d ∈ l, d ∉ l'
  | [], l', h, d, hd => by simp at hd
  | x :: r, l', h, d, hd => by
    simp only [meets] at h
    split at h
    · cases h
    · rename_i hx
      rcases List.mem_cons.1 hd with rfl | hd
      · intro hm
        rw [isIn_iff.2 hm] at hx; cases hx
      · exact meets_false h d hd
theorem noClash_of {x y : Oper} (h : clash ann ops x y = false) : NoClash ann ops x y := by
  unfold clash at h
  simp only [Bool.or_eq_false_iff] at h
  obtain ⟨⟨⟨h1, h2⟩, h3⟩, h4⟩ := h
  have h1 : clsClash (clsOp ann x) (clsOp ann y) = false ∨ exPair ann x y = true ∨ (isNewOp ann x = true ∧ isNewOp ann y = true) := by
    cases ha : clsClash (clsOp ann x) (clsOp ann y) with
    | false => exact .inl rfl
    | true =>
      rw [ha] at h1
      cases hb : exPair ann x y with
      | true => exact .inr (.inl rfl)
      | false =>
        rw [hb] at h1
        exact .inr (.inr (by simpa using h1))
  have dm : ∀ (o : Oper) d, o.dst = some d → d ∈ dstL o := fun o d hd => by simp [dstL, hd]
  exact ⟨h1, fun d hx hy => meets_false h2 d (dm x d hx) (dm y d hy), fun d hx => meets_false h3 d (dm x d hx), fun d hy => meets_false h4 d (dm y d hy)⟩
theorem loose_spec {m : Nat} {ms : List Nat} {j : Nat} : ∀ {l : List Oper} {i : Nat} (k : Nat) (x : Oper), l[k]? = some x → clsOp ann x = .eff → (if i + k < j then m.testBit (i + k) else (ms.getD (i + k) 0).testBit j) = false → looseLd ann m ms j l i = true
  | [], i, k, x, hx, _, _ => by simp at hx
  | z :: r, i, k, x, hx, hc, hb => by
    simp only [looseLd]
    cases k with
    | zero =>
      simp at hx; subst hx
      rw [Nat.add_zero] at hb
      have hd : decide (clsOp ann z = .eff) = true := decide_eq_true hc
      cases hbl : Nat.blt i j with
      | true =>
        have hlt : i < j := Nat.le_of_ble_eq_true hbl
        rw [if_pos hlt] at hb
        simp only [hd, hb, Bool.not_false, Bool.and_self]
      | false =>
        have hlt : ¬ i < j := fun h => by rw [show Nat.blt i j = true from Nat.ble_eq_true_of_le h] at hbl; cases hbl
        rw [if_neg hlt] at hb
        simp only [hd, hb, Bool.not_false, Bool.and_self]
    | succ k =>
      split
      · rfl
      · exact loose_spec k x (by simpa using hx) hc (by rw [show i + 1 + k = i + (k + 1) by omega]; exact hb)
theorem looseEf_spec {m : Nat} {ms : List Nat} {j : Nat} : ∀ {l : List Oper} {i : Nat} (k : Nat) (x : Oper), l[k]? = some x → clsOp ann x = .ld → (if i + k < j then m.testBit (i + k) else (ms.getD (i + k) 0).testBit j) = false → looseEf ann m ms j l i = true
  | [], i, k, x, hx, _, _ => by simp at hx
  | z :: r, i, k, x, hx, hc, hb => by
    simp only [looseEf]
    cases k with
    | zero =>
      simp at hx; subst hx
      rw [Nat.add_zero] at hb
      have hd : decide (clsOp ann z = .ld) = true := decide_eq_true hc
      cases hbl : Nat.blt i j with
      | true =>
        have hlt : i < j := Nat.le_of_ble_eq_true hbl
        rw [if_pos hlt] at hb
        simp only [hd, hb, Bool.not_false, Bool.and_self]
      | false =>
        have hlt : ¬ i < j := fun h => by rw [show Nat.blt i j = true from Nat.ble_eq_true_of_le h] at hbl; cases hbl
        rw [if_neg hlt] at hb
        simp only [hd, hb, Bool.not_false, Bool.and_self]
    | succ k =>
      split
      · rfl
      · exact looseEf_spec k x (by simpa using hx) hc (by rw [show i + 1 + k = i + (k + 1) by omega]; exact hb)
theorem anyLoose_spec {all : List Oper} {ms : List Nat} : ∀ {l : List Oper} {i : Nat} (k : Nat) (x : Oper), l[k]? = some x → clsOp ann x = .ld → looseLd ann (ms.getD (i + k) 0) ms (i + k) all 0 = true → anyLoose ann all ms l i = true
  | [], i, k, x, hx, _, _ => by simp at hx
  | z :: r, i, k, x, hx, hc, hb => by
    simp only [anyLoose]
    cases k with
    | zero =>
      simp at hx; subst hx
      rw [Nat.add_zero] at hb
      have hd : decide (clsOp ann z = .ld) = true := decide_eq_true hc
      simp only [hd, hb, Bool.and_self]
    | succ k =>
      split
      · rfl
      · exact anyLoose_spec k x (by simpa using hx) hc (by rw [show i + 1 + k = i + (k + 1) by omega]; exact hb)
theorem side_spec {m : Nat} {ms : List Nat} {j b : Nat} : ∀ {l : List Oper} {i : Nat} (k : Nat) (x : Oper), l[k]? = some x → pstBox ann x = some b → (if i + k < j then m.testBit (i + k) else (ms.getD (i + k) 0).testBit j) = false → isIn (sideBx ann m ms j l i) b = true
  | [], i, k, x, hx, _, _ => by simp at hx
  | z :: r, i, k, x, hx, hc, hb => by
    cases k with
    | zero =>
      simp at hx; subst hx
      rw [Nat.add_zero] at hb
      simp only [sideBx, hc]
      cases hbl : Nat.blt i j with
      | true =>
        have hlt : i < j := Nat.le_of_ble_eq_true hbl
        rw [if_pos hlt] at hb
        simp only [hb]
        exact isIn_iff.2 (by simp)
      | false =>
        have hlt : ¬ i < j := fun h => by rw [show Nat.blt i j = true from Nat.ble_eq_true_of_le h] at hbl; cases hbl
        rw [if_neg hlt] at hb
        simp only [hb]
        exact isIn_iff.2 (by simp)
    | succ k =>
      have ih := side_spec (l := r) (i := i + 1) k x (by simpa using hx) hc (by rw [show i + 1 + k = i + (k + 1) by omega]; exact hb)
      simp only [sideBx]
      split
      · split
        · exact ih
        · exact isIn_iff.2 (List.mem_cons_of_mem _ (isIn_iff.1 ih))
      · exact ih
theorem new_eff {o : Oper} (h : isNewOp ann o = true) : clsOp ann o = .eff := by
  unfold isNewOp at h
  split at h
  · assumption
  · cases h
theorem ex_wr {x y : Oper} (h : clash ann ops x y = false) (h1 : clsOp ann x = .wr) (h2 : clsOp ann y = .ld) : ∃ b, pstBox ann x = some b := by
  rcases (noClash_of h).cls with c | c | c
  rotate_left 2
  · rw [new_eff c.1] at h1; cases h1
  · rw [h1, h2] at c; cases c
  · simp only [exPair, h1, h2] at c
    exact Option.isSome_iff_exists.1 c
theorem ex_ld {x y : Oper} (h : clash ann ops x y = false) (h1 : clsOp ann x = .ld) (h2 : clsOp ann y = .wr) : ∃ b, pstBox ann y = some b := by
  rcases (noClash_of h).cls with c | c | c
  rotate_left 2
  · rw [new_eff c.1] at h1; cases h1
  · rw [h1, h2] at c; cases c
  · simp only [exPair, h1, h2] at c
    exact Option.isSome_iff_exists.1 c
theorem looseNew_spec {m : Nat} {ms : List Nat} {j : Nat} : ∀ {l : List Oper} {i : Nat} (k : Nat) (x : Oper), l[k]? = some x → isNewOp ann x = true → i + k ≠ j → (if i + k < j then m.testBit (i + k) else (ms.getD (i + k) 0).testBit j) = false → looseNew ann m ms j l i = true
  | [], i, k, x, hx, _, _, _ => by simp at hx
  | z :: r, i, k, x, hx, hc, hne, hb => by
    simp only [looseNew]
    cases k with
    | zero =>
      simp at hx; subst hx
      rw [Nat.add_zero] at hb hne
      have hq : Nat.beq i j = false := beq_ne hne
      cases hbl : Nat.blt i j with
      | true =>
        have hlt : i < j := Nat.le_of_ble_eq_true hbl
        rw [if_pos hlt] at hb
        simp only [hc, hq, hb, Bool.not_false, Bool.and_self]
      | false =>
        have hlt : ¬ i < j := fun h => by rw [show Nat.blt i j = true from Nat.ble_eq_true_of_le h] at hbl; cases hbl
        rw [if_neg hlt] at hb
        simp only [hc, hq, hb, Bool.not_false, Bool.and_self]
    | succ k =>
      split
      · rfl
      · exact looseNew_spec k x (by simpa using hx) hc (by omega) (by rw [show i + 1 + k = i + (k + 1) by omega]; exact hb)
theorem news_mem {all : List Oper} {ms : List Nat} : ∀ {l : List Oper} {i : Nat} (k : Nat) (x : Oper), l[k]? = some x → isNewOp ann x = true → looseNew ann (ms.getD (i + k) 0) ms (i + k) all 0 = true → i + k ∈ newsL ann all ms l i
  | [], i, k, x, hx, _, _ => by simp at hx
  | z :: r, i, k, x, hx, hc, hb => by
    simp only [newsL]
    cases k with
    | zero =>
      simp at hx; subst hx
      rw [Nat.add_zero] at hb ⊢
      simp only [hc, hb, Bool.and_self]
      exact List.mem_cons_self
    | succ k =>
      have ih := news_mem (l := r) (i := i + 1) k x (by simpa using hx) hc (by rw [show i + 1 + k = i + (k + 1) by omega]; exact hb)
      rw [show i + 1 + k = i + (k + 1) by omega] at ih
      split
      · exact List.mem_cons_of_mem _ ih
      · exact ih
theorem slot_some : ∀ {N : List Nat} {b j : Nat}, j ∈ N → ∃ a, slotOf N b j = some a ∧ b ≤ a
  | [], b, j, h => by cases h
  | k :: r, b, j, h => by
    simp only [slotOf]
    by_cases e : k = j
    · subst e
      exact ⟨b, by simp, Nat.le_refl _⟩
    · rw [beq_ne e]
      obtain ⟨a, h1, h2⟩ := slot_some (N := r) (b := b + 1) (j := j) ((List.mem_cons.1 h).resolve_left (fun h => e h.symm))
      exact ⟨a, h1, by omega⟩
theorem slot_ne : ∀ {N : List Nat} {b i j u v : Nat}, i ≠ j → i ∈ N → j ∈ N → slotOf N b i = some u → slotOf N b j = some v → u ≠ v
  | [], b, i, j, u, v, _, h, _, _, _ => by cases h
  | k :: r, b, i, j, u, v, hij, hi, hj, hu, hv => by
    simp only [slotOf] at hu hv
    by_cases e : k = i
    · subst e
      have e2 : k ≠ j := hij
      rw [beq_ne e2] at hv
      have hv : slotOf r (b + 1) j = some v := hv
      have : Nat.beq k k = true := by simp
      rw [this] at hu
      injection hu with hu; subst hu
      obtain ⟨a, h1, h2⟩ := slot_some (N := r) (b := b + 1) (j := j) ((List.mem_cons.1 hj).resolve_left (fun h => e2 h.symm))
      rw [hv] at h1; injection h1 with h1
      omega
    · rw [beq_ne e] at hu
      have hu : slotOf r (b + 1) i = some u := hu
      have hi' := (List.mem_cons.1 hi).resolve_left (fun h => e h.symm)
      by_cases e2 : k = j
      · subst e2
        have : Nat.beq k k = true := by simp
        rw [this] at hv
        injection hv with hv; subst hv
        obtain ⟨a, h1, h2⟩ := slot_some (N := r) (b := b + 1) (j := i) hi'
        rw [hu] at h1; injection h1 with h1
        omega
      · rw [beq_ne e2] at hv
        exact slot_ne hij hi' ((List.mem_cons.1 hj).resolve_left (fun h => e2 h.symm)) hu hv
theorem edgesBack_spec {i : Nat} : ∀ {l : List Edge}, edgesBack i l = true → ∀ e ∈ l, Region.binds .any e = true → e.on < i
  | [], h, e, he, _ => by simp at he
  | z :: r, h, e, he, hb => by
    simp only [edgesBack] at h
    split at h
    · cases h
    · rename_i hz
      rcases List.mem_cons.1 he with rfl | he
      · cases hbl : Nat.blt e.on i with
        | true => exact Nat.le_of_ble_eq_true hbl
        | false => exact absurd hbl (hz hb)
      · exact edgesBack_spec h e he hb
theorem edgesOk_spec : ∀ {l : List Oper} {i : Nat}, edgesOk l i = true → ∀ (k : Nat) (o : Oper), l[k]? = some o → ∀ e ∈ o.after.toList, Region.binds .any e = true → e.on < i + k
  | [], i, h, k, o, ho, _, _, _ => by simp at ho
  | z :: r, i, h, k, o, ho, e, he, hb => by
    simp only [edgesOk] at h
    split at h
    · rename_i hz
      cases k with
      | zero => simp at ho; subst ho; exact edgesBack_spec hz e he hb
      | succ k =>
        have := edgesOk_spec h k o (by simpa using ho) e he hb
        omega
    · cases h
end
end Go.Zt
