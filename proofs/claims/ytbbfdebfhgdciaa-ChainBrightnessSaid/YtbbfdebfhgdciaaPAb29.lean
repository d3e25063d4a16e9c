/- What the law ChainBrightness needs of the text Ab29. -/
import Derived.Test.YtbbfdebfhgdciaaPAb27
import Derived.Test.YtbbfdebfhgdciaaPAb28
set_option linter.unusedVariables false
set_option linter.unusedSimpArgs false
namespace Go.Zt
section
variable {P : Program} {M : Mem} {d : Nat} {t : TypeId} {cs : List Value}
theorem lays_bool (hu : P.underlying t = some .bool) (h : Lays P M (d + 1) t cs) : ∃ b, cs = [.bool b] := by
  unfold Lays at h; rw [hu] at h; exact h
theorem lays_int {k : IntKind} (hu : P.underlying t = some (.int k)) (h : Lays P M (d + 1) t cs) : ∃ n, cs = [.int k n] ∧ (Lit.int k n).wf = true := by
  unfold Lays at h; rw [hu] at h; exact h
theorem lays_struct {fs : Array Field} (hu : P.underlying t = some (.struct fs)) (h : Lays P M (d + 1) t cs) : cs.length = P.cellsOf t ∧ ∀ f ∈ fs.toList, Lays P M d f.type ((cs.drop f.offset).take (P.cellsOf f.type)) := by
  unfold Lays at h; rw [hu] at h; exact h
theorem lays_array {n : Nat} {e : TypeId} (hu : P.underlying t = some (.array n e)) (h : Lays P M (d + 1) t cs) : cs.length = P.cellsOf t ∧ ∀ i, i < n → Lays P M d e ((cs.drop (i * P.cellsOf e)).take (P.cellsOf e)) := by
  unfold Lays at h; rw [hu] at h; exact h
theorem lays_slice {e : TypeId} {z b : Nat} (hu : P.underlying t = some (.slice e)) (hz : P.cellsOf e = z) (hb : P.bytesOf e = b) (h : Lays P M (d + 1) t cs) :
    ∃ A n c vs, cs = [.slice A n c] ∧ n ≤ c ∧ n * b ≤ 140737488351232 ∧ Rd M A n z vs ∧ ∀ i, i < n → Lays P M d e ((vs.drop (i * z)).take z) := by
  unfold Lays at h; rw [hu] at h
  subst hz; subst hb
  rcases h with rfl | ⟨b, n, c, l, rfl, h1, h2, h3, h4, h5⟩
  · exact ⟨none, 0, 0, [], rfl, Nat.le_refl _, by simp, Rd.zero, fun i hi => by omega⟩
  · refine ⟨_, n, c, l, rfl, h1, h2, ⟨h4, ?_⟩, h5⟩
    unfold Mem.src
    simp only
    split
    · rename_i h0
      rw [h0, Nat.zero_mul] at h4
      rw [List.eq_nil_of_length_eq_zero h4]
    · unfold Mem.lds
      simp only [h3]
      rw [if_pos ⟨trivial, by omega⟩, List.drop_zero, ← h4, List.take_length]
theorem cells_one {vs : List Value} {n : Nat} (hl : vs.length = n * 1) {i : Nat} (hi : i < n) : (vs.drop (i * 1)).take 1 = [vs[i]'(by omega)] := by
  rw [Nat.mul_one]
  apply List.ext_getElem
  · simp; omega
  · intro j h1 h2
    simp at h2
    subst h2
    simp
theorem lays_ints {e : TypeId} {k : IntKind} {b : Nat} (hu : P.underlying t = some (.slice e)) (he : P.underlying e = some (.int k)) (hz : P.cellsOf e = 1) (hb : P.bytesOf e = b) (h : Lays P M (d + 2) t cs) :
    ∃ A c xs, cs = [.slice A xs.length c] ∧ xs.length ≤ c ∧ xs.length * b ≤ 140737488351232 ∧ RdI M k A xs ∧ ∀ x ∈ xs, (Lit.int k x).wf = true := by
  obtain ⟨A, n, c, vs, rfl, h1, h2, h3, h4⟩ := lays_slice hu hz hb h
  have hl := h3.1
  have key : ∀ i (hi : i < n), ∃ x, vs[i]'(by omega) = .int k x ∧ (Lit.int k x).wf = true := fun i hi => by
    have := h4 i hi
    rw [cells_one hl hi] at this
    obtain ⟨x, h5, h6⟩ := lays_int he this
    exact ⟨x, by simpa using h5, h6⟩
  let f : Value → Int := fun v => match v with | .int _ x => x | _ => 0
  have e1 : vs = (vs.map f).map (Value.int k) := by
    apply List.ext_getElem (by simp)
    intro i h5 h6
    obtain ⟨x, h7, _⟩ := key i (by omega)
    simp [f, h7]
  have hn : n = (vs.map f).length := by simp; omega
  refine ⟨A, c, vs.map f, by rw [← hn], by rw [← hn]; exact h1, by rw [← hn]; exact h2, ?_, fun x hx => ?_⟩
  · unfold RdI
    rw [← e1, ← hn]; exact h3
  · obtain ⟨v, hv, rfl⟩ := List.mem_map.1 hx
    obtain ⟨i, hi, rfl⟩ := List.mem_iff_getElem.1 hv
    obtain ⟨x, h7, h8⟩ := key i (by omega)
    simp only [f, h7]; exact h8
theorem lays_bools {e : TypeId} {b : Nat} (hu : P.underlying t = some (.slice e)) (he : P.underlying e = some .bool) (hz : P.cellsOf e = 1) (hb : P.bytesOf e = b) (h : Lays P M (d + 2) t cs) :
    ∃ A c xs, cs = [.slice A xs.length c] ∧ xs.length ≤ c ∧ xs.length * b ≤ 140737488351232 ∧ RdB M A xs := by
  obtain ⟨A, n, c, vs, rfl, h1, h2, h3, h4⟩ := lays_slice hu hz hb h
  have hl := h3.1
  have key : ∀ i (hi : i < n), ∃ x, vs[i]'(by omega) = .bool x := fun i hi => by
    have := h4 i hi
    rw [cells_one hl hi] at this
    obtain ⟨x, h5⟩ := lays_bool he this
    exact ⟨x, by simpa using h5⟩
  let f : Value → Bool := fun v => match v with | .bool x => x | _ => false
  have e1 : vs = (vs.map f).map Value.bool := by
    apply List.ext_getElem (by simp)
    intro i h5 h6
    obtain ⟨x, h7⟩ := key i (by omega)
    simp [f, h7]
  have hn : n = (vs.map f).length := by simp; omega
  refine ⟨A, c, vs.map f, by rw [← hn], by rw [← hn]; exact h1, by rw [← hn]; exact h2, ?_⟩
  unfold RdB
  rw [← e1, ← hn]; exact h3
def piecesF (P : Program) (cs : List Value) : List Field → List Value
  | [] => []
  | f :: r => (cs.drop f.offset).take (P.cellsOf f.type) ++ piecesF P cs r
theorem lays_cat {g : TypeId → Bool} : ∀ {fs : List Field} {off n : Nat}, fieldsOk P g fs off n = true → cs.length = n → cs.drop off = piecesF P cs fs
  | [], off, n, h, hl => by
    have := Nat.eq_of_beq_eq_true h
    simp [piecesF]; omega
  | f :: r, off, n, h, hl => by
    unfold fieldsOk at h
    split at h
    · rename_i h1 h2
      have h1 := Nat.eq_of_beq_eq_true h1
      have := lays_cat h hl
      unfold piecesF
      rw [← this, h1, ← List.drop_drop, List.take_append_drop]
    · cases h
theorem lays_fields {g : TypeId → Bool} {fs : Array Field} (hu : P.underlying t = some (.struct fs)) (hok : fieldsOk P g fs.toList 0 (P.cellsOf t) = true) (h : Lays P M (d + 1) t cs) :
    cs = piecesF P cs fs.toList ∧ ∀ f ∈ fs.toList, Lays P M d f.type ((cs.drop f.offset).take (P.cellsOf f.type)) := by
  obtain ⟨h1, h2⟩ := lays_struct hu h
  exact ⟨by have := lays_cat hok h1; rwa [List.drop_zero] at this, h2⟩
def piecesA (z : Nat) (cs : List Value) : Nat → Nat → List Value
  | _, 0 => []
  | i, n + 1 => (cs.drop (i * z)).take z ++ piecesA z cs (i + 1) n
theorem lays_catA {z : Nat} : ∀ {n i : Nat}, cs.length = (i + n) * z → cs.drop (i * z) = piecesA z cs i n
  | 0, i, h => by simp [piecesA]; rw [h]; simp
  | n + 1, i, h => by
    have := lays_catA (z := z) (n := n) (i := i + 1) (by rw [h]; congr 1; omega)
    unfold piecesA
    rw [← this, Nat.add_mul, Nat.one_mul, ← List.drop_drop, List.take_append_drop]
theorem lays_items {n z : Nat} {e : TypeId} (hu : P.underlying t = some (.array n e)) (hz : P.cellsOf e = z) (hs : P.cellsOf t = n * z) (h : Lays P M (d + 1) t cs) :
    cs = piecesA z cs 0 n ∧ ∀ i, i < n → Lays P M d e ((cs.drop (i * z)).take z) := by
  obtain ⟨h1, h2⟩ := lays_array hu h
  subst hz
  refine ⟨?_, h2⟩
  have := lays_catA (cs := cs) (z := P.cellsOf e) (n := n) (i := 0) (by rw [h1, hs]; simp)
  simpa using this
theorem arg_one (ha : isAggB P t = false) {v : Value} (h : LaysArg P M t v) : Lays P M 8 t [v] := h.2 ha
theorem arg_agg (ha : isAggB P t = true) {v : Value} (h : LaysArg P M t v) : ∃ acs, v = .agg ⟨acs⟩ ∧ Lays P M 8 t acs := h.1 ha
theorem args_cons {ts : List TypeId} {vs : List Value} (h : LaysArgs P M (t :: ts) vs) : ∃ v r, vs = v :: r ∧ LaysArg P M t v ∧ LaysArgs P M ts r := by
  cases vs with
  | nil => cases h
  | cons v r => exact ⟨v, r, rfl, h.1, h.2⟩
theorem args_nil {vs : List Value} (h : LaysArgs P M [] vs) : vs = [] := by
  cases vs with
  | nil => rfl
  | cons v r => cases h
end
end Go.Zt
