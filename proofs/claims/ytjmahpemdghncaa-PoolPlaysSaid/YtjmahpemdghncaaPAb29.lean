/- What the law PoolPlays needs of the text Ab29. -/
import Derived.Test.YtjmahpemdghncaaPAb27
import Derived.Test.YtjmahpemdghncaaPAb28
set_option linter.unusedVariables false
set_option linter.unusedSimpArgs false
namespace Go.Zt
section
variable {P : Program} {M : Mem} {d : Nat} {t : TypeId} {cs : List Value}
theorem lays_int {k : IntKind} (hu : P.underlying t = some (.int k)) (h : Lays P M (d + 1) t cs) : ∃ n, cs = [.int k n] ∧ (Lit.int k n).wf = true := by
  unfold Lays at h; rw [hu] at h; exact h
theorem lays_struct {fs : Array Field} (hu : P.underlying t = some (.struct fs)) (h : Lays P M (d + 1) t cs) : cs.length = P.cellsOf t ∧ ∀ f ∈ fs.toList, Lays P M d f.type ((cs.drop f.offset).take (P.cellsOf f.type)) := by
  unfold Lays at h; rw [hu] at h; exact h
theorem lays_slice {e : TypeId} {z b : Nat} (hu : P.underlying t = some (.slice e)) (hz : P.cellsOf e = z) (hb : P.bytesOf e = b) (h : Lays P M (d + 1) t cs) :
    ∃ A n c vs, cs = [.slice A n c] ∧ n ≤ c ∧ n * b ≤ 140737488351232 ∧ Rd M A n z vs ∧ ∀ i, i < n → Lays P M d e ((vs.drop (i * z)).take z) := by
  unfold Lays at h; rw [hu] at h
  subst hz; subst hb
  rcases h with rfl | ⟨b, n, c, l, rfl, h1, h2, h3, h4, h5⟩
  · exact ⟨none, 0, 0, [], rfl, Nat.le_refl _, by simp, Rd.zero, fun i hi => by omega⟩
  · refine ⟨_, n, c, l, rfl, h1, h2, ⟨h4, ?_⟩, h5⟩
    unfold Mem.src
    simp only
    split
    · rename_i h0
      rw [h0, Nat.zero_mul] at h4
      rw [List.eq_nil_of_length_eq_zero h4]
    · unfold Mem.lds
      simp only [h3]
      rw [if_pos ⟨trivial, by omega⟩, List.drop_zero, ← h4, List.take_length]
def piecesF (P : Program) (cs : List Value) : List Field → List Value
  | [] => []
  | f :: r => (cs.drop f.offset).take (P.cellsOf f.type) ++ piecesF P cs r
theorem lays_cat {g : TypeId → Bool} : ∀ {fs : List Field} {off n : Nat}, fieldsOk P g fs off n = true → cs.length = n → cs.drop off = piecesF P cs fs
  | [], off, n, h, hl => by
    have := Nat.eq_of_beq_eq_true h
    simp [piecesF]; omega
  | f :: r, off, n, h, hl => by
    unfold fieldsOk at h
    split at h
    · rename_i h1 h2
      have h1 := Nat.eq_of_beq_eq_true h1
      have := lays_cat h hl
      unfold piecesF
      rw [← this, h1, ← List.drop_drop, List.take_append_drop]
    · cases h
theorem lays_fields {g : TypeId → Bool} {fs : Array Field} (hu : P.underlying t = some (.struct fs)) (hok : fieldsOk P g fs.toList 0 (P.cellsOf t) = true) (h : Lays P M (d + 1) t cs) :
    cs = piecesF P cs fs.toList ∧ ∀ f ∈ fs.toList, Lays P M d f.type ((cs.drop f.offset).take (P.cellsOf f.type)) := by
  obtain ⟨h1, h2⟩ := lays_struct hu h
  exact ⟨by have := lays_cat hok h1; rwa [List.drop_zero] at this, h2⟩
theorem arg_one (ha : isAggB P t = false) {v : Value} (h : LaysArg P M t v) : Lays P M 8 t [v] := h.2 ha
theorem args_cons {ts : List TypeId} {vs : List Value} (h : LaysArgs P M (t :: ts) vs) : ∃ v r, vs = v :: r ∧ LaysArg P M t v ∧ LaysArgs P M ts r := by
  cases vs with
  | nil => cases h
  | cons v r => exact ⟨v, r, rfl, h.1, h.2⟩
theorem args_nil {vs : List Value} (h : LaysArgs P M [] vs) : vs = [] := by
  cases vs with
  | nil => rfl
  | cons v r => cases h
end
end Go.Zt
