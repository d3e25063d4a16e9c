/- What the law ChainKnown needs of the text Ab30. -/
import Derived.Test.YtbbfdebfhgdciaaPAb28
import GoSem.ClaimKeys
set_option linter.unusedVariables false
set_option linter.unusedSimpArgs false
namespace Go.Zt
theorem mapM_some_all {α β : Type} {f : α → Option β} {g : α → β} : ∀ {l : List α}, (∀ x ∈ l, f x = some (g x)) → l.mapM f = some (l.map g)
  | [], _ => rfl
  | a :: l, h => by
    rw [List.mapM_cons, h a (by simp), mapM_some_all fun x hx => h x (by simp [hx])]
    rfl
theorem keyLits_ints {P : Program} {t e : TypeId} {n d : Nat} {k : IntKind} {l : List Int} (hu : P.underlying t = some (.array n e)) (he : P.underlying e = some (.int k)) (hz : P.cellsOf e = 1) (hs : P.cellsOf t = n) (hl : l.length = n) (hw : ∀ x ∈ l, (Lit.int k x).wf = true) :
    P.keyLits (d + 2) t (l.map (Value.int k)) = some (l.map (Lit.int k)) := by
  unfold Program.keyLits
  simp only [hu]
  rw [if_pos (by rw [List.length_map, hl, hs])]
  rw [mapM_some_all (g := fun i => [Lit.int k (l.getD i 0)])]
  · simp only [Option.map_some]
    congr 1
    have fl : ∀ (m : Nat) (f : Nat → Lit), ((List.range m).map fun i => [f i]).flatten = (List.range m).map f := fun m f => by
      induction m with
      | zero => rfl
      | succ m ih => rw [List.range_succ, List.map_append, List.flatten_append, ih]; simp
    rw [fl]
    apply List.ext_getElem
    · simp [hl]
    · intro i h1 h2
      simp at h2
      simp [List.getD_eq_getElem?_getD, List.getElem?_eq_getElem h2]
  · intro i hi
    have hi := List.mem_range.1 hi
    have e1 : ((l.map (Value.int k)).drop (i * P.cellsOf e)).take (P.cellsOf e) = [.int k (l.getD i 0)] := by
      rw [hz, Nat.mul_one]
      apply List.ext_getElem
      · simp; omega
      · intro j h1 h2
        simp at h2
        subst h2
        simp [List.getD_eq_getElem?_getD, List.getElem?_eq_getElem (show i < l.length by omega)]
    rw [e1]
    unfold Program.keyLits
    simp only [he]
    have : (Lit.int k (l.getD i 0)).wf = true := by
      rw [List.getD_eq_getElem?_getD, List.getElem?_eq_getElem (show i < l.length by omega)]
      exact hw _ (List.getElem_mem _)
    rw [if_pos ⟨trivial, this⟩]
theorem sameLits_ints {k : IntKind} {l l' : List Int} : sameLits (l.map (Lit.int k)) (l'.map (Lit.int k)) = decide (l = l') := by
  unfold sameLits
  have : l.map (Lit.int k) = l'.map (Lit.int k) ↔ l = l' := by
    constructor
    · intro h
      have hl : l.length = l'.length := by have := congrArg List.length h; simpa using this
      apply List.ext_getElem hl
      intro i h1 h2
      have := congrArg (fun x => x[i]?) h
      simpa [List.getElem?_eq_getElem h1, List.getElem?_eq_getElem h2] using this
    · rintro rfl; rfl
  by_cases h : l = l' <;> simp [this, h]
theorem tab_get {k : IntKind} (tab : List Int) (i : Nat) (h : i < tab.length) : ((tab.map (Value.int k))[i]?).bind (Value.int? k) = some (tab.getD i 0) := by
  rw [List.getElem?_map, List.getElem?_eq_getElem h]
  simp [Value.int?, List.getD_eq_getElem?_getD, List.getElem?_eq_getElem h]
theorem getD_set {xs : List Int} {i j : Nat} {v : Int} (hi : i < xs.length) : (xs.set i v).getD j 0 = if j = i then v else xs.getD j 0 := by
  rw [List.getD_eq_getElem?_getD, List.getD_eq_getElem?_getD, List.getElem?_set]
  by_cases h : i = j
  · subst h; simp [hi]
  · rw [if_neg h, if_neg (fun e => h e.symm)]
theorem ext_getD {xs ys : List Int} (hl : xs.length = ys.length) (h : ∀ i, i < xs.length → xs.getD i 0 = ys.getD i 0) : xs = ys := by
  apply List.ext_getElem hl
  intro i h1 h2
  have := h i h1
  simpa [List.getD_eq_getElem?_getD, List.getElem?_eq_getElem h1, List.getElem?_eq_getElem h2] using this
theorem getD_map_range {n : Nat} {f : Nat → Int} {i : Nat} (hi : i < n) : ((List.range n).map f).getD i 0 = f i := by
  rw [List.getD_eq_getElem?_getD, List.getElem?_eq_getElem (by simpa using hi)]; simp
theorem set_map {k : IntKind} {xs : List Int} {i : Nat} {v : Int} : (xs.map (Value.int k)).set i (.int k v) = (xs.set i v).map (Value.int k) := by rw [List.map_set]
theorem Buf.rdI {M0 M : Mem} {a : Addr} {k : IntKind} {xs : List Int} (h : Buf M0 M a (xs.map (Value.int k))) : RdI M k (some a) xs := Buf.rd h (by simp)
end Go.Zt
