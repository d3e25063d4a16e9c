/- What the law PoolNames needs of the text Ab3. -/
import Derived.Test.YtjmahpemdghncaaPAb2
set_option linter.unusedVariables false
set_option linter.unusedSimpArgs false
namespace Go.Zt
open Go.RowKit
theorem beq_ne {t u : Nat} (h : t ≠ u) : Nat.beq t u = false := by
  cases hb : Nat.beq t u
  · rfl
  · exact absurd (Nat.eq_of_beq_eq_true hb) h
theorem add_add (a : Addr) (i j : Nat) : (a.add i).add j = a.add (i + j) := by
  unfold Addr.add
  by_cases hi : i = 0
  · subst hi; simp
  · by_cases hj : j = 0
    · subst hj; simp [hi]
    · rw [if_neg hi, if_neg hj, if_neg (by omega)]; simp [Nat.add_assoc]
theorem add_zero (a : Addr) : a.add 0 = a := rfl
theorem add_block (a : Addr) (i : Nat) : (a.add i).block = a.block := by unfold Addr.add; split <;> rfl
theorem add_new (g i : Nat) : (⟨g, 0, none⟩ : Addr).add i = ⟨g, i, none⟩ := by unfold Addr.add; split <;> simp_all
theorem plus_eq (a : Addr) (n : Nat) : plus a n = ⟨a.block, a.off + n, a.spot⟩ := by cases n <;> rfl
theorem plus_block (a : Addr) (n : Nat) : (plus a n).block = a.block := by rw [plus_eq]
theorem mulN_eq (a b : Nat) : mulN a b = a * b := by
  unfold mulN
  split <;> simp
section
variable {m : Mp} {M : Mem}
theorem AR.plus {a c : Addr} (h : AR m M a c) (i : Nat) : AR m M (plus a i) (c.add i) := by
  obtain ⟨k, hk, h⟩ := h
  refine ⟨k, by rw [plus_block]; exact hk, ?_⟩
  rw [plus_eq]
  cases hkind : k.kind <;> rw [hkind] at h <;> cases hs : a.spot <;> simp only [hs] at h ⊢
  · rw [h, add_add]
  · rw [h, add_add]
  · exact ⟨h.1, fun hv => by rw [h.2 hv, add_add]⟩
end
theorem own_setCell {w : World} {g : Nat} {arr : List Value} (h : Own w g arr) (i : Nat) (v : Value) : Own (w.setCell ⟨g, i, none⟩ v) g (arr.set i v) := by
  obtain ⟨t, h⟩ := h
  refine ⟨t, ?_⟩
  simp only [World.setCell, Array.getElem?_modify, h, if_true, Option.map_some]
  simp
theorem setCell_far {w : World} {a : Addr} {v : Value} {g : Nat} (h : a.block ≠ g) : (w.setCell a v).heap[g]? = w.heap[g]? := by
  simp only [World.setCell, Array.getElem?_modify, if_neg h]
theorem own_setCells {g : Nat} (vs : List Value) : ∀ {arr : List Value} {off : Nat} {w : World}, Own w g arr → Own (w.setCells g off vs) g (setL arr off vs) := by
  induction vs with
  | nil => intro arr off w h; exact h
  | cons v vs ih => intro arr off w h; exact ih (own_setCell h off v)
theorem setCells_far' {g : Nat} (vs : List Value) : ∀ {off : Nat} {w : World} {b : Nat}, b ≠ g → (w.setCells g off vs).heap[b]? = w.heap[b]? := by
  induction vs with
  | nil => intro off w b h; rfl
  | cons v vs ih => intro off w b h; exact (ih h).trans (setCell_far (fun e => h e.symm))
theorem setCells_rest {g : Nat} (vs : List Value) : ∀ {off : Nat} {w : World}, (w.setCells g off vs).os = w.os ∧ (w.setCells g off vs).tape = w.tape ∧ (w.setCells g off vs).output = w.output ∧ (w.setCells g off vs).heap.size = w.heap.size := by
  induction vs with
  | nil => intro off w; exact ⟨rfl, rfl, rfl, rfl⟩
  | cons v vs ih =>
    intro off w
    obtain ⟨h1, h2, h3, h4⟩ := ih (off := off + 1) (w := w.setCell ⟨g, off, none⟩ v)
    exact ⟨h1, h2, h3, h4.trans (by simp)⟩
theorem fr_setCells {S : Nat → Prop} {w : World} {g off : Nat} {vs : List Value} (hs : S g) : Fr S w (w.setCells g off vs) := by
  obtain ⟨h1, h2, h3, h4⟩ := setCells_rest (g := g) vs (off := off) (w := w)
  exact ⟨h1, h2, h3, by omega, fun b _ hb => setCells_far' vs (fun e => hb (e ▸ hs))⟩
theorem own_alloc (w : World) (arr : List Value) (t : TypeId) : Own (w.alloc (.cells ⟨arr⟩ t)) w.heap.size arr := ⟨t, heap_alloc_new w _⟩
theorem fr_alloc {S : Nat → Prop} (w : World) (o : Obj) : Fr S w (w.alloc o) := ⟨rfl, rfl, rfl, by simp, fun g hg _ => Below.heap_alloc w o g hg⟩
theorem own_far {w w' : World} {g : Nat} {arr : List Value} (h : Own w g arr) (hw : w'.heap[g]? = w.heap[g]?) : Own w' g arr := by
  obtain ⟨t, h⟩ := h
  exact ⟨t, hw.trans h⟩
theorem run_storeOwn (P : Program) {w : World} {g : Nat} {arr : List Value} (h : Own w g arr) (off : Nat) (vs : List Value) (hl : off + vs.length ≤ arr.length) (h1 : ∀ v ∈ vs, v.oneCell' = true) :
    (storeCells ⟨g, off, none⟩ vs).run P w = .ok () (w.setCells g off vs) := by
  have := run_storeCells_cells (P := P) g off vs 0 w (fun j hj => by rw [h.cell]; simp; omega) (fun j hj => h.frozen _) h1
  simpa using this
theorem allOne_iff {l : List Value} : allOne l = true ↔ ∀ v ∈ l, v.oneCell' = true := by
  induction l with
  | nil => simp [allOne]
  | cons v l ih => cases hv : v.oneCell' <;> simp [allOne, hv, ih]
theorem LR.one {m : Mp} {M : Mem} {xs ys : List Value} (h : LR m M xs ys) (h1 : ∀ v ∈ xs, v.oneCell' = true) : ∀ v ∈ ys, v.oneCell' = true := by
  intro v hv
  obtain ⟨i, hi⟩ := List.mem_iff_getElem?.1 hv
  have hl : i < xs.length := by rw [h.1]; exact (List.getElem?_eq_some_iff.1 hi).1
  rw [(h.2 i xs[i] v (List.getElem?_eq_getElem hl) hi).oneCell]
  exact h1 _ (List.getElem_mem hl)
section
variable {B lo : Nat} {w0 : World} {m0 : Mp} {M0 : Mem} {m : Mp} {ml : Nat → Nat} {M : Mem} {loc : List (Nat × List Value)} {w : World}
theorem Rel.ld (h : Rel B m M w) {a c : Addr} (ha : AR m M a c) {v : Value} (hv : M.ld a = some v) : ∃ cv, w.cell? c = some cv ∧ VR m M v cv := by
  obtain ⟨k, hk, ha⟩ := ha
  obtain ⟨kind, cs⟩ := k
  simp only [Mem.ld, hk] at hv
  cases kind with
  | ro =>
    simp only at hv ha
    split at hv
    · rename_i hs
      rw [hs] at ha
      obtain ⟨v', h1, h2⟩ := h.ro _ _ hk _ _ hv
      exact ⟨v', by rw [ha]; exact h1, h2⟩
    · cases hv
  | fx =>
    simp only at hv ha
    split at hv
    · rename_i hs
      rw [hs] at ha
      obtain ⟨g, arr, e, _, ho, hl, hle, _, _⟩ := h.own _ _ hk (by simp)
      obtain ⟨v', h1, h2⟩ := hl.get hv
      have hi : a.off < cs.length := (List.getElem?_eq_some_iff.1 hv).1
      rw [List.getElem?_take, if_pos hi] at h1
      exact ⟨v', by rw [ha, e, add_new, ho.cell]; exact h1, h2⟩
    · cases hv
  | op z =>
    simp only at hv ha
    split at hv
    · rename_i hs
      rw [hs] at ha
      have hz : BK.Own (.op z) := by
        show z ≠ 0
        rintro rfl
        have := h.hole _ _ hk
        subst this
        simp at hv
      obtain ⟨g, arr, e, _, ho, hl, hle, _, _⟩ := h.own _ _ hk hz
      obtain ⟨v', h1, h2⟩ := hl.get hv
      have hi : a.off < cs.length := (List.getElem?_eq_some_iff.1 hv).1
      rw [List.getElem?_take, if_pos hi] at h1
      exact ⟨v', by rw [ha.2 rfl, e, add_new, ho.cell]; exact h1, h2⟩
    · cases hv
theorem lds_ld {M : Mem} {a : Addr} {n : Nat} {vs : List Value} (h : M.lds a n = some vs) : vs.length = n ∧ ∀ i v, vs[i]? = some v → M.ld (plus a i) = some v := by
  unfold Mem.lds at h
  unfold Mem.ld
  simp only [plus_block]
  split at h
  · split at h
    · rename_i hc
      injection h with h; subst h
      refine ⟨by simp; omega, fun i v hv => ?_⟩
      rw [List.getElem?_take] at hv
      split at hv
      · rw [List.getElem?_drop] at hv
        rename_i hk _ _ _ _
        simp only [plus_eq, hc.1, if_true]
        simp_all
      · cases hv
    · cases h
  · split at h
    · rename_i hc
      injection h with h; subst h
      refine ⟨by simp; omega, fun i v hv => ?_⟩
      rw [List.getElem?_take] at hv
      split at hv
      · rw [List.getElem?_drop] at hv
        simp only [plus_eq]
        split
        · simp_all
        · simp_all
      · cases hv
    · cases h
  · cases h
theorem Rel.lds (h : Rel B m M w) {a c : Addr} (ha : AR m M a c) {n : Nat} {vs : List Value} (hv : M.lds a n = some vs) :
    ∃ cs, cs.length = n ∧ LR m M vs cs ∧ ∀ i v, cs[i]? = some v → w.cell? (c.add i) = some v := by
  obtain ⟨hl, hc⟩ := lds_ld hv
  have key : ∀ i, i < n → ∃ cv, w.cell? (c.add i) = some cv ∧ ∀ v, vs[i]? = some v → VR m M v cv := by
    intro i hi
    have hi' : i < vs.length := by omega
    obtain ⟨cv, h1, h2⟩ := h.ld (ha.plus i) (hc i vs[i] (List.getElem?_eq_getElem hi'))
    exact ⟨cv, h1, fun v hv => by rw [List.getElem?_eq_getElem hi'] at hv; injection hv with hv; subst hv; exact h2⟩
  refine ⟨(List.range n).map fun i => (w.cell? (c.add i)).getD undef, by simp, ⟨by simp [hl], fun i x y hx hy => ?_⟩, fun i v hv => ?_⟩
  · have hi : i < n := by rw [← hl]; exact (List.getElem?_eq_some_iff.1 hx).1
    obtain ⟨cv, h1, h2⟩ := key i hi
    simp [List.getElem?_map, List.getElem?_range, hi, h1] at hy
    subst hy
    exact h2 x hx
  · have hi : i < n := by
      have := (List.getElem?_eq_some_iff.1 hv).1
      simpa using this
    obtain ⟨cv, h1, h2⟩ := key i hi
    simp [List.getElem?_map, List.getElem?_range, hi, h1] at hv
    subst hv
    exact h1
theorem LRel.ld (h : LRel B m M ml loc w) {t : Nat} {cs : List Value} (ht : lk loc t = some cs) {i : Nat} {v : Value} (hv : cs[i]? = some v) : ∃ cv, w.cell? ⟨ml t, i, none⟩ = some cv ∧ VR m M v cv := by
  obtain ⟨arr, ho, hl, _⟩ := h.box t cs ht
  obtain ⟨v', h1, h2⟩ := hl.get hv
  exact ⟨v', by rw [ho.cell]; exact h1, h2⟩
end
theorem lk_cons {α : Type} (l : List (Nat × α)) (t u : Nat) (x : α) : lk ((t, x) :: l) u = if t = u then some x else lk l u := by
  simp only [lk]
  by_cases h : t = u
  · subst h; simp
  · have : Nat.beq t u = false := beq_ne h
    rw [this]; simp [h]
theorem lk_up {α : Type} (l : List (Nat × α)) (t u : Nat) (y : α) : lk (up l t y) u = if t = u then (lk l t).map (fun _ => y) else lk l u := by
  induction l with
  | nil => simp [up, lk]
  | cons p r ih =>
    obtain ⟨s, x⟩ := p
    simp only [up]
    by_cases h : s = t
    · subst h
      have : Nat.beq s s = true := by simp
      rw [this]
      simp only [lk_cons, if_true]
      by_cases hu : s = u <;> simp [hu]
    · have : Nat.beq s t = false := beq_ne h
      rw [this]
      simp only [lk_cons, ih, if_neg h]
      by_cases hu : s = u
      · subst hu; simp [Ne.symm h]
      · simp [hu]
theorem isIn_iff {l : List Nat} {u : Nat} : isIn l u = true ↔ u ∈ l := by
  induction l with
  | nil => simp [isIn]
  | cons t r ih =>
    simp only [isIn]
    by_cases h : t = u
    · subst h; simp
    · have : Nat.beq t u = false := beq_ne h
      rw [this]; simp [ih, Ne.symm h, eq_comm, h]
section
variable {B lo : Nat} {w0 : World} {m0 : Mp} {M0 : Mem} {m : Mp} {ml : Nat → Nat} {M : Mem} {loc : List (Nat × List Value)} {w : World}
def Mp.put (m : Mp) (b : Nat) (a : Addr) (n : Nat) : Mp := ⟨fun c => if c = b then a else m.at_ c, fun c => if c = b then n else m.sz c⟩
theorem ext_push (lo : Nat) (m : Mp) (M : Mem) (k : Blk) (a : Addr) (n : Nat) : Ext lo m M (m.put M.length a n) (M ++ [k]) := by
  refine ⟨by simp, fun b x hb => ⟨x, ?_, .inl rfl, Nat.le_refl _, fun _ => ?_, fun _ => rfl, fun _ => rfl⟩, fun b _ hb => ?_⟩
  · rw [List.getElem?_append_left (List.getElem?_eq_some_iff.1 hb).1]; exact hb
  · have : b ≠ M.length := by have := (List.getElem?_eq_some_iff.1 hb).1; omega
    simp [Mp.put, this]
  · rw [List.getElem?_append_left hb]
theorem push_get {k : Blk} {b : Nat} {x : Blk} (h : (M ++ [k])[b]? = some x) : (b < M.length ∧ M[b]? = some x) ∨ (b = M.length ∧ x = k) := by
  rw [List.getElem?_append] at h
  split at h
  · exact .inl ⟨by assumption, h⟩
  · have hl : b - M.length < 1 := by have := (List.getElem?_eq_some_iff.1 h).1; simpa using this
    have hb : b = M.length := by omega
    subst hb
    simp at h
    exact .inr ⟨rfl, h.symm⟩
theorem Rel.keep (h : Rel B m M w) {w' : World} (hb : ∀ g, g < B → w'.heap[g]? = w.heap[g]?) (hk : ∀ b k, M[b]? = some k → k.kind.Own → w'.heap[(m.at_ b).block]? = w.heap[(m.at_ b).block]?) : Rel B m M w' := by
  refine ⟨fun b cs hc i v hv => ?_, h.rob, fun b k hbk hro => ?_, h.inj, h.one, h.hole⟩
  · obtain ⟨v', h1, h2⟩ := h.ro b cs hc i v hv
    refine ⟨v', ?_, h2⟩
    rw [World.cell?_of_block (w := w) (hb _ _)]
    · exact h1
    · rw [add_block]
      exact h.rob b cs hc (Nat.lt_of_le_of_lt (Nat.zero_le _) (List.getElem?_eq_some_iff.1 hv).1)
  · obtain ⟨g, arr, e, r1, ho, r⟩ := h.own b k hbk hro
    have := hk b k hbk hro
    rw [e] at this
    exact ⟨g, arr, e, r1, own_far ho this, r⟩
theorem LRel.keep (h : LRel B m M ml loc w) {w' : World} (hb : ∀ t cs, lk loc t = some cs → w'.heap[ml t]? = w.heap[ml t]?) : LRel B m M ml loc w' := by
  refine ⟨fun t cs ht => ?_, h.apart, h.inj, h.one⟩
  obtain ⟨arr, ho, r⟩ := h.box t cs ht
  exact ⟨arr, own_far ho (hb t cs ht), r⟩
theorem LRel.ext (h : LRel B m M ml loc w) {lo' : Nat} {m' : Mp} {M' : Mem} (he : Ext lo' m M m' M') (hap : ∀ t cs b k, lk loc t = some cs → M'[b]? = some k → k.kind.Own → (m'.at_ b).block ≠ ml t) : LRel B m' M' ml loc w := by
  refine ⟨fun t cs ht => ?_, hap, h.inj, h.one⟩
  obtain ⟨arr, ho, hl, r⟩ := h.box t cs ht
  exact ⟨arr, ho, hl.ext he, r⟩
theorem Rel.lt (h : Rel B m M w) {b : Nat} {k : Blk} (hb : M[b]? = some k) (hr : k.kind.Own) : (m.at_ b).block < w.heap.size := by
  obtain ⟨g, arr, e, _, ho, _⟩ := h.own b k hb hr
  rw [e]; exact ho.lt
theorem LRel.lt (h : LRel B m M ml loc w) {t : Nat} {cs : List Value} (ht : lk loc t = some cs) : ml t < w.heap.size := by
  obtain ⟨arr, ho, _⟩ := h.box t cs ht
  exact ho.lt
theorem MI.push (h : MI B lo w0 m0 M0 m ml M loc w) (k : Blk) (hk : k.kind.Own) (arr : List Value) (t : TypeId) (hl : LR m M k.cells (arr.take k.cells.length)) (hle : k.cells.length ≤ arr.length)
    (hfx : k.kind = .fx → arr.length = k.cells.length) (hop : ∀ z, k.kind = .op z → 0 < z) (h1 : ∀ v ∈ k.cells, v.oneCell' = true) :
    MI B lo w0 m0 M0 (m.put M.length ⟨w.heap.size, 0, none⟩ arr.length) ml (M ++ [k]) loc (w.alloc (.cells ⟨arr⟩ t)) := by
  have he := ext_push lo m M k ⟨w.heap.size, 0, none⟩ arr.length
  have hold : ∀ b, b < M.length → (m.put M.length ⟨w.heap.size, 0, none⟩ arr.length).at_ b = m.at_ b := fun b hb => by simp [Mp.put, Nat.ne_of_lt hb]
  have hnew : (m.put M.length ⟨w.heap.size, 0, none⟩ arr.length).at_ M.length = ⟨w.heap.size, 0, none⟩ := by simp [Mp.put]
  have hB : B ≤ w.heap.size := Nat.le_trans h.hB h.fr.size
  refine ⟨⟨fun b cs hc i v hv => ?_, fun b cs hc hp => ?_, fun b x hx hr => ?_, fun b b' x x' hx hx' hr hr' e => ?_, fun b x hx => ?_, fun b cs hc => ?_⟩, ?_, h.ext.trans he, h.fr.trans (fr_alloc (S := fun _ => False) _ _) (fun g hg _ => hg.elim), fun b x hx hr hlo => ?_, h.locNew, h.hB⟩
  · rcases push_get hc with ⟨hb, hc⟩ | ⟨_, rfl⟩
    · obtain ⟨v', e1, e2⟩ := h.rel.ro b cs hc i v hv
      refine ⟨v', ?_, e2.ext he⟩
      rw [hold b hb, World.cell?_alloc_lt _ _ _ (World.block_lt_of_cell? _ _ e1)]
      exact e1
    · exact hk.elim
  · rcases push_get hc with ⟨hb, hc⟩ | ⟨_, rfl⟩
    · rw [hold b hb]; exact h.rel.rob b cs hc hp
    · exact hk.elim
  · rcases push_get hx with ⟨hb, hx⟩ | ⟨rfl, rfl⟩
    · obtain ⟨g, ar, e, r1, ho, r2, r3, r4, r5⟩ := h.rel.own b x hx hr
      refine ⟨g, ar, by rw [hold b hb]; exact e, r1, own_far ho (Below.heap_alloc _ _ _ ho.lt), r2.ext he, r3, r4, fun z hz => ?_⟩
      have : (m.put M.length ⟨w.heap.size, 0, none⟩ arr.length).sz b = m.sz b := by simp [Mp.put, Nat.ne_of_lt hb]
      rw [this]; exact r5 z hz
    · refine ⟨w.heap.size, arr, hnew, hB, own_alloc _ _ _, hl.ext he, hle, hfx, fun z hz => ⟨by simp [Mp.put], hop z hz⟩⟩
  · rcases push_get hx with ⟨hb, hy⟩ | ⟨hb, hy⟩ <;> rcases push_get hx' with ⟨hb', hy'⟩ | ⟨hb', hy'⟩
    · rw [hold b hb, hold b' hb'] at e
      exact h.rel.inj b b' x x' hy hy' hr hr' e
    · rw [hold b hb, hb', hnew] at e
      have := h.rel.lt hy hr
      rw [e] at this
      exact absurd this (Nat.lt_irrefl _)
    · rw [hold b' hb', hb, hnew] at e
      have := h.rel.lt hy' hr'
      rw [← e] at this
      exact absurd this (Nat.lt_irrefl _)
    · rw [hb, hb']
  · rcases push_get hx with ⟨hb, hx⟩ | ⟨_, rfl⟩
    · exact h.rel.one b x hx
    · exact h1
  · rcases push_get hc with ⟨hb, hc⟩ | ⟨_, rfl⟩
    · exact h.rel.hole b cs hc
    · exact (own_op0 hk rfl).elim
  · refine LRel.keep (LRel.ext h.lrel he fun t cs b x ht hx hr => ?_) fun t cs ht => Below.heap_alloc _ _ _ (h.lrel.lt ht)
    rcases push_get hx with ⟨hb, hx⟩ | ⟨rfl, rfl⟩
    · rw [hold b hb]; exact h.lrel.apart t cs b x ht hx hr
    · rw [hnew]; exact Nat.ne_of_gt (h.lrel.lt ht)
  · rcases push_get hx with ⟨hb, hx⟩ | ⟨rfl, rfl⟩
    · rw [hold b hb]; exact h.k3 b x hx hr hlo
    · rw [hnew]; exact .inr h.fr.size
theorem MI.pushL (h : MI B lo w0 m0 M0 m ml M loc w) (t : Nat) (ht : lk loc t = none) (cs arr : List Value) (ty : TypeId) (hl : LR m M cs arr) (h1 : ∀ v ∈ cs, v.oneCell' = true) :
    MI B lo w0 m0 M0 m (fun u => if u = t then w.heap.size else ml u) M ((t, cs) :: loc) (w.alloc (.cells ⟨arr⟩ ty)) := by
  have hB : B ≤ w.heap.size := Nat.le_trans h.hB h.fr.size
  have hne : ∀ u ds, lk loc u = some ds → u ≠ t := fun u ds hu e => by subst e; rw [ht] at hu; cases hu
  have hk : ∀ u ds, lk ((t, cs) :: loc) u = some ds → (u = t ∧ ds = cs) ∨ (u ≠ t ∧ lk loc u = some ds) := fun u ds hu => by
    rw [lk_cons] at hu
    split at hu
    · rename_i e; injection hu with hu; exact .inl ⟨e.symm, hu.symm⟩
    · exact .inr ⟨hne _ _ hu, hu⟩
  refine ⟨h.rel.keep (fun g hg => Below.heap_alloc _ _ _ (Nat.lt_of_lt_of_le hg hB)) (fun b k hb hr => Below.heap_alloc _ _ _ (h.rel.lt hb hr)), ⟨fun u ds hu => ?_, fun u ds b k hu hb hr => ?_, fun u u' ds ds' hu hu' e => ?_, fun u ds hu => ?_⟩,
    h.ext, h.fr.trans (fr_alloc (S := fun _ => False) _ _) (fun g hg _ => hg.elim), h.k3, fun u ds hu => ?_, h.hB⟩
  · rcases hk u ds hu with ⟨rfl, rfl⟩ | ⟨hn, hu⟩
    · exact ⟨arr, by simpa using own_alloc w arr ty, hl, by simpa using hB⟩
    · obtain ⟨ar, ho, r1, r2⟩ := h.lrel.box u ds hu
      refine ⟨ar, ?_, r1, ?_⟩ <;> rw [if_neg hn]
      · exact own_far ho (Below.heap_alloc _ _ _ ho.lt)
      · exact r2
  · rcases hk u ds hu with ⟨rfl, rfl⟩ | ⟨hn, hu⟩
    · rw [if_pos rfl]; exact Nat.ne_of_lt (h.rel.lt hb hr)
    · rw [if_neg hn]; exact h.lrel.apart u ds b k hu hb hr
  · rcases hk u ds hu with ⟨hn, _⟩ | ⟨hn, hv⟩ <;> rcases hk u' ds' hu' with ⟨hn', _⟩ | ⟨hn', hv'⟩
    · rw [hn, hn']
    · simp only [if_pos hn, if_neg hn'] at e
      have := h.lrel.lt hv'
      omega
    · simp only [if_pos hn', if_neg hn] at e
      have := h.lrel.lt hv
      omega
    · simp only [if_neg hn, if_neg hn'] at e
      exact h.lrel.inj u u' ds ds' hv hv' e
  · rcases hk u ds hu with ⟨rfl, rfl⟩ | ⟨hn, hu⟩
    · exact h1
    · exact h.lrel.one u ds hu
  · rcases hk u ds hu with ⟨rfl, rfl⟩ | ⟨hn, hu⟩
    · rw [if_pos rfl]; exact h.fr.size
    · rw [if_neg hn]; exact h.locNew u ds hu
theorem MI.stL (h : MI B lo w0 m0 M0 m ml M loc w) {t : Nat} {cs : List Value} (ht : lk loc t = some cs) (off : Nat) (vs us : List Value) (hl : LR m M vs us) (h1 : ∀ v ∈ vs, v.oneCell' = true) :
    MI B lo w0 m0 M0 m ml M (up loc t (setL cs off vs)) (w.setCells (ml t) off us) := by
  have hk : ∀ u ds, lk (up loc t (setL cs off vs)) u = some ds → (u = t ∧ ds = setL cs off vs) ∨ (u ≠ t ∧ lk loc u = some ds) := fun u ds hu => by
    rw [lk_up, ht] at hu
    split at hu
    · rename_i e; simp at hu; exact .inl ⟨e.symm, hu.symm⟩
    · rename_i e; exact .inr ⟨fun e' => e e'.symm, hu⟩
  have hex : ∀ u ds, lk (up loc t (setL cs off vs)) u = some ds → ∃ es, lk loc u = some es := fun u ds hu => by
    rcases hk u ds hu with ⟨rfl, _⟩ | ⟨_, hu⟩
    · exact ⟨_, ht⟩
    · exact ⟨_, hu⟩
  obtain ⟨ar, ho, r1, r2⟩ := h.lrel.box t cs ht
  have hnew := h.locNew t cs ht
  refine ⟨h.rel.keep (fun g hg => setCells_far' us (by have := h.hB; omega)) (fun b k hb hr => setCells_far' us (h.lrel.apart t cs b k ht hb hr)), ⟨fun u ds hu => ?_, fun u ds b k hu hb hr => ?_, fun u u' ds ds' hu hu' e => ?_, fun u ds hu => ?_⟩,
    h.ext, h.fr.trans (fr_setCells (S := fun g => g = ml t) rfl) (fun g hg hlt => by subst hg; omega), h.k3, fun u ds hu => ?_, h.hB⟩
  · rcases hk u ds hu with ⟨rfl, rfl⟩ | ⟨hn, hu⟩
    · exact ⟨setL ar off us, own_setCells us ho, r1.setL off hl, r2⟩
    · obtain ⟨ar', ho', q1, q2⟩ := h.lrel.box u ds hu
      exact ⟨ar', own_far ho' (setCells_far' us (fun e => hn (h.lrel.inj u t ds cs hu ht e))), q1, q2⟩
  · obtain ⟨es, he⟩ := hex u ds hu; exact h.lrel.apart u es b k he hb hr
  · obtain ⟨es, he⟩ := hex u ds hu; obtain ⟨es', he'⟩ := hex u' ds' hu'; exact h.lrel.inj u u' es es' he he' e
  · rcases hk u ds hu with ⟨rfl, rfl⟩ | ⟨hn, hu⟩
    · intro v hv
      have hmem : ∀ (vs : List Value) (cs : List Value) (off : Nat), v ∈ setL cs off vs → v ∈ cs ∨ v ∈ vs := by
        intro vs
        induction vs with
        | nil => intro cs off hv; exact .inl hv
        | cons x vs ih =>
          intro cs off hv
          rcases ih _ _ hv with h' | h'
          · rcases List.mem_or_eq_of_mem_set h' with h' | h'
            · exact .inl h'
            · exact .inr (by simp [h'])
          · exact .inr (by simp [h'])
      rcases hmem _ _ _ hv with h' | h'
      · exact h.lrel.one _ _ ht v h'
      · exact h1 v h'
    · exact h.lrel.one u ds hu
  · obtain ⟨es, he⟩ := hex u ds hu; exact h.locNew u es he
theorem mem_setL {α : Type} {v : α} (vs : List α) : ∀ (cs : List α) (off : Nat), v ∈ setL cs off vs → v ∈ cs ∨ v ∈ vs := by
  induction vs with
  | nil => intro cs off hv; exact .inl hv
  | cons x vs ih =>
    intro cs off hv
    rcases ih _ _ hv with h' | h'
    · rcases List.mem_or_eq_of_mem_set h' with h' | h'
      · exact .inl h'
      · exact .inr (by simp [h'])
    · exact .inr (by simp [h'])
theorem ext_set (lo : Nat) (m : Mp) (M : Mem) {b : Nat} {k k' : Blk} (hb : M[b]? = some k) (hlo : lo ≤ b) (hr : k.kind.Own) (hk : k'.kind = k.kind) (hl : k'.cells.length = k.cells.length) : Ext lo m M m (M.set b k') := by
  refine ⟨by simp, fun c x hc => ?_, fun c h1 h2 => by rw [List.getElem?_set_ne (by omega)]⟩
  by_cases hcb : b = c
  · subst hcb
    rw [hb] at hc; injection hc with hc; subst hc
    exact ⟨k', by rw [List.getElem?_set_self (List.getElem?_eq_some_iff.1 hb).1], .inl hk, by omega, fun _ => ⟨rfl, rfl⟩, fun _ => hl, fun h => (own_ro hr h).elim⟩
  · exact ⟨x, by rw [List.getElem?_set_ne hcb]; exact hc, .inl rfl, Nat.le_refl _, fun _ => ⟨rfl, rfl⟩, fun _ => rfl, fun _ => rfl⟩
theorem set_get {b : Nat} {k k' : Blk} (hb : M[b]? = some k) {c : Nat} {x : Blk} (h : (M.set b k')[c]? = some x) : (c = b ∧ x = k') ∨ (c ≠ b ∧ M[c]? = some x) := by
  by_cases hcb : b = c
  · subst hcb
    rw [List.getElem?_set_self (List.getElem?_eq_some_iff.1 hb).1] at h
    injection h with h
    exact .inl ⟨rfl, h.symm⟩
  · rw [List.getElem?_set_ne hcb] at h
    exact .inr ⟨fun e => hcb e.symm, h⟩
theorem MI.setB (h : MI B lo w0 m0 M0 m ml M loc w) {b : Nat} {k : Blk} (hb : M[b]? = some k) (hr : k.kind.Own) (hlo : lo ≤ b) (cs : List Value) (off : Nat) (us : List Value) {g : Nat} {arr : List Value} (hg : m.at_ b = ⟨g, 0, none⟩) (ho : Own w g arr)
    (he : Ext lo m M m (M.set b ⟨k.kind, cs⟩)) (hl : LR m M cs ((setL arr off us).take cs.length)) (hle : cs.length ≤ arr.length) (hfx : k.kind = .fx → cs.length = k.cells.length) (h1 : ∀ v ∈ cs, v.oneCell' = true) :
    MI B lo w0 m0 M0 m ml (M.set b ⟨k.kind, cs⟩) loc (w.setCells g off us) := by
  have hk3 := h.k3 b k hb hr hlo
  rw [hg] at hk3
  obtain ⟨g', arr', e', hBg, ho', q1, q2, q3, q4⟩ := h.rel.own b k hb hr
  rw [hg] at e'
  injection e' with e'
  subst e'
  obtain rfl : arr' = arr := by
    obtain ⟨t1, h1'⟩ := ho'; obtain ⟨t2, h2'⟩ := ho
    rw [h1'] at h2'
    injection h2' with h2'; injection h2' with h2'; injection h2'
  refine ⟨⟨fun c ds hc i v hv => ?_, fun c ds hc hp => ?_, fun c x hx hxr => ?_, fun c c' x x' hx hx' hxr hxr' e => ?_, fun c x hx => ?_, fun c es hc => ?_⟩, ?_, h.ext.trans he, h.fr.trans (fr_setCells (S := fun q => q = g) rfl) (fun q hq hlt => ?_), fun c x hx hxr hl' => ?_, h.locNew, h.hB⟩
  · rcases set_get hb hc with ⟨rfl, e⟩ | ⟨hn, hc⟩
    · injection e with e1 e2; exact (own_ro hr e1.symm).elim
    · obtain ⟨v', e1, e2⟩ := h.rel.ro c ds hc i v hv
      refine ⟨v', ?_, e2.ext he⟩
      rw [World.cell?_of_block (w := w) (setCells_far' us _)]
      · exact e1
      · rw [add_block]
        have := h.rel.rob c ds hc (Nat.lt_of_le_of_lt (Nat.zero_le _) (List.getElem?_eq_some_iff.1 hv).1)
        omega
  · rcases set_get hb hc with ⟨rfl, e⟩ | ⟨hn, hc⟩
    · injection e with e1 e2; exact (own_ro hr e1.symm).elim
    · exact h.rel.rob c ds hc hp
  · rcases set_get hb hx with ⟨rfl, rfl⟩ | ⟨hn, hx⟩
    · refine ⟨g, setL arr' off us, hg, hBg, own_setCells us ho, hl.ext he, by rw [setL_length]; exact hle, fun hf => by rw [setL_length, q3 hf]; exact (hfx hf).symm, fun z hz => by rw [setL_length]; exact q4 z hz⟩
    · obtain ⟨g2, ar, e, r1, ho2, r2, r3⟩ := h.rel.own c x hx hxr
      refine ⟨g2, ar, e, r1, own_far ho2 (setCells_far' us fun e2 => hn (h.rel.inj c b x k hx hb hxr hr (by rw [e, hg]; exact e2))), r2.ext he, r3⟩
  · have back : ∀ (c : Nat) (x : Blk), (M.set b ⟨k.kind, cs⟩)[c]? = some x → x.kind.Own → ∃ y : Blk, M[c]? = some y ∧ y.kind.Own := fun c x hx hxr => by
      rcases set_get hb hx with ⟨rfl, rfl⟩ | ⟨hn, hx⟩
      · exact ⟨k, hb, hr⟩
      · exact ⟨x, hx, hxr⟩
    obtain ⟨y, hy, hyr⟩ := back c x hx hxr
    obtain ⟨y', hy', hyr'⟩ := back c' x' hx' hxr'
    exact h.rel.inj c c' y y' hy hy' hyr hyr' e
  · rcases set_get hb hx with ⟨rfl, rfl⟩ | ⟨hn, hx⟩
    · exact h1
    · exact h.rel.one c x hx
  · rcases set_get hb hc with ⟨rfl, e⟩ | ⟨hn, hc⟩
    · injection e with e1 e2; exact (own_op0 hr e1.symm).elim
    · exact h.rel.hole c es hc
  · refine LRel.keep (LRel.ext h.lrel he fun t ds c x ht hx hxr => ?_) fun t ds ht => setCells_far' us fun e => h.lrel.apart t ds b k ht hb hr (by rw [hg]; exact e.symm)
    rcases set_get hb hx with ⟨rfl, rfl⟩ | ⟨hn, hx⟩
    · exact h.lrel.apart t ds c k ht hb hr
    · exact h.lrel.apart t ds c x ht hx hxr
  · rcases hk3 with hk3 | hk3
    · rw [hq]; exact hk3
    · simp only at hk3; omega
  · rcases set_get hb hx with ⟨rfl, rfl⟩ | ⟨hn, hx⟩
    · exact h.k3 c k hb hr hl'
    · exact h.k3 c x hx hxr hl'
theorem MI.moved (h : MI B lo w0 m0 M0 m ml M loc w) {b z z0 : Nat} {ds cs : List Value} (hb : M[b]? = some ⟨.op z0, ds⟩) (hz0 : z0 = z ∨ z0 = 0) (hz : 0 < z) (hlo : lo ≤ b) (hlen : ds.length < cs.length) (arr : List Value) (t : TypeId)
    (hl : LR m M cs (arr.take cs.length)) (hle : cs.length ≤ arr.length) (h1 : ∀ v ∈ cs, v.oneCell' = true) :
    Ext lo m M (m.put b ⟨w.heap.size, 0, none⟩ arr.length) (M.set b ⟨.op z, cs⟩) ∧
    MI B lo w0 m0 M0 (m.put b ⟨w.heap.size, 0, none⟩ arr.length) ml (M.set b ⟨.op z, cs⟩) loc (w.alloc (.cells ⟨arr⟩ t)) := by
  have hbl := (List.getElem?_eq_some_iff.1 hb).1
  have hold : ∀ c, c ≠ b → (m.put b ⟨w.heap.size, 0, none⟩ arr.length).at_ c = m.at_ c := fun c hc => by simp [Mp.put, hc]
  have holds : ∀ c, c ≠ b → (m.put b ⟨w.heap.size, 0, none⟩ arr.length).sz c = m.sz c := fun c hc => by simp [Mp.put, hc]
  have hnew : (m.put b ⟨w.heap.size, 0, none⟩ arr.length).at_ b = ⟨w.heap.size, 0, none⟩ := by simp [Mp.put]
  have hB : B ≤ w.heap.size := Nat.le_trans h.hB h.fr.size
  have he : Ext lo m M (m.put b ⟨w.heap.size, 0, none⟩ arr.length) (M.set b ⟨.op z, cs⟩) := by
    refine ⟨by simp, fun c x hc => ?_, fun c h1 h2 => by rw [List.getElem?_set_ne (by omega)]⟩
    by_cases hcb : b = c
    · subst hcb
      rw [hb] at hc; injection hc with hc; subst hc
      refine ⟨⟨.op z, cs⟩, by rw [List.getElem?_set_self hbl], ?_, Nat.le_of_lt hlen, fun e => by simp only at e; omega, fun e => absurd rfl (e z0), fun e => by cases e⟩
      rcases hz0 with rfl | rfl
      · exact .inl rfl
      · exact .inr ⟨rfl, ⟨z, rfl⟩, hlen⟩
    · exact ⟨x, by rw [List.getElem?_set_ne hcb]; exact hc, .inl rfl, Nat.le_refl _, fun _ => ⟨hold c (Ne.symm hcb), holds c (Ne.symm hcb)⟩, fun _ => rfl, fun _ => rfl⟩
  refine ⟨he, ⟨⟨fun c es hc i v hv => ?_, fun c es hc hp => ?_, fun c x hx hxr => ?_, fun c c' x x' hx hx' hxr hxr' e => ?_, fun c x hx => ?_, fun c es hc => ?_⟩, ?_, h.ext.trans he, h.fr.trans (fr_alloc (S := fun _ => False) _ _) (fun g hg _ => hg.elim), fun c x hx hxr hl' => ?_, h.locNew, h.hB⟩⟩
  · rcases set_get hb hc with ⟨rfl, e⟩ | ⟨hn, hc⟩
    · cases e
    · obtain ⟨v', e1, e2⟩ := h.rel.ro c es hc i v hv
      refine ⟨v', ?_, e2.ext he⟩
      rw [hold c hn, World.cell?_alloc_lt _ _ _ (World.block_lt_of_cell? _ _ e1)]
      exact e1
  · rcases set_get hb hc with ⟨rfl, e⟩ | ⟨hn, hc⟩
    · cases e
    · rw [hold c hn]; exact h.rel.rob c es hc hp
  · rcases set_get hb hx with ⟨rfl, rfl⟩ | ⟨hn, hx⟩
    · refine ⟨w.heap.size, arr, hnew, hB, own_alloc _ _ _, hl.ext he, hle, fun e => (by cases e), fun z' hz' => ⟨by simp [Mp.put], ?_⟩⟩
      cases hz'
      exact hz
    · obtain ⟨g2, ar, e, r1, ho2, r2, r3, r4, r5⟩ := h.rel.own c x hx hxr
      exact ⟨g2, ar, by rw [hold c hn]; exact e, r1, own_far ho2 (Below.heap_alloc _ _ _ ho2.lt), r2.ext he, r3, r4, fun z' hz' => by rw [holds c hn]; exact r5 z' hz'⟩
  · rcases set_get hb hx with ⟨hn, hy⟩ | ⟨hn, hy⟩ <;> rcases set_get hb hx' with ⟨hn', hy'⟩ | ⟨hn', hy'⟩
    · rw [hn, hn']
    · rw [hn, hnew, hold c' hn'] at e
      have := h.rel.lt hy' hxr'
      rw [← e] at this
      exact absurd this (Nat.lt_irrefl _)
    · rw [hold c hn, hn', hnew] at e
      have := h.rel.lt hy hxr
      rw [e] at this
      exact absurd this (Nat.lt_irrefl _)
    · rw [hold c hn, hold c' hn'] at e
      exact h.rel.inj c c' x x' hy hy' hxr hxr' e
  · rcases set_get hb hx with ⟨rfl, rfl⟩ | ⟨hn, hx⟩
    · exact h1
    · exact h.rel.one c x hx
  · rcases set_get hb hc with ⟨rfl, e⟩ | ⟨hn, hc⟩
    · injection e with e1 e2; injection e1 with e1; omega
    · exact h.rel.hole c es hc
  · refine LRel.keep (LRel.ext h.lrel he fun u es c x ht hx hxr => ?_) fun u es ht => Below.heap_alloc _ _ _ (h.lrel.lt ht)
    rcases set_get hb hx with ⟨rfl, rfl⟩ | ⟨hn, hx⟩
    · rw [hnew]; exact Nat.ne_of_gt (h.lrel.lt ht)
    · rw [hold c hn]; exact h.lrel.apart u es c x ht hx hxr
  · rcases set_get hb hx with ⟨rfl, rfl⟩ | ⟨hn, hx⟩
    · rw [hnew]; exact .inr h.fr.size
    · rw [hold c hn]; exact h.k3 c x hx hxr hl'
theorem MI.beside (h : MI B lo w0 m0 M0 m ml M loc w) (o : Obj) : MI B lo w0 m0 M0 m ml M loc (w.alloc o) := by
  have hB : B ≤ w.heap.size := Nat.le_trans h.hB h.fr.size
  exact ⟨h.rel.keep (fun g hg => Below.heap_alloc _ _ _ (Nat.lt_of_lt_of_le hg hB)) (fun b k hb hr => Below.heap_alloc _ _ _ (h.rel.lt hb hr)), h.lrel.keep fun t cs ht => Below.heap_alloc _ _ _ (h.lrel.lt ht),
    h.ext, h.fr.trans (fr_alloc (S := fun _ => False) _ _) (fun g hg _ => hg.elim), h.k3, h.locNew, h.hB⟩
theorem MI.keepFree (h : MI B lo w0 m0 M0 m ml M loc w) : MI B lo w0 m0 M0 m ml (M ++ [⟨.op 0, []⟩]) loc w ∧ Ext lo m M m (M ++ [⟨.op 0, []⟩]) := by
  have he : Ext lo m M m (M ++ [⟨.op 0, []⟩]) := by
    refine ⟨by simp, fun b x hb => ⟨x, ?_, .inl rfl, Nat.le_refl _, fun _ => ⟨rfl, rfl⟩, fun _ => rfl, fun _ => rfl⟩, fun b _ hb => ?_⟩
    · rw [List.getElem?_append_left (List.getElem?_eq_some_iff.1 hb).1]; exact hb
    · rw [List.getElem?_append_left hb]
  have old : ∀ {b : Nat} {x : Blk}, (M ++ [⟨.op 0, []⟩])[b]? = some x → x.kind.Own → M[b]? = some x := fun hx hr => by
    rcases push_get hx with ⟨_, hx⟩ | ⟨_, rfl⟩
    · exact hx
    · exact (own_op0 hr rfl).elim
  refine ⟨⟨⟨fun b cs hc i v hv => ?_, fun b cs hc hp => ?_, fun b x hx hr => ?_, fun b b' x x' hx hx' hr hr' e => h.rel.inj b b' x x' (old hx hr) (old hx' hr') hr hr' e, fun b x hx => ?_, fun b cs hc => ?_⟩, LRel.ext h.lrel he fun t cs b x ht hx hr => h.lrel.apart t cs b x ht (old hx hr) hr, h.ext.trans he, h.fr, fun b x hx hr hlo => h.k3 b x (old hx hr) hr hlo, h.locNew, h.hB⟩, he⟩
  · rcases push_get hc with ⟨hb, hc⟩ | ⟨_, e⟩
    · obtain ⟨v', e1, e2⟩ := h.rel.ro b cs hc i v hv
      exact ⟨v', e1, e2.ext he⟩
    · cases e
  · rcases push_get hc with ⟨hb, hc⟩ | ⟨_, e⟩
    · exact h.rel.rob b cs hc hp
    · cases e
  · obtain ⟨g, ar, e, r1, ho, r2, r3⟩ := h.rel.own b x (old hx hr) hr
    exact ⟨g, ar, e, r1, ho, r2.ext he, r3⟩
  · rcases push_get hx with ⟨hb, hx⟩ | ⟨_, rfl⟩
    · exact h.rel.one b x hx
    · intro v hv; cases hv
  · rcases push_get hc with ⟨hb, hc⟩ | ⟨_, e⟩
    · exact h.rel.hole b cs hc
    · injection e
theorem MI.drawn (h : MI B lo w0 m0 M0 m ml M loc w) (n : Nat) : MI B lo w0 m0 M0 m ml M loc { w with drawn := n } :=
  ⟨⟨h.rel.ro, h.rel.rob, h.rel.own, h.rel.inj, h.rel.one, h.rel.hole⟩, ⟨h.lrel.box, h.lrel.apart, h.lrel.inj, h.lrel.one⟩, h.ext, ⟨h.fr.os, h.fr.tape, h.fr.output, h.fr.size, h.fr.block⟩, h.k3, h.locNew, h.hB⟩
end
end Go.Zt
