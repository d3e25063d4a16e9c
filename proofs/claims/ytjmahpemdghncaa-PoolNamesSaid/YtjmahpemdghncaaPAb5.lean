/- What the law PoolNames needs of the text Ab5. -/
import Derived.Test.YtjmahpemdghncaaPAb4
set_option linter.unusedVariables false
set_option linter.unusedSimpArgs false
namespace Go.Zt
open Go.RowKit
def OpWp (P : Program) (s : Sem Next) (w : World) (K : Value → World → Prop) : Prop :=
  match s.run P w with
  | .ok (.value v) w' => K v w'
  | .ok .skip w' => K undef w'
  | .ok (.enter f args) w' => Calls P f args w' fun e w'' => ∃ v, e = .returned v ∧ K v w''
  | _ => False
theorem OpWp.value {P : Program} {s : Sem Value} {w w' : World} {K : Value → World → Prop} {v : Value} (h : s.run P w = .ok v w') (hK : K v w') : OpWp P (do pure (Next.value (← s))) w K := by
  unfold OpWp
  simp [h, hK]
theorem OpWp.skip {P : Program} {s : Sem Unit} {w w' : World} {K : Value → World → Prop} {v : Unit} (h : s.run P w = .ok v w') (hK : K undef w') : OpWp P (do s; pure Next.skip) w K := by
  unfold OpWp
  simp [h, hK]
theorem OpWp.mono {P : Program} {s : Sem Next} {w : World} {K K' : Value → World → Prop} (h : OpWp P s w K) (hk : ∀ v w', K v w' → K' v w') : OpWp P s w K' := by
  unfold OpWp at *
  split <;> simp_all
  · exact Calls.mono h fun e w' ⟨v, e1, e2⟩ => ⟨v, e1, hk _ _ e2⟩
def CallPost (B lo : Nat) (m : Mp) (M : Mem) (w : World) (r : Value) (M' : Mem) (e : Ending) (w' : World) : Prop :=
  ∃ m' cr, e = .returned cr ∧ VR m' M' r cr ∧ Rel B m' M' w' ∧ Ext lo m M m' M' ∧ Fr (OwnS lo m M) w w' ∧
    ∀ b k, M'[b]? = some k → k.kind.Own → lo ≤ b → OwnS lo m M (m'.at_ b).block ∨ w.heap.size ≤ (m'.at_ b).block
def CallsOk (P : Program) (call : Nat → FuncId → List Value → Mem → Option (Value × Mem)) : Prop :=
  ∀ lo f args M r M', call lo f args M = some (r, M') → lo ≤ M.length → ∀ B m w (cargs : List Value), Rel B m M w → B ≤ w.heap.size → LR m M args cargs →
    (callFunc f ⟨cargs⟩).run P w = .ok (.enter f ⟨cargs⟩) w ∧ Calls P f ⟨cargs⟩ w (CallPost B lo m M w r M')
structure OpPost (B lo : Nat) (w0 : World) (m0 : Mp) (M0 : Mem) (m : Mp) (ml : Nat → Nat) (s : St) (e : EV) (s' : St) (cv : Value) (w' : World) (m' : Mp) (ml' : Nat → Nat) : Prop where
  mi : MI B lo w0 m0 M0 m' ml' s'.mem s'.loc w'
  er : ER m' s'.mem ml' e cv
  ext : Ext lo m s.mem m' s'.mem
  env : s'.env = s.env
  old : ∀ t, lk s.loc t ≠ none ∨ noRef t s.env = false → ml' t = ml t
theorem cellsL_eq (v : Value) : cellsL v = v.cells.toList := by cases v <;> rfl
theorem run_tsize {P : Program} {t : TypeId} {n : Nat} (h : tsize P t = some n) (w : World) : (sizeOf t).run P w = .ok n w := by
  unfold tsize at h
  obtain ⟨i, hi, rfl⟩ := Option.map_eq_some_iff.1 h
  simp [sizeOf, typeInfo, hi]
theorem zeroL_inv {P : Program} {t : TypeId} {cs : List Value} (h : zeroL P t = some cs) : ∃ i z, P.info? t = some i ∧ i.zero = some z ∧ cs = cellsL z ∧ cs.length = i.size ∧ allPlain cs = true := by
  unfold zeroL at h
  split at h
  · rename_i i hi
    split at h
    · rename_i z hz
      split at h
      · rename_i h1 h2
        injection h with h
        subst h
        exact ⟨i, z, hi, hz, rfl, Nat.eq_of_beq_eq_true h2, h1⟩
      · cases h
    · cases h
  · cases h
theorem run_zero {P : Program} {t : TypeId} {i : TypeInfo} {z : Value} (hi : P.info? t = some i) (hz : i.zero = some z) (w : World) : (zeroValue t).run P w = .ok z w := by simp [zeroValue, typeInfo, hi, hz]
theorem run_isAggB {P : Program} {t : TypeId} {d : TypeDesc} (h : P.underlying t = some d) (w : World) : (isAgg t).run P w = .ok (isAggB P t) w := by
  unfold isAgg isAggB
  simp only [Sem.run_bind, run_underlying h, Result.andThen_ok, h]
  cases d <;> rfl
theorem lay_under {P : Program} {d : Nat} {t : TypeId} {l : List CK} (h : lay P d t = some l) : ∃ u, P.underlying t = some u := by
  cases d with
  | zero => cases h
  | succ d =>
    unfold lay at h
    cases hu : P.underlying t with
    | none => rw [hu] at h; cases h
    | some u => exact ⟨u, rfl⟩
theorem plain_one {v : Value} (h : plainV v = true) : v.oneCell' = true := by
  unfold plainV at h
  split at h <;> first | rfl | cases h
theorem allPlain_one {l : List Value} (h : allPlain l = true) : ∀ v ∈ l, v.oneCell' = true := fun v hv => plain_one (allPlain_iff.1 h v hv)
theorem ck_inv {R : Type} {c : CK} {o : Option Value} {K : Value → Option R} {r : R} (h : ck c o K = some r) : ∃ v, o = some v ∧ v.oneCell' = true ∧ K v = some r := by
  cases o with
  | none => cases c <;> simp [ck, ob_eq] at h
  | some v =>
    cases c <;> simp only [ck, ob_eq, Option.bind_some] at h
    · cases v <;> simp [Value.int?] at h
      rename_i k k' n
      split at h
      · rename_i e; subst e; exact ⟨_, rfl, rfl, by simpa using h⟩
      · cases h
    · cases v <;> simp [Value.bool?] at h
      exact ⟨_, rfl, rfl, h⟩
    · cases v <;> simp [Value.flt?] at h
      rename_i k k' n
      split at h
      · rename_i e; subst e; exact ⟨_, rfl, rfl, by simpa using h⟩
      · cases h
    · cases v <;> simp [Value.slc?] at h
      exact ⟨_, rfl, rfl, h⟩
    · cases v <;> simp [Value.ptr?] at h
      exact ⟨_, rfl, rfl, h⟩
    · cases v <;> simp [Value.str?] at h
      exact ⟨_, rfl, rfl, h⟩
    · unfold Value.one? at h
      split at h
      · rename_i h1; exact ⟨v, rfl, h1, by simpa using h⟩
      · cases h
theorem getC_inv {R : Type} {g : Nat → Option Value} {l : List CK} : ∀ {i : Nat} {K : List Value → Option R} {r : R}, getC g l i K = some r →
    ∃ vs, vs.length = l.length ∧ (∀ j v, vs[j]? = some v → g (i + j) = some v) ∧ (∀ v ∈ vs, v.oneCell' = true) ∧ K vs = some r := by
  induction l with
  | nil => intro i K r h; exact ⟨[], rfl, (fun j v hv => by simp at hv), (fun v hv => nomatch hv), h⟩
  | cons c l ih =>
    intro i K r h
    simp only [getC] at h
    obtain ⟨v, hv, h1, h⟩ := ck_inv h
    obtain ⟨vs, h2, h3, h4, h5⟩ := ih h
    refine ⟨v :: vs, by simp [h2], fun j u hu => ?_, fun u hu => ?_, h5⟩
    · cases j with
      | zero => simp at hu; subst hu; simpa using hv
      | succ j => rw [show i + (j + 1) = i + 1 + j by omega]; exact h3 j u (by simpa using hu)
    · rcases List.mem_cons.1 hu with rfl | hu
      · exact h1
      · exact h4 u hu
theorem getT_inv {R : Type} {P : Program} {t : TypeId} {g : Nat → Option Value} {K : Value → Option R} {r : R} (h : getT P t g K = some r) :
    (∃ u, P.underlying t = some u) ∧ ((isAggB P t = true ∧ ∃ vs, tsize P t = some vs.length ∧ (∀ j v, vs[j]? = some v → g j = some v) ∧ (∀ v ∈ vs, v.oneCell' = true) ∧ K (.agg ⟨vs⟩) = some r) ∨
      (isAggB P t = false ∧ ∃ v, g 0 = some v ∧ v.oneCell' = true ∧ K v = some r)) := by
  unfold getT at h
  split at h
  · rename_i ha
    split at h
    · rename_i l hl
      split at h
      · rename_i n hn
        split at h
        · rename_i hb
          obtain ⟨vs, h1, h2, h3, h4⟩ := getC_inv h
          refine ⟨lay_under hl, .inl ⟨ha, vs, by rw [hn, h1, Nat.eq_of_beq_eq_true hb], fun j v hv => by simpa using h2 j v hv, h3, h4⟩⟩
        · cases h
      · cases h
    · cases h
  · rename_i ha
    split at h
    · rename_i c hl
      obtain ⟨v, h1, h2, h3⟩ := ck_inv h
      exact ⟨lay_under hl, .inr ⟨ha, v, h1, h2, h3⟩⟩
    · cases h
section
variable {B lo : Nat} {w0 : World} {m0 : Mp} {M0 : Mem} {m : Mp} {ml : Nat → Nat} {M : Mem} {loc : List (Nat × List Value)} {w : World} {P : Program}
theorem run_getT {R : Type} {t : TypeId} {g : Nat → Option Value} {K : Value → Option R} {r : R} (h : getT P t g K = some r) (a : Addr)
    (hg : ∀ i v, g i = some v → ∃ cv, w.cell? (a.add i) = some cv ∧ VR m M v cv) : ∃ v cv, K v = some r ∧ VR m M v cv ∧ (loadVar t a).run P w = .ok cv w := by
  obtain ⟨⟨u, hu⟩, h | h⟩ := getT_inv h
  · obtain ⟨ha, vs, h1, h2, h3, h4⟩ := h
    have key : ∀ i, i < vs.length → ∃ cv, w.cell? (a.add i) = some cv ∧ ∀ v, vs[i]? = some v → VR m M v cv := fun i hi => by
      obtain ⟨cv, e1, e2⟩ := hg i vs[i] (h2 i _ (List.getElem?_eq_getElem hi))
      exact ⟨cv, e1, fun v hv => by rw [List.getElem?_eq_getElem hi] at hv; injection hv with hv; subst hv; exact e2⟩
    have hrun := run_loadCells (P := P) w a vs.length (fun i => (w.cell? (a.add i)).getD undef) (fun j hj => by
      obtain ⟨cv, e1, _⟩ := key j hj
      simp [e1])
    refine ⟨_, .agg ((List.range vs.length).map fun i => (w.cell? (a.add i)).getD undef).toArray, h4, VR.agg_of ⟨by simp, fun i x y hx hy => ?_⟩, ?_⟩
    · have hi : i < vs.length := (List.getElem?_eq_some_iff.1 hx).1
      obtain ⟨cv, e1, e2⟩ := key i hi
      simp [List.getElem?_map, List.getElem?_range, hi, e1] at hy
      subst hy
      exact e2 x hx
    · simp [loadVar, run_isAggB hu, ha, run_tsize h1, hrun]
  · obtain ⟨ha, v, h1, h2, h3⟩ := h
    obtain ⟨cv, e1, e2⟩ := hg 0 v h1
    rw [add_zero] at e1
    exact ⟨v, cv, h3, e2, by simp [loadVar, run_isAggB hu, ha, e1]⟩
theorem run_part {R : Type} {t : TypeId} {cs : List Value} {ds : Array Value} (hl : LR m M cs ds.toList) {off : Nat} {K : Value → Option R} {r : R} (h : getT P t (fun j => cs[off + j]?) K = some r) :
    ∃ v cv, K v = some r ∧ VR m M v cv ∧ (part t ds off).run P w = .ok cv w := by
  obtain ⟨⟨u, hu⟩, h | h⟩ := getT_inv h
  · obtain ⟨ha, vs, h1, h2, h3, h4⟩ := h
    have hcs : vs = (cs.drop off).take vs.length := by
      apply List.ext_getElem?
      intro i
      rw [List.getElem?_take, List.getElem?_drop]
      split
      · rename_i hi
        rw [h2 i vs[i] (List.getElem?_eq_getElem hi), List.getElem?_eq_getElem hi]
      · rename_i hi
        rw [List.getElem?_eq_none (by omega)]
    refine ⟨_, .agg (ds.extract off (off + vs.length)), h4, ?_, by simp [part, run_isAggB hu, ha, run_tsize h1]⟩
    have : (ds.extract off (off + vs.length)) = ⟨(ds.toList.drop off).take vs.length⟩ := by
      apply Array.ext'
      simp [List.extract_eq_drop_take']
    rw [this]
    refine VR.agg_of ?_
    have h5 := (hl.drop off).take vs.length
    rw [← hcs] at h5
    exact h5
  · obtain ⟨ha, v, h1, h2, h3⟩ := h
    obtain ⟨cv, e1, e2⟩ := hl.get (by simpa using h1)
    refine ⟨v, cv, h3, e2, ?_⟩
    have : ds[off]? = some cv := by rw [← Array.getElem?_toList]; simpa using e1
    simp [part, run_isAggB hu, ha, this]
theorem st_inv {lo : Nat} {a : Addr} {vs : List Value} {M' : Mem} (hh : ∀ (b : Nat) (cs : List Value), M[b]? = some (⟨.op 0, cs⟩ : Blk) → cs = []) (hne : vs ≠ []) (h : M.st lo a vs = some M') : ∃ k, M[a.block]? = some k ∧ k.kind.Own ∧ lo ≤ a.block ∧ a.off + vs.length ≤ k.cells.length ∧ M' = M.set a.block ⟨k.kind, setL k.cells a.off vs⟩ ∧
    ∀ c, AR m M a c → c = (m.at_ a.block).add a.off := by
  unfold Mem.st at h
  split at h
  · rename_i cs hk
    split at h
    · rename_i hc
      injection h with h
      refine ⟨_, hk, by simp, hc.2.1, hc.2.2, h.symm, fun c ⟨k', hk', hc'⟩ => ?_⟩
      rw [hk] at hk'; injection hk' with hk'; subst hk'
      rw [hc.1] at hc'; exact hc'
    · cases h
  · rename_i e cs hk
    split at h
    · rename_i hc
      injection h with h
      have hown : BK.Own (.op e) := by
        show e ≠ 0
        rintro rfl
        have := hh _ _ hk
        subst this
        have h2 := hc.2.2
        have : vs.length ≠ 0 := fun e => hne (List.eq_nil_of_length_eq_zero e)
        simp only [List.length_nil] at h2
        omega
      refine ⟨_, hk, hown, hc.2.1, hc.2.2, h.symm, fun c ⟨k', hk', hc'⟩ => ?_⟩
      rw [hk] at hk'; injection hk' with hk'; subst hk'
      rw [hc.1] at hc'; exact hc'.2 rfl
    · cases h
  · cases h
theorem setL_take (arr : List Value) (off : Nat) (us : List Value) (n : Nat) (h : off + us.length ≤ n) : (setL arr off us).take n = setL (arr.take n) off us := by
  induction us generalizing arr off with
  | nil => rfl
  | cons u us ih =>
    simp only [setL]
    rw [ih _ _ (by simp at h; omega), List.take_set]
theorem MI.st (h : MI B lo w0 m0 M0 m ml M loc w) {lo' : Nat} (hlo : lo ≤ lo' ∨ M.length ≤ lo') {a c : Addr} (ha : AR m M a c) {vs us : List Value} {M' : Mem} (hst : M.st lo' a vs = some M') (hne : vs ≠ []) (hl : LR m M vs us) (h1 : ∀ v ∈ vs, v.oneCell' = true) :
    ∃ w', (storeCells c us).run P w = .ok () w' ∧ MI B lo w0 m0 M0 m ml M' loc w' ∧ Ext lo m M m M' := by
  obtain ⟨k, hk, hr, hl', hoff, rfl, hc⟩ := st_inv (m := m) h.rel.hole hne hst
  have hblk := (List.getElem?_eq_some_iff.1 hk).1
  have hlo2 : lo ≤ a.block := by omega
  have he := ext_set lo m M (k' := ⟨k.kind, setL k.cells a.off vs⟩) hk hlo2 hr rfl (setL_length _ _ _)
  obtain ⟨g, arr, e, hB, ho, q1, q2, q3, q4⟩ := h.rel.own _ _ hk hr
  rw [hc c ha, e, add_new]
  refine ⟨_, run_storeOwn P ho a.off us (by rw [← hl.1]; omega) (hl.one h1), ?_, he⟩
  refine h.setB hk hr hlo2 _ a.off us e ho he ?_ (by rw [setL_length]; exact q2) (fun _ => setL_length _ _ _) (fun v hv => ?_)
  · rw [setL_length, setL_take _ _ _ _ (by rw [← hl.1]; exact hoff)]
    exact q1.setL _ hl
  · rcases mem_setL _ _ _ hv with h' | h'
    · exact h.rel.one _ _ hk v h'
    · exact h1 v h'
theorem MI.stLoc (h : MI B lo w0 m0 M0 m ml M loc w) {t off : Nat} {cs : List Value} (ht : lk loc t = some cs) {vs us : List Value} (hoff : off + vs.length ≤ cs.length) (hl : LR m M vs us) (h1 : ∀ v ∈ vs, v.oneCell' = true) :
    ∃ w', (storeCells ⟨ml t, off, none⟩ us).run P w = .ok () w' ∧ MI B lo w0 m0 M0 m ml M (up loc t (setL cs off vs)) w' := by
  obtain ⟨arr, ho, r1, r2⟩ := h.lrel.box t cs ht
  exact ⟨_, run_storeOwn P ho off us (by rw [← hl.1, ← r1.1]; exact hoff) (hl.one h1), h.stL ht off vs us hl h1⟩
end
end Go.Zt
