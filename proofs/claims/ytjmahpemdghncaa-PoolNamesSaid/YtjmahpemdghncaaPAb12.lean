/- What the law PoolNames needs of the text Ab12. -/
import Derived.Test.YtjmahpemdghncaaPAb11
set_option linter.unusedVariables false
set_option linter.unusedSimpArgs false
namespace Go.Zt
open Go.RowKit
section
variable {C : Ctx} {B lo : Nat} {w0 : World} {m0 : Mp} {M0 : Mem} {m : Mp} {ml : Nat → Nat} {s s' : St} {w : World} {ρ : Operand → Value} {e : EV}
theorem run_fieldPlaces {P : Program} : ∀ {fs : List Field} {pl : List (Nat × Nat)} (w : World), fieldPlaces P fs = some pl → (fs.mapM fun f => (do pure (f.offset, ← sizeOf f.type) : Sem (Nat × Nat))).run P w = .ok pl w
  | [], pl, w, h => by simp [fieldPlaces] at h; subst h; rfl
  | f :: r, pl, w, h => by
    simp only [fieldPlaces] at h
    split at h
    · rename_i n l hn hl
      injection h with h; subst h
      rw [List.mapM_cons]
      simp only [Sem.run_bind, run_tsize hn, Result.andThen_ok, Sem.run_pure, run_fieldPlaces w hl]
    · cases h
theorem zero_cells {P : Program} {t : TypeId} {z : List Value} (h : zeroL P t = some z) (w : World) : ∃ z0 : Value, (zeroValue t).run P w = .ok z0 w ∧ z0.cells.toList = z ∧ allPlain z = true ∧ tsize P t = some z.length := by
  obtain ⟨i, z0, hi, hz, hc, hl, hp⟩ := zeroL_inv h
  exact ⟨z0, run_zero hi hz w, by rw [hc, cellsL_eq], hp, by simp [tsize, hi, hl]⟩
theorem buildStruct_sound (hs : Setup C B lo w0 m0 M0 m ml s w ρ) {t : TypeId} {ps : List (Nat × Operand)} {l : List (Nat × Value)} {fs : Array Field} {z cs : List Value} {pl : List (Nat × Nat)} (hu : C.P.underlying t = some (.struct fs))
    (hz : zeroL C.P t = some z) (hl : partsA s ps = some l) (hp : fieldPlaces C.P fs.toList = some pl) (hc : fillL (fun i => pl[i]?) z l = some cs) :
    ∃ cv, (Instr.build t (ps.toArray.map fun (i, x) => (i, ρ x))).run C.P w = .ok cv w ∧ VR m s.mem (.agg ⟨cs⟩) cv := by
  obtain ⟨z0, h1, h2, h3, _⟩ := zero_cells hz w
  obtain ⟨p1, p2⟩ := parts_sound hs hl
  obtain ⟨cells', f1, f2⟩ := fill_sound (cells := z0.cells) p1 p2 (by rw [h2]; exact LR.plain h3) hc
  have hm : (fs.mapM fun f => (do pure (f.offset, ← sizeOf f.type) : Sem (Nat × Nat))).run C.P w = .ok pl.toArray w := by
    rw [Array.mapM_eq_mapM_toList, map_eq_pure_bind, Sem.run_bind, run_fieldPlaces w hp]
    rfl
  refine ⟨.agg cells', ?_, by simpa using VR.agg_of f2⟩
  simp only [Instr.build, Sem.run_bind, h1, Result.andThen_ok, run_underlying hu, hm]
  simp [f1]
theorem buildArr_sound (hs : Setup C B lo w0 m0 M0 m ml s w ρ) {t el : TypeId} {ps : List (Nat × Operand)} {l : List (Nat × Value)} {k n : Nat} {z cs : List Value} (hu : C.P.underlying t = some (.array k el))
    (hz : zeroL C.P t = some z) (hl : partsA s ps = some l) (hn : tsize C.P el = some n) (hc : fillL (fun i => some (i * n, n)) z l = some cs) :
    ∃ cv, (Instr.build t (ps.toArray.map fun (i, x) => (i, ρ x))).run C.P w = .ok cv w ∧ VR m s.mem (.agg ⟨cs⟩) cv := by
  obtain ⟨z0, h1, h2, h3, _⟩ := zero_cells hz w
  obtain ⟨p1, p2⟩ := parts_sound hs hl
  obtain ⟨cells', f1, f2⟩ := fill_sound (cells := z0.cells) p1 p2 (by rw [h2]; exact LR.plain h3) hc
  refine ⟨.agg cells', ?_, by simpa using VR.agg_of f2⟩
  simp only [Instr.build, Sem.run_bind, h1, Result.andThen_ok, run_underlying hu, run_tsize hn]
  simp [f1]
theorem rowLit_sound (hs : Setup C B lo w0 m0 M0 m ml s w ρ) {t el : TypeId} {len n : Nat} {ps : List (Nat × Operand)} {l : List (Nat × Value)} {z cs : List Value} (hu : C.P.underlying t = some (.slice el))
    (hz : zeroL C.P el = some z) (hl : partsA s ps = some l) (hn : tsize C.P el = some (n + 1)) (hlen : len * (n + 1) ≤ 16777216) (hc : fillL (fun i => some (i * (n + 1), n + 1)) (zerosL z len) l = some cs) :
    ∃ arr : Array Value, (Instr.buildSlice t len (ps.toArray.map fun (i, x) => (i, ρ x))).run C.P w = .ok (.slice (some ⟨w.heap.size, 0, none⟩) len len) (w.alloc (.cells arr el)) ∧ LR m s.mem cs arr.toList := by
  obtain ⟨z0, h1, h2, h3, h4⟩ := zero_cells hz w
  rw [hn] at h4; injection h4 with h4
  obtain ⟨p1, p2⟩ := parts_sound hs hl
  have hzs : z0.cells.size = n + 1 := by rw [← Array.length_toList, h2, ← h4]
  have hpl : allPlain (zerosL z len) = true := allPlain_iff.2 fun v hv => allPlain_iff.1 h3 v (mem_zerosL hv)
  have h24 : ¬ (len * (n + 1) > 2 ^ 24) := by simpa using hlen
  by_cases h0 : len * (n + 1) = 0
  · have h0' : len = 0 := (Nat.mul_eq_zero.1 h0).resolve_right (by omega)
    subst h0'
    obtain ⟨cells', f1, f2⟩ := fill_sound (cells := (Array.range (0 * (n + 1))).map ((#[] : Array Value)[· % (#[] : Array Value).size]!)) p1 p2 (by
      have : ((Array.range (0 * (n + 1))).map ((#[] : Array Value)[· % (#[] : Array Value).size]!)).toList = zerosL z 0 := by simp [zerosL]
      rw [this]; exact LR.plain hpl) hc
    refine ⟨cells', ?_, f2⟩
    simp only [Instr.buildSlice, Sem.run_bind, run_underlying hu, Result.andThen_ok, run_tsize hn, if_neg h24, Sem.run_pure, if_pos h0]
    simp only [Array.toList_map]
    rw [f1]
    rfl
  · obtain ⟨cells', f1, f2⟩ := fill_sound (cells := (Array.range (len * (n + 1))).map (z0.cells[· % z0.cells.size]!)) p1 p2 (by
      have : ((Array.range (len * (n + 1))).map (z0.cells[· % z0.cells.size]!)).toList = zerosL z len := by rw [← hzs, zeroArr _ _ (by omega), h2]
      rw [this]; exact LR.plain hpl) hc
    refine ⟨cells', ?_, f2⟩
    simp only [Instr.buildSlice, Sem.run_bind, run_underlying hu, Result.andThen_ok, run_tsize hn, if_neg h24, Sem.run_pure, if_neg h0, h1]
    simp only [Array.toList_map]
    rw [f1]
    rfl
theorem max_sound {P : Program} {m : Mp} {M : Mem} {k : IntKind} : ∀ {l : List Value} {cl : List Value} {x : Int} {R : Type} {K : Value → Option R} {r : R}, LR m M l cl → maxL k x l K = some r → ∀ w, ∃ y, K (.int k y) = some r ∧ (cl.foldlM Builtin.max2 (.int k x)).run P w = .ok (.int k y) w
  | [], cl, x, R, K, r, hl, h, w => by obtain rfl := hl.inv_nil; exact ⟨x, h, rfl⟩
  | v :: l, cl, x, R, K, r, hl, h, w => by
    obtain ⟨c, cl', rfl, hv, hl'⟩ := hl.inv_cons
    cases v <;> simp only [maxL] at h <;> first | (cases h; done) | skip
    rename_i k' y
    rw [pb_eq] at h
    split at h
    · rename_i hk; subst hk
      obtain ⟨y', h1, h2⟩ := max_sound hl' h w
      refine ⟨y', h1, ?_⟩
      rw [hv.int_inv]
      simp only [List.foldlM_cons, Sem.run_bind, Builtin.max2, Sem.run_pure, Result.andThen_ok]
      exact h2
    · cases h
theorem min_sound {P : Program} {m : Mp} {M : Mem} {k : IntKind} : ∀ {l : List Value} {cl : List Value} {x : Int} {R : Type} {K : Value → Option R} {r : R}, LR m M l cl → minL k x l K = some r → ∀ w, ∃ y, K (.int k y) = some r ∧ (cl.foldlM Builtin.min2 (.int k x)).run P w = .ok (.int k y) w
  | [], cl, x, R, K, r, hl, h, w => by obtain rfl := hl.inv_nil; exact ⟨x, h, rfl⟩
  | v :: l, cl, x, R, K, r, hl, h, w => by
    obtain ⟨c, cl', rfl, hv, hl'⟩ := hl.inv_cons
    cases v <;> simp only [minL] at h <;> first | (cases h; done) | skip
    rename_i k' y
    rw [pb_eq] at h
    split at h
    · rename_i hk; subst hk
      obtain ⟨y', h1, h2⟩ := min_sound hl' h w
      refine ⟨y', h1, ?_⟩
      rw [hv.int_inv]
      simp only [List.foldlM_cons, Sem.run_bind, Builtin.min2, Sem.run_pure, Result.andThen_ok]
      exact h2
    · cases h
theorem len_sound (hs : Setup C B lo w0 m0 M0 m ml s w ρ) {tys : List TypeId} {ty : TypeId} {x : Operand} {R : Type} {K : Value → Option R} {r : R} (h : lenA C tys (opnd s x) K = some r) :
    ∃ v, K v = some r ∧ PureRun C.P m s.mem (Builtin.len_ ⟨tys⟩ ty #[ρ x]) w v := by
  unfold lenA at h
  split at h
  case h_2 => cases h
  rename_i t
  split at h
  · rename_i el A n c hu hx
    obtain ⟨A', k', hr, _⟩ := VR.slc_any (hs.rho x _ hx)
    exact ⟨_, h, PureRun.of (by rw [hr]; simp [Builtin.len_, run_underlying hu, goInt]) (.int _ _)⟩
  · rename_i n el ev hu hx
    exact ⟨_, h, PureRun.of (by simp [Builtin.len_, run_underlying hu, goInt]) (.int _ _)⟩
  · rename_i b hu hx
    have hr := VR.str_inv (hs.rho x _ hx)
    exact ⟨_, h, PureRun.of (by rw [hr]; simp [Builtin.len_, run_underlying hu, goInt]) (.int _ _)⟩
  · cases h
theorem getR_inv {R : Type} {P : Program} {t : TypeId} {o : Option Value} {K : Value → Option R} {r : R} (h : getR P t o K = some r) : ∃ v, o = some v ∧ K v = some r := by
  unfold getR at h
  split at h
  · split at h
    · rename_i l hl
      rw [ob_eq] at h
      cases o with
      | none => cases h
      | some v =>
        refine ⟨v, rfl, ?_⟩
        cases v <;> simp only [Option.bind_some, Value.agg?] at h <;> first | (cases h; done) | skip
        rename_i cs
        split at h
        · rename_i hlen
          simp only [Option.bind_some] at h
          obtain ⟨vs, h1, h2, h3, h4⟩ := getC_inv h
          have : vs = cs.toList := by
            apply List.ext_getElem?
            intro i
            by_cases hi : i < vs.length
            · have := h2 i _ (List.getElem?_eq_getElem hi)
              rw [List.getElem?_eq_getElem hi, ← this, Nat.zero_add]
            · rw [List.getElem?_eq_none (by omega), List.getElem?_eq_none (by omega)]
          subst this
          exact h4
        · cases h
    · cases h
  · split at h
    · obtain ⟨v, h1, _, h2⟩ := ck_inv h
      exact ⟨v, h1, h2⟩
    · cases h
theorem getRs_inv {R : Type} {P : Program} {vs : List Value} : ∀ {ts : List TypeId} {i : Nat} {K : List Value → Option R} {r : R}, getRs P vs ts i K = some r → ∃ l, l.length = ts.length ∧ (∀ (j : Nat) (v : Value), l[j]? = some v → vs[i + j]? = some v) ∧ K l = some r
  | [], i, K, r, h => ⟨[], rfl, (fun j v hv => by simp at hv), h⟩
  | t :: ts, i, K, r, h => by
    simp only [getRs] at h
    obtain ⟨v, hv, h⟩ := getR_inv h
    obtain ⟨l, h1, h2, h3⟩ := getRs_inv h
    refine ⟨v :: l, by simp [h1], fun j u hu => ?_, h3⟩
    cases j with
    | zero => simp at hu; subst hu; simpa using hv
    | succ j => rw [show i + (j + 1) = i + 1 + j by omega]; exact h2 j u (by simpa using hu)
theorem getRes_inv {R : Type} {P : Program} {ts : List TypeId} {v : Value} {K : Value → Option R} {r : R} (h : getRes P ts v K = some r) : K v = some r := by
  unfold getRes at h
  split at h
  · obtain ⟨v', h1, h2⟩ := getR_inv h
    injection h1 with h1; subst h1; exact h2
  · rw [ob_eq] at h
    cases v <;> simp only [Option.bind_none, Value.tup?] at h <;> first | (cases h; done) | skip
    rename_i cs
    split at h
    · rename_i hlen
      simp only [Option.bind_some] at h
      obtain ⟨vs, h1, h2, h4⟩ := getRs_inv h
      have : vs = cs.toList := by
        apply List.ext_getElem?
        intro i
        by_cases hi : i < vs.length
        · have := h2 i _ (List.getElem?_eq_getElem hi)
          rw [List.getElem?_eq_getElem hi, ← this, Nat.zero_add]
        · rw [List.getElem?_eq_none (by omega), List.getElem?_eq_none (by omega)]
      subst this
      exact h4
    · cases h
theorem MI.called {M : Mem} {loc : List (Nat × List Value)} (h : MI B lo w0 m0 M0 m ml M loc w) {lo' : Nat} (hlo : lo ≤ lo' ∨ M.length ≤ lo') (htop : lo' ≤ M.length) {m' : Mp} {M' : Mem} {w' : World} (hr : Rel B m' M' w') (he : Ext lo' m M m' M') (hf : Fr (OwnS lo' m M) w w')
    (hk : ∀ b k, M'[b]? = some k → k.kind.Own → lo' ≤ b → OwnS lo' m M (m'.at_ b).block ∨ w.heap.size ≤ (m'.at_ b).block) : MI B lo w0 m0 M0 m' ml M' loc w' := by
  have own : ∀ g, OwnS lo' m M g → OwnS lo m0 M0 g ∨ w0.heap.size ≤ g := fun g ⟨b, k, h1, h2, h3, h4⟩ => by
    have := (List.getElem?_eq_some_iff.1 h1).1
    rw [← h4]
    exact h.k3 b k h1 h2 (by omega)
  have low : ∀ b k, M'[b]? = some k → b < lo' → M[b]? = some k ∧ m'.at_ b = m.at_ b := fun b k hb hl => by
    have hb' : M[b]? = some k := by rw [← he.low b hl (by omega)]; exact hb
    obtain ⟨k', h1, _, _, h4, _⟩ := he.blk b k hb'
    rw [hb] at h1; injection h1 with h1; subst h1
    exact ⟨hb', (h4 rfl).1⟩
  have hl : LRel B m M ml loc w' := h.lrel.keep fun t cs ht => hf.block _ (h.lrel.lt ht) fun ⟨b, k, h1, h2, _, h4⟩ => h.lrel.apart t cs b k ht h1 h2 h4
  refine ⟨hr, hl.ext he fun t cs b k ht hb hkd => ?_, h.ext.trans (he.floor hlo), h.fr.trans hf fun g hg hlt => ?_, fun b k hb hkd hlb => ?_, h.locNew, h.hB⟩
  · by_cases hlb : lo' ≤ b
    · rcases hk b k hb hkd hlb with ⟨b', k', h1, h2, _, h4⟩ | h5
      · rw [← h4]; exact h.lrel.apart t cs b' k' ht h1 h2
      · have := h.lrel.lt ht; omega
    · obtain ⟨h1, h2⟩ := low b k hb (by omega)
      rw [h2]; exact h.lrel.apart t cs b k ht h1 hkd
  · rcases own g hg with h' | h'
    · exact h'
    · omega
  · by_cases hlb' : lo' ≤ b
    · rcases hk b k hb hkd hlb' with h5 | h5
      · exact own _ h5
      · exact .inr (Nat.le_trans h.fr.size h5)
    · obtain ⟨h1, h2⟩ := low b k hb (by omega)
      rw [h2]; exact h.k3 b k h1 hkd hlb
end
end Go.Zt
