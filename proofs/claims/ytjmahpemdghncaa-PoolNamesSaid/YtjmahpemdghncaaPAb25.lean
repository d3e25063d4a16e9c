/- What the law PoolNames needs of the text Ab25. -/
import Derived.Test.YtjmahpemdghncaaPAb24
import Derived.SizedLaws
import Derived.ChangeArms
import Derived.OpenShut
set_option linter.unusedVariables false
set_option linter.unusedSimpArgs false
namespace Go.Zt
open Go.RowKit
def Lays (P : Program) (M : Mem) : Nat → TypeId → List Value → Prop
  | 0, _, _ => False
  | d + 1, t, cs => match P.underlying t with
    | some .bool => ∃ b, cs = [.bool b]
    | some (.int k) => ∃ n, cs = [.int k n] ∧ (Lit.int k n).wf = true
    | some (.float k) => ∃ n, cs = [.float k n] ∧ (Lit.float k n).wf = true
    | some .string => ∃ s, cs = [.string s] ∧ s.size ≤ 140737488351232
    | some (.slice e) => cs = [.slice none 0 0] ∨ ∃ b n c l, cs = [.slice (some ⟨b, 0, none⟩) n c] ∧ n ≤ c ∧ n * P.bytesOf e ≤ 140737488351232 ∧ M[b]? = some ⟨.ro, l⟩ ∧ l.length = n * P.cellsOf e ∧
        ∀ i, i < n → Lays P M d e ((l.drop (i * P.cellsOf e)).take (P.cellsOf e))
    | some (.struct fs) => cs.length = P.cellsOf t ∧ ∀ f ∈ fs.toList, Lays P M d f.type ((cs.drop f.offset).take (P.cellsOf f.type))
    | some (.array n e) => cs.length = P.cellsOf t ∧ ∀ i, i < n → Lays P M d e ((cs.drop (i * P.cellsOf e)).take (P.cellsOf e))
    | _ => False
def fieldsOk (P : Program) (g : TypeId → Bool) : List Field → Nat → Nat → Bool
  | [], off, n => Nat.beq off n
  | f :: r, off, n => match Nat.beq f.offset off, g f.type with
    | true, true => fieldsOk P g r (off + P.cellsOf f.type) n
    | _, _ => false
def tyOk (P : Program) : Nat → TypeId → Bool
  | 0, _ => false
  | d + 1, t => match P.underlying t with
    | some .bool => true
    | some (.int _) => true
    | some (.float _) => true
    | some .string => true
    | some (.slice e) => tyOk P d e
    | some (.struct fs) => fieldsOk P (tyOk P d) fs.toList 0 (P.cellsOf t)
    | some (.array n e) => match Nat.beq (P.cellsOf t) (n * P.cellsOf e) with
      | true => tyOk P d e
      | false => false
    | _ => false
structure RR (W : World) (m : Mp) (M : Mem) : Prop where
  ro : ∀ (b : Nat) (k : Blk), M[b]? = some k → k.kind = .ro
  cell : ∀ (b : Nat) (k : Blk), M[b]? = some k → ∀ (i : Nat) (v : Value), k.cells[i]? = some v → v.oneCell' = true ∧ ∃ v', W.cell? ((m.at_ b).add i) = some v' ∧ VR m M v v'
theorem Lays.ext {P : Program} {m m' : Mp} {M M' : Mem} (he : Ext 0 m M m' M') : ∀ {d : Nat} {t : TypeId} {cs : List Value}, Lays P M d t cs → Lays P M' d t cs := by
  intro d
  induction d with
  | zero => intro t cs h; cases h
  | succ d ih =>
    intro t cs h
    unfold Lays at h ⊢
    split at h <;> rename_i hu <;> first | (cases h; done) | skip
    · exact h
    · exact h
    · exact h
    · exact h
    · rcases h with h | ⟨b, n, c, l, h1, h2, h3, h4, h5, h6⟩
      · exact .inl h
      · obtain ⟨k', e1, _, _, _, _, e2⟩ := he.blk b _ h4
        rw [e2 rfl] at e1
        exact .inr ⟨b, n, c, l, h1, h2, h3, e1, h5, fun i hi => ih (h6 i hi)⟩
    · exact ⟨h.1, fun f hf => ih (h.2 f hf)⟩
    · exact ⟨h.1, fun i hi => ih (h.2 i hi)⟩
def Fine {H : Type} (P : Program) (t : TypeId) (x : DataW H) : Prop := ∀ n ∈ x.weights P t, n ≤ reachBytes
structure Seg where
  t : TypeId
  off : Nat
  size : Nat
def tiled : List Seg → Nat → Nat → Prop
  | [], off, n => off = n
  | s :: r, off, n => s.off = off ∧ tiled r (off + s.size) n
theorem tiled_le : ∀ {l : List Seg} {off n : Nat}, tiled l off n → off ≤ n
  | [], _, _, h => Nat.le_of_eq h
  | s :: r, off, n, h => by have := tiled_le h.2; omega
section
variable {H : Type} {enc : TypeId × Value → H} {P : Program} {W : World}
def Tr (enc : TypeId × Value → H) (P : Program) (W : World) (t : TypeId) (cs : List Value) : Prop :=
  ∃ fuel x ps, DataW.trod enc P W 0 (fun _ => true) true fuel t cs = some (x, ps) ∧ Fine P t x
def LayGoal (enc : TypeId × Value → H) (P : Program) (W : World) (d : Nat) : Prop :=
  ∀ t cs, tyOk P d t = true → Tr enc P W t cs → ∀ m M, RR W m M → ∃ m' M' acs, RR W m' M' ∧ Ext 0 m M m' M' ∧ LR m' M' acs cs ∧ (∀ v ∈ acs, v.oneCell' = true) ∧ Lays P M' d t acs
theorem laySegs {d : Nat} (ih : LayGoal enc P W d) (cs : List Value) (n : Nat) (hn : cs.length = n) : ∀ (segs : List Seg) (off : Nat), tiled segs off n →
    (∀ s ∈ segs, tyOk P d s.t = true ∧ Tr enc P W s.t ((cs.drop s.off).take s.size)) → ∀ m M, RR W m M →
    ∃ m' M' acs, RR W m' M' ∧ Ext 0 m M m' M' ∧ LR m' M' acs (cs.drop off) ∧ (∀ v ∈ acs, v.oneCell' = true) ∧
      ∀ pre : List Value, pre.length = off → ∀ s ∈ segs, Lays P M' d s.t (((pre ++ acs).drop s.off).take s.size)
  | [], off, ht, _, m, M, hR => by
    obtain rfl : off = n := ht
    refine ⟨m, M, [], hR, Ext.refl _ _ _, ?_, by simp, fun pre _ s hs => by cases hs⟩
    rw [List.drop_eq_nil_of_le (by omega)]
    exact LR.nil
  | s :: r, off, ht, hs, m, M, hR => by
    obtain ⟨h1, h2⟩ := ht
    have hle := tiled_le h2
    obtain ⟨m1, M1, a, q1, q2, q3, q4, q5⟩ := ih _ _ (hs s (by simp)).1 (hs s (by simp)).2 m M hR
    obtain ⟨m2, M2, acs, g1, g2, g3, g4, g5⟩ := laySegs ih cs n hn r _ h2 (fun s' h' => hs s' (by simp [h'])) m1 M1 q1
    have hal : a.length = s.size := by
      rw [q3.1, List.length_take, List.length_drop, h1]; omega
    refine ⟨m2, M2, a ++ acs, g1, q2.trans g2, ?_, ?_, fun pre hpre s' hs' => ?_⟩
    · have := (q3.ext g2).append g3
      rw [h1] at this
      rwa [← List.drop_drop, List.take_append_drop] at this
    · intro v hv
      rcases List.mem_append.1 hv with hv | hv
      · exact q4 v hv
      · exact g4 v hv
    · rcases List.mem_cons.1 hs' with rfl | hs'
      · have : ((pre ++ (a ++ acs)).drop s'.off).take s'.size = a := by
          rw [h1, ← hpre, List.drop_left, ← hal, List.take_left]
        rw [this]
        exact q5.ext g2
      · have := g5 (pre ++ a) (by simp [hpre, hal]) s' hs'
        rwa [List.append_assoc] at this
theorem weights_all {e : TypeId} : ∀ {l : List (DataW H)} {j : Nat} {x : DataW H}, l[j]? = some x → ∀ n ∈ x.weights P e, n ∈ DataW.weightsAll P e l
  | y :: l, 0, x, h, n, hn => by
    simp at h; subst h
    simp [DataW.weightsAll, hn]
  | y :: l, j + 1, x, h, n, hn => by
    simp only [DataW.weightsAll, List.mem_append]
    exact .inr (weights_all (by simpa using h) n hn)
  | [], _, _, h, _, _ => by simp at h
theorem segs_tiled (e : TypeId) (z : Nat) : ∀ (n i : Nat), tiled ((List.range' i n).map fun i => ⟨e, i * z, z⟩) (i * z) ((i + n) * z)
  | 0, i => by simp [tiled]
  | n + 1, i => by
    rw [List.range'_succ, List.map_cons]
    refine ⟨rfl, ?_⟩
    have := segs_tiled e z n (i + 1)
    rw [Nat.add_mul i 1, Nat.one_mul] at this
    rwa [show i + (n + 1) = i + 1 + n by omega]
theorem fields_tiled {g : TypeId → Bool} : ∀ {fs : List Field} {off n : Nat}, fieldsOk P g fs off n = true → tiled (fs.map fun f => ⟨f.type, f.offset, P.cellsOf f.type⟩) off n ∧ ∀ f ∈ fs, g f.type = true
  | [], off, n, h => ⟨Nat.eq_of_beq_eq_true h, fun f hf => by cases hf⟩
  | f :: r, off, n, h => by
    unfold fieldsOk at h
    split at h
    · rename_i h1 h2
      obtain ⟨q1, q2⟩ := fields_tiled h
      refine ⟨⟨Nat.eq_of_beq_eq_true h1, q1⟩, fun f' hf => ?_⟩
      rcases List.mem_cons.1 hf with rfl | hf
      · exact h2
      · exact q2 f' hf
    · cases h
theorem RR.push {m : Mp} {M : Mem} (h : RR W m M) {a : Addr} {l acs : List Value} (hl : LR m M acs l) (h1 : ∀ v ∈ acs, v.oneCell' = true) (hc : ∀ (i : Nat) (v : Value), l[i]? = some v → W.cell? (a.add i) = some v) :
    ∃ m', RR W m' (M ++ [⟨.ro, acs⟩]) ∧ Ext 0 m M m' (M ++ [⟨.ro, acs⟩]) ∧ m'.at_ M.length = a := by
  have hE : Ext 0 m M ⟨fun b => if b = M.length then a else m.at_ b, m.sz⟩ (M ++ [⟨.ro, acs⟩]) := by
    refine ⟨by simp, fun b k hk => ?_, fun b hb => by omega⟩
    have hb := (List.getElem?_eq_some_iff.1 hk).1
    refine ⟨k, by rw [List.getElem?_append_left hb]; exact hk, .inl rfl, Nat.le_refl _, fun _ => ⟨?_, rfl⟩, fun _ => rfl, fun _ => rfl⟩
    show (if b = M.length then a else m.at_ b) = m.at_ b
    rw [if_neg (by omega)]
  refine ⟨⟨fun b => if b = M.length then a else m.at_ b, m.sz⟩, ⟨fun b k hk => ?_, fun b k hk i v hv => ?_⟩, hE, by simp⟩
  · by_cases hb : b < M.length
    · rw [List.getElem?_append_left hb] at hk; exact h.ro b k hk
    · rw [List.getElem?_append_right (by omega)] at hk
      obtain ⟨hi, rfl⟩ := List.getElem?_eq_some_iff.1 hk
      simp at hi
      simp [hi]
  · by_cases hb : b < M.length
    · rw [List.getElem?_append_left hb] at hk
      obtain ⟨q1, v', q2, q3⟩ := h.cell b k hk i v hv
      refine ⟨q1, v', ?_, q3.ext hE⟩
      show W.cell? ((if b = M.length then a else m.at_ b).add i) = some v'
      rw [if_neg (by omega)]; exact q2
    · rw [List.getElem?_append_right (by omega)] at hk
      obtain ⟨hi, hk⟩ := List.getElem?_eq_some_iff.1 hk
      simp at hi
      have hbl : b = M.length := by omega
      subst hbl
      simp at hk; subst hk
      obtain ⟨v', g1, g2⟩ := hl.get hv
      refine ⟨h1 v (List.mem_of_getElem? hv), v', ?_, g2.ext hE⟩
      show W.cell? ((if M.length = M.length then a else m.at_ M.length).add i) = some v'
      rw [if_pos rfl]; exact hc i v' g1
theorem trod_float {k : FloatKind} {t : TypeId} {fuel : Nat} {cs : List Value} {x : DataW H × List MemPlace} {sp : Nat → Bool} (ht : P.underlying t = some (.float k)) (h : DataW.trod enc P W 0 sp true fuel t cs = some x) : ∃ n, cs = [.float k n] ∧ (Lit.float k n).wf = true := by
  cases fuel with
  | zero => simp [DataW.trod] at h
  | succ n =>
    unfold DataW.trod at h
    rw [ht] at h
    split at h <;> simp_all
theorem drop_take_map {α : Type} (f : Nat → α) (n z i : Nat) (hi : i < n) : (((List.range (n * z)).map f).drop (i * z)).take z = (List.range z).map fun j => f (i * z + j) := by
  apply List.ext_getElem
  · have : (i + 1) * z ≤ n * z := Nat.mul_le_mul_right z hi
    rw [Nat.add_mul, Nat.one_mul] at this
    simp only [List.length_take, List.length_drop, List.length_map, List.length_range]
    omega
  · intro j h1 h2
    simp
theorem lay_ok : ∀ d, LayGoal enc P W d := by
  intro d
  induction d with
  | zero => intro t cs h; cases h
  | succ d ih =>
    intro t cs hty ⟨fuel, x, ps, htr, hfine⟩ m M hR
    unfold tyOk at hty
    unfold Lays
    split at hty <;> rename_i hu <;> first | (cases hty; done) | skip
    · obtain ⟨b, rfl, _⟩ := DataW.trod_bool hu htr
      exact ⟨m, M, [.bool b], hR, Ext.refl _ _ _, LR.cons (.bool _) LR.nil, by intro v hv; obtain rfl := List.mem_singleton.1 hv; rfl, _, rfl⟩
    · obtain ⟨n, rfl, _, hw⟩ := DataW.trod_int hu htr
      exact ⟨m, M, [.int _ n], hR, Ext.refl _ _ _, LR.cons (.int _ _) LR.nil, by intro v hv; obtain rfl := List.mem_singleton.1 hv; rfl, _, rfl, hw⟩
    · obtain ⟨n, rfl, hw⟩ := trod_float hu htr
      exact ⟨m, M, [.float _ n], hR, Ext.refl _ _ _, LR.cons (.flt _ _ _ (.inl rfl)) LR.nil, by intro v hv; obtain rfl := List.mem_singleton.1 hv; rfl, _, rfl, hw⟩
    · obtain ⟨s, rfl, hx, _⟩ := DataW.trod_string hu htr
      injection hx with hx _
      subst hx
      refine ⟨m, M, [.string s], hR, Ext.refl _ _ _, LR.cons (.str _) LR.nil, by intro v hv; obtain rfl := List.mem_singleton.1 hv; rfl, s, rfl, ?_⟩
      have := hfine s.data.toList.length (by simp [DataW.weights])
      simpa [reachBytes] using this
    · rename_i e
      rcases DataW.trod_slice hu htr with ⟨rfl, _⟩ | ⟨a, len, cap, elems, rest, n, rfl, rfl, hx, _, hlen, _, hel, helem, hsp, _⟩
      · exact ⟨m, M, [.slice none 0 0], hR, Ext.refl _ _ _, LR.cons .nilslc LR.nil, by intro v hv; obtain rfl := List.mem_singleton.1 hv; rfl, .inl rfl⟩
      · injection hx with hx _
        subst hx
        have hcell : ∀ i, i < len → ∃ cs y, W.cells? 0 (a.add (i * P.cellsOf e)) (P.cellsOf e) = some cs ∧ DataW.trod enc P W 0 (fun _ => true) true n e cs = some y ∧ elems[i]? = some y := fun i hi => by
          have h1 := helem i hi
          rw [List.getElem?_eq_getElem (by omega)] at h1
          obtain ⟨cs, h2, h3⟩ := Option.bind_eq_some_iff.1 h1
          exact ⟨cs, _, h2, h3, List.getElem?_eq_getElem (by omega)⟩
        have hW : ∀ i, i < len → ∀ cs, W.cells? 0 (a.add (i * P.cellsOf e)) (P.cellsOf e) = some cs → cs = (List.range (P.cellsOf e)).map fun j => (W.cell? (a.add (i * P.cellsOf e + j))).getD undef := fun i hi cs h => by
          obtain ⟨_, h1, h2⟩ := World.cells?_some h
          apply List.ext_getElem
          · simp [h1]
          · intro j h3 h4
            have := h2 j (by omega)
            rw [add_add] at this
            simp [this, List.getElem?_eq_getElem h3]
        let l := (List.range (len * P.cellsOf e)).map fun j => (W.cell? (a.add j)).getD undef
        have hll : l.length = len * P.cellsOf e := by simp [l]
        have hseg := segs_tiled e (P.cellsOf e) len 0
        simp only [Nat.zero_mul, Nat.zero_add] at hseg
        have hpiece : ∀ i, i < len → Tr enc P W e ((l.drop (i * P.cellsOf e)).take (P.cellsOf e)) := fun i hi => by
          obtain ⟨cs, y, h1, h2, h3⟩ := hcell i hi
          have := hW i hi cs h1
          rw [drop_take_map _ _ _ _ hi, ← this]
          refine ⟨n, y.1, y.2, h2, fun k hk => hfine k ?_⟩
          simp only [DataW.weights, hu, List.mem_cons, List.mem_append]
          exact .inr (.inl (weights_all (j := i) (by simp [h3]) k hk))
        obtain ⟨m1, M1, acs, q1, q2, q3, q4, q5⟩ := laySegs ih l _ hll _ 0 hseg (fun s hs => by
          obtain ⟨i, hi, rfl⟩ := List.mem_map.1 hs
          have := List.mem_range'_1.1 hi
          exact ⟨hty, hpiece i (by omega)⟩) m M hR
        rw [List.drop_zero] at q3
        obtain ⟨m2, g1, g2, g3⟩ := q1.push (a := a) q3 q4 (fun i v hv => by
          obtain ⟨hi, rfl⟩ := List.getElem?_eq_some_iff.1 hv
          rw [hll] at hi
          have hz : 0 < P.cellsOf e := Nat.pos_of_ne_zero fun h => by rw [h, Nat.mul_zero] at hi; omega
          have hdiv : i / P.cellsOf e < len := Nat.div_lt_of_lt_mul (by rwa [Nat.mul_comm] at hi)
          obtain ⟨cs, y, h1, h2, h3⟩ := hcell _ hdiv
          obtain ⟨_, h4, h5⟩ := World.cells?_some h1
          have h6 := h5 (i % P.cellsOf e) (Nat.mod_lt _ hz)
          rw [add_add, Nat.mul_comm, Nat.div_add_mod] at h6
          rw [List.getElem?_eq_getElem (by rw [h4]; exact Nat.mod_lt _ hz)] at h6
          simp [l, h6])
        refine ⟨m2, _, [.slice (some ⟨M1.length, 0, none⟩) len cap], g1, q2.trans g2, LR.cons (.slc _ _ _ _ _ ⟨hlen, hlen, ⟨.ro, acs⟩, by simp, rfl, ?_⟩) LR.nil, by intro v hv; obtain rfl := List.mem_singleton.1 hv; rfl, .inr ⟨M1.length, len, cap, acs, rfl, hlen, ?_, by simp, by rw [q3.1, hll], fun i hi => ?_⟩⟩
        · rw [g3]; rfl
        · have := hfine ((elems.map (·.1)).length + (rest.map (·.1)).length * 1 |> fun x => (((elems.map (·.1)).length + (rest.map (·.1)).length) * P.bytesOf e)) (by simp [DataW.weights, hu])
          simp only [List.length_map, hel, reachBytes] at this
          exact Nat.le_trans (Nat.mul_le_mul_right _ (Nat.le_add_right _ _)) this
        · have := q5 [] rfl ⟨e, i * P.cellsOf e, P.cellsOf e⟩ (List.mem_map.2 ⟨i, List.mem_range'_1.2 ⟨by omega, by omega⟩, rfl⟩)
          exact Lays.ext g2 this
    · rename_i fs
      obtain ⟨xs, n, rfl, hx, hlen, hxl, hf⟩ := DataW.trod_struct hu htr
      injection hx with hx _
      subst hx
      obtain ⟨h1, h2⟩ := fields_tiled hty
      obtain ⟨m1, M1, acs, q1, q2, q3, q4, q5⟩ := laySegs ih cs _ hlen _ 0 h1 (fun s hs => by
        obtain ⟨f, hfm, rfl⟩ := List.mem_map.1 hs
        obtain ⟨i, hi⟩ := List.getElem?_of_mem hfm
        refine ⟨h2 f hfm, ?_⟩
        have h3 := hf i f (by simpa using hi)
        have hil : i < xs.length := by
          rw [hxl]; have := (List.getElem?_eq_some_iff.1 hi).1; simpa using this
        rw [List.getElem?_eq_getElem hil] at h3
        refine ⟨n, xs[i].1, xs[i].2, h3, fun k hk => hfine k ?_⟩
        simp only [DataW.weights, hu]
        exact DataW.weights_mem_each (j := i) (t := f.type) (d := xs[i].1) (by simp [hi]) (by simp [hil]) k hk) m M hR
      rw [List.drop_zero] at q3
      exact ⟨m1, M1, acs, q1, q2, q3, q4, by rw [q3.1]; exact hlen, fun f hf => q5 [] rfl ⟨f.type, f.offset, P.cellsOf f.type⟩ (List.mem_map.2 ⟨f, hf, rfl⟩)⟩
    · rename_i n e
      split at hty
      · rename_i hb
        have hb := Nat.eq_of_beq_eq_true hb
        obtain ⟨xs, k, rfl, hx, hlen, hxl, hf⟩ := DataW.trod_array hu htr
        injection hx with hx _
        subst hx
        have hseg := segs_tiled e (P.cellsOf e) n 0
        simp only [Nat.zero_mul, Nat.zero_add] at hseg
        obtain ⟨m1, M1, acs, q1, q2, q3, q4, q5⟩ := laySegs ih cs _ (hlen.trans hb) _ 0 hseg (fun s hs => by
          obtain ⟨i, hi, rfl⟩ := List.mem_map.1 hs
          have := List.mem_range'_1.1 hi
          refine ⟨hty, ?_⟩
          have h3 := hf i (by omega)
          have hil : i < xs.length := by omega
          rw [List.getElem?_eq_getElem hil] at h3
          refine ⟨k, xs[i].1, xs[i].2, h3, fun j hj => hfine j ?_⟩
          simp only [DataW.weights, hu]
          exact weights_all (j := i) (by simp [hil]) j hj) m M hR
        rw [List.drop_zero] at q3
        exact ⟨m1, M1, acs, q1, q2, q3, q4, by rw [q3.1]; exact hlen, fun i hi => q5 [] rfl ⟨e, i * P.cellsOf e, P.cellsOf e⟩ (List.mem_map.2 ⟨i, List.mem_range'_1.2 ⟨by omega, by omega⟩, rfl⟩)⟩
      · cases hty
end
end Go.Zt
