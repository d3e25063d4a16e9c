/- What the law PoolNames needs of the text Ab24. -/
import Derived.Test.YtjmahpemdghncaaPAb23
set_option linter.unusedVariables false
set_option linter.unusedSimpArgs false
namespace Go.Zt
section
variable {C : Ctx} {B : Nat} {w0 : World} {m0 : Mp} {M0 : Mem} {m : Mp} {ml : Nat → Nat} {s s' s1 s2 : St} {w : World} {a : Act} {ops : Array Oper}
def remain (n : Nat) (listed : Array Bool) : List Nat := (List.range n).filter fun j => !listed.getD j true
theorem mem_remain {n i : Nat} {listed : Array Bool} : i ∈ remain n listed ↔ i < n ∧ listed.getD i true = false := by
  simp [remain]
theorem remain_set {n i : Nat} {listed : Array Bool} (hs : listed.size = n) (hi : i < n) {pre rest : List Nat} (h : remain n listed = pre ++ i :: rest) : remain n (listed.setIfInBounds i true) = pre ++ rest := by
  have hnd : (remain n listed).Nodup := List.Pairwise.filter _ List.nodup_range
  have h1 : remain n (listed.setIfInBounds i true) = (remain n listed).filter fun j => j != i := by
    unfold remain
    rw [List.filter_filter]
    apply List.filter_congr
    intro j hj
    have hjn : j < n := List.mem_range.1 hj
    by_cases hji : j = i
    · subst hji
      simp [Array.getD_eq_getD_getElem?, hs, hjn]
    · have : (i = j) ↔ False := ⟨fun h => hji h.symm, False.elim⟩
      simp [Array.getD_eq_getD_getElem?, Array.getElem?_setIfInBounds_ne (Ne.symm hji), hji]
  rw [h1, h]
  rw [h] at hnd
  rw [List.nodup_append] at hnd
  obtain ⟨_, n2, n3⟩ := hnd
  rw [List.nodup_cons] at n2
  rw [List.filter_append, List.filter_cons]
  simp only [bne_self_eq_false, Bool.false_eq_true, if_false]
  rw [List.filter_eq_self.2, List.filter_eq_self.2]
  · intro x hx
    have : x ≠ i := fun e => n2.1 (e ▸ hx)
    simpa using this
  · intro x hx
    have : x ≠ i := n3 x hx i (by simp)
    simpa using this
theorem remain_lt {n i : Nat} {listed : Array Bool} {pre rest : List Nat} (h : remain n listed = pre ++ i :: rest) : ∀ j ∈ pre, j < i := by
  have hp : (remain n listed).Pairwise (· < ·) := List.Pairwise.filter _ List.pairwise_lt_range
  rw [h, List.pairwise_append] at hp
  exact fun j hj => hp.2.2 j hj i (by simp)
theorem draw_sound (hc : CallsOk C.P C.call) (hlow : CallsLow C.call) (hM : C.lo ≤ M0.length) {L R0 b0 : Nat} (hL : C.lo ≤ L) (hR0L : anyLoose C.ann ops.toList (befL ops.toList []) ops.toList 0 = true → R0 ≤ L)
    (hok : okAll C.ann ops [] ops.toList (befL ops.toList []) = true) (hed : edgesOk ops.toList 0 = true) {Q : Exit → Act → World → Prop} {sf : St}
    (hQ : ∀ s' m' ml' a' w', Eqv sf s' → SRel C.nt B C.lo w0 m0 M0 s' m' ml' a' w' → Q .normal a' w') :
    ∀ (fuel : Nat) (listed : Array Bool) (s : St) (m : Mp) (ml : Nat → Nat) (a : Act) (w : World), listed.size = ops.size → Closed ops (fun i => listed.getD i false = true) → (remain ops.size listed).length ≤ fuel → R0 ≤ s.mem.length → L ≤ s.mem.length →
      (∃ s', runJ C ops L R0 (newsL C.ann ops.toList (befL ops.toList []) ops.toList 0) b0 (remain ops.size listed) s = some s' ∧ Eqv sf s') → SRel C.nt B C.lo w0 m0 M0 s m ml a w → wpAny C.P .any ops Q fuel listed a w := by
  have ready_mem : ∀ (listed : Array Bool) (i : Nat), i ∈ Region.ready .any ops listed ↔ i ∈ remain ops.size listed ∧ ∀ o, ops[i]? = some o → ∀ e ∈ o.after.toList, Region.binds .any e = true → listed.getD e.on false = true := fun listed i => by
    unfold Region.ready
    rw [mem_remain]
    simp only [List.mem_filter, List.mem_range, Bool.and_eq_true, Bool.not_eq_true']
    constructor
    · rintro ⟨h1, h2, h3⟩
      refine ⟨⟨h1, h2⟩, fun o ho e he hb => ?_⟩
      rw [ho] at h3
      simp only [Option.map_some, Option.getD_some, Array.all_eq_true'] at h3
      have := h3 e (Array.mem_toList_iff.1 he)
      rw [hb] at this
      simpa using this
    · rintro ⟨⟨h1, h2⟩, h3⟩
      refine ⟨h1, h2, ?_⟩
      have ho : ops[i]? = some ops[i] := Array.getElem?_eq_getElem h1
      rw [ho]
      simp only [Option.map_some, Option.getD_some, Array.all_eq_true']
      intro e he
      cases hb : Region.binds .any e with
      | false => rfl
      | true => simpa using h3 _ ho e (Array.mem_toList_iff.2 he) hb
  have nonempty : ∀ (listed : Array Bool), listed.size = ops.size → remain ops.size listed ≠ [] → Region.ready .any ops listed ≠ [] := fun listed hsz hne => by
    cases hr : remain ops.size listed with
    | nil => exact absurd hr hne
    | cons i rest =>
      have hi := mem_remain.1 (show i ∈ remain ops.size listed by rw [hr]; simp)
      have : i ∈ Region.ready .any ops listed := by
        refine (ready_mem listed i).2 ⟨by rw [hr]; simp, fun o ho e he hb => ?_⟩
        have hlt := edgesOk_spec hed i o (by rw [Array.getElem?_toList]; exact ho) e he hb
        rw [Nat.zero_add] at hlt
        by_cases hl : listed.getD e.on true = false
        · have hin : e.on ∈ remain ops.size listed := mem_remain.2 ⟨by omega, hl⟩
          rw [hr] at hin
          have hp : (remain ops.size listed).Pairwise (· < ·) := List.Pairwise.filter _ List.pairwise_lt_range
          rw [hr, List.pairwise_cons] at hp
          rcases List.mem_cons.1 hin with h | h
          · omega
          · have := hp.1 _ h; omega
        · have he2 : e.on < listed.size := by omega
          simp only [Array.getD_eq_getD_getElem?, Array.getElem?_eq_getElem he2, Option.getD_some] at hl ⊢
          simpa using hl
      intro hnil
      rw [hnil] at this
      cases this
  intro fuel
  induction fuel with
  | zero =>
    intro listed s m ml a w hsz hcl hf hR hLs ⟨s', hrun, he⟩ hs
    have hnil : remain ops.size listed = [] := List.eq_nil_of_length_eq_zero (by omega)
    rw [hnil] at hrun
    injection hrun with hrun; subst hrun
    refine ⟨?_, hQ _ _ _ _ _ he hs⟩
    cases hr : Region.ready .any ops listed with
    | nil => rfl
    | cons i r =>
      have := ((ready_mem listed i).1 (by rw [hr]; simp)).1
      rw [hnil] at this; cases this
  | succ fuel ih =>
    intro listed s m ml a w hsz hcl hf hR hLs ⟨s', hrun, he⟩ hs
    refine ⟨fun hr => ?_, fun i hi => ?_⟩
    · have hnil : remain ops.size listed = [] := by
        cases hx : remain ops.size listed with
        | nil => rfl
        | cons i r => exact absurd hr (nonempty listed hsz (by rw [hx]; simp))
      rw [hnil] at hrun
      injection hrun with hrun; subst hrun
      exact hQ _ _ _ _ _ he hs
    · obtain ⟨hmem, haft⟩ := (ready_mem listed i).1 hi
      obtain ⟨hin, hil⟩ := mem_remain.1 hmem
      obtain ⟨pre, rest, hsplit⟩ := List.append_of_mem hmem
      have hy : ops[i]? = some ops[i] := Array.getElem?_eq_getElem hin
      have hpair : ∀ j ∈ pre, PairOk C ops L R0 (newsL C.ann ops.toList (befL ops.toList []) ops.toList 0) b0 j i := fun j hj x y hx hy' => by
        rw [hy] at hy'; injection hy' with hy'; subst hy'
        have hji := remain_lt hsplit j hj
        have hjr : j ∈ remain ops.size listed := by rw [hsplit]; simp [hj]
        obtain ⟨hjn, hjl⟩ := mem_remain.1 hjr
        have hbit : ((befL ops.toList []).getD i 0).testBit j = false := by
          cases hb : ((befL ops.toList []).getD i 0).testBit j with
          | false => rfl
          | true =>
            have := mask_listed hcl (i + 1) i _ (by omega) hy (fun e he hb => haft _ hy e he hb) j hb
            simp only [Array.getD_eq_getD_getElem?, Array.getElem?_eq_getElem (show j < listed.size by omega), Option.getD_some] at this hjl
            rw [this] at hjl; cases hjl
        have hncl : clash C.ann ops x ops[i] = false := by
          cases hcx : clash C.ann ops x ops[i] with
          | false => rfl
          | true =>
            have h1 := okAll_spec hok i ops[i] (by rw [Array.getElem?_toList]; exact hy)
            have h2 := okPairs_spec h1 j x (by rw [List.nil_append, List.getElem?_take, if_pos hji, Array.getElem?_toList]; exact hx) hcx
            rw [Nat.zero_add, hbit] at h2; cases h2
        refine ⟨noClash_of hncl, fun e1 e2 => ?_, fun e1 e2 => ?_, fun e1 e2 => ?_, fun e1 e2 => ?_, fun e1 e2 => ?_⟩
        · have hll : looseLd C.ann ((befL ops.toList []).getD i 0) (befL ops.toList []) i ops.toList 0 = true :=
            loose_spec j x (by rw [Array.getElem?_toList]; exact hx) e1 (by rw [Nat.zero_add, if_pos hji]; exact hbit)
          have hle : looseEf C.ann ((befL ops.toList []).getD j 0) (befL ops.toList []) j ops.toList 0 = true :=
            looseEf_spec i ops[i] (by rw [Array.getElem?_toList]; exact hy) e2 (by rw [Nat.zero_add, if_neg (by omega)]; exact hbit)
          rw [loJ_eff e1 hle]
          refine ⟨?_, hR0L (anyLoose_spec i ops[i] (by rw [Array.getElem?_toList]; exact hy) e2 (by rw [Nat.zero_add]; exact hll))⟩
          simp only [ctxJ, decide_eq_true e2, hll, Bool.and_self]
        · have hll : looseLd C.ann ((befL ops.toList []).getD j 0) (befL ops.toList []) j ops.toList 0 = true :=
            loose_spec i ops[i] (by rw [Array.getElem?_toList]; exact hy) e2 (by rw [Nat.zero_add, if_neg (by omega)]; exact hbit)
          have hle : looseEf C.ann ((befL ops.toList []).getD i 0) (befL ops.toList []) i ops.toList 0 = true :=
            looseEf_spec j x (by rw [Array.getElem?_toList]; exact hx) e1 (by rw [Nat.zero_add, if_pos hji]; exact hbit)
          rw [loJ_eff e2 hle]
          refine ⟨?_, hR0L (anyLoose_spec j x (by rw [Array.getElem?_toList]; exact hx) e1 (by rw [Nat.zero_add]; exact hll))⟩
          simp only [ctxJ, decide_eq_true e1, hll, Bool.and_self]
        · obtain ⟨b, hb⟩ := ex_wr hncl e1 e2
          exact ⟨b, hb, side_spec j x (by rw [Array.getElem?_toList]; exact hx) hb (by rw [Nat.zero_add, if_pos hji]; exact hbit)⟩
        · have m1 := news_mem (ms := befL ops.toList []) (all := ops.toList) (i := 0) j x (by rw [Array.getElem?_toList]; exact hx) e1 (by
            rw [Nat.zero_add]
            exact looseNew_spec i ops[i] (by rw [Array.getElem?_toList]; exact hy) e2 (by omega) (by rw [Nat.zero_add, if_neg (by omega)]; exact hbit))
          have m2 := news_mem (ms := befL ops.toList []) (all := ops.toList) (i := 0) i ops[i] (by rw [Array.getElem?_toList]; exact hy) e2 (by
            rw [Nat.zero_add]
            exact looseNew_spec j x (by rw [Array.getElem?_toList]; exact hx) e1 (by omega) (by rw [Nat.zero_add, if_pos hji]; exact hbit))
          rw [Nat.zero_add] at m1 m2
          obtain ⟨a, q1, _⟩ := slot_some (b := b0) m1
          obtain ⟨b, q2, _⟩ := slot_some (b := b0) m2
          exact ⟨a, b, q1, q2, slot_ne (by omega) m1 m2 q1 q2⟩
        · obtain ⟨b, hb⟩ := ex_ld hncl e1 e2
          exact ⟨b, hb, side_spec i ops[i] (by rw [Array.getElem?_toList]; exact hy) hb (by rw [Nat.zero_add, if_neg (by omega)]; exact hbit)⟩
      rw [hsplit] at hrun
      obtain ⟨s1, s2, g1, g2, g3⟩ := moveFront hlow pre hpair hR hrun
      have g1' := (stepJ_of hy g1).2
      refine wpOp_sound (C := ctxJ C ops L R0 (newsL C.ann ops.toList (befL ops.toList []) ops.toList 0) b0 i ops[i]) (lo := C.lo) hc hs (loJ_ge hL).1 (Nat.le_trans (loJ_ge hL).2 hLs) hy g1' fun m' ml' a' w' hs' => ?_
      refine ih _ s1 m' ml' a' w' (by simpa using hsz) ?_ ?_ (Nat.le_trans hR (stepJ_low hlow g1)) (Nat.le_trans hLs (stepJ_low hlow g1)) ⟨s2, ?_, he.trans g3⟩ hs'
      · intro j o hj ho e hem hb
        by_cases hji : j = i
        · subst hji
          have := haft o ho e hem hb
          by_cases hei : e.on = j
          · rw [hei, Array.getD_eq_getD_getElem?, Array.getElem?_setIfInBounds_self_of_lt (by omega)]; rfl
          · rw [Array.getD_eq_getD_getElem?, Array.getElem?_setIfInBounds_ne (fun h => hei h.symm), ← Array.getD_eq_getD_getElem?]; exact this
        · have hj' : listed.getD j false = true := by
            simp only [Array.getD_eq_getD_getElem?, Array.getElem?_setIfInBounds_ne (fun h => hji h.symm)] at hj ⊢
            exact hj
          have := hcl j o hj' ho e hem hb
          by_cases hei : e.on = i
          · rw [hei, Array.getD_eq_getD_getElem?, Array.getElem?_setIfInBounds_self_of_lt (by omega)]; rfl
          · rw [Array.getD_eq_getD_getElem?, Array.getElem?_setIfInBounds_ne (fun h => hei h.symm), ← Array.getD_eq_getD_getElem?]; exact this
      · rw [remain_set hsz hin hsplit]
        rw [hsplit] at hf
        simp only [List.length_append, List.length_cons] at hf ⊢
        omega
      · rw [remain_set hsz hin hsplit]; exact g2
theorem SRel.freeL {nt lo : Nat} : ∀ (N : List Nat) {s : St}, SRel nt B lo w0 m0 M0 s m ml a w → SRel nt B lo w0 m0 M0 { s with mem := s.mem ++ Zt.freeL N } m ml a w
  | [], s, h => by
    simp only [Zt.freeL, List.append_nil]
    exact h
  | k :: r, s, h => by
    obtain ⟨h1, h2⟩ := h.mi.keepFree
    have := SRel.freeL r (s := { s with mem := s.mem ++ [⟨.op 0, []⟩] }) (h.post (e := .u) (cv := undef) (w' := w) ⟨h1, rfl, h2, rfl, fun _ _ => rfl⟩)
    simpa [Zt.freeL, List.append_assoc] using this
theorem SRel.free {nt lo : Nat} (N : List Nat) {s : St} (h : SRel nt B lo w0 m0 M0 s m ml a w) : SRel nt B lo w0 m0 M0 (withFree s N) m ml a w := by
  cases N with
  | nil => exact h
  | cons k r => exact SRel.freeL (k :: r) h
theorem draw_ok (hm : C.P.follows .mixedOrders = true) (hc : CallsOk C.P C.call) (hlow : CallsLow C.call) : DrawOk C := by
  intro B w0 m0 M0 id ops s K r m ml a w hM h hs
  unfold regA at h
  split at h
  · rename_i hfalse; cases hfalse
  · split at h
    · rename_i hok hed
      have hsover := hs.over hM
      obtain ⟨b0, hb0⟩ : ∃ b0, b0 = s.mem.length := ⟨_, rfl⟩
      obtain ⟨N, hN⟩ : ∃ N, N = newsL C.ann ops.toList (befL ops.toList []) ops.toList 0 := ⟨_, rfl⟩
      have hs0 := hs.free N
      have hfl := (free_low 0 s N).1
      have key : ∃ L R0 : Nat, C.lo ≤ L ∧ L ≤ s.mem.length ∧ R0 ≤ s.mem.length ∧ (anyLoose C.ann ops.toList (befL ops.toList []) ops.toList 0 = true → R0 ≤ L) ∧ runD C ops ops.toList (befL ops.toList []) L R0 N b0 ops.toList 0 (withFree s N) K = some r := by
        rw [hN, hb0]
        split at h
        · rename_i hno
          exact ⟨_, _, Nat.le_refl _, hsover, Nat.le_refl _, (fun ha => by rw [hno] at ha; cases ha), h⟩
        · split at h
          · split at h
            · exact ⟨_, _, Nat.le_refl _, hsover, hsover, (fun _ => Nat.le_refl _), h⟩
            · exact ⟨_, _, Nat.le_refl _, hsover, Nat.zero_le _, (fun _ => Nat.zero_le _), h⟩
          · exact ⟨_, _, hsover, Nat.le_refl _, Nat.le_refl _, (fun _ => Nat.le_refl _), h⟩
      obtain ⟨L, R0, h1, h2, h3, h4, h⟩ := key
      obtain ⟨sf, hrun, hk⟩ := runD_runJ ops.toList 0 (fun j => by simp) h
      refine wp_region_any hm ?_
      have hrem : remain ops.size (Array.replicate ops.size false) = List.range' 0 ops.toList.length := by
        unfold remain
        rw [List.filter_eq_self.2, List.range_eq_range']
        · simp
        · intro j hj
          have := List.mem_range.1 hj
          simp [Array.getD_eq_getD_getElem?, Array.getElem?_replicate, this]
      rw [← hrem, hN] at hrun
      refine draw_sound (C := C) (sf := sf) hc hlow hM h1 h4 hok hed (fun s' m' ml' a' w' he hs' => ⟨rfl, sf, m', ml', hk, hs'.eqv he.symm⟩) ops.size _ (withFree s (newsL C.ann ops.toList (befL ops.toList []) ops.toList 0)) m ml a _ (by simp) ?_ ?_ (by rw [← hN]; omega) (by rw [← hN]; omega) ⟨sf, hrun, Eqv.refl _⟩ ?_
      · intro i o hi
        simp only [Array.getD_eq_getD_getElem?, Array.getElem?_replicate] at hi
        split at hi <;> cases hi
      · have : (remain ops.size (Array.replicate ops.size false)).length ≤ (List.range ops.size).length := List.length_filter_le _ _
        simpa using this
      · rw [← hN]
        exact ⟨hs0.mi.drawn _, hs0.env, hs0.size, hs0.defers⟩
    · cases h
theorem acall_ok {P : Program} {T : Tab} (hn : NamesOk P T) (hm : P.follows .mixedOrders = true) (k : Nat) : CallsOk P (acall P T k) :=
  acall_sound hn (fun k ann lo nt h => draw_ok hm h (acall_low P T k)) k
end
end Go.Zt
