/- What the law PoolNames needs of the text Ab27. -/
import Derived.Test.YtjmahpemdghncaaPAb26
import Derived.Carry
import Derived.RowKit
import Derived.OpenShut
import Derived.ChangeShapes
set_option linter.unusedVariables false
set_option linter.unusedSimpArgs false
namespace Go.Zt
open Go.RowKit
def LaysArg (P : Program) (M : Mem) (t : TypeId) (v : Value) : Prop := (isAggB P t = true → ∃ acs, v = .agg ⟨acs⟩ ∧ Lays P M 8 t acs) ∧ (isAggB P t = false → Lays P M 8 t [v])
def LaysArgs (P : Program) (M : Mem) : List TypeId → List Value → Prop
  | [], [] => True
  | t :: ts, v :: vs => LaysArg P M t v ∧ LaysArgs P M ts vs
  | _, _ => False
def AllRo (M : Mem) : Prop := ∀ (b : Nat) (k : Blk), M[b]? = some k → k.kind = .ro
theorem LaysArg.ext {P : Program} {m m' : Mp} {M M' : Mem} (he : Ext 0 m M m' M') {t : TypeId} {v : Value} (h : LaysArg P M t v) : LaysArg P M' t v :=
  ⟨fun ha => let ⟨acs, h1, h2⟩ := h.1 ha; ⟨acs, h1, h2.ext he⟩, fun ha => (h.2 ha).ext he⟩
section
variable {H : Type} {enc : TypeId × Value → H} {P : Program} {W : World}
theorem layArg {base : Nat} {t : TypeId} {v : Value} {x : DataW H} {ps : List MemPlace} (hty : tyOk P 8 t = true) (hval : Value.okWide P W .any base t v) (hA : DataW.Trod enc P W 0 (fun _ => true) true t v x ps) (hf : Fine P t x) (m : Mp) (M : Mem) (hR : RR W m M) :
    ∃ m' M' av, RR W m' M' ∧ Ext 0 m M m' M' ∧ VR m' M' av v ∧ LaysArg P M' t av := by
  obtain ⟨fuel, hA⟩ := hA
  obtain ⟨m', M', acs, h1, h2, h3, h4, h5⟩ := lay_ok 8 t _ hty ⟨fuel, x, ps, hA, hf⟩ m M hR
  cases ha : isAggB P t with
  | true =>
    have hv : ∃ cs, v = .agg cs := by
      unfold Value.okWide at hval
      unfold isAggB at ha
      split at hval
      · exact ⟨_, hval.choose_spec.1⟩
      · exact ⟨_, hval.choose_spec.1⟩
      · rename_i n1 n2
        split at ha
        · rename_i fs hu; exact absurd hu (n1 fs)
        · rename_i n e hu; exact absurd hu (n2 n e)
        · cases ha
    obtain ⟨cs, rfl⟩ := hv
    exact ⟨m', M', .agg ⟨acs⟩, h1, h2, VR.agg_of (ys := cs.toList) h3, fun _ => ⟨acs, rfl, h5⟩, fun h => absurd (ha.symm.trans h) (by simp)⟩
  | false =>
    have hv : v.cells = #[v] := by
      cases v <;> first | rfl | skip
      exfalso
      unfold Value.okWide at hval
      unfold isAggB at ha
      split at hval
      · rename_i hu; rw [hu] at ha; cases ha
      · rename_i hu; rw [hu] at ha; cases ha
      · unfold Cell.okWide at hval
        split at hval <;> first | (simp_all; done) | skip
        unfold Cell.ok at hval
        split at hval <;> simp_all
    rw [hv] at h3
    obtain ⟨av, acs', hacs⟩ : ∃ av r, acs = av :: r := by
      cases acs with
      | nil => have := h3.1; simp at this
      | cons a r => exact ⟨a, r, rfl⟩
    subst hacs
    obtain rfl : acs' = [] := by have := h3.1; simpa using this
    exact ⟨m', M', av, h1, h2, h3.head, fun h => absurd (ha.symm.trans h) (by simp), fun _ => h5⟩
theorem layArgs {base : Nat} : ∀ {ts : List TypeId} {args : List Value} {ds : List (DataW H)} {ps : List MemPlace}, (∀ t ∈ ts, tyOk P 8 t = true) → (∀ (j : Nat) t v, ts[j]? = some t → args[j]? = some v → Value.okWide P W .any base t v) →
    DataW.TrodAll enc P W 0 (fun _ => true) true ts args ds ps → (∀ n ∈ DataW.weightsEach P ts ds, n ≤ reachBytes) → ∀ m M, RR W m M → ∃ m' M' vs, RR W m' M' ∧ Ext 0 m M m' M' ∧ LR m' M' vs args ∧ LaysArgs P M' ts vs
  | [], args, ds, ps, _, _, hA, _, m, M, hR => by
    obtain ⟨rfl, rfl, rfl⟩ := ChangeShapes.trodAll_nil hA
    exact ⟨m, M, [], hR, Ext.refl _ _ _, LR.nil, trivial⟩
  | t :: ts, args, ds, ps, hty, hval, hA, hw, m, M, hR => by
    obtain ⟨v, vs, d, ds, p, q, rfl, rfl, rfl, h1, h2⟩ := ChangeShapes.trodAll_cons hA
    obtain ⟨m1, M1, av, g1, g2, g3, g4⟩ := layArg (hty t (by simp)) (hval 0 t v rfl rfl) h1 (fun n hn => hw n (by simp [DataW.weightsEach, hn])) m M hR
    obtain ⟨m2, M2, avs, k1, k2, k3, k4⟩ := layArgs (fun t' h' => hty t' (by simp [h'])) (fun j t' v' h h' => hval (j + 1) t' v' (by simpa using h) (by simpa using h')) h2 (fun n hn => hw n (by simp [DataW.weightsEach, hn])) m1 M1 g1
    exact ⟨m2, M2, av :: avs, k1, g2.trans k2, LR.cons (g3.ext k2) k3, g4.ext k2, k4⟩
theorem top_calls {T : Tab} (hn : NamesOk P T) (hm : P.follows .mixedOrders = true) {f : FuncId} {ts : List TypeId} (hty : ∀ t ∈ ts, tyOk P 8 t = true)
    (law : ∀ M vs, AllRo M → LaysArgs P M ts vs → Ac P T M.length f vs M fun r => r.1 = .bool true)
    {base : Nat} {args : List Value} {ds : List (DataW H)} {ps : List MemPlace} (hval : ∀ (j : Nat) t v, ts[j]? = some t → args[j]? = some v → Value.okWide P W .any base t v)
    (hA : DataW.TrodAll enc P W 0 (fun _ => true) true ts args ds ps) (hw : ∀ n ∈ DataW.weightsEach P ts ds, n ≤ reachBytes) :
    Calls P f ⟨args⟩ W fun e W' => e = .returned (.bool true) ∧ Below W.heap.size W W' := by
  obtain ⟨m, M, vs, h1, h2, h3, h4⟩ := layArgs hty hval hA hw ⟨fun _ => ⟨0, 0, none⟩, fun _ => 0⟩ [] ⟨fun b k h => by simp at h, fun b k h => by simp at h⟩
  obtain ⟨⟨r, M'⟩, hr, K, hK⟩ := law M vs h1.ro h4
  have hrel : Rel W.heap.size m M W := by
    refine ⟨fun b cs hb i v hv => (h1.cell b _ hb i v hv).2, fun b cs hb hl => ?_, fun b k hb hr => (own_ro hr (h1.ro b k hb)).elim, fun b b' k k' hb _ hr => (own_ro hr (h1.ro b k hb)).elim, fun b k hb v hv => ?_, fun b cs hb => by have := h1.ro b _ hb; cases this⟩
    · obtain ⟨v', hv', _⟩ := (h1.cell b _ hb 0 cs[0] (List.getElem?_eq_getElem hl)).2
      rw [add_zero] at hv'
      unfold World.cell? at hv'
      by_cases hlt : (m.at_ b).block < W.heap.size
      · exact hlt
      · rw [Array.getElem?_eq_none (by omega)] at hv'
        simp at hv'
    · obtain ⟨i, hi⟩ := List.getElem?_of_mem hv
      exact (h1.cell b k hb i v hi).1
  obtain ⟨_, hc⟩ := acall_ok hn hm K M.length f vs M r M' (hK K (Nat.le_refl _)) (Nat.le_refl _) W.heap.size m W args hrel (Nat.le_refl _) h3
  refine hc.mono fun e W' ⟨m', cr, e1, e2, _, _, e3, _⟩ => ?_
  obtain rfl : r = .bool true := hr
  rw [e2.bool_inv] at e1
  refine ⟨e1, e3.os, e3.tape, e3.output, e3.size, fun g hg => e3.block g hg ?_⟩
  rintro ⟨b, k, hb, hr, _⟩
  exact own_ro hr (h1.ro b k hb)
theorem below_args (hl : laidOutB P = true) {W' : World} (hb : Below W.heap.size W W') : ∀ {ts : List TypeId} {args : List Value} {ds : List (DataW H)} {ps : List MemPlace}, (∀ t ∈ ts, P.readableRec t = true ∧ t < P.types.size) → (∀ x ∈ ps, x.block < W.heap.size) →
    DataW.TrodAll enc P W 0 (fun _ => true) true ts args ds ps → DataW.TrodAll enc P W' 0 (fun b => decide (b < W.heap.size)) true ts args ds ps
  | [], args, ds, ps, _, _, hA => by
    obtain ⟨rfl, rfl, rfl⟩ := ChangeShapes.trodAll_nil hA
    rfl
  | t :: ts, args, ds, ps, ht, hlt, hA => by
    obtain ⟨v, vs, d, ds, p, q, rfl, rfl, rfl, h1, h2⟩ := ChangeShapes.trodAll_cons hA
    exact ⟨p, q, Below.trod hl (ht t (by simp)).1 (ht t (by simp)).2 h1 hb (fun x hx => hlt x (by simp [hx])), below_args hl hb (fun t' h' => ht t' (by simp [h'])) (fun x hx => hlt x (by simp [hx])) h2, rfl⟩
theorem law_contract {T : Tab} (hn : NamesOk P T) (hm : P.follows .mixedOrders = true) (hlaid : laidOutB P = true) {f : FuncId} {fn : Func} {s : ChangeSpec} {ts : List TypeId} {t0 : TypeId} (hts : fn.params.toList = ts) (htr : fn.resultTypes = #[t0]) (hb : P.underlying t0 = some .bool)
    (hty : ts.all (fun t => tyOk P 8 t && P.readableRec t && decide (t < P.types.size)) = true) (hv : s.vars = []) (hs : ∀ ds : List (DataW H), ds.length = ts.length → s.fn H ds = { results := [.lit (.bool true)], args := ds })
    (law : ∀ M vs, AllRo M → LaysArgs P M ts vs → Ac P T M.length f vs M fun r => r.1 = .bool true)
    (W : World) (base : Nat) (args : Array Value) (ds gs : List (DataW H)) (before : List MemPlace)
    (hval : ∀ (j : Nat) t v, fn.params[j]? = some t → args[j]? = some v → Value.okWide P W .any base t v)
    (hW : DataW.Whole enc P fn.params.toList s.vars false W args.toList ds gs before)
    (hsz : (DataW.weightsEach P (fn.params.toList ++ s.plain.varTypes P) (ds ++ gs)).all (· ≤ reachBytes) = true) :
    Calls P f args W fun e W' => ∃ v, e = .returned v ∧ s.post enc P fn false true false false W args v W' := by
  have hW' := hW
  have hlt := fun p hp => hW.lt p hp
  obtain ⟨p, q, hA, hV, rfl, hfz, hnd⟩ := hW
  rw [hv] at hV
  obtain ⟨rfl, rfl⟩ : gs = [] ∧ q = [] := by
    cases gs with
    | nil => exact ⟨rfl, hV⟩
    | cons => cases hV
  have hall := fun t ht => List.all_eq_true.1 hty t ht
  simp only [Bool.and_eq_true, decide_eq_true_eq] at hall
  have hlen : ∀ {ts : List TypeId} {args : List Value} {ds : List (DataW H)} {ps : List MemPlace}, DataW.TrodAll enc P W 0 (fun _ => true) true ts args ds ps → ds.length = ts.length := by
    intro ts
    induction ts with
    | nil => intro args ds ps h; obtain ⟨rfl, rfl, rfl⟩ := ChangeShapes.trodAll_nil h; rfl
    | cons t ts ih => intro args ds ps h; obtain ⟨v, vs, d, ds, p, q, rfl, rfl, rfl, h1, h2⟩ := ChangeShapes.trodAll_cons h; simp [ih h2]
  rw [hts] at hA
  have hc := top_calls (W := W) (enc := enc) hn hm (fun t ht => (hall t ht).1.1) law (base := base) (args := args.toList) (ds := ds) (ps := p)
    (fun j t v h1 h2 => hval j t v (by rw [← Array.getElem?_toList, hts]; exact h1) (by simpa using h2)) hA
    (fun n hn => by
      have hvt : s.plain.varTypes P = [] := by simp [DataSpec.varTypes, ChangeSpec.plain, hv]
      rw [hts, hvt, List.append_nil, List.append_nil] at hsz
      simpa using List.all_eq_true.1 hsz n hn)
  refine hc.mono fun e W' ⟨he, bel⟩ => ?_
  subst he
  have hspec := hs ds (hlen hA)
  refine ⟨_, rfl, ds, [], p ++ [], [], p, [], hW', ?_, ?_, ?_, bel.frame _, fun h => by cases h⟩
  · rw [List.append_nil, hspec, htr]
    exact ChangeShapes.trodAll_mk1 (shut_bool hb _)
  · rw [List.append_nil, hspec, hts]
    exact below_args hlaid bel (fun t ht => ⟨(hall t ht).1.2, (hall t ht).2⟩) (fun x hx => hlt x (by simp [hx])) hA
  · rw [hv, List.append_nil, hspec]; rfl
end
end Go.Zt
