/- The second form of a row: where what comes in is not too much, for a law of one slice. -/
import Derived.Test.YtpjfnpokkpapaaaRows
import Derived.Test.YtpjfnpokkpapaaaAb27
import Derived.Deep.CondSized
set_option linter.unusedVariables false
set_option linter.unusedSimpArgs false
namespace Go.Zt
open Go.RowKit Go.Proofs.Ytpjfnpokkpapaaa.Rows
section
variable {H : Type} {enc : TypeId × Value → H} {P : Program} {W : World}
theorem bulk_pos (d : DataW H) : 1 ≤ uptoBulk d := by
  cases d with
  | lit l => cases l <;> simp [uptoBulk]
  | _ => simp [uptoBulk]
theorem bulk_all : ∀ l : List (DataW H), l.length ≤ uptoBulkAll l
  | [] => by simp [uptoBulkAll]
  | d :: r => by
    have := bulk_pos d
    have := bulk_all r
    simp only [uptoBulkAll, List.length_cons]; omega
theorem top_calls_fit {T : Tab} (hn : NamesOk P T) (hm : P.follows .mixedOrders = true) {f : FuncId} {ts : List TypeId} (hty : ∀ t ∈ ts, tyOk P 8 t = true) {Fit : List Value → Prop}
    (law : ∀ M vs, AllRo M → LaysArgs P M ts vs → Fit vs → Ac P T M.length f vs M fun r => r.1 = .bool true)
    {base : Nat} {args : List Value} {ds : List (DataW H)} {ps : List MemPlace} (fit : ∀ m M vs, LR m M vs args → Fit vs) (hval : ∀ (j : Nat) t v, ts[j]? = some t → args[j]? = some v → Value.okWide P W .any base t v)
    (hA : DataW.TrodAll enc P W 0 (fun _ => true) true ts args ds ps) (hw : ∀ n ∈ DataW.weightsEach P ts ds, n ≤ reachBytes) :
    Calls P f ⟨args⟩ W fun e W' => e = .returned (.bool true) ∧ Below W.heap.size W W' := by
  obtain ⟨m, M, vs, h1, h2, h3, h4⟩ := layArgs hty hval hA hw ⟨fun _ => ⟨0, 0, none⟩, fun _ => 0⟩ [] ⟨fun b k h => by simp at h, fun b k h => by simp at h⟩
  obtain ⟨⟨r, M'⟩, hr, K, hK⟩ := law M vs h1.ro h4 (fit m M vs h3)
  have hrel : Rel W.heap.size m M W := by
    refine ⟨fun b cs hb i v hv => (h1.cell b _ hb i v hv).2, fun b cs hb hl => ?_, fun b k hb hr => (own_ro hr (h1.ro b k hb)).elim, fun b b' k k' hb _ hr => (own_ro hr (h1.ro b k hb)).elim, fun b k hb v hv => ?_, fun b cs hb => by have := h1.ro b _ hb; cases this⟩
    · obtain ⟨v', hv', _⟩ := (h1.cell b _ hb 0 cs[0] (List.getElem?_eq_getElem hl)).2
      rw [add_zero] at hv'
      unfold World.cell? at hv'
      by_cases hlt : (m.at_ b).block < W.heap.size
      · exact hlt
      · rw [Array.getElem?_eq_none (by omega)] at hv'
        simp at hv'
    · obtain ⟨i, hi⟩ := List.getElem?_of_mem hv
      exact (h1.cell b k hb i v hi).1
  obtain ⟨_, hc⟩ := acall_ok hn hm K M.length f vs M r M' (hK K (Nat.le_refl _)) (Nat.le_refl _) W.heap.size m W args hrel (Nat.le_refl _) h3
  refine hc.mono fun e W' ⟨m', cr, e1, e2, _, _, e3, _⟩ => ?_
  obtain rfl : r = .bool true := hr
  rw [e2.bool_inv] at e1
  refine ⟨e1, e3.os, e3.tape, e3.output, e3.size, fun g hg => e3.block g hg ?_⟩
  rintro ⟨b, k, hb, hr, _⟩
  exact own_ro hr (h1.ro b k hb)
theorem law_upto {T : Tab} (hn : NamesOk P T) (hm : P.follows .mixedOrders = true) (hlaid : laidOutB P = true) {f : FuncId} {fn : Func} {s : ChangeSpec} {t t0 e : TypeId} (hts : fn.params.toList = [t]) (htr : fn.resultTypes = #[t0]) (hb : P.underlying t0 = some .bool) (hu : P.underlying t = some (.slice e))
    (hty : [t].all (fun t => tyOk P 8 t && P.readableRec t && decide (t < P.types.size)) = true) (hv : s.vars = []) (hs : ∀ ds : List (DataW H), ds.length = 1 → s.fn H ds = { results := [.lit (.bool true)], args := ds })
    (law : ∀ M vs, AllRo M → LaysArgs P M [t] vs → (∀ A n c, vs = [.slice A n c] → n ≤ 1048576) → Ac P T M.length f vs M fun r => r.1 = .bool true)
    (W : World) (base : Nat) (args : Array Value) (ds gs : List (DataW H)) (before : List MemPlace)
    (hval : ∀ (j : Nat) t v, fn.params[j]? = some t → args[j]? = some v → Value.okWide P W .any base t v)
    (hW : DataW.Whole enc P fn.params.toList s.vars false W args.toList ds gs before) (hk : uptoSmall H (ds ++ gs) = true)
    (hsz : (DataW.weightsEach P (fn.params.toList ++ s.plain.varTypes P) (ds ++ gs)).all (· ≤ reachBytes) = true) :
    Calls P f args W fun e W' => ∃ v, e = .returned v ∧ s.post enc P fn false true false false W args v W' := by
  have hW' := hW
  have hlt := fun p hp => hW.lt p hp
  obtain ⟨p, q, hA, hV, rfl, hfz, hnd⟩ := hW
  rw [hv] at hV
  obtain ⟨rfl, rfl⟩ : gs = [] ∧ q = [] := by
    cases gs with
    | nil => exact ⟨rfl, hV⟩
    | cons => cases hV
  have hall := fun t' ht => List.all_eq_true.1 hty t' ht
  simp only [Bool.and_eq_true, decide_eq_true_eq] at hall
  rw [hts] at hA
  rw [List.append_nil] at hk
  have hlen : ds.length = 1 := by
    obtain ⟨v, vs, d, ds, p, q, h1, rfl, h3, h4, h5⟩ := ChangeShapes.trodAll_cons hA
    obtain ⟨rfl, rfl, rfl⟩ := ChangeShapes.trodAll_nil h5
    rfl
  have fit : ∀ m M vs, LR m M vs args.toList → ∀ A n c, vs = [.slice A n c] → n ≤ 1048576 := by
    rintro m M _ hl A n c rfl
    obtain ⟨v, vs, d, ds, p, q, e1, rfl, h3, ⟨fuel, h4⟩, h5⟩ := ChangeShapes.trodAll_cons hA
    rw [e1] at hl
    have hV := hl.head
    cases hV with
    | nilslc => omega
    | slc a _ _ a' c' h =>
      rcases DataW.trod_slice hu h4 with ⟨e, _⟩ | ⟨a, len, cap, elems, rest, n', _, e, hx, _, _, _, hel, _⟩
      · cases e
      · have hb : uptoBulkAll (d :: ds) ≤ 1048576 := of_decide_eq_true hk
        have e' : [Value.slice (some a') n c'] = [Value.slice (some a) len cap] := e
        injection e' with e' _
        injection e' with _ e' _
        subst e'
        injection hx with hx _
        subst hx
        have := bulk_all (elems.map fun x => x.1)
        rw [List.length_map] at this
        simp only [uptoBulkAll, uptoBulk] at hb
        omega
  have hc := top_calls_fit (W := W) (enc := enc) hn hm (fun t' ht => (hall t' ht).1.1) law (base := base) (args := args.toList) (ds := ds) (ps := p) fit
    (fun j t' v h1 h2 => hval j t' v (by rw [← Array.getElem?_toList, hts]; exact h1) (by simpa using h2)) hA
    (fun n hn => by
      have hvt : s.plain.varTypes P = [] := by simp [DataSpec.varTypes, ChangeSpec.plain, hv]
      rw [hts, hvt, List.append_nil, List.append_nil] at hsz
      simpa using List.all_eq_true.1 hsz n hn)
  refine hc.mono fun e W' ⟨he, bel⟩ => ?_
  subst he
  have hspec := hs ds hlen
  refine ⟨_, rfl, ds, [], p ++ [], [], p, [], hW', ?_, ?_, ?_, bel.frame _, fun h => by cases h⟩
  · rw [List.append_nil, hspec, htr]
    exact ChangeShapes.trodAll_mk1 (shut_bool hb _)
  · rw [List.append_nil, hspec, hts]
    exact below_args hlaid bel (fun t' ht => ⟨(hall t' ht).1.2, (hall t' ht).2⟩) (fun x hx => hlt x (by simp [hx])) hA
  · rw [hv, List.append_nil, hspec]; rfl
end
end Go.Zt
