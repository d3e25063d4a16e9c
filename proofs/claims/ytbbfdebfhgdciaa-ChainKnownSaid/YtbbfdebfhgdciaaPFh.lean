/- What the law ChainKnown needs of the text Fh. -/
import Derived.Test.YtbbfdebfhgdciaaPFg
set_option linter.unusedVariables false
set_option linter.unusedSimpArgs false
set_option maxRecDepth 100000
namespace Go.Zt
def hdW : Hd := ⟨false, 0, false, false, 0, 0, 0, 0, 0, 1, 0, 0, 0, 0, 0, 0, 0, false, 32, 0, 0, 0, 0, false, 0, 0, none, 0, 0, false, false, false⟩
theorem map_pass {m : MapV} {w h : Int} {k : Nat} (hm : MapIs m w h k 8) (W H nx lv sh : Int) (h1 : checkS W H nx = 0 ∧ W % 4 = 0 ∧ H % 4 = 0 ∧ w = W / 4 ∧ h = H / 4 ∧ (k : Int) = w * h) (h2 : 0 ≤ lv ∧ lv ≤ 63 ∧ 0 ≤ sh ∧ sh ≤ 7) : PassOk W H nx m.w m.h m.tx m.ids.length m.qs.length lv sh := by
  refine ⟨⟨h1.1, h1.2.1, h1.2.2.1, by rw [hm.w]; exact h1.2.2.2.1, by rw [hm.h]; exact h1.2.2.2.2.1, ?_, ?_, ?_, fun t ht => ?_⟩, h2⟩
  · rw [hm.tx, hm.w, hm.h, List.length_replicate]; exact h1.2.2.2.2.2
  · rw [hm.ids, hm.w, hm.h, List.length_map, List.length_range]; exact h1.2.2.2.2.2
  · rw [hm.qs, hm.w, hm.h, List.length_replicate]; exact h1.2.2.2.2.2
  · rw [hm.tx] at ht
    rw [List.eq_of_mem_replicate ht]
    unfold TxP; decide
def stepM : Cells := ⟨4, true, false, List.replicate 16 8, (List.range 16).map fun j => ((j : Nat) : Int), List.replicate 16 false, 32, 0⟩
def stepO : List Int := stepM.passS 16 16 stepL 16
theorem stepO_at : stepO.getD 80 0 = 100 ∧ stepO.getD 95 0 = 104 ∧ stepO.getD 87 0 > 100 ∧ stepO.getD 88 0 < 104 := by decide +kernel
theorem stepL_len : stepL.length = 256 := by simp [stepL]
theorem stepO_len : stepO.length = 256 := (Cells.passS_len ..).trans stepL_len
section
variable {f : Fr3} {s : SideV}
theorem step_whole (hf : StepIs f) : WholeF f := by
  unfold WholeF
  rw [hf.w0, hf.h0, hf.x0, hf.w1, hf.h1, hf.x1, hf.w2, hf.h2, hf.x2, stepL_len, List.length_replicate]
  decide
theorem step_runP (hf : StepIs f) (hs : BareIs s 8) (L : List Int) : RunP f s hdW L := by
  have hw := step_whole hf
  refine ⟨hw, by rw [hf.w0]; rfl, by rw [hf.h0]; rfl, .inr ⟨fun n hn => ?_, ?_, fun n hn h => ?_⟩⟩
  · rcases lt3 hn with rfl | rfl | rfl
    · have e : ∀ lv, 0 ≤ lv ∧ lv ≤ 63 → PassP (f.at 0) (s.map 0) lv hdW.h22 := fun lv hl => by
        show PassOk f.p0.w f.p0.h f.p0.xs.length s.m0.w s.m0.h s.m0.tx s.m0.ids.length s.m0.qs.length lv 0
        rw [hf.w0, hf.h0, hf.x0, stepL_len]
        exact map_pass hs.m0 _ _ _ _ _ (by decide) ⟨hl.1, hl.2, by decide, by decide⟩
      exact ⟨e _ (by decide), e _ (by decide)⟩
    · have e : ∀ lv, 0 ≤ lv ∧ lv ≤ 63 → PassP (f.at 1) (s.map 1) lv hdW.h22 := fun lv hl => by
        show PassOk f.p1.w f.p1.h f.p1.xs.length s.m1.w s.m1.h s.m1.tx s.m1.ids.length s.m1.qs.length lv 0
        rw [hf.w1, hf.h1, hf.x1, List.length_replicate]
        exact map_pass hs.m1 _ _ _ _ _ (by decide) ⟨hl.1, hl.2, by decide, by decide⟩
      exact ⟨e _ (by decide), e _ (by decide)⟩
    · have e : ∀ lv, 0 ≤ lv ∧ lv ≤ 63 → PassP (f.at 2) (s.map 2) lv hdW.h22 := fun lv hl => by
        show PassOk f.p2.w f.p2.h f.p2.xs.length s.m2.w s.m2.h s.m2.tx s.m2.ids.length s.m2.qs.length lv 0
        rw [hf.w2, hf.h2, hf.x2, List.length_replicate]
        exact map_pass hs.m2 _ _ _ _ _ (by decide) ⟨hl.1, hl.2, by decide, by decide⟩
      exact ⟨e _ (by decide), e _ (by decide)⟩
  · refine ⟨hw, by rw [hf.w0]; rfl, by rw [hf.h0]; rfl, ?_, ?_, fun h => by cases h⟩
    · rw [hs.qs, hf.w0, hf.h0]; rfl
    · rw [hs.ws, hf.w0, hf.h0]; rfl
  · rcases lt3 hn with rfl | rfl | rfl <;> cases h
theorem step_g (L : List Int) (n : Nat) (hn : n < 3) : runS f s hdW L n = g1 f s hdW n := by
  unfold runS
  rw [if_neg (by decide)]
  unfold restG
  rw [if_neg (by rcases lt3 hn with rfl | rfl | rfl <;> decide)]
  unfold g2 outF
  rw [if_neg (by decide)]
  rcases lt3 hn with rfl | rfl | rfl <;> rfl
theorem step_g0 (hf : StepIs f) (hs : BareIs s 8) : g1 f s hdW 0 = stepO := by
  show ly2 f.p0 s.m0 0 hdW = stepO
  unfold ly2
  rw [Cells.pass_zero _ _ _ rfl]
  unfold up1 stepO
  rw [hf.w0, hf.h0, hf.x0]
  have e : mOf s.m0 true 0 (lv1 hdW 0) hdW.h22 = stepM := by
    show (⟨s.m0.w.toNat, true, false, s.m0.tx, s.m0.ids, s.m0.qs, 32, 0⟩ : Cells) = stepM
    rw [hs.m0.w, hs.m0.tx, hs.m0.ids, hs.m0.qs]
    rfl
  rw [e, hs.m0.tx, List.length_replicate]
  rfl
theorem step_g1 (hf : StepIs f) : g1 f s hdW 1 = List.replicate 64 50 := by
  show ly2 f.p1 s.m1 1 hdW = _
  unfold ly2
  rw [Cells.pass_zero _ _ _ rfl]
  unfold up1
  rw [Cells.pass_zero _ _ _ rfl, hf.x1]
end
theorem works_ok (lo : Nat) (M : Mem) (hlo : lo ≤ M.length) : Ac P T lo F.zoetropelaw25_works [] M fun r => ∃ M', r = (.bool true, M') ∧ Pre M M' := by
  refine Ac.of (Evp.of_eq (fun k => zoetropelaw25_works.entry k ..) ?_)
  refine Evp.ob (step_ok lo M hlo) ?_
  rintro _ ⟨f, M1, rfl, p1, hf, sf⟩
  simp only [ret_int, ret_bool, ret_flt, ret_slc, ret_str, ret_ptr, ret_agg, ret_tup, ob_some, bb_true, bb_false, List.getElem?_cons_zero, List.getElem?_cons_succ, List.length_cons, List.length_nil, Nat.reduceAdd, Nat.reduceLT]
  have l1 := p1.len
  refine Evp.ob (bare16_ok lo 8 M1 (by omega)) ?_
  rintro _ ⟨s, M2, rfl, p2, hs, bs⟩
  simp only [ret_int, ret_bool, ret_flt, ret_slc, ret_str, ret_ptr, ret_agg, ret_tup, ob_some, bb_true, bb_false, List.getElem?_cons_zero, List.getElem?_cons_succ, List.length_cons, List.length_nil, Nat.reduceAdd, Nat.reduceLT]
  have l2 := p2.len
  have hf2 : FrIn M2 f := hf.pre p2
  refine Evp.ob (run_ok lo f s hdW [] M2 (by omega) hf2 hs Rd.zero (by unfold HdWf; decide)) ?_
  rintro ⟨v, M3⟩ ⟨p3, hr⟩
  rcases hr with ⟨_, b, ad, cc, gg, rfl, own, eg⟩ | ⟨hno, _⟩
  rotate_left
  · exact absurd (step_runP sf bs []) hno
  simp only [ret_int, ret_bool, ret_flt, ret_slc, ret_str, ret_ptr, ret_agg, ret_tup, ob_some, bb_true, bb_false, List.getElem?_cons_zero, List.getElem?_cons_succ, List.length_cons, List.length_nil, Nat.reduceAdd, Nat.reduceLT]
  have e0 : gg 0 = stepO := by rw [eg 0 (by omega), step_g [] 0 (by omega), step_g0 sf bs]
  have e1 : gg 1 = List.replicate 64 50 := by rw [eg 1 (by omega), step_g [] 1 (by omega), step_g1 sf]
  have r0 := (own.buf 0 (by omega)).rdI
  have r1 := (own.buf 1 (by omega)).rdI
  obtain ⟨v0, v1, v2, v3⟩ := stepO_at
  refine Evp.ff rfl ?_
  rw [e0] at r0 ⊢
  rw [e1] at r1 ⊢
  rw [stepO_len, List.length_replicate]
  have ld : ∀ i, i < 256 → (M3.ld (plus (ad 0) i)).bind (Value.int? .u8) = some (stepO.getD i 0) := fun i hi => by
    obtain ⟨a, ea, _, h⟩ := r0.ld (i := i) (by rw [stepO_len]; exact hi)
    injection ea with ea; subst ea
    rw [h]; rfl
  refine Evp.ff rfl (Evp.pos (by decide) (Evp.some rfl (Evp.some (ld 80 (by decide)) ?_)))
  refine Evp.tt (by rw [v0]; rfl) (Evp.pos (by decide) (Evp.some rfl (Evp.some (ld 95 (by decide)) ?_)))
  refine Evp.tt (by rw [v1]; rfl) (Evp.pos (by decide) (Evp.some rfl (Evp.some (ld 87 (by decide)) ?_)))
  refine Evp.tt (decide_eq_true v2) (Evp.pos (by decide) (Evp.some rfl (Evp.some (ld 88 (by decide)) ?_)))
  refine Evp.tt (decide_eq_true v3) (Evp.pos (by decide) (Evp.some rfl ?_))
  obtain ⟨a, ea, _, h⟩ := r1.ld (i := 0) (by simp)
  injection ea with ea; subst ea
  rw [plus_zero] at h
  rw [h]
  exact Evp.some (b := 50) rfl (Evp.ret (Run.ret ⟨M3, rfl, (p1.trans p2).trans p3⟩))
end Go.Zt
