/- What the law ChainKnown needs of the text Fu. -/
import Derived.Test.YtbbfdebfhgdciaaPFt
import Derived.Test.YtbbfdebfhgdciaaPArg
set_option linter.unusedVariables false
set_option linter.unusedSimpArgs false
set_option maxRecDepth 100000
set_option maxHeartbeats 4000000
namespace Go.Zt
theorem eqBytes_loop (lo : Nat) (A A' : Option Addr) (c c' : Nat) (xs ys : List Int) (M : Mem) (hx : RdI M .u8 A xs) (hy : RdI M .u8 A' ys) (hl : xs.length = ys.length) (hn : xs.length ≤ 140737488351232) :
    ∀ (d i : Nat), xs.length - i = d → i ≤ xs.length → (∀ j, j < i → xs.getD j 0 = ys.getD j 0) → Run P T lo F.zoetroperef00_EqBytes (zoetroperef00_EqBytes.c116 A xs.length c A' ys.length c' i M) fun r => r = (.bool (decide (xs = ys)), M) := by
  intro d
  induction d with
  | zero =>
    intro i hd hi hj
    refine Run.cut (Evp.of_eq (fun k => zoetroperef00_EqBytes.p116 k ..) ?_)
    refine Evp.dec (fun h => absurd h (by omega)) fun _ => Evp.ret (Run.ret ?_)
    rw [decide_eq_true (eq_of_getD hl fun j h => hj j (by omega))]
  | succ d ih =>
    intro i hd hi hj
    refine Run.cut (Evp.of_eq (fun k => zoetroperef00_EqBytes.p116 k ..) ?_)
    refine Evp.dec (fun _ => ?_) fun h => absurd h (by omega)
    refine Evp.pos (by omega) ?_
    simp only [Int.toNat_natCast]
    refine Evp.ldI hx (by omega) fun a _ => ?_
    refine Evp.pos (by omega) ?_
    refine Evp.ldI hy (by omega) fun a' _ => ?_
    refine Evp.neb (fun hne => Evp.ret (Run.ret ?_)) fun he => ?_
    · rw [decide_eq_false (fun e => hne (by rw [e]))]
    · rw [w64 (by omega)]
      exact Evp.ret (ih (i + 1) (by omega) (by omega) fun j h => by
        by_cases hji : j = i
        · subst hji; exact he
        · exact hj j (by omega))
theorem eqBytes_ok (lo : Nat) (A A' : Option Addr) (c c' : Nat) (xs ys : List Int) (M : Mem) (hx : RdI M .u8 A xs) (hy : RdI M .u8 A' ys) (hn : xs.length ≤ 140737488351232) :
    Ac P T lo F.zoetroperef00_EqBytes [.slice A xs.length c, .slice A' ys.length c'] M fun r => r = (.bool (decide (xs = ys)), M) := by
  refine Ac.of (Evp.of_eq (fun k => zoetroperef00_EqBytes.entry k ..) ?_)
  refine Evp.neb (fun h => Evp.ret (Run.ret ?_)) fun h => ?_
  · rw [decide_eq_false (fun e => h (by rw [e]))]
  · exact Evp.ret (eqBytes_loop lo A A' c c' xs ys M hx hy (by omega) hn _ 0 rfl (by omega) fun j h => by omega)
theorem wfK (b l0 l1 l2 l3 sh : Int) (r : Bool) : HdWf (hdK b l0 l1 l2 l3 sh 0 r) := by unfold HdWf; show ∀ x ∈ [(0 : Int), 0, 0, 0, 0], _; decide
theorem wfK1 : HdWf (hdK 0 0 0 0 0 0 1 false) := by unfold HdWf; show ∀ x ∈ [(0 : Int), 0, 0, 0, 1], _; decide
theorem noL {b l0 l1 l2 l3 sh d : Int} {r : Bool} (h : b ≠ 0 ∨ d ≠ 0) : ¬ LossP (hdK b l0 l1 l2 l3 sh d r) := fun e => by
  rcases h with h | h
  · exact h e.1
  · have := e.2
    have : d = 0 := by injection this with _ q; injection q with _ q; injection q with _ q; injection q with _ q; injection q with q
    exact h this
theorem isL : LossP (hdK 0 0 0 0 0 0 0 false) := ⟨rfl, rfl⟩
def badS (s : SideV) (A : Option Addr) : SideV := { s with u1 := ⟨A, [u0, u0], 2⟩ }
theorem badS_ok {s : SideV} {M : Mem} (h : SideOk M s) : SideOk (M ++ [⟨.fx, [.bool false, .int .i64 0, .int .i64 0, .int .i64 0, .int .i64 0, .int .i64 0, .int .i64 0, .bool false, .int .i64 0, .int .i64 0, .int .i64 0, .int .i64 0, .int .i64 0, .int .i64 0]⟩] : Mem) (badS s (some ⟨M.length, 0, none⟩)) := by
  have h' := h.pre (Pre.app M [⟨.fx, [.bool false, .int .i64 0, .int .i64 0, .int .i64 0, .int .i64 0, .int .i64 0, .int .i64 0, .bool false, .int .i64 0, .int .i64 0, .int .i64 0, .int .i64 0, .int .i64 0, .int .i64 0]⟩])
  refine ⟨fun n => ?_, h'.q, h'.v, h'.nv, fun n => ?_⟩
  · match n with
    | 0 => exact h'.m 0
    | 1 => exact h'.m 1
    | n + 2 => exact h'.m 2
  · match n with
    | 0 => exact h'.u 0
    | 1 =>
      refine ⟨?_, fun x hx => ?_, by show (2 : Nat) ≤ _; decide⟩
      · exact Rd.lit (M := M) (n := 2) (z := 7) (cs := cellsU [u0, u0]) rfl
      · have : x = u0 := by
          have hx : x ∈ [u0, u0] := hx
          simpa using hx
        rw [this]
        exact ⟨by decide, by decide, by decide, by decide, by decide, by decide⟩
    | n + 2 => exact h'.u 2
theorem FrW.same {f g : Fr3} {w h : Nat} {v : Int} (a : FrW f w h v) (b : FrW g w h v) : FrEq f g := fun n hn => by
  rcases lt3 hn with rfl | rfl | rfl
  · exact ⟨a.w0.trans b.w0.symm, a.h0.trans b.h0.symm, a.x0.trans b.x0.symm⟩
  · exact ⟨a.w1.trans b.w1.symm, a.h1.trans b.h1.symm, a.x1.trans b.x1.symm⟩
  · exact ⟨a.w2.trans b.w2.symm, a.h2.trans b.h2.symm, a.x2.trans b.x2.symm⟩
theorem StepIs.same {f g : Fr3} (a : StepIs f) (b : StepIs g) : FrEq f g := fun n hn => by
  rcases lt3 hn with rfl | rfl | rfl
  · exact ⟨a.w0.trans b.w0.symm, a.h0.trans b.h0.symm, a.x0.trans b.x0.symm⟩
  · exact ⟨a.w1.trans b.w1.symm, a.h1.trans b.h1.symm, a.x1.trans b.x1.symm⟩
  · exact ⟨a.w2.trans b.w2.symm, a.h2.trans b.h2.symm, a.x2.trans b.x2.symm⟩
theorem FrEq.trans {f g h : Fr3} (a : FrEq f g) (b : FrEq g h) : FrEq f h := fun n hn => ⟨(a n hn).1.trans (b n hn).1, (a n hn).2.1.trans (b n hn).2.1, (a n hn).2.2.trans (b n hn).2.2⟩
theorem FrEq.small {f g : Fr3} (a : FrEq f g) (h : ∀ n, n < 3 → (g.at n).xs.length ≤ 140737488351232) : ∀ n, n < 3 → (f.at n).xs.length ≤ 140737488351232 := fun n hn => by rw [(a n hn).2.2]; exact h n hn
theorem odd_no {f : Fr3} {s : SideV} {hd : Hd} {L : List Int} {w h : Nat} {v : Int} (a : FrW f w h v) (e : (w : Int) % 8 ≠ 0 ∨ (h : Int) % 8 ≠ 0) : ¬ RunP f s hd L := fun hP => by
  have h1 := hP.2.1
  have h2 := hP.2.2.1
  rw [a.w0] at h1
  rw [a.h0] at h2
  rcases e with e | e
  · exact e h1
  · exact e h2
theorem zero_no {s : SideV} {hd : Hd} {L : List Int} : ¬ RunP zFr s hd L := fun hP => by
  have := hP.1
  revert this
  unfold WholeF
  decide
theorem zFr_in (M : Mem) : FrIn M zFr := ⟨fun n hn => by rcases lt3 hn with rfl | rfl | rfl <;> exact RdI.nil, fun n hn x hx => by rcases lt3 hn with rfl | rfl | rfl <;> (have : x ∈ ([] : List Int) := hx; simp at this), fun n hn => by rcases lt3 hn with rfl | rfl | rfl <;> exact Nat.le_refl 0⟩
theorem loss_runP {f : Fr3} {s : SideV} {L : List Int} (hf : Dim16 f) : RunP f s (hdK 0 0 0 0 0 0 0 false) L := ⟨hf.whole, by rw [hf.w0]; rfl, by rw [hf.h0]; rfl, .inl isL⟩
theorem loss_run (f : Fr3) (s : SideV) (L : List Int) (n : Nat) : runS f s (hdK 0 0 0 0 0 0 0 false) L n = (f.at n).xs := by unfold runS; rw [if_pos isL]
theorem ChainKnown_law (M : Mem) (vs : List Value) (hro : AllRo M) (hv : LaysArgs P M [] vs) : Ac P T M.length F.zoetropelaw25_ChainKnown vs M fun r => r.1 = .bool true := by
  obtain rfl := Arg.ChainKnown hv
  obtain ⟨lo, elo⟩ : ∃ lo, lo = M.length := ⟨_, rfl⟩
  rw [← elo]
  have hlo : lo ≤ M.length := by omega
  refine Ac.of (Evp.of_eq (fun k => zoetropelaw25_ChainKnown.entry k ..) ?_)
  refine Evp.ob (frameW_ok lo 16 16 7 M hlo (by decide) (by decide)) ?_
  rintro _ ⟨f, M1, rfl, p1, hf, wf⟩
  simp only [ret_int, ret_bool, ret_flt, ret_slc, ret_str, ret_ptr, ret_agg, ret_tup, ob_some, bb_true, bb_false, List.getElem?_cons_zero, List.getElem?_cons_succ, List.length_cons, List.length_nil, Nat.reduceAdd, Nat.reduceLT]
  have l1 := p1.len
  refine Evp.ret ?_
  refine Run.cut (Evp.of_eq (fun k => zoetropelaw25_ChainKnown.p7 k ..) ?_)
  refine Evp.ob (frameW_ok lo 18 16 7 M1 (by omega) (by decide) (by decide)) ?_
  rintro _ ⟨od, M2, rfl, p2, ho, wo⟩
  simp only [ret_int, ret_bool, ret_flt, ret_slc, ret_str, ret_ptr, ret_agg, ret_tup, ob_some, bb_true, bb_false, List.getElem?_cons_zero, List.getElem?_cons_succ, List.length_cons, List.length_nil, Nat.reduceAdd, Nat.reduceLT]
  have l2 := p2.len
  refine Evp.ret ?_
  have df := wf.dim
  replace hf := hf.pre p2
  refine Run.cut (Evp.of_eq (fun k => zoetropelaw25_ChainKnown.p15 k ..) ?_)
  refine Evp.ob (run_got lo f zS (hdK 0 0 0 0 0 0 0 false) [] M2 (by omega) hf (zS_ok M2) Rd.zero (wfK _ _ _ _ _ _ _) (loss_runP df)) ?_
  rintro _ ⟨C, M3, rfl, p3, hC, eC⟩
  simp only [ret_int, ret_bool, ret_flt, ret_slc, ret_str, ret_ptr, ret_agg, ret_tup, ob_some, bb_true, bb_false, List.getElem?_cons_zero, List.getElem?_cons_succ, List.length_cons, List.length_nil, Nat.reduceAdd, Nat.reduceLT]
  have l3 := p3.len
  have qC : FrEq C f := fun n hn => ⟨(eC n hn).1, (eC n hn).2.1, (eC n hn).2.2.trans (loss_run f zS [] n)⟩
  replace hf := hf.pre p3
  replace ho := ho.pre p3
  refine Evp.ret ?_
  refine Run.cut (Evp.of_eq (fun k => zoetropelaw25_ChainKnown.p31 k ..) ?_)
  refine Evp.ob (run_not lo f zS (hdK 1 0 0 0 0 0 0 false) [] M3 (by omega) hf (zS_ok M3) Rd.zero (wfK _ _ _ _ _ _ _) (no_map (noL (.inl (by decide))) df.w0)) ?_
  rintro _ ⟨M4, rfl, p4⟩
  simp only [ret_int, ret_bool, ret_flt, ret_slc, ret_str, ret_ptr, ret_agg, ret_tup, ob_some, bb_true, bb_false, List.getElem?_cons_zero, List.getElem?_cons_succ, List.length_cons, List.length_nil, Nat.reduceAdd, Nat.reduceLT]
  have l4 := p4.len
  replace hf := hf.pre p4
  replace ho := ho.pre p4
  replace hC := hC.pre p4
  refine Evp.ret ?_
  refine Run.cut (Evp.of_eq (fun k => zoetropelaw25_ChainKnown.p63 k ..) ?_)
  refine Evp.ob (run_not lo od zS (hdK 0 0 0 0 0 0 0 false) [] M4 (by omega) ho (zS_ok M4) Rd.zero (wfK _ _ _ _ _ _ _) (odd_no wo (.inl (by decide)))) ?_
  rintro _ ⟨M5, rfl, p5⟩
  simp only [ret_int, ret_bool, ret_flt, ret_slc, ret_str, ret_ptr, ret_agg, ret_tup, ob_some, bb_true, bb_false, List.getElem?_cons_zero, List.getElem?_cons_succ, List.length_cons, List.length_nil, Nat.reduceAdd, Nat.reduceLT]
  have l5 := p5.len
  replace hf := hf.pre p5
  replace hC := hC.pre p5
  refine Evp.ret ?_
  refine Run.cut (Evp.of_eq (fun k => zoetropelaw25_ChainKnown.p127 k ..) ?_)
  refine Evp.ob (run_not lo zFr zS (hdK 0 0 0 0 0 0 0 false) [] M5 (by omega) (zFr_in M5) (zS_ok M5) Rd.zero (wfK _ _ _ _ _ _ _) zero_no) ?_
  rintro _ ⟨M6, rfl, p6⟩
  simp only [ret_int, ret_bool, ret_flt, ret_slc, ret_str, ret_ptr, ret_agg, ret_tup, ob_some, bb_true, bb_false, List.getElem?_cons_zero, List.getElem?_cons_succ, List.length_cons, List.length_nil, Nat.reduceAdd, Nat.reduceLT]
  have l6 := p6.len
  replace hf := hf.pre p6
  replace hC := hC.pre p6
  refine Evp.ret ?_
  refine Run.cut (Evp.of_eq (fun k => zoetropelaw25_ChainKnown.p255 k ..) ?_)
  refine Evp.ob (frameW_ok lo 16 18 7 M6 (by omega) (by decide) (by decide)) ?_
  rintro _ ⟨hi, M7, rfl, p7, hh, wh⟩
  simp only [ret_int, ret_bool, ret_flt, ret_slc, ret_str, ret_ptr, ret_agg, ret_tup, ob_some, bb_true, bb_false, List.getElem?_cons_zero, List.getElem?_cons_succ, List.length_cons, List.length_nil, Nat.reduceAdd, Nat.reduceLT]
  have l7 := p7.len
  replace hf := hf.pre p7
  replace hC := hC.pre p7
  refine Evp.ret ?_
  refine Run.cut (Evp.of_eq (fun k => zoetropelaw25_ChainKnown.p511 k ..) ?_)
  refine Evp.ob (run_not lo hi zS (hdK 0 0 0 0 0 0 0 false) [] M7 (by omega) hh (zS_ok M7) Rd.zero (wfK _ _ _ _ _ _ _) (odd_no wh (.inr (by decide)))) ?_
  rintro _ ⟨M8, rfl, p8⟩
  simp only [ret_int, ret_bool, ret_flt, ret_slc, ret_str, ret_ptr, ret_agg, ret_tup, ob_some, bb_true, bb_false, List.getElem?_cons_zero, List.getElem?_cons_succ, List.length_cons, List.length_nil, Nat.reduceAdd, Nat.reduceLT]
  have l8 := p8.len
  replace hf := hf.pre p8
  replace hC := hC.pre p8
  refine Evp.ret ?_
  refine Run.cut (Evp.of_eq (fun k => zoetropelaw25_ChainKnown.p1023 k ..) ?_)
  refine Evp.ff rfl (Evp.ret ?_)
  refine Run.cut (Evp.of_eq (fun k => zoetropelaw25_ChainKnown.p4093 k ..) ?_)
  refine Evp.ff rfl (Evp.ret ?_)
  refine Run.cut (Evp.of_eq (fun k => zoetropelaw25_ChainKnown.p2047 k ..) ?_)
  refine Evp.ob (bare16_ok M8.length 4 M8 (Nat.le_refl _)) ?_
  rintro _ ⟨s, M9, rfl, p9, hs, bs⟩
  simp only [ret_int, ret_bool, ret_flt, ret_slc, ret_str, ret_ptr, ret_agg, ret_tup, ob_some, bb_true, bb_false, List.getElem?_cons_zero, List.getElem?_cons_succ, List.length_cons, List.length_nil, Nat.reduceAdd, Nat.reduceLT]
  have l9 := p9.len
  replace hf := hf.pre p9
  replace hC := hC.pre p9
  have hP : RunP f s (hdK 1 63 63 63 63 0 0 false) [] := bare_runP 1 63 63 63 63 0 df bs.m0 bs.m1 bs.m2 bs.qs bs.ws (by decide) (by decide) (by decide) (by decide) (by decide)
  refine Evp.ob (run_got lo f s (hdK 1 63 63 63 63 0 0 false) [] M9 (by omega) hf hs Rd.zero (wfK _ _ _ _ _ _ _) hP) ?_
  rintro _ ⟨I, M10, rfl, p10, hI, eI⟩
  simp only [ret_int, ret_bool, ret_flt, ret_slc, ret_str, ret_ptr, ret_agg, ret_tup, ob_some, bb_true, bb_false, List.getElem?_cons_zero, List.getElem?_cons_succ, List.length_cons, List.length_nil, Nat.reduceAdd, Nat.reduceLT]
  have l10 := p10.len
  replace hf := hf.pre p10
  replace hC := hC.pre p10
  have qI : FrEq I f := fun n hn => ⟨(eI n hn).1, (eI n hn).2.1, (eI n hn).2.2.trans (run_flat hP (wf.flat (by decide)) n hn)⟩
  clear hs bs hP eI eC s
  refine Evp.ret ?_
  have sm := df.small
  refine Run.cut (Evp.of_eq (fun k => zoetropelaw25_ChainKnown.p4095 k ..) ?_)
  refine Evp.tt rfl (Evp.tt rfl (Evp.tt rfl (Evp.tt rfl (Evp.tt rfl (Evp.tt rfl (Evp.tt rfl ?_))))))
  refine Evp.ob (same25_ok lo C f M10 hC hf (qC.small sm)) ?_
  rintro _ rfl
  simp only [ret_int, ret_bool, ret_flt, ret_slc, ret_str, ret_ptr, ret_agg, ret_tup, ob_some, bb_true, bb_false, List.getElem?_cons_zero, List.getElem?_cons_succ, List.length_cons, List.length_nil, Nat.reduceAdd, Nat.reduceLT]
  refine Evp.tt (decide_eq_true qC) ?_
  refine Evp.ob (same25_ok lo I f M10 hI hf (qI.small sm)) ?_
  rintro _ rfl
  simp only [ret_int, ret_bool, ret_flt, ret_slc, ret_str, ret_ptr, ret_agg, ret_tup, ob_some, bb_true, bb_false, List.getElem?_cons_zero, List.getElem?_cons_succ, List.length_cons, List.length_nil, Nat.reduceAdd, Nat.reduceLT]
  rw [decide_eq_true qI]
  refine Evp.ret ?_
  clear hI hC qI qC
  refine Run.cut (Evp.of_eq (fun k => zoetropelaw25_ChainKnown.p8191 k ..) ?_)
  refine Evp.ob (step_ok lo M10 (by omega)) ?_
  rintro _ ⟨g, M11, rfl, p11, hg, sg⟩
  simp only [ret_int, ret_bool, ret_flt, ret_slc, ret_str, ret_ptr, ret_agg, ret_tup, ob_some, bb_true, bb_false, List.getElem?_cons_zero, List.getElem?_cons_succ, List.length_cons, List.length_nil, Nat.reduceAdd, Nat.reduceLT]
  have l11 := p11.len
  refine Evp.ob (bare16_ok lo 8 M11 (by omega)) ?_
  rintro _ ⟨s, M12, rfl, p12, hs, bs⟩
  simp only [ret_int, ret_bool, ret_flt, ret_slc, ret_str, ret_ptr, ret_agg, ret_tup, ob_some, bb_true, bb_false, List.getElem?_cons_zero, List.getElem?_cons_succ, List.length_cons, List.length_nil, Nat.reduceAdd, Nat.reduceLT]
  have l12 := p12.len
  refine Evp.ob (run_got lo g s hdW [] M12 (by omega) (hg.pre p12) hs Rd.zero (by unfold HdWf; decide) (step_runP sg bs [])) ?_
  rintro _ ⟨X, M13, rfl, p13, hX, eX⟩
  simp only [ret_int, ret_bool, ret_flt, ret_slc, ret_str, ret_ptr, ret_agg, ret_tup, ob_some, bb_true, bb_false, List.getElem?_cons_zero, List.getElem?_cons_succ, List.length_cons, List.length_nil, Nat.reduceAdd, Nat.reduceLT]
  have l13 := p13.len
  have x0 : X.p0.xs = stepO := (eX 0 (by omega)).2.2.trans ((step_g [] 0 (by omega)).trans (step_g0 sg bs))
  replace hf := ((hf.pre p11).pre p12).pre p13
  clear hs bs eX s hg sg g
  refine Evp.ret ?_
  refine Run.cut (Evp.of_eq (fun k => zoetropelaw25_ChainKnown.p16383 k ..) ?_)
  refine Evp.ob (step_ok lo M13 (by omega)) ?_
  rintro _ ⟨g, M14, rfl, p14, hg, sg⟩
  simp only [ret_int, ret_bool, ret_flt, ret_slc, ret_str, ret_ptr, ret_agg, ret_tup, ob_some, bb_true, bb_false, List.getElem?_cons_zero, List.getElem?_cons_succ, List.length_cons, List.length_nil, Nat.reduceAdd, Nat.reduceLT]
  have l14 := p14.len
  refine Evp.ob (bare16_ok lo 8 M14 (by omega)) ?_
  rintro _ ⟨s, M15, rfl, p15, hs, bs⟩
  simp only [ret_int, ret_bool, ret_flt, ret_slc, ret_str, ret_ptr, ret_agg, ret_tup, ob_some, bb_true, bb_false, List.getElem?_cons_zero, List.getElem?_cons_succ, List.length_cons, List.length_nil, Nat.reduceAdd, Nat.reduceLT]
  have l15 := p15.len
  have hL : RunP g s hdL [] := bare_runP 1 0 32 32 32 0 sg.dim bs.m0 bs.m1 bs.m2 bs.qs bs.ws (by decide) (by decide) (by decide) (by decide) (by decide)
  have hLp : PassesP g s hdL := bare_passes 1 0 32 32 32 0 false sg.dim bs.m0 bs.m1 bs.m2 (by decide) (by decide) (by decide) (by decide) (by decide)
  refine Evp.ob (run_got lo g s hdL [] M15 (by omega) (hg.pre p15) hs Rd.zero (wfK _ _ _ _ _ _ _) hL) ?_
  rintro _ ⟨Y, M16, rfl, p16, hY, eY⟩
  simp only [ret_int, ret_bool, ret_flt, ret_slc, ret_str, ret_ptr, ret_agg, ret_tup, ob_some, bb_true, bb_false, List.getElem?_cons_zero, List.getElem?_cons_succ, List.length_cons, List.length_nil, Nat.reduceAdd, Nat.reduceLT]
  have l16 := p16.len
  have qY : FrEq Y g := fun n hn => ⟨(eY n hn).1, (eY n hn).2.1, (eY n hn).2.2.trans (lying_run sg bs hLp n hn)⟩
  replace hf := ((hf.pre p14).pre p15).pre p16
  replace hX := ((hX.pre p14).pre p15).pre p16
  clear hs bs eY hL hLp s
  refine Evp.ret ?_
  refine Run.cut (Evp.of_eq (fun k => zoetropelaw25_ChainKnown.p32767 k ..) ?_)
  refine Evp.ff rfl (Evp.ff rfl ?_)
  refine Evp.ob (step_ok M16.length M16 (Nat.le_refl _)) ?_
  rintro _ ⟨g', M17, rfl, p17, hg', sg'⟩
  simp only [ret_int, ret_bool, ret_flt, ret_slc, ret_str, ret_ptr, ret_agg, ret_tup, ob_some, bb_true, bb_false, List.getElem?_cons_zero, List.getElem?_cons_succ, List.length_cons, List.length_nil, Nat.reduceAdd, Nat.reduceLT]
  have l17 := p17.len
  have qY' := qY.trans (sg.same sg')
  replace hf := hf.pre p17
  replace hX := hX.pre p17
  refine Evp.ob (same25_ok lo Y g' M17 (hY.pre p17) hg' (qY'.small sg'.dim.small)) ?_
  rintro _ rfl
  simp only [ret_int, ret_bool, ret_flt, ret_slc, ret_str, ret_ptr, ret_agg, ret_tup, ob_some, bb_true, bb_false, List.getElem?_cons_zero, List.getElem?_cons_succ, List.length_cons, List.length_nil, Nat.reduceAdd, Nat.reduceLT]
  refine Evp.ff (by rw [decide_eq_true qY']; rfl) ?_
  have xl : X.p0.xs.length = 256 := by rw [x0, stepO_len]
  refine Evp.neb (fun h => absurd (by rw [xl]; rfl) h) fun _ => ?_
  have xc : X.p0.xs.length ≤ X.p0.c := hX.cap 0 (by omega)
  refine Evp.pos (by omega) ?_
  have rX : RdI M17 .u8 X.p0.A X.p0.xs := hX.rd 0 (by omega)
  have rS := RdI.slAddr (l := 32) (h := 48) rX (by omega) (by omega) xc
  rw [x0, stepO_known] at rS
  have pk : Pre M17 (M17 ++ [⟨.fx, knownL.map (Value.int .u8)⟩] : Mem) := Pre.app _ _
  have key : Ac P T lo F.zoetroperef00_EqBytes [.slice (slAddr 1 X.p0.A 32 X.p0.c) 16 (X.p0.c - 32), .slice (some ⟨M17.length, 0, none⟩) 16 16] (M17 ++ [⟨.fx, knownL.map (Value.int .u8)⟩] : Mem) fun r => r = (.bool true, (M17 ++ [⟨.fx, knownL.map (Value.int .u8)⟩] : Mem)) := by
    have h := eqBytes_ok lo (slAddr 1 X.p0.A 32 X.p0.c) (some ⟨M17.length, 0, none⟩) (X.p0.c - 32) 16 knownL knownL (M17 ++ [⟨.fx, knownL.map (Value.int .u8)⟩] : Mem) (rS.pre pk) (RdI.lit knownL) (by decide)
    rw [decide_eq_true (show knownL = knownL from rfl)] at h
    exact h
  refine Evp.ob key ?_
  rintro _ rfl
  simp only [ret_int, ret_bool, ret_flt, ret_slc, ret_str, ret_ptr, ret_agg, ret_tup, ob_some, bb_true, bb_false, List.getElem?_cons_zero, List.getElem?_cons_succ, List.length_cons, List.length_nil, Nat.reduceAdd, Nat.reduceLT]
  refine Evp.ret ?_
  clear key hX hY hg hg' sg sg' qY qY' x0 xl xc rX rS
  replace hf := hf.pre pk
  obtain ⟨M18, eM⟩ : ∃ M18 : Mem, M18 = M17 ++ [⟨.fx, knownL.map (Value.int .u8)⟩] := ⟨_, rfl⟩
  have l18 : lo ≤ M18.length := by rw [eM]; simp; omega
  rw [← eM] at hf
  show Run P T lo _ (zoetropelaw25_ChainKnown.c131069 true (!true) f.p0.w f.p0.h f.p0.A f.p0.xs.length f.p0.c f.p1.w f.p1.h f.p1.A f.p1.xs.length f.p1.c f.p2.w f.p2.h f.p2.A f.p2.xs.length f.p2.c (M17 ++ [⟨.fx, knownL.map (Value.int .u8)⟩])) _
  rw [← eM]
  clear eM pk
  refine Run.cut (Evp.of_eq (fun k => zoetropelaw25_ChainKnown.p131069 k ..) ?_)
  refine Evp.ff rfl (Evp.ret ?_)
  refine Run.cut (Evp.of_eq (fun k => zoetropelaw25_ChainKnown.p65535 k ..) ?_)
  refine Evp.ob (bare16_ok lo 8 M18 (by omega)) ?_
  rintro _ ⟨s, M19, rfl, p19, hs, bs⟩
  simp only [ret_int, ret_bool, ret_flt, ret_slc, ret_str, ret_ptr, ret_agg, ret_tup, ob_some, bb_true, bb_false, List.getElem?_cons_zero, List.getElem?_cons_succ, List.length_cons, List.length_nil, Nat.reduceAdd, Nat.reduceLT]
  have l19 := p19.len
  replace hf := hf.pre p19
  refine Evp.ret ?_
  refine Run.cut (Evp.of_eq (fun k => zoetropelaw25_ChainKnown.p131071 k ..) ?_)
  refine Evp.ret ?_
  replace hs := badS_ok hs
  replace hf := hf.pre (Pre.app M19 [⟨.fx, [.bool false, .int .i64 0, .int .i64 0, .int .i64 0, .int .i64 0, .int .i64 0, .int .i64 0, .bool false, .int .i64 0, .int .i64 0, .int .i64 0, .int .i64 0, .int .i64 0, .int .i64 0]⟩])
  obtain ⟨s', es'⟩ : ∃ s', s' = badS s (some ⟨M19.length, 0, none⟩) := ⟨_, rfl⟩
  obtain ⟨M20, eM⟩ : ∃ M20 : Mem, M20 = M19 ++ [⟨.fx, [.bool false, .int .i64 0, .int .i64 0, .int .i64 0, .int .i64 0, .int .i64 0, .int .i64 0, .bool false, .int .i64 0, .int .i64 0, .int .i64 0, .int .i64 0, .int .i64 0, .int .i64 0]⟩] := ⟨_, rfl⟩
  have l20 : lo ≤ M20.length := by rw [eM]; simp; omega
  rw [← eM, ← es'] at hs
  rw [← eM] at hf ⊢
  refine Run.cut (Evp.of_eq (fun k => zoetropelaw25_ChainKnown.p262143 k ..) ?_)
  have hP : RunP f s' (hdK 1 0 0 0 0 0 0 false) [] := by
    rw [es']
    exact bare_runP (s := badS s _) 1 0 0 0 0 0 df bs.m0 bs.m1 bs.m2 bs.qs bs.ws (by decide) (by decide) (by decide) (by decide) (by decide)
  have hU : s'.u1.us.length = 2 := by rw [es']; rfl
  have cs' : ∀ hd : Hd, ∀ Q : Value × Mem → Prop, ∀ M', Ac P T lo F.chain_Run [.agg ⟨f.cells⟩, .agg ⟨hd.cells⟩, .agg ⟨s'.cells⟩] M' Q → Ac P T lo F.chain_Run [.agg ⟨f.cells⟩, .agg ⟨hd.cells⟩, .agg ⟨(badS s (some ⟨M19.length, 0, none⟩)).cells⟩] M' Q := fun hd Q M' h => by rw [← es']; exact h
  refine Evp.ob (cs' _ _ _ (run_got lo f s' (hdK 1 0 0 0 0 0 0 false) [] M20 (by omega) hf hs Rd.zero (wfK _ _ _ _ _ _ _) hP)) ?_
  rintro _ ⟨X, M21, rfl, p21, hX, eX⟩
  simp only [ret_int, ret_bool, ret_flt, ret_slc, ret_str, ret_ptr, ret_agg, ret_tup, ob_some, bb_true, bb_false, List.getElem?_cons_zero, List.getElem?_cons_succ, List.length_cons, List.length_nil, Nat.reduceAdd, Nat.reduceLT]
  have l21 := p21.len
  replace hf := hf.pre p21
  replace hs := hs.pre p21
  refine Evp.ret ?_
  refine Run.cut (Evp.of_eq (fun k => zoetropelaw25_ChainKnown.p524287 k ..) ?_)
  refine Evp.ob (cs' _ _ _ (run_not lo f s' (hdK 1 0 0 0 0 0 0 true) [] M21 (by omega) hf hs Rd.zero (wfK _ _ _ _ _ _ _) (no_units (noL (.inl (by decide))) rfl df hU))) ?_
  rintro _ ⟨M22, rfl, p22⟩
  simp only [ret_int, ret_bool, ret_flt, ret_slc, ret_str, ret_ptr, ret_agg, ret_tup, ob_some, bb_true, bb_false, List.getElem?_cons_zero, List.getElem?_cons_succ, List.length_cons, List.length_nil, Nat.reduceAdd, Nat.reduceLT]
  have l22 := p22.len
  replace hf := hf.pre p22
  clear hs cs' hU hP es' eM bs hX eX
  refine Evp.ret ?_
  refine Run.cut (Evp.of_eq (fun k => zoetropelaw25_ChainKnown.p1048575 k ..) ?_)
  refine Evp.ob (bare16_ok M22.length 8 M22 (Nat.le_refl _)) ?_
  rintro _ ⟨s3, M23, rfl, p23, hs3, bs3⟩
  simp only [ret_int, ret_bool, ret_flt, ret_slc, ret_str, ret_ptr, ret_agg, ret_tup, ob_some, bb_true, bb_false, List.getElem?_cons_zero, List.getElem?_cons_succ, List.length_cons, List.length_nil, Nat.reduceAdd, Nat.reduceLT]
  have l23 := p23.len
  replace hf := hf.pre p23
  refine Evp.ob (run_not lo f s3 (hdK 1 0 0 0 64 0 0 false) [] M23 (by omega) hf hs3 Rd.zero (wfK _ _ _ _ _ _ _) (no_level (noL (.inl (by decide))) rfl)) ?_
  rintro _ ⟨M24, rfl, p24⟩
  simp only [ret_int, ret_bool, ret_flt, ret_slc, ret_str, ret_ptr, ret_agg, ret_tup, ob_some, bb_true, bb_false, List.getElem?_cons_zero, List.getElem?_cons_succ, List.length_cons, List.length_nil, Nat.reduceAdd, Nat.reduceLT]
  have l24 := p24.len
  replace hf := hf.pre p24
  clear hs3 bs3
  refine Evp.ret ?_
  refine Run.cut (Evp.of_eq (fun k => zoetropelaw25_ChainKnown.p2097151 k ..) ?_)
  refine Evp.ob (bare16_ok M24.length 8 M24 (Nat.le_refl _)) ?_
  rintro _ ⟨s4, M25, rfl, p25, hs4, bs4⟩
  simp only [ret_int, ret_bool, ret_flt, ret_slc, ret_str, ret_ptr, ret_agg, ret_tup, ob_some, bb_true, bb_false, List.getElem?_cons_zero, List.getElem?_cons_succ, List.length_cons, List.length_nil, Nat.reduceAdd, Nat.reduceLT]
  have l25 := p25.len
  replace hf := hf.pre p25
  refine Evp.ob (run_not lo f s4 (hdK 1 0 0 0 0 8 0 false) [] M25 (by omega) hf hs4 Rd.zero (wfK _ _ _ _ _ _ _) (no_sharp (noL (.inl (by decide))) rfl)) ?_
  rintro _ ⟨M26, rfl, p26⟩
  simp only [ret_int, ret_bool, ret_flt, ret_slc, ret_str, ret_ptr, ret_agg, ret_tup, ob_some, bb_true, bb_false, List.getElem?_cons_zero, List.getElem?_cons_succ, List.length_cons, List.length_nil, Nat.reduceAdd, Nat.reduceLT]
  have l26 := p26.len
  replace hf := hf.pre p26
  clear hs4 bs4
  refine Evp.ret ?_
  refine Run.cut (Evp.of_eq (fun k => zoetropelaw25_ChainKnown.p4194303 k ..) ?_)
  refine Evp.ob (run_not lo f zS (hdK 0 0 0 0 0 0 1 false) [] M26 (by omega) hf (zS_ok M26) Rd.zero wfK1 (no_map (noL (.inr (by decide))) df.w0)) ?_
  rintro _ ⟨M27, rfl, p27⟩
  simp only [ret_int, ret_bool, ret_flt, ret_slc, ret_str, ret_ptr, ret_agg, ret_tup, ob_some, bb_true, bb_false, List.getElem?_cons_zero, List.getElem?_cons_succ, List.length_cons, List.length_nil, Nat.reduceAdd, Nat.reduceLT]
  have l27 := p27.len
  refine Evp.ret ?_
  refine Run.cut (Evp.of_eq (fun k => zoetropelaw25_ChainKnown.p8388607 k ..) ?_)
  refine Evp.ob (works_ok lo M27 (by omega)) ?_
  rintro _ ⟨M28, rfl, p28⟩
  simp only [ret_int, ret_bool, ret_flt, ret_slc, ret_str, ret_ptr, ret_agg, ret_tup, ob_some, bb_true, bb_false, List.getElem?_cons_zero, List.getElem?_cons_succ, List.length_cons, List.length_nil, Nat.reduceAdd, Nat.reduceLT]
  refine Evp.tt rfl (Evp.tt rfl (Evp.tt rfl (Evp.tt rfl (Evp.tt rfl (Evp.tt rfl (Evp.ret ?_))))))
  refine Run.cut (Evp.of_eq (fun k => zoetropelaw25_ChainKnown.p16777215 k ..) ?_)
  exact Evp.ret (Run.ret rfl)
end Go.Zt
