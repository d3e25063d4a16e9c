/- What the law ChainSteps needs of the text Fl. -/
import Derived.Test.YtbbfdebfhgdciaaPFk
set_option linter.unusedVariables false
set_option linter.unusedSimpArgs false
set_option maxRecDepth 100000
set_option maxHeartbeats 4000000
namespace Go.Zt
abbrev hdOff (hd : Hd) : Hd := { hd with cdef := false, h27 := false, h28 := false, h29 := false }
theorem frB_at (f : Fr3) (ad : Nat → Addr) (cc : Nat → Nat) (g : Nat → List Int) (n : Nat) (hn : n < 3) : ((frB f ad cc g).at n).w = (f.at n).w ∧ ((frB f ad cc g).at n).h = (f.at n).h ∧ ((frB f ad cc g).at n).xs = g n := by
  rcases lt3 hn with rfl | rfl | rfl <;> exact ⟨rfl, rfl, rfl⟩
theorem off_g (f : Fr3) (s : SideV) (hd : Hd) (L : List Int) (n : Nat) (hn : n < 3) : restG f s (hdOff hd) (g2 f s (hdOff hd) L) (g1 f s (hdOff hd)) n = g1 f s hd n := by
  unfold restG
  rw [if_neg (by rcases lt3 hn with rfl | rfl | rfl <;> (show ¬ (false = true); decide))]
  unfold g2 outF
  rw [if_neg (by show ¬ (false = true); decide)]
  rcases lt3 hn with rfl | rfl | rfl <;> rfl
theorem off_run {f : Fr3} {s : SideV} {hd : Hd} {L : List Int} (hP : RunP f s hd L) (hl : ¬ LossP hd) : RunP f s (hdOff hd) L := by
  obtain ⟨h1, h2, h3, h4⟩ := hP
  rcases h4 with h4 | ⟨p, d, r⟩
  · exact absurd h4 hl
  · exact ⟨h1, h2, h3, .inr ⟨p, ⟨d.1, d.2.1, d.2.2.1, d.2.2.2.1, d.2.2.2.2.1, fun e => by cases e⟩, fun n hn e => by rcases lt3 hn with rfl | rfl | rfl <;> cases e⟩⟩
section
variable (lo : Nat)
theorem steps_tail (f O B : Fr3) (hd : Hd) (s : SideV) (L : List Int) (g : Nat → List Int) (x1 : Int) (M : Mem) (hlo : lo ≤ M.length) (hf : FrIn M f) (hs : SideOk M s) (hL : Rd M hd.A hd.n 4 (L.map (Value.int .i64))) (hwf : HdWf hd) (hl : ¬ LossP hd)
    (hB : FrIn M B) (hBd : ∀ k, k < 3 → (B.at k).w = (f.at k).w ∧ (B.at k).h = (f.at k).h ∧ (B.at k).xs = g1 f s hd k) (hln : ∀ k, k < 3 → (g k).length = (f.at k).xs.length) (W : Fr3) (st : WSt f s hd g (g1 f s hd) 0 M W)
    (hsm : ∀ n, n < 3 → (f.at n).xs.length ≤ 140737488351232)
    (hcase : (x1 = 2 ∧ ¬ RestP f s hd) ∨ (x1 = 0 ∧ RestP f s hd ∧ FrIn M O ∧ (∀ n, n < 3 → (O.at n).w = (f.at n).w ∧ (O.at n).h = (f.at n).h ∧ (O.at n).xs = restG f s hd g (g1 f s hd) n) ∧ RunP f s hd L)) :
    Run P T lo F.zoetropelaw25_ChainSteps (zoetropelaw25_ChainSteps.c32756 x1 0 f.p0.w f.p0.h f.p0.A f.p0.xs.length f.p0.c f.p1.w f.p1.h f.p1.A f.p1.xs.length f.p1.c f.p2.w f.p2.h f.p2.A f.p2.xs.length f.p2.c hd.h0 hd.h1 hd.h2 hd.h3 hd.h4 hd.h5 hd.h6 hd.h7 hd.h8 hd.h9 hd.h10 hd.h11 hd.h12 hd.h13 hd.h14 hd.h15 hd.h16 hd.h17 hd.h18 hd.h19 hd.h20 hd.h21 hd.h22 hd.cdef hd.damp hd.h25 hd.A hd.n hd.c hd.h27 hd.h28 hd.h29 s.m0.w s.m0.h s.m0.AT s.m0.tx.length s.m0.ct s.m0.AI s.m0.ids.length s.m0.ci s.m0.AQ s.m0.qs.length s.m0.cq s.m1.w s.m1.h s.m1.AT s.m1.tx.length s.m1.ct s.m1.AI s.m1.ids.length s.m1.ci s.m1.AQ s.m1.qs.length s.m1.cq s.m2.w s.m2.h s.m2.AT s.m2.tx.length s.m2.ct s.m2.AI s.m2.ids.length s.m2.ci s.m2.AQ s.m2.qs.length s.m2.cq s.Q s.qs.length s.qc s.V s.ws.length s.vc s.u0.A s.u0.us.length s.u0.c s.u1.A s.u1.us.length s.u1.c s.u2.A s.u2.us.length s.u2.c O.p0.w O.p0.h O.p0.A O.p0.xs.length O.p0.c O.p1.w O.p1.h O.p1.A O.p1.xs.length O.p1.c O.p2.w O.p2.h O.p2.A O.p2.xs.length O.p2.c B.p0.w B.p0.h B.p0.A B.p0.xs.length B.p0.c B.p1.w B.p1.h B.p1.A B.p1.xs.length B.p1.c B.p2.w B.p2.h B.p2.A B.p2.xs.length B.p2.c W.cells M) fun r => r.1 = .bool true := by
  have bad : ∀ M0 : Mem, ¬ RestP f s hd → ∀ M', Pre M0 M' → ((Value.bool (x1 == 2), M') : Value × Mem).1 = .bool true := fun M0 hno M' _ => by
    rcases hcase with ⟨rfl, _⟩ | ⟨_, h, _⟩
    · rfl
    · exact absurd h hno
  have hln' : ∀ k, k < 3 → (g k).length = (f.at k).xs.length ∧ (g1 f s hd k).length = (f.at k).xs.length := fun k hk => ⟨hln k hk, g1_len f s hd k⟩
  refine lw_step lo f O B hd s g (g1 f s hd) x1 0 (by omega) M hlo hs hB hBd hln' W st (bad M) fun M1 W1 p1 o1 st1 => ?_
  rw [show IntKind.i64.wrap (((0 : Nat) : Int) + 1) = ((1 : Nat) : Int) from by decide]
  have l1 := p1.len
  refine lw_step lo f O B hd s g (g1 f s hd) x1 1 (by omega) M1 (by omega) (hs.pre p1) (hB.pre p1) hBd hln' W1 st1 (bad M1) fun M2 W2 p2 o2 st2 => ?_
  rw [show IntKind.i64.wrap (((1 : Nat) : Int) + 1) = ((2 : Nat) : Int) from by decide]
  have l2 := p2.len
  refine lw_step lo f O B hd s g (g1 f s hd) x1 2 (by omega) M2 (by omega) (hs.pre (p1.trans p2)) (hB.pre (p1.trans p2)) hBd hln' W2 st2 (bad M2) fun M3 W3 p3 o3 st3 => ?_
  rw [show IntKind.i64.wrap (((2 : Nat) : Int) + 1) = 3 from by decide]
  have l3 := p3.len
  have q3 := (p1.trans p2).trans p3
  have hrest : RestP f s hd := fun n hn => by
    rcases lt3 hn with rfl | rfl | rfl
    · exact o1
    · exact o2
    · exact o3
  rcases hcase with ⟨_, h⟩ | ⟨rfl, _, hO, hOd, hrun⟩
  · exact absurd hrest h
  refine Run.cut (Evp.of_eq (fun k => zoetropelaw25_ChainSteps.p32756 k ..) ?_)
  refine Evp.ff rfl (Evp.ff rfl ?_)
  refine Evp.some rfl (Evp.some rfl (Evp.some rfl (Evp.some rfl (Evp.some rfl (Evp.some rfl (Evp.some rfl (Evp.some rfl (Evp.some rfl ?_))))))))
  have hOn : ∀ n, n < 3 → (O.at n).xs.length ≤ 140737488351232 := fun n hn => by
    rw [(hOd n hn).2.2]
    unfold restG
    split
    · rename_i hr
      have hp := hrest n hn hr
      rw [outW_len]
      have c1 := checkS_len' hp.1
      have := c1.2.2.2.2
      obtain ⟨Ww, hW⟩ := Int.eq_ofNat_of_zero_le (a := (f.at n).w) (by omega)
      obtain ⟨Hh, hH⟩ := Int.eq_ofNat_of_zero_le (a := (f.at n).h) (by omega)
      have := hsm n hn
      rw [hW, hH] at c1 ⊢
      have e := c1.2.2.2.2
      rw [← Int.natCast_mul, Nat.mul_comm] at e
      simp only [Int.toNat_natCast]
      omega
    · rw [hln n hn]; exact hsm n hn
  refine Evp.ob (same25_ok lo O W3 M3 (hO.pre q3) st3.in_ hOn) ?_
  rintro _ rfl
  simp only [ret_int, ret_bool, ret_flt, ret_slc, ret_str, ret_ptr, ret_agg, ret_tup, ob_some, bb_true, bb_false, List.getElem?_cons_zero, List.getElem?_cons_succ, List.length_cons, List.length_nil, Nat.reduceAdd, Nat.reduceLT]
  have e1 : FrEq O W3 := fun n hn => by
    obtain ⟨a, b, c⟩ := hOd n hn
    obtain ⟨a', b'⟩ := st3.dim n hn
    exact ⟨a.trans a'.symm, b.trans b'.symm, by rw [c, st3.eq n hn, if_pos hn]⟩
  refine Evp.ff (by rw [decide_eq_true e1]; rfl) ?_
  refine Evp.ob (run_ok lo f s (hdOff hd) L M3 (by omega) (hf.pre q3) (hs.pre q3) (hL.pre q3) hwf) ?_
  rintro ⟨v, M4⟩ ⟨p4, hr⟩
  rcases hr with ⟨_, b, ad, cc, gg, e, own, eg⟩ | ⟨hno, _⟩
  rotate_left
  · exact absurd (off_run hrun hl) hno
  obtain rfl : v = _ := e
  simp only [ret_int, ret_bool, ret_flt, ret_slc, ret_str, ret_ptr, ret_agg, ret_tup, ob_some, bb_true, bb_false, List.getElem?_cons_zero, List.getElem?_cons_succ, List.length_cons, List.length_nil, Nat.reduceAdd, Nat.reduceLT]
  refine Evp.tt rfl ?_
  have eg1 : ∀ n, n < 3 → gg n = g1 f s hd n := fun n hn => by
    rw [eg n hn]; unfold runS
    exact (if_neg (show ¬ LossP (hdOff hd) from hl)).trans (off_g f s hd L n hn)
  refine Evp.ob (same25_ok lo (frB f ad cc gg) B M4 (own.frS f).in_ ((hB.pre q3).pre p4) fun n hn => by rw [(frB_at f ad cc gg n hn).2.2, eg1 n hn, g1_len]; exact hsm n hn) ?_
  rintro _ rfl
  simp only [ret_int, ret_bool, ret_flt, ret_slc, ret_str, ret_ptr, ret_agg, ret_tup, ob_some, bb_true, bb_false, List.getElem?_cons_zero, List.getElem?_cons_succ, List.length_cons, List.length_nil, Nat.reduceAdd, Nat.reduceLT]
  refine Evp.ret (Run.ret ?_)
  show Value.bool _ = _
  rw [decide_eq_true (show FrEq (frB f ad cc gg) B from fun n hn => by
    obtain ⟨a, b, c⟩ := frB_at f ad cc gg n hn
    obtain ⟨a', b', c'⟩ := hBd n hn
    exact ⟨a.trans a'.symm, b.trans b'.symm, by rw [c, c', eg1 n hn]⟩)]
end
theorem ChainSteps_law (M : Mem) (vs : List Value) (hro : AllRo M) (hv : LaysArgs P M [27, 34, 43] vs) : Ac P T M.length F.zoetropelaw25_ChainSteps vs M fun r => r.1 = .bool true := by
  obtain ⟨v0, r0, rfl, h0, k0⟩ := args_cons hv
  obtain ⟨a0, rfl, y0⟩ := arg_agg (by kernel_rfl) h0
  obtain ⟨f, rfl, hf, hsm⟩ := fr_of (d := 3) y0
  obtain ⟨v1, r1, rfl, h1, k1⟩ := args_cons k0
  obtain ⟨a1, rfl, y1⟩ := arg_agg (by kernel_rfl) h1
  obtain ⟨hd, L, rfl, hwf, hL⟩ := hd_of (d := 4) y1
  obtain ⟨v2, r2, rfl, h2, k2⟩ := args_cons k1
  obtain ⟨a2, rfl, y2⟩ := arg_agg (by kernel_rfl) h2
  obtain ⟨s0, rfl, hs0, fit⟩ := side_of (d := 2) y2
  obtain rfl := args_nil k2
  refine Ac.of (Evp.of_eq (fun k => zoetropelaw25_ChainSteps.entry k ..) ?_)
  refine Evp.ob (works_ok _ M (Nat.le_refl _)) ?_
  rintro _ ⟨M1, rfl, p1⟩
  simp only [ret_int, ret_bool, ret_flt, ret_slc, ret_str, ret_ptr, ret_agg, ret_tup, ob_some, bb_true, bb_false, List.getElem?_cons_zero, List.getElem?_cons_succ, List.length_cons, List.length_nil, Nat.reduceAdd, Nat.reduceLT]
  refine Evp.ff rfl ?_
  refine Evp.ob (copied_ok _ s0 M1 (hs0.pre p1) fit p1.len) ?_
  rintro _ ⟨s, M2, rfl, p2, hs, _⟩
  refine Evp.some rfl ?_
  refine Evp.some rfl ?_
  refine Evp.some rfl ?_
  refine Evp.some rfl ?_
  refine Evp.some rfl ?_
  refine Evp.some rfl ?_
  refine Evp.some rfl ?_
  refine Evp.some rfl ?_
  refine Evp.some rfl ?_
  refine Evp.some rfl ?_
  refine Evp.some rfl ?_
  refine Evp.some rfl ?_
  refine Evp.some rfl ?_
  refine Evp.some rfl ?_
  refine Evp.some rfl ?_
  refine Evp.some rfl ?_
  refine Evp.some rfl ?_
  refine Evp.some rfl ?_
  refine Evp.some rfl ?_
  refine Evp.some rfl ?_
  refine Evp.some rfl ?_
  have q2 := p1.trans p2
  have l2 := q2.len
  have hf2 := hf.pre q2
  refine Evp.ob (run_ok _ f s hd L M2 l2 hf2 hs (hL.pre q2) hwf) ?_
  rintro ⟨v, M3⟩ ⟨p3, hr⟩
  have hf3 := hf2.pre p3
  have hs3 := hs.pre p3
  have hL3 := (hL.pre q2).pre p3
  have l3 : M.length ≤ M3.length := by have := p3.len; show M.length ≤ _; exact Nat.le_trans l2 this
  have key : ∀ (O : Fr3) (x : Int), v = .tuple ⟨[.agg ⟨O.cells⟩, .int .i64 x]⟩ → ((x = 2 ∧ ¬ RunP f s hd L) ∨ (x = 0 ∧ RunP f s hd L ∧ FrIn M3 O ∧ ∀ n, n < 3 → (O.at n).w = (f.at n).w ∧ (O.at n).h = (f.at n).h ∧ (O.at n).xs = runS f s hd L n)) →
      Evp (fun k => ob (v.tup? 2) fun l => ob ((l[0]?).bind (Value.agg? 9)) fun l1 => ob ((l1[0]?).bind (Value.int? .i64)) fun _ => some ()) (fun _ => True) := fun O x e _ => by
    subst e
    simp only [ret_int, ret_bool, ret_flt, ret_slc, ret_str, ret_ptr, ret_agg, ret_tup, ob_some, bb_true, bb_false, List.getElem?_cons_zero, List.getElem?_cons_succ, List.length_cons, List.length_nil, Nat.reduceAdd, Nat.reduceLT]
    exact Evp.ret trivial
  obtain ⟨O, x, rfl, hc⟩ : ∃ (O : Fr3) (x : Int), v = .tuple ⟨[.agg ⟨O.cells⟩, .int .i64 x]⟩ ∧ ((x = 2 ∧ ¬ RunP f s hd L) ∨ (x = 0 ∧ RunP f s hd L ∧ FrIn M3 O ∧ ∀ n, n < 3 → (O.at n).w = (f.at n).w ∧ (O.at n).h = (f.at n).h ∧ (O.at n).xs = runS f s hd L n)) := by
    rcases hr with ⟨hP, b, ad, cc, gg, e, own, eg⟩ | ⟨hP, e⟩
    · exact ⟨frB f ad cc gg, 0, e, .inr ⟨rfl, hP, (own.frS f).in_, fun n hn => by obtain ⟨a, b, c⟩ := frB_at f ad cc gg n hn; exact ⟨a, b, by rw [c, eg n hn]⟩⟩⟩
    · exact ⟨zFr, 2, e, .inl ⟨rfl, hP⟩⟩
  simp only [ret_int, ret_bool, ret_flt, ret_slc, ret_str, ret_ptr, ret_agg, ret_tup, ob_some, bb_true, bb_false, List.getElem?_cons_zero, List.getElem?_cons_succ, List.length_cons, List.length_nil, Nat.reduceAdd, Nat.reduceLT]
  clear key hr
  have no : ∀ M' : Mem, ¬ RunP f s hd L → ((Value.bool (x == 2), M') : Value × Mem).1 = .bool true := fun M' h => by
    rcases hc with ⟨rfl, _⟩ | ⟨_, h', _⟩
    · rfl
    · exact absurd h' h
  refine Evp.ob (whole_ok ..) ?_
  rintro _ rfl
  simp only [ret_int, ret_bool, ret_flt, ret_slc, ret_str, ret_ptr, ret_agg, ret_tup, ob_some, bb_true, bb_false, List.getElem?_cons_zero, List.getElem?_cons_succ, List.length_cons, List.length_nil, Nat.reduceAdd, Nat.reduceLT]
  refine Evp.neb (fun h => Evp.ret (Run.ret (no M3 fun e => h (by unfold wholeS; exact if_pos e.1)))) fun h1 => ?_
  have hw : WholeF f := by
    unfold wholeS at h1
    split at h1
    · assumption
    · cases h1
  have sw : sideP f.p0.w := hw.2.1
  have sh : sideP f.p0.h := hw.2.2.1
  unfold sideP at sw sh
  rw [Int.tmod_eq_emod_of_nonneg (a := f.p0.w) (by omega), Int.tmod_eq_emod_of_nonneg (a := f.p0.h) (by omega)]
  refine Evp.neb (fun h => Evp.ret (Run.ret (no M3 fun e => h e.2.1))) fun h2 => ?_
  refine Evp.neb (fun h => Evp.ret (Run.ret (no M3 fun e => h e.2.2.1))) fun h3 => ?_
  refine Evp.ob (loss_ok _ hd M3 hwf) ?_
  rintro _ rfl
  simp only [ret_int, ret_bool, ret_flt, ret_slc, ret_str, ret_ptr, ret_agg, ret_tup, ob_some, bb_true, bb_false, List.getElem?_cons_zero, List.getElem?_cons_succ, List.length_cons, List.length_nil, Nat.reduceAdd, Nat.reduceLT]
  refine Evp.dec (fun hl => ?_) fun hl => ?_
  · rcases hc with ⟨_, hno⟩ | ⟨rfl, hP, hO, hOd⟩
    · exact absurd ⟨hw, h2, h3, .inl hl⟩ hno
    have hOd' : FrEq O f := fun n hn => by
      obtain ⟨a, b, c⟩ := hOd n hn
      refine ⟨a, b, ?_⟩
      rw [c]; unfold runS; rw [if_pos hl]
    refine Evp.tt rfl ?_
    refine Evp.ob (same25_ok _ O f M3 hO hf3 fun n hn => by rw [(hOd' n hn).2.2]; exact hsm n hn) ?_
    rintro _ rfl
    simp only [ret_int, ret_bool, ret_flt, ret_slc, ret_str, ret_ptr, ret_agg, ret_tup, ob_some, bb_true, bb_false, List.getElem?_cons_zero, List.getElem?_cons_succ, List.length_cons, List.length_nil, Nat.reduceAdd, Nat.reduceLT]
    refine Evp.ret (Run.ret ?_)
    show Value.bool _ = _
    rw [decide_eq_true hOd']
  · refine Evp.ob (lpasses_ok _ f hd s M3 l3 hf3 hs3 hsm) ?_
    rintro ⟨v, M4⟩ ⟨M4', p4, hr⟩
    rcases hr with ⟨hpass, ad1, cc1, e, hbuf, hcap⟩ | ⟨hpass, e⟩
    rotate_left
    · injection e with e1 e2; subst e1 e2
      simp only [ret_int, ret_bool, ret_flt, ret_slc, ret_str, ret_ptr, ret_agg, ret_tup, ob_some, bb_true, bb_false, List.getElem?_cons_zero, List.getElem?_cons_succ, List.length_cons, List.length_nil, Nat.reduceAdd, Nat.reduceLT]
      refine Evp.tt rfl (Evp.ret (Run.ret (no M4 fun e => ?_)))
      rcases e.2.2.2 with e | e
      · exact hl e
      · exact hpass e.1
    injection e with e1 e2; subst e1 e2
    simp only [ret_int, ret_bool, ret_flt, ret_slc, ret_str, ret_ptr, ret_agg, ret_tup, ob_some, bb_true, bb_false, List.getElem?_cons_zero, List.getElem?_cons_succ, List.length_cons, List.length_nil, Nat.reduceAdd, Nat.reduceLT]
    refine Evp.ff rfl ?_
    have l4 : M.length ≤ M4.length := Nat.le_trans l3 p4.len
    have hB : FrIn M4 (frB f ad1 cc1 (g1 f s hd)) := ⟨fun n hn => by
        rcases lt3 hn with rfl | rfl | rfl
        · exact (hbuf 0 hn).rdI
        · exact (hbuf 1 hn).rdI
        · exact (hbuf 2 hn).rdI, fun n hn => by
        rw [(frB_at f ad1 cc1 (g1 f s hd) n hn).2.2]; exact ly2_bytes (hf.by_ n hn) _ _ _, fun n hn => by
        rcases lt3 hn with rfl | rfl | rfl
        · exact hcap 0 hn
        · exact hcap 1 hn
        · exact hcap 2 hn⟩
    have hs4 := hs3.pre p4
    refine Evp.ob (cframe_ok _ (frB f ad1 cc1 (g1 f s hd)) s.Q s.V s.qc s.vc s.qs s.ws hd L M4 l4 hB hs4.q hs4.v hs4.nv (hL3.pre p4)) ?_
    rintro ⟨v, M5⟩ ⟨p5, hr⟩
    have eDir := frB_dir (s := s) (hd := hd) (L := L) (ad := ad1) (cc := cc1) (g := g1 f s hd) fun n hn => g1_len f s hd n
    rcases hr with ⟨hm, ad2, cc2, e, hcap2, hBf⟩ | ⟨hm, e⟩
    rotate_left
    · obtain rfl : v = _ := e
      simp only [ret_int, ret_bool, ret_flt, ret_slc, ret_str, ret_ptr, ret_agg, ret_tup, ob_some, bb_true, bb_false, List.getElem?_cons_zero, List.getElem?_cons_succ, List.length_cons, List.length_nil, Nat.reduceAdd, Nat.reduceLT]
      refine Evp.tt rfl (Evp.ret (Run.ret (no M5 fun e => ?_)))
      rcases e.2.2.2 with e | e
      · exact hl e
      · exact hm (eDir.2 e.2.1)
    obtain rfl : v = _ := e
    simp only [ret_int, ret_bool, ret_flt, ret_slc, ret_str, ret_ptr, ret_agg, ret_tup, ob_some, bb_true, bb_false, List.getElem?_cons_zero, List.getElem?_cons_succ, List.length_cons, List.length_nil, Nat.reduceAdd, Nat.reduceLT]
    refine Evp.ff rfl ?_
    have hdir := eDir.1 hm
    have eg2 : ∀ n, n < 3 → outF (frB f ad1 cc1 (g1 f s hd)) s.qs s.ws hd L n = g2 f s hd L n := fun n hn => frB_out n hn
    have len2 : ∀ n, n < 3 → (g2 f s hd L n).length = (f.at n).xs.length := fun n hn => by
      rw [← eg2 n hn, hBf.len n hn, (frB_at f ad1 cc1 (g1 f s hd) n hn).2.2, g1_len]
    have ecs : csL (frB f ad1 cc1 (g1 f s hd)) ad2 cc2 = (frB f ad2 cc2 (g2 f s hd L)).cells := by
      rw [csL_cells (f := frB f ad1 cc1 (g1 f s hd)) (g := g2 f s hd L) fun n hn => by rw [len2 n hn, (frB_at f ad1 cc1 (g1 f s hd) n hn).2.2, g1_len]]
    have st : WSt f s hd (g2 f s hd L) (g1 f s hd) 0 M5 (frB f ad2 cc2 (g2 f s hd L)) := by
      refine ⟨⟨fun n hn => ?_, fun n hn => ?_, fun n hn => ?_⟩, fun n hn => ?_, fun n hn => ?_⟩
      · have := (hBf.buf n hn).rdI
        rw [eg2 n hn] at this
        rcases lt3 hn with rfl | rfl | rfl <;> exact this
      · rw [(frB_at f ad2 cc2 (g2 f s hd L) n hn).2.2, ← eg2 n hn]
        exact outF_bytes (fun k hk => hB.by_ k hk) _ _ _ _ hn
      · have := hcap2 n hn
        rw [(frB_at f ad1 cc1 (g1 f s hd) n hn).2.2, g1_len] at this
        have e := len2 n hn
        rcases lt3 hn with rfl | rfl | rfl
        · show (g2 f s hd L 0).length ≤ cc2 0; omega
        · show (g2 f s hd L 1).length ≤ cc2 1; omega
        · show (g2 f s hd L 2).length ≤ cc2 2; omega
      · obtain ⟨a, b, _⟩ := frB_at f ad2 cc2 (g2 f s hd L) n hn
        exact ⟨a, b⟩
      · rw [(frB_at f ad2 cc2 (g2 f s hd L) n hn).2.2, if_neg (by omega)]
    have q5 := p4.trans p5
    refine Evp.ret ?_
    have := steps_tail M.length f O (frB f ad1 cc1 (g1 f s hd)) hd s L (g2 f s hd L) x M5 (Nat.le_trans l4 p5.len) (hf3.pre q5) (hs3.pre q5) (hL3.pre q5) hwf hl (hB.pre p5) (fun n hn => frB_at f ad1 cc1 (g1 f s hd) n hn) len2 _ st hsm (by
      rcases hc with ⟨rfl, hno⟩ | ⟨rfl, hP, hO, hOd⟩
      · exact .inl ⟨rfl, fun e => hno ⟨hw, h2, h3, .inr ⟨hpass, hdir, e⟩⟩⟩
      · refine .inr ⟨rfl, ?_, hO.pre q5, fun n hn => ?_, hP⟩
        · rcases hP.2.2.2 with e | e
          · exact absurd e hl
          · exact e.2.2
        · obtain ⟨a, b, c⟩ := hOd n hn
          refine ⟨a, b, ?_⟩
          rw [c]; unfold runS; rw [if_neg hl])
    rw [← ecs] at this
    exact this
end Go.Zt
