/- What the law ChainSteps needs of the text Fj. -/
import Derived.Test.YtbbfdebfhgdciaaPFi
set_option linter.unusedVariables false
set_option linter.unusedSimpArgs false
set_option maxRecDepth 100000
set_option maxHeartbeats 4000000
namespace Go.Zt
section
variable (lo : Nat) (f : Fr3) (hd : Hd) (s : SideV)
theorem lp_step (n : Nat) (hn : n < 3) (X : Fr3) (M : Mem) (hlo : lo ≤ M.length) (hf : FrIn M f) (hs : SideOk M s) (hx : ∀ n, n < 3 → (f.at n).xs.length ≤ 140737488351232) {Q : Value × Mem → Prop}
    (hbad : ¬ (PassP (f.at n) (s.map n) (lv1 hd n) hd.h22 ∧ PassP (f.at n) (s.map n) (lv2 hd n) hd.h22) → ∀ M', Pre M M' → Q (.tuple ⟨[.agg ⟨zeroF⟩, .bool false]⟩, M'))
    (hok : ∀ M' a cc, PassP (f.at n) (s.map n) (lv1 hd n) hd.h22 → PassP (f.at n) (s.map n) (lv2 hd n) hd.h22 → Pre M M' → Buf M M' a ((ly2 (f.at n) (s.map n) n hd).map (Value.int .u8)) → (f.at n).xs.length ≤ cc →
      Run P T lo F.zoetropelaw25_passes (zoetropelaw25_passes.c116 (IntKind.i64.wrap ((n : Int) + 1)) f.p0.w f.p0.h f.p0.A f.p0.xs.length f.p0.c f.p1.w f.p1.h f.p1.A f.p1.xs.length f.p1.c f.p2.w f.p2.h f.p2.A f.p2.xs.length f.p2.c hd.h0 hd.h1 hd.h2 hd.h3 hd.h4 hd.h5 hd.h6 hd.h7 hd.h8 hd.h9 hd.h10 hd.h11 hd.h12 hd.h13 hd.h14 hd.h15 hd.h16 hd.h17 hd.h18 hd.h19 hd.h20 hd.h21 hd.h22 hd.cdef hd.damp hd.h25 hd.A hd.n hd.c hd.h27 hd.h28 hd.h29 s.m0.w s.m0.h s.m0.AT s.m0.tx.length s.m0.ct s.m0.AI s.m0.ids.length s.m0.ci s.m0.AQ s.m0.qs.length s.m0.cq s.m1.w s.m1.h s.m1.AT s.m1.tx.length s.m1.ct s.m1.AI s.m1.ids.length s.m1.ci s.m1.AQ s.m1.qs.length s.m1.cq s.m2.w s.m2.h s.m2.AT s.m2.tx.length s.m2.ct s.m2.AI s.m2.ids.length s.m2.ci s.m2.AQ s.m2.qs.length s.m2.cq s.Q s.qs.length s.qc s.V s.ws.length s.vc s.u0.A s.u0.us.length s.u0.c s.u1.A s.u1.us.length s.u1.c s.u2.A s.u2.us.length s.u2.c 0 0 none 0 0 0 0 none 0 0 0 0 none 0 0 (X.set n ⟨(f.at n).w, (f.at n).h, some a, cc, ly2 (f.at n) (s.map n) n hd⟩).cells M') Q) :
    Run P T lo F.zoetropelaw25_passes (zoetropelaw25_passes.c116 (n : Int) f.p0.w f.p0.h f.p0.A f.p0.xs.length f.p0.c f.p1.w f.p1.h f.p1.A f.p1.xs.length f.p1.c f.p2.w f.p2.h f.p2.A f.p2.xs.length f.p2.c hd.h0 hd.h1 hd.h2 hd.h3 hd.h4 hd.h5 hd.h6 hd.h7 hd.h8 hd.h9 hd.h10 hd.h11 hd.h12 hd.h13 hd.h14 hd.h15 hd.h16 hd.h17 hd.h18 hd.h19 hd.h20 hd.h21 hd.h22 hd.cdef hd.damp hd.h25 hd.A hd.n hd.c hd.h27 hd.h28 hd.h29 s.m0.w s.m0.h s.m0.AT s.m0.tx.length s.m0.ct s.m0.AI s.m0.ids.length s.m0.ci s.m0.AQ s.m0.qs.length s.m0.cq s.m1.w s.m1.h s.m1.AT s.m1.tx.length s.m1.ct s.m1.AI s.m1.ids.length s.m1.ci s.m1.AQ s.m1.qs.length s.m1.cq s.m2.w s.m2.h s.m2.AT s.m2.tx.length s.m2.ct s.m2.AI s.m2.ids.length s.m2.ci s.m2.AQ s.m2.qs.length s.m2.cq s.Q s.qs.length s.qc s.V s.ws.length s.vc s.u0.A s.u0.us.length s.u0.c s.u1.A s.u1.us.length s.u1.c s.u2.A s.u2.us.length s.u2.c 0 0 none 0 0 0 0 none 0 0 0 0 none 0 0 X.cells M) Q := by
  have hm := hs.m n
  have bf := hf.by_ n hn
  rcases lt3 hn with rfl | rfl | rfl
  · refine Run.cut (Evp.of_eq (fun k => zoetropelaw25_passes.p116 k ..) ?_)
    refine Evp.tt rfl ?_
    refine Evp.ff rfl (Evp.ret ?_)
    refine Run.cut (Evp.of_eq (fun k => zoetropelaw25_passes.p3731 k ..) ?_)
    refine Evp.pos (by decide) (Evp.some rfl (Evp.some rfl (Evp.some rfl (Evp.pos (by decide) (Evp.some rfl (Evp.some rfl (Evp.some rfl (Evp.some rfl (Evp.some rfl ?_)))))))))
    refine Evp.ob (pass_okn lo (f.at 0).w (f.at 0).h (s.map 0).w (s.map 0).h (mOf (s.map 0) true 0 (lv1 hd 0) hd.h22) (f.at 0).A (s.map 0).AT (s.map 0).AI (s.map 0).AQ (f.at 0).c (s.map 0).ct (s.map 0).ci (s.map 0).cq _ (f.at 0).xs M hlo (hf.rd 0 hn) bf (hx 0 hn) hm.rt hm.ri hm.rq hm.nt rfl rfl) ?_
    rintro ⟨v, M2⟩ hr
    by_cases k1 : PassP (f.at 0) (s.map 0) (lv1 hd 0) hd.h22
    · obtain ⟨a, cc, rfl, p2, hcc, b2⟩ := hr.got k1
      simp only [ret_int, ret_bool, ret_flt, ret_slc, ret_str, ret_ptr, ret_agg, ret_tup, ob_some, bb_true, bb_false, List.getElem?_cons_zero, List.getElem?_cons_succ, List.length_cons, List.length_nil, Nat.reduceAdd, Nat.reduceLT]
      have l2 := p2.len
      refine Evp.pos (by decide) (Evp.some rfl (Evp.some rfl (Evp.some rfl (Evp.some rfl (Evp.some rfl ?_)))))
      have hm2 := hm.pre p2
      refine Evp.ob (pass_okn lo (f.at 0).w (f.at 0).h (s.map 0).w (s.map 0).h (mOf (s.map 0) false 0 (lv2 hd 0) hd.h22) (some a) (s.map 0).AT (s.map 0).AI (s.map 0).AQ cc (s.map 0).ct (s.map 0).ci (s.map 0).cq _ (up1 (f.at 0) (s.map 0) 0 hd) M2 (by omega) b2.rdI (up1_bytes bf _ _ _) (by rw [up1_len]; exact hx 0 hn) hm2.rt hm2.ri hm2.rq hm2.nt rfl (up1_len ..).symm) ?_
      rintro ⟨v, M3⟩ hr
      by_cases k2 : PassP (f.at 0) (s.map 0) (lv2 hd 0) hd.h22
      · obtain ⟨a', cc', rfl, p3, hcc', b3⟩ := hr.got (by rw [up1_len]; exact k2)
        simp only [ret_int, ret_bool, ret_flt, ret_slc, ret_str, ret_ptr, ret_agg, ret_tup, ob_some, bb_true, bb_false, List.getElem?_cons_zero, List.getElem?_cons_succ, List.length_cons, List.length_nil, Nat.reduceAdd, Nat.reduceLT]
        refine Evp.ff rfl (Evp.ff rfl (Evp.pos (by decide) (Evp.pos (Nat.le_of_ble_eq_true rfl) ?_)))
        rw [show (up1 (f.at 0) (s.map 0) 0 hd).length = (ly2 (f.at 0) (s.map 0) 0 hd).length from (up1_len ..).trans (ly2_len ..).symm]
        exact Evp.ret (hok M3 a' cc' k1 k2 (p2.trans p3) (b3.floor l2) (by rw [up1_len] at hcc'; exact hcc'))
      · obtain ⟨rfl, p3⟩ := hr.not (by rw [up1_len]; exact k2)
        simp only [ret_int, ret_bool, ret_flt, ret_slc, ret_str, ret_ptr, ret_agg, ret_tup, ob_some, bb_true, bb_false, List.getElem?_cons_zero, List.getElem?_cons_succ, List.length_cons, List.length_nil, Nat.reduceAdd, Nat.reduceLT]
        exact Evp.ff rfl (Evp.tt rfl (Evp.ret (Run.ret (hbad (fun e => k2 e.2) M3 (p2.trans p3)))))
    · obtain ⟨rfl, p2⟩ := hr.not k1
      simp only [ret_int, ret_bool, ret_flt, ret_slc, ret_str, ret_ptr, ret_agg, ret_tup, ob_some, bb_true, bb_false, List.getElem?_cons_zero, List.getElem?_cons_succ, List.length_cons, List.length_nil, Nat.reduceAdd, Nat.reduceLT]
      have l2 := p2.len
      have hm2 := hm.pre p2
      refine Evp.pos (by decide) (Evp.some rfl (Evp.some rfl (Evp.some rfl (Evp.some rfl (Evp.some rfl ?_)))))
      refine Evp.ob (pass_okn lo 0 0 (s.map 0).w (s.map 0).h (mOf (s.map 0) false 0 (lv2 hd 0) hd.h22) none (s.map 0).AT (s.map 0).AI (s.map 0).AQ 0 (s.map 0).ct (s.map 0).ci (s.map 0).cq 0 [] M2 (by omega) RdI.nil (fun x hx => by simp at hx) (by simp) hm2.rt hm2.ri hm2.rq hm2.nt rfl rfl) ?_
      rintro ⟨v, M3⟩ hr
      obtain ⟨rfl, p3⟩ := hr.not (fun e => by have := checkS_len' e.1.1; omega)
      simp only [ret_int, ret_bool, ret_flt, ret_slc, ret_str, ret_ptr, ret_agg, ret_tup, ob_some, bb_true, bb_false, List.getElem?_cons_zero, List.getElem?_cons_succ, List.length_cons, List.length_nil, Nat.reduceAdd, Nat.reduceLT]
      exact Evp.tt rfl (Evp.ret (Run.ret (hbad (fun e => k1 e.1) M3 (p2.trans p3))))
  · refine Run.cut (Evp.of_eq (fun k => zoetropelaw25_passes.p116 k ..) ?_)
    refine Evp.tt rfl ?_
    refine Evp.tt rfl (Evp.pos (by decide) (Evp.some rfl (Evp.pos (by decide) (Evp.some rfl (Evp.ret ?_)))))
    refine Run.cut (Evp.of_eq (fun k => zoetropelaw25_passes.p3731 k ..) ?_)
    refine Evp.pos (by decide) (Evp.some rfl (Evp.some rfl (Evp.some rfl (Evp.pos (by decide) (Evp.some rfl (Evp.some rfl (Evp.some rfl (Evp.some rfl (Evp.some rfl ?_)))))))))
    refine Evp.ob (pass_okn lo (f.at 1).w (f.at 1).h (s.map 1).w (s.map 1).h (mOf (s.map 1) true 1 (lv1 hd 1) hd.h22) (f.at 1).A (s.map 1).AT (s.map 1).AI (s.map 1).AQ (f.at 1).c (s.map 1).ct (s.map 1).ci (s.map 1).cq _ (f.at 1).xs M hlo (hf.rd 1 hn) bf (hx 1 hn) hm.rt hm.ri hm.rq hm.nt rfl rfl) ?_
    rintro ⟨v, M2⟩ hr
    by_cases k1 : PassP (f.at 1) (s.map 1) (lv1 hd 1) hd.h22
    · obtain ⟨a, cc, rfl, p2, hcc, b2⟩ := hr.got k1
      simp only [ret_int, ret_bool, ret_flt, ret_slc, ret_str, ret_ptr, ret_agg, ret_tup, ob_some, bb_true, bb_false, List.getElem?_cons_zero, List.getElem?_cons_succ, List.length_cons, List.length_nil, Nat.reduceAdd, Nat.reduceLT]
      have l2 := p2.len
      refine Evp.pos (by decide) (Evp.some rfl (Evp.some rfl (Evp.some rfl (Evp.some rfl (Evp.some rfl ?_)))))
      have hm2 := hm.pre p2
      refine Evp.ob (pass_okn lo (f.at 1).w (f.at 1).h (s.map 1).w (s.map 1).h (mOf (s.map 1) false 1 (lv2 hd 1) hd.h22) (some a) (s.map 1).AT (s.map 1).AI (s.map 1).AQ cc (s.map 1).ct (s.map 1).ci (s.map 1).cq _ (up1 (f.at 1) (s.map 1) 1 hd) M2 (by omega) b2.rdI (up1_bytes bf _ _ _) (by rw [up1_len]; exact hx 1 hn) hm2.rt hm2.ri hm2.rq hm2.nt rfl (up1_len ..).symm) ?_
      rintro ⟨v, M3⟩ hr
      by_cases k2 : PassP (f.at 1) (s.map 1) (lv2 hd 1) hd.h22
      · obtain ⟨a', cc', rfl, p3, hcc', b3⟩ := hr.got (by rw [up1_len]; exact k2)
        simp only [ret_int, ret_bool, ret_flt, ret_slc, ret_str, ret_ptr, ret_agg, ret_tup, ob_some, bb_true, bb_false, List.getElem?_cons_zero, List.getElem?_cons_succ, List.length_cons, List.length_nil, Nat.reduceAdd, Nat.reduceLT]
        refine Evp.ff rfl (Evp.ff rfl (Evp.pos (by decide) (Evp.pos (Nat.le_of_ble_eq_true rfl) ?_)))
        rw [show (up1 (f.at 1) (s.map 1) 1 hd).length = (ly2 (f.at 1) (s.map 1) 1 hd).length from (up1_len ..).trans (ly2_len ..).symm]
        exact Evp.ret (hok M3 a' cc' k1 k2 (p2.trans p3) (b3.floor l2) (by rw [up1_len] at hcc'; exact hcc'))
      · obtain ⟨rfl, p3⟩ := hr.not (by rw [up1_len]; exact k2)
        simp only [ret_int, ret_bool, ret_flt, ret_slc, ret_str, ret_ptr, ret_agg, ret_tup, ob_some, bb_true, bb_false, List.getElem?_cons_zero, List.getElem?_cons_succ, List.length_cons, List.length_nil, Nat.reduceAdd, Nat.reduceLT]
        exact Evp.ff rfl (Evp.tt rfl (Evp.ret (Run.ret (hbad (fun e => k2 e.2) M3 (p2.trans p3)))))
    · obtain ⟨rfl, p2⟩ := hr.not k1
      simp only [ret_int, ret_bool, ret_flt, ret_slc, ret_str, ret_ptr, ret_agg, ret_tup, ob_some, bb_true, bb_false, List.getElem?_cons_zero, List.getElem?_cons_succ, List.length_cons, List.length_nil, Nat.reduceAdd, Nat.reduceLT]
      have l2 := p2.len
      have hm2 := hm.pre p2
      refine Evp.pos (by decide) (Evp.some rfl (Evp.some rfl (Evp.some rfl (Evp.some rfl (Evp.some rfl ?_)))))
      refine Evp.ob (pass_okn lo 0 0 (s.map 1).w (s.map 1).h (mOf (s.map 1) false 1 (lv2 hd 1) hd.h22) none (s.map 1).AT (s.map 1).AI (s.map 1).AQ 0 (s.map 1).ct (s.map 1).ci (s.map 1).cq 0 [] M2 (by omega) RdI.nil (fun x hx => by simp at hx) (by simp) hm2.rt hm2.ri hm2.rq hm2.nt rfl rfl) ?_
      rintro ⟨v, M3⟩ hr
      obtain ⟨rfl, p3⟩ := hr.not (fun e => by have := checkS_len' e.1.1; omega)
      simp only [ret_int, ret_bool, ret_flt, ret_slc, ret_str, ret_ptr, ret_agg, ret_tup, ob_some, bb_true, bb_false, List.getElem?_cons_zero, List.getElem?_cons_succ, List.length_cons, List.length_nil, Nat.reduceAdd, Nat.reduceLT]
      exact Evp.tt rfl (Evp.ret (Run.ret (hbad (fun e => k1 e.1) M3 (p2.trans p3))))
  · refine Run.cut (Evp.of_eq (fun k => zoetropelaw25_passes.p116 k ..) ?_)
    refine Evp.tt rfl ?_
    refine Evp.tt rfl (Evp.pos (by decide) (Evp.some rfl (Evp.pos (by decide) (Evp.some rfl (Evp.ret ?_)))))
    refine Run.cut (Evp.of_eq (fun k => zoetropelaw25_passes.p3731 k ..) ?_)
    refine Evp.pos (by decide) (Evp.some rfl (Evp.some rfl (Evp.some rfl (Evp.pos (by decide) (Evp.some rfl (Evp.some rfl (Evp.some rfl (Evp.some rfl (Evp.some rfl ?_)))))))))
    refine Evp.ob (pass_okn lo (f.at 2).w (f.at 2).h (s.map 2).w (s.map 2).h (mOf (s.map 2) true 2 (lv1 hd 2) hd.h22) (f.at 2).A (s.map 2).AT (s.map 2).AI (s.map 2).AQ (f.at 2).c (s.map 2).ct (s.map 2).ci (s.map 2).cq _ (f.at 2).xs M hlo (hf.rd 2 hn) bf (hx 2 hn) hm.rt hm.ri hm.rq hm.nt rfl rfl) ?_
    rintro ⟨v, M2⟩ hr
    by_cases k1 : PassP (f.at 2) (s.map 2) (lv1 hd 2) hd.h22
    · obtain ⟨a, cc, rfl, p2, hcc, b2⟩ := hr.got k1
      simp only [ret_int, ret_bool, ret_flt, ret_slc, ret_str, ret_ptr, ret_agg, ret_tup, ob_some, bb_true, bb_false, List.getElem?_cons_zero, List.getElem?_cons_succ, List.length_cons, List.length_nil, Nat.reduceAdd, Nat.reduceLT]
      have l2 := p2.len
      refine Evp.pos (by decide) (Evp.some rfl (Evp.some rfl (Evp.some rfl (Evp.some rfl (Evp.some rfl ?_)))))
      have hm2 := hm.pre p2
      refine Evp.ob (pass_okn lo (f.at 2).w (f.at 2).h (s.map 2).w (s.map 2).h (mOf (s.map 2) false 2 (lv2 hd 2) hd.h22) (some a) (s.map 2).AT (s.map 2).AI (s.map 2).AQ cc (s.map 2).ct (s.map 2).ci (s.map 2).cq _ (up1 (f.at 2) (s.map 2) 2 hd) M2 (by omega) b2.rdI (up1_bytes bf _ _ _) (by rw [up1_len]; exact hx 2 hn) hm2.rt hm2.ri hm2.rq hm2.nt rfl (up1_len ..).symm) ?_
      rintro ⟨v, M3⟩ hr
      by_cases k2 : PassP (f.at 2) (s.map 2) (lv2 hd 2) hd.h22
      · obtain ⟨a', cc', rfl, p3, hcc', b3⟩ := hr.got (by rw [up1_len]; exact k2)
        simp only [ret_int, ret_bool, ret_flt, ret_slc, ret_str, ret_ptr, ret_agg, ret_tup, ob_some, bb_true, bb_false, List.getElem?_cons_zero, List.getElem?_cons_succ, List.length_cons, List.length_nil, Nat.reduceAdd, Nat.reduceLT]
        refine Evp.ff rfl (Evp.ff rfl (Evp.pos (by decide) (Evp.pos (Nat.le_of_ble_eq_true rfl) ?_)))
        rw [show (up1 (f.at 2) (s.map 2) 2 hd).length = (ly2 (f.at 2) (s.map 2) 2 hd).length from (up1_len ..).trans (ly2_len ..).symm]
        exact Evp.ret (hok M3 a' cc' k1 k2 (p2.trans p3) (b3.floor l2) (by rw [up1_len] at hcc'; exact hcc'))
      · obtain ⟨rfl, p3⟩ := hr.not (by rw [up1_len]; exact k2)
        simp only [ret_int, ret_bool, ret_flt, ret_slc, ret_str, ret_ptr, ret_agg, ret_tup, ob_some, bb_true, bb_false, List.getElem?_cons_zero, List.getElem?_cons_succ, List.length_cons, List.length_nil, Nat.reduceAdd, Nat.reduceLT]
        exact Evp.ff rfl (Evp.tt rfl (Evp.ret (Run.ret (hbad (fun e => k2 e.2) M3 (p2.trans p3)))))
    · obtain ⟨rfl, p2⟩ := hr.not k1
      simp only [ret_int, ret_bool, ret_flt, ret_slc, ret_str, ret_ptr, ret_agg, ret_tup, ob_some, bb_true, bb_false, List.getElem?_cons_zero, List.getElem?_cons_succ, List.length_cons, List.length_nil, Nat.reduceAdd, Nat.reduceLT]
      have l2 := p2.len
      have hm2 := hm.pre p2
      refine Evp.pos (by decide) (Evp.some rfl (Evp.some rfl (Evp.some rfl (Evp.some rfl (Evp.some rfl ?_)))))
      refine Evp.ob (pass_okn lo 0 0 (s.map 2).w (s.map 2).h (mOf (s.map 2) false 2 (lv2 hd 2) hd.h22) none (s.map 2).AT (s.map 2).AI (s.map 2).AQ 0 (s.map 2).ct (s.map 2).ci (s.map 2).cq 0 [] M2 (by omega) RdI.nil (fun x hx => by simp at hx) (by simp) hm2.rt hm2.ri hm2.rq hm2.nt rfl rfl) ?_
      rintro ⟨v, M3⟩ hr
      obtain ⟨rfl, p3⟩ := hr.not (fun e => by have := checkS_len' e.1.1; omega)
      simp only [ret_int, ret_bool, ret_flt, ret_slc, ret_str, ret_ptr, ret_agg, ret_tup, ob_some, bb_true, bb_false, List.getElem?_cons_zero, List.getElem?_cons_succ, List.length_cons, List.length_nil, Nat.reduceAdd, Nat.reduceLT]
      exact Evp.tt rfl (Evp.ret (Run.ret (hbad (fun e => k1 e.1) M3 (p2.trans p3))))
theorem lpasses_ok (M : Mem) (hlo : lo ≤ M.length) (hf : FrIn M f) (hs : SideOk M s) (hx : ∀ n, n < 3 → (f.at n).xs.length ≤ 140737488351232) :
    Ac P T lo F.zoetropelaw25_passes [.agg ⟨f.cells⟩, .agg ⟨hd.cells⟩, .agg ⟨s.cells⟩] M fun r => ∃ M', Pre M M' ∧ ((PassesP f s hd ∧ ∃ ad cc, r = (.tuple ⟨[.agg ⟨(frB f ad cc (g1 f s hd)).cells⟩, .bool true]⟩, M') ∧ (∀ n, n < 3 → Buf M M' (ad n) ((g1 f s hd n).map (Value.int .u8))) ∧ ∀ n, n < 3 → (g1 f s hd n).length ≤ cc n) ∨ (¬ PassesP f s hd ∧ r = (.tuple ⟨[.agg ⟨zeroF⟩, .bool false]⟩, M'))) := by
  have fpre : ∀ {M'}, Pre M M' → FrIn M' f := fun p => ⟨fun n hn => (hf.rd n hn).pre p, hf.by_, hf.cap⟩
  refine Ac.of (Evp.of_eq (fun k => zoetropelaw25_passes.entry k ..) ?_)
  refine Evp.ret (lp_step lo f hd s 0 (by omega) zFr M hlo hf hs hx (fun h M' p => ⟨M', p, .inr ⟨fun e => h (e 0 (by omega)), rfl⟩⟩) fun M1 a0 c0 x0 y0 p1 b0 q0 => ?_)
  rw [show IntKind.i64.wrap (((0 : Nat) : Int) + 1) = ((1 : Nat) : Int) from by decide]
  have l1 := p1.len
  refine lp_step lo f hd s 1 (by omega) _ M1 (by omega) (fpre p1) (hs.pre p1) hx (fun h M' p => ⟨M', p1.trans p, .inr ⟨fun e => h (e 1 (by omega)), rfl⟩⟩) fun M2 a1 c1 x1 y1 p2 b1 q1 => ?_
  rw [show IntKind.i64.wrap (((1 : Nat) : Int) + 1) = ((2 : Nat) : Int) from by decide]
  have l2 := p2.len
  refine lp_step lo f hd s 2 (by omega) _ M2 (by omega) (fpre (p1.trans p2)) (hs.pre (p1.trans p2)) hx (fun h M' p => ⟨M', (p1.trans p2).trans p, .inr ⟨fun e => h (e 2 (by omega)), rfl⟩⟩) fun M3 a2 c2 x2 y2 p3 b2 q2 => ?_
  rw [show IntKind.i64.wrap (((2 : Nat) : Int) + 1) = 3 from by decide]
  refine Run.cut (Evp.of_eq (fun k => zoetropelaw25_passes.p116 k ..) ?_)
  refine Evp.ff rfl ?_
  refine Evp.some rfl (Evp.some rfl (Evp.some rfl (Evp.some rfl (Evp.some rfl (Evp.some rfl (Evp.some rfl (Evp.some rfl (Evp.some rfl ?_))))))))
  refine Evp.ret (Run.ret ⟨M3, (p1.trans p2).trans p3, .inl ⟨fun n hn => ?_, pick3 a0 a1 a2, pick3 c0 c1 c2, rfl, fun n hn => ?_, fun n hn => ?_⟩⟩)
  · rcases lt3 hn with rfl | rfl | rfl
    · exact ⟨x0, y0⟩
    · exact ⟨x1, y1⟩
    · exact ⟨x2, y2⟩
  · rcases lt3 hn with rfl | rfl | rfl
    · exact b0.pre (p2.trans p3)
    · exact (b1.floor l1).pre p3
    · exact b2.floor (by omega)
  · rcases lt3 hn with rfl | rfl | rfl
    · rw [g1_len]; exact q0
    · rw [g1_len]; exact q1
    · rw [g1_len]; exact q2
end
structure WSt (f : Fr3) (s : SideV) (hd : Hd) (g h : Nat → List Int) (n : Nat) (M : Mem) (W : Fr3) : Prop where
  in_ : FrIn M W
  dim : ∀ k, k < 3 → (W.at k).w = (f.at k).w ∧ (W.at k).h = (f.at k).h
  eq : ∀ k, k < 3 → (W.at k).xs = if k < n then restG f s hd g h k else g k
section
variable (lo : Nat) (f O B : Fr3) (hd : Hd) (s : SideV) (g h : Nat → List Int)
theorem lw_step (x1 : Int) (n : Nat) (hn : n < 3) (M : Mem) (hlo : lo ≤ M.length) (hs : SideOk M s) (hB : FrIn M B) (hBd : ∀ k, k < 3 → (B.at k).w = (f.at k).w ∧ (B.at k).h = (f.at k).h ∧ (B.at k).xs = h k) (hln : ∀ k, k < 3 → (g k).length = (f.at k).xs.length ∧ (h k).length = (f.at k).xs.length) (W : Fr3) (st : WSt f s hd g h n M W) {Q : Value × Mem → Prop}
    (hbad : ¬ RestP f s hd → ∀ M', Pre M M' → Q (.bool (x1 == 2), M'))
    (hok : ∀ M' W', Pre M M' → (rest hd n = true → PlaneOk (s.un n).us (f.at n).w (f.at n).h (f.at n).xs.length (f.at n).w (f.at n).h (f.at n).xs.length (sideN n)) → WSt f s hd g h (n + 1) M' W' →
      Run P T lo F.zoetropelaw25_ChainSteps (zoetropelaw25_ChainSteps.c32756 x1 (IntKind.i64.wrap ((n : Int) + 1)) f.p0.w f.p0.h f.p0.A f.p0.xs.length f.p0.c f.p1.w f.p1.h f.p1.A f.p1.xs.length f.p1.c f.p2.w f.p2.h f.p2.A f.p2.xs.length f.p2.c hd.h0 hd.h1 hd.h2 hd.h3 hd.h4 hd.h5 hd.h6 hd.h7 hd.h8 hd.h9 hd.h10 hd.h11 hd.h12 hd.h13 hd.h14 hd.h15 hd.h16 hd.h17 hd.h18 hd.h19 hd.h20 hd.h21 hd.h22 hd.cdef hd.damp hd.h25 hd.A hd.n hd.c hd.h27 hd.h28 hd.h29 s.m0.w s.m0.h s.m0.AT s.m0.tx.length s.m0.ct s.m0.AI s.m0.ids.length s.m0.ci s.m0.AQ s.m0.qs.length s.m0.cq s.m1.w s.m1.h s.m1.AT s.m1.tx.length s.m1.ct s.m1.AI s.m1.ids.length s.m1.ci s.m1.AQ s.m1.qs.length s.m1.cq s.m2.w s.m2.h s.m2.AT s.m2.tx.length s.m2.ct s.m2.AI s.m2.ids.length s.m2.ci s.m2.AQ s.m2.qs.length s.m2.cq s.Q s.qs.length s.qc s.V s.ws.length s.vc s.u0.A s.u0.us.length s.u0.c s.u1.A s.u1.us.length s.u1.c s.u2.A s.u2.us.length s.u2.c O.p0.w O.p0.h O.p0.A O.p0.xs.length O.p0.c O.p1.w O.p1.h O.p1.A O.p1.xs.length O.p1.c O.p2.w O.p2.h O.p2.A O.p2.xs.length O.p2.c B.p0.w B.p0.h B.p0.A B.p0.xs.length B.p0.c B.p1.w B.p1.h B.p1.A B.p1.xs.length B.p1.c B.p2.w B.p2.h B.p2.A B.p2.xs.length B.p2.c W'.cells M') Q) :
    Run P T lo F.zoetropelaw25_ChainSteps (zoetropelaw25_ChainSteps.c32756 x1 (n : Int) f.p0.w f.p0.h f.p0.A f.p0.xs.length f.p0.c f.p1.w f.p1.h f.p1.A f.p1.xs.length f.p1.c f.p2.w f.p2.h f.p2.A f.p2.xs.length f.p2.c hd.h0 hd.h1 hd.h2 hd.h3 hd.h4 hd.h5 hd.h6 hd.h7 hd.h8 hd.h9 hd.h10 hd.h11 hd.h12 hd.h13 hd.h14 hd.h15 hd.h16 hd.h17 hd.h18 hd.h19 hd.h20 hd.h21 hd.h22 hd.cdef hd.damp hd.h25 hd.A hd.n hd.c hd.h27 hd.h28 hd.h29 s.m0.w s.m0.h s.m0.AT s.m0.tx.length s.m0.ct s.m0.AI s.m0.ids.length s.m0.ci s.m0.AQ s.m0.qs.length s.m0.cq s.m1.w s.m1.h s.m1.AT s.m1.tx.length s.m1.ct s.m1.AI s.m1.ids.length s.m1.ci s.m1.AQ s.m1.qs.length s.m1.cq s.m2.w s.m2.h s.m2.AT s.m2.tx.length s.m2.ct s.m2.AI s.m2.ids.length s.m2.ci s.m2.AQ s.m2.qs.length s.m2.cq s.Q s.qs.length s.qc s.V s.ws.length s.vc s.u0.A s.u0.us.length s.u0.c s.u1.A s.u1.us.length s.u1.c s.u2.A s.u2.us.length s.u2.c O.p0.w O.p0.h O.p0.A O.p0.xs.length O.p0.c O.p1.w O.p1.h O.p1.A O.p1.xs.length O.p1.c O.p2.w O.p2.h O.p2.A O.p2.xs.length O.p2.c B.p0.w B.p0.h B.p0.A B.p0.xs.length B.p0.c B.p1.w B.p1.h B.p1.A B.p1.xs.length B.p1.c B.p2.w B.p2.h B.p2.A B.p2.xs.length B.p2.c W.cells M) Q := by
  have p0 : Pre M (M ++ [⟨.fx, [.int .i64 64, .int .i64 32, .int .i64 32]⟩] : Mem) := Pre.app _ _
  have l0 : (M ++ [⟨.fx, [.int .i64 64, .int .i64 32, .int .i64 32]⟩] : Mem).length = M.length + 1 := by simp
  have hsid := push_self M ⟨.fx, [.int .i64 64, .int .i64 32, .int .i64 32]⟩
  obtain ⟨w1, w2⟩ := st.dim n hn
  have w3 : (W.at n).xs = g n := by rw [st.eq n hn, if_neg (by omega)]
  obtain ⟨v1, v2, v3⟩ := hBd n hn
  obtain ⟨n1, n2⟩ := hln n hn
  have hu := (hs.u n).pre p0
  have rW := (st.in_.rd n hn).pre p0
  have bW := st.in_.by_ n hn
  have cW := st.in_.cap n hn
  have rB := (hB.rd n hn).pre p0
  have bB := hB.by_ n hn
  have cB := hB.cap n hn
  rcases lt3 hn with rfl | rfl | rfl
  · refine Run.cut (Evp.of_eq (fun k => zoetropelaw25_ChainSteps.p32756 k ..) ?_)
    refine Evp.tt rfl (Evp.pos (by decide) (Evp.some rfl ?_))
    refine Evp.nb (fun hr => ?_) fun hr => ?_
    · have hr : rest hd 0 = false := hr
      refine Evp.ret ?_
      refine Run.cut (Evp.of_eq (fun k => zoetropelaw25_ChainSteps.p131027 k ..) ?_)
      refine Evp.ret (hok M W (Pre.refl M) (fun e => by rw [hr] at e; cases e) ⟨st.in_, st.dim, fun k hk => ?_⟩)
      rw [st.eq k hk]
      by_cases e : k = 0
      · subst e; rw [if_neg (by omega), if_pos (by omega)]; unfold restG; rw [if_neg (by rw [hr]; decide)]
      · by_cases e2 : k < 0
        · rw [if_pos e2, if_pos (by omega)]
        · rw [if_neg e2, if_neg (by omega)]
    · have hr : rest hd 0 = true := hr
      refine Evp.pos (by decide) (Evp.some rfl (Evp.some rfl (Evp.some rfl (Evp.pos (by decide) (Evp.some rfl (Evp.some rfl (Evp.some rfl (Evp.pos (by decide) (Evp.some rfl (Evp.pos (by decide) (Evp.some (ld_int hsid rfl rfl) ?_)))))))))))
      refine Evp.ob (plane_ok lo (s.un 0).A (W.at 0).A (B.at 0).A (s.un 0).c (W.at 0).c (B.at 0).c (s.un 0).us (W.at 0).xs (B.at 0).xs (W.at 0).w (W.at 0).h (B.at 0).w (B.at 0).h (sideS 0) _ (by omega) hu.rd hu.wf hu.n rW rB bW bB cW cB) ?_
      rintro ⟨v, M1⟩ hq
      have eP : PlaneOk (s.un 0).us (W.at 0).w (W.at 0).h (W.at 0).xs.length (B.at 0).w (B.at 0).h (B.at 0).xs.length (sideS 0) ↔ PlaneOk (s.un 0).us (f.at 0).w (f.at 0).h (f.at 0).xs.length (f.at 0).w (f.at 0).h (f.at 0).xs.length (sideN 0) := by
        rw [w1, w2, w3, v1, v2, v3, n1, n2, (sideS_eq 0).2]
      by_cases k1 : PlaneOk (s.un 0).us (W.at 0).w (W.at 0).h (W.at 0).xs.length (B.at 0).w (B.at 0).h (B.at 0).xs.length (sideS 0)
      · obtain ⟨a, c, rfl, p1, hc, b1⟩ := hq.got k1
        simp only [ret_int, ret_bool, ret_flt, ret_slc, ret_str, ret_ptr, ret_agg, ret_tup, ob_some, bb_true, bb_false, List.getElem?_cons_zero, List.getElem?_cons_succ, List.length_cons, List.length_nil, Nat.reduceAdd, Nat.reduceLT]
        have eo : outW (s.un 0).us (W.at 0).xs (B.at 0).xs (W.at 0).w.toNat (W.at 0).h.toNat (sideS 0).toNat = restG f s hd g h 0 := by
          unfold restG; rw [if_pos hr, w1, w2, w3, v3, (sideS_eq 0).1]
        have ln : (restG f s hd g h 0).length = (W.at 0).xs.length := by
          rw [← eo, outW_len]
          have := (checkS_len' k1.1).2.2.2.2
          have c1 := checkS_len' k1.1
          obtain ⟨Ww, hW⟩ := Int.eq_ofNat_of_zero_le (a := (W.at 0).w) (by omega)
          obtain ⟨Hh, hH⟩ := Int.eq_ofNat_of_zero_le (a := (W.at 0).h) (by omega)
          rw [hW, hH] at this ⊢
          rw [← Int.natCast_mul, Nat.mul_comm] at this
          simp only [Int.toNat_natCast]
          omega
        refine Evp.ff rfl (Evp.pos (by decide) (Evp.pos (Nat.le_of_ble_eq_true rfl) (Evp.ret ?_)))
        rw [show (W.at 0).xs.length = (restG f s hd g h 0).length from ln.symm]
        refine Run.cut (Evp.of_eq (fun k => zoetropelaw25_ChainSteps.p131027 k ..) ?_)
        have q1 := p0.trans p1
        refine Evp.ret (hok M1 (W.set 0 ⟨(W.at 0).w, (W.at 0).h, some a, c, restG f s hd g h 0⟩) q1 (fun _ => eP.1 k1) ⟨⟨fun k hk => ?_, fun k hk => ?_, fun k hk => ?_⟩, fun k hk => ?_, fun k hk => ?_⟩)
        · rw [W.at_set 0 hn _ k hk]
          split
          · rw [eo] at b1; exact b1.rdI
          · exact (st.in_.rd k hk).pre q1
        · rw [W.at_set 0 hn _ k hk]
          split
          · show Bytes (restG f s hd g h 0)
            rw [← eo]; exact outW_bytes bW
          · exact st.in_.by_ k hk
        · rw [W.at_set 0 hn _ k hk]
          split
          · show (restG f s hd g h 0).length ≤ c
            rw [ln]; exact hc
          · exact st.in_.cap k hk
        · rw [W.at_set 0 hn _ k hk]
          split
          · rename_i e; subst e; exact ⟨w1, w2⟩
          · exact st.dim k hk
        · rw [W.at_set 0 hn _ k hk]
          by_cases e : k = 0
          · subst e; rw [if_pos rfl, if_pos (by omega)]
          · rw [if_neg e, st.eq k hk]
            by_cases e2 : k < 0
            · rw [if_pos e2, if_pos (by omega)]
            · rw [if_neg e2, if_neg (by omega)]
      · obtain ⟨rfl, p1⟩ := hq.not k1
        simp only [ret_int, ret_bool, ret_flt, ret_slc, ret_str, ret_ptr, ret_agg, ret_tup, ob_some, bb_true, bb_false, List.getElem?_cons_zero, List.getElem?_cons_succ, List.length_cons, List.length_nil, Nat.reduceAdd, Nat.reduceLT]
        exact Evp.tt rfl (Evp.ret (Run.ret (hbad (fun e => k1 (eP.2 (e 0 (by omega) hr))) M1 (p0.trans p1))))
  · refine Run.cut (Evp.of_eq (fun k => zoetropelaw25_ChainSteps.p32756 k ..) ?_)
    refine Evp.tt rfl (Evp.pos (by decide) (Evp.some rfl ?_))
    refine Evp.nb (fun hr => ?_) fun hr => ?_
    · have hr : rest hd 1 = false := hr
      refine Evp.ret ?_
      refine Run.cut (Evp.of_eq (fun k => zoetropelaw25_ChainSteps.p131027 k ..) ?_)
      refine Evp.ret (hok M W (Pre.refl M) (fun e => by rw [hr] at e; cases e) ⟨st.in_, st.dim, fun k hk => ?_⟩)
      rw [st.eq k hk]
      by_cases e : k = 1
      · subst e; rw [if_neg (by omega), if_pos (by omega)]; unfold restG; rw [if_neg (by rw [hr]; decide)]
      · by_cases e2 : k < 1
        · rw [if_pos e2, if_pos (by omega)]
        · rw [if_neg e2, if_neg (by omega)]
    · have hr : rest hd 1 = true := hr
      refine Evp.pos (by decide) (Evp.some rfl (Evp.some rfl (Evp.some rfl (Evp.pos (by decide) (Evp.some rfl (Evp.some rfl (Evp.some rfl (Evp.pos (by decide) (Evp.some rfl (Evp.pos (by decide) (Evp.some (ld_int hsid rfl rfl) ?_)))))))))))
      refine Evp.ob (plane_ok lo (s.un 1).A (W.at 1).A (B.at 1).A (s.un 1).c (W.at 1).c (B.at 1).c (s.un 1).us (W.at 1).xs (B.at 1).xs (W.at 1).w (W.at 1).h (B.at 1).w (B.at 1).h (sideS 1) _ (by omega) hu.rd hu.wf hu.n rW rB bW bB cW cB) ?_
      rintro ⟨v, M1⟩ hq
      have eP : PlaneOk (s.un 1).us (W.at 1).w (W.at 1).h (W.at 1).xs.length (B.at 1).w (B.at 1).h (B.at 1).xs.length (sideS 1) ↔ PlaneOk (s.un 1).us (f.at 1).w (f.at 1).h (f.at 1).xs.length (f.at 1).w (f.at 1).h (f.at 1).xs.length (sideN 1) := by
        rw [w1, w2, w3, v1, v2, v3, n1, n2, (sideS_eq 1).2]
      by_cases k1 : PlaneOk (s.un 1).us (W.at 1).w (W.at 1).h (W.at 1).xs.length (B.at 1).w (B.at 1).h (B.at 1).xs.length (sideS 1)
      · obtain ⟨a, c, rfl, p1, hc, b1⟩ := hq.got k1
        simp only [ret_int, ret_bool, ret_flt, ret_slc, ret_str, ret_ptr, ret_agg, ret_tup, ob_some, bb_true, bb_false, List.getElem?_cons_zero, List.getElem?_cons_succ, List.length_cons, List.length_nil, Nat.reduceAdd, Nat.reduceLT]
        have eo : outW (s.un 1).us (W.at 1).xs (B.at 1).xs (W.at 1).w.toNat (W.at 1).h.toNat (sideS 1).toNat = restG f s hd g h 1 := by
          unfold restG; rw [if_pos hr, w1, w2, w3, v3, (sideS_eq 1).1]
        have ln : (restG f s hd g h 1).length = (W.at 1).xs.length := by
          rw [← eo, outW_len]
          have := (checkS_len' k1.1).2.2.2.2
          have c1 := checkS_len' k1.1
          obtain ⟨Ww, hW⟩ := Int.eq_ofNat_of_zero_le (a := (W.at 1).w) (by omega)
          obtain ⟨Hh, hH⟩ := Int.eq_ofNat_of_zero_le (a := (W.at 1).h) (by omega)
          rw [hW, hH] at this ⊢
          rw [← Int.natCast_mul, Nat.mul_comm] at this
          simp only [Int.toNat_natCast]
          omega
        refine Evp.ff rfl (Evp.pos (by decide) (Evp.pos (Nat.le_of_ble_eq_true rfl) (Evp.ret ?_)))
        rw [show (W.at 1).xs.length = (restG f s hd g h 1).length from ln.symm]
        refine Run.cut (Evp.of_eq (fun k => zoetropelaw25_ChainSteps.p131027 k ..) ?_)
        have q1 := p0.trans p1
        refine Evp.ret (hok M1 (W.set 1 ⟨(W.at 1).w, (W.at 1).h, some a, c, restG f s hd g h 1⟩) q1 (fun _ => eP.1 k1) ⟨⟨fun k hk => ?_, fun k hk => ?_, fun k hk => ?_⟩, fun k hk => ?_, fun k hk => ?_⟩)
        · rw [W.at_set 1 hn _ k hk]
          split
          · rw [eo] at b1; exact b1.rdI
          · exact (st.in_.rd k hk).pre q1
        · rw [W.at_set 1 hn _ k hk]
          split
          · show Bytes (restG f s hd g h 1)
            rw [← eo]; exact outW_bytes bW
          · exact st.in_.by_ k hk
        · rw [W.at_set 1 hn _ k hk]
          split
          · show (restG f s hd g h 1).length ≤ c
            rw [ln]; exact hc
          · exact st.in_.cap k hk
        · rw [W.at_set 1 hn _ k hk]
          split
          · rename_i e; subst e; exact ⟨w1, w2⟩
          · exact st.dim k hk
        · rw [W.at_set 1 hn _ k hk]
          by_cases e : k = 1
          · subst e; rw [if_pos rfl, if_pos (by omega)]
          · rw [if_neg e, st.eq k hk]
            by_cases e2 : k < 1
            · rw [if_pos e2, if_pos (by omega)]
            · rw [if_neg e2, if_neg (by omega)]
      · obtain ⟨rfl, p1⟩ := hq.not k1
        simp only [ret_int, ret_bool, ret_flt, ret_slc, ret_str, ret_ptr, ret_agg, ret_tup, ob_some, bb_true, bb_false, List.getElem?_cons_zero, List.getElem?_cons_succ, List.length_cons, List.length_nil, Nat.reduceAdd, Nat.reduceLT]
        exact Evp.tt rfl (Evp.ret (Run.ret (hbad (fun e => k1 (eP.2 (e 1 (by omega) hr))) M1 (p0.trans p1))))
  · refine Run.cut (Evp.of_eq (fun k => zoetropelaw25_ChainSteps.p32756 k ..) ?_)
    refine Evp.tt rfl (Evp.pos (by decide) (Evp.some rfl ?_))
    refine Evp.nb (fun hr => ?_) fun hr => ?_
    · have hr : rest hd 2 = false := hr
      refine Evp.ret ?_
      refine Run.cut (Evp.of_eq (fun k => zoetropelaw25_ChainSteps.p131027 k ..) ?_)
      refine Evp.ret (hok M W (Pre.refl M) (fun e => by rw [hr] at e; cases e) ⟨st.in_, st.dim, fun k hk => ?_⟩)
      rw [st.eq k hk]
      by_cases e : k = 2
      · subst e; rw [if_neg (by omega), if_pos (by omega)]; unfold restG; rw [if_neg (by rw [hr]; decide)]
      · by_cases e2 : k < 2
        · rw [if_pos e2, if_pos (by omega)]
        · rw [if_neg e2, if_neg (by omega)]
    · have hr : rest hd 2 = true := hr
      refine Evp.pos (by decide) (Evp.some rfl (Evp.some rfl (Evp.some rfl (Evp.pos (by decide) (Evp.some rfl (Evp.some rfl (Evp.some rfl (Evp.pos (by decide) (Evp.some rfl (Evp.pos (by decide) (Evp.some (ld_int hsid rfl rfl) ?_)))))))))))
      refine Evp.ob (plane_ok lo (s.un 2).A (W.at 2).A (B.at 2).A (s.un 2).c (W.at 2).c (B.at 2).c (s.un 2).us (W.at 2).xs (B.at 2).xs (W.at 2).w (W.at 2).h (B.at 2).w (B.at 2).h (sideS 2) _ (by omega) hu.rd hu.wf hu.n rW rB bW bB cW cB) ?_
      rintro ⟨v, M1⟩ hq
      have eP : PlaneOk (s.un 2).us (W.at 2).w (W.at 2).h (W.at 2).xs.length (B.at 2).w (B.at 2).h (B.at 2).xs.length (sideS 2) ↔ PlaneOk (s.un 2).us (f.at 2).w (f.at 2).h (f.at 2).xs.length (f.at 2).w (f.at 2).h (f.at 2).xs.length (sideN 2) := by
        rw [w1, w2, w3, v1, v2, v3, n1, n2, (sideS_eq 2).2]
      by_cases k1 : PlaneOk (s.un 2).us (W.at 2).w (W.at 2).h (W.at 2).xs.length (B.at 2).w (B.at 2).h (B.at 2).xs.length (sideS 2)
      · obtain ⟨a, c, rfl, p1, hc, b1⟩ := hq.got k1
        simp only [ret_int, ret_bool, ret_flt, ret_slc, ret_str, ret_ptr, ret_agg, ret_tup, ob_some, bb_true, bb_false, List.getElem?_cons_zero, List.getElem?_cons_succ, List.length_cons, List.length_nil, Nat.reduceAdd, Nat.reduceLT]
        have eo : outW (s.un 2).us (W.at 2).xs (B.at 2).xs (W.at 2).w.toNat (W.at 2).h.toNat (sideS 2).toNat = restG f s hd g h 2 := by
          unfold restG; rw [if_pos hr, w1, w2, w3, v3, (sideS_eq 2).1]
        have ln : (restG f s hd g h 2).length = (W.at 2).xs.length := by
          rw [← eo, outW_len]
          have := (checkS_len' k1.1).2.2.2.2
          have c1 := checkS_len' k1.1
          obtain ⟨Ww, hW⟩ := Int.eq_ofNat_of_zero_le (a := (W.at 2).w) (by omega)
          obtain ⟨Hh, hH⟩ := Int.eq_ofNat_of_zero_le (a := (W.at 2).h) (by omega)
          rw [hW, hH] at this ⊢
          rw [← Int.natCast_mul, Nat.mul_comm] at this
          simp only [Int.toNat_natCast]
          omega
        refine Evp.ff rfl (Evp.pos (by decide) (Evp.pos (Nat.le_of_ble_eq_true rfl) (Evp.ret ?_)))
        rw [show (W.at 2).xs.length = (restG f s hd g h 2).length from ln.symm]
        refine Run.cut (Evp.of_eq (fun k => zoetropelaw25_ChainSteps.p131027 k ..) ?_)
        have q1 := p0.trans p1
        refine Evp.ret (hok M1 (W.set 2 ⟨(W.at 2).w, (W.at 2).h, some a, c, restG f s hd g h 2⟩) q1 (fun _ => eP.1 k1) ⟨⟨fun k hk => ?_, fun k hk => ?_, fun k hk => ?_⟩, fun k hk => ?_, fun k hk => ?_⟩)
        · rw [W.at_set 2 hn _ k hk]
          split
          · rw [eo] at b1; exact b1.rdI
          · exact (st.in_.rd k hk).pre q1
        · rw [W.at_set 2 hn _ k hk]
          split
          · show Bytes (restG f s hd g h 2)
            rw [← eo]; exact outW_bytes bW
          · exact st.in_.by_ k hk
        · rw [W.at_set 2 hn _ k hk]
          split
          · show (restG f s hd g h 2).length ≤ c
            rw [ln]; exact hc
          · exact st.in_.cap k hk
        · rw [W.at_set 2 hn _ k hk]
          split
          · rename_i e; subst e; exact ⟨w1, w2⟩
          · exact st.dim k hk
        · rw [W.at_set 2 hn _ k hk]
          by_cases e : k = 2
          · subst e; rw [if_pos rfl, if_pos (by omega)]
          · rw [if_neg e, st.eq k hk]
            by_cases e2 : k < 2
            · rw [if_pos e2, if_pos (by omega)]
            · rw [if_neg e2, if_neg (by omega)]
      · obtain ⟨rfl, p1⟩ := hq.not k1
        simp only [ret_int, ret_bool, ret_flt, ret_slc, ret_str, ret_ptr, ret_agg, ret_tup, ob_some, bb_true, bb_false, List.getElem?_cons_zero, List.getElem?_cons_succ, List.length_cons, List.length_nil, Nat.reduceAdd, Nat.reduceLT]
        exact Evp.tt rfl (Evp.ret (Run.ret (hbad (fun e => k1 (eP.2 (e 2 (by omega) hr))) M1 (p0.trans p1))))
end
end Go.Zt
