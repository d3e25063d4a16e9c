/- What the law ChainRuns needs of the text Fl. -/
import Derived.Test.YtbbfdebfhgdciaaGreatPFk
set_option linter.unusedVariables false
set_option linter.unusedSimpArgs false
set_option maxRecDepth 100000
set_option maxHeartbeats 4000000
namespace Go.Zt
open IntKind (i64 u8)
theorem zgi (lo:Nat)(A A':Option Addr)(c c':Nat)(xs ys:List Int)(M:Mem)(hx:RdI M .u8 A xs)(hy:RdI M .u8 A' ys)(hl:xs.length=ys.length)(hn:xs.length≤140737488351232) :
  ∀ (d i:Nat),xs.length - i=d→i≤xs.length→(∀ j,j < i→xs.getD j 0=ys.getD j 0)→Run P T lo F.js (js.Ca A xs.length c A' ys.length c' i M) fun r=>r=(.bool (decide (xs=ys)),M):=by
 intro d
 induction d with
 | zero=>
  intro i hd hi hj
  refine kut (fun k=>js.Pa k ..) ?_
  refine Evp.dec (fun h=>absurd h (by omega)) fun _=>Evp.ret (Run.ret ?_)
  rw [decide_eq_true (zcb hl fun j h=>hj j (by omega))]
 | succ d ih=>
  intro i hd hi hj
  refine kut (fun k=>js.Pa k ..) ?_
  refine Evp.dec (fun _=>?_) fun h=>absurd h (by omega)
  refine Evp.pos (by omega) ?_
  simp only [Int.toNat_natCast]
  refine Evp.ldI hx (by omega) fun a _=>?_
  refine Evp.pos (by omega) ?_
  refine Evp.ldI hy (by omega) fun a' _=>?_
  refine Evp.neb (fun hne=>Evp.ret (Run.ret ?_)) fun he=>?_
  ·rw [decide_eq_false (fun e=>hne (by rw [e]))]
  ·rw [w64 (by omega)]
   exact Evp.ret (ih (i+1) (by omega) (by omega) fun j h=>by
    by_cases hji:j=i
    ·subst hji;exact he
    ·exact hj j (by omega))
theorem z55 (lo:Nat)(A A':Option Addr)(c c':Nat)(xs ys:List Int)(M:Mem)(hx:RdI M .u8 A xs)(hy:RdI M .u8 A' ys)(hn:xs.length≤140737488351232) :
  Ac P T lo F.js [.slice A xs.length c,.slice A' ys.length c'] M fun r=>r=(.bool (decide (xs=ys)),M):=by
 refine Ac.of (Evp.of_eq (fun k=>js.entry k ..) ?_)
 refine Evp.neb (fun h=>Evp.ret (Run.ret ?_)) fun h=>?_
 ·rw [decide_eq_false (fun e=>h (by rw [e]))]
 ·exact Evp.ret (zgi lo A A' c c' xs ys M hx hy (by omega) hn _ 0 rfl (by omega) fun j h=>by omega)
theorem zbc (lo:Nat)(w h w' h':Int)(A A':Option Addr)(c c':Nat)(xs ys:List Int)(M:Mem)(hx:RdI M .u8 A xs)(hy:RdI M .u8 A' ys)(hn:xs.length≤140737488351232) :
  Ac P T lo F.z9z [.agg ⟨[.int .i64 w,.int .i64 h,.slice A xs.length c]⟩,.agg ⟨[.int .i64 w',.int .i64 h',.slice A' ys.length c']⟩] M fun r=>r=(.bool (decide (w=w'∧h=h'∧xs=ys)),M):=by
 refine Ac.of (Evp.of_eq (fun k=>z9z.entry k ..) ?_)
 refine Evp.eqb (fun h1=>?_) fun h1=>Evp.ret (Run.ret (by rw [decide_eq_false (fun e=>h1 e.1)]))
 refine Evp.eqb (fun h2=>?_) fun h2=>Evp.ret (Run.ret (by rw [decide_eq_false (fun e=>h2 e.2.1)]))
 refine Evp.ob (z55 _ _ _ _ _ _ _ _ hx hy hn) ?_
 rintro _ rfl
 simp only [RD,RE,Nat.reduceAdd,Nat.reduceLT]
 refine Evp.ret (Run.ret ?_)
 congr 2
 exact decide_eq_decide.2 (by simp [h1,h2])
section
variable (lo:Nat)(w0 h0 w1 h1 w2 h2:Int)(A0 A1 A2:Option Addr)(c0 c1 c2:Nat)(xs ys zs:List Int)(M:Mem)
theorem zgj (hx:RdI M .u8 A0 xs)(hy:RdI M .u8 A1 ys)(hz:RdI M .u8 A2 zs)(n0:xs.length≤140737488351232)(n1:ys.length≤140737488351232)(n2:zs.length≤140737488351232) :
  Ac P T lo F.y7 [.agg ⟨[.int .i64 w0,.int .i64 h0,.slice A0 xs.length c0,.int .i64 w1,.int .i64 h1,.slice A1 ys.length c1,.int .i64 w2,.int .i64 h2,.slice A2 zs.length c2]⟩] M fun r=>
   ∃ B0 B1 B2 d0 d1 d2 M',r=(.agg ⟨[.int .i64 w0,.int .i64 h0,.slice B0 xs.length d0,.int .i64 w1,.int .i64 h1,.slice B1 ys.length d1,.int .i64 w2,.int .i64 h2,.slice B2 zs.length d2]⟩,M')∧Pre M M'∧RdI M' .u8 B0 xs∧RdI M' .u8 B1 ys∧RdI M' .u8 B2 zs∧xs.length≤d0∧ys.length≤d1∧zs.length≤d2:=by
 refine Ac.of (Evp.of_eq (fun k=>y7.entry k ..) ?_)
 refine Evp.ret ?_
 refine kut (fun k=>y7.Pa k ..) ?_
 refine Evp.tt rfl (Evp.pos (by decide) (Evp.some rfl (Evp.some rfl (Evp.some rfl ?_))))
 refine Evp.ob (vu _ _ _ _ _ _ _ hx n0) ?_
 rintro _ ⟨B0,d0,M1,rfl,p1,g1,k1⟩
 simp only [RD,RE,Nat.reduceAdd,Nat.reduceLT]
 refine Evp.pos (by decide) (Evp.pos (Nat.le_of_ble_eq_true rfl) ?_)
 rw [show i64.wrap (0+1)=1 from by decide]
 refine Evp.ret ?_
 refine kut (fun k=>y7.Pa k ..) ?_
 refine Evp.tt rfl (Evp.pos (by decide) (Evp.some rfl (Evp.some rfl (Evp.some rfl ?_))))
 refine Evp.ob (vu _ _ _ _ _ _ _ (hy.pre p1) n1) ?_
 rintro _ ⟨B1,d1,M2,rfl,p2,g2,k2⟩
 simp only [RD,RE,Nat.reduceAdd,Nat.reduceLT]
 refine Evp.pos (by decide) (Evp.pos (Nat.le_of_ble_eq_true rfl) ?_)
 rw [show i64.wrap (1+1)=2 from by decide]
 refine Evp.ret ?_
 refine kut (fun k=>y7.Pa k ..) ?_
 refine Evp.tt rfl (Evp.pos (by decide) (Evp.some rfl (Evp.some rfl (Evp.some rfl ?_))))
 refine Evp.ob (vu _ _ _ _ _ _ _ (hz.pre (p1.trans p2)) n2) ?_
 rintro _ ⟨B2,d2,M3,rfl,p3,g3,k3⟩
 simp only [RD,RE,Nat.reduceAdd,Nat.reduceLT]
 refine Evp.pos (by decide) (Evp.pos (Nat.le_of_ble_eq_true rfl) ?_)
 rw [show i64.wrap (2+1)=3 from by decide]
 refine Evp.ret ?_
 refine kut (fun k=>y7.Pa k ..) ?_
 refine Evp.ff rfl ?_
 refine Evp.some rfl (Evp.some rfl (Evp.some rfl (Evp.some rfl (Evp.some rfl (Evp.some rfl (Evp.some rfl (Evp.some rfl (Evp.some rfl ?_))))))))
 exact Evp.ret (Run.ret ⟨B0,B1,B2,d0,d1,d2,M3,rfl,(p1.trans p2).trans p3,k1.rdI.pre (p2.trans p3),k2.rdI.pre p3,k3.rdI,g1,g2,g3⟩)
theorem zgk (B0 B1 B2:Option Addr)(d0 d1 d2:Nat)(hx:RdI M .u8 A0 xs)(hy:RdI M .u8 A1 ys)(hz:RdI M .u8 A2 zs)(hx':RdI M .u8 B0 xs)(hy':RdI M .u8 B1 ys)(hz':RdI M .u8 B2 zs)(n0:xs.length≤140737488351232)(n1:ys.length≤140737488351232)(n2:zs.length≤140737488351232) :
  Ac P T lo F.z65 [.agg ⟨[.int .i64 w0,.int .i64 h0,.slice A0 xs.length c0,.int .i64 w1,.int .i64 h1,.slice A1 ys.length c1,.int .i64 w2,.int .i64 h2,.slice A2 zs.length c2]⟩,.agg ⟨[.int .i64 w0,.int .i64 h0,.slice B0 xs.length d0,.int .i64 w1,.int .i64 h1,.slice B1 ys.length d1,.int .i64 w2,.int .i64 h2,.slice B2 zs.length d2]⟩] M fun r=>r=(.bool true,M):=by
 refine Ac.of (Evp.of_eq (fun k=>z65.entry k ..) ?_)
 refine Evp.ob (zbc _ _ _ _ _ _ _ _ _ _ _ _ hx hx' n0) ?_
 rintro _ rfl
 simp only [RD,RE,Nat.reduceAdd,Nat.reduceLT]
 refine Evp.tt (by simp) ?_
 refine Evp.ob (zbc _ _ _ _ _ _ _ _ _ _ _ _ hy hy' n1) ?_
 rintro _ rfl
 simp only [RD,RE,Nat.reduceAdd,Nat.reduceLT]
 refine Evp.tt (by simp) ?_
 refine Evp.ob (zbc _ _ _ _ _ _ _ _ _ _ _ _ hz hz' n2) ?_
 rintro _ rfl
 simp only [RD,RE,Nat.reduceAdd,Nat.reduceLT]
 exact Evp.ret (Run.ret (by simp))
end
theorem z2w (lo:Nat)(w h mw mh:Int)(m:Cells)(A AT AI AQ:Option Addr)(c ct ci cq n:Nat)(xs:List Int)(M:Mem)(hlo:lo≤M.length)(hx:RdI M .u8 A xs)(bx:zh xs)(hn:xs.length≤140737488351232)
  (rt:RdI M .u8 AT m.tx) (ri:RdI M .i64 AI m.ids) (rq:RdB M AQ m.qs) (hnt:m.tx.length≤140737488351232) (hm:m.mw=mw.toNat) (e:n=xs.length) :
  Ac P T lo F.z6 [.agg ⟨[.int .i64 w,.int .i64 h,.slice A n c]⟩,.agg ⟨[.int .i64 mw,.int .i64 mh,.slice AT m.tx.length ct,.slice AI m.ids.length ci,.slice AQ m.qs.length cq]⟩,.bool m.up,.bool m.col,.int .i64 m.level,.int .i64 m.sharp] M (z3o M w h xs m mw mh):=by
 subst e
 exact zot lo w h mw mh m A AT AI AQ c ct ci cq xs M hlo hx bx hn rt ri rq hnt hm
section
variable (lo:Nat)(f:Fr3)(hd:Hd)(s:SideV)
theorem zdd (n:Nat)(hn:n < 3)(X:Fr3)(M:Mem)(hlo:lo≤M.length)(hf:FrIn M f)(hs:SideOk M s)(hx:∀ n,n < 3→(f.at n).xs.length≤140737488351232){Q:Value × Mem→Prop}
  (hbad:¬ (qt (f.at n) (s.map n) (lv1 hd n) hd.h22∧qt (f.at n) (s.map n) (lv2 hd n) hd.h22)→∀ M',Pre M M'→Q (.tuple ⟨[.agg ⟨z4i⟩,.int .i64 2]⟩,M'))
  (hok:∀ M' a cc,qt (f.at n) (s.map n) (lv1 hd n) hd.h22→qt (f.at n) (s.map n) (lv2 hd n) hd.h22→Pre M M'→Buf M M' a ((ly2 (f.at n) (s.map n) n hd).map (Value.int .u8))→(f.at n).xs.length≤cc →
   Run P T lo F.ja (ja.Ca (i64.wrap ((n:Int)+1)) f.p0.w f.p0.h f.p0.A f.p0.xs.length f.p0.c f.p1.w f.p1.h f.p1.A f.p1.xs.length f.p1.c f.p2.w f.p2.h f.p2.A f.p2.xs.length f.p2.c hd.h0 hd.h1 hd.h2 hd.h3 hd.h4 hd.h5 hd.h6 hd.h7 hd.h8 hd.h9 hd.h10 hd.h11 hd.h12 hd.h13 hd.h14 hd.h15 hd.h16 hd.h17 hd.h18 hd.h19 hd.h20 hd.h21 hd.h22 hd.cdef hd.damp hd.h25 hd.A hd.n hd.c hd.h27 hd.h28 hd.h29 s.m0.w s.m0.h s.m0.AT s.m0.tx.length s.m0.ct s.m0.AI s.m0.ids.length s.m0.ci s.m0.AQ s.m0.qs.length s.m0.cq s.m1.w s.m1.h s.m1.AT s.m1.tx.length s.m1.ct s.m1.AI s.m1.ids.length s.m1.ci s.m1.AQ s.m1.qs.length s.m1.cq s.m2.w s.m2.h s.m2.AT s.m2.tx.length s.m2.ct s.m2.AI s.m2.ids.length s.m2.ci s.m2.AQ s.m2.qs.length s.m2.cq s.Q s.qs.length s.qc s.V s.ws.length s.vc s.u0.A s.u0.us.length s.u0.c s.u1.A s.u1.us.length s.u1.c s.u2.A s.u2.us.length s.u2.c 0 0 none 0 0 0 0 none 0 0 0 0 none 0 0 hd.h18 hd.h19 hd.h20 hd.h20 hd.h21 hd.h21 (X.set n ⟨(f.at n).w,(f.at n).h,some a,cc,ly2 (f.at n) (s.map n) n hd⟩).cells M') Q) :
  Run P T lo F.ja (ja.Ca (n:Int) f.p0.w f.p0.h f.p0.A f.p0.xs.length f.p0.c f.p1.w f.p1.h f.p1.A f.p1.xs.length f.p1.c f.p2.w f.p2.h f.p2.A f.p2.xs.length f.p2.c hd.h0 hd.h1 hd.h2 hd.h3 hd.h4 hd.h5 hd.h6 hd.h7 hd.h8 hd.h9 hd.h10 hd.h11 hd.h12 hd.h13 hd.h14 hd.h15 hd.h16 hd.h17 hd.h18 hd.h19 hd.h20 hd.h21 hd.h22 hd.cdef hd.damp hd.h25 hd.A hd.n hd.c hd.h27 hd.h28 hd.h29 s.m0.w s.m0.h s.m0.AT s.m0.tx.length s.m0.ct s.m0.AI s.m0.ids.length s.m0.ci s.m0.AQ s.m0.qs.length s.m0.cq s.m1.w s.m1.h s.m1.AT s.m1.tx.length s.m1.ct s.m1.AI s.m1.ids.length s.m1.ci s.m1.AQ s.m1.qs.length s.m1.cq s.m2.w s.m2.h s.m2.AT s.m2.tx.length s.m2.ct s.m2.AI s.m2.ids.length s.m2.ci s.m2.AQ s.m2.qs.length s.m2.cq s.Q s.qs.length s.qc s.V s.ws.length s.vc s.u0.A s.u0.us.length s.u0.c s.u1.A s.u1.us.length s.u1.c s.u2.A s.u2.us.length s.u2.c 0 0 none 0 0 0 0 none 0 0 0 0 none 0 0 hd.h18 hd.h19 hd.h20 hd.h20 hd.h21 hd.h21 X.cells M) Q:=by
 have hm:=hs.m n
 have bf:=hf.by_ n hn
 rcases lt3 hn with rfl | rfl | rfl
 ·refine kut (fun k=>ja.Pa k ..) ?_
  refine Evp.tt rfl ?_
  refine Evp.pos (by decide) (Evp.some rfl (Evp.some rfl (Evp.some rfl (Evp.pos (by decide) (Evp.some rfl (Evp.some rfl (Evp.some rfl (Evp.some rfl (Evp.some rfl (Evp.pos (by decide) (Evp.some rfl ?_)))))))))))
  refine Evp.ob (z2w lo (f.at 0).w (f.at 0).h (s.map 0).w (s.map 0).h (mOf (s.map 0) true 0 (lv1 hd 0) hd.h22) (f.at 0).A (s.map 0).AT (s.map 0).AI (s.map 0).AQ (f.at 0).c (s.map 0).ct (s.map 0).ci (s.map 0).cq _ (f.at 0).xs M hlo (hf.rd 0 hn) bf (hx 0 hn) hm.rt hm.ri hm.rq hm.nt rfl rfl) ?_
  rintro ⟨v,M2⟩ hr
  by_cases k1:qt (f.at 0) (s.map 0) (lv1 hd 0) hd.h22
  ·obtain ⟨a,cc,rfl,p2,hcc,b2⟩:=hr.got k1
   simp only [RD,RE,Nat.reduceAdd,Nat.reduceLT]
   have l2:=p2.len
   refine Evp.ff rfl ?_
   refine Evp.pos (by decide) (Evp.some rfl (Evp.some rfl (Evp.some rfl (Evp.some rfl (Evp.some rfl (Evp.pos (by decide) (Evp.some rfl ?_)))))))
   have hm2:=hm.pre p2
   refine Evp.ob (z2w lo (f.at 0).w (f.at 0).h (s.map 0).w (s.map 0).h (mOf (s.map 0) false 0 (lv2 hd 0) hd.h22) (some a) (s.map 0).AT (s.map 0).AI (s.map 0).AQ cc (s.map 0).ct (s.map 0).ci (s.map 0).cq _ (up1 (f.at 0) (s.map 0) 0 hd) M2 (by omega) b2.rdI (z1u bf _ _ _) (by rw [j5];exact hx 0 hn) hm2.rt hm2.ri hm2.rq hm2.nt rfl (j5 ..).symm) ?_
   rintro ⟨v,M3⟩ hr
   by_cases k2:qt (f.at 0) (s.map 0) (lv2 hd 0) hd.h22
   ·obtain ⟨a',cc',rfl,p3,hcc',b3⟩:=hr.got (by rw [j5];exact k2)
    simp only [RD,RE,Nat.reduceAdd,Nat.reduceLT]
    refine Evp.ff rfl (Evp.pos (by decide) (Evp.pos (Nat.le_of_ble_eq_true rfl) ?_))
    rw [show (up1 (f.at 0) (s.map 0) 0 hd).length=(ly2 (f.at 0) (s.map 0) 0 hd).length from (j5 ..).trans (z40 ..).symm]
    exact Evp.ret (hok M3 a' cc' k1 k2 (p2.trans p3) (b3.floor l2) (by rw [j5] at hcc';exact hcc'))
   ·obtain ⟨rfl,p3⟩:=hr.not (by rw [j5];exact k2)
    simp only [RD,RE,Nat.reduceAdd,Nat.reduceLT]
    exact Evp.tt rfl (Evp.ret (Run.ret (hbad (fun e=>k2 e.2) M3 (p2.trans p3))))
  ·obtain ⟨rfl,p2⟩:=hr.not k1
   simp only [RD,RE,Nat.reduceAdd,Nat.reduceLT]
   exact Evp.tt rfl (Evp.ret (Run.ret (hbad (fun e=>k1 e.1) M2 p2)))
 ·refine kut (fun k=>ja.Pa k ..) ?_
  refine Evp.tt rfl ?_
  refine Evp.pos (by decide) (Evp.some rfl (Evp.some rfl (Evp.some rfl (Evp.pos (by decide) (Evp.some rfl (Evp.some rfl (Evp.some rfl (Evp.some rfl (Evp.some rfl (Evp.pos (by decide) (Evp.some rfl ?_)))))))))))
  refine Evp.ob (z2w lo (f.at 1).w (f.at 1).h (s.map 1).w (s.map 1).h (mOf (s.map 1) true 1 (lv1 hd 1) hd.h22) (f.at 1).A (s.map 1).AT (s.map 1).AI (s.map 1).AQ (f.at 1).c (s.map 1).ct (s.map 1).ci (s.map 1).cq _ (f.at 1).xs M hlo (hf.rd 1 hn) bf (hx 1 hn) hm.rt hm.ri hm.rq hm.nt rfl rfl) ?_
  rintro ⟨v,M2⟩ hr
  by_cases k1:qt (f.at 1) (s.map 1) (lv1 hd 1) hd.h22
  ·obtain ⟨a,cc,rfl,p2,hcc,b2⟩:=hr.got k1
   simp only [RD,RE,Nat.reduceAdd,Nat.reduceLT]
   have l2:=p2.len
   refine Evp.ff rfl ?_
   refine Evp.pos (by decide) (Evp.some rfl (Evp.some rfl (Evp.some rfl (Evp.some rfl (Evp.some rfl (Evp.pos (by decide) (Evp.some rfl ?_)))))))
   have hm2:=hm.pre p2
   refine Evp.ob (z2w lo (f.at 1).w (f.at 1).h (s.map 1).w (s.map 1).h (mOf (s.map 1) false 1 (lv2 hd 1) hd.h22) (some a) (s.map 1).AT (s.map 1).AI (s.map 1).AQ cc (s.map 1).ct (s.map 1).ci (s.map 1).cq _ (up1 (f.at 1) (s.map 1) 1 hd) M2 (by omega) b2.rdI (z1u bf _ _ _) (by rw [j5];exact hx 1 hn) hm2.rt hm2.ri hm2.rq hm2.nt rfl (j5 ..).symm) ?_
   rintro ⟨v,M3⟩ hr
   by_cases k2:qt (f.at 1) (s.map 1) (lv2 hd 1) hd.h22
   ·obtain ⟨a',cc',rfl,p3,hcc',b3⟩:=hr.got (by rw [j5];exact k2)
    simp only [RD,RE,Nat.reduceAdd,Nat.reduceLT]
    refine Evp.ff rfl (Evp.pos (by decide) (Evp.pos (Nat.le_of_ble_eq_true rfl) ?_))
    rw [show (up1 (f.at 1) (s.map 1) 1 hd).length=(ly2 (f.at 1) (s.map 1) 1 hd).length from (j5 ..).trans (z40 ..).symm]
    exact Evp.ret (hok M3 a' cc' k1 k2 (p2.trans p3) (b3.floor l2) (by rw [j5] at hcc';exact hcc'))
   ·obtain ⟨rfl,p3⟩:=hr.not (by rw [j5];exact k2)
    simp only [RD,RE,Nat.reduceAdd,Nat.reduceLT]
    exact Evp.tt rfl (Evp.ret (Run.ret (hbad (fun e=>k2 e.2) M3 (p2.trans p3))))
  ·obtain ⟨rfl,p2⟩:=hr.not k1
   simp only [RD,RE,Nat.reduceAdd,Nat.reduceLT]
   exact Evp.tt rfl (Evp.ret (Run.ret (hbad (fun e=>k1 e.1) M2 p2)))
 ·refine kut (fun k=>ja.Pa k ..) ?_
  refine Evp.tt rfl ?_
  refine Evp.pos (by decide) (Evp.some rfl (Evp.some rfl (Evp.some rfl (Evp.pos (by decide) (Evp.some rfl (Evp.some rfl (Evp.some rfl (Evp.some rfl (Evp.some rfl (Evp.pos (by decide) (Evp.some rfl ?_)))))))))))
  refine Evp.ob (z2w lo (f.at 2).w (f.at 2).h (s.map 2).w (s.map 2).h (mOf (s.map 2) true 2 (lv1 hd 2) hd.h22) (f.at 2).A (s.map 2).AT (s.map 2).AI (s.map 2).AQ (f.at 2).c (s.map 2).ct (s.map 2).ci (s.map 2).cq _ (f.at 2).xs M hlo (hf.rd 2 hn) bf (hx 2 hn) hm.rt hm.ri hm.rq hm.nt rfl rfl) ?_
  rintro ⟨v,M2⟩ hr
  by_cases k1:qt (f.at 2) (s.map 2) (lv1 hd 2) hd.h22
  ·obtain ⟨a,cc,rfl,p2,hcc,b2⟩:=hr.got k1
   simp only [RD,RE,Nat.reduceAdd,Nat.reduceLT]
   have l2:=p2.len
   refine Evp.ff rfl ?_
   refine Evp.pos (by decide) (Evp.some rfl (Evp.some rfl (Evp.some rfl (Evp.some rfl (Evp.some rfl (Evp.pos (by decide) (Evp.some rfl ?_)))))))
   have hm2:=hm.pre p2
   refine Evp.ob (z2w lo (f.at 2).w (f.at 2).h (s.map 2).w (s.map 2).h (mOf (s.map 2) false 2 (lv2 hd 2) hd.h22) (some a) (s.map 2).AT (s.map 2).AI (s.map 2).AQ cc (s.map 2).ct (s.map 2).ci (s.map 2).cq _ (up1 (f.at 2) (s.map 2) 2 hd) M2 (by omega) b2.rdI (z1u bf _ _ _) (by rw [j5];exact hx 2 hn) hm2.rt hm2.ri hm2.rq hm2.nt rfl (j5 ..).symm) ?_
   rintro ⟨v,M3⟩ hr
   by_cases k2:qt (f.at 2) (s.map 2) (lv2 hd 2) hd.h22
   ·obtain ⟨a',cc',rfl,p3,hcc',b3⟩:=hr.got (by rw [j5];exact k2)
    simp only [RD,RE,Nat.reduceAdd,Nat.reduceLT]
    refine Evp.ff rfl (Evp.pos (by decide) (Evp.pos (Nat.le_of_ble_eq_true rfl) ?_))
    rw [show (up1 (f.at 2) (s.map 2) 2 hd).length=(ly2 (f.at 2) (s.map 2) 2 hd).length from (j5 ..).trans (z40 ..).symm]
    exact Evp.ret (hok M3 a' cc' k1 k2 (p2.trans p3) (b3.floor l2) (by rw [j5] at hcc';exact hcc'))
   ·obtain ⟨rfl,p3⟩:=hr.not (by rw [j5];exact k2)
    simp only [RD,RE,Nat.reduceAdd,Nat.reduceLT]
    exact Evp.tt rfl (Evp.ret (Run.ret (hbad (fun e=>k2 e.2) M3 (p2.trans p3))))
  ·obtain ⟨rfl,p2⟩:=hr.not k1
   simp only [RD,RE,Nat.reduceAdd,Nat.reduceLT]
   exact Evp.tt rfl (Evp.ret (Run.ret (hbad (fun e=>k1 e.1) M2 p2)))
theorem zml (M:Mem)(hlo:lo≤M.length)(hf:FrIn M f)(hs:SideOk M s)(hx:∀ n,n < 3→(f.at n).xs.length≤140737488351232) :
  Ac P T lo F.ja [.agg ⟨f.cells⟩,.agg ⟨hd.cells⟩,.agg ⟨s.cells⟩] M fun r=>∃ M',Pre M M'∧((z0w f s hd∧∃ ad cc,r=(.tuple ⟨[.agg ⟨(frB f ad cc (g1 f s hd)).cells⟩,.int .i64 0]⟩,M')∧(∀ n,n < 3→Buf M M' (ad n) ((g1 f s hd n).map (Value.int .u8)))∧∀ n,n < 3→(g1 f s hd n).length≤cc n)∨(¬ z0w f s hd∧r=(.tuple ⟨[.agg ⟨z4i⟩,.int .i64 2]⟩,M'))):=by
 have fpre:∀ {M'},Pre M M'→FrIn M' f:=fun p=>⟨fun n hn=>(hf.rd n hn).pre p,hf.by_,hf.cap⟩
 refine Ac.of (Evp.of_eq (fun k=>ja.entry k ..) ?_)
 refine Evp.ret (zdd lo f hd s 0 (by omega) f M hlo hf hs hx (fun h M' p=>⟨M',p,.inr ⟨fun e=>h (e 0 (by omega)),rfl⟩⟩) fun M1 a0 c0 x0 y0 p1 b0 q0=>?_)
 rw [show i64.wrap (((0:Nat):Int)+1)=((1:Nat):Int) from by decide]
 have l1:=p1.len
 refine zdd lo f hd s 1 (by omega) _ M1 (by omega) (fpre p1) (hs.pre p1) hx (fun h M' p=>⟨M',p1.trans p,.inr ⟨fun e=>h (e 1 (by omega)),rfl⟩⟩) fun M2 a1 c1 x1 y1 p2 b1 q1=>?_
 rw [show i64.wrap (((1:Nat):Int)+1)=((2:Nat):Int) from by decide]
 have l2:=p2.len
 refine zdd lo f hd s 2 (by omega) _ M2 (by omega) (fpre (p1.trans p2)) (hs.pre (p1.trans p2)) hx (fun h M' p=>⟨M',(p1.trans p2).trans p,.inr ⟨fun e=>h (e 2 (by omega)),rfl⟩⟩) fun M3 a2 c2 x2 y2 p3 b2 q2=>?_
 rw [show i64.wrap (((2:Nat):Int)+1)=3 from by decide]
 refine kut (fun k=>ja.Pa k ..) ?_
 refine Evp.ff rfl ?_
 refine Evp.some rfl (Evp.some rfl (Evp.some rfl (Evp.some rfl (Evp.some rfl (Evp.some rfl (Evp.some rfl (Evp.some rfl (Evp.some rfl ?_))))))))
 refine Evp.ret (Run.ret ⟨M3,(p1.trans p2).trans p3,.inl ⟨fun n hn=>?_,z02 a0 a1 a2,z02 c0 c1 c2,rfl,fun n hn=>?_,fun n hn=>?_⟩⟩)
 ·rcases lt3 hn with rfl | rfl | rfl
  ·exact ⟨x0,y0⟩
  ·exact ⟨x1,y1⟩
  ·exact ⟨x2,y2⟩
 ·rcases lt3 hn with rfl | rfl | rfl
  ·exact b0.pre (p2.trans p3)
  ·exact (b1.floor l1).pre p3
  ·exact b2.floor (by omega)
 ·rcases lt3 hn with rfl | rfl | rfl
  ·rw [z0b];exact q0
  ·rw [z0b];exact q1
  ·rw [z0b];exact q2
end
structure WSt (f:Fr3) (s:SideV) (hd:Hd) (g h:Nat→List Int) (n:Nat) (M:Mem) (W:Fr3):Prop where
 in_:FrIn M W
 dim:∀ k,k < 3→(W.at k).w=(f.at k).w∧(W.at k).h=(f.at k).h
 eq:∀ k,k < 3→(W.at k).xs=if k < n then yl f s hd g h k else g k
section
variable (lo:Nat)(f B:Fr3)(hd:Hd)(s:SideV)(g h:Nat→List Int)
theorem zde (n:Nat)(hn:n < 3)(M:Mem)(hlo:lo≤M.length)(hs:SideOk M s)(hB:FrIn M B)(hBd:∀ k,k < 3→(B.at k).w=(f.at k).w∧(B.at k).h=(f.at k).h∧(B.at k).xs=h k)(hln:∀ k,k < 3→(g k).length=(f.at k).xs.length∧(h k).length=(f.at k).xs.length)(W:Fr3)(st:WSt f s hd g h n M W){Q:Value × Mem→Prop}
  (hbad:¬ z56 f s hd→∀ M',Pre M M'→Q (.tuple ⟨[.agg ⟨z4i⟩,.int .i64 2]⟩,M'))
  (hok:∀ M' W',Pre M M'→(rest hd n=true→jp (s.un n).us (f.at n).w (f.at n).h (f.at n).xs.length (f.at n).w (f.at n).h (f.at n).xs.length (z23 n))→WSt f s hd g h (n+1) M' W' →
   Run P T lo F.zo (zo.Ca (i64.wrap ((n:Int)+1)) hd.h0 hd.h1 hd.h2 hd.h3 hd.h4 hd.h5 hd.h6 hd.h7 hd.h8 hd.h9 hd.h10 hd.h11 hd.h12 hd.h13 hd.h14 hd.h15 hd.h16 hd.h17 hd.h18 hd.h19 hd.h20 hd.h21 hd.h22 hd.cdef hd.damp hd.h25 hd.A hd.n hd.c hd.h27 hd.h28 hd.h29 s.m0.w s.m0.h s.m0.AT s.m0.tx.length s.m0.ct s.m0.AI s.m0.ids.length s.m0.ci s.m0.AQ s.m0.qs.length s.m0.cq s.m1.w s.m1.h s.m1.AT s.m1.tx.length s.m1.ct s.m1.AI s.m1.ids.length s.m1.ci s.m1.AQ s.m1.qs.length s.m1.cq s.m2.w s.m2.h s.m2.AT s.m2.tx.length s.m2.ct s.m2.AI s.m2.ids.length s.m2.ci s.m2.AQ s.m2.qs.length s.m2.cq s.Q s.qs.length s.qc s.V s.ws.length s.vc s.u0.A s.u0.us.length s.u0.c s.u1.A s.u1.us.length s.u1.c s.u2.A s.u2.us.length s.u2.c 0 0 none 0 0 0 0 none 0 0 0 0 none 0 0 B.p0.w B.p0.h B.p0.A B.p0.xs.length B.p0.c B.p1.w B.p1.h B.p1.A B.p1.xs.length B.p1.c B.p2.w B.p2.h B.p2.A B.p2.xs.length B.p2.c W'.cells M') Q) :
  Run P T lo F.zo (zo.Ca (n:Int) hd.h0 hd.h1 hd.h2 hd.h3 hd.h4 hd.h5 hd.h6 hd.h7 hd.h8 hd.h9 hd.h10 hd.h11 hd.h12 hd.h13 hd.h14 hd.h15 hd.h16 hd.h17 hd.h18 hd.h19 hd.h20 hd.h21 hd.h22 hd.cdef hd.damp hd.h25 hd.A hd.n hd.c hd.h27 hd.h28 hd.h29 s.m0.w s.m0.h s.m0.AT s.m0.tx.length s.m0.ct s.m0.AI s.m0.ids.length s.m0.ci s.m0.AQ s.m0.qs.length s.m0.cq s.m1.w s.m1.h s.m1.AT s.m1.tx.length s.m1.ct s.m1.AI s.m1.ids.length s.m1.ci s.m1.AQ s.m1.qs.length s.m1.cq s.m2.w s.m2.h s.m2.AT s.m2.tx.length s.m2.ct s.m2.AI s.m2.ids.length s.m2.ci s.m2.AQ s.m2.qs.length s.m2.cq s.Q s.qs.length s.qc s.V s.ws.length s.vc s.u0.A s.u0.us.length s.u0.c s.u1.A s.u1.us.length s.u1.c s.u2.A s.u2.us.length s.u2.c 0 0 none 0 0 0 0 none 0 0 0 0 none 0 0 B.p0.w B.p0.h B.p0.A B.p0.xs.length B.p0.c B.p1.w B.p1.h B.p1.A B.p1.xs.length B.p1.c B.p2.w B.p2.h B.p2.A B.p2.xs.length B.p2.c W.cells M) Q:=by
 obtain ⟨w1,w2⟩:=st.dim n hn
 have w3:(W.at n).xs=g n:=by rw [st.eq n hn,if_neg (by omega)]
 obtain ⟨v1,v2,v3⟩:=hBd n hn
 obtain ⟨n1,n2⟩:=hln n hn
 have hu:=hs.u n
 have rW:=st.in_.rd n hn
 have bW:=st.in_.by_ n hn
 have cW:=st.in_.cap n hn
 have rB:=hB.rd n hn
 have bB:=hB.by_ n hn
 have cB:=hB.cap n hn
 rcases lt3 hn with rfl | rfl | rfl
 ·refine kut (fun k=>zo.Pa k ..) ?_
  refine Evp.tt rfl (Evp.pos (by decide) (Evp.some rfl ?_))
  refine Evp.nb (fun hr=>?_) fun hr=>?_
  ·have hr:rest hd 0=false:=hr
   refine Evp.ret ?_
   refine kut (fun k=>zo.Pb k ..) ?_
   refine Evp.ret (hok M W (Pre.refl M) (fun e=>by rw [hr] at e;cases e) ⟨st.in_,st.dim,fun k hk=>?_⟩)
   rw [st.eq k hk]
   by_cases e:k=0
   ·subst e;rw [if_neg (by omega),if_pos (by omega)];unfold yl;rw [if_neg (by rw [hr];decide)]
   ·by_cases e2:k < 0
    ·rw [if_pos e2,if_pos (by omega)]
    ·rw [if_neg e2,if_neg (by omega)]
  ·have hr:rest hd 0=true:=hr
   refine Evp.tt rfl (Evp.ret ?_)
   refine kut (fun k=>zo.Pc k ..) ?_
   refine Evp.pos (by decide) (Evp.some rfl (Evp.some rfl (Evp.some rfl (Evp.pos (by decide) (Evp.some rfl (Evp.some rfl (Evp.some rfl (Evp.pos (by decide) (Evp.some rfl ?_)))))))))
   refine Evp.ob (z9r lo (s.un 0).A (W.at 0).A (B.at 0).A (s.un 0).c (W.at 0).c (B.at 0).c (s.un 0).us (W.at 0).xs (B.at 0).xs (W.at 0).w (W.at 0).h (B.at 0).w (B.at 0).h (ue 0) M hlo hu.rd hu.wf rW rB bW bB) ?_
   rintro ⟨v,M1⟩ hq
   have eP:jp (s.un 0).us (W.at 0).w (W.at 0).h (W.at 0).xs.length (B.at 0).w (B.at 0).h (B.at 0).xs.length (ue 0) ↔ jp (s.un 0).us (f.at 0).w (f.at 0).h (f.at 0).xs.length (f.at 0).w (f.at 0).h (f.at 0).xs.length (z23 0):=by
    rw [w1,w2,w3,v1,v2,v3,n1,n2,(kf 0).2]
   by_cases k1:jp (s.un 0).us (W.at 0).w (W.at 0).h (W.at 0).xs.length (B.at 0).w (B.at 0).h (B.at 0).xs.length (ue 0)
   ·obtain ⟨a,c,rfl,p1,hc,b1⟩:=hq.got k1
    simp only [RD,RE,Nat.reduceAdd,Nat.reduceLT]
    have eo:z26 (s.un 0).us (W.at 0).xs (B.at 0).xs (W.at 0).w.toNat (W.at 0).h.toNat (ue 0).toNat=yl f s hd g h 0:=by
     unfold yl;rw [if_pos hr,w1,w2,w3,v3,(kf 0).1]
    have ln:(yl f s hd g h 0).length=(W.at 0).xs.length:=by
     rw [← eo,z17]
     have:=(zy k1.1).2.2.2.2
     have c1:=zy k1.1
     obtain ⟨Ww,hW⟩:=Int.eq_ofNat_of_zero_le (a:=(W.at 0).w) (by omega)
     obtain ⟨Hh,hH⟩:=Int.eq_ofNat_of_zero_le (a:=(W.at 0).h) (by omega)
     rw [hW,hH] at this ⊢
     rw [← Int.natCast_mul,Nat.mul_comm] at this
     simp only [Int.toNat_natCast]
     omega
    refine Evp.ff rfl (Evp.pos (by decide) (Evp.pos (Nat.le_of_ble_eq_true rfl) (Evp.ret ?_)))
    rw [show (W.at 0).xs.length=(yl f s hd g h 0).length from ln.symm]
    refine kut (fun k=>zo.Pb k ..) ?_
    have q1:=p1
    refine Evp.ret (hok M1 (W.set 0 ⟨(W.at 0).w,(W.at 0).h,some a,c,yl f s hd g h 0⟩) q1 (fun _=>eP.1 k1) ⟨⟨fun k hk=>?_,fun k hk=>?_,fun k hk=>?_⟩,fun k hk=>?_,fun k hk=>?_⟩)
    ·rw [W.at_set 0 hn _ k hk]
     split
     ·rw [eo] at b1;exact b1.rdI
     ·exact (st.in_.rd k hk).pre q1
    ·rw [W.at_set 0 hn _ k hk]
     split
     ·show zh (yl f s hd g h 0)
      rw [← eo];exact z24 bW
     ·exact st.in_.by_ k hk
    ·rw [W.at_set 0 hn _ k hk]
     split
     ·show (yl f s hd g h 0).length≤c
      rw [ln];exact hc
     ·exact st.in_.cap k hk
    ·rw [W.at_set 0 hn _ k hk]
     split
     ·rename_i e;subst e;exact ⟨w1,w2⟩
     ·exact st.dim k hk
    ·rw [W.at_set 0 hn _ k hk]
     by_cases e:k=0
     ·subst e;rw [if_pos rfl,if_pos (by omega)]
     ·rw [if_neg e,st.eq k hk]
      by_cases e2:k < 0
      ·rw [if_pos e2,if_pos (by omega)]
      ·rw [if_neg e2,if_neg (by omega)]
   ·obtain ⟨rfl,p1⟩:=hq.not k1
    simp only [RD,RE,Nat.reduceAdd,Nat.reduceLT]
    exact Evp.tt rfl (Evp.ret (Run.ret (hbad (fun e=>k1 (eP.2 (e 0 (by omega) hr))) M1 p1)))
 ·refine kut (fun k=>zo.Pa k ..) ?_
  refine Evp.tt rfl (Evp.pos (by decide) (Evp.some rfl ?_))
  refine Evp.nb (fun hr=>?_) fun hr=>?_
  ·have hr:rest hd 1=false:=hr
   refine Evp.ret ?_
   refine kut (fun k=>zo.Pb k ..) ?_
   refine Evp.ret (hok M W (Pre.refl M) (fun e=>by rw [hr] at e;cases e) ⟨st.in_,st.dim,fun k hk=>?_⟩)
   rw [st.eq k hk]
   by_cases e:k=1
   ·subst e;rw [if_neg (by omega),if_pos (by omega)];unfold yl;rw [if_neg (by rw [hr];decide)]
   ·by_cases e2:k < 1
    ·rw [if_pos e2,if_pos (by omega)]
    ·rw [if_neg e2,if_neg (by omega)]
  ·have hr:rest hd 1=true:=hr
   refine Evp.ff rfl (Evp.ret ?_)
   refine kut (fun k=>zo.Pc k ..) ?_
   refine Evp.pos (by decide) (Evp.some rfl (Evp.some rfl (Evp.some rfl (Evp.pos (by decide) (Evp.some rfl (Evp.some rfl (Evp.some rfl (Evp.pos (by decide) (Evp.some rfl ?_)))))))))
   refine Evp.ob (z9r lo (s.un 1).A (W.at 1).A (B.at 1).A (s.un 1).c (W.at 1).c (B.at 1).c (s.un 1).us (W.at 1).xs (B.at 1).xs (W.at 1).w (W.at 1).h (B.at 1).w (B.at 1).h (ue 1) M hlo hu.rd hu.wf rW rB bW bB) ?_
   rintro ⟨v,M1⟩ hq
   have eP:jp (s.un 1).us (W.at 1).w (W.at 1).h (W.at 1).xs.length (B.at 1).w (B.at 1).h (B.at 1).xs.length (ue 1) ↔ jp (s.un 1).us (f.at 1).w (f.at 1).h (f.at 1).xs.length (f.at 1).w (f.at 1).h (f.at 1).xs.length (z23 1):=by
    rw [w1,w2,w3,v1,v2,v3,n1,n2,(kf 1).2]
   by_cases k1:jp (s.un 1).us (W.at 1).w (W.at 1).h (W.at 1).xs.length (B.at 1).w (B.at 1).h (B.at 1).xs.length (ue 1)
   ·obtain ⟨a,c,rfl,p1,hc,b1⟩:=hq.got k1
    simp only [RD,RE,Nat.reduceAdd,Nat.reduceLT]
    have eo:z26 (s.un 1).us (W.at 1).xs (B.at 1).xs (W.at 1).w.toNat (W.at 1).h.toNat (ue 1).toNat=yl f s hd g h 1:=by
     unfold yl;rw [if_pos hr,w1,w2,w3,v3,(kf 1).1]
    have ln:(yl f s hd g h 1).length=(W.at 1).xs.length:=by
     rw [← eo,z17]
     have:=(zy k1.1).2.2.2.2
     have c1:=zy k1.1
     obtain ⟨Ww,hW⟩:=Int.eq_ofNat_of_zero_le (a:=(W.at 1).w) (by omega)
     obtain ⟨Hh,hH⟩:=Int.eq_ofNat_of_zero_le (a:=(W.at 1).h) (by omega)
     rw [hW,hH] at this ⊢
     rw [← Int.natCast_mul,Nat.mul_comm] at this
     simp only [Int.toNat_natCast]
     omega
    refine Evp.ff rfl (Evp.pos (by decide) (Evp.pos (Nat.le_of_ble_eq_true rfl) (Evp.ret ?_)))
    rw [show (W.at 1).xs.length=(yl f s hd g h 1).length from ln.symm]
    refine kut (fun k=>zo.Pb k ..) ?_
    have q1:=p1
    refine Evp.ret (hok M1 (W.set 1 ⟨(W.at 1).w,(W.at 1).h,some a,c,yl f s hd g h 1⟩) q1 (fun _=>eP.1 k1) ⟨⟨fun k hk=>?_,fun k hk=>?_,fun k hk=>?_⟩,fun k hk=>?_,fun k hk=>?_⟩)
    ·rw [W.at_set 1 hn _ k hk]
     split
     ·rw [eo] at b1;exact b1.rdI
     ·exact (st.in_.rd k hk).pre q1
    ·rw [W.at_set 1 hn _ k hk]
     split
     ·show zh (yl f s hd g h 1)
      rw [← eo];exact z24 bW
     ·exact st.in_.by_ k hk
    ·rw [W.at_set 1 hn _ k hk]
     split
     ·show (yl f s hd g h 1).length≤c
      rw [ln];exact hc
     ·exact st.in_.cap k hk
    ·rw [W.at_set 1 hn _ k hk]
     split
     ·rename_i e;subst e;exact ⟨w1,w2⟩
     ·exact st.dim k hk
    ·rw [W.at_set 1 hn _ k hk]
     by_cases e:k=1
     ·subst e;rw [if_pos rfl,if_pos (by omega)]
     ·rw [if_neg e,st.eq k hk]
      by_cases e2:k < 1
      ·rw [if_pos e2,if_pos (by omega)]
      ·rw [if_neg e2,if_neg (by omega)]
   ·obtain ⟨rfl,p1⟩:=hq.not k1
    simp only [RD,RE,Nat.reduceAdd,Nat.reduceLT]
    exact Evp.tt rfl (Evp.ret (Run.ret (hbad (fun e=>k1 (eP.2 (e 1 (by omega) hr))) M1 p1)))
 ·refine kut (fun k=>zo.Pa k ..) ?_
  refine Evp.tt rfl (Evp.pos (by decide) (Evp.some rfl ?_))
  refine Evp.nb (fun hr=>?_) fun hr=>?_
  ·have hr:rest hd 2=false:=hr
   refine Evp.ret ?_
   refine kut (fun k=>zo.Pb k ..) ?_
   refine Evp.ret (hok M W (Pre.refl M) (fun e=>by rw [hr] at e;cases e) ⟨st.in_,st.dim,fun k hk=>?_⟩)
   rw [st.eq k hk]
   by_cases e:k=2
   ·subst e;rw [if_neg (by omega),if_pos (by omega)];unfold yl;rw [if_neg (by rw [hr];decide)]
   ·by_cases e2:k < 2
    ·rw [if_pos e2,if_pos (by omega)]
    ·rw [if_neg e2,if_neg (by omega)]
  ·have hr:rest hd 2=true:=hr
   refine Evp.ff rfl (Evp.ret ?_)
   refine kut (fun k=>zo.Pc k ..) ?_
   refine Evp.pos (by decide) (Evp.some rfl (Evp.some rfl (Evp.some rfl (Evp.pos (by decide) (Evp.some rfl (Evp.some rfl (Evp.some rfl (Evp.pos (by decide) (Evp.some rfl ?_)))))))))
   refine Evp.ob (z9r lo (s.un 2).A (W.at 2).A (B.at 2).A (s.un 2).c (W.at 2).c (B.at 2).c (s.un 2).us (W.at 2).xs (B.at 2).xs (W.at 2).w (W.at 2).h (B.at 2).w (B.at 2).h (ue 2) M hlo hu.rd hu.wf rW rB bW bB) ?_
   rintro ⟨v,M1⟩ hq
   have eP:jp (s.un 2).us (W.at 2).w (W.at 2).h (W.at 2).xs.length (B.at 2).w (B.at 2).h (B.at 2).xs.length (ue 2) ↔ jp (s.un 2).us (f.at 2).w (f.at 2).h (f.at 2).xs.length (f.at 2).w (f.at 2).h (f.at 2).xs.length (z23 2):=by
    rw [w1,w2,w3,v1,v2,v3,n1,n2,(kf 2).2]
   by_cases k1:jp (s.un 2).us (W.at 2).w (W.at 2).h (W.at 2).xs.length (B.at 2).w (B.at 2).h (B.at 2).xs.length (ue 2)
   ·obtain ⟨a,c,rfl,p1,hc,b1⟩:=hq.got k1
    simp only [RD,RE,Nat.reduceAdd,Nat.reduceLT]
    have eo:z26 (s.un 2).us (W.at 2).xs (B.at 2).xs (W.at 2).w.toNat (W.at 2).h.toNat (ue 2).toNat=yl f s hd g h 2:=by
     unfold yl;rw [if_pos hr,w1,w2,w3,v3,(kf 2).1]
    have ln:(yl f s hd g h 2).length=(W.at 2).xs.length:=by
     rw [← eo,z17]
     have:=(zy k1.1).2.2.2.2
     have c1:=zy k1.1
     obtain ⟨Ww,hW⟩:=Int.eq_ofNat_of_zero_le (a:=(W.at 2).w) (by omega)
     obtain ⟨Hh,hH⟩:=Int.eq_ofNat_of_zero_le (a:=(W.at 2).h) (by omega)
     rw [hW,hH] at this ⊢
     rw [← Int.natCast_mul,Nat.mul_comm] at this
     simp only [Int.toNat_natCast]
     omega
    refine Evp.ff rfl (Evp.pos (by decide) (Evp.pos (Nat.le_of_ble_eq_true rfl) (Evp.ret ?_)))
    rw [show (W.at 2).xs.length=(yl f s hd g h 2).length from ln.symm]
    refine kut (fun k=>zo.Pb k ..) ?_
    have q1:=p1
    refine Evp.ret (hok M1 (W.set 2 ⟨(W.at 2).w,(W.at 2).h,some a,c,yl f s hd g h 2⟩) q1 (fun _=>eP.1 k1) ⟨⟨fun k hk=>?_,fun k hk=>?_,fun k hk=>?_⟩,fun k hk=>?_,fun k hk=>?_⟩)
    ·rw [W.at_set 2 hn _ k hk]
     split
     ·rw [eo] at b1;exact b1.rdI
     ·exact (st.in_.rd k hk).pre q1
    ·rw [W.at_set 2 hn _ k hk]
     split
     ·show zh (yl f s hd g h 2)
      rw [← eo];exact z24 bW
     ·exact st.in_.by_ k hk
    ·rw [W.at_set 2 hn _ k hk]
     split
     ·show (yl f s hd g h 2).length≤c
      rw [ln];exact hc
     ·exact st.in_.cap k hk
    ·rw [W.at_set 2 hn _ k hk]
     split
     ·rename_i e;subst e;exact ⟨w1,w2⟩
     ·exact st.dim k hk
    ·rw [W.at_set 2 hn _ k hk]
     by_cases e:k=2
     ·subst e;rw [if_pos rfl,if_pos (by omega)]
     ·rw [if_neg e,st.eq k hk]
      by_cases e2:k < 2
      ·rw [if_pos e2,if_pos (by omega)]
      ·rw [if_neg e2,if_neg (by omega)]
   ·obtain ⟨rfl,p1⟩:=hq.not k1
    simp only [RD,RE,Nat.reduceAdd,Nat.reduceLT]
    exact Evp.tt rfl (Evp.ret (Run.ret (hbad (fun e=>k1 (eP.2 (e 2 (by omega) hr))) M1 p1)))
end
theorem zoe (lo:Nat)(hd:Hd)(M:Mem)(hw:zdh hd):Ac P T lo F.z70 [.agg ⟨hd.cells⟩] M fun r=>r=(.bool (decide (zac hd)),M):=by
 refine Ac.of (Evp.of_eq (fun k=>z70.entry k ..) ?_)
 refine Evp.eqb (fun h=>?_) fun h=>Evp.ret (Run.ret (by rw [decide_eq_false fun e=>h e.1]))
 refine Evp.some (z1z (l:=[hd.h10,hd.h11,hd.h12,hd.h13,hd.h14]) (d:=7) (e:=3) (n:=5) Go.Proofs.Tryz.underlying29 Go.Proofs.Tryz.underlying3 (by kernel_rfl) (by kernel_rfl) rfl hw) ?_
 refine Evp.some (z1z (l:=[0,0,0,0,0]) (d:=7) (e:=3) (n:=5) Go.Proofs.Tryz.underlying29 Go.Proofs.Tryz.underlying3 (by kernel_rfl) (by kernel_rfl) rfl (by decide)) ?_
 rw [z8r]
 refine Evp.ret (Run.ret ?_)
 congr 2
 exact decide_eq_decide.2 ⟨fun e=>⟨h,e⟩,fun e=>e.2⟩
def zof (f:Fr3)(s:SideV)(hd:Hd)(L:List Int)(M:Mem)(r:Value × Mem):Prop:=
 Pre M r.2∧((z2l f s hd L∧∃ X:Fr3,r.1=.tuple ⟨[.agg ⟨X.cells⟩,.int .i64 0]⟩∧FrIn r.2 X∧∀ n,n < 3→(X.at n).w=(f.at n).w∧(X.at n).h=(f.at n).h∧(X.at n).xs=z3h f s hd L n)∨(¬ z2l f s hd L∧r.1=.tuple ⟨[.agg ⟨z4i⟩,.int .i64 2]⟩))
section
variable (lo:Nat)(f:Fr3)(s:SideV)(hd:Hd)(L:List Int)(M:Mem)
variable (hlo:lo≤M.length)(hf:FrIn M f)(hs:SideOk M s)(hL:Rd M hd.A hd.n 4 (L.map (Value.int .i64)))(hwf:zdh hd)
theorem z9o (W:Fr3)(N:Mem)(hW:FrIn N W)(hn:∀ n,n < 3→(W.at n).xs.length≤140737488351232):Ac P T lo F.y7 [.agg ⟨W.cells⟩] N fun r=>∃ X M',r=(.agg ⟨(X:Fr3).cells⟩,M')∧Pre N M'∧FrIn M' X∧∀ n,n < 3→(X.at n).w=(W.at n).w∧(X.at n).h=(W.at n).h∧(X.at n).xs=(W.at n).xs:=by
 refine Ac.mono (zgj lo W.p0.w W.p0.h W.p1.w W.p1.h W.p2.w W.p2.h W.p0.A W.p1.A W.p2.A W.p0.c W.p1.c W.p2.c W.p0.xs W.p1.xs W.p2.xs N (hW.rd 0 (by omega)) (hW.rd 1 (by omega)) (hW.rd 2 (by omega)) (hn 0 (by omega)) (hn 1 (by omega)) (hn 2 (by omega))) ?_
 rintro _ ⟨B0,B1,B2,d0,d1,d2,M',rfl,p,r0,r1,r2,k0,k1,k2⟩
 refine ⟨⟨⟨W.p0.w,W.p0.h,B0,d0,W.p0.xs⟩,⟨W.p1.w,W.p1.h,B1,d1,W.p1.xs⟩,⟨W.p2.w,W.p2.h,B2,d2,W.p2.xs⟩⟩,M',rfl,p,⟨fun n hn=>?_,fun n hn=>?_,fun n hn=>?_⟩,fun n hn=>?_⟩
 ·rcases lt3 hn with rfl | rfl | rfl
  ·exact r0
  ·exact r1
  ·exact r2
 ·rcases lt3 hn with rfl | rfl | rfl
  ·exact hW.by_ 0 hn
  ·exact hW.by_ 1 hn
  ·exact hW.by_ 2 hn
 ·rcases lt3 hn with rfl | rfl | rfl
  ·exact k0
  ·exact k1
  ·exact k2
 ·rcases lt3 hn with rfl | rfl | rfl <;> exact ⟨rfl,rfl,rfl⟩
include hlo hf hs hL hwf
theorem zq5:Ac P T lo F.zo [.agg ⟨f.cells⟩,.agg ⟨hd.cells⟩,.agg ⟨s.cells⟩] M (zof f s hd L M):=by
 have bad:∀ M',Pre M M'→¬ z2l f s hd L→Run P T lo F.zo (.ret (.tuple ⟨[.agg ⟨z4i⟩,.int .i64 2]⟩) M') (zof f s hd L M):=fun M' hp hno=>Run.ret ⟨hp,.inr ⟨hno,rfl⟩⟩
 refine Ac.of (Evp.of_eq (fun k=>zo.entry k ..) ?_)
 refine Evp.ob (zer ..) ?_
 rintro _ rfl
 simp only [RD,RE,Nat.reduceAdd,Nat.reduceLT]
 refine Evp.neb (fun h=>Evp.ret (bad M (Pre.refl M) fun e=>h (by unfold kj;exact if_pos e.1))) fun h1=>?_
 have hw:uj f:=by
  unfold kj at h1
  split at h1
  ·assumption
  ·cases h1
 have sw:jq f.p0.w:=hw.2.1
 have sh:jq f.p0.h:=hw.2.2.1
 unfold jq at sw sh
 rw [Int.tmod_eq_emod_of_nonneg (a:=f.p0.w) (by omega),Int.tmod_eq_emod_of_nonneg (a:=f.p0.h) (by omega)]
 refine Evp.neb (fun h=>Evp.ret (bad M (Pre.refl M) fun e=>h e.2.1)) fun h2=>?_
 refine Evp.neb (fun h=>Evp.ret (bad M (Pre.refl M) fun e=>h e.2.2.1)) fun h3=>?_
 refine Evp.ob (zoe lo hd _ hwf) ?_
 rintro _ rfl
 simp only [RD,RE,Nat.reduceAdd,Nat.reduceLT]
 have small:∀ n,n < 3→(f.at n).xs.length≤140737488351232:=fun n hn=>Nat.le_trans (z4p hw n hn).2 (by decide)
 refine Evp.dec (fun hl=>?_) fun hl=>?_
 ·refine Evp.ob (z9o lo f M hf small) ?_
  rintro _ ⟨X,M1,rfl,p1,hX,hd1⟩
  simp only [RD,RE,Nat.reduceAdd,Nat.reduceLT]
  exact Evp.ret (Run.ret ⟨p1,.inl ⟨⟨hw,h2,h3,.inl hl⟩,X,rfl,hX,fun n hn=>by
   obtain ⟨a,b,c⟩:=hd1 n hn
   refine ⟨a,b,?_⟩
   unfold z3h;rw [if_pos hl];exact c⟩⟩)
 refine Evp.ob (zml lo f hd s M hlo hf hs small) ?_
 rintro _ ⟨M1,p1,hr⟩
 have no:(¬ z0w f s hd∨¬ zdi f s hd L∨¬ z56 f s hd)→¬ z2l f s hd L:=fun h e=>by
  rcases e.2.2.2 with e | e
  ·exact hl e
  ·rcases h with h | h | h
   ·exact h e.1
   ·exact h e.2.1
   ·exact h e.2.2
 rcases hr with ⟨hpass,ad,cc,rfl,hb,hc⟩ | ⟨hpass,rfl⟩
 rotate_left
 ·simp only [RD,RE,Nat.reduceAdd,Nat.reduceLT]
  exact Evp.tt rfl (Evp.ret (bad M1 p1 (no (.inl hpass))))
 simp only [RD,RE,Nat.reduceAdd,Nat.reduceLT]
 refine Evp.ff rfl ?_
 have l1:=p1.len
 have hE:FrIn M1 (frB f ad cc (g1 f s hd)):=⟨fun n hn=>by
   rcases lt3 hn with rfl | rfl | rfl <;> exact (hb _ hn).rdI,fun n hn=>by
   rcases lt3 hn with rfl | rfl | rfl <;> exact zeo (hf.by_ _ hn) _ _ _,fun n hn=>by
   rcases lt3 hn with rfl | rfl | rfl <;> exact hc _ hn⟩
 refine Evp.ob (zn0 lo (frB f ad cc (g1 f s hd)) s.Q s.V s.qc s.vc s.qs s.ws hd L M1 (by omega) hE (hs.q.pre p1) (hs.v.pre p1) hs.nv (hL.pre p1)) ?_
 rintro ⟨v,M2⟩ ⟨p2,hr⟩
 have eDir:=zjb (s:=s) (hd:=hd) (L:=L) (ad:=ad) (cc:=cc) (g:=g1 f s hd) fun n hn=>z0b f s hd n
 have q2:=p1.trans p2
 rcases hr with ⟨hdir,ad2,cc2,e,hcap,hB⟩ | ⟨hdir,e⟩
 rotate_left
 ·obtain rfl:v=_:=e
  simp only [RD,RE,Nat.reduceAdd,Nat.reduceLT]
  exact Evp.tt rfl (Evp.ret (bad M2 q2 (no (.inr (.inl fun e=>hdir (eDir.2 e))))))
 obtain rfl:v=_:=e
 have hdir:=eDir.1 hdir
 have eg2:∀ n,n < 3→vq (frB f ad cc (g1 f s hd)) s.qs s.ws hd L n=g2 f s hd L n:=fun n hn=>zjc n hn
 have elen:∀ n,n < 3→(g2 f s hd L n).length=(f.at n).xs.length:=fun n hn=>by
  rw [← eg2 n hn,hB.len n hn]
  rcases lt3 hn with rfl | rfl | rfl <;> exact z0b f s hd _
 have eW:csL (frB f ad cc (g1 f s hd)) ad2 cc2=(frB f ad2 cc2 (g2 f s hd L)).cells:=by
  rw [zen (g:=vq (frB f ad cc (g1 f s hd)) s.qs s.ws hd L) hB.len]
  show (frB f ad2 cc2 (vq (frB f ad cc (g1 f s hd)) s.qs s.ws hd L)).cells=_
  simp only [frB,eg2 0 (by omega),eg2 1 (by omega),eg2 2 (by omega)]
 rw [eW]
 simp only [RD,RE,Nat.reduceAdd,Nat.reduceLT]
 refine Evp.ff rfl (Evp.ret ?_)
 have hW:FrIn M2 (frB f ad2 cc2 (g2 f s hd L)):=⟨fun n hn=>by
   have:=(hB.buf n hn).rdI
   rw [eg2 n hn] at this
   rcases lt3 hn with rfl | rfl | rfl <;> exact this,fun n hn=>by
   have:zh (vq (frB f ad cc (g1 f s hd)) s.qs s.ws hd L n):=zcf (fun k hk=>hE.by_ k hk) _ _ _ _ hn
   rw [eg2 n hn] at this
   rcases lt3 hn with rfl | rfl | rfl <;> exact this,fun n hn=>by
   have h1:=hcap n hn
   have h2:((frB f ad cc (g1 f s hd)).at n).xs.length=(g2 f s hd L n).length:=by rw [← eg2 n hn,hB.len n hn]
   rw [h2] at h1
   rcases lt3 hn with rfl | rfl | rfl <;> exact h1⟩
 have hE2:=hE.pre p2
 have hEd:∀ k,k < 3→((frB f ad cc (g1 f s hd)).at k).w=(f.at k).w∧((frB f ad cc (g1 f s hd)).at k).h=(f.at k).h∧((frB f ad cc (g1 f s hd)).at k).xs=g1 f s hd k:=fun k hk=>by
  rcases lt3 hk with rfl | rfl | rfl <;> exact ⟨rfl,rfl,rfl⟩
 have hln:∀ k,k < 3→(g2 f s hd L k).length=(f.at k).xs.length∧(g1 f s hd k).length=(f.at k).xs.length:=fun k hk=>⟨elen k hk,z0b f s hd k⟩
 have st0:WSt f s hd (g2 f s hd L) (g1 f s hd) 0 M2 (frB f ad2 cc2 (g2 f s hd L)):=⟨hW,fun k hk=>by
  rcases lt3 hk with rfl | rfl | rfl <;> exact ⟨rfl,rfl⟩,fun k hk=>by
  rw [if_neg (by omega)]
  rcases lt3 hk with rfl | rfl | rfl <;> rfl⟩
 have badR:∀ N,Pre M N→¬ z56 f s hd→∀ M',Pre N M'→zof f s hd L M (.tuple ⟨[.agg ⟨z4i⟩,.int .i64 2]⟩,M'):=fun N hN hno M' hp=>⟨hN.trans hp,.inr ⟨no (.inr (.inr hno)),rfl⟩⟩
 have l2:M.length≤M2.length:=q2.len
 refine zde lo f (frB f ad cc (g1 f s hd)) hd s (g2 f s hd L) (g1 f s hd) 0 (by omega) M2 (by omega) (hs.pre q2) hE2 hEd hln _ st0 (badR M2 q2) fun M3 W1 p3 o1 st1=>?_
 rw [show i64.wrap (((0:Nat):Int)+1)=((1:Nat):Int) from by decide]
 have q3:=q2.trans p3
 have l3:=q3.len
 refine zde lo f (frB f ad cc (g1 f s hd)) hd s (g2 f s hd L) (g1 f s hd) 1 (by omega) M3 (by omega) (hs.pre q3) (hE2.pre p3) hEd hln W1 st1 (badR M3 q3) fun M4 W2 p4 o2 st2=>?_
 rw [show i64.wrap (((1:Nat):Int)+1)=((2:Nat):Int) from by decide]
 have q4:=q3.trans p4
 have l4:=q4.len
 refine zde lo f (frB f ad cc (g1 f s hd)) hd s (g2 f s hd L) (g1 f s hd) 2 (by omega) M4 (by omega) (hs.pre q4) ((hE2.pre p3).pre p4) hEd hln W2 st2 (badR M4 q4) fun M5 W3 p5 o3 st3=>?_
 rw [show i64.wrap (((2:Nat):Int)+1)=3 from by decide]
 have q5:=q4.trans p5
 have hrest:z56 f s hd:=fun n hn=>by
  rcases lt3 hn with rfl | rfl | rfl
  ·exact o1
  ·exact o2
  ·exact o3
 refine kut (fun k=>zo.Pa k ..) ?_
 refine Evp.ff rfl ?_
 refine Evp.some rfl ?_
 refine Evp.some rfl ?_
 refine Evp.some rfl ?_
 refine Evp.some rfl ?_
 refine Evp.some rfl ?_
 refine Evp.some rfl ?_
 refine Evp.some rfl ?_
 refine Evp.some rfl ?_
 refine Evp.some rfl ?_
 have eW3:∀ n,n < 3→(W3.at n).xs=z3h f s hd L n:=fun n hn=>by
  rw [st3.eq n hn,if_pos (by omega)]
  unfold z3h
  rw [if_neg hl]
 have smallW:∀ n,n < 3→(W3.at n).xs.length≤140737488351232:=fun n hn=>by
  rw [st3.eq n hn,if_pos (by omega)]
  refine Nat.le_trans ?_ (small n hn)
  unfold yl
  split
  ·rename_i e
   have:=hrest n hn e
   rw [z17]
   have c1:=zy this.1
   have c2:=c1.2.2.2.2
   obtain ⟨Ww,hW⟩:=Int.eq_ofNat_of_zero_le (a:=(f.at n).w) (by omega)
   obtain ⟨Hh,hH⟩:=Int.eq_ofNat_of_zero_le (a:=(f.at n).h) (by omega)
   rw [hW,hH] at c2 ⊢
   rw [← Int.natCast_mul,Nat.mul_comm] at c2
   simp only [Int.toNat_natCast]
   omega
  ·rw [elen n hn];exact Nat.le_refl _
 refine Evp.ob (z9o lo W3 M5 st3.in_ smallW) ?_
 rintro _ ⟨X,M6,rfl,p6,hX,hXd⟩
 simp only [RD,RE,Nat.reduceAdd,Nat.reduceLT]
 exact Evp.ret (Run.ret ⟨q5.trans p6,.inl ⟨⟨hw,h2,h3,.inr ⟨hpass,hdir,hrest⟩⟩,X,rfl,hX,fun n hn=>by
  obtain ⟨a,b,c⟩:=hXd n hn
  obtain ⟨a',b'⟩:=st3.dim n hn
  exact ⟨a.trans a',b.trans b',c.trans (eW3 n hn)⟩⟩⟩)
end
end Go.Zt

