/- What the law ChainRuns needs of the text Fi. -/
import Derived.Test.YtbbfdebfhgdciaaGreatPFh
set_option linter.unusedVariables false
set_option linter.unusedSimpArgs false
set_option maxRecDepth 100000
set_option maxHeartbeats 4000000
namespace Go.Zt
theorem z4d (lo:Nat)(A:Option Addr)(c:Nat)(xs:List Int)(M:Mem)(hx:RdI M .i64 A xs)(hn:xs.length*8≤140737488351232)(hlo:lo≤M.length) :
  Ac P T lo F.z72 [.slice A xs.length c] M fun r=>∃ A' c' M',r=(.slice A' xs.length c',M')∧Pre M M'∧xs.length≤c'∧Grow M M' 1 A' xs.length (xs.map (Value.int .i64)):=by
 refine Ac.of (Evp.of_eq (fun k=>z72.entry k ..) ?_)
 refine Evp.some hx.src ?_
 obtain ⟨s,M',h1,h2,h3,h4,_,h5⟩:=(Grow.nil (M0:=M) (M:=M) (z:=1)).app (bytes:=8) (c:=0) (m:=xs.length) (vs:=xs.map (Value.int .i64)) (Pre.refl M) hlo (by simp) (by omega) (by omega)
 rw [Nat.zero_add] at h3
 refine Evp.some h1 (Evp.ret (Run.ret ⟨s.a,s.c,M',?_,h4,by rw [← h3];exact h5 (Nat.zero_le _),?_⟩))
 ·simp only [h3]
 ·rw [h3] at h2;exact h2
structure MapEq (m m':MapV):Prop where
 w:m'.w=m.w
 h:m'.h=m.h
 tx:m'.tx=m.tx
 ids:m'.ids=m.ids
 qs:m'.qs=m.qs
structure SideEq (s s':SideV):Prop where
 m:∀ n,MapEq (s.map n) (s'.map n)
 qs:s'.qs=s.qs
 ws:s'.ws=s.ws
 u:∀ n,(s'.un n).us=(s.un n).us
structure SideFit (s:SideV):Prop where
 ids:∀ n,(s.map n).ids.length*8≤140737488351232
 mqs:∀ n,(s.map n).qs.length≤140737488351232
 qs:s.qs.length≤140737488351232
 ws:s.ws.length*8≤140737488351232
 us:∀ n,(s.un n).us.length*56≤140737488351232
section
variable (lo:Nat)
theorem z89 (A:Option Addr)(c:Nat)(xs:List Bool)(M:Mem)(hx:RdB M A xs)(hn:xs.length≤140737488351232)(hlo:lo≤M.length) :
  Ac P T lo F.z8v [.slice A xs.length c] M fun r=>∃ A' c' M',r=(.slice A' xs.length c',M')∧Pre M M'∧xs.length≤c'∧Grow M M' 1 A' xs.length (xs.map Value.bool):=by
 refine Ac.of (Evp.of_eq (fun k=>z8v.entry k ..) ?_)
 refine Evp.some hx.src ?_
 obtain ⟨s,M',h1,h2,h3,h4,_,h5⟩:=(Grow.nil (M0:=M) (M:=M) (z:=1)).app (bytes:=1) (c:=0) (m:=xs.length) (vs:=xs.map Value.bool) (Pre.refl M) hlo (by simp) (by omega) (by omega)
 rw [Nat.zero_add] at h3
 refine Evp.some h1 (Evp.ret (Run.ret ⟨s.a,s.c,M',?_,h4,by rw [← h3];exact h5 (Nat.zero_le _),?_⟩))
 ·simp only [h3]
 ·rw [h3] at h2;exact h2
theorem zbf (A:Option Addr)(c:Nat)(us:List Un)(M:Mem)(hx:RdU M A us)(hn:us.length*56≤140737488351232)(hlo:lo≤M.length) :
  Ac P T lo F.z8u [.slice A us.length c] M fun r=>∃ A' c' M',r=(.slice A' us.length c',M')∧Pre M M'∧us.length≤c'∧Grow M M' 7 A' us.length (z7c us):=by
 refine Ac.of (Evp.of_eq (fun k=>z8u.entry k ..) ?_)
 refine Evp.some (Rd.src hx) ?_
 obtain ⟨s,M',h1,h2,h3,h4,_,h5⟩:=(Grow.nil (M0:=M) (M:=M) (z:=7)).app (bytes:=56) (c:=0) (m:=us.length) (vs:=z7c us) (Pre.refl M) hlo (hx.1) (by omega) (by omega)
 rw [Nat.zero_add] at h3
 refine Evp.some h1 (Evp.ret (Run.ret ⟨s.a,s.c,M',?_,h4,by rw [← h3];exact h5 (Nat.zero_le _),?_⟩))
 ·simp only [h3]
 ·rw [h3] at h2;exact h2
theorem zmm (s:SideV)(M:Mem)(hs:SideOk M s)(hf:SideFit s)(hlo:lo≤M.length) :
  Ac P T lo F.jk [.agg ⟨s.cells⟩] M fun r=>∃ (s':SideV) (M':Mem),r=(.agg ⟨s'.cells⟩,M')∧Pre M M'∧SideOk M' s'∧SideEq s s':=by
 refine Ac.of (Evp.of_eq (fun k=>jk.entry k ..) ?_)
 refine Evp.ret ?_
 have q0:=Pre.refl M
 refine kut (fun k=>jk.Pa k ..) ?_
 refine Evp.tt rfl (Evp.pos (by decide) (Evp.some rfl (Evp.some rfl (Evp.some rfl (Evp.some rfl (Evp.some rfl ?_))))))
 have o0:=hs.m 0
 refine Evp.ob (ui _ (s.map 0).AT (s.map 0).ct (s.map 0).tx M (o0.rt.pre q0) o0.nt (Nat.le_refl _)) ?_
 rintro _ ⟨AT0,ct0,M0a,rfl,p0a,_,gt0⟩
 simp only [RD,RE,Nat.reduceAdd,Nat.reduceLT]
 refine Evp.ob (z4d _ (s.map 0).AI (s.map 0).ci (s.map 0).ids M0a (o0.ri.pre (q0.trans p0a)) (hf.ids 0) p0a.len) ?_
 rintro _ ⟨AI0,ci0,M0b,rfl,p0b,_,gi0⟩
 simp only [RD,RE,Nat.reduceAdd,Nat.reduceLT]
 refine Evp.ob (z89 _ (s.map 0).AQ (s.map 0).cq (s.map 0).qs M0b (o0.rq.pre ((q0.trans p0a).trans p0b)) (hf.mqs 0) (p0a.trans p0b).len) ?_
 rintro _ ⟨AQ0,cq0,M0c,rfl,p0c,_,gq0⟩
 simp only [RD,RE,Nat.reduceAdd,Nat.reduceLT]
 have q0c:=((q0.trans p0a).trans p0b).trans p0c
 refine Evp.pos (by decide) (Evp.pos (Nat.le_of_ble_eq_true rfl) (Evp.pos (by decide) (Evp.some rfl ?_)))
 have u0:=hs.u 0
 refine Evp.ob (zbf lo (s.un 0).A (s.un 0).c (s.un 0).us M0c (u0.rd.pre q0c) (hf.us 0) (by have:=q0c.len;omega)) ?_
 rintro _ ⟨AU0,cu0,M1,rfl,p0d,_,gu0⟩
 simp only [RD,RE,Nat.reduceAdd,Nat.reduceLT]
 have q1:Pre M M1:=q0c.trans p0d
 refine Evp.pos (by decide) (Evp.pos (Nat.le_of_ble_eq_true rfl) (Evp.ret ?_))
 rw [show IntKind.i64.wrap (0+1)=1 from by decide]
 simp only [setL,Int.reduceToNat,Nat.reduceMul,Nat.reduceAdd,Nat.zero_mul,Nat.add_zero,Nat.zero_add,List.set_cons_zero,List.set_cons_succ]
 refine kut (fun k=>jk.Pa k ..) ?_
 refine Evp.tt rfl (Evp.pos (by decide) (Evp.some rfl (Evp.some rfl (Evp.some rfl (Evp.some rfl (Evp.some rfl ?_))))))
 have o1:=hs.m 1
 refine Evp.ob (ui _ (s.map 1).AT (s.map 1).ct (s.map 1).tx M1 (o1.rt.pre q1) o1.nt (Nat.le_refl _)) ?_
 rintro _ ⟨AT1,ct1,M1a,rfl,p1a,_,gt1⟩
 simp only [RD,RE,Nat.reduceAdd,Nat.reduceLT]
 refine Evp.ob (z4d _ (s.map 1).AI (s.map 1).ci (s.map 1).ids M1a (o1.ri.pre (q1.trans p1a)) (hf.ids 1) p1a.len) ?_
 rintro _ ⟨AI1,ci1,M1b,rfl,p1b,_,gi1⟩
 simp only [RD,RE,Nat.reduceAdd,Nat.reduceLT]
 refine Evp.ob (z89 _ (s.map 1).AQ (s.map 1).cq (s.map 1).qs M1b (o1.rq.pre ((q1.trans p1a).trans p1b)) (hf.mqs 1) (p1a.trans p1b).len) ?_
 rintro _ ⟨AQ1,cq1,M1c,rfl,p1c,_,gq1⟩
 simp only [RD,RE,Nat.reduceAdd,Nat.reduceLT]
 have q1c:=((q1.trans p1a).trans p1b).trans p1c
 refine Evp.pos (by decide) (Evp.pos (Nat.le_of_ble_eq_true rfl) (Evp.pos (by decide) (Evp.some rfl ?_)))
 have u1:=hs.u 1
 refine Evp.ob (zbf lo (s.un 1).A (s.un 1).c (s.un 1).us M1c (u1.rd.pre q1c) (hf.us 1) (by have:=q1c.len;omega)) ?_
 rintro _ ⟨AU1,cu1,M2,rfl,p1d,_,gu1⟩
 simp only [RD,RE,Nat.reduceAdd,Nat.reduceLT]
 have q2:Pre M M2:=q1c.trans p1d
 refine Evp.pos (by decide) (Evp.pos (Nat.le_of_ble_eq_true rfl) (Evp.ret ?_))
 rw [show IntKind.i64.wrap (1+1)=2 from by decide]
 simp only [setL,Int.reduceToNat,Nat.reduceMul,Nat.reduceAdd,Nat.zero_mul,Nat.add_zero,Nat.zero_add,List.set_cons_zero,List.set_cons_succ]
 refine kut (fun k=>jk.Pa k ..) ?_
 refine Evp.tt rfl (Evp.pos (by decide) (Evp.some rfl (Evp.some rfl (Evp.some rfl (Evp.some rfl (Evp.some rfl ?_))))))
 have o2:=hs.m 2
 refine Evp.ob (ui _ (s.map 2).AT (s.map 2).ct (s.map 2).tx M2 (o2.rt.pre q2) o2.nt (Nat.le_refl _)) ?_
 rintro _ ⟨AT2,ct2,M2a,rfl,p2a,_,gt2⟩
 simp only [RD,RE,Nat.reduceAdd,Nat.reduceLT]
 refine Evp.ob (z4d _ (s.map 2).AI (s.map 2).ci (s.map 2).ids M2a (o2.ri.pre (q2.trans p2a)) (hf.ids 2) p2a.len) ?_
 rintro _ ⟨AI2,ci2,M2b,rfl,p2b,_,gi2⟩
 simp only [RD,RE,Nat.reduceAdd,Nat.reduceLT]
 refine Evp.ob (z89 _ (s.map 2).AQ (s.map 2).cq (s.map 2).qs M2b (o2.rq.pre ((q2.trans p2a).trans p2b)) (hf.mqs 2) (p2a.trans p2b).len) ?_
 rintro _ ⟨AQ2,cq2,M2c,rfl,p2c,_,gq2⟩
 simp only [RD,RE,Nat.reduceAdd,Nat.reduceLT]
 have q2c:=((q2.trans p2a).trans p2b).trans p2c
 refine Evp.pos (by decide) (Evp.pos (Nat.le_of_ble_eq_true rfl) (Evp.pos (by decide) (Evp.some rfl ?_)))
 have u2:=hs.u 2
 refine Evp.ob (zbf lo (s.un 2).A (s.un 2).c (s.un 2).us M2c (u2.rd.pre q2c) (hf.us 2) (by have:=q2c.len;omega)) ?_
 rintro _ ⟨AU2,cu2,M3,rfl,p2d,_,gu2⟩
 simp only [RD,RE,Nat.reduceAdd,Nat.reduceLT]
 have q3:Pre M M3:=q2c.trans p2d
 refine Evp.pos (by decide) (Evp.pos (Nat.le_of_ble_eq_true rfl) (Evp.ret ?_))
 rw [show IntKind.i64.wrap (2+1)=3 from by decide]
 simp only [setL,Int.reduceToNat,Nat.reduceMul,Nat.reduceAdd,Nat.zero_mul,Nat.add_zero,Nat.zero_add,List.set_cons_zero,List.set_cons_succ]
 refine kut (fun k=>jk.Pa k ..) ?_
 refine Evp.ff rfl ?_
 refine Evp.ob (z89 lo s.Q s.qc s.qs M3 (hs.q.pre q3) hf.qs (by have:=q3.len;omega)) ?_
 rintro _ ⟨Q,qc,M4,rfl,p4,_,gq⟩
 simp only [RD,RE,Nat.reduceAdd,Nat.reduceLT]
 refine Evp.pos (Nat.le_of_ble_eq_true rfl) ?_
 refine Evp.ob (z4d lo s.V s.vc s.ws M4 (hs.v.pre (q3.trans p4)) hf.ws (by have:=(q3.trans p4).len;omega)) ?_
 rintro _ ⟨V,vc,M5,rfl,p5,_,gv⟩
 simp only [RD,RE,Nat.reduceAdd,Nat.reduceLT]
 refine Evp.pos (Nat.le_of_ble_eq_true rfl) ?_
 simp only [setL,Nat.reduceAdd,List.set_cons_zero,List.set_cons_succ]
 refine Evp.some rfl (Evp.some rfl (Evp.some rfl (Evp.some rfl (Evp.some rfl (Evp.some rfl (Evp.some rfl (Evp.some rfl (Evp.some rfl (Evp.some rfl ?_)))))))))
 refine Evp.some rfl (Evp.some rfl (Evp.some rfl (Evp.some rfl (Evp.some rfl (Evp.some rfl (Evp.some rfl (Evp.some rfl (Evp.some rfl (Evp.some rfl ?_)))))))))
 have r5:=p4.trans p5
 have r2:=((((p2a.trans p2b).trans p2c).trans p2d)).trans r5
 have r1:=((((p1a.trans p1b).trans p1c).trans p1d)).trans r2
 refine Evp.ret (Run.ret ⟨⟨⟨s.m0.w,s.m0.h,AT0,s.m0.tx,ct0,AI0,s.m0.ids,ci0,AQ0,s.m0.qs,cq0⟩,⟨s.m1.w,s.m1.h,AT1,s.m1.tx,ct1,AI1,s.m1.ids,ci1,AQ1,s.m1.qs,cq1⟩,⟨s.m2.w,s.m2.h,AT2,s.m2.tx,ct2,AI2,s.m2.ids,ci2,AQ2,s.m2.qs,cq2⟩,Q,s.qs,qc,V,s.ws,vc,⟨AU0,s.u0.us,cu0⟩,⟨AU1,s.u1.us,cu1⟩,⟨AU2,s.u2.us,cu2⟩⟩,M5,rfl,q3.trans r5,⟨fun n=>?_,gq.rd.pre p5,gv.rdI,hs.nv,fun n=>?_⟩,⟨fun n=>?_,rfl,rfl,fun n=>?_⟩⟩)
 ·match n with
  | 0=>exact ⟨gt0.rdI.pre (((p0b.trans p0c).trans p0d).trans r1),gi0.rdI.pre ((p0c.trans p0d).trans r1),gq0.rd.pre (p0d.trans r1),o0.nt⟩
  | 1=>exact ⟨gt1.rdI.pre (((p1b.trans p1c).trans p1d).trans r2),gi1.rdI.pre ((p1c.trans p1d).trans r2),gq1.rd.pre (p1d.trans r2),o1.nt⟩
  | n+2=>exact ⟨gt2.rdI.pre (((p2b.trans p2c).trans p2d).trans r5),gi2.rdI.pre ((p2c.trans p2d).trans r5),gq2.rd.pre (p2d.trans r5),o2.nt⟩
 ·match n with
  | 0=>exact ⟨gu0.rd.pre r1,u0.wf,u0.n⟩
  | 1=>exact ⟨gu1.rd.pre r2,u1.wf,u1.n⟩
  | n+2=>exact ⟨gu2.rd.pre r5,u2.wf,u2.n⟩
 ·match n with
  | 0=>exact ⟨rfl,rfl,rfl,rfl,rfl⟩
  | 1=>exact ⟨rfl,rfl,rfl,rfl,rfl⟩
  | n+2=>exact ⟨rfl,rfl,rfl,rfl,rfl⟩
 ·match n with
  | 0=>exact rfl
  | 1=>exact rfl
  | n+2=>exact rfl
def zsk (f g:Fr3):Prop:=∀ n,n < 3→(f.at n).w=(g.at n).w∧(f.at n).h=(g.at n).h∧(f.at n).xs=(g.at n).xs
noncomputable instance (f g:Fr3):Decidable (zsk f g):=Classical.propDecidable _
end
end Go.Zt

