/- What the law ChainRuns needs of the text Fm. -/
import Derived.Test.YtbbfdebfhgdciaaGreatPFl
set_option linter.unusedVariables false
set_option linter.unusedSimpArgs false
set_option maxRecDepth 100000
set_option maxHeartbeats 4000000
namespace Go.Zt
open IntKind (i64 u8)
theorem zi3 (lo:Nat)(A A':Option Addr)(c c':Nat)(xs ys:List Int)(M:Mem)(hx:RdI M .i64 A xs)(hy:RdI M .i64 A' ys)(hl:xs.length=ys.length)(hn:xs.length≤140737488351232) :
  ∀ (d i:Nat),xs.length - i=d→i≤xs.length→(∀ j,j < i→xs.getD j 0=ys.getD j 0)→Run P T lo F.jx (jx.Ca A xs.length c A' ys.length c' i M) fun r=>r=(.bool (decide (xs=ys)),M):=by
 intro d
 induction d with
 | zero=>
  intro i hd hi hj
  refine kut (fun k=>jx.Pa k ..) ?_
  refine Evp.dec (fun h=>absurd h (by omega)) fun _=>Evp.ret (Run.ret ?_)
  rw [decide_eq_true (zcb hl fun j h=>hj j (by omega))]
 | succ d ih=>
  intro i hd hi hj
  refine kut (fun k=>jx.Pa k ..) ?_
  refine Evp.dec (fun _=>?_) fun h=>absurd h (by omega)
  refine Evp.pos (by omega) ?_
  simp only [Int.toNat_natCast]
  refine Evp.ldI hx (by omega) fun a _=>?_
  refine Evp.pos (by omega) ?_
  refine Evp.ldI hy (by omega) fun a' _=>?_
  refine Evp.neb (fun hne=>Evp.ret (Run.ret ?_)) fun he=>?_
  ·rw [decide_eq_false (fun e=>hne (by rw [e]))]
  ·rw [w64 (by omega)]
   exact Evp.ret (ih (i+1) (by omega) (by omega) fun j h=>by
    by_cases hji:j=i
    ·subst hji;exact he
    ·exact hj j (by omega))
theorem z6g (lo:Nat)(A A':Option Addr)(c c':Nat)(xs ys:List Int)(M:Mem)(hx:RdI M .i64 A xs)(hy:RdI M .i64 A' ys)(hn:xs.length≤140737488351232) :
  Ac P T lo F.jx [.slice A xs.length c,.slice A' ys.length c'] M fun r=>r=(.bool (decide (xs=ys)),M):=by
 refine Ac.of (Evp.of_eq (fun k=>jx.entry k ..) ?_)
 refine Evp.neb (fun h=>Evp.ret (Run.ret ?_)) fun h=>?_
 ·rw [decide_eq_false (fun e=>h (by rw [e]))]
 ·exact Evp.ret (zi3 lo A A' c c' xs ys M hx hy (by omega) hn _ 0 rfl (by omega) fun j h=>by omega)
theorem zdc (lo:Nat)(A A':Option Addr)(c c':Nat)(xs:List Bool)(M:Mem)(hx:RdB M A xs)(hy:RdB M A' xs)(hn:xs.length≤140737488351232) :
  ∀ (d i:Nat),xs.length - i=d→i≤xs.length→Run P T lo F.jg (jg.Ca A xs.length c A' xs.length c' i M) fun r=>r=(.bool true,M):=by
 intro d
 induction d with
 | zero=>
  intro i hd hi
  refine kut (fun k=>jg.Pa k ..) ?_
  exact Evp.dec (fun h=>absurd h (by omega)) fun _=>Evp.ret (Run.ret rfl)
 | succ d ih=>
  intro i hd hi
  refine kut (fun k=>jg.Pa k ..) ?_
  refine Evp.dec (fun _=>?_) fun h=>absurd h (by omega)
  refine Evp.pos (by omega) ?_
  simp only [Int.toNat_natCast]
  obtain ⟨a,ea,_,ha⟩:=hx.ld (i:=i) (by omega)
  obtain ⟨a',ea',_,ha'⟩:=hy.ld (i:=i) (by omega)
  refine Evp.some ea (Evp.some (b:=xs.getD i false) (by rw [ha];rfl) (Evp.pos (by omega) (Evp.some ea' (Evp.some (b:=xs.getD i false) (by rw [ha'];rfl) ?_))))
  refine Evp.ff (by simp) ?_
  rw [w64 (x:=(i:Int)+1) (by omega)]
  exact Evp.ret (ih (i+1) (by omega) (by omega))
theorem z3f (lo:Nat)(A A':Option Addr)(c c':Nat)(xs ys:List Bool)(M:Mem)(hx:RdB M A xs)(hy:RdB M A' ys)(hn:xs.length≤140737488351232)(e:xs=ys) :
  Ac P T lo F.jg [.slice A xs.length c,.slice A' ys.length c'] M fun r=>r=(.bool true,M):=by
 subst e
 refine Ac.of (Evp.of_eq (fun k=>jg.entry k ..) ?_)
 refine Evp.neb (fun h=>absurd rfl h) fun _=>?_
 exact Evp.ret (zdc lo A A' c c' xs M hx hy hn _ 0 rfl (Nat.zero_le _))
section
variable (lo:Nat)(s t:SideV)(M:Mem)(hs:SideOk M s)(ht:SideOk M t)(he:SideEq s t)(fit:SideFit s)
include hs ht he fit
theorem zi4 {Q:Value × Mem→Prop}(hnext:Run P T lo F.zi (zi.Ca (i64.wrap ((0:Int)+1)) t.m0.w t.m0.h t.m0.AT t.m0.tx.length t.m0.ct t.m0.AI t.m0.ids.length t.m0.ci t.m0.AQ t.m0.qs.length t.m0.cq t.m1.w t.m1.h t.m1.AT t.m1.tx.length t.m1.ct t.m1.AI t.m1.ids.length t.m1.ci t.m1.AQ t.m1.qs.length t.m1.cq t.m2.w t.m2.h t.m2.AT t.m2.tx.length t.m2.ct t.m2.AI t.m2.ids.length t.m2.ci t.m2.AQ t.m2.qs.length t.m2.cq t.Q t.qs.length t.qc t.V t.ws.length t.vc t.u0.A t.u0.us.length t.u0.c t.u1.A t.u1.us.length t.u1.c t.u2.A t.u2.us.length t.u2.c s.m0.w s.m0.h s.m0.AT s.m0.tx.length s.m0.ct s.m0.AI s.m0.ids.length s.m0.ci s.m0.AQ s.m0.qs.length s.m0.cq s.m1.w s.m1.h s.m1.AT s.m1.tx.length s.m1.ct s.m1.AI s.m1.ids.length s.m1.ci s.m1.AQ s.m1.qs.length s.m1.cq s.m2.w s.m2.h s.m2.AT s.m2.tx.length s.m2.ct s.m2.AI s.m2.ids.length s.m2.ci s.m2.AQ s.m2.qs.length s.m2.cq s.Q s.qs.length s.qc s.V s.ws.length s.vc s.u0.A s.u0.us.length s.u0.c s.u1.A s.u1.us.length s.u1.c s.u2.A s.u2.us.length s.u2.c M) Q) :
  ∀ (d i:Nat),s.u0.us.length - i=d→i≤s.u0.us.length→Run P T lo F.zi (zi.Cb (0:Int) (i:Int) t.m0.w t.m0.h t.m0.AT t.m0.tx.length t.m0.ct t.m0.AI t.m0.ids.length t.m0.ci t.m0.AQ t.m0.qs.length t.m0.cq t.m1.w t.m1.h t.m1.AT t.m1.tx.length t.m1.ct t.m1.AI t.m1.ids.length t.m1.ci t.m1.AQ t.m1.qs.length t.m1.cq t.m2.w t.m2.h t.m2.AT t.m2.tx.length t.m2.ct t.m2.AI t.m2.ids.length t.m2.ci t.m2.AQ t.m2.qs.length t.m2.cq t.Q t.qs.length t.qc t.V t.ws.length t.vc t.u0.A t.u0.us.length t.u0.c t.u1.A t.u1.us.length t.u1.c t.u2.A t.u2.us.length t.u2.c s.m0.w s.m0.h s.m0.AT s.m0.tx.length s.m0.ct s.m0.AI s.m0.ids.length s.m0.ci s.m0.AQ s.m0.qs.length s.m0.cq s.m1.w s.m1.h s.m1.AT s.m1.tx.length s.m1.ct s.m1.AI s.m1.ids.length s.m1.ci s.m1.AQ s.m1.qs.length s.m1.cq s.m2.w s.m2.h s.m2.AT s.m2.tx.length s.m2.ct s.m2.AI s.m2.ids.length s.m2.ci s.m2.AQ s.m2.qs.length s.m2.cq s.Q s.qs.length s.qc s.V s.ws.length s.vc s.u0.A s.u0.us.length s.u0.c s.u1.A s.u1.us.length s.u1.c s.u2.A s.u2.us.length s.u2.c M) Q:=by
 have eu:t.u0.us=s.u0.us:=he.u 0
 have hn:=fit.us 0
 have hn:s.u0.us.length*56≤140737488351232:=hn
 have r1:RdU M t.u0.A s.u0.us:=by rw [← eu];exact (ht.u 0).rd
 have r2:RdU M s.u0.A s.u0.us:=(hs.u 0).rd
 have hwf:∀ u ∈ s.u0.us,u.wf:=(hs.u 0).wf
 intro d
 induction d with
 | zero=>
  intro i hd hi
  refine kut (fun k=>zi.Pb k ..) ?_
  refine Evp.pos (by decide) (Evp.some rfl ?_)
  exact Evp.dec (fun h=>absurd (show (i:Int) < (s.u0.us.length:Int) from h) (by omega)) fun _=>Evp.ret hnext
 | succ d ih=>
  intro i hd hi
  have hil:i < s.u0.us.length:=by omega
  refine kut (fun k=>zi.Pb k ..) ?_
  refine Evp.pos (by decide) (Evp.some rfl ?_)
  refine Evp.dec (fun _=>?_) fun h=>absurd (show (i:Int) < (s.u0.us.length:Int) by omega) h
  refine Evp.pos (by decide) (Evp.some rfl (Evp.pos (show 0≤(i:Int)∧(i:Int) < (t.u0.us.length:Int) by rw [eu];omega) ?_))
  simp only [Int.toNat_natCast]
  refine Evp.ldU r1 hil fun _ _=>?_
  refine Evp.pos (by decide) (Evp.some rfl (Evp.pos (show 0≤(i:Int)∧(i:Int) < (s.u0.us.length:Int) by omega) ?_))
  refine Evp.ldU r2 hil fun _ _=>?_
  have wk:=zfg (hwf _ (z60 hil))
  refine Evp.some wk (Evp.some wk ?_)
  refine Evp.ff (by rw [(z4g _ _).2 rfl];rfl) ?_
  rw [w64 (x:=(i:Int)+1) (by omega)]
  exact Evp.ret (ih (i+1) (by omega) (by omega))
theorem zkf {Q:Value × Mem→Prop}(hnext:Run P T lo F.zi (zi.Ca (i64.wrap ((0:Int)+1)) t.m0.w t.m0.h t.m0.AT t.m0.tx.length t.m0.ct t.m0.AI t.m0.ids.length t.m0.ci t.m0.AQ t.m0.qs.length t.m0.cq t.m1.w t.m1.h t.m1.AT t.m1.tx.length t.m1.ct t.m1.AI t.m1.ids.length t.m1.ci t.m1.AQ t.m1.qs.length t.m1.cq t.m2.w t.m2.h t.m2.AT t.m2.tx.length t.m2.ct t.m2.AI t.m2.ids.length t.m2.ci t.m2.AQ t.m2.qs.length t.m2.cq t.Q t.qs.length t.qc t.V t.ws.length t.vc t.u0.A t.u0.us.length t.u0.c t.u1.A t.u1.us.length t.u1.c t.u2.A t.u2.us.length t.u2.c s.m0.w s.m0.h s.m0.AT s.m0.tx.length s.m0.ct s.m0.AI s.m0.ids.length s.m0.ci s.m0.AQ s.m0.qs.length s.m0.cq s.m1.w s.m1.h s.m1.AT s.m1.tx.length s.m1.ct s.m1.AI s.m1.ids.length s.m1.ci s.m1.AQ s.m1.qs.length s.m1.cq s.m2.w s.m2.h s.m2.AT s.m2.tx.length s.m2.ct s.m2.AI s.m2.ids.length s.m2.ci s.m2.AQ s.m2.qs.length s.m2.cq s.Q s.qs.length s.qc s.V s.ws.length s.vc s.u0.A s.u0.us.length s.u0.c s.u1.A s.u1.us.length s.u1.c s.u2.A s.u2.us.length s.u2.c M) Q) :
  Run P T lo F.zi (zi.Ca (0:Int) t.m0.w t.m0.h t.m0.AT t.m0.tx.length t.m0.ct t.m0.AI t.m0.ids.length t.m0.ci t.m0.AQ t.m0.qs.length t.m0.cq t.m1.w t.m1.h t.m1.AT t.m1.tx.length t.m1.ct t.m1.AI t.m1.ids.length t.m1.ci t.m1.AQ t.m1.qs.length t.m1.cq t.m2.w t.m2.h t.m2.AT t.m2.tx.length t.m2.ct t.m2.AI t.m2.ids.length t.m2.ci t.m2.AQ t.m2.qs.length t.m2.cq t.Q t.qs.length t.qc t.V t.ws.length t.vc t.u0.A t.u0.us.length t.u0.c t.u1.A t.u1.us.length t.u1.c t.u2.A t.u2.us.length t.u2.c s.m0.w s.m0.h s.m0.AT s.m0.tx.length s.m0.ct s.m0.AI s.m0.ids.length s.m0.ci s.m0.AQ s.m0.qs.length s.m0.cq s.m1.w s.m1.h s.m1.AT s.m1.tx.length s.m1.ct s.m1.AI s.m1.ids.length s.m1.ci s.m1.AQ s.m1.qs.length s.m1.cq s.m2.w s.m2.h s.m2.AT s.m2.tx.length s.m2.ct s.m2.AI s.m2.ids.length s.m2.ci s.m2.AQ s.m2.qs.length s.m2.cq s.Q s.qs.length s.qc s.V s.ws.length s.vc s.u0.A s.u0.us.length s.u0.c s.u1.A s.u1.us.length s.u1.c s.u2.A s.u2.us.length s.u2.c M) Q:=by
 have m:=hs.m 0
 have m':=ht.m 0
 have e:=he.m 0
 have et:t.m0.tx=s.m0.tx:=e.tx
 have ei:t.m0.ids=s.m0.ids:=e.ids
 have eq:t.m0.qs=s.m0.qs:=e.qs
 have eu:t.u0.us=s.u0.us:=he.u 0
 have fi:s.m0.ids.length*8≤140737488351232:=fit.ids 0
 have fq:s.m0.qs.length≤140737488351232:=fit.mqs 0
 refine kut (fun k=>zi.Pa k ..) ?_
 refine Evp.tt rfl (Evp.pos (by decide) (Evp.some rfl (Evp.pos (by decide) (Evp.some rfl ?_))))
 refine Evp.ob (z55 lo t.m0.AT s.m0.AT t.m0.ct s.m0.ct t.m0.tx s.m0.tx M m'.rt m.rt m'.nt) ?_
 rintro _ rfl
 simp only [RD,RE,Nat.reduceAdd,Nat.reduceLT]
 refine Evp.ff (by rw [decide_eq_true et];rfl) (Evp.pos (by decide) (Evp.some rfl (Evp.pos (by decide) (Evp.some rfl ?_))))
 refine Evp.ob (z6g lo t.m0.AI s.m0.AI t.m0.ci s.m0.ci t.m0.ids s.m0.ids M m'.ri m.ri (by rw [ei];omega)) ?_
 rintro _ rfl
 simp only [RD,RE,Nat.reduceAdd,Nat.reduceLT]
 refine Evp.ff (by rw [decide_eq_true ei];rfl) (Evp.pos (by decide) (Evp.some rfl (Evp.pos (by decide) (Evp.some rfl ?_))))
 refine Evp.ob (z3f lo t.m0.AQ s.m0.AQ t.m0.cq s.m0.cq t.m0.qs s.m0.qs M m'.rq m.rq (by rw [eq];exact fq) eq) ?_
 rintro _ rfl
 simp only [RD,RE,Nat.reduceAdd,Nat.reduceLT]
 refine Evp.ff rfl (Evp.pos (by decide) (Evp.some rfl (Evp.pos (by decide) (Evp.some rfl ?_))))
 refine Evp.neb (fun h=>absurd (show ((t.u0.us.length:Nat):Int)=((s.u0.us.length:Nat):Int) by rw [eu]) h) fun _=>?_
 exact Evp.ret (zi4 lo s t M hs ht he fit hnext _ 0 rfl (Nat.zero_le _))
theorem zi5 {Q:Value × Mem→Prop}(hnext:Run P T lo F.zi (zi.Ca (i64.wrap ((1:Int)+1)) t.m0.w t.m0.h t.m0.AT t.m0.tx.length t.m0.ct t.m0.AI t.m0.ids.length t.m0.ci t.m0.AQ t.m0.qs.length t.m0.cq t.m1.w t.m1.h t.m1.AT t.m1.tx.length t.m1.ct t.m1.AI t.m1.ids.length t.m1.ci t.m1.AQ t.m1.qs.length t.m1.cq t.m2.w t.m2.h t.m2.AT t.m2.tx.length t.m2.ct t.m2.AI t.m2.ids.length t.m2.ci t.m2.AQ t.m2.qs.length t.m2.cq t.Q t.qs.length t.qc t.V t.ws.length t.vc t.u0.A t.u0.us.length t.u0.c t.u1.A t.u1.us.length t.u1.c t.u2.A t.u2.us.length t.u2.c s.m0.w s.m0.h s.m0.AT s.m0.tx.length s.m0.ct s.m0.AI s.m0.ids.length s.m0.ci s.m0.AQ s.m0.qs.length s.m0.cq s.m1.w s.m1.h s.m1.AT s.m1.tx.length s.m1.ct s.m1.AI s.m1.ids.length s.m1.ci s.m1.AQ s.m1.qs.length s.m1.cq s.m2.w s.m2.h s.m2.AT s.m2.tx.length s.m2.ct s.m2.AI s.m2.ids.length s.m2.ci s.m2.AQ s.m2.qs.length s.m2.cq s.Q s.qs.length s.qc s.V s.ws.length s.vc s.u0.A s.u0.us.length s.u0.c s.u1.A s.u1.us.length s.u1.c s.u2.A s.u2.us.length s.u2.c M) Q) :
  ∀ (d i:Nat),s.u1.us.length - i=d→i≤s.u1.us.length→Run P T lo F.zi (zi.Cb (1:Int) (i:Int) t.m0.w t.m0.h t.m0.AT t.m0.tx.length t.m0.ct t.m0.AI t.m0.ids.length t.m0.ci t.m0.AQ t.m0.qs.length t.m0.cq t.m1.w t.m1.h t.m1.AT t.m1.tx.length t.m1.ct t.m1.AI t.m1.ids.length t.m1.ci t.m1.AQ t.m1.qs.length t.m1.cq t.m2.w t.m2.h t.m2.AT t.m2.tx.length t.m2.ct t.m2.AI t.m2.ids.length t.m2.ci t.m2.AQ t.m2.qs.length t.m2.cq t.Q t.qs.length t.qc t.V t.ws.length t.vc t.u0.A t.u0.us.length t.u0.c t.u1.A t.u1.us.length t.u1.c t.u2.A t.u2.us.length t.u2.c s.m0.w s.m0.h s.m0.AT s.m0.tx.length s.m0.ct s.m0.AI s.m0.ids.length s.m0.ci s.m0.AQ s.m0.qs.length s.m0.cq s.m1.w s.m1.h s.m1.AT s.m1.tx.length s.m1.ct s.m1.AI s.m1.ids.length s.m1.ci s.m1.AQ s.m1.qs.length s.m1.cq s.m2.w s.m2.h s.m2.AT s.m2.tx.length s.m2.ct s.m2.AI s.m2.ids.length s.m2.ci s.m2.AQ s.m2.qs.length s.m2.cq s.Q s.qs.length s.qc s.V s.ws.length s.vc s.u0.A s.u0.us.length s.u0.c s.u1.A s.u1.us.length s.u1.c s.u2.A s.u2.us.length s.u2.c M) Q:=by
 have eu:t.u1.us=s.u1.us:=he.u 1
 have hn:=fit.us 1
 have hn:s.u1.us.length*56≤140737488351232:=hn
 have r1:RdU M t.u1.A s.u1.us:=by rw [← eu];exact (ht.u 1).rd
 have r2:RdU M s.u1.A s.u1.us:=(hs.u 1).rd
 have hwf:∀ u ∈ s.u1.us,u.wf:=(hs.u 1).wf
 intro d
 induction d with
 | zero=>
  intro i hd hi
  refine kut (fun k=>zi.Pb k ..) ?_
  refine Evp.pos (by decide) (Evp.some rfl ?_)
  exact Evp.dec (fun h=>absurd (show (i:Int) < (s.u1.us.length:Int) from h) (by omega)) fun _=>Evp.ret hnext
 | succ d ih=>
  intro i hd hi
  have hil:i < s.u1.us.length:=by omega
  refine kut (fun k=>zi.Pb k ..) ?_
  refine Evp.pos (by decide) (Evp.some rfl ?_)
  refine Evp.dec (fun _=>?_) fun h=>absurd (show (i:Int) < (s.u1.us.length:Int) by omega) h
  refine Evp.pos (by decide) (Evp.some rfl (Evp.pos (show 0≤(i:Int)∧(i:Int) < (t.u1.us.length:Int) by rw [eu];omega) ?_))
  simp only [Int.toNat_natCast]
  refine Evp.ldU r1 hil fun _ _=>?_
  refine Evp.pos (by decide) (Evp.some rfl (Evp.pos (show 0≤(i:Int)∧(i:Int) < (s.u1.us.length:Int) by omega) ?_))
  refine Evp.ldU r2 hil fun _ _=>?_
  have wk:=zfg (hwf _ (z60 hil))
  refine Evp.some wk (Evp.some wk ?_)
  refine Evp.ff (by rw [(z4g _ _).2 rfl];rfl) ?_
  rw [w64 (x:=(i:Int)+1) (by omega)]
  exact Evp.ret (ih (i+1) (by omega) (by omega))
theorem zkg {Q:Value × Mem→Prop}(hnext:Run P T lo F.zi (zi.Ca (i64.wrap ((1:Int)+1)) t.m0.w t.m0.h t.m0.AT t.m0.tx.length t.m0.ct t.m0.AI t.m0.ids.length t.m0.ci t.m0.AQ t.m0.qs.length t.m0.cq t.m1.w t.m1.h t.m1.AT t.m1.tx.length t.m1.ct t.m1.AI t.m1.ids.length t.m1.ci t.m1.AQ t.m1.qs.length t.m1.cq t.m2.w t.m2.h t.m2.AT t.m2.tx.length t.m2.ct t.m2.AI t.m2.ids.length t.m2.ci t.m2.AQ t.m2.qs.length t.m2.cq t.Q t.qs.length t.qc t.V t.ws.length t.vc t.u0.A t.u0.us.length t.u0.c t.u1.A t.u1.us.length t.u1.c t.u2.A t.u2.us.length t.u2.c s.m0.w s.m0.h s.m0.AT s.m0.tx.length s.m0.ct s.m0.AI s.m0.ids.length s.m0.ci s.m0.AQ s.m0.qs.length s.m0.cq s.m1.w s.m1.h s.m1.AT s.m1.tx.length s.m1.ct s.m1.AI s.m1.ids.length s.m1.ci s.m1.AQ s.m1.qs.length s.m1.cq s.m2.w s.m2.h s.m2.AT s.m2.tx.length s.m2.ct s.m2.AI s.m2.ids.length s.m2.ci s.m2.AQ s.m2.qs.length s.m2.cq s.Q s.qs.length s.qc s.V s.ws.length s.vc s.u0.A s.u0.us.length s.u0.c s.u1.A s.u1.us.length s.u1.c s.u2.A s.u2.us.length s.u2.c M) Q) :
  Run P T lo F.zi (zi.Ca (1:Int) t.m0.w t.m0.h t.m0.AT t.m0.tx.length t.m0.ct t.m0.AI t.m0.ids.length t.m0.ci t.m0.AQ t.m0.qs.length t.m0.cq t.m1.w t.m1.h t.m1.AT t.m1.tx.length t.m1.ct t.m1.AI t.m1.ids.length t.m1.ci t.m1.AQ t.m1.qs.length t.m1.cq t.m2.w t.m2.h t.m2.AT t.m2.tx.length t.m2.ct t.m2.AI t.m2.ids.length t.m2.ci t.m2.AQ t.m2.qs.length t.m2.cq t.Q t.qs.length t.qc t.V t.ws.length t.vc t.u0.A t.u0.us.length t.u0.c t.u1.A t.u1.us.length t.u1.c t.u2.A t.u2.us.length t.u2.c s.m0.w s.m0.h s.m0.AT s.m0.tx.length s.m0.ct s.m0.AI s.m0.ids.length s.m0.ci s.m0.AQ s.m0.qs.length s.m0.cq s.m1.w s.m1.h s.m1.AT s.m1.tx.length s.m1.ct s.m1.AI s.m1.ids.length s.m1.ci s.m1.AQ s.m1.qs.length s.m1.cq s.m2.w s.m2.h s.m2.AT s.m2.tx.length s.m2.ct s.m2.AI s.m2.ids.length s.m2.ci s.m2.AQ s.m2.qs.length s.m2.cq s.Q s.qs.length s.qc s.V s.ws.length s.vc s.u0.A s.u0.us.length s.u0.c s.u1.A s.u1.us.length s.u1.c s.u2.A s.u2.us.length s.u2.c M) Q:=by
 have m:=hs.m 1
 have m':=ht.m 1
 have e:=he.m 1
 have et:t.m1.tx=s.m1.tx:=e.tx
 have ei:t.m1.ids=s.m1.ids:=e.ids
 have eq:t.m1.qs=s.m1.qs:=e.qs
 have eu:t.u1.us=s.u1.us:=he.u 1
 have fi:s.m1.ids.length*8≤140737488351232:=fit.ids 1
 have fq:s.m1.qs.length≤140737488351232:=fit.mqs 1
 refine kut (fun k=>zi.Pa k ..) ?_
 refine Evp.tt rfl (Evp.pos (by decide) (Evp.some rfl (Evp.pos (by decide) (Evp.some rfl ?_))))
 refine Evp.ob (z55 lo t.m1.AT s.m1.AT t.m1.ct s.m1.ct t.m1.tx s.m1.tx M m'.rt m.rt m'.nt) ?_
 rintro _ rfl
 simp only [RD,RE,Nat.reduceAdd,Nat.reduceLT]
 refine Evp.ff (by rw [decide_eq_true et];rfl) (Evp.pos (by decide) (Evp.some rfl (Evp.pos (by decide) (Evp.some rfl ?_))))
 refine Evp.ob (z6g lo t.m1.AI s.m1.AI t.m1.ci s.m1.ci t.m1.ids s.m1.ids M m'.ri m.ri (by rw [ei];omega)) ?_
 rintro _ rfl
 simp only [RD,RE,Nat.reduceAdd,Nat.reduceLT]
 refine Evp.ff (by rw [decide_eq_true ei];rfl) (Evp.pos (by decide) (Evp.some rfl (Evp.pos (by decide) (Evp.some rfl ?_))))
 refine Evp.ob (z3f lo t.m1.AQ s.m1.AQ t.m1.cq s.m1.cq t.m1.qs s.m1.qs M m'.rq m.rq (by rw [eq];exact fq) eq) ?_
 rintro _ rfl
 simp only [RD,RE,Nat.reduceAdd,Nat.reduceLT]
 refine Evp.ff rfl (Evp.pos (by decide) (Evp.some rfl (Evp.pos (by decide) (Evp.some rfl ?_))))
 refine Evp.neb (fun h=>absurd (show ((t.u1.us.length:Nat):Int)=((s.u1.us.length:Nat):Int) by rw [eu]) h) fun _=>?_
 exact Evp.ret (zi5 lo s t M hs ht he fit hnext _ 0 rfl (Nat.zero_le _))
theorem zi6 {Q:Value × Mem→Prop}(hnext:Run P T lo F.zi (zi.Ca (i64.wrap ((2:Int)+1)) t.m0.w t.m0.h t.m0.AT t.m0.tx.length t.m0.ct t.m0.AI t.m0.ids.length t.m0.ci t.m0.AQ t.m0.qs.length t.m0.cq t.m1.w t.m1.h t.m1.AT t.m1.tx.length t.m1.ct t.m1.AI t.m1.ids.length t.m1.ci t.m1.AQ t.m1.qs.length t.m1.cq t.m2.w t.m2.h t.m2.AT t.m2.tx.length t.m2.ct t.m2.AI t.m2.ids.length t.m2.ci t.m2.AQ t.m2.qs.length t.m2.cq t.Q t.qs.length t.qc t.V t.ws.length t.vc t.u0.A t.u0.us.length t.u0.c t.u1.A t.u1.us.length t.u1.c t.u2.A t.u2.us.length t.u2.c s.m0.w s.m0.h s.m0.AT s.m0.tx.length s.m0.ct s.m0.AI s.m0.ids.length s.m0.ci s.m0.AQ s.m0.qs.length s.m0.cq s.m1.w s.m1.h s.m1.AT s.m1.tx.length s.m1.ct s.m1.AI s.m1.ids.length s.m1.ci s.m1.AQ s.m1.qs.length s.m1.cq s.m2.w s.m2.h s.m2.AT s.m2.tx.length s.m2.ct s.m2.AI s.m2.ids.length s.m2.ci s.m2.AQ s.m2.qs.length s.m2.cq s.Q s.qs.length s.qc s.V s.ws.length s.vc s.u0.A s.u0.us.length s.u0.c s.u1.A s.u1.us.length s.u1.c s.u2.A s.u2.us.length s.u2.c M) Q) :
  ∀ (d i:Nat),s.u2.us.length - i=d→i≤s.u2.us.length→Run P T lo F.zi (zi.Cb (2:Int) (i:Int) t.m0.w t.m0.h t.m0.AT t.m0.tx.length t.m0.ct t.m0.AI t.m0.ids.length t.m0.ci t.m0.AQ t.m0.qs.length t.m0.cq t.m1.w t.m1.h t.m1.AT t.m1.tx.length t.m1.ct t.m1.AI t.m1.ids.length t.m1.ci t.m1.AQ t.m1.qs.length t.m1.cq t.m2.w t.m2.h t.m2.AT t.m2.tx.length t.m2.ct t.m2.AI t.m2.ids.length t.m2.ci t.m2.AQ t.m2.qs.length t.m2.cq t.Q t.qs.length t.qc t.V t.ws.length t.vc t.u0.A t.u0.us.length t.u0.c t.u1.A t.u1.us.length t.u1.c t.u2.A t.u2.us.length t.u2.c s.m0.w s.m0.h s.m0.AT s.m0.tx.length s.m0.ct s.m0.AI s.m0.ids.length s.m0.ci s.m0.AQ s.m0.qs.length s.m0.cq s.m1.w s.m1.h s.m1.AT s.m1.tx.length s.m1.ct s.m1.AI s.m1.ids.length s.m1.ci s.m1.AQ s.m1.qs.length s.m1.cq s.m2.w s.m2.h s.m2.AT s.m2.tx.length s.m2.ct s.m2.AI s.m2.ids.length s.m2.ci s.m2.AQ s.m2.qs.length s.m2.cq s.Q s.qs.length s.qc s.V s.ws.length s.vc s.u0.A s.u0.us.length s.u0.c s.u1.A s.u1.us.length s.u1.c s.u2.A s.u2.us.length s.u2.c M) Q:=by
 have eu:t.u2.us=s.u2.us:=he.u 2
 have hn:=fit.us 2
 have hn:s.u2.us.length*56≤140737488351232:=hn
 have r1:RdU M t.u2.A s.u2.us:=by rw [← eu];exact (ht.u 2).rd
 have r2:RdU M s.u2.A s.u2.us:=(hs.u 2).rd
 have hwf:∀ u ∈ s.u2.us,u.wf:=(hs.u 2).wf
 intro d
 induction d with
 | zero=>
  intro i hd hi
  refine kut (fun k=>zi.Pb k ..) ?_
  refine Evp.pos (by decide) (Evp.some rfl ?_)
  exact Evp.dec (fun h=>absurd (show (i:Int) < (s.u2.us.length:Int) from h) (by omega)) fun _=>Evp.ret hnext
 | succ d ih=>
  intro i hd hi
  have hil:i < s.u2.us.length:=by omega
  refine kut (fun k=>zi.Pb k ..) ?_
  refine Evp.pos (by decide) (Evp.some rfl ?_)
  refine Evp.dec (fun _=>?_) fun h=>absurd (show (i:Int) < (s.u2.us.length:Int) by omega) h
  refine Evp.pos (by decide) (Evp.some rfl (Evp.pos (show 0≤(i:Int)∧(i:Int) < (t.u2.us.length:Int) by rw [eu];omega) ?_))
  simp only [Int.toNat_natCast]
  refine Evp.ldU r1 hil fun _ _=>?_
  refine Evp.pos (by decide) (Evp.some rfl (Evp.pos (show 0≤(i:Int)∧(i:Int) < (s.u2.us.length:Int) by omega) ?_))
  refine Evp.ldU r2 hil fun _ _=>?_
  have wk:=zfg (hwf _ (z60 hil))
  refine Evp.some wk (Evp.some wk ?_)
  refine Evp.ff (by rw [(z4g _ _).2 rfl];rfl) ?_
  rw [w64 (x:=(i:Int)+1) (by omega)]
  exact Evp.ret (ih (i+1) (by omega) (by omega))
theorem zkh {Q:Value × Mem→Prop}(hnext:Run P T lo F.zi (zi.Ca (i64.wrap ((2:Int)+1)) t.m0.w t.m0.h t.m0.AT t.m0.tx.length t.m0.ct t.m0.AI t.m0.ids.length t.m0.ci t.m0.AQ t.m0.qs.length t.m0.cq t.m1.w t.m1.h t.m1.AT t.m1.tx.length t.m1.ct t.m1.AI t.m1.ids.length t.m1.ci t.m1.AQ t.m1.qs.length t.m1.cq t.m2.w t.m2.h t.m2.AT t.m2.tx.length t.m2.ct t.m2.AI t.m2.ids.length t.m2.ci t.m2.AQ t.m2.qs.length t.m2.cq t.Q t.qs.length t.qc t.V t.ws.length t.vc t.u0.A t.u0.us.length t.u0.c t.u1.A t.u1.us.length t.u1.c t.u2.A t.u2.us.length t.u2.c s.m0.w s.m0.h s.m0.AT s.m0.tx.length s.m0.ct s.m0.AI s.m0.ids.length s.m0.ci s.m0.AQ s.m0.qs.length s.m0.cq s.m1.w s.m1.h s.m1.AT s.m1.tx.length s.m1.ct s.m1.AI s.m1.ids.length s.m1.ci s.m1.AQ s.m1.qs.length s.m1.cq s.m2.w s.m2.h s.m2.AT s.m2.tx.length s.m2.ct s.m2.AI s.m2.ids.length s.m2.ci s.m2.AQ s.m2.qs.length s.m2.cq s.Q s.qs.length s.qc s.V s.ws.length s.vc s.u0.A s.u0.us.length s.u0.c s.u1.A s.u1.us.length s.u1.c s.u2.A s.u2.us.length s.u2.c M) Q) :
  Run P T lo F.zi (zi.Ca (2:Int) t.m0.w t.m0.h t.m0.AT t.m0.tx.length t.m0.ct t.m0.AI t.m0.ids.length t.m0.ci t.m0.AQ t.m0.qs.length t.m0.cq t.m1.w t.m1.h t.m1.AT t.m1.tx.length t.m1.ct t.m1.AI t.m1.ids.length t.m1.ci t.m1.AQ t.m1.qs.length t.m1.cq t.m2.w t.m2.h t.m2.AT t.m2.tx.length t.m2.ct t.m2.AI t.m2.ids.length t.m2.ci t.m2.AQ t.m2.qs.length t.m2.cq t.Q t.qs.length t.qc t.V t.ws.length t.vc t.u0.A t.u0.us.length t.u0.c t.u1.A t.u1.us.length t.u1.c t.u2.A t.u2.us.length t.u2.c s.m0.w s.m0.h s.m0.AT s.m0.tx.length s.m0.ct s.m0.AI s.m0.ids.length s.m0.ci s.m0.AQ s.m0.qs.length s.m0.cq s.m1.w s.m1.h s.m1.AT s.m1.tx.length s.m1.ct s.m1.AI s.m1.ids.length s.m1.ci s.m1.AQ s.m1.qs.length s.m1.cq s.m2.w s.m2.h s.m2.AT s.m2.tx.length s.m2.ct s.m2.AI s.m2.ids.length s.m2.ci s.m2.AQ s.m2.qs.length s.m2.cq s.Q s.qs.length s.qc s.V s.ws.length s.vc s.u0.A s.u0.us.length s.u0.c s.u1.A s.u1.us.length s.u1.c s.u2.A s.u2.us.length s.u2.c M) Q:=by
 have m:=hs.m 2
 have m':=ht.m 2
 have e:=he.m 2
 have et:t.m2.tx=s.m2.tx:=e.tx
 have ei:t.m2.ids=s.m2.ids:=e.ids
 have eq:t.m2.qs=s.m2.qs:=e.qs
 have eu:t.u2.us=s.u2.us:=he.u 2
 have fi:s.m2.ids.length*8≤140737488351232:=fit.ids 2
 have fq:s.m2.qs.length≤140737488351232:=fit.mqs 2
 refine kut (fun k=>zi.Pa k ..) ?_
 refine Evp.tt rfl (Evp.pos (by decide) (Evp.some rfl (Evp.pos (by decide) (Evp.some rfl ?_))))
 refine Evp.ob (z55 lo t.m2.AT s.m2.AT t.m2.ct s.m2.ct t.m2.tx s.m2.tx M m'.rt m.rt m'.nt) ?_
 rintro _ rfl
 simp only [RD,RE,Nat.reduceAdd,Nat.reduceLT]
 refine Evp.ff (by rw [decide_eq_true et];rfl) (Evp.pos (by decide) (Evp.some rfl (Evp.pos (by decide) (Evp.some rfl ?_))))
 refine Evp.ob (z6g lo t.m2.AI s.m2.AI t.m2.ci s.m2.ci t.m2.ids s.m2.ids M m'.ri m.ri (by rw [ei];omega)) ?_
 rintro _ rfl
 simp only [RD,RE,Nat.reduceAdd,Nat.reduceLT]
 refine Evp.ff (by rw [decide_eq_true ei];rfl) (Evp.pos (by decide) (Evp.some rfl (Evp.pos (by decide) (Evp.some rfl ?_))))
 refine Evp.ob (z3f lo t.m2.AQ s.m2.AQ t.m2.cq s.m2.cq t.m2.qs s.m2.qs M m'.rq m.rq (by rw [eq];exact fq) eq) ?_
 rintro _ rfl
 simp only [RD,RE,Nat.reduceAdd,Nat.reduceLT]
 refine Evp.ff rfl (Evp.pos (by decide) (Evp.some rfl (Evp.pos (by decide) (Evp.some rfl ?_))))
 refine Evp.neb (fun h=>absurd (show ((t.u2.us.length:Nat):Int)=((s.u2.us.length:Nat):Int) by rw [eu]) h) fun _=>?_
 exact Evp.ret (zi6 lo s t M hs ht he fit hnext _ 0 rfl (Nat.zero_le _))
theorem zq3:Ac P T lo F.zi [.agg ⟨t.cells⟩,.agg ⟨s.cells⟩] M fun r=>r=(.bool true,M):=by
 refine Ac.of (Evp.of_eq (fun k=>zi.entry k ..) ?_)
 refine Evp.ret (zkf lo s t M hs ht he fit ?_)
 rw [show i64.wrap ((0:Int)+1)=1 from by decide]
 refine zkg lo s t M hs ht he fit ?_
 rw [show i64.wrap ((1:Int)+1)=2 from by decide]
 refine zkh lo s t M hs ht he fit ?_
 rw [show i64.wrap ((2:Int)+1)=3 from by decide]
 have eq:=he.qs
 have ew:=he.ws
 have fw:=fit.ws
 have fq:=fit.qs
 refine kut (fun k=>zi.Pa k ..) ?_
 refine Evp.ff rfl ?_
 refine Evp.ob (z3f lo t.Q s.Q t.qc s.qc t.qs s.qs M ht.q hs.q (by rw [eq];exact fq) eq) ?_
 rintro _ rfl
 simp only [RD,RE,Nat.reduceAdd,Nat.reduceLT]
 refine Evp.tt rfl ?_
 refine Evp.ob (z6g lo t.V s.V t.vc s.vc t.ws s.ws M ht.v hs.v (by rw [ew];omega)) ?_
 rintro _ rfl
 simp only [RD,RE,Nat.reduceAdd,Nat.reduceLT]
 exact Evp.ret (Run.ret (by rw [decide_eq_true ew]))
end
def z5v (X f:Fr3):Prop:=∀ n,n < 3→(X.at n).w=(f.at n).w∧(X.at n).h=(f.at n).h∧(X.at n).xs=(f.at n).xs
theorem z5v.symm {X f:Fr3}(h:z5v X f):z5v f X:=fun n hn=>by obtain ⟨a,b,c⟩:=h n hn;exact ⟨a.symm,b.symm,c.symm⟩
theorem SideEq.symm {s t:SideV}(h:SideEq s t):SideEq t s:=⟨fun n=>⟨(h.m n).w.symm,(h.m n).h.symm,(h.m n).tx.symm,(h.m n).ids.symm,(h.m n).qs.symm⟩,h.qs.symm,h.ws.symm,fun n=>(h.u n).symm⟩
section
variable {X f:Fr3}{s t:SideV}(hd:Hd)(L:List Int)(hF:z5v X f)(he:SideEq s t)
include hF he
theorem zab (n:Nat)(hn:n < 3):g1 X t hd n=g1 f s hd n:=by
 obtain ⟨a,b,c⟩:=hF n hn
 have m:=he.m n
 unfold g1 ly2 up1
 simp only [mOf,a,b,c,m.w,m.tx,m.ids,m.qs]
theorem zq4 (n:Nat)(hn:n < 3):g2 X t hd L n=g2 f s hd L n:=by
 have e:frD X (g1 X t hd)=frD f (g1 f s hd):=by
  obtain ⟨a0,b0,_⟩:=hF 0 (by omega)
  obtain ⟨a1,b1,_⟩:=hF 1 (by omega)
  obtain ⟨a2,b2,_⟩:=hF 2 (by omega)
  have a0:X.p0.w=f.p0.w:=a0
  have b0:X.p0.h=f.p0.h:=b0
  have a1:X.p1.w=f.p1.w:=a1
  have b1:X.p1.h=f.p1.h:=b1
  have a2:X.p2.w=f.p2.w:=a2
  have b2:X.p2.h=f.p2.h:=b2
  simp only [frD,a0,b0,a1,b1,a2,b2,zab hd hF he 0 (by omega),zab hd hF he 1 (by omega),zab hd hF he 2 (by omega)]
 unfold g2
 rw [e,he.qs,he.ws]
theorem zmk (n:Nat)(hn:n < 3):z3h X t hd L n=z3h f s hd L n:=by
 obtain ⟨a,b,c⟩:=hF n hn
 unfold z3h
 split
 ·exact c
 ·unfold yl
  rw [zab hd hF he n hn,zq4 hd L hF he n hn,a,b,he.u n]
theorem zei (hP:z2l f s hd L):z2l X t hd L:=by
 obtain ⟨a0,b0,c0⟩:=hF 0 (by omega)
 obtain ⟨a1,b1,c1⟩:=hF 1 (by omega)
 obtain ⟨a2,b2,c2⟩:=hF 2 (by omega)
 have a0:X.p0.w=f.p0.w:=a0
 have b0:X.p0.h=f.p0.h:=b0
 have c0:X.p0.xs=f.p0.xs:=c0
 have a1:X.p1.w=f.p1.w:=a1
 have b1:X.p1.h=f.p1.h:=b1
 have c1:X.p1.xs=f.p1.xs:=c1
 have a2:X.p2.w=f.p2.w:=a2
 have b2:X.p2.h=f.p2.h:=b2
 have c2:X.p2.xs=f.p2.xs:=c2
 have hW:uj X ↔ uj f:=by
  unfold uj
  rw [a0,b0,c0,a1,b1,c1,a2,b2,c2]
 obtain ⟨h1,h2,h3,h4⟩:=hP
 refine ⟨hW.2 h1,by rw [a0];exact h2,by rw [b0];exact h3,?_⟩
 rcases h4 with h4 | ⟨p,d,r⟩
 ·exact .inl h4
 refine .inr ⟨fun n hn=>?_,?_,fun n hn e=>?_⟩
 ·obtain ⟨x,y,z⟩:=hF n hn
  have m:=he.m n
  have:=p n hn
  unfold qt at this ⊢
  rw [x,y,z,m.w,m.h,m.tx,m.ids,m.qs]
  exact this
 ·unfold zdi at d ⊢
  rw [he.qs,he.ws]
  exact ⟨hW.2 d.1,by rw [a0];exact d.2.1,by rw [b0];exact d.2.2.1,by rw [a0,b0];exact d.2.2.2.1,by rw [a0,b0];exact d.2.2.2.2.1,d.2.2.2.2.2⟩
 ·obtain ⟨x,y,z⟩:=hF n hn
  rw [x,y,z,he.u n]
  exact r n hn e
end
theorem zod (f:Fr3)(damp:Int)(X Y:Nat)(a b c d:Int)(n:Nat)(o:List Int):(z3n f damp X Y a b c d n o).length=o.length:=by
 unfold z3n z0z
 split <;> rw [z1w]
theorem z88 (f:Fr3)(qs:List Bool)(ws L:List Int)(damp:Int)(n:Nat):∀ i,(vt f qs ws L damp i n).length=(f.at n).xs.length
 | 0=>rfl
 | i+1=>by
  simp only [vt]
  split
  ·exact z88 f qs ws L damp n i
  ·rw [zod];exact z88 f qs ws L damp n i
theorem zki {f:Fr3}{s:SideV}{hd:Hd}{L:List Int}(hP:z2l f s hd L)(n:Nat)(hn:n < 3)(hs:(f.at n).xs.length≤140737488351232):(z3h f s hd L n).length≤140737488351232:=by
 unfold z3h
 split
 ·exact hs
 rename_i hl
 rcases hP.2.2.2 with h | ⟨_,_,r⟩
 ·exact absurd h hl
 refine Nat.le_trans ?_ hs
 unfold yl
 split
 ·rename_i e
  have:=r n hn e
  rw [z17]
  have c1:=zy this.1
  have c2:=c1.2.2.2.2
  obtain ⟨Ww,hW⟩:=Int.eq_ofNat_of_zero_le (a:=(f.at n).w) (by omega)
  obtain ⟨Hh,hH⟩:=Int.eq_ofNat_of_zero_le (a:=(f.at n).h) (by omega)
  rw [hW,hH] at c2 ⊢
  rw [← Int.natCast_mul,Nat.mul_comm] at c2
  simp only [Int.toNat_natCast]
  omega
 ·have:(g2 f s hd L n).length=(f.at n).xs.length:=by
   unfold g2 vq
   split
   ·rw [z88]
    rcases lt3 hn with rfl | rfl | rfl <;> exact z0b f s hd _
   ·rcases lt3 hn with rfl | rfl | rfl <;> exact z0b f s hd _
  omega
theorem z9n (lo:Nat)(W X:Fr3)(M:Mem)(hW:FrIn M W)(hX:FrIn M X)(e:z5v W X)(hn:∀ n,n < 3→(W.at n).xs.length≤140737488351232):Ac P T lo F.z65 [.agg ⟨W.cells⟩,.agg ⟨X.cells⟩] M fun r=>r=(.bool true,M):=by
 obtain ⟨⟨w0,h0,A0,c0,x0⟩,⟨w1,h1,A1,c1,x1⟩,⟨w2,h2,A2,c2,x2⟩⟩:=X
 obtain ⟨a,b,c⟩:=e 0 (by omega)
 have a:W.p0.w=w0:=a
 have b:W.p0.h=h0:=b
 have c:W.p0.xs=x0:=c
 subst a b c
 obtain ⟨a,b,c⟩:=e 1 (by omega)
 have a:W.p1.w=w1:=a
 have b:W.p1.h=h1:=b
 have c:W.p1.xs=x1:=c
 subst a b c
 obtain ⟨a,b,c⟩:=e 2 (by omega)
 have a:W.p2.w=w2:=a
 have b:W.p2.h=h2:=b
 have c:W.p2.xs=x2:=c
 subst a b c
 exact zgk lo W.p0.w W.p0.h W.p1.w W.p1.h W.p2.w W.p2.h W.p0.A W.p1.A W.p2.A W.p0.c W.p1.c W.p2.c W.p0.xs W.p1.xs W.p2.xs M A0 A1 A2 c0 c1 c2 (hW.rd 0 (by omega)) (hW.rd 1 (by omega)) (hW.rd 2 (by omega)) (hX.rd 0 (by omega)) (hX.rd 1 (by omega)) (hX.rd 2 (by omega)) (hn 0 (by omega)) (hn 1 (by omega)) (hn 2 (by omega))
end Go.Zt

