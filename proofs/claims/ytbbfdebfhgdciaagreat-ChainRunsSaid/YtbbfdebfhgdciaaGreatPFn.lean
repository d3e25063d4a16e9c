/- What the law ChainRuns needs of the text Fn. -/
import Derived.Test.YtbbfdebfhgdciaaGreatPFm
set_option linter.unusedVariables false
set_option linter.unusedSimpArgs false
set_option maxRecDepth 100000
set_option maxHeartbeats 4000000
namespace Go.Zt
open IntKind (i64 u8)
def FlP (R:Fr3)(ad:Nat→Addr)(M2 M:Mem):Prop:=∀ n,n < 3→(R.at n).xs.length≠0→∃ ys:List Int,ys.length=(R.at n).xs.length∧Buf M2 M (ad n) (ys.map (Value.int .u8))
section
variable (lo:Nat)(f X R:Fr3)(s t:SideV)(M2:Mem)(ad:Nat→Addr)
variable (hlo:lo≤M2.length)(hA:∀ n,n < 3→(R.at n).xs.length≠0→(R.at n).A=some (ad n))(hne:∀ m n,m < 3→n < 3→m≠n→(R.at m).xs.length≠0→(R.at n).xs.length≠0→(ad m).block≠(ad n).block)(hN:∀ n,n < 3→(R.at n).xs.length≤140737488351232)
include hlo hA hne hN
theorem zs6 {Q:Value × Mem→Prop}(hnext:∀ M',Pre M2 M'→FlP R ad M2 M'→Run P T lo F.zc (zc.Ca true (i64.wrap ((0:Int)+1)) f.p0.w f.p0.h f.p0.A f.p0.xs.length f.p0.c f.p1.w f.p1.h f.p1.A f.p1.xs.length f.p1.c f.p2.w f.p2.h f.p2.A f.p2.xs.length f.p2.c s.m0.w s.m0.h s.m0.AT s.m0.tx.length s.m0.ct s.m0.AI s.m0.ids.length s.m0.ci s.m0.AQ s.m0.qs.length s.m0.cq s.m1.w s.m1.h s.m1.AT s.m1.tx.length s.m1.ct s.m1.AI s.m1.ids.length s.m1.ci s.m1.AQ s.m1.qs.length s.m1.cq s.m2.w s.m2.h s.m2.AT s.m2.tx.length s.m2.ct s.m2.AI s.m2.ids.length s.m2.ci s.m2.AQ s.m2.qs.length s.m2.cq s.Q s.qs.length s.qc s.V s.ws.length s.vc s.u0.A s.u0.us.length s.u0.c s.u1.A s.u1.us.length s.u1.c s.u2.A s.u2.us.length s.u2.c X.p0.w X.p0.h X.p0.A X.p0.xs.length X.p0.c X.p1.w X.p1.h X.p1.A X.p1.xs.length X.p1.c X.p2.w X.p2.h X.p2.A X.p2.xs.length X.p2.c t.m0.w t.m0.h t.m0.AT t.m0.tx.length t.m0.ct t.m0.AI t.m0.ids.length t.m0.ci t.m0.AQ t.m0.qs.length t.m0.cq t.m1.w t.m1.h t.m1.AT t.m1.tx.length t.m1.ct t.m1.AI t.m1.ids.length t.m1.ci t.m1.AQ t.m1.qs.length t.m1.cq t.m2.w t.m2.h t.m2.AT t.m2.tx.length t.m2.ct t.m2.AI t.m2.ids.length t.m2.ci t.m2.AQ t.m2.qs.length t.m2.cq t.Q t.qs.length t.qc t.V t.ws.length t.vc t.u0.A t.u0.us.length t.u0.c t.u1.A t.u1.us.length t.u1.c t.u2.A t.u2.us.length t.u2.c R.p0.w R.p0.h R.p0.A R.p0.xs.length R.p0.c R.p1.w R.p1.h R.p1.A R.p1.xs.length R.p1.c R.p2.w R.p2.h R.p2.A R.p2.xs.length R.p2.c M') Q) :
  ∀ (d i:Nat) (M:Mem),R.p0.xs.length - i=d→i≤R.p0.xs.length→Pre M2 M→FlP R ad M2 M →
   Run P T lo F.zc (zc.Cb true (0:Int) (i:Int) f.p0.w f.p0.h f.p0.A f.p0.xs.length f.p0.c f.p1.w f.p1.h f.p1.A f.p1.xs.length f.p1.c f.p2.w f.p2.h f.p2.A f.p2.xs.length f.p2.c s.m0.w s.m0.h s.m0.AT s.m0.tx.length s.m0.ct s.m0.AI s.m0.ids.length s.m0.ci s.m0.AQ s.m0.qs.length s.m0.cq s.m1.w s.m1.h s.m1.AT s.m1.tx.length s.m1.ct s.m1.AI s.m1.ids.length s.m1.ci s.m1.AQ s.m1.qs.length s.m1.cq s.m2.w s.m2.h s.m2.AT s.m2.tx.length s.m2.ct s.m2.AI s.m2.ids.length s.m2.ci s.m2.AQ s.m2.qs.length s.m2.cq s.Q s.qs.length s.qc s.V s.ws.length s.vc s.u0.A s.u0.us.length s.u0.c s.u1.A s.u1.us.length s.u1.c s.u2.A s.u2.us.length s.u2.c X.p0.w X.p0.h X.p0.A X.p0.xs.length X.p0.c X.p1.w X.p1.h X.p1.A X.p1.xs.length X.p1.c X.p2.w X.p2.h X.p2.A X.p2.xs.length X.p2.c t.m0.w t.m0.h t.m0.AT t.m0.tx.length t.m0.ct t.m0.AI t.m0.ids.length t.m0.ci t.m0.AQ t.m0.qs.length t.m0.cq t.m1.w t.m1.h t.m1.AT t.m1.tx.length t.m1.ct t.m1.AI t.m1.ids.length t.m1.ci t.m1.AQ t.m1.qs.length t.m1.cq t.m2.w t.m2.h t.m2.AT t.m2.tx.length t.m2.ct t.m2.AI t.m2.ids.length t.m2.ci t.m2.AQ t.m2.qs.length t.m2.cq t.Q t.qs.length t.qc t.V t.ws.length t.vc t.u0.A t.u0.us.length t.u0.c t.u1.A t.u1.us.length t.u1.c t.u2.A t.u2.us.length t.u2.c R.p0.w R.p0.h R.p0.A R.p0.xs.length R.p0.c R.p1.w R.p1.h R.p1.A R.p1.xs.length R.p1.c R.p2.w R.p2.h R.p2.A R.p2.xs.length R.p2.c M) Q:=by
 have hn:R.p0.xs.length≤140737488351232:=hN 0 (by omega)
 intro d
 induction d with
 | zero=>
  intro i M hd hi hp hf
  refine kut (fun k=>zc.Pb k ..) ?_
  refine Evp.pos (by decide) (Evp.some rfl ?_)
  exact Evp.dec (fun h=>absurd (show (i:Int) < (R.p0.xs.length:Int) from h) (by omega)) fun _=>Evp.ret (hnext M hp hf)
 | succ d ih=>
  intro i M hd hi hp hf
  have hil:i < R.p0.xs.length:=by omega
  have h0:(R.at 0).xs.length≠0:=by show R.p0.xs.length≠0;omega
  have ea:R.p0.A=some (ad 0):=hA 0 (by omega) h0
  obtain ⟨ys,hy,hb⟩:=hf 0 (by omega) h0
  have hy:ys.length=R.p0.xs.length:=hy
  refine kut (fun k=>zc.Pb k ..) ?_
  refine Evp.pos (by decide) (Evp.some rfl ?_)
  refine Evp.dec (fun _=>?_) fun h=>absurd (show (i:Int) < (R.p0.xs.length:Int) by omega) h
  refine Evp.pos (by decide) (Evp.some rfl (Evp.pos (by decide) (Evp.some rfl (Evp.pos (show 0≤(i:Int)∧(i:Int) < (R.p0.xs.length:Int) by omega) ?_))))
  simp only [Int.toNat_natCast]
  rw [ea]
  refine Evp.ldI hb.rdI (by omega) fun _ _=>?_
  refine Evp.pos (show 0≤(i:Int)∧(i:Int) < (R.p0.xs.length:Int) by omega) (Evp.some rfl ?_)
  obtain ⟨M1,g1,g2,g3,g4,g5⟩:=hb.st (lo:=lo) (i:=i) (vs:=[.int .u8 (zda .u8 (ys.getD i 0) 255)]) hp hlo (by simp;omega)
  refine Evp.some g1 ?_
  rw [jf,qe] at g2
  rw [w64 (x:=(i:Int)+1) (by omega)]
  rw [← ea]
  refine Evp.ret (ih (i+1) M1 (by omega) (by omega) g3 fun n hn h1=>?_)
  by_cases e:n=0
  ·subst e
   exact ⟨_,(show (ys.set i _).length=R.p0.xs.length by rw [List.length_set];exact hy),g2⟩
  ·obtain ⟨zs,hz,hb'⟩:=hf n hn h1
   refine ⟨zs,hz,hb'.keep (A:=some (ad 0)) g4 fun z ez=>?_⟩
   injection ez with ez;subst ez
   exact hne 0 n (by omega) hn (fun q=>e q.symm) h0 h1
theorem zs7 {Q:Value × Mem→Prop}(hnext:∀ M',Pre M2 M'→FlP R ad M2 M'→Run P T lo F.zc (zc.Ca true (i64.wrap ((1:Int)+1)) f.p0.w f.p0.h f.p0.A f.p0.xs.length f.p0.c f.p1.w f.p1.h f.p1.A f.p1.xs.length f.p1.c f.p2.w f.p2.h f.p2.A f.p2.xs.length f.p2.c s.m0.w s.m0.h s.m0.AT s.m0.tx.length s.m0.ct s.m0.AI s.m0.ids.length s.m0.ci s.m0.AQ s.m0.qs.length s.m0.cq s.m1.w s.m1.h s.m1.AT s.m1.tx.length s.m1.ct s.m1.AI s.m1.ids.length s.m1.ci s.m1.AQ s.m1.qs.length s.m1.cq s.m2.w s.m2.h s.m2.AT s.m2.tx.length s.m2.ct s.m2.AI s.m2.ids.length s.m2.ci s.m2.AQ s.m2.qs.length s.m2.cq s.Q s.qs.length s.qc s.V s.ws.length s.vc s.u0.A s.u0.us.length s.u0.c s.u1.A s.u1.us.length s.u1.c s.u2.A s.u2.us.length s.u2.c X.p0.w X.p0.h X.p0.A X.p0.xs.length X.p0.c X.p1.w X.p1.h X.p1.A X.p1.xs.length X.p1.c X.p2.w X.p2.h X.p2.A X.p2.xs.length X.p2.c t.m0.w t.m0.h t.m0.AT t.m0.tx.length t.m0.ct t.m0.AI t.m0.ids.length t.m0.ci t.m0.AQ t.m0.qs.length t.m0.cq t.m1.w t.m1.h t.m1.AT t.m1.tx.length t.m1.ct t.m1.AI t.m1.ids.length t.m1.ci t.m1.AQ t.m1.qs.length t.m1.cq t.m2.w t.m2.h t.m2.AT t.m2.tx.length t.m2.ct t.m2.AI t.m2.ids.length t.m2.ci t.m2.AQ t.m2.qs.length t.m2.cq t.Q t.qs.length t.qc t.V t.ws.length t.vc t.u0.A t.u0.us.length t.u0.c t.u1.A t.u1.us.length t.u1.c t.u2.A t.u2.us.length t.u2.c R.p0.w R.p0.h R.p0.A R.p0.xs.length R.p0.c R.p1.w R.p1.h R.p1.A R.p1.xs.length R.p1.c R.p2.w R.p2.h R.p2.A R.p2.xs.length R.p2.c M') Q) :
  ∀ (d i:Nat) (M:Mem),R.p1.xs.length - i=d→i≤R.p1.xs.length→Pre M2 M→FlP R ad M2 M →
   Run P T lo F.zc (zc.Cb true (1:Int) (i:Int) f.p0.w f.p0.h f.p0.A f.p0.xs.length f.p0.c f.p1.w f.p1.h f.p1.A f.p1.xs.length f.p1.c f.p2.w f.p2.h f.p2.A f.p2.xs.length f.p2.c s.m0.w s.m0.h s.m0.AT s.m0.tx.length s.m0.ct s.m0.AI s.m0.ids.length s.m0.ci s.m0.AQ s.m0.qs.length s.m0.cq s.m1.w s.m1.h s.m1.AT s.m1.tx.length s.m1.ct s.m1.AI s.m1.ids.length s.m1.ci s.m1.AQ s.m1.qs.length s.m1.cq s.m2.w s.m2.h s.m2.AT s.m2.tx.length s.m2.ct s.m2.AI s.m2.ids.length s.m2.ci s.m2.AQ s.m2.qs.length s.m2.cq s.Q s.qs.length s.qc s.V s.ws.length s.vc s.u0.A s.u0.us.length s.u0.c s.u1.A s.u1.us.length s.u1.c s.u2.A s.u2.us.length s.u2.c X.p0.w X.p0.h X.p0.A X.p0.xs.length X.p0.c X.p1.w X.p1.h X.p1.A X.p1.xs.length X.p1.c X.p2.w X.p2.h X.p2.A X.p2.xs.length X.p2.c t.m0.w t.m0.h t.m0.AT t.m0.tx.length t.m0.ct t.m0.AI t.m0.ids.length t.m0.ci t.m0.AQ t.m0.qs.length t.m0.cq t.m1.w t.m1.h t.m1.AT t.m1.tx.length t.m1.ct t.m1.AI t.m1.ids.length t.m1.ci t.m1.AQ t.m1.qs.length t.m1.cq t.m2.w t.m2.h t.m2.AT t.m2.tx.length t.m2.ct t.m2.AI t.m2.ids.length t.m2.ci t.m2.AQ t.m2.qs.length t.m2.cq t.Q t.qs.length t.qc t.V t.ws.length t.vc t.u0.A t.u0.us.length t.u0.c t.u1.A t.u1.us.length t.u1.c t.u2.A t.u2.us.length t.u2.c R.p0.w R.p0.h R.p0.A R.p0.xs.length R.p0.c R.p1.w R.p1.h R.p1.A R.p1.xs.length R.p1.c R.p2.w R.p2.h R.p2.A R.p2.xs.length R.p2.c M) Q:=by
 have hn:R.p1.xs.length≤140737488351232:=hN 1 (by omega)
 intro d
 induction d with
 | zero=>
  intro i M hd hi hp hf
  refine kut (fun k=>zc.Pb k ..) ?_
  refine Evp.pos (by decide) (Evp.some rfl ?_)
  exact Evp.dec (fun h=>absurd (show (i:Int) < (R.p1.xs.length:Int) from h) (by omega)) fun _=>Evp.ret (hnext M hp hf)
 | succ d ih=>
  intro i M hd hi hp hf
  have hil:i < R.p1.xs.length:=by omega
  have h0:(R.at 1).xs.length≠0:=by show R.p1.xs.length≠0;omega
  have ea:R.p1.A=some (ad 1):=hA 1 (by omega) h0
  obtain ⟨ys,hy,hb⟩:=hf 1 (by omega) h0
  have hy:ys.length=R.p1.xs.length:=hy
  refine kut (fun k=>zc.Pb k ..) ?_
  refine Evp.pos (by decide) (Evp.some rfl ?_)
  refine Evp.dec (fun _=>?_) fun h=>absurd (show (i:Int) < (R.p1.xs.length:Int) by omega) h
  refine Evp.pos (by decide) (Evp.some rfl (Evp.pos (by decide) (Evp.some rfl (Evp.pos (show 0≤(i:Int)∧(i:Int) < (R.p1.xs.length:Int) by omega) ?_))))
  simp only [Int.toNat_natCast]
  rw [ea]
  refine Evp.ldI hb.rdI (by omega) fun _ _=>?_
  refine Evp.pos (show 0≤(i:Int)∧(i:Int) < (R.p1.xs.length:Int) by omega) (Evp.some rfl ?_)
  obtain ⟨M1,g1,g2,g3,g4,g5⟩:=hb.st (lo:=lo) (i:=i) (vs:=[.int .u8 (zda .u8 (ys.getD i 0) 255)]) hp hlo (by simp;omega)
  refine Evp.some g1 ?_
  rw [jf,qe] at g2
  rw [w64 (x:=(i:Int)+1) (by omega)]
  rw [← ea]
  refine Evp.ret (ih (i+1) M1 (by omega) (by omega) g3 fun n hn h1=>?_)
  by_cases e:n=1
  ·subst e
   exact ⟨_,(show (ys.set i _).length=R.p1.xs.length by rw [List.length_set];exact hy),g2⟩
  ·obtain ⟨zs,hz,hb'⟩:=hf n hn h1
   refine ⟨zs,hz,hb'.keep (A:=some (ad 1)) g4 fun z ez=>?_⟩
   injection ez with ez;subst ez
   exact hne 1 n (by omega) hn (fun q=>e q.symm) h0 h1
theorem zs8 {Q:Value × Mem→Prop}(hnext:∀ M',Pre M2 M'→FlP R ad M2 M'→Run P T lo F.zc (zc.Ca true (i64.wrap ((2:Int)+1)) f.p0.w f.p0.h f.p0.A f.p0.xs.length f.p0.c f.p1.w f.p1.h f.p1.A f.p1.xs.length f.p1.c f.p2.w f.p2.h f.p2.A f.p2.xs.length f.p2.c s.m0.w s.m0.h s.m0.AT s.m0.tx.length s.m0.ct s.m0.AI s.m0.ids.length s.m0.ci s.m0.AQ s.m0.qs.length s.m0.cq s.m1.w s.m1.h s.m1.AT s.m1.tx.length s.m1.ct s.m1.AI s.m1.ids.length s.m1.ci s.m1.AQ s.m1.qs.length s.m1.cq s.m2.w s.m2.h s.m2.AT s.m2.tx.length s.m2.ct s.m2.AI s.m2.ids.length s.m2.ci s.m2.AQ s.m2.qs.length s.m2.cq s.Q s.qs.length s.qc s.V s.ws.length s.vc s.u0.A s.u0.us.length s.u0.c s.u1.A s.u1.us.length s.u1.c s.u2.A s.u2.us.length s.u2.c X.p0.w X.p0.h X.p0.A X.p0.xs.length X.p0.c X.p1.w X.p1.h X.p1.A X.p1.xs.length X.p1.c X.p2.w X.p2.h X.p2.A X.p2.xs.length X.p2.c t.m0.w t.m0.h t.m0.AT t.m0.tx.length t.m0.ct t.m0.AI t.m0.ids.length t.m0.ci t.m0.AQ t.m0.qs.length t.m0.cq t.m1.w t.m1.h t.m1.AT t.m1.tx.length t.m1.ct t.m1.AI t.m1.ids.length t.m1.ci t.m1.AQ t.m1.qs.length t.m1.cq t.m2.w t.m2.h t.m2.AT t.m2.tx.length t.m2.ct t.m2.AI t.m2.ids.length t.m2.ci t.m2.AQ t.m2.qs.length t.m2.cq t.Q t.qs.length t.qc t.V t.ws.length t.vc t.u0.A t.u0.us.length t.u0.c t.u1.A t.u1.us.length t.u1.c t.u2.A t.u2.us.length t.u2.c R.p0.w R.p0.h R.p0.A R.p0.xs.length R.p0.c R.p1.w R.p1.h R.p1.A R.p1.xs.length R.p1.c R.p2.w R.p2.h R.p2.A R.p2.xs.length R.p2.c M') Q) :
  ∀ (d i:Nat) (M:Mem),R.p2.xs.length - i=d→i≤R.p2.xs.length→Pre M2 M→FlP R ad M2 M →
   Run P T lo F.zc (zc.Cb true (2:Int) (i:Int) f.p0.w f.p0.h f.p0.A f.p0.xs.length f.p0.c f.p1.w f.p1.h f.p1.A f.p1.xs.length f.p1.c f.p2.w f.p2.h f.p2.A f.p2.xs.length f.p2.c s.m0.w s.m0.h s.m0.AT s.m0.tx.length s.m0.ct s.m0.AI s.m0.ids.length s.m0.ci s.m0.AQ s.m0.qs.length s.m0.cq s.m1.w s.m1.h s.m1.AT s.m1.tx.length s.m1.ct s.m1.AI s.m1.ids.length s.m1.ci s.m1.AQ s.m1.qs.length s.m1.cq s.m2.w s.m2.h s.m2.AT s.m2.tx.length s.m2.ct s.m2.AI s.m2.ids.length s.m2.ci s.m2.AQ s.m2.qs.length s.m2.cq s.Q s.qs.length s.qc s.V s.ws.length s.vc s.u0.A s.u0.us.length s.u0.c s.u1.A s.u1.us.length s.u1.c s.u2.A s.u2.us.length s.u2.c X.p0.w X.p0.h X.p0.A X.p0.xs.length X.p0.c X.p1.w X.p1.h X.p1.A X.p1.xs.length X.p1.c X.p2.w X.p2.h X.p2.A X.p2.xs.length X.p2.c t.m0.w t.m0.h t.m0.AT t.m0.tx.length t.m0.ct t.m0.AI t.m0.ids.length t.m0.ci t.m0.AQ t.m0.qs.length t.m0.cq t.m1.w t.m1.h t.m1.AT t.m1.tx.length t.m1.ct t.m1.AI t.m1.ids.length t.m1.ci t.m1.AQ t.m1.qs.length t.m1.cq t.m2.w t.m2.h t.m2.AT t.m2.tx.length t.m2.ct t.m2.AI t.m2.ids.length t.m2.ci t.m2.AQ t.m2.qs.length t.m2.cq t.Q t.qs.length t.qc t.V t.ws.length t.vc t.u0.A t.u0.us.length t.u0.c t.u1.A t.u1.us.length t.u1.c t.u2.A t.u2.us.length t.u2.c R.p0.w R.p0.h R.p0.A R.p0.xs.length R.p0.c R.p1.w R.p1.h R.p1.A R.p1.xs.length R.p1.c R.p2.w R.p2.h R.p2.A R.p2.xs.length R.p2.c M) Q:=by
 have hn:R.p2.xs.length≤140737488351232:=hN 2 (by omega)
 intro d
 induction d with
 | zero=>
  intro i M hd hi hp hf
  refine kut (fun k=>zc.Pb k ..) ?_
  refine Evp.pos (by decide) (Evp.some rfl ?_)
  exact Evp.dec (fun h=>absurd (show (i:Int) < (R.p2.xs.length:Int) from h) (by omega)) fun _=>Evp.ret (hnext M hp hf)
 | succ d ih=>
  intro i M hd hi hp hf
  have hil:i < R.p2.xs.length:=by omega
  have h0:(R.at 2).xs.length≠0:=by show R.p2.xs.length≠0;omega
  have ea:R.p2.A=some (ad 2):=hA 2 (by omega) h0
  obtain ⟨ys,hy,hb⟩:=hf 2 (by omega) h0
  have hy:ys.length=R.p2.xs.length:=hy
  refine kut (fun k=>zc.Pb k ..) ?_
  refine Evp.pos (by decide) (Evp.some rfl ?_)
  refine Evp.dec (fun _=>?_) fun h=>absurd (show (i:Int) < (R.p2.xs.length:Int) by omega) h
  refine Evp.pos (by decide) (Evp.some rfl (Evp.pos (by decide) (Evp.some rfl (Evp.pos (show 0≤(i:Int)∧(i:Int) < (R.p2.xs.length:Int) by omega) ?_))))
  simp only [Int.toNat_natCast]
  rw [ea]
  refine Evp.ldI hb.rdI (by omega) fun _ _=>?_
  refine Evp.pos (show 0≤(i:Int)∧(i:Int) < (R.p2.xs.length:Int) by omega) (Evp.some rfl ?_)
  obtain ⟨M1,g1,g2,g3,g4,g5⟩:=hb.st (lo:=lo) (i:=i) (vs:=[.int .u8 (zda .u8 (ys.getD i 0) 255)]) hp hlo (by simp;omega)
  refine Evp.some g1 ?_
  rw [jf,qe] at g2
  rw [w64 (x:=(i:Int)+1) (by omega)]
  rw [← ea]
  refine Evp.ret (ih (i+1) M1 (by omega) (by omega) g3 fun n hn h1=>?_)
  by_cases e:n=2
  ·subst e
   exact ⟨_,(show (ys.set i _).length=R.p2.xs.length by rw [List.length_set];exact hy),g2⟩
  ·obtain ⟨zs,hz,hb'⟩:=hf n hn h1
   refine ⟨zs,hz,hb'.keep (A:=some (ad 2)) g4 fun z ez=>?_⟩
   injection ez with ez;subst ez
   exact hne 2 n (by omega) hn (fun q=>e q.symm) h0 h1
theorem zs9 {Q:Value × Mem→Prop}(M:Mem)(hp:Pre M2 M)(hf:FlP R ad M2 M)(hnext:∀ M',Pre M2 M'→Run P T lo F.zc (zc.Ca true 3 f.p0.w f.p0.h f.p0.A f.p0.xs.length f.p0.c f.p1.w f.p1.h f.p1.A f.p1.xs.length f.p1.c f.p2.w f.p2.h f.p2.A f.p2.xs.length f.p2.c s.m0.w s.m0.h s.m0.AT s.m0.tx.length s.m0.ct s.m0.AI s.m0.ids.length s.m0.ci s.m0.AQ s.m0.qs.length s.m0.cq s.m1.w s.m1.h s.m1.AT s.m1.tx.length s.m1.ct s.m1.AI s.m1.ids.length s.m1.ci s.m1.AQ s.m1.qs.length s.m1.cq s.m2.w s.m2.h s.m2.AT s.m2.tx.length s.m2.ct s.m2.AI s.m2.ids.length s.m2.ci s.m2.AQ s.m2.qs.length s.m2.cq s.Q s.qs.length s.qc s.V s.ws.length s.vc s.u0.A s.u0.us.length s.u0.c s.u1.A s.u1.us.length s.u1.c s.u2.A s.u2.us.length s.u2.c X.p0.w X.p0.h X.p0.A X.p0.xs.length X.p0.c X.p1.w X.p1.h X.p1.A X.p1.xs.length X.p1.c X.p2.w X.p2.h X.p2.A X.p2.xs.length X.p2.c t.m0.w t.m0.h t.m0.AT t.m0.tx.length t.m0.ct t.m0.AI t.m0.ids.length t.m0.ci t.m0.AQ t.m0.qs.length t.m0.cq t.m1.w t.m1.h t.m1.AT t.m1.tx.length t.m1.ct t.m1.AI t.m1.ids.length t.m1.ci t.m1.AQ t.m1.qs.length t.m1.cq t.m2.w t.m2.h t.m2.AT t.m2.tx.length t.m2.ct t.m2.AI t.m2.ids.length t.m2.ci t.m2.AQ t.m2.qs.length t.m2.cq t.Q t.qs.length t.qc t.V t.ws.length t.vc t.u0.A t.u0.us.length t.u0.c t.u1.A t.u1.us.length t.u1.c t.u2.A t.u2.us.length t.u2.c R.p0.w R.p0.h R.p0.A R.p0.xs.length R.p0.c R.p1.w R.p1.h R.p1.A R.p1.xs.length R.p1.c R.p2.w R.p2.h R.p2.A R.p2.xs.length R.p2.c M') Q) :
  Run P T lo F.zc (zc.Ca true 0 f.p0.w f.p0.h f.p0.A f.p0.xs.length f.p0.c f.p1.w f.p1.h f.p1.A f.p1.xs.length f.p1.c f.p2.w f.p2.h f.p2.A f.p2.xs.length f.p2.c s.m0.w s.m0.h s.m0.AT s.m0.tx.length s.m0.ct s.m0.AI s.m0.ids.length s.m0.ci s.m0.AQ s.m0.qs.length s.m0.cq s.m1.w s.m1.h s.m1.AT s.m1.tx.length s.m1.ct s.m1.AI s.m1.ids.length s.m1.ci s.m1.AQ s.m1.qs.length s.m1.cq s.m2.w s.m2.h s.m2.AT s.m2.tx.length s.m2.ct s.m2.AI s.m2.ids.length s.m2.ci s.m2.AQ s.m2.qs.length s.m2.cq s.Q s.qs.length s.qc s.V s.ws.length s.vc s.u0.A s.u0.us.length s.u0.c s.u1.A s.u1.us.length s.u1.c s.u2.A s.u2.us.length s.u2.c X.p0.w X.p0.h X.p0.A X.p0.xs.length X.p0.c X.p1.w X.p1.h X.p1.A X.p1.xs.length X.p1.c X.p2.w X.p2.h X.p2.A X.p2.xs.length X.p2.c t.m0.w t.m0.h t.m0.AT t.m0.tx.length t.m0.ct t.m0.AI t.m0.ids.length t.m0.ci t.m0.AQ t.m0.qs.length t.m0.cq t.m1.w t.m1.h t.m1.AT t.m1.tx.length t.m1.ct t.m1.AI t.m1.ids.length t.m1.ci t.m1.AQ t.m1.qs.length t.m1.cq t.m2.w t.m2.h t.m2.AT t.m2.tx.length t.m2.ct t.m2.AI t.m2.ids.length t.m2.ci t.m2.AQ t.m2.qs.length t.m2.cq t.Q t.qs.length t.qc t.V t.ws.length t.vc t.u0.A t.u0.us.length t.u0.c t.u1.A t.u1.us.length t.u1.c t.u2.A t.u2.us.length t.u2.c R.p0.w R.p0.h R.p0.A R.p0.xs.length R.p0.c R.p1.w R.p1.h R.p1.A R.p1.xs.length R.p1.c R.p2.w R.p2.h R.p2.A R.p2.xs.length R.p2.c M) Q:=by
 refine kut (fun k=>zc.Pa k ..) ?_
 refine Evp.tt rfl (Evp.ret (zs6 lo f X R s t M2 ad hlo hA hne hN (fun M3 p3 f3=>?_) _ 0 M rfl (Nat.zero_le _) hp hf))
 rw [show i64.wrap ((0:Int)+1)=1 from by decide]
 refine kut (fun k=>zc.Pa k ..) ?_
 refine Evp.tt rfl (Evp.ret (zs7 lo f X R s t M2 ad hlo hA hne hN (fun M4 p4 f4=>?_) _ 0 M3 rfl (Nat.zero_le _) p3 f3))
 rw [show i64.wrap ((1:Int)+1)=2 from by decide]
 refine kut (fun k=>zc.Pa k ..) ?_
 refine Evp.tt rfl (Evp.ret (zs8 lo f X R s t M2 ad hlo hA hne hN (fun M5 p5 f5=>?_) _ 0 M4 rfl (Nat.zero_le _) p4 f4))
 rw [show i64.wrap ((2:Int)+1)=3 from by decide]
 exact hnext M5 p5
end
theorem zmj (M:Mem):FrIn M zFr:=by
 refine ⟨fun n hn=>?_,fun n hn=>?_,fun n hn=>?_⟩
 ·rcases lt3 hn with rfl | rfl | rfl <;> exact RdI.nil
 ·rcases lt3 hn with rfl | rfl | rfl <;> exact fun z hz=>absurd hz List.not_mem_nil
 ·rcases lt3 hn with rfl | rfl | rfl <;> exact Nat.le_refl _
theorem ChainRuns_law (M:Mem)(vs:List Value)(hro:zjn M)(hv:z1q P M [27,34,43] vs):Ac P T M.length F.zc vs M fun r=>r.1=.bool true:=by
 obtain ⟨v0,r0,rfl,h0,k0⟩:=z9w hv
 obtain ⟨a0,rfl,y0⟩:=zdr (by kernel_rfl) h0
 obtain ⟨f,rfl,hf,hsm⟩:=zsa (d:=3) y0
 obtain ⟨v1,r1,rfl,h1,k1⟩:=z9w k0
 obtain ⟨a1,rfl,y1⟩:=zdr (by kernel_rfl) h1
 obtain ⟨hd,L,rfl,hwf,hL⟩:=zsb (d:=4) y1
 obtain ⟨v2,r2,rfl,h2,k2⟩:=z9w k1
 obtain ⟨a2,rfl,y2⟩:=zdr (by kernel_rfl) h2
 obtain ⟨s,rfl,hs,fit⟩:=zq7 (d:=2) y2
 obtain rfl:=zpk k2
 refine Ac.of (Evp.of_eq (fun k=>zc.entry k ..) ?_)
 refine Evp.ob (z9o M.length f M hf hsm) ?_
 rintro _ ⟨X,M1,rfl,p1,hX,hXd⟩
 simp only [RD,RE,Nat.reduceAdd,Nat.reduceLT]
 have l1:=p1.len
 refine Evp.ob (zmm M.length s M1 (hs.pre p1) fit l1) ?_
 rintro _ ⟨t,M2,rfl,p2,ht,he⟩
 refine Evp.some rfl ?_
 refine Evp.some rfl ?_
 refine Evp.some rfl ?_
 refine Evp.some rfl ?_
 refine Evp.some rfl ?_
 refine Evp.some rfl ?_
 refine Evp.some rfl ?_
 refine Evp.some rfl ?_
 refine Evp.some rfl ?_
 refine Evp.some rfl ?_
 refine Evp.some rfl ?_
 refine Evp.some rfl ?_
 refine Evp.some rfl ?_
 refine Evp.some rfl ?_
 refine Evp.some rfl ?_
 refine Evp.some rfl ?_
 refine Evp.some rfl ?_
 refine Evp.some rfl ?_
 refine Evp.some rfl ?_
 refine Evp.some rfl ?_
 refine Evp.some rfl ?_
 have q2:=p1.trans p2
 have l2:=q2.len
 have hX2:=hX.pre p2
 refine Evp.ob (zms M.length X t hd L M2 l2 hX2 ht (hL.pre q2) hwf) ?_
 rintro ⟨v,M3⟩ ⟨p3,hr⟩
 have q3:=q2.trans p3
 have l3:=q3.len
 have fin:∀ (R:Fr3) (ad:Nat→Addr) (M4:Mem),Pre M2 M4→FlP R ad M2 M4→(∀ n,n < 3→(R.at n).xs.length≠0→(R.at n).A=some (ad n))→(∀ m n,m < 3→n < 3→m≠n→(R.at m).xs.length≠0→(R.at n).xs.length≠0→(ad m).block≠(ad n).block)→(∀ n,n < 3→(R.at n).xs.length≤140737488351232) →
   Run P T M.length F.zc (zc.Ca true 0 f.p0.w f.p0.h f.p0.A f.p0.xs.length f.p0.c f.p1.w f.p1.h f.p1.A f.p1.xs.length f.p1.c f.p2.w f.p2.h f.p2.A f.p2.xs.length f.p2.c s.m0.w s.m0.h s.m0.AT s.m0.tx.length s.m0.ct s.m0.AI s.m0.ids.length s.m0.ci s.m0.AQ s.m0.qs.length s.m0.cq s.m1.w s.m1.h s.m1.AT s.m1.tx.length s.m1.ct s.m1.AI s.m1.ids.length s.m1.ci s.m1.AQ s.m1.qs.length s.m1.cq s.m2.w s.m2.h s.m2.AT s.m2.tx.length s.m2.ct s.m2.AI s.m2.ids.length s.m2.ci s.m2.AQ s.m2.qs.length s.m2.cq s.Q s.qs.length s.qc s.V s.ws.length s.vc s.u0.A s.u0.us.length s.u0.c s.u1.A s.u1.us.length s.u1.c s.u2.A s.u2.us.length s.u2.c X.p0.w X.p0.h X.p0.A X.p0.xs.length X.p0.c X.p1.w X.p1.h X.p1.A X.p1.xs.length X.p1.c X.p2.w X.p2.h X.p2.A X.p2.xs.length X.p2.c t.m0.w t.m0.h t.m0.AT t.m0.tx.length t.m0.ct t.m0.AI t.m0.ids.length t.m0.ci t.m0.AQ t.m0.qs.length t.m0.cq t.m1.w t.m1.h t.m1.AT t.m1.tx.length t.m1.ct t.m1.AI t.m1.ids.length t.m1.ci t.m1.AQ t.m1.qs.length t.m1.cq t.m2.w t.m2.h t.m2.AT t.m2.tx.length t.m2.ct t.m2.AI t.m2.ids.length t.m2.ci t.m2.AQ t.m2.qs.length t.m2.cq t.Q t.qs.length t.qc t.V t.ws.length t.vc t.u0.A t.u0.us.length t.u0.c t.u1.A t.u1.us.length t.u1.c t.u2.A t.u2.us.length t.u2.c R.p0.w R.p0.h R.p0.A R.p0.xs.length R.p0.c R.p1.w R.p1.h R.p1.A R.p1.xs.length R.p1.c R.p2.w R.p2.h R.p2.A R.p2.xs.length R.p2.c M4) fun r=>r.1=.bool true:=fun R ad M4 p4 hf4 hA hne hN=>by
  refine zs9 M.length f X R s t M2 ad l2 hA hne hN M4 p4 hf4 fun M5 p5=>?_
  have q5:=q2.trans p5
  have l5:=q5.len
  refine kut (fun k=>zc.Pa k ..) ?_
  refine Evp.ff rfl (Evp.tt rfl ?_)
  refine Evp.ob (z9n M.length X f M5 (hX2.pre p5) (hf.pre q5) hXd fun n hn=>by rw [(hXd n hn).2.2];exact hsm n hn) ?_
  rintro _ rfl
  simp only [RD,RE,Nat.reduceAdd,Nat.reduceLT]
  refine Evp.tt rfl ?_
  refine Evp.ob (zq3 M.length s t M5 (hs.pre q5) (ht.pre p5) he fit) ?_
  rintro _ rfl
  simp only [RD,RE,Nat.reduceAdd,Nat.reduceLT]
  refine Evp.tt rfl ?_
  refine Evp.ob (zoh M.length M5 l5) ?_
  rintro _ ⟨M6,rfl,p6⟩
  simp only [RD,RE,Nat.reduceAdd,Nat.reduceLT]
  exact Evp.ret (Run.ret rfl)
 have doc:=zq5 M.length f s hd L M3 l3 (hf.pre q3) (hs.pre q3) (hL.pre q3) hwf
 rcases hr with ⟨hP,b,ad,cc,gg,e,own,eg⟩ | ⟨hP,e⟩
 ·obtain rfl:v=_:=e
  simp only [RD,RE,Nat.reduceAdd,Nat.reduceLT]
  refine Evp.ob doc ?_
  rintro ⟨v',M4⟩ ⟨p4,hr4⟩
  have hPf:z2l f s hd L:=zei hd L (z5v.symm hXd) (SideEq.symm he) hP
  rcases hr4 with ⟨_,Y,e',hY,hYd⟩ | ⟨hno,_⟩
  rotate_left
  ·exact absurd hPf hno
  obtain rfl:v'=_:=e'
  simp only [RD,RE,Nat.reduceAdd,Nat.reduceLT]
  refine Evp.tt rfl ?_
  have hR:FrIn M4 (frB X ad cc gg):=((own.frS X).in_).pre p4
  have sml:∀ n,n < 3→((frB X ad cc gg).at n).xs.length≤140737488351232:=fun n hn=>by
   have e:((frB X ad cc gg).at n).xs=gg n:=by rcases lt3 hn with rfl | rfl | rfl <;> rfl
   rw [e,eg n hn]
   exact zki hP n hn (by rw [(hXd n hn).2.2];exact hsm n hn)
  have same:z5v (frB X ad cc gg) Y:=fun n hn=>by
   obtain ⟨a,b,c⟩:=hYd n hn
   obtain ⟨a',b',c'⟩:=hXd n hn
   have er:=zmk hd L hXd he n hn
   rw [a,b,c,← er,← eg n hn,← a',← b']
   rcases lt3 hn with rfl | rfl | rfl <;> exact ⟨rfl,rfl,rfl⟩
  refine Evp.ob (z9n M.length (frB X ad cc gg) Y M4 hR hY same sml) ?_
  rintro _ rfl
  simp only [RD,RE,Nat.reduceAdd,Nat.reduceLT]
  refine Evp.ret (fin (frB X ad cc gg) ad M4 (p3.trans p4) (fun n hn _=>⟨gg n,?_,(own.buf n hn).pre p4⟩) (fun n hn _=>?_) (fun m n hm hn hmn _ _=>own.ne m n hm hn hmn) sml)
  ·rcases lt3 hn with rfl | rfl | rfl <;> rfl
  ·rcases lt3 hn with rfl | rfl | rfl <;> rfl
 ·obtain rfl:v=_:=e
  simp only [RD,RE,Nat.reduceAdd,Nat.reduceLT]
  refine Evp.ob doc ?_
  rintro ⟨v',M4⟩ ⟨p4,hr4⟩
  have hPf:¬ z2l f s hd L:=fun h=>hP (zei hd L hXd he h)
  rcases hr4 with ⟨hy,_⟩ | ⟨_,e'⟩
  ·exact absurd hy hPf
  obtain rfl:v'=_:=e'
  simp only [RD,RE,Nat.reduceAdd,Nat.reduceLT]
  refine Evp.tt rfl ?_
  refine Evp.ob (z9n M.length zFr zFr M4 (zmj M4) (zmj M4) (fun n hn=>⟨rfl,rfl,rfl⟩) fun n hn=>by rcases lt3 hn with rfl | rfl | rfl <;> exact Nat.zero_le _) ?_
  rintro _ rfl
  simp only [RD,RE,Nat.reduceAdd,Nat.reduceLT]
  have z:∀ n,n < 3→(zFr.at n).xs.length=0:=fun n hn=>by rcases lt3 hn with rfl | rfl | rfl <;> rfl
  exact Evp.ret (fin zFr (fun _=>⟨0,0,none⟩) M4 (p3.trans p4) (fun n hn h=>absurd (z n hn) h) (fun n hn h=>absurd (z n hn) h) (fun m n hm hn hmn h _=>absurd (z m hm) h) fun n hn=>by rw [z n hn];exact Nat.zero_le _)
end Go.Zt

