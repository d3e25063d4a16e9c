/- What the law ChainRuns needs of the text Fh. -/
import Derived.Test.YtbbfdebfhgdciaaGreatPFg
set_option linter.unusedVariables false
set_option linter.unusedSimpArgs false
set_option maxRecDepth 100000
namespace Go.Zt
def hdW:Hd:=⟨false,0,false,false,0,0,0,0,0,1,0,0,0,0,0,0,0,false,32,0,0,0,0,false,0,0,none,0,0,false,false,false⟩
theorem zbg {m:MapV}{w h:Int}{k:Nat}(hm:MapIs m w h k 8)(W H nx lv sh:Int)(h1:qa W H nx=0∧W % 4=0∧H % 4=0∧w=W / 4∧h=H / 4∧(k:Int)=w*h)(h2:0≤lv∧lv≤63∧0≤sh∧sh≤7):z0d W H nx m.w m.h m.tx m.ids.length m.qs.length lv sh:=by
 refine ⟨⟨h1.1,h1.2.1,h1.2.2.1,by rw [hm.w];exact h1.2.2.2.1,by rw [hm.h];exact h1.2.2.2.2.1,?_,?_,?_,fun t ht=>?_⟩,h2⟩
 ·rw [hm.tx,hm.w,hm.h,List.length_replicate];exact h1.2.2.2.2.2
 ·rw [hm.ids,hm.w,hm.h,List.length_map,List.length_range];exact h1.2.2.2.2.2
 ·rw [hm.qs,hm.w,hm.h,List.length_replicate];exact h1.2.2.2.2.2
 ·rw [hm.tx] at ht
  rw [List.eq_of_mem_replicate ht]
  unfold TxP;decide
def stepM:Cells:=⟨4,true,false,List.replicate 16 8,(List.range 16).map fun j=>((j:Nat):Int),List.replicate 16 false,32,0⟩
def z4e:List Int:=stepM.passS 16 16 z4f 16
theorem zog:z4e.getD 80 0=100∧z4e.getD 95 0=104∧z4e.getD 87 0 > 100∧z4e.getD 88 0 < 104:=by decide +kernel
theorem z9p:z4f.length=256:=by simp [z4f]
theorem zej:z4e.length=256:=(Cells.passS_len ..).trans z9p
section
variable {f:Fr3}{s:SideV}
theorem zkj (hf:StepIs f):uj f:=by
 unfold uj
 rw [hf.w0,hf.h0,hf.x0,hf.w1,hf.h1,hf.x1,hf.w2,hf.h2,hf.x2,z9p,List.length_replicate]
 decide
theorem zmn (hf:StepIs f)(hs:BareIs s 8)(L:List Int):z2l f s hdW L:=by
 have hw:=zkj hf
 refine ⟨hw,by rw [hf.w0];rfl,by rw [hf.h0];rfl,.inr ⟨fun n hn=>?_,?_,fun n hn h=>?_⟩⟩
 ·rcases lt3 hn with rfl | rfl | rfl
  ·have e:∀ lv,0≤lv∧lv≤63→qt (f.at 0) (s.map 0) lv hdW.h22:=fun lv hl=>by
    show z0d f.p0.w f.p0.h f.p0.xs.length s.m0.w s.m0.h s.m0.tx s.m0.ids.length s.m0.qs.length lv 0
    rw [hf.w0,hf.h0,hf.x0,z9p]
    exact zbg hs.m0 _ _ _ _ _ (by decide) ⟨hl.1,hl.2,by decide,by decide⟩
   exact ⟨e _ (by decide),e _ (by decide)⟩
  ·have e:∀ lv,0≤lv∧lv≤63→qt (f.at 1) (s.map 1) lv hdW.h22:=fun lv hl=>by
    show z0d f.p1.w f.p1.h f.p1.xs.length s.m1.w s.m1.h s.m1.tx s.m1.ids.length s.m1.qs.length lv 0
    rw [hf.w1,hf.h1,hf.x1,List.length_replicate]
    exact zbg hs.m1 _ _ _ _ _ (by decide) ⟨hl.1,hl.2,by decide,by decide⟩
   exact ⟨e _ (by decide),e _ (by decide)⟩
  ·have e:∀ lv,0≤lv∧lv≤63→qt (f.at 2) (s.map 2) lv hdW.h22:=fun lv hl=>by
    show z0d f.p2.w f.p2.h f.p2.xs.length s.m2.w s.m2.h s.m2.tx s.m2.ids.length s.m2.qs.length lv 0
    rw [hf.w2,hf.h2,hf.x2,List.length_replicate]
    exact zbg hs.m2 _ _ _ _ _ (by decide) ⟨hl.1,hl.2,by decide,by decide⟩
   exact ⟨e _ (by decide),e _ (by decide)⟩
 ·refine ⟨hw,by rw [hf.w0];rfl,by rw [hf.h0];rfl,?_,?_,fun h=>by cases h⟩
  ·rw [hs.qs,hf.w0,hf.h0];rfl
  ·rw [hs.ws,hf.w0,hf.h0];rfl
 ·rcases lt3 hn with rfl | rfl | rfl <;> cases h
theorem zmo (L:List Int)(n:Nat)(hn:n < 3):z3h f s hdW L n=g1 f s hdW n:=by
 unfold z3h
 rw [if_neg (by decide)]
 unfold yl
 rw [if_neg (by rcases lt3 hn with rfl | rfl | rfl <;> decide)]
 unfold g2 vq
 rw [if_neg (by decide)]
 rcases lt3 hn with rfl | rfl | rfl <;> rfl
theorem zq8 (hf:StepIs f)(hs:BareIs s 8):g1 f s hdW 0=z4e:=by
 show ly2 f.p0 s.m0 0 hdW=z4e
 unfold ly2
 rw [Cells.pass_zero _ _ _ rfl]
 unfold up1 z4e
 rw [hf.w0,hf.h0,hf.x0]
 have e:mOf s.m0 true 0 (lv1 hdW 0) hdW.h22=stepM:=by
  show (⟨s.m0.w.toNat,true,false,s.m0.tx,s.m0.ids,s.m0.qs,32,0⟩:Cells)=stepM
  rw [hs.m0.w,hs.m0.tx,hs.m0.ids,hs.m0.qs]
  rfl
 rw [e,hs.m0.tx,List.length_replicate]
 rfl
theorem zq9 (hf:StepIs f):g1 f s hdW 1=List.replicate 64 50:=by
 show ly2 f.p1 s.m1 1 hdW=_
 unfold ly2
 rw [Cells.pass_zero _ _ _ rfl]
 unfold up1
 rw [Cells.pass_zero _ _ _ rfl,hf.x1]
end
theorem zoh (lo:Nat)(M:Mem)(hlo:lo≤M.length):Ac P T lo F.z8y [] M fun r=>∃ M',r=(.bool true,M')∧Pre M M':=by
 refine Ac.of (Evp.of_eq (fun k=>z8y.entry k ..) ?_)
 refine Evp.ob (zqa lo M hlo) ?_
 rintro _ ⟨f,M1,rfl,p1,hf,sf⟩
 simp only [RD,RE,Nat.reduceAdd,Nat.reduceLT]
 have l1:=p1.len
 refine Evp.ob (zmr lo 8 M1 (by omega)) ?_
 rintro _ ⟨s,M2,rfl,p2,hs,bs⟩
 simp only [RD,RE,Nat.reduceAdd,Nat.reduceLT]
 have l2:=p2.len
 have hf2:FrIn M2 f:=hf.pre p2
 refine Evp.ob (zms lo f s hdW [] M2 (by omega) hf2 hs Rd.zero (by unfold zdh;decide)) ?_
 rintro ⟨v,M3⟩ ⟨p3,hr⟩
 rcases hr with ⟨_,b,ad,cc,gg,rfl,own,eg⟩ | ⟨hno,_⟩
 rotate_left
 ·exact absurd (zmn sf bs []) hno
 simp only [RD,RE,Nat.reduceAdd,Nat.reduceLT]
 have e0:gg 0=z4e:=by rw [eg 0 (by omega),zmo [] 0 (by omega),zq8 sf bs]
 have e1:gg 1=List.replicate 64 50:=by rw [eg 1 (by omega),zmo [] 1 (by omega),zq9 sf]
 have r0:=(own.buf 0 (by omega)).rdI
 have r1:=(own.buf 1 (by omega)).rdI
 obtain ⟨v0,v1,v2,v3⟩:=zog
 refine Evp.ff rfl ?_
 rw [e0] at r0 ⊢
 rw [e1] at r1 ⊢
 rw [zej,List.length_replicate]
 have ld:∀ i,i < 256→(M3.ld (plus (ad 0) i)).bind (Value.int? .u8)=some (z4e.getD i 0):=fun i hi=>by
  obtain ⟨a,ea,_,h⟩:=r0.ld (i:=i) (by rw [zej];exact hi)
  injection ea with ea;subst ea
  rw [h];rfl
 refine Evp.ff rfl (Evp.pos (by decide) (Evp.some rfl (Evp.some (ld 80 (by decide)) ?_)))
 refine Evp.tt (by rw [v0];rfl) (Evp.pos (by decide) (Evp.some rfl (Evp.some (ld 95 (by decide)) ?_)))
 refine Evp.tt (by rw [v1];rfl) (Evp.pos (by decide) (Evp.some rfl (Evp.some (ld 87 (by decide)) ?_)))
 refine Evp.tt (decide_eq_true v2) (Evp.pos (by decide) (Evp.some rfl (Evp.some (ld 88 (by decide)) ?_)))
 refine Evp.tt (decide_eq_true v3) (Evp.pos (by decide) (Evp.some rfl ?_))
 obtain ⟨a,ea,_,h⟩:=r1.ld (i:=0) (by simp)
 injection ea with ea;subst ea
 rw [z9v] at h
 rw [h]
 exact Evp.some (b:=50) rfl (Evp.ret (Run.ret ⟨M3,rfl,(p1.trans p2).trans p3⟩))
end Go.Zt

