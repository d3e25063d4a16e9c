/- What the law ChainRuns needs of the text Fv. -/
import Derived.Test.YtbbfdebfhgdciaaGreatPFu
set_option linter.unusedVariables false
set_option linter.unusedSimpArgs false
set_option maxRecDepth 100000
namespace Go.Zt
open IntKind (i64 u8)
theorem zom (lo:Nat)(M:Mem):∀ (x acc:Nat),x≤1048576→acc≤100→Nat.log2 x+acc≤100→Run P T lo F.u6 (u6.Ca x acc M) fun r=>r=(.int .i64 ((Nat.log2 x+acc:Nat):Int),M):=by
 intro x
 induction x using Nat.strongRecOn with
 | ind x ih=>
  intro acc hx ha hs
  refine kut (fun k=>u6.Pa k ..) ?_
  refine Evp.dec (fun h=>?_) fun h=>Evp.ret (Run.ret ?_)
  ·have e:=zgv (x:=x) (k:=1) (by omega)
   rw [show Int.tdiv (x:Int) 2=((x / 2:Nat):Int) from rfl,w64 (x:=((x / 2:Nat):Int)) (by omega),w64 (by omega),show (acc:Int)+1=((acc+1:Nat):Int) by omega]
   rw [show x / 2 ^ 1=x / 2 from rfl] at e
   have:=ih (x / 2) (by omega) (acc+1) (by omega) (by omega) (by omega)
   rw [show Nat.log2 (x / 2)+(acc+1)=Nat.log2 x+acc by omega] at this
   exact Evp.ret this
  ·have:x=0∨x=1:=by omega
   rcases this with rfl | rfl
   ·rw [show Nat.log2 0=0 from by decide,Nat.zero_add]
   ·rw [show Nat.log2 1=0 from by decide,Nat.zero_add]
theorem zmv (lo:Nat)(x:Nat)(M:Mem)(hx:x≤1048576):Ac P T lo F.u6 [.int .i64 x] M fun r=>r=(.int .i64 (Nat.log2 x:Nat),M):=by
 have:=zae hx
 refine Ac.of (Evp.of_eq (fun k=>u6.entry k ..) ?_)
 exact Evp.ret (zom lo M x 0 hx (by omega) (by omega))
theorem zgn (lo:Nat)(d t p:Int)(M:Mem):Ac P T lo F.z8z [.int .i64 d,.int .i64 t,.int .i64 p] M fun r=>r=(.int .i64 (z04 d t p),M):=by
 have h1:=z1v d
 have h2:=z1v t
 have h3:=z1v p
 refine Ac.of (Evp.of_eq (fun k=>z8z.entry k ..) ?_)
 refine Evp.ob (vp ..) ?_
 rintro _ rfl
 simp only [RD,RE,Nat.reduceAdd,Nat.reduceLT]
 refine Evp.ob (vp ..) ?_
 rintro _ rfl
 simp only [RD,RE,Nat.reduceAdd,Nat.reduceLT]
 refine Evp.ob (vp ..) ?_
 rintro _ rfl
 simp only [RD,RE,Nat.reduceAdd,Nat.reduceLT]
 refine Evp.dec (fun h=>Evp.ret (Run.ret (by unfold z04;rw [if_pos (show y9 t≤0 from h)]))) fun h=>?_
 have h:¬ y9 t≤0:=h
 obtain ⟨s0,s1,a0,a1,q0,q1⟩:=zes d t p h
 obtain ⟨n,en⟩:=Int.eq_ofNat_of_zero_le (a:=y9 t) (by omega)
 have en':y8 t (-1048576) 1048576=(n:Int):=en
 have hn:n≤1048576∧n≠0:=by omega
 rw [en']
 refine Evp.ob (zmv lo n M hn.1) ?_
 rintro _ rfl
 simp only [RD,RE,Nat.reduceAdd,Nat.reduceLT]
 have l20:=zae hn.1
 have ed:y8 d (-1048576) 1048576=y9 d:=rfl
 have ep:y8 p (-1048576) 1048576=y9 p:=rfl
 rw [ed,ep]
 refine Evp.ob (zch lo (y9 d) M (by omega)) ?_
 rintro _ rfl
 simp only [RD,RE,Nat.reduceAdd,Nat.reduceLT]
 refine Evp.ob (zch lo (y9 d) M (by omega)) ?_
 rintro _ rfl
 simp only [RD,RE,Nat.reduceAdd,Nat.reduceLT]
 have e2:zq (yv (i64.wrap (y9 p - (Nat.log2 n:Nat))) 0) 60=qz t p:=by
  rw [w64 (by omega)]
  unfold qz
  rw [en,Int.toNat_natCast]
  unfold zq yv y8
  repeat' split
  all_goals omega
 rw [e2]
 refine Evp.neg (by omega) ?_
 have ev:zq (jw (y9 d)) (yv 0 (i64.wrap ((n:Int) - yz .i64 (jw (y9 d)) (qz t p).toNat)))=zq (jw (y9 d)) (yv 0 (y9 t - jw (y9 d) / 2 ^ (qz t p).toNat)):=by
  rw [ud _ (by omega),w64 (by omega),en]
 have vb:0≤zq (jw (y9 d)) (yv 0 (y9 t - jw (y9 d) / 2 ^ (qz t p).toNat))∧zq (jw (y9 d)) (yv 0 (y9 t - jw (y9 d) / 2 ^ (qz t p).toNat))≤1048576:=by
  unfold zq yv
  split <;> split <;> omega
 rw [ev]
 refine Evp.dec (fun g=>Evp.ret (Run.ret ?_)) fun g=>Evp.ret (Run.ret ?_)
 ·unfold z04
  rw [if_neg h,if_pos g,w64 (by omega),Int.zero_sub]
 ·unfold z04
  rw [if_neg h,if_neg g]
theorem zmw (lo d r c:Nat)(M:Mem)(hd:d < 8)(hr:r < 8)(hc:c < 8):Ac P T lo F.z8o [.int .i64 d,.int .i64 r,.int .i64 c] M fun q=>q=(.int .i64 (jh d r c:Nat),M):=by
 have dr:Int.tdiv (r:Int) 2=((r / 2:Nat):Int):=rfl
 have dc:Int.tdiv (c:Int) 2=((c / 2:Nat):Int):=rfl
 refine Ac.of (Evp.of_eq (fun k=>z8o.entry k ..) ?_)
 rw [dr,dc,w64 (x:=((c / 2:Nat):Int)) (by omega),w64 (x:=((r / 2:Nat):Int)) (by omega),w64 (x:=(r:Int)+c) (by omega),w64 (x:=(r:Int)+((c / 2:Nat):Int)) (by omega),w64 (x:=3+(r:Int)) (by omega),w64 (x:=3+(r:Int) - ((c / 2:Nat):Int)) (by omega),w64 (x:=7+(r:Int)) (by omega),w64 (x:=7+(r:Int) - c) (by omega),w64 (x:=3 - ((r / 2:Nat):Int)) (by omega),w64 (x:=3 - ((r / 2:Nat):Int)+c) (by omega),w64 (x:=((r / 2:Nat):Int)+c) (by omega)]
 have ret:∀ z:Int,z=(jh d r c:Nat)→Evp (fun k=>some (.ret (.int .i64 z) M)) fun out=>Run P T lo F.z8o out fun q=>q=(.int .i64 (jh d r c:Nat),M):=fun z hz=>Evp.ret (Run.ret (by rw [hz]))
 unfold jh at ret
 refine Evp.eqb (fun h=>ret _ (by rw [if_pos (by omega)];omega)) fun h0=>?_
 refine Evp.eqb (fun h=>ret _ (by rw [if_neg (by omega),if_pos (by omega)];omega)) fun h1=>?_
 refine Evp.eqb (fun h=>ret _ (by rw [if_neg (by omega),if_neg (by omega),if_pos (by omega)])) fun h2=>?_
 refine Evp.eqb (fun h=>ret _ (by rw [if_neg (by omega),if_neg (by omega),if_neg (by omega),if_pos (by omega)];omega)) fun h3=>?_
 refine Evp.eqb (fun h=>ret _ (by rw [if_neg (by omega),if_neg (by omega),if_neg (by omega),if_neg (by omega),if_pos (by omega)];omega)) fun h4=>?_
 refine Evp.eqb (fun h=>ret _ (by rw [if_neg (by omega),if_neg (by omega),if_neg (by omega),if_neg (by omega),if_neg (by omega),if_pos (by omega)];omega)) fun h5=>?_
 refine Evp.eqb (fun h=>ret _ (by rw [if_neg (by omega),if_neg (by omega),if_neg (by omega),if_neg (by omega),if_neg (by omega),if_neg (by omega),if_pos (by omega)])) fun h6=>?_
 exact ret _ (by rw [if_neg (by omega),if_neg (by omega),if_neg (by omega),if_neg (by omega),if_neg (by omega),if_neg (by omega),if_neg (by omega)];omega)
section
variable (lo:Nat)(A:Option Addr)(c:Nat)(b:List Int)(M0:Mem)(hlo:lo≤M0.length)(hx:RdI M0 .u8 A b)(bb:zh b)(hl:b.length=64)(d:Nat)(hd:d < 8)
include hlo hx bb hl hd
theorem z6i:Ac P T lo F.zg [.slice A 64 c,.int .i64 d] M0 fun r=>∃ M',r=(.int .i64 (u9 b d 16),M')∧Pre M0 M':=by
 have sums:∀ (a m:Addr) (L K:List Int) (M:Mem),L.length=16→K.length=16→(∀ k,k < 16→L.getD k 0=u7 b d k 64)→(∀ k,k < 16→K.getD k 0=zl d k 64)→Pre M0 M→RdI M .i64 (some a) L→RdI M .i64 (some m) K→∀ (e k:Nat),16 - k=e→k≤16 →
   Run P T lo F.zg (zg.Cb (some a) 16 16 (some m) 16 16 (u9 b d k) k M) fun r=>∃ M',r=(.int .i64 (u9 b d 16),M')∧Pre M0 M':=by
  intro a m L K M lL lK hL hK hp rL rK e
  induction e with
  | zero=>
   intro k he hk
   obtain rfl:k=16:=by omega
   refine kut (fun k=>zg.Pb k ..) ?_
   exact Evp.dec (fun g=>absurd g (by omega)) fun _=>Evp.ret (Run.ret ⟨M,rfl,hp⟩)
  | succ e ih=>
   intro k he hk
   have hk16:k < 16:=by omega
   have s:=z5f bb d k 64
   have q:=zl2 (s:=u7 b d k 64) (by omega)
   have m':=z2o d k 64
   have wl:=z46 bb d k
   have tl:=zag bb d k
   have nx:∀ z:Int,z=u9 b d (k+1)→Run P T lo F.zg (zg.Cc (some a) 16 16 (some m) 16 16 z k M) fun r=>∃ M',r=(.int .i64 (u9 b d 16),M')∧Pre M0 M':=fun z hz=>by
    subst hz
    refine kut (fun k=>zg.Pc k ..) ?_
    rw [w64 (by omega)]
    exact Evp.ret (ih (k+1) (by omega) (by omega))
   refine kut (fun k=>zg.Pb k ..) ?_
   refine Evp.dec (fun _=>?_) fun g=>absurd g (by omega)
   refine Evp.pos (by omega) ?_
   simp only [Int.toNat_natCast]
   refine Evp.ldI rK (by omega) fun _ _=>?_
   rw [hK k hk16]
   refine Evp.dec (fun g=>?_) fun g=>Evp.ret (nx _ (by simp only [u9];rw [if_pos (by omega),Int.add_zero]))
   have h0:¬ zl d k 64=0:=by omega
   rw [if_neg h0] at tl
   refine Evp.pos (by omega) (Evp.ldI rL (by omega) fun _ _=>Evp.pos (by omega) (Evp.ldI rL (by omega) fun _ _=>Evp.pos (by omega) (Evp.ldI rK (by omega) fun _ _=>?_)))
   rw [hL k hk16,hK k hk16]
   have dv:Int.tdiv 840 (zl d k 64)=840 / zl d k 64:=Int.tdiv_eq_ediv_of_nonneg (by omega)
   have dl:0≤840 / zl d k 64∧840 / zl d k 64≤840:=⟨Int.ediv_nonneg (by omega) m'.1,Int.ediv_le_self _ (by omega)⟩
   refine Evp.neg h0 ?_
   rw [dv,w64 (x:=u7 b d k 64*u7 b d k 64) (by omega),w64 (x:=840 / zl d k 64) (by omega),w64 (x:=u7 b d k 64*u7 b d k 64*(840 / zl d k 64)) (by omega),w64 (by omega)]
   exact Evp.ret (nx _ (by simp only [u9];rw [if_neg h0]))
 have cols:∀ (a m:Addr) (hne:a.block≠m.block) (r:Nat) (hr:r < 8) (next:∀ (L K:List Int) (M:Mem),L.length=16→K.length=16→(∀ k,k < 16→L.getD k 0=u7 b d k (8*(r+1)))→(∀ k,k < 16→K.getD k 0=zl d k (8*(r+1)))→Pre M0 M→Buf M0 M a (L.map (Value.int .i64))→Buf M0 M m (K.map (Value.int .i64))→Run P T lo F.zg (zg.Ca A 64 c d (some a) 16 16 (some m) 16 16 ((r+1:Nat):Int) M) fun r=>∃ M',r=(.int .i64 (u9 b d 16),M')∧Pre M0 M') ,
   ∀ (e x:Nat) (L K:List Int) (M:Mem),8 - x=e→x≤8→L.length=16→K.length=16→(∀ k,k < 16→L.getD k 0=u7 b d k (8*r+x))→(∀ k,k < 16→K.getD k 0=zl d k (8*r+x))→Pre M0 M→Buf M0 M a (L.map (Value.int .i64))→Buf M0 M m (K.map (Value.int .i64)) →
   Run P T lo F.zg (zg.Cd A 64 c d (some a) 16 16 (some m) 16 16 r x M) fun r=>∃ M',r=(.int .i64 (u9 b d 16),M')∧Pre M0 M':=by
  intro a m hne r hr next e
  induction e with
  | zero=>
   intro x L K M he hx8 lL lK hL hK hp bL bK
   obtain rfl:x=8:=by omega
   refine kut (fun k=>zg.Pd k ..) ?_
   refine Evp.dec (fun g=>absurd g (by omega)) fun _=>?_
   rw [w64 (by omega)]
   rw [show 8*r+8=8*(r+1) by omega] at hL hK
   exact Evp.ret (next L K M lL lK hL hK hp bL bK)
  | succ e ih=>
   intro x L K M he hx8 lL lK hL hK hp bL bK
   have hx':x < 8:=by omega
   have hn:=zaf (d:=d) hr hx'
   have e1:(8*r+x) / 8=r:=by omega
   have e2:(8*r+x) % 8=x:=by omega
   have g0:=hL (jh d r x) hn
   have g1:=hK (jh d r x) hn
   have s0:=z5f bb d (jh d r x) (8*r+x)
   have m0:=z2o d (jh d r x) (8*r+x)
   have bi:=bb.get (8*r+x)
   have stepS:∀ k,u7 b d k (8*r+(x+1))=u7 b d k (8*r+x)+(if jh d r x=k then b.getD (8*r+x) 0 - 128 else 0):=fun k=>by
    rw [show 8*r+(x+1)=8*r+x+1 by omega]
    simp only [u7]
    rw [e1,e2]
   have stepM:∀ k,zl d k (8*r+(x+1))=zl d k (8*r+x)+(if jh d r x=k then 1 else 0):=fun k=>by
    rw [show 8*r+(x+1)=8*r+x+1 by omega]
    simp only [zl]
    rw [e1,e2]
   refine kut (fun k=>zg.Pd k ..) ?_
   refine Evp.dec (fun _=>?_) fun g=>absurd g (by omega)
   refine Evp.ob (zmw lo d r x M hd hr hx') ?_
   rintro _ rfl
   simp only [RD,RE,Nat.reduceAdd,Nat.reduceLT]
   generalize jh d r x=k0 at *
   refine Evp.pos (by omega) ?_
   simp only [Int.toNat_natCast]
   refine Evp.ldI bL.rdI (by omega) fun _ _=>?_
   rw [w64 (x:=8*(r:Int)) (by omega),w64 (x:=8*(r:Int)+x) (by omega),show 8*(r:Int)+x=((8*r+x:Nat):Int) by omega]
   refine Evp.pos (by omega) ?_
   simp only [Int.toNat_natCast]
   refine Evp.ldI (hx.pre hp) (by omega) fun _ _=>?_
   refine Evp.pos (by omega) (Evp.some rfl ?_)
   rw [w64 (x:=b.getD (8*r+x) 0) (by omega),w64 (x:=L.getD k0 0+b.getD (8*r+x) 0) (by omega),w64 (x:=L.getD k0 0+b.getD (8*r+x) 0 - 128) (by omega)]
   obtain ⟨M1,h1,h2,h3,h4,_⟩:=bL.st (lo:=lo) (i:=k0) (vs:=[.int .i64 (L.getD k0 0+b.getD (8*r+x) 0 - 128)]) hp hlo (by simp;omega)
   refine Evp.some h1 ?_
   rw [jf,qe] at h2
   have bK1:=bK.keep h4 (fun a' e=>by injection e with e;subst e;exact hne)
   refine Evp.pos (by omega) (Evp.ldI bK1.rdI (by omega) fun _ _=>?_)
   refine Evp.pos (by omega) (Evp.some rfl ?_)
   rw [w64 (x:=K.getD k0 0+1) (by omega)]
   obtain ⟨M2,j1,j2,j3,j4,_⟩:=bK1.st (lo:=lo) (i:=k0) (vs:=[.int .i64 (K.getD k0 0+1)]) h3 hlo (by simp;omega)
   refine Evp.some j1 ?_
   rw [jf,qe] at j2
   have bL2:=h2.keep j4 (fun a' e=>by injection e with e;subst e;exact Ne.symm hne)
   rw [w64 (by omega)]
   refine Evp.ret (ih (x+1) _ _ M2 (by omega) (by omega) (by simpa using lL) (by simpa using lK) (fun k hk=>?_) (fun k hk=>?_) j3 bL2 j2)
   ·rw [z0k (by omega),stepS]
    by_cases g:k=k0
    ·subst g;rw [if_pos rfl,if_pos rfl,g0];omega
    ·rw [if_neg g,if_neg (fun e=>g e.symm),hL k hk,Int.add_zero]
   ·rw [z0k (by omega),stepM]
    by_cases g:k=k0
    ·subst g;rw [if_pos rfl,if_pos rfl,g1]
    ·rw [if_neg g,if_neg (fun e=>g e.symm),hK k hk,Int.add_zero]
 have rows:∀ (a m:Addr) (hne:a.block≠m.block) (e r:Nat) (L K:List Int) (M:Mem),8 - r=e→r≤8→L.length=16→K.length=16→(∀ k,k < 16→L.getD k 0=u7 b d k (8*r))→(∀ k,k < 16→K.getD k 0=zl d k (8*r))→Pre M0 M→Buf M0 M a (L.map (Value.int .i64))→Buf M0 M m (K.map (Value.int .i64)) →
   Run P T lo F.zg (zg.Ca A 64 c d (some a) 16 16 (some m) 16 16 r M) fun r=>∃ M',r=(.int .i64 (u9 b d 16),M')∧Pre M0 M':=by
  intro a m hne e
  induction e with
  | zero=>
   intro r L K M he hr lL lK hL hK hp bL bK
   obtain rfl:r=8:=by omega
   refine kut (fun k=>zg.Pa k ..) ?_
   refine Evp.dec (fun g=>absurd g (by omega)) fun _=>?_
   exact Evp.ret (sums a m L K M lL lK hL hK hp bL.rdI bK.rdI 16 0 rfl (by omega))
  | succ e ih=>
   intro r L K M he hr lL lK hL hK hp bL bK
   refine kut (fun k=>zg.Pa k ..) ?_
   refine Evp.dec (fun _=>?_) fun g=>absurd g (by omega)
   exact Evp.ret (cols a m hne r (by omega) (fun L K M lL lK hL hK hp bL bK=>ih (r+1) L K M (by omega) (by omega) lL lK hL hK hp bL bK) 8 0 L K M rfl (by omega) lL lK hL hK hp bL bK)
 have z16:y4 [.int .i64 0] 16=(List.replicate 16 (0:Int)).map (Value.int .i64):=rfl
 have z:∀ k,k < 16→(List.replicate 16 (0:Int)).getD k 0=0:=fun i hi=>by rw [List.getD_eq_getElem?_getD,List.getElem?_replicate,if_pos hi];rfl
 refine Ac.of (Evp.of_eq (fun k=>zg.entry k ..) ?_)
 refine Evp.pos (by decide) (Evp.pos (by decide) ?_)
 rw [z16]
 have x1:=Pre.app M0 [⟨.fx,(List.replicate 16 (0:Int)).map (Value.int .i64)⟩]
 have x2:=Pre.app (M0 ++ [⟨.fx,(List.replicate 16 (0:Int)).map (Value.int .i64)⟩]) [⟨.fx,(List.replicate 16 (0:Int)).map (Value.int .i64)⟩]
 have b1:Buf M0 (M0 ++ [⟨.fx,(List.replicate 16 (0:Int)).map (Value.int .i64)⟩]:Mem) ⟨M0.length,0,none⟩ ((List.replicate 16 (0:Int)).map (Value.int .i64)):=Buf.push (Pre.refl _)
 exact Evp.ret (rows ⟨M0.length,0,none⟩ ⟨(M0 ++ [⟨.fx,(List.replicate 16 (0:Int)).map (Value.int .i64)⟩]:Mem).length,0,none⟩ (by simp) 8 0 _ _ _ rfl (by omega) List.length_replicate List.length_replicate (fun k hk=>by rw [z k hk];rfl) (fun k hk=>by rw [z k hk];rfl) (x1.trans x2) (b1.pre x2) (Buf.push x1))
end
theorem zf6 (lo:Nat)(A:Option Addr)(c:Nat)(b:List Int)(M:Mem)(hlo:lo≤M.length)(hx:RdI M .u8 A b)(bb:zh b):Ac P T lo F.y3 [.slice A b.length c] M fun r=>∃ M',Pre M M'∧r=(if b.length=64 then .tuple ⟨[.int .i64 (yu b 8:Nat),.int .i64 (z1l b),.int .i64 0]⟩ else .tuple ⟨[.int .i64 0,.int .i64 0,.int .i64 2]⟩,M'):=by
 refine Ac.of (Evp.of_eq (fun k=>y3.entry k ..) ?_)
 refine Evp.neb (fun h=>Evp.ret (Run.ret ⟨M,Pre.refl M,by rw [if_neg (by omega)]⟩)) fun h=>?_
 have hl:b.length=64:=by omega
 rw [if_pos hl,hl]
 have loop:∀ (e d:Nat) (M1:Mem),8 - d=e→1≤d→d≤8→Pre M M1→Run P T lo F.y3 (y3.Ca A 64 c (yu b d:Nat) d M1) fun r=>∃ M',Pre M M'∧r=(.tuple ⟨[.int .i64 (yu b 8:Nat),.int .i64 (z1l b),.int .i64 0]⟩,M'):=by
  intro e
  induction e with
  | zero=>
   intro d M1 he h1 hd hp
   obtain rfl:d=8:=by omega
   have bl:yu b 8 < 8:=z0h b 8
   refine kut (fun k=>y3.Pa k ..) ?_
   refine Evp.dec (fun g=>absurd g (by omega)) fun _=>?_
   refine Evp.ob (z6i lo A c b M1 (Nat.le_trans hlo hp.len) (hx.pre hp) bb hl _ bl) ?_
   rintro _ ⟨M2,rfl,p2⟩
   simp only [RD,RE,Nat.reduceAdd,Nat.reduceLT]
   have e4:Int.tmod (i64.wrap (((yu b 8:Nat):Int)+4)) 8=(((yu b 8+4) % 8:Nat):Int):=by
    rw [w64 (by omega)];rfl
   rw [e4]
   refine Evp.ob (z6i lo A c b M2 (Nat.le_trans hlo (hp.trans p2).len) (hx.pre (hp.trans p2)) bb hl _ (Nat.mod_lt _ (by decide))) ?_
   rintro _ ⟨M3,rfl,p3⟩
   simp only [RD,RE,Nat.reduceAdd,Nat.reduceLT]
   have w1:=z46 bb (yu b 8) 16
   have w2:=z46 bb ((yu b 8+4) % 8) 16
   refine Evp.ret (Run.ret ⟨M3,(hp.trans p2).trans p3,?_⟩)
   rw [w64 (by omega),ud 10 (by decide)]
   rfl
  | succ e ih=>
   intro d M1 he h1 hd hp
   have bl:yu b d < 8:=by have:=z0h b d;omega
   have nx:∀ (z:Nat) (M2:Mem),z=yu b (d+1)→Pre M M2→Run P T lo F.y3 (y3.Cb A 64 c (z:Nat) d M2) fun r=>∃ M',Pre M M'∧r=(.tuple ⟨[.int .i64 (yu b 8:Nat),.int .i64 (z1l b),.int .i64 0]⟩,M'):=fun z M2 hz hp2=>by
    subst hz
    refine kut (fun k=>y3.Pb k ..) ?_
    rw [w64 (by omega)]
    exact Evp.ret (ih (d+1) M2 (by omega) (by omega) (by omega) hp2)
   refine kut (fun k=>y3.Pa k ..) ?_
   refine Evp.dec (fun _=>?_) fun g=>absurd g (by omega)
   refine Evp.ob (z6i lo A c b M1 (Nat.le_trans hlo hp.len) (hx.pre hp) bb hl d (by omega)) ?_
   rintro _ ⟨M2,rfl,p2⟩
   simp only [RD,RE,Nat.reduceAdd,Nat.reduceLT]
   refine Evp.ob (z6i lo A c b M2 (Nat.le_trans hlo (hp.trans p2).len) (hx.pre (hp.trans p2)) bb hl _ bl) ?_
   rintro _ ⟨M3,rfl,p3⟩
   simp only [RD,RE,Nat.reduceAdd,Nat.reduceLT]
   exact Evp.dec (fun g=>Evp.ret (nx d M3 (by rw [yu,if_pos g]) ((hp.trans p2).trans p3))) fun g=>Evp.ret (nx (yu b d) M3 (by rw [yu,if_neg g]) ((hp.trans p2).trans p3))
 have b1:yu b 1=0:=by
  have:=z0h b 1
  omega
 have s:=loop 7 1 M rfl (by omega) (by omega) (Pre.refl M)
 rw [b1] at s
 exact Evp.ret s
def z5w (w h:Nat)(A:Option Addr)(n c:Nat)(x y:Nat)(s:S3):List Value:=[.int .i64 w,.int .i64 h,.slice A n c,.int .i64 x,.int .i64 y,.int .i64 s.sum,.int .i64 s.low,.int .i64 s.top]
def qi (w h:Nat)(xs:List Int)(x y v p:Int)(T:List Int)(t:Nat)(s:S3):S3:=z0y w h xs x y v p T t 1 (z0y w h xs x y v p T t (-1) s)
theorem z5x (w h:Nat)(xs:List Int)(x y v p:Int)(T:List Int)(t t':Nat)(u u':Int)(s:S3):z0y w h xs x y v p T t u (z0y w h xs x y v p T t' u' s)=z0y w h xs x y v p T t' u' (z0y w h xs x y v p T t u s):=by
 have mn:∀ a b c:Int,zq (zq a b) c=zq (zq a c) b:=fun a b c=>by
  unfold zq
  repeat' split
  all_goals omega
 have mx:∀ a b c:Int,yv (yv a b) c=yv (yv a c) b:=fun a b c=>by
  unfold yv
  repeat' split
  all_goals omega
 unfold z0y
 by_cases h1:inP w h (x+u'*tC T t') (y+u'*tR T t')
 ·by_cases h2:inP w h (x+u*tC T t) (y+u*tR T t)
  ·simp only [if_pos h1,if_pos h2]
   rw [Int.add_right_comm,mn,mx]
  ·simp only [if_pos h1,if_neg h2]
 ·simp only [if_neg h1]
theorem zeq (w h:Nat)(xs:List Int)(x y v p:Int)(T:List Int)(t t':Nat)(s:S3):qi w h xs x y v p T t (qi w h xs x y v p T t' s)=qi w h xs x y v p T t' (qi w h xs x y v p T t s):=by
 unfold qi
 rw [z5x w h xs x y v p T t t' (-1) 1,z5x w h xs x y v p T t t' 1 1,z5x w h xs x y v p T t t' (-1) (-1),z5x w h xs x y v p T t t' 1 (-1)]
theorem zon (w h:Nat)(xs:List Int)(x y v p:Int)(T:List Int):z3k w h xs x y v p T 6=qi w h xs x y v p T 4 (qi w h xs x y v p T 5 (qi w h xs x y v p T 3 (qi w h xs x y v p T 1 (qi w h xs x y v p T 2 (qi w h xs x y v p T 0 ⟨0,v,v⟩))))):=by
 have st:∀ t,z3k w h xs x y v p T (t+1)=qi w h xs x y v p T t (z3k w h xs x y v p T t):=fun t=>by
  show z0y w h xs x y v p T t (-1) (z0y w h xs x y v p T t 1 _)=_
  rw [z5x];rfl
 rw [st 5,st 4,st 3,st 2,st 1,st 0,zeq w h xs x y v p T 5 4,zeq w h xs x y v p T 2 1]
 rfl
theorem zbh (lo d:Nat)(M:Mem)(hd:d≤15):Ac P T lo F.z90 [.int .i64 d] M fun r=>∃ M',Pre M M'∧r=(.agg ⟨[.int .i64 (je.getD (d % 8*4) 0),.int .i64 (je.getD (d % 8*4+1) 0),.int .i64 (je.getD (d % 8*4+2) 0),.int .i64 (je.getD (d % 8*4+3) 0)]⟩,M'):=by
 have tm:Int.tmod (d:Int) 8=((d % 8:Nat):Int):=rfl
 have b1:Buf M (M ++ [⟨.fx,je.map (Value.int .i64)⟩]:Mem) ⟨M.length,0,none⟩ (je.map (Value.int .i64)):=Buf.push (Pre.refl _)
 have ld:∀ i,i < 32→((M ++ [⟨.fx,je.map (Value.int .i64)⟩]:Mem).ld (plus ⟨M.length,0,none⟩ i)).bind (Value.int? .i64)=some (je.getD i 0):=fun i hi=>by
  rw [b1.cell (show i < (je.map (Value.int .i64)).length from hi)]
  exact z3j hi
 simp only [je,List.map_cons,List.map_nil] at ld
 refine Ac.of (Evp.of_eq (fun k=>z90.entry k ..) ?_)
 rw [tm]
 refine Evp.pos (by omega) ?_
 simp only [Int.toNat_natCast,z2v]
 refine Evp.some (ld (d % 8*4) (by omega)) (Evp.some (ld (d % 8*4+1) (by omega)) (Evp.some (ld (d % 8*4+2) (by omega)) (Evp.some (ld (d % 8*4+3) (by omega)) ?_)))
 exact Evp.ret (Run.ret ⟨_,Pre.app _ _,rfl⟩)
section
variable (lo:Nat)(w h:Nat)(A:Option Addr)(cap:Nat)(xs T:List Int)(x y:Nat)(p:Int)(M0:Mem)(a:Addr)
variable (hlo:lo≤M0.length)(hx:RdI M0 .u8 A xs)(bx:zh xs)(hT:zbo T)(hw:1≤w∧w≤512)(hh:1≤h∧h≤512)(hl:xs.length=h*w)(hxw:x < w)(hyh:y < h)
include hlo hx bx hT hw hh hl hxw hyh
theorem zjd (v:Int)(hv:0≤v∧v≤255)(t:Nat)(ht:t < 6)(way:Int)(hway:way=1∨way=-1)(n:Nat)(hn:n≤12)(s:S3)(hs:S3B v n s)(M:Mem)(hp:Pre M0 M)(hb:Buf M0 M a (z5w w h A xs.length cap x y s))(Q:Value × Mem→Prop)
  (next:∀ M',Pre M0 M'→Buf M0 M' a (z5w w h A xs.length cap x y (z0y w h xs x y v p T t way s))→Run P Zt.T lo F.zp (zp.Cb a (tS T t) p (tM T t) v way (tR T t) (tC T t) M') Q) :
  Run P Zt.T lo F.zp (zp.Ca a (tS T t) p (tM T t) v way (tR T t) (tC T t) M) Q:=by
 obtain ⟨⟨r1,r2⟩,⟨c1,c2⟩,m1,m2⟩:=hT.2 t ht
 obtain ⟨a1,a2,a3,a4,a5,a6⟩:=hs
 have wr : -2≤way*tR T t∧way*tR T t≤2:=by rcases hway with rfl | rfl <;> omega
 have wc : -2≤way*tC T t∧way*tC T t≤2:=by rcases hway with rfl | rfl <;> omega
 have sm:h*w≤512*512:=Nat.mul_le_mul hh.2 hw.2
 have g0:M.ld a=some (.int .i64 w):=hb.cell (i:=0) (by show 0 < 8;decide)
 have g1:M.ld (plus a 1)=some (.int .i64 h):=hb.cell (i:=1) (by show 1 < 8;decide)
 have g2:M.ld (plus a 2)=some (.slice A xs.length cap):=hb.cell (i:=2) (by show 2 < 8;decide)
 have g3:M.ld (plus a 3)=some (.int .i64 x):=hb.cell (i:=3) (by show 3 < 8;decide)
 have g4:M.ld (plus a 4)=some (.int .i64 y):=hb.cell (i:=4) (by show 4 < 8;decide)
 have g5:(if (plus a 5).block < M.length then M.ld (plus a 5) else none)=some (.int .i64 s.sum):=by rw [if_pos (show (plus a 5).block < M.length from hb.in_)];exact hb.cell (i:=5) (by show 5 < 8;decide)
 refine kut (fun k=>zp.Pa k ..) ?_
 refine Evp.dec (fun _=>?_) fun g=>absurd g (by omega)
 rw [g0,g1,g2,g3,g4,g5]
 refine Evp.some rfl (Evp.some rfl ?_)
 rw [w64 (x:=way*tC T t) (by omega),w64 (x:=way*tR T t) (by omega),w64 (x:=(x:Int)+way*tC T t) (by omega),w64 (x:=(y:Int)+way*tR T t) (by omega)]
 have no:¬ inP w h ((x:Int)+way*tC T t) ((y:Int)+way*tR T t)→Evp (fun k=>some (zp.Cb a (tS T t) p (tM T t) v way (tR T t) (tC T t) M)) fun out=>Run P Zt.T lo F.zp out Q:=fun g=>Evp.ret (next M hp (by unfold z0y;rw [if_neg g];exact hb))
 refine Evp.dec (fun g=>no fun e=>by have:=e.1.1;omega) fun k1=>?_
 refine Evp.dec (fun g=>no fun e=>by have:=e.2.1;omega) fun k2=>?_
 refine Evp.some rfl (Evp.dec (fun g=>no fun e=>by have:=e.1.2;omega) fun k3=>?_)
 refine Evp.some rfl (Evp.dec (fun g=>no fun e=>by have:=e.2.2;omega) fun k4=>?_)
 have hin:inP w h ((x:Int)+way*tC T t) ((y:Int)+way*tR T t):=⟨⟨by omega,by omega⟩,by omega,by omega⟩
 have nx:=fun M' p' b'=>next M' p' (by unfold z0y;rw [if_pos hin];exact b')
 unfold atP at nx
 clear no next
 generalize (x:Int)+way*tC T t=cx at *
 generalize (y:Int)+way*tR T t=cy at *
 obtain ⟨X,rfl⟩:=Int.eq_ofNat_of_zero_le (a:=cx) (by omega)
 obtain ⟨Y,rfl⟩:=Int.eq_ofNat_of_zero_le (a:=cy) (by omega)
 have hlt:Y*w+X < h*w:=by
  have:(Y+1)*w≤h*w:=Nat.mul_le_mul_right w (by omega)
  rw [Nat.add_mul,Nat.one_mul] at this
  omega
 have ei:i64.wrap ((i64.wrap ((Y:Int)*w))+(X:Int))=((Y*w+X:Nat):Int):=by
  rw [← Int.natCast_mul,w64 (x:=((Y*w:Nat):Int)) (by omega),w64 (by omega)];omega
 have en:((Y:Int)*w+X).toNat=Y*w+X:=by rw [← Int.natCast_mul];omega
 rw [en] at nx
 refine Evp.some rfl (Evp.some rfl ?_)
 dsimp only
 rw [ei]
 refine Evp.pos (by omega) ?_
 simp only [Int.toNat_natCast]
 refine Evp.ldI (hx.pre hp) (by omega) fun _ _=>?_
 refine Evp.some rfl ?_
 have bb:=bx.get (Y*w+X)
 rw [w64 (x:=xs.getD (Y*w+X) 0) (by omega),w64 (x:=xs.getD (Y*w+X) 0 - v) (by omega)]
 refine Evp.ob (zgn M.length _ _ _ M) ?_
 rintro _ rfl
 simp only [RD,RE,Nat.reduceAdd,Nat.reduceLT]
 have l:=zdn (xs.getD (Y*w+X) 0 - v) (tS T t) p
 have ml:=ks (a:=tM T t) (b:=z04 (xs.getD (Y*w+X) 0 - v) (tS T t) p) (A:=4) (B:=1048576) (by omega) (by omega)
 rw [w64 (x:=tM T t*z04 (xs.getD (Y*w+X) 0 - v) (tS T t) p) (by omega),w64 (x:=s.sum+tM T t*z04 (xs.getD (Y*w+X) 0 - v) (tS T t) p) (by omega)]
 obtain ⟨M1,h1,b1,p1,_,_⟩:=hb.st (lo:=lo) (i:=5) (vs:=[.int .i64 (s.sum+tM T t*z04 (xs.getD (Y*w+X) 0 - v) (tS T t) p)]) hp hlo (by show 6≤8;decide)
 refine Evp.some h1 ?_
 rw [jf] at b1
 have q6:M1.ld (plus a 6)=some (.int .i64 s.low):=b1.cell (i:=6) (by show 6 < 8;decide)
 rw [q6]
 refine Evp.some rfl ?_
 obtain ⟨M2,h2,b2,p2,_,_⟩:=b1.st (lo:=lo) (i:=6) (vs:=[.int .i64 (zq s.low (xs.getD (Y*w+X) 0))]) p1 hlo (by show 7≤8;decide)
 refine Evp.some h2 ?_
 rw [jf] at b2
 have q7:M2.ld (plus a 7)=some (.int .i64 s.top):=b2.cell (i:=7) (by show 7 < 8;decide)
 rw [q7]
 refine Evp.some rfl ?_
 obtain ⟨M3,h3,b3,p3,_,_⟩:=b2.st (lo:=lo) (i:=7) (vs:=[.int .i64 (yv s.top (xs.getD (Y*w+X) 0))]) p2 hlo (by show 8≤8;decide)
 refine Evp.some h3 ?_
 rw [jf] at b3
 exact Evp.ret (nx M3 p3 b3)
theorem zrk (v:Int)(ev:v=atP w xs x y)(t:Nat)(ht:t < 6)(n:Nat)(hn:n≤10)(s:S3)(hs:S3B v n s)(M:Mem)(hp:Pre M0 M)(hb:Buf M0 M a (z5w w h A xs.length cap x y s)):Ac P Zt.T lo F.zp [.pointer (some a),.agg ⟨[.int .i64 (tR T t),.int .i64 (tC T t)]⟩,.int .i64 (tS T t),.int .i64 p,.int .i64 (tM T t)] M fun r=>∃ M',r=(.tuple ⟨[]⟩,M')∧Pre M0 M'∧Buf M0 M' a (z5w w h A xs.length cap x y (qi w h xs x y v p T t s)):=by
 have sm:h*w≤512*512:=Nat.mul_le_mul hh.2 hw.2
 have hlt:y*w+x < h*w:=by
  have:(y+1)*w≤h*w:=Nat.mul_le_mul_right w (by omega)
  rw [Nat.add_mul,Nat.one_mul] at this
  omega
 have ei:i64.wrap ((i64.wrap ((y:Int)*w))+(x:Int))=((y*w+x:Nat):Int):=by
  rw [← Int.natCast_mul,w64 (x:=((y*w:Nat):Int)) (by omega),w64 (by omega)];omega
 have en:v=xs.getD (y*w+x) 0:=by
  rw [ev];unfold atP
  rw [show ((y:Int)*w+x).toNat=y*w+x by rw [← Int.natCast_mul];omega]
 have bb:=bx.get (y*w+x)
 have hv:0≤v∧v≤255:=by omega
 have g0:M.ld a=some (.int .i64 w):=hb.cell (i:=0) (by show 0 < 8;decide)
 have g2:M.ld (plus a 2)=some (.slice A xs.length cap):=hb.cell (i:=2) (by show 2 < 8;decide)
 have g3:M.ld (plus a 3)=some (.int .i64 x):=hb.cell (i:=3) (by show 3 < 8;decide)
 have g4:M.ld (plus a 4)=some (.int .i64 y):=hb.cell (i:=4) (by show 4 < 8;decide)
 refine Ac.of (Evp.of_eq (fun k=>zp.entry k ..) ?_)
 rw [g0,g2,g3,g4]
 refine Evp.some rfl (Evp.some rfl (Evp.some rfl (Evp.some rfl ?_)))
 dsimp only
 rw [ei]
 refine Evp.pos (by omega) ?_
 simp only [Int.toNat_natCast]
 refine Evp.ldI (hx.pre hp) (by omega) fun _ _=>?_
 rw [w64 (by omega),← en]
 refine Evp.ret (zjd lo w h A cap xs T x y p M0 a hlo hx bx hT hw hh hl hxw hyh v hv t ht (-1) (.inr rfl) n (by omega) s hs M hp hb _ fun M1 p1 b1=>?_)
 refine kut (fun k=>zp.Pb k ..) ?_
 refine Evp.ret (zjd lo w h A cap xs T x y p M0 a hlo hx bx hT hw hh hl hxw hyh v hv t ht 1 (.inl rfl) (n+1) (by omega) _ (zah bx hT ht hs) M1 p1 b1 _ fun M2 p2 b2=>?_)
 refine kut (fun k=>zp.Pb k ..) ?_
 refine Evp.ret ?_
 refine kut (fun k=>zp.Pa k ..) ?_
 exact Evp.dec (fun g=>absurd g (by decide)) fun _=>Evp.ret (Run.ret ⟨M2,rfl,p2,b2⟩)
end
theorem z4q {w h:Nat}{xs:List Int}(bx:zh xs){x y v p:Int}{T:List Int}(hT:zbo T){t:Nat}(ht:t < 6){n:Nat}{s:S3}(hs:S3B v n s):S3B v (n+2) (qi w h xs x y v p T t s):=
 zah bx hT ht (zah bx hT ht hs)
theorem zoo {dir pri sec k:Nat}(hd:dir < 8)(hk:k < 2) :
  (tR (jc dir pri sec) (3*k)=je.getD (dir % 8*4+k*2) 0∧tC (jc dir pri sec) (3*k)=je.getD (dir % 8*4+k*2+1) 0∧tS (jc dir pri sec) (3*k)=pri∧tM (jc dir pri sec) (3*k)=vg pri k) ∧
  (tR (jc dir pri sec) (3*k+1)=je.getD ((dir+2) % 8*4+k*2) 0∧tC (jc dir pri sec) (3*k+1)=je.getD ((dir+2) % 8*4+k*2+1) 0∧tS (jc dir pri sec) (3*k+1)=sec∧tM (jc dir pri sec) (3*k+1)=2 - (k:Int)) ∧
  (tR (jc dir pri sec) (3*k+2)=je.getD ((dir+6) % 8*4+k*2) 0∧tC (jc dir pri sec) (3*k+2)=je.getD ((dir+6) % 8*4+k*2+1) 0∧tS (jc dir pri sec) (3*k+2)=sec∧tM (jc dir pri sec) (3*k+2)=2 - (k:Int)):=by
 rw [Nat.mod_eq_of_lt hd]
 have:k=0∨k=1:=by omega
 rcases this with rfl | rfl
 ·exact ⟨⟨rfl,rfl,rfl,rfl⟩,⟨rfl,rfl,rfl,rfl⟩,rfl,rfl,rfl,rfl⟩
 ·exact ⟨⟨rfl,rfl,rfl,rfl⟩,⟨rfl,rfl,rfl,rfl⟩,rfl,rfl,rfl,rfl⟩
theorem z2x (d k:Nat)(hk:k < 2) :
  (([.int .i64 (je.getD (d % 8*4) 0),.int .i64 (je.getD (d % 8*4+1) 0),.int .i64 (je.getD (d % 8*4+2) 0),.int .i64 (je.getD (d % 8*4+3) 0)]:List Value)[k*2+0]?).bind (Value.int? .i64)=some (je.getD (d % 8*4+k*2) 0) ∧
  (([.int .i64 (je.getD (d % 8*4) 0),.int .i64 (je.getD (d % 8*4+1) 0),.int .i64 (je.getD (d % 8*4+2) 0),.int .i64 (je.getD (d % 8*4+3) 0)]:List Value)[k*2+1]?).bind (Value.int? .i64)=some (je.getD (d % 8*4+k*2+1) 0):=by
 have:k=0∨k=1:=by omega
 rcases this with rfl | rfl
 ·exact ⟨rfl,rfl⟩
 ·exact ⟨rfl,rfl⟩
section
variable (lo:Nat)(w h:Nat)(A:Option Addr)(cap:Nat)(xs:List Int)(x y:Nat)(p:Int)(M0:Mem)(dir pri sec:Nat)
variable (hlo:lo≤M0.length)(hx:RdI M0 .u8 A xs)(bx:zh xs)(hw:1≤w∧w≤512)(hh:1≤h∧h≤512)(hl:xs.length=h*w)(hxw:x < w)(hyh:y < h)(hd:dir < 8)
include hlo hx bx hw hh hl hxw hyh hd
theorem zqe (a:Addr)(v:Int)(ev:v=atP w xs x y)(k:Nat)(hk:k < 2)(s:S3)(hs:S3B v (6*k) s)(M:Mem)(hp:Pre M0 M)(hb:Buf M0 M a (z5w w h A xs.length cap x y s))(Q:Value × Mem→Prop)
  (next:∀ M',Pre M0 M'→Buf M0 M' a (z5w w h A xs.length cap x y (qi w h xs x y v p (jc dir pri sec) (3*k+1) (qi w h xs x y v p (jc dir pri sec) (3*k+2) (qi w h xs x y v p (jc dir pri sec) (3*k) s)))) →
   Run P Zt.T lo F.zr (zr.Cb dir pri sec p v a ((k+1:Nat):Int) M') Q) :
  Run P Zt.T lo F.zr (zr.Cc dir pri sec p v a k (vg pri k) M) Q:=by
 have hT:=zaj (dir:=dir) (pri:=pri) (sec:=sec) hd
 obtain ⟨⟨r0,c0,s0,m0⟩,⟨r1,c1,s1,m1⟩,r2,c2,s2,m2⟩:=zoo (pri:=pri) (sec:=sec) hd hk
 have asks:=fun (t:Nat) (ht:t < 6)=>zrk lo w h A cap xs (jc dir pri sec) x y p M0 a hlo hx bx hT hw hh hl hxw hyh v ev t ht
 refine kut (fun k=>zr.Pc k ..) ?_
 refine Evp.ob (zbh lo dir M (by omega)) ?_
 rintro _ ⟨M1,p1,rfl⟩
 simp only [RD,RE,Nat.reduceAdd,Nat.reduceLT]
 refine Evp.pos (by omega) ?_
 simp only [Int.toNat_natCast]
 refine Evp.some (z2x dir k hk).1 (Evp.some (z2x dir k hk).2 ?_)
 have A0:=asks (3*k) (by omega) (6*k) (by omega) s hs M1 (hp.trans p1) (hb.pre p1)
 rw [r0,c0,s0,m0] at A0
 refine Evp.ob A0 ?_
 rintro _ ⟨M2,rfl,p2,b2⟩
 have e2:=z4q (w:=w) (h:=h) bx (x:=x) (y:=y) (p:=p) hT (t:=3*k) (by omega) hs
 generalize qi w h xs x y v p (jc dir pri sec) (3*k) s=q2 at *
 simp only [RD,RE,Nat.reduceAdd,Nat.reduceLT]
 rw [w64 (x:=(dir:Int)+6) (by omega),show (dir:Int)+6=((dir+6:Nat):Int) by omega]
 refine Evp.ob (zbh lo (dir+6) M2 (by omega)) ?_
 rintro _ ⟨M3,p3,rfl⟩
 simp only [RD,RE,Nat.reduceAdd,Nat.reduceLT]
 refine Evp.pos (by omega) ?_
 refine Evp.some (z2x (dir+6) k hk).1 (Evp.some (z2x (dir+6) k hk).2 ?_)
 rw [w64 (x:=2 - (k:Int)) (by omega)]
 have A1:=asks (3*k+2) (by omega) (6*k+2) (by omega) q2 e2 M3 (p2.trans p3) (b2.pre p3)
 rw [r2,c2,s2,m2] at A1
 refine Evp.ob A1 ?_
 rintro _ ⟨M4,rfl,p4,b4⟩
 have e4:=z4q (w:=w) (h:=h) bx (x:=x) (y:=y) (p:=p) hT (t:=3*k+2) (by omega) e2
 generalize qi w h xs x y v p (jc dir pri sec) (3*k+2) q2=q4 at *
 simp only [RD,RE,Nat.reduceAdd,Nat.reduceLT]
 rw [w64 (x:=(dir:Int)+2) (by omega),show (dir:Int)+2=((dir+2:Nat):Int) by omega]
 refine Evp.ob (zbh lo (dir+2) M4 (by omega)) ?_
 rintro _ ⟨M5,p5,rfl⟩
 simp only [RD,RE,Nat.reduceAdd,Nat.reduceLT]
 refine Evp.pos (by omega) ?_
 refine Evp.some (z2x (dir+2) k hk).1 (Evp.some (z2x (dir+2) k hk).2 ?_)
 have A2:=asks (3*k+1) (by omega) (6*k+4) (by omega) q4 e4 M5 (p4.trans p5) (b4.pre p5)
 rw [r1,c1,s1,m1] at A2
 refine Evp.ob A2 ?_
 rintro _ ⟨M6,rfl,p6,b6⟩
 simp only [RD,RE,Nat.reduceAdd,Nat.reduceLT]
 rw [w64 (x:=(k:Int)+1) (by omega)]
 exact Evp.ret (next M6 p6 b6)
theorem zkt:Ac P Zt.T lo F.zr [.agg ⟨[.int .i64 w,.int .i64 h,.slice A xs.length cap]⟩,.int .i64 x,.int .i64 y,.agg ⟨[.int .i64 dir,.int .i64 pri,.int .i64 sec,.int .i64 p]⟩] M0 fun r=>∃ M',r=(.int .u8 (z3l w h xs x y p (jc dir pri sec)),M')∧Pre M0 M':=by
 have hT:=zaj (dir:=dir) (pri:=pri) (sec:=sec) hd
 have sm:h*w≤512*512:=Nat.mul_le_mul hh.2 hw.2
 have hlt:y*w+x < h*w:=by
  have:(y+1)*w≤h*w:=Nat.mul_le_mul_right w (by omega)
  rw [Nat.add_mul,Nat.one_mul] at this
  omega
 have ei:i64.wrap ((i64.wrap ((y:Int)*w))+(x:Int))=((y*w+x:Nat):Int):=by
  rw [← Int.natCast_mul,w64 (x:=((y*w:Nat):Int)) (by omega),w64 (by omega)];omega
 have en:atP w xs x y=xs.getD (y*w+x) 0:=by
  unfold atP
  rw [show ((y:Int)*w+x).toNat=y*w+x by rw [← Int.natCast_mul];omega]
 have bb:=bx.get (y*w+x)
 refine Ac.of (Evp.of_eq (fun k=>zr.entry k ..) ?_)
 rw [ei]
 refine Evp.pos (by omega) ?_
 simp only [Int.toNat_natCast]
 refine Evp.ldI hx (by omega) fun _ _=>?_
 rw [w64 (by omega),← en]
 have hv:0≤atP w xs x y∧atP w xs x y≤255:=by rw [en];exact bb
 obtain ⟨v,ev⟩:∃ v,v=atP w xs x y:=⟨_,rfl⟩
 have hs0:z3l w h xs x y p (jc dir pri sec)=z47 v (z3k w h xs x y v p (jc dir pri sec) 6):=by rw [ev];rfl
 rw [← ev] at hv ⊢
 rw [hs0,zon]
 have b0:Buf M0 (M0 ++ [⟨.fx,z5w w h A xs.length cap x y ⟨0,v,v⟩⟩]:Mem) ⟨M0.length,0,none⟩ (z5w w h A xs.length cap x y ⟨0,v,v⟩):=Buf.push (Pre.refl _)
 have sb0:S3B v 0 ⟨0,v,v⟩:=⟨by simp,by simp,hv.1,Int.le_refl _,Int.le_refl _,hv.2⟩
 have turn:∀ (k:Nat) (a:Addr) (s:S3) (M:Mem) (Q:Value × Mem→Prop),k < 2→S3B v (6*k) s→Pre M0 M→Buf M0 M a (z5w w h A xs.length cap x y s) →
   (∀ M',Pre M0 M'→Buf M0 M' a (z5w w h A xs.length cap x y (qi w h xs x y v p (jc dir pri sec) (3*k+1) (qi w h xs x y v p (jc dir pri sec) (3*k+2) (qi w h xs x y v p (jc dir pri sec) (3*k) s)))) →
    Run P Zt.T lo F.zr (zr.Cb dir pri sec p v a ((k+1:Nat):Int) M') Q) →
   Run P Zt.T lo F.zr (zr.Cb dir pri sec p v a (k:Int) M) Q:=fun k a s M Q hk hs hp hb next=>by
  have H:=zqe lo w h A cap xs x y p M0 dir pri sec hlo hx bx hw hh hl hxw hyh hd a v ev k hk s hs M hp hb Q next
  have tm:Int.tmod (pri:Int) 2=((pri % 2:Nat):Int):=rfl
  have e2:i64.wrap (4 - i64.wrap (2*(k:Int)))=4 - 2*(k:Int):=by rw [w64 (x:=2*(k:Int)) (by omega),w64 (by omega)]
  refine kut (fun k=>zr.Pb k ..) ?_
  rw [tm,e2]
  refine Evp.dec (fun _=>?_) fun g=>absurd g (by omega)
  refine Evp.eqb (fun g=>Evp.ret ?_) fun g=>Evp.ret ?_
  ·have:vg pri k=3:=by unfold vg;rw [if_pos (by omega)]
   rw [this] at H
   exact H
  ·have:vg pri k=4 - 2*(k:Int):=by
    unfold vg
    rw [if_neg (by omega)]
    split <;> omega
   rw [this] at H
   exact H
 refine Evp.ret (turn 0 _ _ _ _ (by omega) sb0 (Pre.app _ _) b0 fun M1 p1 b1=>?_)
 have sb1:=z4q (w:=w) (h:=h) bx (x:=x) (y:=y) (p:=p) hT (t:=1) (by omega) (z4q (w:=w) (h:=h) bx (x:=x) (y:=y) (p:=p) hT (t:=2) (by omega) (z4q (w:=w) (h:=h) bx (x:=x) (y:=y) (p:=p) hT (t:=0) (by omega) sb0))
 refine turn 1 _ _ _ _ (by omega) sb1 p1 b1 fun M2 p2 b2=>?_
 have sb2:=z4q (w:=w) (h:=h) bx (x:=x) (y:=y) (p:=p) hT (t:=4) (by omega) (z4q (w:=w) (h:=h) bx (x:=x) (y:=y) (p:=p) hT (t:=5) (by omega) (z4q (w:=w) (h:=h) bx (x:=x) (y:=y) (p:=p) hT (t:=3) (by omega) sb1))
 have b2:Buf M0 M2 ⟨M0.length,0,none⟩ (z5w w h A xs.length cap x y (qi w h xs x y v p (jc dir pri sec) 4 (qi w h xs x y v p (jc dir pri sec) 5 (qi w h xs x y v p (jc dir pri sec) 3 (qi w h xs x y v p (jc dir pri sec) 1 (qi w h xs x y v p (jc dir pri sec) 2 (qi w h xs x y v p (jc dir pri sec) 0 ⟨0,v,v⟩))))))):=b2
 generalize qi w h xs x y v p (jc dir pri sec) 4 (qi w h xs x y v p (jc dir pri sec) 5 (qi w h xs x y v p (jc dir pri sec) 3 (qi w h xs x y v p (jc dir pri sec) 1 (qi w h xs x y v p (jc dir pri sec) 2 (qi w h xs x y v p (jc dir pri sec) 0 ⟨0,v,v⟩)))))=s at *
 have g5:M2.ld (plus ⟨M0.length,0,none⟩ 5)=some (.int .i64 s.sum):=b2.cell (i:=5) (by show 5 < 8;decide)
 have g6:M2.ld (plus ⟨M0.length,0,none⟩ 6)=some (.int .i64 s.low):=b2.cell (i:=6) (by show 6 < 8;decide)
 have g7:M2.ld (plus ⟨M0.length,0,none⟩ 7)=some (.int .i64 s.top):=b2.cell (i:=7) (by show 7 < 8;decide)
 have ol:=zgz sb2
 obtain ⟨a1,a2,a3,a4,a5,a6⟩:=sb2
 have last:∀ q:Int,(0≤q∧q≤1)→s.sum - q=(if s.sum < 0 then s.sum - 1 else s.sum)→Run P Zt.T lo F.zr (zr.Ca v ⟨M0.length,0,none⟩ q M2) fun r=>∃ M',r=(.int .u8 (z47 v s),M')∧Pre M0 M':=fun q hq he=>by
  refine kut (fun k=>zr.Pa k ..) ?_
  rw [g5,g6,g7]
  refine Evp.some rfl (Evp.some rfl (Evp.some rfl ?_))
  rw [w64 (x:=8+s.sum) (by omega),w64 (x:=8+s.sum - q) (by omega),ud 4 (by omega),show ((2:Int) ^ 4)=16 from rfl,w64 (by omega)]
  refine Evp.ob (vp lo _ _ _ M2) ?_
  rintro _ rfl
  simp only [RD,RE,Nat.reduceAdd,Nat.reduceLT]
  refine Evp.ret (Run.ret ⟨M2,?_,p2⟩)
  have:y8 (v+(8+s.sum - q) / 16) s.low s.top=z47 v s:=by
   unfold z47
   rw [← he,show 8+s.sum - q=8+(s.sum - q) by omega]
  rw [this,wu8 (by omega)]
 refine kut (fun k=>zr.Pb k ..) ?_
 refine Evp.dec (fun g=>absurd g (by decide)) fun _=>?_
 rw [g5]
 refine Evp.some rfl (Evp.dec (fun g=>Evp.ret (last 1 (by omega) (by rw [if_pos g]))) fun g=>Evp.ret (last 0 (by omega) (by rw [if_neg g];omega)))
end
theorem zku (lo:Nat)(w h:Int)(A:Option Addr)(n c:Nat)(x y rw' rh:Int)(M:Mem)(hw:1≤w∧w≤512)(hh:1≤h∧h≤512)(h1:1≤rw'∧rw'≤64)(h2:1≤rh∧rh≤64) :
  Ac P T lo F.z3q [.agg ⟨[.int .i64 w,.int .i64 h,.slice A n c]⟩,.agg ⟨[.int .i64 x,.int .i64 y,.int .i64 rw',.int .i64 rh]⟩] M fun r=>r=(.bool (decide ((0≤x∧x≤w - rw')∧(0≤y∧y≤h - rh))),M):=by
 have no:¬ ((0≤x∧x≤w - rw')∧(0≤y∧y≤h - rh))→Evp (fun k=>some (.ret (.bool false) M)) fun out=>Run P T lo F.z3q out fun r=>r=(.bool (decide ((0≤x∧x≤w - rw')∧(0≤y∧y≤h - rh))),M):=fun g=>Evp.ret (Run.ret (by rw [decide_eq_false g]))
 refine Ac.of (Evp.of_eq (fun k=>z3q.entry k ..) ?_)
 rw [w64 (x:=w - rw') (by omega),w64 (x:=h - rh) (by omega)]
 refine Evp.dec (fun _=>?_) fun g=>absurd h1.1 g
 refine Evp.dec (fun _=>?_) fun g=>absurd h2.1 g
 refine Evp.dec (fun g3=>?_) fun g=>no fun e=>g e.1.1
 refine Evp.dec (fun g4=>?_) fun g=>no fun e=>g e.2.1
 refine Evp.dec (fun g5=>?_) fun g=>no fun e=>by omega
 refine Evp.dec (fun g6=>?_) fun g=>no fun e=>by omega
 refine Evp.dec (fun g7=>?_) fun g=>no fun e=>g e.1.2
 refine Evp.ret (Run.ret ?_)
 congr 2
 exact decide_eq_decide.2 ⟨fun e=>⟨⟨g3,g7⟩,g4,e⟩,fun e=>e.2.2⟩
section
variable (lo:Nat)(A:Option Addr)(c:Nat)(xs:List Int)(w h:Int)(x y rw' rh dir pri sec p:Int)(M:Mem)(hlo:lo≤M.length)(hx:RdI M .u8 A xs)(bx:zh xs)
include hlo hx bx
theorem zmx:Ac P T lo F.yb [.agg ⟨[.int .i64 w,.int .i64 h,.slice A xs.length c]⟩,.agg ⟨[.int .i64 x,.int .i64 y,.int .i64 rw',.int .i64 rh]⟩,.int .i64 dir,.int .i64 pri,.int .i64 sec,.int .i64 p] M (zco M w h xs x y rw' rh dir pri sec p):=by
 have bad:¬ z2y w h xs.length x y rw' rh dir pri sec p→Run P T lo F.yb (.ret (.tuple ⟨[.slice none 0 0,.int .i64 2]⟩) M) (zco M w h xs x y rw' rh dir pri sec p):=fun hno=>Run.ret ⟨Pre.refl _,by rw [if_neg hno]⟩
 refine Ac.of (Evp.of_eq (fun k=>yb.entry k ..) ?_)
 refine Evp.ob (z11 ..) ?_
 rintro _ rfl
 simp only [RD,RE,Nat.reduceAdd,Nat.reduceLT]
 refine Evp.neb (fun g=>Evp.ret (bad fun e=>g e.1)) fun k1=>?_
 have s1:=zy k1
 refine Evp.dec (fun g=>Evp.ret (bad fun e=>by have:=e.2.1;omega)) fun k2=>?_
 refine Evp.dec (fun g=>Evp.ret (bad fun e=>by have:=e.2.1;omega)) fun k2'=>?_
 refine Evp.dec (fun g=>Evp.ret (bad fun e=>by have:=e.2.2.1;omega)) fun k3=>?_
 refine Evp.dec (fun g=>Evp.ret (bad fun e=>by have:=e.2.2.1;omega)) fun k3'=>?_
 refine Evp.ob (zku lo w h A xs.length c x y rw' rh M (by omega) (by omega) (by omega) (by omega)) ?_
 rintro _ rfl
 simp only [RD,RE,Nat.reduceAdd,Nat.reduceLT]
 refine Evp.nb (fun g=>Evp.ret (bad fun e=>of_decide_eq_false g ⟨e.2.2.2.1,e.2.2.2.2.1⟩)) fun k0=>?_
 obtain ⟨k4,k5⟩:=of_decide_eq_true k0
 refine Evp.dec (fun g=>Evp.ret (bad fun e=>by have:=e.2.2.2.2.2.1;omega)) fun k6=>?_
 refine Evp.dec (fun g=>Evp.ret (bad fun e=>by have:=e.2.2.2.2.2.1;omega)) fun k6'=>?_
 refine Evp.dec (fun g=>Evp.ret (bad fun e=>by have:=e.2.2.2.2.2.2.1;omega)) fun k7=>?_
 refine Evp.dec (fun g=>Evp.ret (bad fun e=>by have:=e.2.2.2.2.2.2.1;omega)) fun k7'=>?_
 refine Evp.dec (fun g=>Evp.ret (bad fun e=>by have:=e.2.2.2.2.2.2.2.1;omega)) fun k8=>?_
 refine Evp.dec (fun g=>Evp.ret (bad fun e=>by have:=e.2.2.2.2.2.2.2.1;omega)) fun k8'=>?_
 refine Evp.dec (fun g=>Evp.ret (bad fun e=>by have:=e.2.2.2.2.2.2.2.2;omega)) fun k9=>?_
 refine Evp.dec (fun g=>Evp.ret (bad fun e=>by have:=e.2.2.2.2.2.2.2.2;omega)) fun k9'=>?_
 have ok:z2y w h xs.length x y rw' rh dir pri sec p:=⟨k1,by omega,by omega,k4,k5,by omega,by omega,by omega,by omega⟩
 obtain ⟨w,rfl⟩:=Int.eq_ofNat_of_zero_le (a:=w) (by omega)
 obtain ⟨h,rfl⟩:=Int.eq_ofNat_of_zero_le (a:=h) (by omega)
 obtain ⟨X,rfl⟩:=Int.eq_ofNat_of_zero_le k4.1
 obtain ⟨Y,rfl⟩:=Int.eq_ofNat_of_zero_le k5.1
 obtain ⟨W,rfl⟩:=Int.eq_ofNat_of_zero_le (a:=rw') (by omega)
 obtain ⟨H,rfl⟩:=Int.eq_ofNat_of_zero_le (a:=rh) (by omega)
 obtain ⟨dir,rfl⟩:=Int.eq_ofNat_of_zero_le (a:=dir) (by omega)
 obtain ⟨pri,rfl⟩:=Int.eq_ofNat_of_zero_le (a:=pri) (by omega)
 obtain ⟨sec,rfl⟩:=Int.eq_ofNat_of_zero_le (a:=sec) (by omega)
 have n1:xs.length=h*w:=by have:=s1.2.2.2.2;rw [← Int.natCast_mul,Nat.mul_comm] at this;omega
 have sm:W*H≤64*64:=Nat.mul_le_mul (by omega) (by omega)
 obtain ⟨T',hT'⟩:∃ T',T'=jc dir pri sec:=⟨_,rfl⟩
 have rows:∀ (d j:Nat) (B:Option Addr) (cb:Nat) (M2:Mem),H - j=d→j≤H→Pre M M2→j*W≤cb→Grow M M2 1 B (j*W) ((vk w h xs X Y W p T' (j*W)).map (Value.int .u8)) →
   Run P T lo F.yb (yb.Ca dir pri sec p B (j*W) cb ((Y+j:Nat):Int) w h A xs.length c X Y W H M2) fun r=>Pre M r.2∧∃ A c,r.1=.tuple ⟨[.slice A (W*H) c,.int .i64 0]⟩∧W*H≤c∧Grow M r.2 1 A (W*H) ((vk w h xs X Y W p T' (W*H)).map (Value.int .u8)):=by
  intro d
  induction d with
  | zero=>
   intro j B cb M2 hd hj hp hc hg
   obtain rfl:H=j:=by omega
   rw [Nat.mul_comm H W] at hg hc ⊢
   refine kut (fun k=>yb.Pa k ..) ?_
   rw [w64 (x:=(Y:Int)+H) (by omega)]
   exact Evp.dec (fun g=>absurd g (by omega)) fun _=>Evp.ret (Run.ret ⟨hp,B,cb,rfl,hc,hg⟩)
  | succ d ih=>
   intro j B cb M2 hd hj hp hc hg
   have hjH:j < H:=by omega
   have cols:∀ (e i:Nat) (B:Option Addr) (cb:Nat) (M2:Mem),W - i=e→i≤W→Pre M M2→j*W+i≤cb→Grow M M2 1 B (j*W+i) ((vk w h xs X Y W p T' (j*W+i)).map (Value.int .u8)) →
     Run P T lo F.yb (yb.Cb dir pri sec p B (j*W+i) cb ((Y+j:Nat):Int) ((X+i:Nat):Int) w h A xs.length c X Y W H M2) fun r=>Pre M r.2∧∃ A c,r.1=.tuple ⟨[.slice A (W*H) c,.int .i64 0]⟩∧W*H≤c∧Grow M r.2 1 A (W*H) ((vk w h xs X Y W p T' (W*H)).map (Value.int .u8)):=by
    intro e
    induction e with
    | zero=>
     intro i B cb M2 he hi hp hc hg
     obtain rfl:W=i:=by omega
     refine kut (fun k=>yb.Pb k ..) ?_
     rw [w64 (x:=(X:Int)+W) (by omega)]
     refine Evp.dec (fun g=>absurd g (by omega)) fun _=>?_
     rw [w64 (by omega),show ((Y+j:Nat):Int)+1=((Y+(j+1):Nat):Int) by omega]
     rw [show j*W+W=(j+1)*W by rw [Nat.add_mul,Nat.one_mul]] at hg hc ⊢
     exact Evp.ret (ih (j+1) B cb M2 (by omega) (by omega) hp hc hg)
    | succ e ih2=>
     intro i B cb M2 he hi hp hc hg
     have hiW:i < W:=by omega
     have jl:j*W+i < W*H:=by
      have:(j+1)*W≤H*W:=Nat.mul_le_mul_right W (by omega)
      rw [Nat.add_mul,Nat.one_mul,Nat.mul_comm H W] at this
      omega
     have dm:(j*W+i) / W=j∧(j*W+i) % W=i:=by
      rw [Nat.add_comm]
      exact ⟨by rw [Nat.add_mul_div_right i j (by omega),Nat.div_eq_of_lt hiW,Nat.zero_add],by rw [Nat.add_mul_mod_self_right,Nat.mod_eq_of_lt hiW]⟩
     refine kut (fun k=>yb.Pb k ..) ?_
     rw [w64 (x:=(X:Int)+W) (by omega)]
     refine Evp.dec (fun _=>?_) fun g=>absurd g (by omega)
     refine Evp.ob (zkt lo w h A c xs (X+i) (Y+j) p M2 dir pri sec (Nat.le_trans hlo hp.len) (hx.pre hp) bx (by omega) (by omega) n1 (by omega) (by omega) (by omega)) ?_
     rintro _ ⟨M4,rfl,p4⟩
     simp only [RD,RE,Nat.reduceAdd,Nat.reduceLT]
     rw [← hT']
     obtain ⟨⟨sa,sn,sc⟩,M3,e3,g3,hsn,p3,_,k3⟩:=(hg.pre p4).app (lo:=lo) (bytes:=1) (c:=cb) (m:=1) (vs:=[.int .u8 (z3l w h xs ((X+i:Nat):Int) ((Y+j:Nat):Int) p T')]) (hp.trans p4) hlo rfl (by omega) (by omega)
     refine Evp.some e3 ?_
     simp only at hsn g3 k3
     subst hsn
     rw [w64 (by omega),show ((X+i:Nat):Int)+1=((X+(i+1):Nat):Int) by omega]
     refine Evp.ret (ih2 (i+1) sa sc M3 (by omega) (by omega) p3 (k3 hc) ?_)
     rw [show j*W+(i+1)=j*W+i+1 by omega,zb0,dm.1,dm.2,List.map_append]
     exact g3
   refine kut (fun k=>yb.Pa k ..) ?_
   rw [w64 (x:=(Y:Int)+H) (by omega)]
   refine Evp.dec (fun _=>?_) fun g=>absurd g (by omega)
   exact Evp.ret (cols _ 0 B cb M2 rfl (by omega) hp hc hg)
 have R0:=rows H 0 none 0 M rfl (by omega) (Pre.refl _) (by omega) (by rw [Nat.zero_mul];exact Grow.nil)
 rw [Nat.zero_mul,Nat.add_zero] at R0
 refine Evp.ret (R0.mono ?_)
 rintro r ⟨pr,A',c',e,hc,hg⟩
 refine ⟨pr,?_⟩
 rw [if_pos ok]
 simp only [Int.toNat_natCast]
 rw [← hT']
 exact ⟨A',c',e,hc,hg⟩
end
section
variable (lo:Nat)(w h:Int)(A:Option Addr)(n c:Nat)(x y rw rh:Int)(M:Mem)
theorem zi8 (h0:qa w h n=0):Ac P T lo F.z3q [.agg ⟨[.int .i64 w,.int .i64 h,.slice A n c]⟩,.agg ⟨[.int .i64 x,.int .i64 y,.int .i64 rw,.int .i64 rh]⟩] M fun r=>r=(.bool (decide (jr w h x y rw rh)),M):=by
 have no:¬ (jr w h x y rw rh)→Run P T lo F.z3q (.ret (.bool false) M) fun r=>r=(.bool (decide (jr w h x y rw rh)),M):=fun hn=>Run.ret (by rw [decide_eq_false hn])
 have hs:=zy h0
 refine Ac.of (Evp.of_eq (fun k=>z3q.entry k ..) ?_)
 refine Evp.dec (fun h1=>?_) fun h1=>Evp.ret (no fun e=>by unfold jr at e;omega)
 refine Evp.dec (fun h2=>?_) fun h2=>Evp.ret (no fun e=>by unfold jr at e;omega)
 refine Evp.dec (fun h3=>?_) fun h3=>Evp.ret (no fun e=>by unfold jr at e;omega)
 refine Evp.dec (fun h4=>?_) fun h4=>Evp.ret (no fun e=>by unfold jr at e;omega)
 refine Evp.dec (fun h5=>?_) fun h5=>Evp.ret (no fun e=>by unfold jr at e;omega)
 refine Evp.dec (fun h6=>?_) fun h6=>Evp.ret (no fun e=>by unfold jr at e;omega)
 rw [w64 (x:=w - rw) (by omega),w64 (x:=h - rh) (by omega)]
 refine Evp.dec (fun h7=>?_) fun h7=>Evp.ret (no fun e=>by unfold jr at e;omega)
 refine Evp.ret (Run.ret ?_)
 congr 2
 exact decide_eq_decide.2 (by unfold jr;omega)
end
theorem zmy (w:Nat)(xs:List Int)(x y rw n:Nat):v7 w xs x y rw n ++ [xs.getD ((y+n / rw)*w+(x+n % rw)) 0]=v7 w xs x y rw (n+1):=by
 unfold v7
 rw [List.range_succ,List.map_append];rfl
section
variable {w h x y rw rh:Nat}{xs:List Int}{A:Option Addr}{c:Nat}{lo:Nat}{M0:Mem}{Q:Value × Mem→Prop}
theorem zqf (hlo:lo≤M0.length)(hr:RdI M0 .u8 A xs)(hw:w≤512)(hh:h≤512)(hn:xs.length=w*h)(hr1:1≤rw)(hx:x+rw≤w)(hy:y+rh≤h)(i:Nat)(hi:i < rh)
  (hnext:∀ M B cc,Pre M0 M→(i+1)*rw≤cc→Grow M0 M 1 B ((i+1)*rw) ((v7 w xs x y rw ((i+1)*rw)).map (Value.int .u8))→Run P T lo F.yi (yi.Ca B ((i+1)*rw) cc ((y+i+1:Nat):Int) w h A xs.length c x y rw rh M) Q) :
  ∀ (d j:Nat) (M:Mem) (B:Option Addr) (cc:Nat),rw - j=d→j≤rw→Pre M0 M→i*rw+j≤cc→Grow M0 M 1 B (i*rw+j) ((v7 w xs x y rw (i*rw+j)).map (Value.int .u8)) →
  Run P T lo F.yi (yi.Cb B (i*rw+j) cc ((y+i:Nat):Int) ((x+j:Nat):Int) w h A xs.length c x y rw rh M) Q:=by
 have hmax:w*h≤512*512:=Nat.mul_le_mul hw hh
 have hin:(y+i)*w+x+rw≤xs.length:=by
  have:(y+i+1)*w≤h*w:=Nat.mul_le_mul_right _ (by omega)
  rw [Nat.succ_mul,Nat.mul_comm h w] at this
  omega
 have hb1:i*rw+rw≤512*512:=by
  have:(i+1)*rw≤512*512:=Nat.mul_le_mul (by omega) (by omega)
  rwa [Nat.succ_mul] at this
 intro d
 induction d with
 | zero=>
  intro j M B cc hd hj hp hcc hg
  obtain rfl:j=rw:=by omega
  refine kut (fun k=>yi.Pb k ..) ?_
  rw [w64 (x:=(x:Int)+j) (by omega)]
  refine Evp.dec (fun h=>absurd h (by omega)) fun _=>?_
  rw [show i*j+j=(i+1)*j from (Nat.succ_mul _ _).symm] at hg hcc ⊢
  rw [w64 (by omega)]
  exact Evp.ret (hnext M B cc hp hcc hg)
 | succ d ih=>
  intro j M B cc hd hj hp hcc hg
  refine kut (fun k=>yi.Pb k ..) ?_
  rw [w64 (x:=(x:Int)+rw) (by omega)]
  refine Evp.dec (fun _=>?_) fun h=>absurd h (by omega)
  have e0:((y+i:Nat):Int)*(w:Int)=(((y+i)*w:Nat):Int):=by rw [Int.natCast_mul]
  obtain ⟨d1,d2⟩:=dm (W:=rw) (r:=i) (s:=j) (by omega)
  have hstep:=zmy w xs x y rw (i*rw+j)
  rw [d1,d2] at hstep
  rw [e0]
  generalize (y+i)*w=g at *
  rw [w64 (x:=(g:Int)) (by omega),w64 (x:=(g:Int)+((x+j:Nat):Int)) (by omega)]
  refine Evp.pos (by omega) ?_
  rw [show ((g:Int)+((x+j:Nat):Int)).toNat=g+(x+j) by omega]
  refine Evp.ldI (hr.pre hp) (by omega) fun _ _=>?_
  obtain ⟨s,M',h1,h2,h3,h4,_,h5⟩:=hg.app (lo:=lo) (bytes:=1) (c:=cc) (m:=1) (vs:=[.int .u8 (xs.getD (g+(x+j)) 0)]) hp hlo rfl (by omega) (by omega)
  refine Evp.some h1 ?_
  rw [h3,show [Value.int .u8 (xs.getD (g+(x+j)) 0)]=[xs.getD (g+(x+j)) 0].map (Value.int .u8) from rfl,← List.map_append,hstep] at h2
  rw [h3,w64 (by omega)]
  exact Evp.ret (ih (j+1) M' s.a s.c (by omega) (by omega) h4 (by rw [← Nat.add_assoc,← h3];exact h5 hcc) h2)
theorem zmz (hlo:lo≤M0.length)(hr:RdI M0 .u8 A xs)(hw:w≤512)(hh:h≤512)(hn:xs.length=w*h)(hr1:1≤rw)(hx:x+rw≤w)(hy:y+rh≤h) :
  ∀ (d i:Nat) (M:Mem) (B:Option Addr) (cc:Nat),rh - i=d→i≤rh→Pre M0 M→i*rw≤cc→Grow M0 M 1 B (i*rw) ((v7 w xs x y rw (i*rw)).map (Value.int .u8)) →
  Run P T lo F.yi (yi.Ca B (i*rw) cc ((y+i:Nat):Int) w h A xs.length c x y rw rh M) fun r=>∃ B' cc' M',r=(.tuple ⟨[.slice B' (v7 w xs x y rw (rh*rw)).length cc',.int .i64 0]⟩,M')∧Pre M0 M'∧Grow M0 M' 1 B' (v7 w xs x y rw (rh*rw)).length ((v7 w xs x y rw (rh*rw)).map (Value.int .u8))∧(v7 w xs x y rw (rh*rw)).length≤cc':=by
 intro d
 induction d with
 | zero=>
  intro i M B cc hd hi hp hcc hg
  obtain rfl:i=rh:=by omega
  refine kut (fun k=>yi.Pa k ..) ?_
  rw [w64 (x:=(y:Int)+i) (by omega)]
  refine Evp.dec (fun h=>absurd h (by omega)) fun _=>Evp.ret (Run.ret ⟨B,cc,M,?_,hp,?_,?_⟩)
  ·rw [z0i]
  ·rw [z0i];exact hg
  ·rw [z0i];exact hcc
 | succ d ih=>
  intro i M B cc hd hi hp hcc hg
  refine kut (fun k=>yi.Pa k ..) ?_
  rw [w64 (x:=(y:Int)+rh) (by omega)]
  refine Evp.dec (fun _=>?_) fun h=>absurd h (by omega)
  exact Evp.ret (zqf hlo hr hw hh hn hr1 hx hy i (by omega) (fun M B cc hp hcc hg=>ih (i+1) M B cc (by omega) (by omega) hp hcc hg) rw 0 M B cc rfl (by omega) hp hcc hg)
end
theorem zqg (lo:Nat)(w h:Int)(A:Option Addr)(c:Nat)(xs:List Int)(x y rw rh:Int)(M:Mem)(hr:RdI M .u8 A xs)(hlo:lo≤M.length) :
  Ac P T lo F.yi [.agg ⟨[.int .i64 w,.int .i64 h,.slice A xs.length c]⟩,.agg ⟨[.int .i64 x,.int .i64 y,.int .i64 rw,.int .i64 rh]⟩] M (zp9 M w h xs x y rw rh):=by
 have bad:¬ (qa w h xs.length=0∧jr w h x y rw rh)→Run P T lo F.yi (.ret (.tuple ⟨[.slice none 0 0,.int .i64 2]⟩) M) (zp9 M w h xs x y rw rh):=fun h=>Run.ret ⟨Pre.refl _,by rw [if_neg h]⟩
 refine Ac.of (Evp.of_eq (fun k=>yi.entry k ..) ?_)
 refine Evp.ob (z11 ..) ?_
 rintro _ rfl
 simp only [RD,RE,Nat.reduceAdd,Nat.reduceLT]
 refine Evp.neb (fun h=>Evp.ret (bad fun e=>h e.1)) fun hk=>?_
 refine Evp.ob (zi8 _ _ _ _ _ _ _ _ _ _ _ hk) ?_
 rintro _ rfl
 simp only [RD,RE,Nat.reduceAdd,Nat.reduceLT]
 refine Evp.nb (fun h1=>Evp.ret (bad fun e=>of_decide_eq_false h1 e.2)) fun h1=>?_
 have hwi:=of_decide_eq_true h1
 have hs:=zy hk
 obtain ⟨h1,h2,h3,h4,h5,h6⟩:=hwi
 have hwi:jr w h x y rw rh:=⟨h1,h2,h3,h4,h5,h6⟩
 obtain ⟨w,rfl⟩:=Int.eq_ofNat_of_zero_le (a:=w) (by omega)
 obtain ⟨h,rfl⟩:=Int.eq_ofNat_of_zero_le (a:=h) (by omega)
 obtain ⟨x,rfl⟩:=Int.eq_ofNat_of_zero_le h3
 obtain ⟨y,rfl⟩:=Int.eq_ofNat_of_zero_le h4
 obtain ⟨rw',rfl⟩:=Int.eq_ofNat_of_zero_le (a:=rw) (by omega)
 obtain ⟨rh,rfl⟩:=Int.eq_ofNat_of_zero_le (a:=rh) (by omega)
 have hnn:xs.length=w*h:=by have:=hs.2.2.2.2;rw [← Int.natCast_mul] at this;omega
 have fin:=zmz (w:=w) (h:=h) (x:=x) (y:=y) (rw:=rw') (rh:=rh) (xs:=xs) (A:=A) (c:=c) (lo:=lo) (M0:=M) hlo hr (by omega) (by omega) hnn (by omega) (by omega) (by omega) rh 0 M none 0 rfl (by omega) (Pre.refl _) (by rw [Nat.zero_mul];exact Nat.le_refl _) (by rw [Nat.zero_mul];exact Grow.nil)
 rw [Nat.zero_mul] at fin
 refine Evp.ret (fin.mono ?_)
 rintro _ ⟨B,cc,M',rfl,p,g,gc⟩
 refine ⟨p,?_⟩
 rw [if_pos ⟨hk,hwi⟩]
 exact ⟨B,cc,rfl,g,gc⟩
theorem zgo (lo:Nat)(n:Int)(M:Mem):Ac P T lo F.za2 [.int .i64 n] M fun r=>r=(.bool (decide (jq n)),M):=by
 have ht:Int.tmod n 2=0 ↔ n % 2=0:=by rw [← Int.dvd_iff_tmod_eq_zero,Int.dvd_iff_emod_eq_zero]
 refine Ac.of (Evp.of_eq (fun k=>za2.entry k ..) ?_)
 refine Evp.eqb (fun h1=>?_) fun h1=>Evp.ret (Run.ret (by rw [decide_eq_false (fun e=>h1 (ht.2 e.1))]))
 have h1:=ht.1 h1
 refine Evp.dec (fun h3=>?_) fun h3=>Evp.ret (Run.ret (by rw [decide_eq_false (fun e=>by unfold jq at e;omega)]))
 refine Evp.ret (Run.ret ?_)
 congr 2
 exact decide_eq_decide.2 (by unfold jq;omega)
section
variable (lo:Nat)(w0 h0 w1 h1 w2 h2:Int)(A0 A1 A2:Option Addr)(n0 c0 n1 c1 n2 c2:Nat)(M:Mem)
theorem zer:Ac P T lo F.q8 [.agg ⟨[.int .i64 w0,.int .i64 h0,.slice A0 n0 c0,.int .i64 w1,.int .i64 h1,.slice A1 n1 c1,.int .i64 w2,.int .i64 h2,.slice A2 n2 c2]⟩] M fun r=>r=(.int .i64 (kj w0 h0 n0 w1 h1 n1 w2 h2 n2),M):=by
 have bad:¬ z3m w0 h0 n0 w1 h1 n1 w2 h2 n2→Run P T lo F.q8 (.ret (.int .i64 2) M) fun r=>r=(.int .i64 (kj w0 h0 n0 w1 h1 n1 w2 h2 n2),M):=fun h=>Run.ret (by unfold kj;rw [if_neg h])
 refine Ac.of (Evp.of_eq (fun k=>q8.entry k ..) ?_)
 refine Evp.ob (z11 ..) ?_
 rintro _ rfl
 simp only [RD,RE,Nat.reduceAdd,Nat.reduceLT]
 refine Evp.neb (fun h=>Evp.ret (bad fun e=>h e.1)) fun k0=>?_
 refine Evp.ob (zgo ..) ?_
 rintro _ rfl
 simp only [RD,RE,Nat.reduceAdd,Nat.reduceLT]
 refine Evp.nb (fun h=>Evp.ret (bad fun e=>of_decide_eq_false h e.2.1)) fun s1=>?_
 refine Evp.ob (zgo ..) ?_
 rintro _ rfl
 simp only [RD,RE,Nat.reduceAdd,Nat.reduceLT]
 refine Evp.nb (fun h=>Evp.ret (bad fun e=>of_decide_eq_false h e.2.2.1)) fun s2=>?_
 have s1:=of_decide_eq_true s1
 have s2:=of_decide_eq_true s2
 have s1':=s1
 have s2':=s2
 unfold jq at s1' s2'
 have d1:i64.wrap (Int.tdiv w0 2)=w0 / 2:=by rw [Int.tdiv_eq_ediv_of_nonneg (by omega)];exact w64 (by omega)
 have d2:i64.wrap (Int.tdiv h0 2)=h0 / 2:=by rw [Int.tdiv_eq_ediv_of_nonneg (by omega)];exact w64 (by omega)
 refine Evp.ret ?_
 refine kut (fun k=>q8.Pa k ..) ?_
 refine Evp.tt rfl (Evp.pos (by decide) (Evp.some rfl (Evp.some rfl (Evp.some rfl ?_))))
 refine Evp.ob (z11 ..) ?_
 rintro _ rfl
 simp only [RD,RE,Nat.reduceAdd,Nat.reduceLT]
 refine Evp.neb (fun h=>Evp.ret (bad fun e=>h e.2.2.2.1)) fun k1=>?_
 refine Evp.pos (by decide) (Evp.some rfl ?_)
 rw [d1,d2]
 refine Evp.neb (fun h=>Evp.ret (bad fun e=>h e.2.2.2.2.1)) fun e1=>?_
 refine Evp.pos (by decide) (Evp.some rfl ?_)
 refine Evp.neb (fun h=>Evp.ret (bad fun e=>h e.2.2.2.2.2.1)) fun e2=>?_
 rw [show i64.wrap (1+1)=2 from by decide]
 refine Evp.ret ?_
 refine kut (fun k=>q8.Pa k ..) ?_
 refine Evp.tt rfl (Evp.pos (by decide) (Evp.some rfl (Evp.some rfl (Evp.some rfl ?_))))
 refine Evp.ob (z11 ..) ?_
 rintro _ rfl
 simp only [RD,RE,Nat.reduceAdd,Nat.reduceLT]
 refine Evp.neb (fun h=>Evp.ret (bad fun e=>h e.2.2.2.2.2.2.1)) fun k2=>?_
 refine Evp.pos (by decide) (Evp.some rfl ?_)
 rw [d1,d2]
 refine Evp.neb (fun h=>Evp.ret (bad fun e=>h e.2.2.2.2.2.2.2.1)) fun e3=>?_
 refine Evp.pos (by decide) (Evp.some rfl ?_)
 refine Evp.neb (fun h=>Evp.ret (bad fun e=>h e.2.2.2.2.2.2.2.2)) fun e4=>?_
 rw [show i64.wrap (2+1)=3 from by decide]
 refine Evp.ret ?_
 refine kut (fun k=>q8.Pa k ..) ?_
 refine Evp.ff rfl (Evp.ret (Run.ret ?_))
 unfold kj
 rw [if_pos ⟨k0,s1,s2,k1,e1,e2,k2,e3,e4⟩]
end
theorem zdj (lo:Nat)(n:Int)(M:Mem):Ac P T lo F.zau [.int .i64 n] M fun r=>r=(.int .i64 (ua n),M):=by
 refine Ac.of (Evp.of_eq (fun k=>zau.entry k ..) ?_)
 exact Evp.eqb (fun h=>Evp.ret (Run.ret (by unfold ua;rw [if_pos h]))) fun h=>Evp.ret (Run.ret (by unfold ua;rw [if_neg h]))
section
variable (lo:Nat)(f:Fr3)(Q V:Option Addr)(qn qc vc:Nat)(ws:List Int)(hd:Hd)(L:List Int)(M:Mem)
variable (hV:RdI M .i64 V ws)(hn:ws.length≤17592186043904)(hL:Rd M hd.A hd.n 4 (L.map (Value.int .i64)))
include hV hn hL
omit hV hn hL in
theorem zgp (i:Nat):Ac P T lo F.z71 [.agg ⟨[.int .i64 (L.getD (i*4) 0),.int .i64 (L.getD (i*4+1) 0),.int .i64 (L.getD (i*4+2) 0),.int .i64 (L.getD (i*4+3) 0)]⟩] M fun r=>∃ b,r=(.bool b,M)∧(b=true ↔ z8j L i):=by
 have no:¬ z8j L i→Evp (fun k=>some (.ret (.bool false) M)) fun out=>Run P T lo F.z71 out fun r=>∃ b,r=(.bool b,M)∧(b=true ↔ z8j L i):=fun g=>Evp.ret (Run.ret ⟨false,rfl,fun e=>absurd e (by decide),fun e=>absurd e g⟩)
 refine Ac.of (Evp.of_eq (fun k=>z71.entry k ..) ?_)
 refine Evp.dec (fun k1=>?_) fun g=>no fun e=>g e.1.1
 refine Evp.dec (fun k2=>?_) fun g=>no fun e=>g e.1.2
 refine Evp.dec (fun k3=>?_) fun g=>no fun e=>g e.2.1.1
 refine Evp.dec (fun k4=>?_) fun g=>no fun e=>g e.2.1.2
 refine Evp.dec (fun k5=>?_) fun g=>no fun e=>g e.2.2.1.1
 refine Evp.dec (fun k6=>?_) fun g=>no fun e=>g e.2.2.1.2
 refine Evp.dec (fun k7=>?_) fun g=>no fun e=>g e.2.2.2.1
 exact Evp.ret (Run.ret ⟨_,rfl,fun e=>⟨⟨k1,k2⟩,⟨k3,k4⟩,⟨k5,k6⟩,k7,of_decide_eq_true e⟩,fun e=>decide_eq_true e.2.2.2.2⟩)
theorem zkv:Ac P T lo F.yp [.agg ⟨f.cells⟩,.slice Q qn qc,.slice V ws.length vc,.agg ⟨hd.cells⟩] M fun r=>∃ b M',r=(.bool b,M')∧Pre M M'∧(b=true ↔ uh f qn ws hd L):=by
 have no:¬ uh f qn ws hd L→Evp (fun k=>some (.ret (.bool false) M)) fun out=>Run P T lo F.yp out fun r=>∃ b M',r=(.bool b,M')∧Pre M M'∧(b=true ↔ uh f qn ws hd L):=fun g=>Evp.ret (Run.ret ⟨false,M,rfl,Pre.refl _,fun e=>absurd e (by decide),fun e=>absurd e g⟩)
 refine Ac.of (Evp.of_eq (fun k=>yp.entry k ..) ?_)
 refine Evp.ob (zer ..) ?_
 rintro _ rfl
 simp only [RD,RE,Nat.reduceAdd,Nat.reduceLT]
 refine Evp.neb (fun g=>no fun e=>g (by unfold kj;rw [if_pos (show z3m _ _ _ _ _ _ _ _ _ from e.1)])) fun k1=>?_
 have hw:uj f:=by
  by_cases h:uj f
  ·exact h
  ·exfalso
   unfold kj at k1
   rw [if_neg (show ¬ z3m _ _ _ _ _ _ _ _ _ from h)] at k1
   omega
 have sw:jq f.p0.w:=hw.2.1
 have sh:jq f.p0.h:=hw.2.2.1
 unfold jq at sw sh
 have m1:=ks (a:=f.p0.w / 8) (b:=f.p0.h / 8) (A:=32) (B:=32) (by omega) (by omega)
 have m2:=ks (a:=(f.p0.w+63) / 64) (b:=(f.p0.h+63) / 64) (A:=5) (B:=5) (by omega) (by omega)
 rw [w64 (x:=f.p0.w+63) (by omega),w64 (x:=f.p0.h+63) (by omega)]
 rw [Int.tmod_eq_emod_of_nonneg (show 0≤f.p0.w by omega),Int.tmod_eq_emod_of_nonneg (show 0≤f.p0.h by omega),Int.tdiv_eq_ediv_of_nonneg (show 0≤f.p0.w by omega),Int.tdiv_eq_ediv_of_nonneg (show 0≤f.p0.h by omega),Int.tdiv_eq_ediv_of_nonneg (show 0≤f.p0.w+63 by omega),Int.tdiv_eq_ediv_of_nonneg (show 0≤f.p0.h+63 by omega)]
 rw [w64 (x:=f.p0.w / 8) (by omega),w64 (x:=f.p0.h / 8) (by omega),w64 (x:=f.p0.w / 8*(f.p0.h / 8)) (by omega),w64 (x:=(f.p0.w+63) / 64) (by omega),w64 (x:=(f.p0.h+63) / 64) (by omega),w64 (x:=(f.p0.w+63) / 64*((f.p0.h+63) / 64)) (by omega)]
 refine Evp.neb (fun g=>no fun e=>g e.2.1) fun k2=>?_
 refine Evp.neb (fun g=>no fun e=>g e.2.2.1) fun k3=>?_
 refine Evp.neb (fun g=>no fun e=>g e.2.2.2.1) fun k4=>?_
 refine Evp.neb (fun g=>no fun e=>g e.2.2.2.2.1) fun k5=>?_
 refine Evp.nb (fun g=>?_) fun kc=>?_
 ·exact Evp.ret (Run.ret ⟨true,M,rfl,Pre.refl _,fun _=>⟨hw,k2,k3,k4,k5,fun e=>by rw [e] at g;cases g⟩,fun _=>rfl⟩)
 refine Evp.dec (fun g=>no fun e=>by have:=(e.2.2.2.2.2 kc).1;omega) fun k6=>?_
 refine Evp.dec (fun g=>no fun e=>by have:=(e.2.2.2.2.2 kc).1;omega) fun k6'=>?_
 refine Evp.dec (fun g=>no fun e=>by have:=(e.2.2.2.2.2 kc).2.1;omega) fun k7=>?_
 refine Evp.dec (fun g=>no fun e=>by have:=(e.2.2.2.2.2 kc).2.1;omega) fun k7'=>?_
 have idx:(∀ i,i < hd.n→z8j L i)→∀ (d i:Nat),ws.length - i=d→i≤ws.length→(∀ j,j < i→0≤ws.getD j 0∧ws.getD j 0≤(hd.n:Int) - 1)→Run P T lo F.yp (yp.Cb V ws.length vc i hd.h0 hd.h1 hd.h2 hd.h3 hd.h4 hd.h5 hd.h6 hd.h7 hd.h8 hd.h9 hd.h10 hd.h11 hd.h12 hd.h13 hd.h14 hd.h15 hd.h16 hd.h17 hd.h18 hd.h19 hd.h20 hd.h21 hd.h22 hd.cdef hd.damp hd.h25 hd.A hd.n hd.c hd.h27 hd.h28 hd.h29 M) fun r=>∃ b M',r=(.bool b,M')∧Pre M M'∧(b=true ↔ uh f qn ws hd L):=by
  intro hall d
  induction d with
  | zero=>
   intro i hd' hi hj
   refine kut (fun k=>yp.Pb k ..) ?_
   exact Evp.dec (fun g=>absurd g (by omega)) fun _=>Evp.ret (Run.ret ⟨true,M,rfl,Pre.refl _,fun _=>⟨hw,k2,k3,k4,k5,fun _=>⟨by omega,by omega,hall,fun j h=>hj j (by omega)⟩⟩,fun _=>rfl⟩)
  | succ d ih=>
   intro i hd' hi hj
   refine kut (fun k=>yp.Pb k ..) ?_
   refine Evp.dec (fun _=>?_) fun g=>absurd g (by omega)
   refine Evp.pos (by omega) ?_
   simp only [Int.toNat_natCast]
   refine Evp.ldI hV (by omega) fun _ _=>?_
   refine Evp.dec (fun g=>no fun e=>by have:=(e.2.2.2.2.2 kc).2.2.2 i (by omega);omega) fun q1=>?_
   refine Evp.pos (by omega) (Evp.ldI hV (by omega) fun _ _=>?_)
   refine Evp.dec (fun g=>no fun e=>by have:=(e.2.2.2.2.2 kc).2.2.2 i (by omega);omega) fun q2=>?_
   rw [w64 (by omega)]
   exact Evp.ret (ih (i+1) (by omega) (by omega) fun j h=>by
    by_cases e:j=i
    ·subst e;omega
    ·exact hj j (by omega))
 have loop:∀ (d i:Nat),hd.n - i=d→i≤hd.n→(∀ j,j < i→z8j L j)→Run P T lo F.yp (yp.Ca V ws.length vc i hd.h0 hd.h1 hd.h2 hd.h3 hd.h4 hd.h5 hd.h6 hd.h7 hd.h8 hd.h9 hd.h10 hd.h11 hd.h12 hd.h13 hd.h14 hd.h15 hd.h16 hd.h17 hd.h18 hd.h19 hd.h20 hd.h21 hd.h22 hd.cdef hd.damp hd.h25 hd.A hd.n hd.c hd.h27 hd.h28 hd.h29 M) fun r=>∃ b M',r=(.bool b,M')∧Pre M M'∧(b=true ↔ uh f qn ws hd L):=by
  intro d
  induction d with
  | zero=>
   intro i hd' hi hj
   refine kut (fun k=>yp.Pa k ..) ?_
   exact Evp.dec (fun g=>absurd g (by omega)) fun _=>Evp.ret (idx (fun j h=>hj j (by omega)) _ 0 rfl (by omega) fun j h=>by omega)
  | succ d ih=>
   intro i hd' hi hj
   obtain ⟨a,ea,l0,l1,l2,l3⟩:=ldS hL (i:=i) (by omega)
   refine kut (fun k=>yp.Pa k ..) ?_
   refine Evp.dec (fun _=>?_) fun g=>absurd g (by omega)
   refine Evp.pos (by omega) ?_
   simp only [Int.toNat_natCast]
   refine Evp.some ea (Evp.some l0 (Evp.some l1 (Evp.some l2 (Evp.some l3 ?_))))
   refine Evp.ob (zgp lo L M i) ?_
   rintro _ ⟨b,rfl,hb⟩
   simp only [RD,RE,Nat.reduceAdd,Nat.reduceLT]
   refine Evp.nb (fun g=>no fun e=>by rw [hb.2 ((e.2.2.2.2.2 kc).2.2.1 i (by omega))] at g;cases g) fun g=>?_
   rw [w64 (by omega)]
   exact Evp.ret (ih (i+1) (by omega) (by omega) fun j h=>by
    by_cases e:j=i
    ·subst e;exact hb.1 g
    ·exact hj j (by omega))
 exact Evp.ret (loop _ 0 rfl (by omega) fun j h=>by omega)
end
section
variable (lo:Nat)(f:Fr3)(M0:Mem)(ad:Nat→Addr)(cc:Nat→Nat)
variable (hlo:lo≤M0.length)(hf:FrOk M0 f)
include hlo hf
theorem zdk (n:Nat)(hn:n < 3)(S RX RY:Nat)(hS:S=8∨S=4)(hx:RX+S≤(f.at n).w.toNat)(hy:RY+S≤(f.at n).h.toNat)(B:Option Addr)(cb:Nat)(bs:List Int)(hb:bs.length=S*S)(os:Nat→List Int)(M:Mem)(hp:Pre M0 M)(hB:Bufs M0 M f ad os)(hne:∀ n',n' < 3→∀ x,B=some x→(ad n').block≠x.block)(hr:RdI M .u8 B bs) :
  Ac P T lo F.ql [.agg ⟨[.int .i64 (f.at n).w,.int .i64 (f.at n).h,.slice (some (ad n)) (f.at n).xs.length (cc n)]⟩,.agg ⟨[.int .i64 RX,.int .i64 RY,.int .i64 S,.int .i64 S]⟩,.slice B (S*S) cb] M fun r=>∃ M',r=(.tuple ⟨[]⟩,M')∧Pre M0 M'∧Bufs M0 M' f ad (upd os n (z05 (f.at n).w.toNat (os n) bs RX RY S S (S*S))):=by
 have ck:=zy (hf.chk n hn)
 obtain ⟨W,hW⟩:=Int.eq_ofNat_of_zero_le (a:=(f.at n).w) (by omega)
 obtain ⟨H,hH⟩:=Int.eq_ofNat_of_zero_le (a:=(f.at n).h) (by omega)
 have eW:(f.at n).w.toNat=W:=by omega
 have eH:(f.at n).h.toNat=H:=by omega
 have hl:(f.at n).xs.length=W*H:=by have:=ck.2.2.2.2;rw [hW,hH,← Int.natCast_mul] at this;omega
 have hm:W*H≤512*512:=Nat.mul_le_mul (by omega) (by omega)
 have sm:S*S≤64:=by rcases hS with rfl | rfl <;> omega
 have hol:(os n).length=W*H:=by rw [hB.len n hn,hl]
 simp only [eW] at hx ⊢
 simp only [eH] at hy
 have loop:∀ (e i:Nat) (M:Mem),S*S - i=e→i≤S*S→Pre M0 M→Bufs M0 M f ad (upd os n (z05 W (os n) bs RX RY S S i))→RdI M .u8 B bs →
   Run P T lo F.ql (ql.Ca B (S*S) cb i (f.at n).w (f.at n).h (some (ad n)) (f.at n).xs.length (cc n) RX RY S S M) fun r=>∃ M',r=(.tuple ⟨[]⟩,M')∧Pre M0 M'∧Bufs M0 M' f ad (upd os n (z05 W (os n) bs RX RY S S (S*S))):=by
  intro e
  induction e with
  | zero=>
   intro i M he hi hp hB hr
   obtain rfl:i=S*S:=by omega
   refine kut (fun k=>ql.Pa k ..) ?_
   exact Evp.dec (fun g=>absurd g (by omega)) fun _=>Evp.ret (Run.ret ⟨M,rfl,hp,hB⟩)
  | succ e ih=>
   intro i M he hi hp hB hr
   have hil:i < S*S:=by omega
   obtain ⟨i0,i1,i2,i3⟩:=zfh hil
   have hset:=zh1 (bs:=bs) hol (by omega) hx hy i hil
   have hin:(RY+i / S)*W+(RX+i % S) < W*H:=by
    rw [Nat.mul_comm W H]
    exact zcp (by generalize i / S=u at *;omega) (by generalize i % S=u at *;omega)
   have hol2:(upd os n (z05 W (os n) bs RX RY S S i) n).length=W*H:=by rw [hB.len n hn,hl]
   have e1:Int.tdiv (i:Int) ((S:Nat):Int)=((i / S:Nat):Int):=rfl
   have e2:Int.tmod (i:Int) ((S:Nat):Int)=((i % S:Nat):Int):=rfl
   obtain ⟨M',g1,g2,g3,g4⟩:=hB.st (n:=n) hn hp (lo:=lo) (i:=(RY+i / S)*W+(RX+i % S)) hlo (vs:=[bs.getD i 0]) (by rw [hol2];exact hin)
   rw [z8k,zji,jf,hset] at g2
   refine kut (fun k=>ql.Pa k ..) ?_
   refine Evp.dec (fun _=>?_) fun g=>absurd g (by omega)
   refine Evp.neg (by omega) (Evp.neg (by omega) (Evp.pos (by omega) ?_))
   simp only [Int.toNat_natCast]
   refine Evp.ldI hr (by omega) fun _ _=>?_
   rw [e1,e2,hW]
   generalize i / S=u at *
   generalize i % S=v at *
   have e3:((RY:Int)+u)*(W:Int)=(((RY+u)*W:Nat):Int):=by simp
   rw [w64 (x:=(u:Int)) (by omega),w64 (x:=(RY:Int)+u) (by omega),e3]
   generalize (RY+u)*W=g at *
   rw [w64 (x:=(g:Int)) (by omega),w64 (x:=(g:Int)+RX) (by omega),w64 (x:=(g:Int)+RX+v) (by omega)]
   refine Evp.pos (by omega) (Evp.some rfl ?_)
   rw [show ((g:Int)+RX+v).toNat=g+(RX+v) by omega]
   refine Evp.some g1 ?_
   rw [w64 (x:=(i:Int)+1) (by omega)]
   rw [← hW]
   exact Evp.ret (ih (i+1) M' (by omega) (by omega) g3 g2 (Rd.keep hr g4 fun x x' hx hx'=>by injection hx' with hx';subst hx';exact hne n hn x hx))
 refine Ac.of (Evp.of_eq (fun k=>ql.entry k ..) ?_)
 refine Evp.ret (loop (S*S) 0 M rfl (Nat.zero_le _) hp ?_ hr)
 rw [zeu,zh7]
 exact hB
theorem zbi (n:Nat)(hn:n < 3)(S RX RY:Nat)(hS:S=8∨S=4)(hx:RX+S≤(f.at n).w.toNat)(hy:RY+S≤(f.at n).h.toNat)(d:Nat)(pri sec damp:Int)(hd:d < 8)(hpri:0≤pri∧pri≤15)(hsec:0≤sec∧sec≤3)(hdamp:0≤damp∧damp≤6)(os:Nat→List Int)(M:Mem)(hp:Pre M0 M)(hB:Bufs M0 M f ad os) :
  Ac P T lo F.yb [.agg ⟨[.int .i64 (f.at n).w,.int .i64 (f.at n).h,.slice (f.at n).A (f.at n).xs.length (f.at n).c]⟩,.agg ⟨[.int .i64 RX,.int .i64 RY,.int .i64 S,.int .i64 S]⟩,.int .i64 d,.int .i64 pri,.int .i64 (ua sec),.int .i64 damp] M fun r=>
   ∃ B cb bs M2,r=(.tuple ⟨[.slice B (S*S) cb,.int .i64 0]⟩,M2)∧Pre M M2∧bs.length=S*S∧z0z (f.at n) (os n) RX RY S d pri.toNat (ua sec).toNat damp=z05 (f.at n).w.toNat (os n) bs RX RY S S (S*S)∧(∀ n',n' < 3→∀ x,B=some x→(ad n').block≠x.block)∧RdI M2 .u8 B bs:=by
 have ck:=zy (hf.chk n hn)
 have hsec4:0≤ua sec∧ua sec≤4:=by unfold ua;split <;> omega
 have ok:z2y (f.at n).w (f.at n).h (f.at n).xs.length RX RY S S d pri (ua sec) damp:=⟨hf.chk n hn,by rcases hS with rfl | rfl <;> omega,by rcases hS with rfl | rfl <;> omega,by omega,by omega,by omega,hpri,hsec4,hdamp⟩
 refine Ac.mono (zmx _ (f.at n).A (f.at n).c (f.at n).xs (f.at n).w (f.at n).h RX RY S S d pri (ua sec) damp M (by have:=hp.len;omega) ((hf.rd n hn).pre hp) (hf.by_ n hn)) ?_
 rintro ⟨v,M2⟩ ⟨p2,hb⟩
 rw [if_pos ok] at hb
 obtain ⟨B,cb,e,hcb,gB⟩:=hb
 simp only [Int.toNat_natCast] at e gB p2 hcb
 subst e
 have rB:RdI M2 .u8 B (vk (f.at n).w.toNat (f.at n).h.toNat (f.at n).xs RX RY S damp (jc d pri.toNat (ua sec).toNat) (S*S)):=by
  have:=gB.rd
  unfold RdI
  rw [z8h]
  exact this
 refine ⟨B,cb,_,M2,rfl,p2,z8h ..,rfl,fun n' hn' x hx=>?_,rB⟩
 have i1:=(hB.buf n' hn').in_
 rcases gB.at_ with ⟨e,_⟩ | ⟨q,e,q2,_⟩
 ·rw [e] at hx;cases hx
 ·rw [e] at hx;injection hx with hx;subst hx
  show (ad n').block≠q
  omega
variable (hw:uj f)(h8:f.p0.w % 8=0)(v8:f.p0.h % 8=0)
include hw h8 v8
theorem zqh (X Y:Nat)(hX:X % 8=0∧X+8≤f.p0.w.toNat)(hY:Y % 8=0∧Y+8≤f.p0.h.toNat)(a b c d damp:Int)(hs:(0≤a∧a≤15)∧(0≤c∧c≤15)∧(0≤b∧b≤3)∧(0≤d∧d≤3))(hdamp:3≤damp∧damp≤6)(os:Nat→List Int)(M:Mem)(hp:Pre M0 M)(hB:Bufs M0 M f ad os) :
  Ac P T lo F.z9 [.agg ⟨f.cells⟩,.agg ⟨csL f ad cc⟩,.int .i64 X,.int .i64 Y,.agg ⟨[.int .i64 a,.int .i64 b,.int .i64 c,.int .i64 d]⟩,.int .i64 damp] M fun r=>∃ M',r=(.tuple ⟨[]⟩,M')∧Pre M0 M'∧Bufs M0 M' f ad (fun n=>z3n f damp X Y a b c d n (os n)):=by
 obtain ⟨s1,s2,s3,s4⟩:=hs
 have hb8:yu (ug f X Y) 8 < 8:=by have:=z0h (ug f X Y) 8;omega
 have hst:=zjh (z5a (hf.by_ 0 (by omega)) X Y)
 have sz:=zno hw h8 v8 hX hY
 have sw:jq f.p0.w:=hw.2.1
 have sh:jq f.p0.h:=hw.2.2.1
 unfold jq at sw sh
 have hpr:=zh6 (n:=a) (t:=z1l (ug f X Y)) s1
 obtain ⟨best,hbest⟩:∃ best,best=yu (ug f X Y) 8:=⟨_,rfl⟩
 obtain ⟨str,hstr⟩:∃ str,str=z1l (ug f X Y):=⟨_,rfl⟩
 have newE:∀ n o,z3n f damp X Y a b c d n o=if n=0 then z0z f.p0 o X Y 8 (if a=0 then 0 else best) (ka a str).toNat (ua b).toNat damp else z0z (f.at n) o (X / 2) (Y / 2) 4 (if c=0 then 0 else best) c.toNat (ua d).toNat (damp - 1):=fun n o=>by rw [hbest,hstr];rfl
 simp only [newE]
 have colours:∀ (os:Nat→List Int) (M:Mem) (d':Nat),d'=(if c=0 then 0 else best)→Pre M0 M→Bufs M0 M f ad os →
   Run P T lo F.z9 (z9.Cd X Y damp d' f.p0.w f.p0.h f.p0.A f.p0.xs.length f.p0.c f.p1.w f.p1.h f.p1.A f.p1.xs.length f.p1.c f.p2.w f.p2.h f.p2.A f.p2.xs.length f.p2.c f.p0.w f.p0.h (some (ad 0)) f.p0.xs.length (cc 0) f.p1.w f.p1.h (some (ad 1)) f.p1.xs.length (cc 1) f.p2.w f.p2.h (some (ad 2)) f.p2.xs.length (cc 2) a b c d M) fun r=>∃ M',r=(.tuple ⟨[]⟩,M')∧Pre M0 M'∧Bufs M0 M' f ad (upd (upd os 1 (z0z (f.at 1) (os 1) (X / 2) (Y / 2) 4 (if c=0 then 0 else best) c.toNat (ua d).toNat (damp - 1))) 2 (z0z (f.at 2) (os 2) (X / 2) (Y / 2) 4 (if c=0 then 0 else best) c.toNat (ua d).toNat (damp - 1))):=fun os M d' hd' hp hB=>by
  have hd8:d' < 8:=by rw [hd'];split <;> omega
  obtain ⟨z1,y1⟩:=sz 1 (by omega) (by omega)
  obtain ⟨z2,y2⟩:=sz 2 (by omega) (by omega)
  rw [← hd']
  refine kut (fun k=>z9.Pd k ..) ?_
  rw [show Int.tdiv (X:Int) 2=((X / 2:Nat):Int) from rfl,show Int.tdiv (Y:Int) 2=((Y / 2:Nat):Int) from rfl,w64 (x:=((X / 2:Nat):Int)) (by omega),w64 (x:=((Y / 2:Nat):Int)) (by omega)]
  refine Evp.ret ?_
  refine kut (fun k=>z9.Pe k ..) ?_
  refine Evp.tt rfl (Evp.pos (by decide) (Evp.some rfl (Evp.some rfl (Evp.some rfl ?_))))
  rw [w64 (x:=damp - 1) (by omega)]
  refine Evp.ob (zdj _ d M) ?_
  rintro _ rfl
  simp only [RD,RE,Nat.reduceAdd,Nat.reduceLT]
  refine Evp.ob (zbi lo f M0 ad hlo hf 1 (by omega) 4 (X / 2) (Y / 2) (.inr rfl) z1 y1 d' c d (damp - 1) hd8 s2 s4 (by omega) os M hp hB) ?_
  rintro _ ⟨B,cb,bs,M2,rfl,p2,hbl,e2,hne,rB⟩
  simp only [RD,RE,Nat.reduceAdd,Nat.reduceLT]
  refine Evp.pos (by decide) (Evp.some rfl (Evp.some rfl (Evp.some rfl ?_)))
  refine Evp.ob (zdk lo f M0 ad cc hlo hf 1 (by omega) 4 (X / 2) (Y / 2) (.inr rfl) z1 y1 B cb bs hbl os M2 (hp.trans p2) (hB.pre p2) hne rB) ?_
  rintro _ ⟨M3,rfl,p3,b3⟩
  simp only [RD,RE,Nat.reduceAdd,Nat.reduceLT]
  rw [← e2] at b3
  rw [show i64.wrap (1+1)=2 from by decide]
  refine Evp.ret ?_
  refine kut (fun k=>z9.Pe k ..) ?_
  refine Evp.tt rfl (Evp.pos (by decide) (Evp.some rfl (Evp.some rfl (Evp.some rfl ?_))))
  rw [w64 (x:=damp - 1) (by omega)]
  refine Evp.ob (zdj _ d M3) ?_
  rintro _ rfl
  simp only [RD,RE,Nat.reduceAdd,Nat.reduceLT]
  refine Evp.ob (zbi lo f M0 ad hlo hf 2 (by omega) 4 (X / 2) (Y / 2) (.inr rfl) z2 y2 d' c d (damp - 1) hd8 s2 s4 (by omega) _ M3 p3 b3) ?_
  rintro _ ⟨B,cb,bs,M4,rfl,p4,hbl,e4,hne,rB⟩
  simp only [RD,RE,Nat.reduceAdd,Nat.reduceLT]
  refine Evp.pos (by decide) (Evp.some rfl (Evp.some rfl (Evp.some rfl ?_)))
  refine Evp.ob (zdk lo f M0 ad cc hlo hf 2 (by omega) 4 (X / 2) (Y / 2) (.inr rfl) z2 y2 B cb bs hbl _ M4 (p3.trans p4) (b3.pre p4) hne rB) ?_
  rintro _ ⟨M5,rfl,p5,b5⟩
  simp only [RD,RE,Nat.reduceAdd,Nat.reduceLT]
  rw [← e4] at b5
  rw [show i64.wrap (2+1)=3 from by decide]
  refine Evp.ret ?_
  refine kut (fun k=>z9.Pe k ..) ?_
  exact Evp.ff rfl (Evp.ret (Run.ret ⟨M5,rfl,p5,b5⟩))
 have luma:∀ (M:Mem) (d':Nat) (pri:Int),d'=(if a=0 then 0 else best)→pri=ka a str→Pre M0 M→Bufs M0 M f ad os →
   Run P T lo F.z9 (z9.Cb X Y damp best pri d' f.p0.w f.p0.h f.p0.A f.p0.xs.length f.p0.c f.p1.w f.p1.h f.p1.A f.p1.xs.length f.p1.c f.p2.w f.p2.h f.p2.A f.p2.xs.length f.p2.c f.p0.w f.p0.h (some (ad 0)) f.p0.xs.length (cc 0) f.p1.w f.p1.h (some (ad 1)) f.p1.xs.length (cc 1) f.p2.w f.p2.h (some (ad 2)) f.p2.xs.length (cc 2) a b c d X Y 8 8 M) fun r=>∃ M',r=(.tuple ⟨[]⟩,M')∧Pre M0 M'∧Bufs M0 M' f ad (fun n=>if n=0 then z0z f.p0 (os n) X Y 8 (if a=0 then 0 else best) (ka a str).toNat (ua b).toNat damp else z0z (f.at n) (os n) (X / 2) (Y / 2) 4 (if c=0 then 0 else best) c.toNat (ua d).toNat (damp - 1)):=fun M d' pri hd' hpri hp hB=>by
  have hd8:d' < 8:=by rw [hd'];split <;> omega
  rw [← hstr] at hpr
  refine kut (fun k=>z9.Pb k ..) ?_
  refine Evp.ob (zdj _ b M) ?_
  rintro _ rfl
  simp only [RD,RE,Nat.reduceAdd,Nat.reduceLT]
  refine Evp.ob (zbi lo f M0 ad hlo hf 0 (by omega) 8 X Y (.inl rfl) hX.2 hY.2 d' pri b damp hd8 (by rw [hpri];exact hpr) s3 (by omega) os M hp hB) ?_
  rintro _ ⟨B,cb,bs,M2,rfl,p2,hbl,e2,hne,rB⟩
  simp only [RD,RE,Nat.reduceAdd,Nat.reduceLT]
  refine Evp.ob (zdk lo f M0 ad cc hlo hf 0 (by omega) 8 X Y (.inl rfl) hX.2 hY.2 B cb bs hbl os M2 (hp.trans p2) (hB.pre p2) hne rB) ?_
  rintro _ ⟨M3,rfl,p3,b3⟩
  simp only [RD,RE,Nat.reduceAdd,Nat.reduceLT]
  rw [← e2] at b3
  have fin:∀ d'':Nat,d''=(if c=0 then 0 else best)→Run P T lo F.z9 (z9.Cd X Y damp d'' f.p0.w f.p0.h f.p0.A f.p0.xs.length f.p0.c f.p1.w f.p1.h f.p1.A f.p1.xs.length f.p1.c f.p2.w f.p2.h f.p2.A f.p2.xs.length f.p2.c f.p0.w f.p0.h (some (ad 0)) f.p0.xs.length (cc 0) f.p1.w f.p1.h (some (ad 1)) f.p1.xs.length (cc 1) f.p2.w f.p2.h (some (ad 2)) f.p2.xs.length (cc 2) a b c d M3) fun r=>∃ M',r=(.tuple ⟨[]⟩,M')∧Pre M0 M'∧Bufs M0 M' f ad (fun n=>if n=0 then z0z f.p0 (os n) X Y 8 (if a=0 then 0 else best) (ka a str).toNat (ua b).toNat damp else z0z (f.at n) (os n) (X / 2) (Y / 2) 4 (if c=0 then 0 else best) c.toNat (ua d).toNat (damp - 1)):=fun d'' hd''=>by
   refine (colours _ M3 d'' hd'' p3 b3).mono ?_
   rintro _ ⟨M',rfl,q1,q2⟩
   refine ⟨M',rfl,q1,q2.congr fun n hn=>?_⟩
   rw [hd',hpri]
   rcases lt3 hn with rfl | rfl | rfl <;> rfl
  exact Evp.eqb (fun g=>Evp.ret (fin 0 (by rw [if_pos g]))) fun g=>Evp.ret (fin best (by rw [if_neg g]))
 have dirs:∀ (M:Mem) (pri:Int),pri=ka a str→Pre M0 M→Bufs M0 M f ad os →
   Run P T lo F.z9 (z9.Ca X Y damp best pri f.p0.w f.p0.h f.p0.A f.p0.xs.length f.p0.c f.p1.w f.p1.h f.p1.A f.p1.xs.length f.p1.c f.p2.w f.p2.h f.p2.A f.p2.xs.length f.p2.c f.p0.w f.p0.h (some (ad 0)) f.p0.xs.length (cc 0) f.p1.w f.p1.h (some (ad 1)) f.p1.xs.length (cc 1) f.p2.w f.p2.h (some (ad 2)) f.p2.xs.length (cc 2) a b c d X Y 8 8 M) fun r=>∃ M',r=(.tuple ⟨[]⟩,M')∧Pre M0 M'∧Bufs M0 M' f ad (fun n=>if n=0 then z0z f.p0 (os n) X Y 8 (if a=0 then 0 else best) (ka a str).toNat (ua b).toNat damp else z0z (f.at n) (os n) (X / 2) (Y / 2) 4 (if c=0 then 0 else best) c.toNat (ua d).toNat (damp - 1)):=fun M pri hpri hp hB=>by
  refine kut (fun k=>z9.Pa k ..) ?_
  exact Evp.eqb (fun g=>Evp.ret (luma M 0 pri (by rw [if_pos g]) hpri hp hB)) fun g=>Evp.ret (luma M best pri (by rw [if_neg g]) hpri hp hB)
 refine Ac.of (Evp.of_eq (fun k=>z9.entry k ..) ?_)
 refine Evp.ob (zqg lo f.p0.w f.p0.h f.p0.A f.p0.c f.p0.xs X Y 8 8 M ((hf.rd 0 (by omega)).pre hp) (Nat.le_trans hlo hp.len)) ?_
 rintro ⟨v,M2⟩ ⟨p2,hb⟩
 rw [if_pos ⟨hf.chk 0 (by omega),show jr f.p0.w f.p0.h X Y 8 8 from ⟨by decide,by decide,by omega,by omega,by omega,by omega⟩⟩] at hb
 obtain ⟨B,cb,e',gB,_⟩:=hb
 have e8:v7 f.p0.w.toNat f.p0.xs (X:Int).toNat (Y:Int).toNat (8:Int).toNat ((8:Int).toNat*(8:Int).toNat)=ug f X Y:=rfl
 rw [e8] at e' gB
 simp only at e' gB p2
 subst e'
 simp only [RD,RE,Nat.reduceAdd,Nat.reduceLT]
 have rB:RdI M2 .u8 B (ug f X Y):=gB.rd
 refine Evp.ob (zf6 lo B cb (ug f X Y) M2 (Nat.le_trans hlo (hp.trans p2).len) rB (z5a (hf.by_ 0 (by omega)) X Y)) ?_
 rintro _ ⟨M3,p3,rfl⟩
 rw [if_pos (zh8 f X Y)]
 simp only [RD,RE,Nat.reduceAdd,Nat.reduceLT]
 rw [← hbest,← hstr]
 rw [← hstr] at hst
 have q3:=(hp.trans p2).trans p3
 have b3:=(hB.pre p2).pre p3
 rw [ud 6 (by omega),show ((2:Int) ^ 6)=64 from rfl]
 have mul:∀ (i:Int) (M:Mem),(0≤i∧i≤12)→(a*(4+i)+8) / 16=ka a str→Pre M0 M→Bufs M0 M f ad os →
   Run P T lo F.z9 (z9.Cc X Y damp best i f.p0.w f.p0.h f.p0.A f.p0.xs.length f.p0.c f.p1.w f.p1.h f.p1.A f.p1.xs.length f.p1.c f.p2.w f.p2.h f.p2.A f.p2.xs.length f.p2.c f.p0.w f.p0.h (some (ad 0)) f.p0.xs.length (cc 0) f.p1.w f.p1.h (some (ad 1)) f.p1.xs.length (cc 1) f.p2.w f.p2.h (some (ad 2)) f.p2.xs.length (cc 2) a b c d X Y 8 8 M) fun r=>∃ M',r=(.tuple ⟨[]⟩,M')∧Pre M0 M'∧Bufs M0 M' f ad (fun n=>if n=0 then z0z f.p0 (os n) X Y 8 (if a=0 then 0 else best) (ka a str).toNat (ua b).toNat damp else z0z (f.at n) (os n) (X / 2) (Y / 2) 4 (if c=0 then 0 else best) c.toNat (ua d).toNat (damp - 1)):=fun i M hi he hp hB=>by
  have ml:=ks (a:=a) (b:=4+i) (A:=15) (B:=16) (by omega) (by omega)
  refine kut (fun k=>z9.Pc k ..) ?_
  rw [w64 (x:=4+i) (by omega),w64 (x:=a*(4+i)) (by omega),w64 (x:=a*(4+i)+8) (by omega),ud 4 (by omega),show ((2:Int) ^ 4)=16 from rfl]
  exact Evp.ret (dirs M _ he hp hB)
 refine Evp.dec (fun k1=>?_) fun k1=>?_
 ·refine Evp.dec (fun k2=>?_) fun k2=>?_
  ·obtain ⟨x,hx⟩:=Int.eq_ofNat_of_zero_le (a:=str / 64) (by omega)
   rw [hx]
   refine Evp.ob (zmv lo x M3 (by omega)) ?_
   rintro _ rfl
   simp only [RD,RE,Nat.reduceAdd,Nat.reduceLT]
   refine Evp.ret (mul _ M3 (by unfold zq;split <;> omega) ?_ q3 b3)
   unfold ka
   rw [if_neg (by omega),if_neg (by omega),hx]
   rfl
  ·refine Evp.ret (mul 0 M3 (by omega) ?_ q3 b3)
   unfold ka
   rw [if_neg (by omega),if_pos (by omega),Int.add_zero,Int.mul_comm]
 ·refine Evp.ret (dirs M3 0 ?_ q3 b3)
  unfold ka
  rw [if_pos (by omega)]
end
theorem zkw (lo:Nat)(f:Fr3)(M:Mem)(hlo:lo≤M.length)(hf:FrOk M f):Ac P T lo F.y7 [.agg ⟨f.cells⟩] M fun r=>∃ ad cc M',r=(.agg ⟨csL f ad cc⟩,M')∧Pre M M'∧(∀ n,n < 3→(f.at n).xs.length≤cc n)∧Bufs M M' f ad fun n=>(f.at n).xs:=by
 have sm:∀ n,n < 3→(f.at n).xs.length≤140737488351232:=fun n hn=>by
  have:=zy (hf.chk n hn)
  have a:=zbr ⟨this.1,this.2.1,this.2.2.1,this.2.2.2.1⟩
  have h:=this.2.2.2.2
  omega
 refine Ac.of (Evp.of_eq (fun k=>y7.entry k ..) ?_)
 refine Evp.ret ?_
 refine kut (fun k=>y7.Pa k ..) ?_
 refine Evp.tt rfl (Evp.pos (by decide) (Evp.some rfl (Evp.some rfl (Evp.some rfl ?_))))
 refine Evp.ob (vu _ _ _ _ _ _ _ (hf.rd 0 (by omega)) (sm 0 (by omega))) ?_
 rintro _ ⟨B0,d0,M1,rfl,p1,g1,k1⟩
 simp only [RD,RE,Nat.reduceAdd,Nat.reduceLT]
 refine Evp.pos (by decide) (Evp.pos (Nat.le_of_ble_eq_true rfl) ?_)
 rw [show i64.wrap (0+1)=1 from by decide]
 refine Evp.ret ?_
 refine kut (fun k=>y7.Pa k ..) ?_
 refine Evp.tt rfl (Evp.pos (by decide) (Evp.some rfl (Evp.some rfl (Evp.some rfl ?_))))
 refine Evp.ob (vu _ _ _ _ _ _ _ ((hf.rd 1 (by omega)).pre p1) (sm 1 (by omega))) ?_
 rintro _ ⟨B1,d1,M2,rfl,p2,g2,k2⟩
 simp only [RD,RE,Nat.reduceAdd,Nat.reduceLT]
 refine Evp.pos (by decide) (Evp.pos (Nat.le_of_ble_eq_true rfl) ?_)
 rw [show i64.wrap (1+1)=2 from by decide]
 refine Evp.ret ?_
 refine kut (fun k=>y7.Pa k ..) ?_
 refine Evp.tt rfl (Evp.pos (by decide) (Evp.some rfl (Evp.some rfl (Evp.some rfl ?_))))
 refine Evp.ob (vu _ _ _ _ _ _ _ ((hf.rd 2 (by omega)).pre (p1.trans p2)) (sm 2 (by omega))) ?_
 rintro _ ⟨B2,d2,M3,rfl,p3,g3,k3⟩
 simp only [RD,RE,Nat.reduceAdd,Nat.reduceLT]
 refine Evp.pos (by decide) (Evp.pos (Nat.le_of_ble_eq_true rfl) ?_)
 rw [show i64.wrap (2+1)=3 from by decide]
 refine Evp.ret ?_
 refine kut (fun k=>y7.Pa k ..) ?_
 refine Evp.ff rfl ?_
 refine Evp.some rfl (Evp.some rfl (Evp.some rfl (Evp.some rfl (Evp.some rfl (Evp.some rfl (Evp.some rfl (Evp.some rfl (Evp.some rfl ?_))))))))
 obtain ⟨a0,a1,a2,rfl,rfl,rfl,hB⟩:=zjj hf p1 p2 p3 (Grow.own k1) (Grow.own k2) (Grow.own k3)
 exact Evp.ret (Run.ret ⟨z02 a0 a1 a2,z02 d0 d1 d2,M3,rfl,(p1.trans p2).trans p3,fun n hn=>by
  rcases lt3 hn with rfl | rfl | rfl
  ·exact g1
  ·exact g2
  ·exact g3,hB⟩)
section
variable (lo:Nat)(f:Fr3)(Q V:Option Addr)(qc vc:Nat)(qs:List Bool)(ws:List Int)(hd:Hd)(L:List Int)(M:Mem)
variable (hlo:lo≤M.length)(hf:FrIn M f)(hQ:RdB M Q qs)(hV:RdI M .i64 V ws)(hn:ws.length≤17592186043904)(hL:Rd M hd.A hd.n 4 (L.map (Value.int .i64)))
include hlo hf hQ hV hn hL
theorem zn0:Ac P T lo F.zv [.agg ⟨f.cells⟩,.slice Q qs.length qc,.slice V ws.length vc,.agg ⟨hd.cells⟩] M (z7g f qs ws hd L M):=by
 refine Ac.of (Evp.of_eq (fun k=>zv.entry k ..) ?_)
 refine Evp.ob (zkv lo f Q V qs.length qc vc ws hd L M hV hn hL) ?_
 rintro _ ⟨b,M0,rfl,p0,hb⟩
 simp only [RD,RE,Nat.reduceAdd,Nat.reduceLT]
 refine Evp.nb (fun g=>?_) fun g=>?_
 ·have hm:¬ uh f qs.length ws hd L:=fun e=>by rw [hb.2 e] at g;cases g
  exact Evp.ret (Run.ret ⟨p0,.inr ⟨hm,rfl⟩⟩)
 have hm:=hb.1 g
 have hw:=hm.1
 have hf0:=(hf.ok hw).pre p0
 have hlo0:=Nat.le_trans hlo p0.len
 refine Evp.ob (zkw lo f M0 hlo0 hf0) ?_
 rintro _ ⟨ad,cc,M1,rfl,p1,hcc,hB⟩
 simp only [RD,RE,Nat.reduceAdd,Nat.reduceLT]
 have flo:∀ (M':Mem) (os:Nat→List Int),Bufs M0 M' f ad os→Bufs M M' f ad os:=fun M' os h=>⟨fun n hn=>(h.buf n hn).floor p0.len,h.len,h.ne⟩
 refine Evp.nb (fun gc=>?_) fun gc=>?_
 ·refine Evp.ret (Run.ret ⟨p0.trans p1,.inl ⟨hm,ad,cc,rfl,hcc,?_⟩⟩)
  unfold vq
  rw [if_neg (by rw [gc];decide)]
  exact flo _ _ hB
 have hC:=hm.2.2.2.2.2 gc
 have sw:jq f.p0.w:=hw.2.1
 have sh:jq f.p0.h:=hw.2.2.1
 unfold jq at sw sh
 have h8:=hm.2.1
 have v8:=hm.2.2.1
 have hq0:=hm.2.2.2.1
 have hws:=hm.2.2.2.2.1
 obtain ⟨W,hW⟩:=Int.eq_ofNat_of_zero_le (a:=f.p0.w) (by omega)
 obtain ⟨H,hH⟩:=Int.eq_ofNat_of_zero_le (a:=f.p0.h) (by omega)
 have eW:f.p0.w.toNat=W:=by omega
 have eH:f.p0.h.toNat=H:=by omega
 have hq:qs.length=W / 8*(H / 8):=by
  rw [hW,hH,show (W:Int) / 8=((W / 8:Nat):Int) by omega,show (H:Int) / 8=((H / 8:Nat):Int) by omega,← Int.natCast_mul] at hq0
  omega
 have hwl:ws.length=(W+63) / 64*((H+63) / 64):=by
  rw [hW,hH,show ((W:Int)+63) / 64=(((W+63) / 64:Nat):Int) by omega,show ((H:Int)+63) / 64=(((H+63) / 64:Nat):Int) by omega,← Int.natCast_mul] at hws
  omega
 have hqm:qs.length≤32*32:=by rw [hq];exact Nat.mul_le_mul (by omega) (by omega)
 have hwm:ws.length≤5*5:=by rw [hwl];exact Nat.mul_le_mul (by omega) (by omega)
 have rows:∀ (e j:Nat) (M2:Mem),H / 8 - j=e→j≤H / 8→Pre M0 M2→Bufs M0 M2 f ad (vt f qs ws L hd.damp (j*(W / 8))) →
   Run P T lo F.zv (zv.Ca Q qs.length qc V ws.length vc f.p0.w f.p0.h ((8*j:Nat):Int) f.p0.w f.p0.h f.p0.A f.p0.xs.length f.p0.c f.p1.w f.p1.h f.p1.A f.p1.xs.length f.p1.c f.p2.w f.p2.h f.p2.A f.p2.xs.length f.p2.c hd.h0 hd.h1 hd.h2 hd.h3 hd.h4 hd.h5 hd.h6 hd.h7 hd.h8 hd.h9 hd.h10 hd.h11 hd.h12 hd.h13 hd.h14 hd.h15 hd.h16 hd.h17 hd.h18 hd.h19 hd.h20 hd.h21 hd.h22 hd.cdef hd.damp hd.h25 hd.A hd.n hd.c hd.h27 hd.h28 hd.h29 0 0 none 0 0 0 0 none 0 0 0 0 none 0 0 f.p0.w f.p0.h (some (ad 0)) f.p0.xs.length (cc 0) f.p1.w f.p1.h (some (ad 1)) f.p1.xs.length (cc 1) f.p2.w f.p2.h (some (ad 2)) f.p2.xs.length (cc 2) M2) (z7g f qs ws hd L M):=by
  intro e
  induction e with
  | zero=>
   intro j M2 he hj hp hB
   obtain rfl:j=H / 8:=by omega
   refine kut (fun k=>zv.Pa k ..) ?_
   refine Evp.dec (fun g=>absurd g (by omega)) fun _=>Evp.ret (Run.ret ⟨p0.trans hp,.inl ⟨hm,ad,cc,rfl,hcc,?_⟩⟩)
   unfold vq
   rw [if_pos gc,hq,Nat.mul_comm]
   exact flo _ _ hB
  | succ e ih=>
   intro j M2 he hj hp hB
   have hjH:j < H / 8:=by omega
   have cols:∀ (e i:Nat) (M2:Mem),W / 8 - i=e→i≤W / 8→Pre M0 M2→Bufs M0 M2 f ad (vt f qs ws L hd.damp (j*(W / 8)+i)) →
     Run P T lo F.zv (zv.Cb Q qs.length qc V ws.length vc f.p0.w f.p0.h ((8*j:Nat):Int) ((8*i:Nat):Int) f.p0.w f.p0.h f.p0.A f.p0.xs.length f.p0.c f.p1.w f.p1.h f.p1.A f.p1.xs.length f.p1.c f.p2.w f.p2.h f.p2.A f.p2.xs.length f.p2.c hd.h0 hd.h1 hd.h2 hd.h3 hd.h4 hd.h5 hd.h6 hd.h7 hd.h8 hd.h9 hd.h10 hd.h11 hd.h12 hd.h13 hd.h14 hd.h15 hd.h16 hd.h17 hd.h18 hd.h19 hd.h20 hd.h21 hd.h22 hd.cdef hd.damp hd.h25 hd.A hd.n hd.c hd.h27 hd.h28 hd.h29 0 0 none 0 0 0 0 none 0 0 0 0 none 0 0 f.p0.w f.p0.h (some (ad 0)) f.p0.xs.length (cc 0) f.p1.w f.p1.h (some (ad 1)) f.p1.xs.length (cc 1) f.p2.w f.p2.h (some (ad 2)) f.p2.xs.length (cc 2) M2) (z7g f qs ws hd L M):=by
    intro e
    induction e with
    | zero=>
     intro i M2 he hi hp hB
     obtain rfl:i=W / 8:=by omega
     refine kut (fun k=>zv.Pb k ..) ?_
     refine Evp.dec (fun g=>absurd g (by omega)) fun _=>?_
     rw [w64 (x:=((8*j:Nat):Int)+8) (by omega),show ((8*j:Nat):Int)+8=((8*(j+1):Nat):Int) by omega]
     rw [← Nat.succ_mul] at hB
     exact Evp.ret (ih (j+1) M2 (by omega) (by omega) hp hB)
    | succ e ih2=>
     intro i M2 he hi hp hB
     have hiW:i < W / 8:=by omega
     obtain ⟨d1,d2⟩:=dm (W:=W / 8) (r:=j) (s:=i) hiW
     have hkl:j*(W / 8)+i < qs.length:=by rw [hq,Nat.mul_comm (W / 8)];exact zcp hjH hiW
     have on:∀ M',Pre M0 M'→Bufs M0 M' f ad (vt f qs ws L hd.damp (j*(W / 8)+i+1))→Run P T lo F.zv (zv.Cc Q qs.length qc V ws.length vc f.p0.w f.p0.h ((8*j:Nat):Int) ((8*i:Nat):Int) f.p0.w f.p0.h f.p0.A f.p0.xs.length f.p0.c f.p1.w f.p1.h f.p1.A f.p1.xs.length f.p1.c f.p2.w f.p2.h f.p2.A f.p2.xs.length f.p2.c hd.h0 hd.h1 hd.h2 hd.h3 hd.h4 hd.h5 hd.h6 hd.h7 hd.h8 hd.h9 hd.h10 hd.h11 hd.h12 hd.h13 hd.h14 hd.h15 hd.h16 hd.h17 hd.h18 hd.h19 hd.h20 hd.h21 hd.h22 hd.cdef hd.damp hd.h25 hd.A hd.n hd.c hd.h27 hd.h28 hd.h29 0 0 none 0 0 0 0 none 0 0 0 0 none 0 0 f.p0.w f.p0.h (some (ad 0)) f.p0.xs.length (cc 0) f.p1.w f.p1.h (some (ad 1)) f.p1.xs.length (cc 1) f.p2.w f.p2.h (some (ad 2)) f.p2.xs.length (cc 2) M') (z7g f qs ws hd L M):=fun M' q1 q2=>by
      refine kut (fun k=>zv.Pc k ..) ?_
      rw [w64 (x:=((8*i:Nat):Int)+8) (by omega),show ((8*i:Nat):Int)+8=((8*(i+1):Nat):Int) by omega]
      exact Evp.ret (ih2 (i+1) M' (by omega) (by omega) q1 q2)
     have ek:i64.wrap ((i64.wrap ((i64.wrap (Int.tdiv ((8*j:Nat):Int) 8))*(i64.wrap (Int.tdiv f.p0.w 8))))+(i64.wrap (Int.tdiv ((8*i:Nat):Int) 8)))=((j*(W / 8)+i:Nat):Int):=by
      rw [hW,show Int.tdiv ((8*j:Nat):Int) 8=((8*j / 8:Nat):Int) from rfl,show Int.tdiv (W:Int) 8=((W / 8:Nat):Int) from rfl,show Int.tdiv ((8*i:Nat):Int) 8=((8*i / 8:Nat):Int) from rfl,show 8*j / 8=j by omega,show 8*i / 8=i by omega,
       w64 (x:=(j:Int)) (by omega),w64 (x:=((W / 8:Nat):Int)) (by omega),w64 (x:=(i:Int)) (by omega),← Int.natCast_mul]
      generalize j*(W / 8)=u at *
      rw [w64 (x:=(u:Int)) (by omega),w64 (by omega)];omega
     refine kut (fun k=>zv.Pb k ..) ?_
     refine Evp.dec (fun _=>?_) fun g=>absurd g (by omega)
     rw [ek]
     refine Evp.pos (by omega) ?_
     simp only [Int.toNat_natCast]
     refine Evp.ldB ((hQ.pre p0).pre hp) hkl fun _ _=>?_
     refine Evp.nb (fun g=>?_) fun g=>Evp.ret (on M2 hp (show Bufs M0 M2 f ad (if qs.getD (j*(W / 8)+i) false=true then vt f qs ws L hd.damp (j*(W / 8)+i) else _) from by rw [if_pos g];exact hB))
     have on2:=fun M' q1 q2=>on M' q1 (show Bufs M0 M' f ad (if qs.getD (j*(W / 8)+i) false=true then vt f qs ws L hd.damp (j*(W / 8)+i) else _) from by rw [if_neg (by rw [g];decide)];exact q2)
     clear on
     rw [eW,d1,d2] at on2
     have bX:8*i % 8=0∧8*i+8≤W:=by omega
     have bY:8*j % 8=0∧8*j+8≤H:=by omega
     have hJ:8*j / 64*((W+63) / 64)+8*i / 64 < ws.length:=by
      rw [hwl,Nat.mul_comm ((W+63) / 64)]
      exact zcp (by omega) (by omega)
     have eJ:i64.wrap ((i64.wrap ((i64.wrap (Int.tdiv ((8*j:Nat):Int) 64))*(i64.wrap (Int.tdiv (i64.wrap (f.p0.w+63)) 64))))+(i64.wrap (Int.tdiv ((8*i:Nat):Int) 64)))=((8*j / 64*((W+63) / 64)+8*i / 64:Nat):Int):=by
      rw [hW,w64 (x:=(W:Int)+63) (by omega),show (W:Int)+63=((W+63:Nat):Int) by omega,show Int.tdiv ((W+63:Nat):Int) 64=(((W+63) / 64:Nat):Int) from rfl,
       show Int.tdiv ((8*j:Nat):Int) 64=((8*j / 64:Nat):Int) from rfl,show Int.tdiv ((8*i:Nat):Int) 64=((8*i / 64:Nat):Int) from rfl,w64 (x:=(((W+63) / 64:Nat):Int)) (by omega),w64 (x:=((8*j / 64:Nat):Int)) (by omega),w64 (x:=((8*i / 64:Nat):Int)) (by omega),← Int.natCast_mul]
      generalize 8*j / 64*((W+63) / 64)=u at *
      rw [w64 (x:=(u:Int)) (by omega),w64 (by omega)];omega
     rw [eJ]
     generalize 8*j / 64*((W+63) / 64)+8*i / 64=J at *
     refine Evp.pos (by omega) ?_
     simp only [Int.toNat_natCast]
     refine Evp.ldI ((hV.pre p0).pre hp) hJ fun _ _=>?_
     have hJ4:=hC.2.2.2 J hJ
     refine Evp.pos (by omega) ?_
     obtain ⟨q,hq'⟩:∃ q,q=(ws.getD J 0).toNat:=⟨_,rfl⟩
     rw [← hq'] at on2 ⊢
     have hqn:q < hd.n:=by omega
     obtain ⟨a,ea,l0,l1,l2,l3⟩:=ldS ((hL.pre p0).pre hp) (i:=q) hqn
     have sq:=hC.2.2.1 q hqn
     refine Evp.some ea (Evp.some l0 (Evp.some l1 (Evp.some l2 (Evp.some l3 ?_))))
     refine Evp.ob (zqh lo f M0 ad cc hlo0 hf0 hw h8 v8 (8*i) (8*j) ⟨bX.1,by omega⟩ ⟨bY.1,by omega⟩ _ _ _ _ hd.damp sq hC.1 _ M2 hp hB) ?_
     rintro _ ⟨M3,rfl,p3,b3⟩
     simp only [RD,RE,Nat.reduceAdd,Nat.reduceLT]
     exact Evp.ret (on2 M3 p3 b3)
   refine kut (fun k=>zv.Pa k ..) ?_
   refine Evp.dec (fun _=>?_) fun g=>absurd g (by omega)
   exact Evp.ret (cols _ 0 M2 rfl (Nat.zero_le _) hp hB)
 refine Evp.ret (rows _ 0 M1 rfl (Nat.zero_le _) p1 ?_)
 rw [Nat.zero_mul]
 exact hB
end
end Go.Zt

