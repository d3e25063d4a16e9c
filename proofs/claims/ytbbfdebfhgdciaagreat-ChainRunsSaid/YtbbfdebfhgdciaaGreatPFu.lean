/- What the law ChainRuns needs of the text Fu. -/
import Derived.Test.YtbbfdebfhgdciaaGreatPFc
set_option linter.unusedVariables false
set_option linter.unusedSimpArgs false
set_option maxRecDepth 100000
namespace Go.Zt
open IntKind (i64 u8)
theorem ui (lo:Nat)(A:Option Addr)(c:Nat)(xs:List Int)(M:Mem)(hx:RdI M .u8 A xs)(hn:xs.length≤140737488351232)(hlo:lo≤M.length) :
  Ac P T lo F.z64 [.slice A xs.length c] M fun r=>∃ A' c' M',r=(.slice A' xs.length c',M')∧Pre M M'∧xs.length≤c'∧Grow M M' 1 A' xs.length (xs.map (Value.int .u8)):=by
 refine Ac.of (Evp.of_eq (fun k=>z64.entry k ..) ?_)
 refine Evp.some hx.src ?_
 obtain ⟨s,M',h1,h2,h3,h4,_,h5⟩:=(Grow.nil (M0:=M) (M:=M) (z:=1)).app (bytes:=1) (c:=0) (m:=xs.length) (vs:=xs.map (Value.int .u8)) (Pre.refl M) hlo (by simp) (by omega) (by omega)
 rw [Nat.zero_add] at h3
 refine Evp.some h1 (Evp.ret (Run.ret ⟨s.a,s.c,M',?_,h4,by rw [← h3];exact h5 (Nat.zero_le _),?_⟩))
 ·simp only [h3]
 ·rw [h3] at h2;exact h2
theorem vp (lo:Nat)(v a b:Int)(M:Mem):Ac P T lo F.za4 [.int .i64 v,.int .i64 a,.int .i64 b] M fun r=>r=(.int .i64 (y8 v a b),M):=by
 refine Ac.of (Evp.of_eq (fun k=>za4.entry k ..) ?_)
 unfold y8
 refine Evp.dec (fun h=>Evp.ret (Run.ret (by rw [if_pos h]))) fun h=>?_
 rw [if_neg h]
 refine Evp.dec (fun h=>Evp.ret (Run.ret (by rw [if_pos h]))) fun h=>Evp.ret (Run.ret (by rw [if_neg h]))
theorem zch (lo:Nat)(d:Int)(M:Mem)(hd : -9223372036854775807≤d):Ac P T lo F.zat [.int .i64 d] M fun r=>r=(.int .i64 (jw d),M):=by
 refine Ac.of (Evp.of_eq (fun k=>zat.entry k ..) ?_)
 refine Evp.dec (fun h=>?_) fun h=>?_
 ·rw [w64 (by omega)]
  refine Evp.ret (Run.ret ?_)
  unfold jw;rw [if_pos h,Int.zero_sub]
 ·refine Evp.ret (Run.ret ?_)
  unfold jw;rw [if_neg h]
section
variable (lo:Nat)(A:Option Addr)(c:Nat)(xs:List Int)(M:Mem)
theorem z0x (hx:RdI M .u8 A xs)(bx:zh xs)(hn:xs.length≤1000)(i:Int)(h0:0≤((xs.length / 2:Nat):Int)+i)(h1:((xs.length / 2:Nat):Int)+i < xs.length):Ac P T lo F.zbw [.slice A xs.length c,.int .i64 i] M fun r=>r=(.int .i64 (atE xs i),M):=by
 have e:Int.tdiv (xs.length:Int) 2=((xs.length / 2:Nat):Int):=rfl
 refine Ac.of (Evp.of_eq (fun k=>zbw.entry k ..) ?_)
 rw [e,w64 (x:=((xs.length / 2:Nat):Int)) (by omega),w64 (x:=((xs.length / 2:Nat):Int)+i) (by omega)]
 refine Evp.pos (by omega) (Evp.ldI hx (by omega) fun _ _=>?_)
 have:=bx.get (((xs.length / 2:Nat):Int)+i).toNat
 rw [w64 (by omega)]
 exact Evp.ret (Run.ret rfl)
theorem jo (hx:RdI M .u8 A xs)(bx:zh xs)(hn:xs.length≤1000)(i k:Int)(h0:0≤((xs.length / 2:Nat):Int)+i)(h1:((xs.length / 2:Nat):Int)+i < xs.length)(h2:0≤((xs.length / 2:Nat):Int)+k)(h3:((xs.length / 2:Nat):Int)+k < xs.length) :
  Ac P T lo F.zav [.slice A xs.length c,.int .i64 i,.int .i64 k] M fun r=>r=(.int .i64 (yo xs i k),M):=by
 refine Ac.of (Evp.of_eq (fun k=>zav.entry k ..) ?_)
 refine Evp.ob (z0x _ _ _ _ _ hx bx hn i h0 h1) ?_
 rintro _ rfl
 simp only [RD,RE,Nat.reduceAdd,Nat.reduceLT]
 refine Evp.ob (z0x _ _ _ _ _ hx bx hn k h2 h3) ?_
 rintro _ rfl
 simp only [RD,RE,Nat.reduceAdd,Nat.reduceLT]
 have a1:=qq xs bx i
 have a2:=qq xs bx k
 rw [w64 (x:=atE xs i - atE xs k) (by omega)]
 refine Evp.ob (zch _ _ _ (by omega)) ?_
 rintro _ rfl
 simp only [RD,RE,Nat.reduceAdd,Nat.reduceLT]
 exact Evp.ret (Run.ret rfl)
end
theorem zn1 (lo:Nat)(level sharp:Int)(M:Mem)(hl:0≤level∧level≤63)(hs:0≤sharp∧sharp≤7):Ac P T lo F.yc [.int .i64 level,.int .i64 sharp] M fun r=>r=(.int .i64 (zm level sharp),M):=by
 have t4:Int.tdiv level 4=level / 4:=Int.tdiv_eq_ediv_of_nonneg hl.1
 have t2:Int.tdiv level 2=level / 2:=Int.tdiv_eq_ediv_of_nonneg hl.1
 have fin:∀ z:Int,yv z 1=zm level sharp→Run P T lo F.yc (yc.Cb z M) fun r=>r=(.int .i64 (zm level sharp),M):=fun z e=>by
  refine kut (fun k=>yc.Pb k ..) ?_
  rw [e];exact Evp.ret (Run.ret rfl)
 refine Ac.of (Evp.of_eq (fun k=>yc.entry k ..) ?_)
 rw [t4,t2,w64 (x:=level / 4) (by omega),w64 (x:=level / 2) (by omega)]
 refine Evp.dec (fun h1=>Evp.ret ?_) fun h1=>?_
 ·refine kut (fun k=>yc.Pa k ..) ?_
  refine Evp.dec (fun _=>?_) fun h=>absurd h (by omega)
  rw [w64 (x:=9 - sharp) (by omega)]
  exact Evp.ret (fin _ (by unfold zm;rw [if_pos h1]))
 refine Evp.dec (fun h2=>Evp.ret ?_) fun h2=>?_
 ·refine kut (fun k=>yc.Pa k ..) ?_
  refine Evp.dec (fun _=>?_) fun h=>absurd h (by omega)
  rw [w64 (x:=9 - sharp) (by omega)]
  exact Evp.ret (fin _ (by unfold zm;rw [if_neg h1,if_pos h2]))
 refine Evp.ret ?_
 refine kut (fun k=>yc.Pa k ..) ?_
 refine Evp.dec (fun h=>absurd h (by omega)) fun _=>?_
 exact Evp.ret (fin _ (by unfold zm;rw [if_neg h1,if_neg h2]))
theorem zop {xs:List Int}{l:Int}{n:Nat}(h:vv xs l n)(k:Nat)(h1:1≤k)(h2:k≤n):yo xs (-(k+1)) (-k)≤l∧yo xs k (k - 1)≤l:=by
 obtain ⟨j,rfl⟩:∃ j,k=j+1:=⟨k - 1,by omega⟩
 have:=(z6x (k:=j+1) h2 h).2
 rw [show -(((j+1:Nat):Int)+1)=-2 - j by omega,show -((j+1:Nat):Int)=-1 - j by omega,show ((j+1:Nat):Int) - 1=j by omega,show ((j+1:Nat):Int)=(j:Int)+1 by omega]
 exact this
theorem zn2 {level sharp:Int}(hl:0≤level∧level≤63)(hs:0≤sharp∧sharp≤7):1≤zm level sharp∧zm level sharp≤63:=by
 unfold zm yv zq
 split <;> split <;> (try split) <;> (try split) <;> omega
section
variable (lo:Nat)(A:Option Addr)(c:Nat)(xs:List Int)(M:Mem)(level sharp:Int)
theorem z3i (hx:RdI M .u8 A xs)(bx:zh xs)(hlen:xs.length=4∨xs.length=6∨xs.length=8∨xs.length=14)(hl:0≤level∧level≤63)(hs:0≤sharp∧sharp≤7) :
  Ac P T lo F.z6z [.slice A xs.length c,.int .i64 (xs.length:Int),.int .i64 level,.int .i64 sharp] M fun r=>r=(.bool (decide (level≠0∧z09 xs (zm level sharp) (2*(level+2)+zm level sharp))),M):=by
 have hn:xs.length≤1000:=by omega
 have f1:=zak bx (-1) 0
 have f2:=zak bx (-2) 1
 have hlim:=zn2 hl hs
 have no:¬ (level≠0∧z09 xs (zm level sharp) (2*(level+2)+zm level sharp))→Run P T lo F.z6z (.ret (.bool false) M) fun r=>r=(.bool (decide (level≠0∧z09 xs (zm level sharp) (2*(level+2)+zm level sharp))),M):=fun h=>Run.ret (by rw [decide_eq_false h])
 have sm:z09 xs (zm level sharp) (2*(level+2)+zm level sharp)→∀ k:Nat,1≤k∧k≤min (xs.length / 2) 4 - 1→yo xs (-(k+1)) (-k)≤zm level sharp∧yo xs k (k - 1)≤zm level sharp:=fun h k hk=>zop h.1 k hk.1 hk.2
 refine Ac.of (Evp.of_eq (fun k=>z6z.entry k ..) ?_)
 refine Evp.eqb (fun h=>Evp.ret (no fun e=>e.1 h)) fun h0=>?_
 refine Evp.ob (zn1 _ _ _ _ hl hs) ?_
 rintro _ rfl
 simp only [RD,RE,Nat.reduceAdd,Nat.reduceLT]
 rcases hlen with hlen | hlen | hlen | hlen
 ·have hk:min (xs.length / 2) 4 - 1=1:=by omega
  refine Evp.ob (jo _ _ _ _ _ hx bx hn (-2) (-1) (by omega) (by omega) (by omega) (by omega)) ?_
  rintro _ rfl
  simp only [RD,RE,Nat.reduceAdd,Nat.reduceLT]
  refine Evp.dec (fun h=>Evp.ret (no fun e=>by have hh:yo xs (-2) (-1)≤zm level sharp:=(sm e.2 1 (by omega)).1;omega)) fun a1=>?_
  refine Evp.ob (jo _ _ _ _ _ hx bx hn 1 0 (by omega) (by omega) (by omega) (by omega)) ?_
  rintro _ rfl
  simp only [RD,RE,Nat.reduceAdd,Nat.reduceLT]
  refine Evp.dec (fun h=>Evp.ret (no fun e=>by have hh:yo xs 1 0≤zm level sharp:=(sm e.2 1 (by omega)).2;omega)) fun a2=>?_
  refine Evp.dec (fun h=>absurd h (by omega)) fun _=>?_
  refine Evp.dec (fun h=>absurd h (by omega)) fun _=>?_
  have s1:vv xs (zm level sharp) 1:=⟨trivial,Int.not_lt.1 a1,Int.not_lt.1 a2⟩
  refine Evp.ob (jo _ _ _ _ _ hx bx hn (-1) 0 (by omega) (by omega) (by omega) (by omega)) ?_
  rintro _ rfl
  simp only [RD,RE,Nat.reduceAdd,Nat.reduceLT]
  refine Evp.ob (jo _ _ _ _ _ hx bx hn (-2) 1 (by omega) (by omega) (by omega) (by omega)) ?_
  rintro _ rfl
  simp only [RD,RE,Nat.reduceAdd,Nat.reduceLT]
  rw [Int.tdiv_eq_ediv_of_nonneg f2.1,w64 (x:=2*yo xs (-1) 0) (by omega),w64 (x:=yo xs (-2) 1 / 2) (by omega),w64 (x:=2*yo xs (-1) 0+yo xs (-2) 1 / 2) (by omega),w64 (x:=level+2) (by omega),w64 (x:=2*(level+2)) (by omega),w64 (x:=2*(level+2)+zm level sharp) (by omega)]
  refine Evp.ret (Run.ret ?_)
  congr 2
  exact decide_eq_decide.2 ⟨fun h=>⟨h0,by rw [hk];exact s1,h⟩,fun h=>h.2.2⟩
 ·have hk:min (xs.length / 2) 4 - 1=2:=by omega
  refine Evp.ob (jo _ _ _ _ _ hx bx hn (-2) (-1) (by omega) (by omega) (by omega) (by omega)) ?_
  rintro _ rfl
  simp only [RD,RE,Nat.reduceAdd,Nat.reduceLT]
  refine Evp.dec (fun h=>Evp.ret (no fun e=>by have hh:yo xs (-2) (-1)≤zm level sharp:=(sm e.2 1 (by omega)).1;omega)) fun a1=>?_
  refine Evp.ob (jo _ _ _ _ _ hx bx hn 1 0 (by omega) (by omega) (by omega) (by omega)) ?_
  rintro _ rfl
  simp only [RD,RE,Nat.reduceAdd,Nat.reduceLT]
  refine Evp.dec (fun h=>Evp.ret (no fun e=>by have hh:yo xs 1 0≤zm level sharp:=(sm e.2 1 (by omega)).2;omega)) fun a2=>?_
  refine Evp.dec (fun _=>?_) fun h=>absurd h (by omega)
  refine Evp.ob (jo _ _ _ _ _ hx bx hn (-3) (-2) (by omega) (by omega) (by omega) (by omega)) ?_
  rintro _ rfl
  simp only [RD,RE,Nat.reduceAdd,Nat.reduceLT]
  refine Evp.dec (fun h=>Evp.ret (no fun e=>by have hh:yo xs (-3) (-2)≤zm level sharp:=(sm e.2 2 (by omega)).1;omega)) fun b1=>?_
  refine Evp.ob (jo _ _ _ _ _ hx bx hn 2 1 (by omega) (by omega) (by omega) (by omega)) ?_
  rintro _ rfl
  simp only [RD,RE,Nat.reduceAdd,Nat.reduceLT]
  refine Evp.dec (fun h=>Evp.ret (no fun e=>by have hh:yo xs 2 1≤zm level sharp:=(sm e.2 2 (by omega)).2;omega)) fun b2=>?_
  refine Evp.dec (fun h=>absurd h (by omega)) fun _=>?_
  have s1:vv xs (zm level sharp) 1:=⟨trivial,Int.not_lt.1 a1,Int.not_lt.1 a2⟩
  have s2:vv xs (zm level sharp) 2:=⟨s1,Int.not_lt.1 b1,Int.not_lt.1 b2⟩
  refine Evp.ob (jo _ _ _ _ _ hx bx hn (-1) 0 (by omega) (by omega) (by omega) (by omega)) ?_
  rintro _ rfl
  simp only [RD,RE,Nat.reduceAdd,Nat.reduceLT]
  refine Evp.ob (jo _ _ _ _ _ hx bx hn (-2) 1 (by omega) (by omega) (by omega) (by omega)) ?_
  rintro _ rfl
  simp only [RD,RE,Nat.reduceAdd,Nat.reduceLT]
  rw [Int.tdiv_eq_ediv_of_nonneg f2.1,w64 (x:=2*yo xs (-1) 0) (by omega),w64 (x:=yo xs (-2) 1 / 2) (by omega),w64 (x:=2*yo xs (-1) 0+yo xs (-2) 1 / 2) (by omega),w64 (x:=level+2) (by omega),w64 (x:=2*(level+2)) (by omega),w64 (x:=2*(level+2)+zm level sharp) (by omega)]
  refine Evp.ret (Run.ret ?_)
  congr 2
  exact decide_eq_decide.2 ⟨fun h=>⟨h0,by rw [hk];exact s2,h⟩,fun h=>h.2.2⟩
 ·have hk:min (xs.length / 2) 4 - 1=3:=by omega
  refine Evp.ob (jo _ _ _ _ _ hx bx hn (-2) (-1) (by omega) (by omega) (by omega) (by omega)) ?_
  rintro _ rfl
  simp only [RD,RE,Nat.reduceAdd,Nat.reduceLT]
  refine Evp.dec (fun h=>Evp.ret (no fun e=>by have hh:yo xs (-2) (-1)≤zm level sharp:=(sm e.2 1 (by omega)).1;omega)) fun a1=>?_
  refine Evp.ob (jo _ _ _ _ _ hx bx hn 1 0 (by omega) (by omega) (by omega) (by omega)) ?_
  rintro _ rfl
  simp only [RD,RE,Nat.reduceAdd,Nat.reduceLT]
  refine Evp.dec (fun h=>Evp.ret (no fun e=>by have hh:yo xs 1 0≤zm level sharp:=(sm e.2 1 (by omega)).2;omega)) fun a2=>?_
  refine Evp.dec (fun _=>?_) fun h=>absurd h (by omega)
  refine Evp.ob (jo _ _ _ _ _ hx bx hn (-3) (-2) (by omega) (by omega) (by omega) (by omega)) ?_
  rintro _ rfl
  simp only [RD,RE,Nat.reduceAdd,Nat.reduceLT]
  refine Evp.dec (fun h=>Evp.ret (no fun e=>by have hh:yo xs (-3) (-2)≤zm level sharp:=(sm e.2 2 (by omega)).1;omega)) fun b1=>?_
  refine Evp.ob (jo _ _ _ _ _ hx bx hn 2 1 (by omega) (by omega) (by omega) (by omega)) ?_
  rintro _ rfl
  simp only [RD,RE,Nat.reduceAdd,Nat.reduceLT]
  refine Evp.dec (fun h=>Evp.ret (no fun e=>by have hh:yo xs 2 1≤zm level sharp:=(sm e.2 2 (by omega)).2;omega)) fun b2=>?_
  refine Evp.dec (fun _=>?_) fun h=>absurd h (by omega)
  refine Evp.ob (jo _ _ _ _ _ hx bx hn (-4) (-3) (by omega) (by omega) (by omega) (by omega)) ?_
  rintro _ rfl
  simp only [RD,RE,Nat.reduceAdd,Nat.reduceLT]
  refine Evp.dec (fun h=>Evp.ret (no fun e=>by have hh:yo xs (-4) (-3)≤zm level sharp:=(sm e.2 3 (by omega)).1;omega)) fun c1=>?_
  refine Evp.ob (jo _ _ _ _ _ hx bx hn 3 2 (by omega) (by omega) (by omega) (by omega)) ?_
  rintro _ rfl
  simp only [RD,RE,Nat.reduceAdd,Nat.reduceLT]
  refine Evp.dec (fun h=>Evp.ret (no fun e=>by have hh:yo xs 3 2≤zm level sharp:=(sm e.2 3 (by omega)).2;omega)) fun c2=>?_
  have s1:vv xs (zm level sharp) 1:=⟨trivial,Int.not_lt.1 a1,Int.not_lt.1 a2⟩
  have s2:vv xs (zm level sharp) 2:=⟨s1,Int.not_lt.1 b1,Int.not_lt.1 b2⟩
  have s3:vv xs (zm level sharp) 3:=⟨s2,Int.not_lt.1 c1,Int.not_lt.1 c2⟩
  refine Evp.ob (jo _ _ _ _ _ hx bx hn (-1) 0 (by omega) (by omega) (by omega) (by omega)) ?_
  rintro _ rfl
  simp only [RD,RE,Nat.reduceAdd,Nat.reduceLT]
  refine Evp.ob (jo _ _ _ _ _ hx bx hn (-2) 1 (by omega) (by omega) (by omega) (by omega)) ?_
  rintro _ rfl
  simp only [RD,RE,Nat.reduceAdd,Nat.reduceLT]
  rw [Int.tdiv_eq_ediv_of_nonneg f2.1,w64 (x:=2*yo xs (-1) 0) (by omega),w64 (x:=yo xs (-2) 1 / 2) (by omega),w64 (x:=2*yo xs (-1) 0+yo xs (-2) 1 / 2) (by omega),w64 (x:=level+2) (by omega),w64 (x:=2*(level+2)) (by omega),w64 (x:=2*(level+2)+zm level sharp) (by omega)]
  refine Evp.ret (Run.ret ?_)
  congr 2
  exact decide_eq_decide.2 ⟨fun h=>⟨h0,by rw [hk];exact s3,h⟩,fun h=>h.2.2⟩
 ·have hk:min (xs.length / 2) 4 - 1=3:=by omega
  refine Evp.ob (jo _ _ _ _ _ hx bx hn (-2) (-1) (by omega) (by omega) (by omega) (by omega)) ?_
  rintro _ rfl
  simp only [RD,RE,Nat.reduceAdd,Nat.reduceLT]
  refine Evp.dec (fun h=>Evp.ret (no fun e=>by have hh:yo xs (-2) (-1)≤zm level sharp:=(sm e.2 1 (by omega)).1;omega)) fun a1=>?_
  refine Evp.ob (jo _ _ _ _ _ hx bx hn 1 0 (by omega) (by omega) (by omega) (by omega)) ?_
  rintro _ rfl
  simp only [RD,RE,Nat.reduceAdd,Nat.reduceLT]
  refine Evp.dec (fun h=>Evp.ret (no fun e=>by have hh:yo xs 1 0≤zm level sharp:=(sm e.2 1 (by omega)).2;omega)) fun a2=>?_
  refine Evp.dec (fun _=>?_) fun h=>absurd h (by omega)
  refine Evp.ob (jo _ _ _ _ _ hx bx hn (-3) (-2) (by omega) (by omega) (by omega) (by omega)) ?_
  rintro _ rfl
  simp only [RD,RE,Nat.reduceAdd,Nat.reduceLT]
  refine Evp.dec (fun h=>Evp.ret (no fun e=>by have hh:yo xs (-3) (-2)≤zm level sharp:=(sm e.2 2 (by omega)).1;omega)) fun b1=>?_
  refine Evp.ob (jo _ _ _ _ _ hx bx hn 2 1 (by omega) (by omega) (by omega) (by omega)) ?_
  rintro _ rfl
  simp only [RD,RE,Nat.reduceAdd,Nat.reduceLT]
  refine Evp.dec (fun h=>Evp.ret (no fun e=>by have hh:yo xs 2 1≤zm level sharp:=(sm e.2 2 (by omega)).2;omega)) fun b2=>?_
  refine Evp.dec (fun _=>?_) fun h=>absurd h (by omega)
  refine Evp.ob (jo _ _ _ _ _ hx bx hn (-4) (-3) (by omega) (by omega) (by omega) (by omega)) ?_
  rintro _ rfl
  simp only [RD,RE,Nat.reduceAdd,Nat.reduceLT]
  refine Evp.dec (fun h=>Evp.ret (no fun e=>by have hh:yo xs (-4) (-3)≤zm level sharp:=(sm e.2 3 (by omega)).1;omega)) fun c1=>?_
  refine Evp.ob (jo _ _ _ _ _ hx bx hn 3 2 (by omega) (by omega) (by omega) (by omega)) ?_
  rintro _ rfl
  simp only [RD,RE,Nat.reduceAdd,Nat.reduceLT]
  refine Evp.dec (fun h=>Evp.ret (no fun e=>by have hh:yo xs 3 2≤zm level sharp:=(sm e.2 3 (by omega)).2;omega)) fun c2=>?_
  have s1:vv xs (zm level sharp) 1:=⟨trivial,Int.not_lt.1 a1,Int.not_lt.1 a2⟩
  have s2:vv xs (zm level sharp) 2:=⟨s1,Int.not_lt.1 b1,Int.not_lt.1 b2⟩
  have s3:vv xs (zm level sharp) 3:=⟨s2,Int.not_lt.1 c1,Int.not_lt.1 c2⟩
  refine Evp.ob (jo _ _ _ _ _ hx bx hn (-1) 0 (by omega) (by omega) (by omega) (by omega)) ?_
  rintro _ rfl
  simp only [RD,RE,Nat.reduceAdd,Nat.reduceLT]
  refine Evp.ob (jo _ _ _ _ _ hx bx hn (-2) 1 (by omega) (by omega) (by omega) (by omega)) ?_
  rintro _ rfl
  simp only [RD,RE,Nat.reduceAdd,Nat.reduceLT]
  rw [Int.tdiv_eq_ediv_of_nonneg f2.1,w64 (x:=2*yo xs (-1) 0) (by omega),w64 (x:=yo xs (-2) 1 / 2) (by omega),w64 (x:=2*yo xs (-1) 0+yo xs (-2) 1 / 2) (by omega),w64 (x:=level+2) (by omega),w64 (x:=2*(level+2)) (by omega),w64 (x:=2*(level+2)+zm level sharp) (by omega)]
  refine Evp.ret (Run.ret ?_)
  congr 2
  exact decide_eq_decide.2 ⟨fun h=>⟨h0,by rw [hk];exact s3,h⟩,fun h=>h.2.2⟩
theorem zci (hx:RdI M .u8 A xs)(bx:zh xs)(hn:xs.length≤1000)(m:Nat)(hm:m < xs.length / 2)(hm2:2*(xs.length / 2)=xs.length) :
  ∀ (d k:Nat),m - k=d→k≤m→kn xs k →
  Run P T lo F.jz (jz.Ca A xs.length c m ((k+1:Nat):Int) M) fun r=>r=(.bool (decide (kn xs m)),M):=by
 intro d
 induction d with
 | zero=>
  intro k hd hk hs
  obtain rfl:k=m:=by omega
  refine kut (fun k=>jz.Pa k ..) ?_
  refine Evp.dec (fun h=>absurd h (by omega)) fun _=>?_
  exact Evp.ret (Run.ret (by rw [decide_eq_true hs]))
 | succ d ih=>
  intro k hd hk hs
  have bad:¬ (yo xs (-2 - k) (-1)≤1∧yo xs (k+1) 0≤1)→¬ kn xs m:=fun h e=>h (z5b (k:=k+1) (by omega) e).2
  refine kut (fun k=>jz.Pa k ..) ?_
  refine Evp.dec (fun _=>?_) fun h=>absurd h (by omega)
  rw [w64 (x:=0 - ((k+1:Nat):Int)) (by omega),w64 (x:=0 - ((k+1:Nat):Int) - 1) (by omega),show 0 - ((k+1:Nat):Int) - 1=-2 - k by omega,w64 (x:=((k+1:Nat):Int)+1) (by omega),show ((k+1:Nat):Int)=(k:Int)+1 by omega]
  refine Evp.ob (jo _ _ _ _ _ hx bx hn (-2 - k) (-1) (by omega) (by omega) (by omega) (by omega)) ?_
  rintro _ rfl
  simp only [RD,RE,Nat.reduceAdd,Nat.reduceLT]
  refine Evp.dec (fun h=>Evp.ret (Run.ret (by rw [decide_eq_false (bad fun e=>by have:=e.1;omega)]))) fun g1=>?_
  refine Evp.ob (jo _ _ _ _ _ hx bx hn ((k:Int)+1) 0 (by omega) (by omega) (by omega) (by omega)) ?_
  rintro _ rfl
  simp only [RD,RE,Nat.reduceAdd,Nat.reduceLT]
  refine Evp.dec (fun h=>Evp.ret (Run.ret (by rw [decide_eq_false (bad fun e=>by have:=e.2;omega)]))) fun g2=>?_
  exact Evp.ret (ih (k+1) (by omega) (by omega) ⟨hs,by omega,by omega⟩)
theorem zbj (hx:RdI M .u8 A xs)(bx:zh xs)(hn:xs.length≤1000)(m:Nat)(hm:m < xs.length / 2)(hm2:2*(xs.length / 2)=xs.length) :
  Ac P T lo F.jz [.slice A xs.length c,.int .i64 1,.int .i64 m] M fun r=>r=(.bool (decide (kn xs m)),M):=by
 refine Ac.of (Evp.of_eq (fun k=>jz.entry k ..) ?_)
 exact Evp.ret (zci lo A c xs M hx bx hn m hm hm2 m 0 rfl (by omega) trivial)
end
section
variable {lo:Nat}{A:Option Addr}{c:Nat}{xs:List Int}{M0:Mem}{a:Addr}{cc:Nat}{Q:Value × Mem→Prop}{n m:Nat}{sh:Int}
theorem zn3 (hx:RdI M0 .u8 A xs)(bx:zh xs)(hn:xs.length≤1000)(h2:2*(xs.length / 2)=xs.length)(hnn:n+1≤xs.length / 2)(hm:m≤n)(M:Mem)(hp:Pre M0 M)(B:Option Addr)(nb cb:Nat)(i:Int)(hi : -(n:Int)≤i∧i < n)
  (hend:Run P T lo F.zd (zd.Cd A xs.length c n m sh B nb cb i (z06 xs n m i (2*n+1)) ((n:Int)+1) M) Q) :
  ∀ (d t:Nat),2*n+1 - t=d→t≤2*n+1 →
  Run P T lo F.zd (zd.Cd A xs.length c n m sh B nb cb i (z06 xs n m i t) (-(n:Int)+t) M) Q:=by
 intro d
 induction d with
 | zero=>
  intro t hd ht
  obtain rfl:t=2*n+1:=by omega
  rw [show -(n:Int)+((2*n+1:Nat):Int)=(n:Int)+1 by omega]
  exact hend
 | succ d ih=>
  intro t hd ht
  have nxt:=ih (t+1) (by omega) (by omega)
  have fin:∀ wgt:Int,(wgt=1∨wgt=2)→(if -(m:Int)≤-(n:Int)+t∧-(n:Int)+t≤m then (2:Int) else 1)=wgt→Run P T lo F.zd (zd.Ce A xs.length c n m sh B nb cb i (z06 xs n m i t) (-(n:Int)+t) wgt M) Q:=fun wgt hw he=>by
   refine kut (fun k=>zd.Pe k ..) ?_
   rw [w64 (x:=i+(-(n:Int)+t)) (by omega),w64 (x:=0 - (n:Int)) (by omega),w64 (x:=0 - (n:Int) - 1) (by omega),show 0 - (n:Int) - 1=-(n:Int) - 1 by omega]
   refine Evp.ob (vp ..) ?_
   rintro _ rfl
   simp only [RD,RE,Nat.reduceAdd,Nat.reduceLT]
   have hc:=z0j (v:=i+(-(n:Int)+t)) (a:=-(n:Int) - 1) (b:=n) (by omega)
   have hs:=zjk bx n m i t
   have ha:=qq xs bx (y8 (i+(-(n:Int)+t)) (-(n:Int) - 1) n)
   refine Evp.ob (z0x _ _ _ _ _ (hx.pre hp) bx hn (y8 (i+(-(n:Int)+t)) (-(n:Int) - 1) n) (by omega) (by omega)) ?_
   rintro _ rfl
   simp only [RD,RE,Nat.reduceAdd,Nat.reduceLT]
   simp only [z06] at nxt
   rw [he] at nxt
   generalize atE xs (y8 (i+(-(n:Int)+t)) (-(n:Int) - 1) n)=v at *
   rw [w64 (x:=-(n:Int)+t+1) (by omega),show -(n:Int)+t+1=-(n:Int)+((t+1:Nat):Int) by omega]
   rcases hw with rfl | rfl
   ·rw [w64 (x:=1*v) (by omega),w64 (x:=z06 xs n m i t+1*v) (by omega)]
    exact Evp.ret nxt
   ·rw [w64 (x:=2*v) (by omega),w64 (x:=z06 xs n m i t+2*v) (by omega)]
    exact Evp.ret nxt
  refine kut (fun k=>zd.Pd k ..) ?_
  refine Evp.dec (fun _=>?_) fun h=>absurd h (by omega)
  refine Evp.ob (zch _ _ _ (by omega)) ?_
  rintro _ rfl
  simp only [RD,RE,Nat.reduceAdd,Nat.reduceLT]
  refine Evp.dec (fun h=>?_) fun h=>?_
  ·exact Evp.ret (fin 2 (.inr rfl) (by rw [if_pos (by unfold jw at h;split at h <;> omega)]))
  ·exact Evp.ret (fin 1 (.inl rfl) (by rw [if_neg (by unfold jw at h;split at h <;> omega)]))
theorem zkx (hlo:lo≤M0.length)(hx:RdI M0 .u8 A xs)(bx:zh xs)(hn:xs.length≤1000)(h2:2*(xs.length / 2)=xs.length)(hnn:n+1≤xs.length / 2)(hm:m≤n)(hsh:sh=3∨sh=4) :
  ∀ (d k:Nat) (M:Mem),2*n - k=d→k≤2*n→Pre M0 M→Buf M0 M a ((z0o xs n m sh k).map (Value.int .u8)) →
  Run P T lo F.zd (zd.Cc A xs.length c n m sh (some a) xs.length cc (-(n:Int)+k) M) fun r=>∃ M',r=(.slice (some a) xs.length cc,M')∧Pre M0 M'∧Buf M0 M' a ((z0o xs n m sh (2*n)).map (Value.int .u8)):=by
 have e:Int.tdiv (xs.length:Int) 2=((xs.length / 2:Nat):Int):=rfl
 intro d
 induction d with
 | zero=>
  intro k M hd hk hp hb
  obtain rfl:k=2*n:=by omega
  refine kut (fun k=>zd.Pc k ..) ?_
  exact Evp.dec (fun h=>absurd h (by omega)) fun _=>Evp.ret (Run.ret ⟨M,rfl,hp,hb⟩)
 | succ d ih=>
  intro k M hd hk hp hb
  refine kut (fun k=>zd.Pc k ..) ?_
  refine Evp.dec (fun _=>?_) fun h=>absurd h (by omega)
  rw [w64 (x:=0 - (n:Int)) (by omega),show 0 - (n:Int)=-(n:Int)+((0:Nat):Int) by omega]
  refine Evp.ret (zn3 hx bx hn h2 hnn hm M hp (some a) xs.length cc (-(n:Int)+k) (by omega) ?_ _ 0 rfl (by omega))
  refine kut (fun k=>zd.Pd k ..) ?_
  refine Evp.dec (fun h=>absurd h (by omega)) fun _=>?_
  rw [e,w64 (x:=((xs.length / 2:Nat):Int)) (by omega),w64 (x:=sh - 1) (by omega),w64 (x:=((xs.length / 2:Nat):Int)+(-(n:Int)+k)) (by omega)]
  refine Evp.neg (by omega) (Evp.neg (by omega) (Evp.pos (by omega) (Evp.some rfl ?_)))
  rw [show (((xs.length / 2:Nat):Int)+(-(n:Int)+k)).toNat=xs.length / 2 - n+k by omega]
  obtain ⟨M1,g1,g2,g3,g4,g5⟩:=hb.st (lo:=lo) (i:=xs.length / 2 - n+k) (vs:=[.int .u8 (zdo (z06 xs n m (-(n:Int)+k) (2*n+1)) sh)]) hp hlo (by simp [z9u];omega)
  unfold zdo at g1
  rw [w64 (x:=sh - 1) (by omega)] at g1
  refine Evp.some g1 ?_
  rw [jf,qe] at g2
  rw [w64 (x:=-(n:Int)+k+1) (by omega),show -(n:Int)+k+1=-(n:Int)+((k+1:Nat):Int) by omega]
  exact Evp.ret (ih (k+1) M1 (by omega) (by omega) g3 g2)
end
theorem z8e {lo:Nat}{A:Option Addr}{c:Nat}{xs:List Int}{M:Mem}{n m:Nat}{sh:Int}(hlo:lo≤M.length)(hx:RdI M .u8 A xs)(bx:zh xs)(hn:xs.length≤1000)(h2:2*(xs.length / 2)=xs.length)(hnn:n+1≤xs.length / 2)(hc:z5c n m sh) :
  Ac P T lo F.zd [.slice A xs.length c,.int .i64 n] M fun r=>∃ a cc M',r=(.slice (some a) xs.length cc,M')∧Pre M M'∧Buf M M' a ((z0o xs n m sh (2*n)).map (Value.int .u8)):=by
 unfold z5c at hc
 have fin:Run P T lo F.zd (zd.Cb A xs.length c n m sh M) fun r=>∃ a cc M',r=(.slice (some a) xs.length cc,M')∧Pre M M'∧Buf M M' a ((z0o xs n m sh (2*n)).map (Value.int .u8)):=by
  refine kut (fun k=>zd.Pb k ..) ?_
  refine Evp.ob (ui _ _ _ _ _ hx (by omega) hlo) ?_
  rintro _ ⟨A',cc,M1,rfl,p1,hcc,g1⟩
  simp only [RD,RE,Nat.reduceAdd,Nat.reduceLT]
  obtain ⟨a,rfl,hb⟩:=g1.buf (by omega)
  rw [w64 (x:=0 - (n:Int)) (by omega),show 0 - (n:Int)=-(n:Int)+((0:Nat):Int) by omega]
  refine Evp.ret ((zkx (a:=a) (cc:=cc) hlo hx bx hn h2 hnn (by omega) (by omega) _ 0 M1 rfl (by omega) p1 hb).mono ?_)
  rintro _ ⟨M',rfl,p,hb'⟩
  exact ⟨a,cc,M',rfl,p,hb'⟩
 refine Ac.of (Evp.of_eq (fun k=>zd.entry k ..) ?_)
 refine Evp.eqb (fun h3=>Evp.ret ?_) fun h3=>Evp.ret ?_
 ·obtain rfl:m=0:=by omega
  obtain rfl:sh=3:=by omega
  refine kut (fun k=>zd.Pa k ..) ?_
  refine Evp.eqb (fun h6=>absurd h6 (by omega)) fun _=>?_
  exact Evp.ret fin
 ·obtain rfl:m=1:=by omega
  refine kut (fun k=>zd.Pa k ..) ?_
  refine Evp.eqb (fun h6=>?_) fun h6=>?_
  ·obtain rfl:sh=4:=by omega
   exact Evp.ret fin
  ·obtain rfl:sh=3:=by omega
   exact Evp.ret fin
theorem zgq (lo:Nat)(v:Int)(M:Mem):Ac P T lo F.zcx [.int .i64 v] M fun r=>r=(.int .i64 (cB v),M):=by
 refine Ac.of (Evp.of_eq (fun k=>zcx.entry k ..) ?_)
 refine Evp.ob (vp ..) ?_
 rintro _ rfl
 simp only [RD,RE,Nat.reduceAdd,Nat.reduceLT]
 exact Evp.ret (Run.ret rfl)
theorem z57 (lo:Nat)(A:Option Addr)(c:Nat)(xs:List Int)(M:Mem)(level:Int)(hlo:lo≤M.length)(hx:RdI M .u8 A xs)(bx:zh xs)(hn:xs.length≤1000)(h2:2*(xs.length / 2)=xs.length)(h4:4≤xs.length)(hl:0≤level∧level≤63) :
  Ac P T lo F.yd [.slice A xs.length c,.int .i64 level] M fun r=>∃ a cc M',r=(.slice (some a) xs.length cc,M')∧Pre M M'∧Buf M M' a ((uu xs (level / 16)).map (Value.int .u8)):=by
 have e:Int.tdiv (xs.length:Int) 2=((xs.length / 2:Nat):Int):=rfl
 have te:i64.wrap (Int.tdiv level 16)=level / 16:=by rw [Int.tdiv_eq_ediv_of_nonneg hl.1];exact w64 (by omega)
 have v1:=qq xs bx (-2)
 have v2:=qq xs bx (-1)
 have v3:=qq xs bx 0
 have v4:=qq xs bx 1
 have ret:∀ (a:Addr) (cc:Nat) (M':Mem),Pre M M'→Buf M M' a ((uu xs (level / 16)).map (Value.int .u8))→Run P T lo F.yd (yd.Cb (some a) xs.length cc M') fun r=>∃ a cc M',r=(.slice (some a) xs.length cc,M')∧Pre M M'∧Buf M M' a ((uu xs (level / 16)).map (Value.int .u8)):=fun a cc M' hp hb=>by
  refine kut (fun k=>yd.Pb k ..) ?_
  exact Evp.ret (Run.ret ⟨a,cc,M',rfl,hp,hb⟩)
 have fin:∀ (b:Bool),(b=true ↔ z63 xs (level / 16))→Run P T lo F.yd (yd.Ca A xs.length c b (fE0 xs (level / 16)) M) fun r=>∃ a cc M',r=(.slice (some a) xs.length cc,M')∧Pre M M'∧Buf M M' a ((uu xs (level / 16)).map (Value.int .u8)):=fun b hb=>by
  have hf0 : -128≤fE0 xs (level / 16)∧fE0 xs (level / 16)≤127:=by
   unfold fE0;split
   ·exact z6j _
   ·omega
  refine kut (fun k=>yd.Pa k ..) ?_
  refine Evp.ob (z0x _ _ _ _ _ hx bx hn 0 (by omega) (by omega)) ?_
  rintro _ rfl
  simp only [RD,RE,Nat.reduceAdd,Nat.reduceLT]
  refine Evp.ob (z0x _ _ _ _ _ hx bx hn (-1) (by omega) (by omega)) ?_
  rintro _ rfl
  simp only [RD,RE,Nat.reduceAdd,Nat.reduceLT]
  rw [w64 (x:=atE xs 0 - atE xs (-1)) (by omega),w64 (x:=3*(atE xs 0 - atE xs (-1))) (by omega),w64 (x:=fE0 xs (level / 16)+3*(atE xs 0 - atE xs (-1))) (by omega)]
  refine Evp.ob (zgq ..) ?_
  rintro _ rfl
  simp only [RD,RE,Nat.reduceAdd,Nat.reduceLT]
  rw [show cB (fE0 xs (level / 16)+3*(atE xs 0 - atE xs (-1)))=fE xs (level / 16) from rfl]
  have hf : -128≤fE xs (level / 16)∧fE xs (level / 16)≤127:=z6j _
  rw [w64 (x:=fE xs (level / 16)+4) (by omega),w64 (x:=fE xs (level / 16)+3) (by omega)]
  refine Evp.ob (zgq ..) ?_
  rintro _ rfl
  simp only [RD,RE,Nat.reduceAdd,Nat.reduceLT]
  refine Evp.ob (zgq ..) ?_
  rintro _ rfl
  simp only [RD,RE,Nat.reduceAdd,Nat.reduceLT]
  refine Evp.ob (ui _ _ _ _ _ hx (by omega) hlo) ?_
  rintro _ ⟨A',cc,M1,rfl,p1,hcc,g1⟩
  simp only [RD,RE,Nat.reduceAdd,Nat.reduceLT]
  obtain ⟨a,rfl,hbuf⟩:=g1.buf (by omega)
  rw [zl7,zl7,show cB (fE xs (level / 16)+4) / 8=aE xs (level / 16) from rfl,show cB (fE xs (level / 16)+3) / 8=bE xs (level / 16) from rfl]
  have ha : -16≤aE xs (level / 16)∧aE xs (level / 16)≤16:=by have:=z6j (fE xs (level / 16)+4);unfold aE;omega
  have hbb : -16≤bE xs (level / 16)∧bE xs (level / 16)≤16:=by have:=z6j (fE xs (level / 16)+3);unfold bE;omega
  rw [w64 (x:=aE xs (level / 16)+1) (by omega),zrx,show (aE xs (level / 16)+1) / 2=dE xs (level / 16) from rfl]
  have hd : -16≤dE xs (level / 16)∧dE xs (level / 16)≤16:=by unfold dE;omega
  refine Evp.ob (z0x _ _ _ _ _ (hx.pre p1) bx hn 0 (by omega) (by omega)) ?_
  rintro _ rfl
  simp only [RD,RE,Nat.reduceAdd,Nat.reduceLT]
  rw [w64 (x:=atE xs 0 - aE xs (level / 16)) (by omega)]
  refine Evp.ob (vp ..) ?_
  rintro _ rfl
  simp only [RD,RE,Nat.reduceAdd,Nat.reduceLT]
  have k1:=z0j (v:=atE xs 0 - aE xs (level / 16)) (a:=0) (b:=255) (by decide)
  have k2:=z0j (v:=atE xs (-1)+bE xs (level / 16)) (a:=0) (b:=255) (by decide)
  have k3:=z0j (v:=atE xs 1 - dE xs (level / 16)) (a:=0) (b:=255) (by decide)
  have k4:=z0j (v:=atE xs (-2)+dE xs (level / 16)) (a:=0) (b:=255) (by decide)
  rw [e,w64 (x:=((xs.length / 2:Nat):Int)) (by omega),wu8 k1,w64 (x:=((xs.length / 2:Nat):Int) - 1) (by omega),w64 (x:=((xs.length / 2:Nat):Int)+1) (by omega),w64 (x:=((xs.length / 2:Nat):Int) - 2) (by omega)]
  refine Evp.pos (by omega) (Evp.some rfl ?_)
  rw [Int.toNat_natCast]
  obtain ⟨M2,s1,s2,s3,s4,s5⟩:=hbuf.st (lo:=lo) (i:=xs.length / 2) (vs:=[.int .u8 (y8 (atE xs 0 - aE xs (level / 16)) 0 255)]) p1 hlo (by simp;omega)
  refine Evp.some s1 ?_
  rw [jf,qe] at s2
  refine Evp.ob (z0x _ _ _ _ _ (hx.pre s3) bx hn (-1) (by omega) (by omega)) ?_
  rintro _ rfl
  simp only [RD,RE,Nat.reduceAdd,Nat.reduceLT]
  rw [w64 (x:=atE xs (-1)+bE xs (level / 16)) (by omega)]
  refine Evp.ob (vp ..) ?_
  rintro _ rfl
  simp only [RD,RE,Nat.reduceAdd,Nat.reduceLT]
  rw [wu8 k2]
  refine Evp.pos (by omega) (Evp.some rfl ?_)
  rw [show (((xs.length / 2:Nat):Int) - 1).toNat=xs.length / 2 - 1 by omega]
  obtain ⟨M3,t1,t2,t3,t4,t5⟩:=s2.st (lo:=lo) (i:=xs.length / 2 - 1) (vs:=[.int .u8 (y8 (atE xs (-1)+bE xs (level / 16)) 0 255)]) s3 hlo (by simp;omega)
  refine Evp.some t1 ?_
  rw [jf,qe] at t2
  refine Evp.nb (fun hf=>?_) fun hf=>?_
  ·have hne:¬ z63 xs (level / 16):=fun h=>by rw [hb.2 h] at hf;exact absurd hf (by decide)
   refine Evp.ob (z0x _ _ _ _ _ (hx.pre t3) bx hn 1 (by omega) (by omega)) ?_
   rintro _ rfl
   simp only [RD,RE,Nat.reduceAdd,Nat.reduceLT]
   rw [w64 (x:=atE xs 1 - dE xs (level / 16)) (by omega)]
   refine Evp.ob (vp ..) ?_
   rintro _ rfl
   simp only [RD,RE,Nat.reduceAdd,Nat.reduceLT]
   rw [wu8 k3]
   refine Evp.pos (by omega) (Evp.some rfl ?_)
   rw [show (((xs.length / 2:Nat):Int)+1).toNat=xs.length / 2+1 by omega]
   obtain ⟨M4,u1,u2,u3,u4,u5⟩:=t2.st (lo:=lo) (i:=xs.length / 2+1) (vs:=[.int .u8 (y8 (atE xs 1 - dE xs (level / 16)) 0 255)]) t3 hlo (by simp;omega)
   refine Evp.some u1 ?_
   rw [jf,qe] at u2
   refine Evp.ob (z0x _ _ _ _ _ (hx.pre u3) bx hn (-2) (by omega) (by omega)) ?_
   rintro _ rfl
   simp only [RD,RE,Nat.reduceAdd,Nat.reduceLT]
   rw [w64 (x:=atE xs (-2)+dE xs (level / 16)) (by omega)]
   refine Evp.ob (vp ..) ?_
   rintro _ rfl
   simp only [RD,RE,Nat.reduceAdd,Nat.reduceLT]
   rw [wu8 k4]
   refine Evp.pos (by omega) (Evp.some rfl ?_)
   rw [show (((xs.length / 2:Nat):Int) - 2).toNat=xs.length / 2 - 2 by omega]
   obtain ⟨M5,w1,w2,w3,w4,w5⟩:=u2.st (lo:=lo) (i:=xs.length / 2 - 2) (vs:=[.int .u8 (y8 (atE xs (-2)+dE xs (level / 16)) 0 255)]) u3 hlo (by simp;omega)
   refine Evp.some w1 ?_
   rw [jf,qe] at w2
   exact Evp.ret (ret a cc M5 w3 (by unfold uu;rw [if_neg hne];exact w2))
  ·exact Evp.ret (ret a cc M3 t3 (by unfold uu;rw [if_pos (hb.1 hf)];exact t2))
 refine Ac.of (Evp.of_eq (fun k=>yd.entry k ..) ?_)
 refine Evp.ob (jo _ _ _ _ _ hx bx hn (-2) (-1) (by omega) (by omega) (by omega) (by omega)) ?_
 rintro _ rfl
 simp only [RD,RE,Nat.reduceAdd,Nat.reduceLT]
 rw [te]
 have cF:z63 xs (level / 16)→cB (atE xs (-2) - atE xs 1)=fE0 xs (level / 16):=fun h=>by unfold fE0;rw [if_pos h]
 refine Evp.dec (fun h=>?_) fun h1=>?_
 ·refine Evp.ob (z0x _ _ _ _ _ hx bx hn (-2) (by omega) (by omega)) ?_
  rintro _ rfl
  simp only [RD,RE,Nat.reduceAdd,Nat.reduceLT]
  refine Evp.ob (z0x _ _ _ _ _ hx bx hn 1 (by omega) (by omega)) ?_
  rintro _ rfl
  simp only [RD,RE,Nat.reduceAdd,Nat.reduceLT]
  rw [w64 (x:=atE xs (-2) - atE xs 1) (by omega)]
  refine Evp.ob (zgq ..) ?_
  rintro _ rfl
  simp only [RD,RE,Nat.reduceAdd,Nat.reduceLT]
  rw [cF (.inl h)]
  exact Evp.ret (fin true ⟨fun _=>.inl h,fun _=>rfl⟩)
 ·refine Evp.ob (jo _ _ _ _ _ hx bx hn 1 0 (by omega) (by omega) (by omega) (by omega)) ?_
  rintro _ rfl
  simp only [RD,RE,Nat.reduceAdd,Nat.reduceLT]
  have iffd:decide (yo xs 1 0 > level / 16)=true ↔ z63 xs (level / 16):=⟨fun h=>.inr (of_decide_eq_true h),fun h=>decide_eq_true (by rcases h with h | h;exact absurd h h1;exact h)⟩
  refine Evp.dec (fun h=>?_) fun h=>?_
  ·refine Evp.ob (z0x _ _ _ _ _ hx bx hn (-2) (by omega) (by omega)) ?_
   rintro _ rfl
   simp only [RD,RE,Nat.reduceAdd,Nat.reduceLT]
   refine Evp.ob (z0x _ _ _ _ _ hx bx hn 1 (by omega) (by omega)) ?_
   rintro _ rfl
   simp only [RD,RE,Nat.reduceAdd,Nat.reduceLT]
   rw [w64 (x:=atE xs (-2) - atE xs 1) (by omega)]
   refine Evp.ob (zgq ..) ?_
   rintro _ rfl
   simp only [RD,RE,Nat.reduceAdd,Nat.reduceLT]
   rw [cF (.inr h)]
   exact Evp.ret (fin _ iffd)
  ·have h0:fE0 xs (level / 16)=0:=by unfold fE0;rw [if_neg (fun e=>by rcases e with e | e;exact h1 e;exact h e)]
   have:=fin _ iffd
   rw [h0] at this
   exact Evp.ret this
def z2b (n taps level sharp:Int):Prop:=(taps=4∨taps=6∨taps=8∨taps=14)∧n=taps∧0≤level∧level≤63∧0≤sharp∧sharp≤7
instance (n taps level sharp:Int):Decidable (z2b n taps level sharp):=inferInstanceAs (Decidable (_∧_))
def zcj (M:Mem)(xs:List Int)(taps level sharp:Int)(r:Value × Mem):Prop:=
 Pre M r.2∧if z2b xs.length taps level sharp then ∃ a cc,r.1=.tuple ⟨[.slice (some a) xs.length cc,.int .i64 0]⟩∧Buf M r.2 a ((uw xs level sharp).map (Value.int .u8)) else r.1=.tuple ⟨[.slice none 0 0,.int .i64 2]⟩
section
variable (lo:Nat)(A:Option Addr)(c:Nat)(xs:List Int)(M:Mem)(level sharp:Int)
theorem zoq (taps:Int)(hlo:lo≤M.length)(hx:RdI M .u8 A xs)(bx:zh xs):Ac P T lo F.z9x [.slice A xs.length c,.int .i64 taps,.int .i64 level,.int .i64 sharp] M (zcj M xs taps level sharp):=by
 have bad:¬ z2b xs.length taps level sharp→Run P T lo F.z9x (.ret (.tuple ⟨[.slice none 0 0,.int .i64 2]⟩) M) (zcj M xs taps level sharp):=fun h=>Run.ret ⟨Pre.refl _,by rw [if_neg h]⟩
 have good:∀ (a:Addr) (cc:Nat) (M':Mem),z2b xs.length taps level sharp→Pre M M'→Buf M M' a ((uw xs level sharp).map (Value.int .u8))→Run P T lo F.z9x (.ret (.tuple ⟨[.slice (some a) xs.length cc,.int .i64 0]⟩) M') (zcj M xs taps level sharp):=fun a cc M' h hp hb=>Run.ret ⟨hp,by rw [if_pos h];exact ⟨a,cc,rfl,hb⟩⟩
 refine Ac.of (Evp.of_eq (fun k=>z9x.entry k ..) ?_)
 refine Evp.neb (fun n4=>?_) fun he=>?_
 rotate_left
 ·subst he
  refine Evp.neb (fun h=>Evp.ret (bad fun e=>h e.2.1)) fun hl=>?_
  refine Evp.dec (fun h=>Evp.ret (bad fun e=>by have:=e.2.2;omega)) fun l0=>?_
  refine Evp.dec (fun h=>Evp.ret (bad fun e=>by have:=e.2.2;omega)) fun l1=>?_
  refine Evp.dec (fun h=>Evp.ret (bad fun e=>by have:=e.2.2;omega)) fun s0=>?_
  refine Evp.dec (fun h=>Evp.ret (bad fun e=>by have:=e.2.2;omega)) fun s1=>?_
  have ok:z2b xs.length 4 level sharp:=⟨by decide,hl,by omega,by omega,by omega,by omega⟩
  have hn:xs.length=4:=by omega
  have f:=z3i lo A c xs M level sharp hx bx (by omega) (by omega) (by omega)
  rw [hl] at f
  refine Evp.ob f ?_
  rintro _ rfl
  simp only [RD,RE,Nat.reduceAdd,Nat.reduceLT]
  refine Evp.nb (fun h=>?_) fun hs=>?_
  ·refine Evp.ob (ui _ _ _ _ _ hx (by omega) hlo) ?_
   rintro _ ⟨A',cc,M1,rfl,p1,hcc,g1⟩
   simp only [RD,RE,Nat.reduceAdd,Nat.reduceLT]
   obtain ⟨a,rfl,hb⟩:=g1.buf (by omega)
   exact Evp.ret (good a cc M1 ok p1 (by unfold uw z2c;rw [if_neg (of_decide_eq_false h)];exact hb))
  have hE:uw xs level sharp=uc xs level:=by unfold uw z2c;rw [if_pos (of_decide_eq_true hs)]
  rw [hE] at good
  refine Evp.ff rfl (Evp.ff rfl ?_)
  refine Evp.ob (z57 lo A c xs M level hlo hx bx (by omega) (by omega) (by omega) (by omega)) ?_
  rintro _ ⟨a,cc,M1,rfl,p1,hb⟩
  simp only [RD,RE,Nat.reduceAdd,Nat.reduceLT]
  exact Evp.ret (good a cc M1 ok p1 (by unfold uc;rw [if_neg (by omega),if_neg (by omega),if_neg (by omega)];exact hb))
 refine Evp.neb (fun n6=>?_) fun he=>?_
 rotate_left
 ·subst he
  refine Evp.neb (fun h=>Evp.ret (bad fun e=>h e.2.1)) fun hl=>?_
  refine Evp.dec (fun h=>Evp.ret (bad fun e=>by have:=e.2.2;omega)) fun l0=>?_
  refine Evp.dec (fun h=>Evp.ret (bad fun e=>by have:=e.2.2;omega)) fun l1=>?_
  refine Evp.dec (fun h=>Evp.ret (bad fun e=>by have:=e.2.2;omega)) fun s0=>?_
  refine Evp.dec (fun h=>Evp.ret (bad fun e=>by have:=e.2.2;omega)) fun s1=>?_
  have ok:z2b xs.length 6 level sharp:=⟨by decide,hl,by omega,by omega,by omega,by omega⟩
  have hn:xs.length=6:=by omega
  have f:=z3i lo A c xs M level sharp hx bx (by omega) (by omega) (by omega)
  rw [hl] at f
  refine Evp.ob f ?_
  rintro _ rfl
  simp only [RD,RE,Nat.reduceAdd,Nat.reduceLT]
  refine Evp.nb (fun h=>?_) fun hs=>?_
  ·refine Evp.ob (ui _ _ _ _ _ hx (by omega) hlo) ?_
   rintro _ ⟨A',cc,M1,rfl,p1,hcc,g1⟩
   simp only [RD,RE,Nat.reduceAdd,Nat.reduceLT]
   obtain ⟨a,rfl,hb⟩:=g1.buf (by omega)
   exact Evp.ret (good a cc M1 ok p1 (by unfold uw z2c;rw [if_neg (of_decide_eq_false h)];exact hb))
  have hE:uw xs level sharp=uc xs level:=by unfold uw z2c;rw [if_pos (of_decide_eq_true hs)]
  rw [hE] at good
  refine Evp.tt rfl ?_
  refine Evp.ob (zbj lo A c xs M hx bx (by omega) 2 (by omega) (by omega)) ?_
  rintro _ rfl
  simp only [RD,RE,Nat.reduceAdd,Nat.reduceLT]
  refine Evp.dec (fun h=>?_) fun h=>?_
  ·refine Evp.ob (z8e (n:=2) (m:=1) (sh:=3) hlo hx bx (by omega) (by omega) (by omega) (by unfold z5c;omega)) ?_
   rintro _ ⟨a,cc,M1,rfl,p1,hb⟩
   simp only [RD,RE,Nat.reduceAdd,Nat.reduceLT]
   exact Evp.ret (good a cc M1 ok p1 (by unfold uc;rw [if_pos ⟨hn,h⟩];exact hb))
  ·refine Evp.ff rfl ?_
   refine Evp.ob (z57 lo A c xs M level hlo hx bx (by omega) (by omega) (by omega) (by omega)) ?_
   rintro _ ⟨a,cc,M1,rfl,p1,hb⟩
   simp only [RD,RE,Nat.reduceAdd,Nat.reduceLT]
   exact Evp.ret (good a cc M1 ok p1 (by unfold uc;rw [if_neg (fun e=>h e.2),if_neg (by omega),if_neg (by omega)];exact hb))
 refine Evp.neb (fun n8=>?_) fun he=>?_
 rotate_left
 ·subst he
  refine Evp.neb (fun h=>Evp.ret (bad fun e=>h e.2.1)) fun hl=>?_
  refine Evp.dec (fun h=>Evp.ret (bad fun e=>by have:=e.2.2;omega)) fun l0=>?_
  refine Evp.dec (fun h=>Evp.ret (bad fun e=>by have:=e.2.2;omega)) fun l1=>?_
  refine Evp.dec (fun h=>Evp.ret (bad fun e=>by have:=e.2.2;omega)) fun s0=>?_
  refine Evp.dec (fun h=>Evp.ret (bad fun e=>by have:=e.2.2;omega)) fun s1=>?_
  have ok:z2b xs.length 8 level sharp:=⟨by decide,hl,by omega,by omega,by omega,by omega⟩
  have hn:xs.length=8:=by omega
  have f:=z3i lo A c xs M level sharp hx bx (by omega) (by omega) (by omega)
  rw [hl] at f
  refine Evp.ob f ?_
  rintro _ rfl
  simp only [RD,RE,Nat.reduceAdd,Nat.reduceLT]
  refine Evp.nb (fun h=>?_) fun hs=>?_
  ·refine Evp.ob (ui _ _ _ _ _ hx (by omega) hlo) ?_
   rintro _ ⟨A',cc,M1,rfl,p1,hcc,g1⟩
   simp only [RD,RE,Nat.reduceAdd,Nat.reduceLT]
   obtain ⟨a,rfl,hb⟩:=g1.buf (by omega)
   exact Evp.ret (good a cc M1 ok p1 (by unfold uw z2c;rw [if_neg (of_decide_eq_false h)];exact hb))
  have hE:uw xs level sharp=uc xs level:=by unfold uw z2c;rw [if_pos (of_decide_eq_true hs)]
  rw [hE] at good
  refine Evp.ff rfl (Evp.tt rfl ?_)
  refine Evp.ob (zbj lo A c xs M hx bx (by omega) 3 (by omega) (by omega)) ?_
  rintro _ rfl
  simp only [RD,RE,Nat.reduceAdd,Nat.reduceLT]
  refine Evp.dec (fun h=>?_) fun h=>?_
  ·refine Evp.ff rfl ?_
   refine Evp.ob (z8e (n:=3) (m:=0) (sh:=3) hlo hx bx (by omega) (by omega) (by omega) (by unfold z5c;omega)) ?_
   rintro _ ⟨a,cc,M1,rfl,p1,hb⟩
   simp only [RD,RE,Nat.reduceAdd,Nat.reduceLT]
   exact Evp.ret (good a cc M1 ok p1 (by unfold uc;rw [if_neg (by omega),if_neg (by omega),if_pos ⟨by omega,h⟩];exact hb))
  ·refine Evp.ob (z57 lo A c xs M level hlo hx bx (by omega) (by omega) (by omega) (by omega)) ?_
   rintro _ ⟨a,cc,M1,rfl,p1,hb⟩
   simp only [RD,RE,Nat.reduceAdd,Nat.reduceLT]
   exact Evp.ret (good a cc M1 ok p1 (by unfold uc;rw [if_neg (by omega),if_neg (by omega),if_neg (fun e=>h e.2)];exact hb))
 refine Evp.neb (fun n14=>?_) fun he=>?_
 rotate_left
 ·subst he
  refine Evp.neb (fun h=>Evp.ret (bad fun e=>h e.2.1)) fun hl=>?_
  refine Evp.dec (fun h=>Evp.ret (bad fun e=>by have:=e.2.2;omega)) fun l0=>?_
  refine Evp.dec (fun h=>Evp.ret (bad fun e=>by have:=e.2.2;omega)) fun l1=>?_
  refine Evp.dec (fun h=>Evp.ret (bad fun e=>by have:=e.2.2;omega)) fun s0=>?_
  refine Evp.dec (fun h=>Evp.ret (bad fun e=>by have:=e.2.2;omega)) fun s1=>?_
  have ok:z2b xs.length 14 level sharp:=⟨by decide,hl,by omega,by omega,by omega,by omega⟩
  have hn:xs.length=14:=by omega
  have f:=z3i lo A c xs M level sharp hx bx (by omega) (by omega) (by omega)
  rw [hl] at f
  refine Evp.ob f ?_
  rintro _ rfl
  simp only [RD,RE,Nat.reduceAdd,Nat.reduceLT]
  refine Evp.nb (fun h=>?_) fun hs=>?_
  ·refine Evp.ob (ui _ _ _ _ _ hx (by omega) hlo) ?_
   rintro _ ⟨A',cc,M1,rfl,p1,hcc,g1⟩
   simp only [RD,RE,Nat.reduceAdd,Nat.reduceLT]
   obtain ⟨a,rfl,hb⟩:=g1.buf (by omega)
   exact Evp.ret (good a cc M1 ok p1 (by unfold uw z2c;rw [if_neg (of_decide_eq_false h)];exact hb))
  have hE:uw xs level sharp=uc xs level:=by unfold uw z2c;rw [if_pos (of_decide_eq_true hs)]
  rw [hE] at good
  refine Evp.ff rfl (Evp.tt rfl ?_)
  refine Evp.ob (zbj lo A c xs M hx bx (by omega) 3 (by omega) (by omega)) ?_
  rintro _ rfl
  simp only [RD,RE,Nat.reduceAdd,Nat.reduceLT]
  refine Evp.dec (fun h=>?_) fun h=>?_
  ·refine Evp.tt rfl ?_
   have f46:Ac P T lo F.jz [.slice A xs.length c,.int .i64 4,.int .i64 6] M fun r=>r=(.bool (decide (kn xs 6)),M):=by
    refine Ac.of (Evp.of_eq (fun k=>jz.entry k ..) ?_)
    exact Evp.ret (zci lo A c xs M hx bx (by omega) 6 (by omega) (by omega) 3 3 rfl (by omega) h)
   refine Evp.ob f46 ?_
   rintro _ rfl
   simp only [RD,RE,Nat.reduceAdd,Nat.reduceLT]
   refine Evp.dec (fun h6=>?_) fun h6=>?_
   ·refine Evp.ob (z8e (n:=6) (m:=1) (sh:=4) hlo hx bx (by omega) (by omega) (by omega) (by unfold z5c;omega)) ?_
    rintro _ ⟨a,cc,M1,rfl,p1,hb⟩
    simp only [RD,RE,Nat.reduceAdd,Nat.reduceLT]
    exact Evp.ret (good a cc M1 ok p1 (by unfold uc;rw [if_neg (by omega),if_pos ⟨hn,h6⟩];exact hb))
   ·refine Evp.ob (z8e (n:=3) (m:=0) (sh:=3) hlo hx bx (by omega) (by omega) (by omega) (by unfold z5c;omega)) ?_
    rintro _ ⟨a,cc,M1,rfl,p1,hb⟩
    simp only [RD,RE,Nat.reduceAdd,Nat.reduceLT]
    exact Evp.ret (good a cc M1 ok p1 (by unfold uc;rw [if_neg (by omega),if_neg (fun e=>h6 e.2),if_pos ⟨by omega,h⟩];exact hb))
  ·refine Evp.ob (z57 lo A c xs M level hlo hx bx (by omega) (by omega) (by omega) (by omega)) ?_
   rintro _ ⟨a,cc,M1,rfl,p1,hb⟩
   simp only [RD,RE,Nat.reduceAdd,Nat.reduceLT]
   exact Evp.ret (good a cc M1 ok p1 (by unfold uc;rw [if_neg (by omega),if_neg (fun e=>h (z5b (by omega) e.2)),if_neg (fun e=>h e.2)];exact hb))
 exact Evp.ret (bad fun e=>by have:=e.1;omega)
end
theorem zcj.got {M M':Mem}{xs:List Int}{taps level sharp:Int}{v:Value}(h:zcj M xs taps level sharp (v,M'))(hk:z2b xs.length taps level sharp)(zs:List Int)(hz:uw xs level sharp=zs) :
  ∃ a cc,v=.tuple ⟨[.slice (some a) xs.length cc,.int .i64 0]⟩∧Pre M M'∧Buf M M' a (zs.map (Value.int .u8)):=by
 obtain ⟨p,h⟩:=h
 rw [if_pos hk] at h
 obtain ⟨a,cc,e,b⟩:=h
 exact ⟨a,cc,e,p,by rw [← hz];exact b⟩
theorem z11 (lo:Nat)(w h:Int)(A:Option Addr)(n c:Nat)(M:Mem):Ac P T lo F.z8w [.agg ⟨[.int .i64 w,.int .i64 h,.slice A n c]⟩] M fun r=>r=(.int .i64 (qa w h n),M):=by
 refine Ac.of (Evp.of_eq (fun k=>z8w.entry k ..) ?_)
 refine Evp.dec (fun h1=>Evp.ret (Run.ret (by unfold qa;rw [if_neg (by omega)]))) fun h1=>?_
 refine Evp.dec (fun h2=>Evp.ret (Run.ret (by unfold qa;rw [if_neg (by omega)]))) fun h2=>?_
 refine Evp.dec (fun h3=>Evp.ret (Run.ret (by unfold qa;rw [if_neg (by omega)]))) fun h3=>?_
 refine Evp.dec (fun h4=>Evp.ret (Run.ret (by unfold qa;rw [if_neg (by omega)]))) fun h4=>?_
 have hm:=zbr (w:=w) (h:=h) (by omega)
 rw [w64 (by omega)]
 refine Evp.neb (fun h5=>?_) fun h5=>?_
 ·exact Evp.ret (Run.ret (by unfold qa;rw [if_neg (by omega)]))
 ·exact Evp.ret (Run.ret (by unfold qa;rw [if_pos (by omega)]))
theorem vu (lo:Nat)(w h:Int)(A:Option Addr)(c:Nat)(xs:List Int)(M:Mem)(hx:RdI M .u8 A xs)(hn:xs.length≤140737488351232) :
  Ac P T lo F.z66 [.agg ⟨[.int .i64 w,.int .i64 h,.slice A xs.length c]⟩] M fun r=>∃ A' c' M',r=(.agg ⟨[.int .i64 w,.int .i64 h,.slice A' xs.length c']⟩,M')∧Pre M M'∧xs.length≤c'∧Grow M M' 1 A' xs.length (xs.map (Value.int .u8)):=by
 refine Ac.of (Evp.of_eq (fun k=>z66.entry k ..) ?_)
 refine Evp.ob (ui _ _ _ _ _ hx hn (Nat.le_refl _)) ?_
 rintro _ ⟨A',c',M',rfl,h1,h3,h2⟩
 simp only [RD,RE,Nat.reduceAdd,Nat.reduceLT]
 exact Evp.ret (Run.ret ⟨A',c',M',rfl,h1,h3,h2⟩)
section
variable (lo:Nat)(w h mw mh:Int)(A AT AI AQ:Option Addr)(n c ct ni ci nq cq:Nat)(tx:List Int)(M:Mem)(hlo:lo≤M.length)(hT:RdI M .u8 AT tx)(hnt:tx.length≤140737488351232)
include hlo hT hnt
omit hlo in
theorem zn4 (h1:qa w h n=0)(h2:w % 4=0)(h3:h % 4=0)(h4:mw=w / 4)(h5:mh=h / 4)(h6:(tx.length:Int)=mw*mh)(h7:(ni:Int)=mw*mh)(h8:(nq:Int)=mw*mh):∀ (q i:Nat),tx.length - i=q→i≤tx.length→(∀ j,j < i→TxP (tx.getD j 0))→Run P T lo F.qm (qm.Ca tx.length i mw mh AT tx.length ct AI ni ci AQ nq cq M) fun r=>r=(.bool (decide (z6y w h n mw mh tx ni nq)),M):=by
 intro q
 induction q with
 | zero=>
  intro i hq hi hj
  refine kut (fun k=>qm.Pa k ..) ?_
  refine Evp.dec (fun h=>absurd h (by omega)) fun _=>?_
  refine Evp.ret (Run.ret ?_)
  rw [decide_eq_true]
  refine ⟨h1,h2,h3,h4,h5,h6,h7,h8,fun t ht=>?_⟩
  obtain ⟨j,hj',rfl⟩:=List.mem_iff_getElem.1 ht
  have:=hj j (by omega)
  rwa [List.getD_eq_getElem?_getD,List.getElem?_eq_getElem hj'] at this
 | succ q ih=>
  intro i hq hi hj
  refine kut (fun k=>qm.Pa k ..) ?_
  refine Evp.dec (fun _=>?_) fun h=>absurd h (by omega)
  refine Evp.pos (by omega) ?_
  simp only [Int.toNat_natCast]
  refine Evp.ldI hT (by omega) fun _ _=>?_
  have tx_ok:Ac P T lo F.zbv [.int .u8 (tx.getD i 0)] M fun r=>r=(.bool (decide (TxP (tx.getD i 0))),M):=by
   have yes:TxP (tx.getD i 0)→Run P T lo F.zbv (.ret (.bool true) M) fun r=>r=(.bool (decide (TxP (tx.getD i 0))),M):=fun g=>Run.ret (by rw [decide_eq_true g])
   refine Ac.of (Evp.of_eq (fun k=>zbv.entry k ..) ?_)
   refine Evp.eqb (fun g=>Evp.ret (yes (.inl g))) fun g0=>?_
   refine Evp.eqb (fun g=>Evp.ret (yes (.inr (.inl g)))) fun g1=>?_
   refine Evp.eqb (fun g=>Evp.ret (yes (.inr (.inr (.inl g))))) fun g2=>?_
   refine Evp.eqb (fun g=>Evp.ret (yes (.inr (.inr (.inr (.inl g)))))) fun g3=>?_
   refine Evp.ret (Run.ret ?_)
   congr 2
   rw [Bool.eq_iff_iff,decide_eq_true_iff,beq_iff_eq]
   exact ⟨fun g=>.inr (.inr (.inr (.inr g))),fun g=>by unfold TxP at g;omega⟩
  refine Evp.ob tx_ok ?_
  rintro _ rfl
  simp only [RD,RE,Nat.reduceAdd,Nat.reduceLT]
  refine Evp.nb (fun g=>Evp.ret (Run.ret ?_)) fun g=>?_
  ·rw [decide_eq_false (p:=z6y w h n mw mh tx ni nq) fun e=>of_decide_eq_false g (e.2.2.2.2.2.2.2.2 _ (zbs (by omega)))]
  rw [w64 (by omega)]
  refine Evp.ret (ih (i+1) (by omega) (by omega) fun j hj'=>?_)
  by_cases hji:j=i
  ·rw [hji];exact of_decide_eq_true g
  ·exact hj j (by omega)
omit hlo in
theorem zqi:Ac P T lo F.qm [.agg ⟨[.int .i64 w,.int .i64 h,.slice A n c]⟩,.agg ⟨[.int .i64 mw,.int .i64 mh,.slice AT tx.length ct,.slice AI ni ci,.slice AQ nq cq]⟩] M fun r=>r=(.bool (decide (z6y w h n mw mh tx ni nq)),M):=by
 have bad:¬ z6y w h n mw mh tx ni nq→Run P T lo F.qm (.ret (.bool false) M) fun r=>r=(.bool (decide (z6y w h n mw mh tx ni nq)),M):=fun hno=>Run.ret (by rw [decide_eq_false hno])
 refine Ac.of (Evp.of_eq (fun k=>qm.entry k ..) ?_)
 refine Evp.ob (z11 ..) ?_
 rintro _ rfl
 simp only [RD,RE,Nat.reduceAdd,Nat.reduceLT]
 refine Evp.neb (fun g=>Evp.ret (bad fun e=>g e.1)) fun k1=>?_
 have s1:=zy k1
 obtain ⟨c1,c2,c3,c4,c5⟩:=zb1 (w:=w) (h:=h) ⟨s1.1,s1.2.1,s1.2.2.1,s1.2.2.2.1⟩
 rw [zfj (by omega),zfj (by omega),zfk (by omega),zfk (by omega),c1,c2]
 refine Evp.neb (fun g=>Evp.ret (bad fun e=>g e.2.1)) fun k2=>?_
 refine Evp.neb (fun g=>Evp.ret (bad fun e=>g e.2.2.1)) fun k3=>?_
 refine Evp.neb (fun g=>Evp.ret (bad fun e=>g e.2.2.2.1)) fun k4=>?_
 refine Evp.neb (fun g=>Evp.ret (bad fun e=>g e.2.2.2.2.1)) fun k5=>?_
 have em:i64.wrap (mw*mh)=mw*mh:=by rw [k4,k5];exact c3
 rw [em]
 refine Evp.neb (fun g=>Evp.ret (bad fun e=>g e.2.2.2.2.2.1)) fun k6=>?_
 refine Evp.neb (fun g=>Evp.ret (bad fun e=>g e.2.2.2.2.2.2.1)) fun k7=>?_
 refine Evp.neb (fun g=>Evp.ret (bad fun e=>g e.2.2.2.2.2.2.2.1)) fun k8=>?_
 rw [← k6]
 exact Evp.ret (zn4 lo w h mw mh AT AI AQ n ct ni ci nq cq tx M hT hnt k1 k2 k3 k4 k5 k6 k7 k8 _ 0 rfl (Nat.zero_le _) fun j hj=>absurd hj (by omega))
end
theorem zn5 (xs:List Int)(b st n:Nat):z19 xs b st (n+1)=z19 xs b st n ++ [xs.getD (b+n*st) 0]:=by
 unfold z19;rw [List.range_succ,List.map_append];rfl
theorem zn6 {b st hf j:Nat}(h1:b≤262144)(h2:st≤512)(h3:hf≤7)(h4:j≤14):i64.wrap (((b+hf*st:Nat):Int)+i64.wrap (((j:Int) - hf)*st))=((b+j*st:Nat):Int):=by
 have e:((j:Int) - hf)*st=((j*st:Nat):Int) - ((hf*st:Nat):Int):=by rw [Int.sub_mul,Int.natCast_mul,Int.natCast_mul]
 have m1:j*st≤14*512:=Nat.mul_le_mul h4 h2
 have m2:hf*st≤7*512:=Nat.mul_le_mul h3 h2
 rw [e]
 generalize j*st=p at *
 generalize hf*st=q at *
 rw [w64 (x:=(p:Int) - q) (by omega),w64 (by omega)]
 omega
section
variable (lo:Nat)(W' H':Int)(a:Addr)(c:Nat)(b st hf:Nat)(level sharp:Int)(Mb:Mem)
variable (hb:b≤262144)(hst:st≤512)(hhf:hf=2∨hf=3∨hf=4∨hf=7)(hlo:lo≤Mb.length)
include hb hst hhf hlo
theorem zi9 (z:Addr)(cz:Nat)(xs zs:List Int)(hz:zs.length=2*hf)(hin:∀ j,j < 2*hf→b+j*st < xs.length)(M1:Mem)(hza:a.block < M1.length):∀ (d j:Nat) (M:Mem),2*hf - j=d→j≤2*hf→Pre Mb M→Buf Mb M a ((z4z xs b st zs j).map (Value.int .u8))→Buf M1 M z (zs.map (Value.int .u8)) →
  Run P T lo F.yh (yh.Cb ((b+hf*st:Nat):Int) st ((2*hf:Nat):Int) (some z) (2*hf) cz ((j:Int) - hf) W' H' (some a) xs.length c M) fun r=>∃ M',r=(.tuple ⟨[]⟩,M')∧Pre Mb M'∧Buf Mb M' a ((z4z xs b st zs (2*hf)).map (Value.int .u8)):=by
 intro d
 induction d with
 | zero=>
  intro j M hd hj hp hbuf hbz
  obtain rfl:j=2*hf:=by omega
  refine kut (fun k=>yh.Pb k ..) ?_
  rw [(z31 (hf:=hf) (by omega)).1]
  refine Evp.dec (fun h=>absurd h (by omega)) fun _=>Evp.ret (Run.ret ⟨M,rfl,hp,hbuf⟩)
 | succ d ih=>
  intro j M hd hj hp hbuf hbz
  refine kut (fun k=>yh.Pb k ..) ?_
  rw [(z31 (hf:=hf) (by omega)).1,zn6 hb hst (by omega) (by omega)]
  refine Evp.dec (fun _=>?_) fun h=>absurd h (by omega)
  rw [w64 (x:=(j:Int) - hf+hf) (by omega),show (j:Int) - hf+hf=(j:Int) by omega]
  refine Evp.pos (by omega) ?_
  simp only [Int.toNat_natCast]
  refine Evp.ldI hbz.rdI (by omega) fun _ _=>?_
  have:=hin j (by omega)
  refine Evp.pos (by omega) (Evp.some rfl ?_)
  obtain ⟨M3,h1,h2,h3,h4,h5⟩:=hbuf.st (lo:=lo) (i:=b+j*st) (vs:=[.int .u8 (zs.getD j 0)]) hp hlo (by simp [z8l];omega)
  refine Evp.some h1 ?_
  rw [jf,qe] at h2
  rw [w64 (by omega),show (j:Int) - hf+1=((j+1:Nat):Int) - hf by omega]
  exact Evp.ret (ih (j+1) M3 (by omega) (by omega) h3 h2 (hbz.keep h4 fun a' e=>by injection e with e;subst e;have:=hbz.new;omega))
theorem zor (xs:List Int)(M0:Mem)(bx:zh xs)(hin:∀ j,j < 2*hf→b+j*st < xs.length)(hl:0≤level∧level≤63)(hsh:0≤sharp∧sharp≤7)(hp:Pre Mb M0)(hbuf:Buf Mb M0 a (xs.map (Value.int .u8))) :
  Ac P T lo F.yh [.agg ⟨[.int .i64 W',.int .i64 H',.slice (some a) xs.length c]⟩,.int .i64 ((b+hf*st:Nat):Int),.int .i64 st,.int .i64 ((2*hf:Nat):Int),.int .i64 level,.int .i64 sharp] M0 fun r=>∃ M',r=(.tuple ⟨[]⟩,M')∧Pre Mb M'∧Buf Mb M' a ((z6k xs b st (2*hf) level sharp).map (Value.int .u8)):=by
 have hab:a.block < M0.length:=by
  obtain ⟨_,_,_,hb2,_⟩:=hbuf
  exact (List.getElem?_eq_some_iff.1 hb2).1
 have read:∀ (d j:Nat) (B:Option Addr) (cb:Nat) (M:Mem),2*hf - j=d→j≤2*hf→Pre M0 M→Grow M0 M 1 B j ((z19 xs b st j).map (Value.int .u8)) →
   Run P T lo F.yh (yh.Ca ((b+hf*st:Nat):Int) st ((2*hf:Nat):Int) level sharp B j cb ((j:Int) - hf) W' H' (some a) xs.length c M) fun r=>∃ M',r=(.tuple ⟨[]⟩,M')∧Pre Mb M'∧Buf Mb M' a ((z6k xs b st (2*hf) level sharp).map (Value.int .u8)):=by
  intro d
  induction d with
  | zero=>
   intro j B cb M hd hj hpM hg
   obtain rfl:j=2*hf:=by omega
   refine kut (fun k=>yh.Pa k ..) ?_
   rw [(z31 (hf:=hf) (by omega)).1]
   refine Evp.dec (fun h=>absurd h (by omega)) fun _=>?_
   have sl:=zbt xs b st (2*hf)
   have hB:RdI M .u8 B (z19 xs b st (2*hf)):=by
    have:=hg
    rw [← sl] at this
    exact Grow.rdI (by rw [sl] at this ⊢;exact hg)
   have E:=zoq lo B cb (z19 xs b st (2*hf)) M level sharp ((2*hf:Nat):Int) (Nat.le_trans hlo (hp.trans hpM).len) hB (z8m bx b st _)
   rw [sl] at E
   refine Evp.ob E ?_
   rintro ⟨v,M1⟩ h1
   have ok:z2b (z19 xs b st (2*hf)).length ((2*hf:Nat):Int) level sharp:=by rw [sl];exact ⟨by omega,rfl,hl.1,hl.2,hsh.1,hsh.2⟩
   obtain ⟨z,cz,rfl,p1,b1⟩:=h1.got ok _ rfl
   simp only [RD,RE,Nat.reduceAdd,Nat.reduceLT]
   rw [(z31 (hf:=hf) (by omega)).2,sl]
   have:=zi9 lo W' H' a c b st hf Mb hb hst hhf hlo z cz xs _ (by rw [zew,sl]) hin M (Nat.lt_of_lt_of_le hab hpM.len) _ 0 M1 rfl (Nat.zero_le _) ((hp.trans hpM).trans p1) ((hbuf.pre hpM).pre p1) b1
   rw [show (((0:Nat):Int) - hf)=-(hf:Int) by omega] at this
   exact Evp.ret this
  | succ d ih=>
   intro j B cb M hd hj hpM hg
   refine kut (fun k=>yh.Pa k ..) ?_
   rw [(z31 (hf:=hf) (by omega)).1,zn6 hb hst (by omega) (by omega)]
   refine Evp.dec (fun _=>?_) fun h=>absurd h (by omega)
   have:=hin j (by omega)
   refine Evp.pos (by omega) ?_
   simp only [Int.toNat_natCast]
   refine Evp.ldI (hbuf.rdI.pre hpM) this fun _ _=>?_
   obtain ⟨⟨sa,sn,sc⟩,M3,e3,g3,hsn,p3,_,_⟩:=hg.app (lo:=lo) (bytes:=1) (c:=cb) (m:=1) (vs:=[.int .u8 (xs.getD (b+j*st) 0)]) hpM (Nat.le_trans hlo hp.len) rfl (by omega) (by omega)
   refine Evp.some e3 ?_
   simp only at hsn g3
   subst hsn
   rw [w64 (by omega),show (j:Int) - hf+1=((j+1:Nat):Int) - hf by omega]
   refine Evp.ret (ih (j+1) sa sc M3 (by omega) (by omega) p3 ?_)
   rw [zn5,List.map_append]
   exact g3
 refine Ac.of (Evp.of_eq (fun k=>yh.entry k ..) ?_)
 rw [(z31 (hf:=hf) (by omega)).2,show -(hf:Int)=((0:Nat):Int) - hf by omega]
 exact Evp.ret (read _ 0 none 0 M0 rfl (Nat.zero_le _) (Pre.refl _) Grow.nil)
end
theorem zos (lo:Nat)(r:Int)(col:Bool)(M:Mem):Ac P T lo F.za1 [.int .i64 r,.bool col] M fun q=>q=(.int .i64 ((z2g r col:Nat):Int),M):=by
 refine Ac.of (Evp.of_eq (fun k=>za1.entry k ..) ?_)
 unfold z2g
 refine Evp.dec (fun h=>Evp.ret (Run.ret (by rw [if_pos h];rfl))) fun h=>?_
 rw [if_neg h]
 refine Evp.bb (fun h=>Evp.ret (Run.ret (by rw [if_pos h];rfl))) fun h'=>?_
 rw [if_neg (by rw [h'];simp)]
 refine Evp.dec (fun h=>Evp.ret (Run.ret (by rw [if_pos h];rfl))) fun h=>Evp.ret (Run.ret (by rw [if_neg h];rfl))
section
variable (lo W H mh:Nat)(m:Cells)(A AT AI AQ:Option Addr)(n c ct ci cq:Nat)(a:Addr)(co:Nat)(Mb:Mem)(hlo:lo≤Mb.length)(f:PassF m W H mh n AT AI AQ Mb)(Q:Value × Mem→Prop)
include hlo f
theorem zia (y x:Nat)(hi:y*m.mw+x < m.mw*mh)(hx:x < m.mw)(hs:¬ m.skip (y*m.mw+x))(xs:List Int)(hl:xs.length=n)(bx:zh xs)
  (next:∀ M,Pre Mb M→Buf Mb M a ((m.linesS W H xs (y*m.mw+x) 4).map (Value.int .u8))→Run P T lo F.z6 (z6.Cc m.up m.col m.level m.sharp y x W H A n c m.mw mh AT m.tx.length ct AI m.ids.length ci AQ m.qs.length cq 0 0 none 0 0 W H (some a) n co M) Q) :
  ∀ (d k:Nat) (M:Mem),4 - k=d→k≤4→Pre Mb M→Buf Mb M a ((m.linesS W H xs (y*m.mw+x) k).map (Value.int .u8)) →
   Run P T lo F.z6 (z6.Ce m.up m.col m.level m.sharp y x (m.step W:Nat) (m.along W:Nat) (m.reach W H (y*m.mw+x)) k W H A n c m.mw mh AT m.tx.length ct AI m.ids.length ci AQ m.qs.length cq 0 0 none 0 0 W H (some a) n co M) Q:=by
 obtain ⟨s1,s2⟩:=f.small
 have t1:=f.txp hi
 have t2:=f.txp (z5h hi)
 have w512:=f.w512
 have h512:=f.h512
 have hw:=f.hW
 have hh:=f.hH
 obtain ⟨d1,d2⟩:(y*m.mw+x) / m.mw=y∧(y*m.mw+x) % m.mw=x:=by
  rw [Nat.add_comm]
  exact ⟨by rw [Nat.add_mul_div_right x y (by omega),Nat.div_eq_of_lt hx,Nat.zero_add],by rw [Nat.add_mul_mod_self_right,Nat.mod_eq_of_lt hx]⟩
 obtain ⟨g1,g2,g3,g4⟩:=geo m W H mh _ f.hW f.hH hi t1 t2 hs
 obtain ⟨v1,v2,v3⟩:=z2z hi
 rw [d1] at v1
 have P1:=znw m W H mh _ f.hW f.hH hi t1 t2 hs
 rw [d1,d2] at P1
 generalize y*m.mw+x=i at *
 intro d
 induction d with
 | zero=>
  intro k M hd hk hp hbuf
  obtain rfl:k=4:=by omega
  refine kut (fun k=>z6.Pe k ..) ?_
  refine Evp.dec (fun h=>absurd h (by omega)) fun _=>Evp.ret (next M hp hbuf)
 | succ d ih=>
  intro k M hd hk hp hbuf
  refine kut (fun k=>z6.Pe k ..) ?_
  refine Evp.dec (fun _=>?_) fun h=>absurd h (by omega)
  refine Evp.ob (zos lo (m.reach W H i) m.col M) ?_
  rintro _ rfl
  simp only [RD,RE,Nat.reduceAdd,Nat.reduceLT]
  obtain ⟨hf,hft,hfv⟩:∃ hf,m.taps W H i=2*hf∧(hf=2∨hf=3∨hf=4∨hf=7):=⟨m.taps W H i / 2,by omega,by omega⟩
  have P0:=(P1 k 0 (by omega) (by omega)).2
  have ec:i64.wrap ((i64.wrap ((i64.wrap ((i64.wrap (4*(y:Int)))*W))+(i64.wrap (4*(x:Int)))))+(i64.wrap ((k:Int)*(m.along W:Nat))))=((m.first W H i k+hf*m.step W:Nat):Int):=by
   have e1:hf=m.taps W H i / 2:=by omega
   rw [e1,P0.2]
   have a1:m.along W≤512:=by unfold Cells.along;split <;> omega
   have a2:k*m.along W≤4*512:=Nat.mul_le_mul (by omega) a1
   have a3:4*y*W≤512*512:=Nat.mul_le_mul (by omega) w512
   rw [w64 (x:=4*(y:Int)) (by omega),w64 (x:=4*(x:Int)) (by omega),← Int.natCast_mul k,show (4*(y:Int))*(W:Int)=((4*y*W:Nat):Int) by rw [Int.natCast_mul,Int.natCast_mul];rfl]
   generalize 4*y*W=q1 at *
   generalize k*m.along W=q2 at *
   rw [w64 (x:=(q1:Int)) (by omega),w64 (x:=(q1:Int)+4*x) (by omega),w64 (x:=(q2:Int)) (by omega),w64 (by omega)]
   omega
  rw [ec]
  have hin:∀ j,j < 2*hf→m.first W H i k+j*m.step W < (m.linesS W H xs i k).length:=fun j hj=>by
   rw [m.linesS_len,hl,f.hn]
   exact (P1 k j (by omega) (by omega)).2.1
  have st512:m.step W≤512:=by unfold Cells.step;split <;> omega
  have b0:=hin 0 (by omega)
  rw [m.linesS_len,hl,Nat.zero_mul,Nat.add_zero] at b0
  have L:=zor lo W H a co (m.first W H i k) (m.step W) hf m.level m.sharp Mb (by omega) st512 hfv hlo (m.linesS W H xs i k) M (m.linesS_bytes W H bx i k) hin f.lv f.sh hp hbuf
  rw [m.linesS_len,hl] at L
  rw [show ((z2g (m.reach W H i) m.col:Nat):Int)=((2*hf:Nat):Int) by rw [← hft];rfl]
  refine Evp.ob L ?_
  rintro _ ⟨M1,rfl,p1,b1⟩
  simp only [RD,RE,Nat.reduceAdd,Nat.reduceLT]
  rw [w64 (by omega)]
  refine Evp.ret (ih (k+1) M1 (by omega) (by omega) p1 ?_)
  simp only [Cells.linesS]
  rw [hft]
  exact b1
theorem zsd (y x:Nat)(hy:y < mh)(hx:x < m.mw)(xs:List Int)(hl:xs.length=n)(bx:zh xs)(M:Mem)(hp:Pre Mb M)(hbuf:Buf Mb M a (xs.map (Value.int .u8)))(before:Int)(hbf:m.at_ (y*m.mw+x)≠0→before=(m.prev (y*m.mw+x):Nat))
  (next:∀ M,Pre Mb M→Buf Mb M a ((m.cellS W H xs (y*m.mw+x)).map (Value.int .u8))→Run P T lo F.z6 (z6.Cc m.up m.col m.level m.sharp y x W H A n c m.mw mh AT m.tx.length ct AI m.ids.length ci AQ m.qs.length cq 0 0 none 0 0 W H (some a) n co M) Q) :
  Run P T lo F.z6 (z6.Cd m.up m.col m.level m.sharp y x (m.at_ (y*m.mw+x):Nat) (m.side W H:Nat) before (m.step W:Nat) (m.along W:Nat) W H A n c m.mw mh AT m.tx.length ct AI m.ids.length ci AQ m.qs.length cq 0 0 none 0 0 W H (some a) n co M) Q:=by
 obtain ⟨s1,s2⟩:=f.small
 have hi:y*m.mw+x < m.mw*mh:=by rw [Nat.mul_comm m.mw];exact zct hy hx
 have t1:=f.txp hi
 have t2:=f.txp (z5h hi)
 have pl:=z5h hi
 have loop:=zia lo W H mh m A AT AI AQ n c ct ci cq a co Mb hlo f Q y x hi hx
 have skp:m.skip (y*m.mw+x)→Run P T lo F.z6 (z6.Cc m.up m.col m.level m.sharp y x W H A n c m.mw mh AT m.tx.length ct AI m.ids.length ci AQ m.qs.length cq 0 0 none 0 0 W H (some a) n co M) Q:=fun h=>next M hp (by unfold Cells.cellS;rw [if_pos h];exact hbuf)
 have go:¬ m.skip (y*m.mw+x)→Run P T lo F.z6 (z6.Ce m.up m.col m.level m.sharp y x (m.step W:Nat) (m.along W:Nat) (m.reach W H (y*m.mw+x)) ((0:Nat):Int) W H A n c m.mw mh AT m.tx.length ct AI m.ids.length ci AQ m.qs.length cq 0 0 none 0 0 W H (some a) n co M) Q:=fun h=>
  loop h xs hl bx (fun M' hp' hb'=>next M' hp' (by unfold Cells.cellS;rw [if_neg h];exact hb')) _ 0 M rfl (Nat.zero_le _) hp hbuf
 have ei:i64.wrap ((i64.wrap ((y:Int)*m.mw))+(x:Int))=((y*m.mw+x:Nat):Int):=by
  have:y*m.mw≤m.mw*mh:=by omega
  rw [← Int.natCast_mul,w64 (x:=((y*m.mw:Nat):Int)) (by omega),w64 (by omega)];omega
 have asd:=zl8 m W H mh _ f.hW f.hH hi
 have w512:=f.w512
 have h512:=f.h512
 have sd:m.side W H≤512:=by unfold Cells.side;split <;> omega
 refine kut (fun k=>z6.Pd k ..) ?_
 rw [ei]
 generalize hI:y*m.mw+x=i at *
 refine Evp.eqb (fun h=>Evp.ret (skp (.inl (by omega)))) fun h0=>?_
 have hb:=hbf (by omega)
 subst hb
 have t1':=t1
 have t2':=t2
 unfold TxP at t1' t2'
 have ht:=f.ht
 have hii:=f.hi
 have hqq:=f.hq
 have rt:=f.rt.pre hp
 have ri:=f.ri.pre hp
 have rq:=f.rq.pre hp
 have er:zq (zq (i64.wrap (m.tx.getD i 0)) (i64.wrap (m.tx.getD (m.prev i) 0))) (zq (m.at_ i:Nat) (i64.wrap ((m.side W H:Nat) - (m.at_ i:Nat):Int)))=m.reach W H i:=by
  rw [w64 (x:=m.tx.getD i 0) (by omega),w64 (x:=m.tx.getD (m.prev i) 0) (by omega),w64 (x:=((m.side W H:Nat):Int) - (m.at_ i:Nat)) (by omega),z5g,z5g,z5g];rfl
 refine Evp.pos (by omega) ?_
 simp only [Int.toNat_natCast]
 refine Evp.ldI rt (by omega) fun _ _=>?_
 rw [w64 (x:=m.tx.getD i 0) (by omega)]
 refine Evp.neg (by omega) ?_
 have em:Int.tmod (m.at_ i:Int) (m.tx.getD i 0)=(m.at_ i:Int) % m.tx.getD i 0:=Int.tmod_eq_emod_of_nonneg (by omega)
 rw [em]
 refine Evp.neb (fun h=>Evp.ret (skp (.inr (.inl h)))) fun h1=>?_
 rw [w64 (x:=m.tx.getD i 0) (by omega)] at er
 refine Evp.pos (by omega) (Evp.ldI ri (by omega) fun _ _=>?_)
 refine Evp.pos (by omega) (Evp.ldI ri (by omega) fun _ _=>?_)
 refine Evp.eqb (fun h2=>?_) fun h2=>?_
 ·refine Evp.pos (by omega) (Evp.ldB rq (by omega) fun _ _=>?_)
  refine Evp.bb (fun h3=>?_) fun h3=>?_
  ·refine Evp.pos (by omega) (Evp.ldB rq (by omega) fun _ _=>?_)
   refine Evp.bb (fun h4=>Evp.ret (skp (.inr (.inr ⟨h2,h3,h4⟩)))) fun h4=>?_
   have ns:¬ m.skip i:=by
    rintro (e | e | e)
    ·omega
    ·exact e h1
    ·rw [h4] at e;cases e.2.2
   refine Evp.pos (by omega) (Evp.ldI rt (by omega) fun _ _=>?_)
   refine Evp.pos (by omega) (Evp.ldI rt (by omega) fun _ _=>?_)
   rw [w64 (x:=m.tx.getD i 0) (by omega),er]
   exact Evp.ret (go ns)
  ·have ns:¬ m.skip i:=by
    rintro (e | e | e)
    ·omega
    ·exact e h1
    ·rw [h3] at e;cases e.2.1
   refine Evp.pos (by omega) (Evp.ldI rt (by omega) fun _ _=>?_)
   refine Evp.pos (by omega) (Evp.ldI rt (by omega) fun _ _=>?_)
   rw [w64 (x:=m.tx.getD i 0) (by omega),er]
   exact Evp.ret (go ns)
 ·have ns:¬ m.skip i:=by
   rintro (e | e | e)
   ·omega
   ·exact e h1
   ·exact h2 e.1
  refine Evp.pos (by omega) (Evp.ldI rt (by omega) fun _ _=>?_)
  refine Evp.pos (by omega) (Evp.ldI rt (by omega) fun _ _=>?_)
  rw [w64 (x:=m.tx.getD i 0) (by omega),er]
  exact Evp.ret (go ns)
theorem zse (y:Nat)(hy:y < mh)(xs:List Int)(hl:xs.length=n)(bx:zh xs)
  (next:∀ M,Pre Mb M→Buf Mb M a ((m.passS W H xs ((y+1)*m.mw)).map (Value.int .u8))→Run P T lo F.z6 (z6.Ca m.up m.col m.level m.sharp ((y+1:Nat):Int) W H A n c m.mw mh AT m.tx.length ct AI m.ids.length ci AQ m.qs.length cq 0 0 none 0 0 W H (some a) n co M) Q) :
  ∀ (d x:Nat) (M:Mem),m.mw - x=d→x≤m.mw→Pre Mb M→Buf Mb M a ((m.passS W H xs (y*m.mw+x)).map (Value.int .u8)) →
   Run P T lo F.z6 (z6.Cb m.up m.col m.level m.sharp y x W H A n c m.mw mh AT m.tx.length ct AI m.ids.length ci AQ m.qs.length cq 0 0 none 0 0 W H (some a) n co M) Q:=by
 have w512:=f.w512
 have h512:=f.h512
 have hw:=f.hW
 have hh:=f.hH
 obtain ⟨s1,s2⟩:=f.small
 intro d
 induction d with
 | zero=>
  intro x M hd hx hp hbuf
  obtain rfl:x=m.mw:=by omega
  refine kut (fun k=>z6.Pb k ..) ?_
  refine Evp.dec (fun h=>absurd h (by omega)) fun _=>?_
  rw [w64 (by omega)]
  refine Evp.ret (next M hp ?_)
  rw [Nat.add_mul,Nat.one_mul];exact hbuf
 | succ d ih=>
  intro x M hd hx hp hbuf
  have hxl:x < m.mw:=by omega
  have hi:y*m.mw+x < m.mw*mh:=by rw [Nat.mul_comm m.mw];exact zct hy hxl
  obtain ⟨d1,d2⟩:(y*m.mw+x) / m.mw=y∧(y*m.mw+x) % m.mw=x:=by
   rw [Nat.add_comm]
   exact ⟨by rw [Nat.add_mul_div_right x y (by omega),Nat.div_eq_of_lt hxl,Nat.zero_add],by rw [Nat.add_mul_mod_self_right,Nat.mod_eq_of_lt hxl]⟩
  have nx:∀ M,Pre Mb M→Buf Mb M a ((m.cellS W H (m.passS W H xs (y*m.mw+x)) (y*m.mw+x)).map (Value.int .u8))→Run P T lo F.z6 (z6.Cc m.up m.col m.level m.sharp y x W H A n c m.mw mh AT m.tx.length ct AI m.ids.length ci AQ m.qs.length cq 0 0 none 0 0 W H (some a) n co M) Q:=fun M' hp' hb'=>by
   refine kut (fun k=>z6.Pc k ..) ?_
   rw [w64 (by omega)]
   exact Evp.ret (ih (x+1) M' (by omega) (by omega) hp' hb')
  have ym:y*m.mw≤m.mw*mh:=by omega
  have cell:=fun before hbf=>zsd lo W H mh m A AT AI AQ n c ct ci cq a co Mb hlo f Q y x hy hxl (m.passS W H xs (y*m.mw+x)) (by rw [m.passS_len];exact hl) (m.passS_bytes W H bx _) M hp hbuf before hbf nx
  refine kut (fun k=>z6.Pb k ..) ?_
  refine Evp.dec (fun _=>?_) fun h=>absurd h (by omega)
  refine Evp.nb (fun hu=>?_) fun hu=>?_
  ·have ea:m.at_ (y*m.mw+x)=4*y:=by unfold Cells.at_;rw [hu,d1];rfl
   have es:m.side W H=H:=by unfold Cells.side;rw [hu];rfl
   have ep:m.step W=W:=by unfold Cells.step;rw [hu];rfl
   have el:m.along W=1:=by unfold Cells.along;rw [hu];rfl
   rw [ea,es,ep,el] at cell
   rw [w64 (x:=4*(y:Int)) (by omega),show 4*(y:Int)=((4*y:Nat):Int) by omega]
   refine Evp.ret (cell _ fun h0=>?_)
   unfold Cells.prev
   rw [hu]
   have y0:y≠0:=by omega
   obtain ⟨y',rfl⟩:∃ y',y=y'+1:=⟨y - 1,by omega⟩
   rw [Nat.add_mul,Nat.one_mul] at ym hi ⊢
   rw [w64 (x:=((y'+1:Nat):Int) - 1) (by omega),show ((y'+1:Nat):Int) - 1=(y':Int) by omega,← Int.natCast_mul,w64 (x:=((y'*m.mw:Nat):Int)) (by omega),w64 (by omega)]
   simp only [Bool.false_eq_true,if_false]
   omega
  ·have ea:m.at_ (y*m.mw+x)=4*x:=by unfold Cells.at_;rw [hu,d2];rfl
   have es:m.side W H=W:=by unfold Cells.side;rw [hu];rfl
   have ep:m.step W=1:=by unfold Cells.step;rw [hu];rfl
   have el:m.along W=W:=by unfold Cells.along;rw [hu];rfl
   rw [ea,es,ep,el] at cell
   rw [w64 (x:=4*(x:Int)) (by omega),show 4*(x:Int)=((4*x:Nat):Int) by omega]
   refine Evp.ret (cell _ fun h0=>?_)
   unfold Cells.prev
   rw [hu]
   rw [← Int.natCast_mul,w64 (x:=((y*m.mw:Nat):Int)) (by omega),w64 (x:=((y*m.mw:Nat):Int)+x) (by omega),w64 (by omega)]
   simp only [if_true]
   omega
theorem zsf (xs:List Int)(hl:xs.length=n)(bx:zh xs)(fin:∀ M,Pre Mb M→Buf Mb M a ((m.passS W H xs (m.mw*mh)).map (Value.int .u8))→Q (.tuple ⟨[.agg ⟨[.int .i64 W,.int .i64 H,.slice (some a) n co]⟩,.int .i64 0]⟩,M)) :
  ∀ (d y:Nat) (M:Mem),mh - y=d→y≤mh→Pre Mb M→Buf Mb M a ((m.passS W H xs (y*m.mw)).map (Value.int .u8)) →
   Run P T lo F.z6 (z6.Ca m.up m.col m.level m.sharp y W H A n c m.mw mh AT m.tx.length ct AI m.ids.length ci AQ m.qs.length cq 0 0 none 0 0 W H (some a) n co M) Q:=by
 intro d
 induction d with
 | zero=>
  intro y M hd hy hp hbuf
  obtain rfl:y=mh:=by omega
  refine kut (fun k=>z6.Pa k ..) ?_
  refine Evp.dec (fun h=>absurd h (by omega)) fun _=>Evp.ret (Run.ret (fin M hp ?_))
  rw [Nat.mul_comm];exact hbuf
 | succ d ih=>
  intro y M hd hy hp hbuf
  refine kut (fun k=>z6.Pa k ..) ?_
  refine Evp.dec (fun _=>?_) fun h=>absurd h (by omega)
  exact Evp.ret (zse lo W H mh m A AT AI AQ n c ct ci cq a co Mb hlo f Q y (by omega) xs hl bx (fun M' hp' hb'=>ih (y+1) M' (by omega) (by omega) hp' hb') _ 0 M rfl (Nat.zero_le _) hp hbuf)
end
section
variable (lo:Nat)(w h mw mh:Int)(m:Cells)(A AT AI AQ:Option Addr)(c ct ci cq:Nat)(xs:List Int)(M:Mem)(hlo:lo≤M.length)(hx:RdI M .u8 A xs)(bx:zh xs)(hn:xs.length≤140737488351232)
variable (rt:RdI M .u8 AT m.tx)(ri:RdI M .i64 AI m.ids)(rq:RdB M AQ m.qs)(hnt:m.tx.length≤140737488351232)(hm:m.mw=mw.toNat)
include hlo hx bx hn rt ri rq hnt hm
theorem zot:Ac P T lo F.z6 [.agg ⟨[.int .i64 w,.int .i64 h,.slice A xs.length c]⟩,.agg ⟨[.int .i64 mw,.int .i64 mh,.slice AT m.tx.length ct,.slice AI m.ids.length ci,.slice AQ m.qs.length cq]⟩,.bool m.up,.bool m.col,.int .i64 m.level,.int .i64 m.sharp] M (z3o M w h xs m mw mh):=by
 have bad:¬ z0d w h xs.length mw mh m.tx m.ids.length m.qs.length m.level m.sharp→Run P T lo F.z6 (.ret (.tuple ⟨[.agg ⟨[.int .i64 0,.int .i64 0,.slice none 0 0]⟩,.int .i64 2]⟩) M) (z3o M w h xs m mw mh):=fun hno=>Run.ret ⟨Pre.refl _,by rw [if_neg hno]⟩
 refine Ac.of (Evp.of_eq (fun k=>z6.entry k ..) ?_)
 refine Evp.ob (zqi lo w h mw mh A AT AI AQ xs.length c ct m.ids.length ci m.qs.length cq m.tx M rt hnt) ?_
 rintro _ rfl
 simp only [RD,RE,Nat.reduceAdd,Nat.reduceLT]
 refine Evp.nb (fun g=>Evp.ret (bad fun e=>of_decide_eq_false g e.1)) fun k1=>?_
 have k1:=of_decide_eq_true k1
 refine Evp.dec (fun g=>Evp.ret (bad fun e=>by have:=e.2;omega)) fun k2=>?_
 refine Evp.dec (fun g=>Evp.ret (bad fun e=>by have:=e.2;omega)) fun k3=>?_
 refine Evp.dec (fun g=>Evp.ret (bad fun e=>by have:=e.2;omega)) fun k4=>?_
 refine Evp.dec (fun g=>Evp.ret (bad fun e=>by have:=e.2;omega)) fun k5=>?_
 have ok:z0d w h xs.length mw mh m.tx m.ids.length m.qs.length m.level m.sharp:=⟨k1,by omega,by omega,by omega,by omega⟩
 obtain ⟨W,H,mhn,rfl,rfl,rfl,rfl,f,n0,tl⟩:=zhe w h mw mh m AT AI AQ xs M rt ri rq hm ok
 refine Evp.ob (vu _ _ _ _ _ _ _ hx (by omega)) ?_
 rintro _ ⟨B,co,M1,rfl,p1,hco,g1⟩
 simp only [RD,RE,Nat.reduceAdd,Nat.reduceLT]
 obtain ⟨a,rfl,b1⟩:=g1.buf (by omega)
 refine Evp.ret (zsf lo W H mhn m A AT AI AQ xs.length c ct ci cq a co M hlo f _ xs rfl bx (fun M2 p2 b2=>⟨p2,?_⟩) _ 0 M1 rfl (Nat.zero_le _) p1 (by rw [Nat.zero_mul];exact b1))
 rw [if_pos ok]
 refine ⟨a,co,rfl,?_⟩
 rw [tl]
 exact ⟨hco,b2⟩
end
end Go.Zt

