/- What the law ChainRuns needs of the text Fa. -/
import Derived.Test.YtbbfdebfhgdciaaGreatPAb31
import Derived.Test.YtbbfdebfhgdciaaGreatPEq1
import Derived.Test.YtbbfdebfhgdciaaGreatPEq2
import Derived.Test.YtbbfdebfhgdciaaGreatPEq3
import Derived.Test.YtbbfdebfhgdciaaGreatPEq4
import Derived.Test.YtbbfdebfhgdciaaGreatPEq5
import Derived.KernelRfl
set_option linter.unusedVariables false
set_option linter.unusedSimpArgs false
set_option maxRecDepth 100000
namespace Go.Zt
open IntKind (i64 u8)
def zh (xs:List Int):Prop:=∀ x ∈ xs,0≤x∧x≤255
theorem zh.get {xs:List Int}(h:zh xs)(i:Nat):0≤xs.getD i 0∧xs.getD i 0≤255:=by
 rw [List.getD_eq_getElem?_getD]
 cases hx:xs[i]? with
 | none=>simp
 | some x=>simpa using h x (List.mem_of_getElem? hx)
theorem Grow.rdI {M0 M:Mem}{A:Option Addr}{k:IntKind}{xs:List Int}(h:Grow M0 M 1 A xs.length (xs.map (Value.int k))):RdI M k A xs:=h.rd
def y8 (v a b:Int):Int:=if v < a then a else if v > b then b else v
theorem zih {v a b:Int}(h:a≤b):zq (yv v a) b=y8 v a b:=by
 unfold zq yv y8;repeat' split
 all_goals omega
theorem z0j {v a b:Int}(h:a≤b):a≤y8 v a b∧y8 v a b≤b:=by
 unfold y8;split
 ·omega
 ·split <;> omega
def jw (d:Int):Int:=if d < 0 then -d else d
theorem z4s (lo:Nat)(x y:Int)(M:Mem)(hx:0≤x∧x≤255)(hy:0≤y∧y≤255):Ac P T lo F.ziw [.int .u8 x,.int .u8 y] M fun r=>r=(.int .i64 (jw (x - y)),M):=by
 refine Ac.of (Evp.of_eq (fun k=>ziw.entry k ..) ?_)
 rw [w64 (x:=x) (by omega),w64 (x:=y) (by omega),w64 (x:=x - y) (by omega),w64 (x:=y - x) (by omega)]
 refine Evp.ret (Run.ret ?_)
 congr 2
 unfold yv jw
 split <;> split <;> omega
def atE (xs:List Int)(i:Int):Int:=xs.getD (((xs.length / 2:Nat):Int)+i).toNat 0
def yo (xs:List Int)(i k:Int):Int:=jw (atE xs i - atE xs k)
section
variable (lo:Nat)(A:Option Addr)(c:Nat)(xs:List Int)(M:Mem)
theorem qq (bx:zh xs)(i:Int):0≤atE xs i∧atE xs i≤255:=bx.get _
theorem z6v (hx:RdI M .u8 A xs)(hn:xs.length≤1000)(i:Int)(h0:0≤i)(h1:i < ((xs.length / 2:Nat):Int)):Ac P T lo F.zdt [.agg ⟨[.slice A xs.length c,.int .i64 ((xs.length / 2:Nat):Int)]⟩,.int .i64 i] M fun r=>r=(.int .u8 (atE xs (-1 - i)),M):=by
 refine Ac.of (Evp.of_eq (fun k=>zdt.entry k ..) ?_)
 rw [w64 (x:=((xs.length / 2:Nat):Int) - 1) (by omega),w64 (x:=((xs.length / 2:Nat):Int) - 1 - i) (by omega)]
 refine Evp.pos (by omega) (Evp.ldI hx (by omega) fun _ _=>?_)
 refine Evp.ret (Run.ret ?_)
 unfold atE
 rw [show ((xs.length / 2:Nat):Int)+(-1 - i)=((xs.length / 2:Nat):Int) - 1 - i by omega]
theorem z6w (hx:RdI M .u8 A xs)(hn:xs.length≤1000)(i:Int)(h0:0≤i)(h1:i < ((xs.length / 2:Nat):Int)):Ac P T lo F.zdx [.agg ⟨[.slice A xs.length c,.int .i64 ((xs.length / 2:Nat):Int)]⟩,.int .i64 i] M fun r=>r=(.int .u8 (atE xs i),M):=by
 refine Ac.of (Evp.of_eq (fun k=>zdx.entry k ..) ?_)
 rw [w64 (x:=((xs.length / 2:Nat):Int)+i) (by omega)]
 refine Evp.pos (by omega) (Evp.ldI hx (by omega) fun _ _=>?_)
 exact Evp.ret (Run.ret rfl)
end
def zm (level sharp:Int):Int:=yv (if sharp > 4 then zq (level / 4) (9 - sharp) else if sharp > 0 then zq (level / 2) (9 - sharp) else level) 1
theorem znq (lo:Nat)(level sharp:Int)(M:Mem)(hl:0≤level∧level≤63)(hs:0≤sharp∧sharp≤7):Ac P T lo F.qv [.int .i64 level,.int .i64 sharp] M fun r=>r=(.agg ⟨[.int .i64 (zm level sharp),.int .i64 (2*(level+2)+zm level sharp),.int .i64 (level / 16)]⟩,M):=by
 have s2:yz .i64 level 2=level / 4:=by rw [ud 2 (by omega)];rfl
 have s1:yz .i64 level 1=level / 2:=by rw [ud 1 (by omega)];rfl
 have s4:yz .i64 level 4=level / 16:=by rw [ud 4 (by omega)];rfl
 have fin:∀ z:Int,-100≤z∧z≤100→yv z 1=zm level sharp→Run P T lo F.qv (qv.Ca level z 0 0 0 M) fun r=>r=(.agg ⟨[.int .i64 (zm level sharp),.int .i64 (2*(level+2)+zm level sharp),.int .i64 (level / 16)]⟩,M):=fun z hz e=>by
  refine kut (fun k=>qv.Pa k ..) ?_
  have hb : -100≤yv z 1∧yv z 1≤100:=by unfold yv;split <;> omega
  rw [s4,w64 (x:=level+2) (by omega),w64 (x:=2*(level+2)) (by omega),w64 (x:=2*(level+2)+yv z 1) (by omega),e]
  exact Evp.ret (Run.ret rfl)
 have hm:∀ z:Int,0≤z∧z≤63→-100≤zq z (9 - sharp)∧zq z (9 - sharp)≤100:=fun z hz=>by unfold zq;split <;> omega
 refine Ac.of (Evp.of_eq (fun k=>qv.entry k ..) ?_)
 rw [s2,s1,w64 (x:=9 - sharp) (by omega)]
 refine Evp.dec (fun h1=>Evp.ret (fin _ (hm _ (by omega)) (by unfold zm;rw [if_pos h1]))) fun h1=>?_
 refine Evp.dec (fun h2=>Evp.ret (fin _ (hm _ (by omega)) (by unfold zm;rw [if_neg h1,if_pos h2]))) fun h2=>?_
 exact Evp.ret (fin _ (by omega) (by unfold zm;rw [if_neg h1,if_neg h2]))
def vv (xs:List Int)(lim:Int):Nat→Prop
 | 0=>True
 | k+1=>vv xs lim k∧yo xs (-2 - k) (-1 - k)≤lim∧yo xs (k+1) k≤lim
instance decSmall (xs:List Int) (lim:Int):(k:Nat)→Decidable (vv xs lim k)
 | 0=>isTrue trivial
 | k+1=>by
  have:=decSmall xs lim k
  unfold vv
  exact inferInstance
def z09 (xs:List Int)(lim edge:Int):Prop:=vv xs lim (min (xs.length / 2) 4 - 1)∧2*yo xs (-1) 0+yo xs (-2) 1 / 2≤edge
instance (xs:List Int) (lim edge:Int):Decidable (z09 xs lim edge):=inferInstanceAs (Decidable (_∧_))
theorem z6x {xs:List Int}{lim:Int} : ∀ {n k:Nat},k≤n→vv xs lim n→vv xs lim k
 | 0,k,h,hs=>by
           obtain rfl:k=0:=by omega
           exact hs
 | n+1,k,h,hs=>by
  by_cases e:k=n+1
  ·subst e;exact hs
  ·exact z6x (by omega) hs.1
theorem zak {xs:List Int}(bx:zh xs)(i k:Int):0≤yo xs i k∧yo xs i k≤255:=by
 have h1:=qq xs bx i
 have h2:=qq xs bx k
 unfold yo jw
 split <;> omega
section
variable (lo:Nat)(A:Option Addr)(c:Nat)(xs:List Int)(M:Mem)
theorem zl6 (hx:RdI M .u8 A xs)(bx:zh xs)(hn:xs.length≤1000)(h4:4≤xs.length)(lim edge t:Int) :
  ∀ (d k:Nat),min (xs.length / 2) 4 - 1 - k=d→k≤min (xs.length / 2) 4 - 1→vv xs lim k →
  Run P T lo F.qg (qg.Ca ((min (xs.length / 2) 4:Nat):Int) ((k+1:Nat):Int) A xs.length c ((xs.length / 2:Nat):Int) lim edge t M) fun r=>r=(.bool (decide (¬ z09 xs lim edge)),M):=by
 intro d
 induction d with
 | zero=>
  intro k hd hk hs
  obtain rfl:k=min (xs.length / 2) 4 - 1:=by omega
  refine kut (fun k=>qg.Pa k ..) ?_
  refine Evp.dec (fun h=>absurd h (by omega)) fun _=>?_
  refine Evp.ob (z6v _ _ _ _ _ hx hn 0 (by omega) (by omega)) ?_
  rintro _ rfl
  simp only [RD,RE,Nat.reduceAdd,Nat.reduceLT]
  refine Evp.ob (z6w _ _ _ _ _ hx hn 0 (by omega) (by omega)) ?_
  rintro _ rfl
  simp only [RD,RE,Nat.reduceAdd,Nat.reduceLT]
  refine Evp.ob (z4s _ _ _ _ (qq xs bx _) (qq xs bx _)) ?_
  rintro _ rfl
  simp only [RD,RE,Nat.reduceAdd,Nat.reduceLT]
  refine Evp.ob (z6v _ _ _ _ _ hx hn 1 (by omega) (by omega)) ?_
  rintro _ rfl
  simp only [RD,RE,Nat.reduceAdd,Nat.reduceLT]
  refine Evp.ob (z6w _ _ _ _ _ hx hn 1 (by omega) (by omega)) ?_
  rintro _ rfl
  simp only [RD,RE,Nat.reduceAdd,Nat.reduceLT]
  refine Evp.ob (z4s _ _ _ _ (qq xs bx _) (qq xs bx _)) ?_
  rintro _ rfl
  simp only [RD,RE,Nat.reduceAdd,Nat.reduceLT]
  have f1:=zak bx (-1) 0
  have f2:=zak bx (-2) 1
  rw [show (-1 - 0:Int)=-1 by omega,show (-1 - 1:Int)=-2 by omega,show jw (atE xs (-1) - atE xs 0)=yo xs (-1) 0 from rfl,show jw (atE xs (-2) - atE xs 1)=yo xs (-2) 1 from rfl,Int.tdiv_eq_ediv_of_nonneg f2.1,w64 (x:=2*yo xs (-1) 0) (by omega),w64 (x:=yo xs (-2) 1 / 2) (by omega),w64 (x:=2*yo xs (-1) 0+yo xs (-2) 1 / 2) (by omega)]
  refine Evp.ret (Run.ret ?_)
  congr 2
  refine decide_eq_decide.2 ⟨fun h e=>by have:=e.2;omega,fun h=>?_⟩
  by_cases hh:2*yo xs (-1) 0+yo xs (-2) 1 / 2 > edge
  ·exact hh
  ·exact absurd ⟨hs,by omega⟩ h
 | succ d ih=>
  intro k hd hk hs
  have bad:¬ (yo xs (-2 - k) (-1 - k)≤lim∧yo xs (k+1) k≤lim)→¬ z09 xs lim edge:=fun h e=>h (z6x (k:=k+1) (by omega) e.1).2
  refine kut (fun k=>qg.Pa k ..) ?_
  refine Evp.dec (fun _=>?_) fun h=>absurd h (by omega)
  rw [w64 (x:=((k+1:Nat):Int) - 1) (by omega)]
  refine Evp.ob (z6v _ _ _ _ _ hx hn ((k+1:Nat):Int) (by omega) (by omega)) ?_
  rintro _ rfl
  simp only [RD,RE,Nat.reduceAdd,Nat.reduceLT]
  refine Evp.ob (z6v _ _ _ _ _ hx hn (((k+1:Nat):Int) - 1) (by omega) (by omega)) ?_
  rintro _ rfl
  simp only [RD,RE,Nat.reduceAdd,Nat.reduceLT]
  refine Evp.ob (z4s _ _ _ _ (qq xs bx _) (qq xs bx _)) ?_
  rintro _ rfl
  simp only [RD,RE,Nat.reduceAdd,Nat.reduceLT]
  rw [show -1 - ((k+1:Nat):Int)=-2 - k by omega,show -1 - (((k+1:Nat):Int) - 1)=-1 - k by omega]
  refine Evp.dec (fun h=>Evp.ret (Run.ret ?_)) fun g1=>?_
  ·rw [decide_eq_true (bad fun e=>by have:=e.1;unfold yo at this;omega)]
  refine Evp.ob (z6w _ _ _ _ _ hx hn ((k+1:Nat):Int) (by omega) (by omega)) ?_
  rintro _ rfl
  simp only [RD,RE,Nat.reduceAdd,Nat.reduceLT]
  refine Evp.ob (z6w _ _ _ _ _ hx hn (((k+1:Nat):Int) - 1) (by omega) (by omega)) ?_
  rintro _ rfl
  simp only [RD,RE,Nat.reduceAdd,Nat.reduceLT]
  refine Evp.ob (z4s _ _ _ _ (qq xs bx _) (qq xs bx _)) ?_
  rintro _ rfl
  simp only [RD,RE,Nat.reduceAdd,Nat.reduceLT]
  rw [show ((k+1:Nat):Int) - 1=k by omega]
  refine Evp.dec (fun h=>Evp.ret (Run.ret ?_)) fun g2=>?_
  ·rw [decide_eq_true (bad fun e=>by have:=e.2;unfold yo at this;rw [show ((k+1:Nat):Int)=(k:Int)+1 by omega] at h;omega)]
  rw [w64 (x:=((k+1:Nat):Int)+1) (by omega)]
  refine Evp.ret (ih (k+1) (by omega) (by omega) ⟨hs,?_,?_⟩)
  ·unfold yo;omega
  ·unfold yo;rw [show ((k+1:Nat):Int)=(k:Int)+1 by omega] at g2;omega
theorem zpc (hx:RdI M .u8 A xs)(bx:zh xs)(hn:xs.length≤1000)(h4:4≤xs.length)(lim edge t:Int) :
  Ac P T lo F.qg [.agg ⟨[.slice A xs.length c,.int .i64 ((xs.length / 2:Nat):Int)]⟩,.agg ⟨[.int .i64 lim,.int .i64 edge,.int .i64 t]⟩] M fun r=>r=(.bool (decide (¬ z09 xs lim edge)),M):=by
 have e:Int.tdiv (xs.length:Int) 2=((xs.length / 2:Nat):Int):=rfl
 have e2:zq ((xs.length / 2:Nat):Int) 4=((min (xs.length / 2) 4:Nat):Int):=by unfold zq;split <;> omega
 refine Ac.of (Evp.of_eq (fun k=>qg.entry k ..) ?_)
 rw [e,w64 (x:=((xs.length / 2:Nat):Int)) (by omega),e2]
 exact Evp.ret (zl6 lo A c xs M hx bx hn h4 lim edge t _ 0 rfl (by omega) trivial)
end
section
variable (lo:Nat)(A:Option Addr)(c:Nat)(xs:List Int)(M:Mem)(level sharp:Int)
def kn (xs:List Int):Nat→Prop
 | 0=>True
 | k+1=>kn xs k∧yo xs (-2 - k) (-1)≤1∧yo xs (k+1) 0≤1
instance decFlat (xs:List Int):(k:Nat)→Decidable (kn xs k)
 | 0=>isTrue trivial
 | k+1=>by
  have:=decFlat xs k
  unfold kn
  exact inferInstance
theorem z5b {xs:List Int} : ∀ {n k:Nat},k≤n→kn xs n→kn xs k
 | 0,k,h,hs=>by
           obtain rfl:k=0:=by omega
           exact hs
 | n+1,k,h,hs=>by
  by_cases e:k=n+1
  ·subst e;exact hs
  ·exact z5b (by omega) hs.1
theorem znr (hx:RdI M .u8 A xs)(bx:zh xs)(hn:xs.length≤1000)(m:Nat)(hm:m < xs.length / 2) :
  ∀ (d k:Nat),m - k=d→k≤m→kn xs k →
  Run P T lo F.qk (qk.Ca m ((k+1:Nat):Int) A xs.length c ((xs.length / 2:Nat):Int) M) fun r=>r=(.bool (decide (kn xs m)),M):=by
 intro d
 induction d with
 | zero=>
  intro k hd hk hs
  obtain rfl:k=m:=by omega
  refine kut (fun k=>qk.Pa k ..) ?_
  refine Evp.dec (fun h=>absurd h (by omega)) fun _=>?_
  exact Evp.ret (Run.ret (by rw [decide_eq_true hs]))
 | succ d ih=>
  intro k hd hk hs
  have bad:¬ (yo xs (-2 - k) (-1)≤1∧yo xs (k+1) 0≤1)→¬ kn xs m:=fun h e=>h (z5b (k:=k+1) (by omega) e).2
  refine kut (fun k=>qk.Pa k ..) ?_
  refine Evp.dec (fun _=>?_) fun h=>absurd h (by omega)
  refine Evp.ob (z6v _ _ _ _ _ hx hn ((k+1:Nat):Int) (by omega) (by omega)) ?_
  rintro _ rfl
  simp only [RD,RE,Nat.reduceAdd,Nat.reduceLT]
  refine Evp.ob (z6v _ _ _ _ _ hx hn 0 (by omega) (by omega)) ?_
  rintro _ rfl
  simp only [RD,RE,Nat.reduceAdd,Nat.reduceLT]
  refine Evp.ob (z4s _ _ _ _ (qq xs bx _) (qq xs bx _)) ?_
  rintro _ rfl
  simp only [RD,RE,Nat.reduceAdd,Nat.reduceLT]
  rw [show -1 - ((k+1:Nat):Int)=-2 - k by omega,show (-1 - 0:Int)=-1 by omega]
  refine Evp.dec (fun h=>Evp.ret (Run.ret ?_)) fun g1=>?_
  ·rw [decide_eq_false (bad fun e=>by have:=e.1;unfold yo at this;omega)]
  refine Evp.ob (z6w _ _ _ _ _ hx hn ((k+1:Nat):Int) (by omega) (by omega)) ?_
  rintro _ rfl
  simp only [RD,RE,Nat.reduceAdd,Nat.reduceLT]
  refine Evp.ob (z6w _ _ _ _ _ hx hn 0 (by omega) (by omega)) ?_
  rintro _ rfl
  simp only [RD,RE,Nat.reduceAdd,Nat.reduceLT]
  refine Evp.ob (z4s _ _ _ _ (qq xs bx _) (qq xs bx _)) ?_
  rintro _ rfl
  simp only [RD,RE,Nat.reduceAdd,Nat.reduceLT]
  refine Evp.dec (fun h=>Evp.ret (Run.ret ?_)) fun g2=>?_
  ·rw [decide_eq_false (bad fun e=>by have:=e.2;unfold yo at this;rw [show ((k+1:Nat):Int)=(k:Int)+1 by omega] at h;omega)]
  rw [w64 (x:=((k+1:Nat):Int)+1) (by omega)]
  refine Evp.ret (ih (k+1) (by omega) (by omega) ⟨hs,?_,?_⟩)
  ·unfold yo;omega
  ·unfold yo;rw [show ((k+1:Nat):Int)=(k:Int)+1 by omega] at g2;omega
theorem zal (hx:RdI M .u8 A xs)(bx:zh xs)(hn:xs.length≤1000)(m:Nat)(hm:m < xs.length / 2) :
  Ac P T lo F.qk [.agg ⟨[.slice A xs.length c,.int .i64 ((xs.length / 2:Nat):Int)]⟩,.int .i64 1,.int .i64 m] M fun r=>r=(.bool (decide (kn xs m)),M):=by
 refine Ac.of (Evp.of_eq (fun k=>qk.entry k ..) ?_)
 exact Evp.ret (znr lo A c xs M hx bx hn m hm m 0 rfl (by omega) trivial)
end
theorem z9t (lo:Nat)(n a b:Int)(M:Mem):Ac P T lo F.zdv [.int .i64 n,.int .i64 a,.int .i64 b] M fun r=>r=(.bool (decide (a≤n∧n≤b)),M):=by
 refine Ac.of (Evp.of_eq (fun k=>zdv.entry k ..) ?_)
 refine Evp.dec (fun h=>?_) fun h=>Evp.ret (Run.ret (by rw [decide_eq_false (fun e=>h e.1)]))
 refine Evp.ret (Run.ret ?_)
 congr 2
 exact decide_eq_decide.2 (by omega)
theorem zbq (lo:Nat)(v a b:Int)(M:Mem)(h:a≤b):Ac P T lo F.zhj [.int .i64 v,.int .i64 a,.int .i64 b] M fun r=>r=(.int .i64 (y8 v a b),M):=by
 refine Ac.of (Evp.of_eq (fun k=>zhj.entry k ..) ?_)
 rw [zih h]
 exact Evp.ret (Run.ret rfl)
def z06 (xs:List Int)(n m:Nat)(i:Int):Nat→Int
 | 0=>0
 | t+1=>z06 xs n m i t+(if -(m:Int)≤-(n:Int)+t∧-(n:Int)+t≤m then 2 else 1)*atE xs (y8 (i+(-(n:Int)+t)) (-(n:Int) - 1) n)
theorem zjk {xs:List Int}(bx:zh xs)(n m:Nat)(i:Int)(t:Nat):0≤z06 xs n m i t∧z06 xs n m i t≤510*t:=by
 induction t with
 | zero=>simp [z06]
 | succ t ih=>
  have:=qq xs bx (y8 (i+(-(n:Int)+t)) (-(n:Int) - 1) n)
  simp only [z06]
  split <;> omega
def zdo (sum sh:Int):Int:=u8.wrap (yz .i64 (i64.wrap (sum+z84 .i64 1 ((i64.wrap (sh - 1)).toNat))) sh.toNat)
def z0o (xs:List Int)(n m:Nat)(sh:Int):Nat→List Int
 | 0=>xs
 | k+1=>(z0o xs n m sh k).set (xs.length / 2 - n+k) (zdo (z06 xs n m (-(n:Int)+k) (2*n+1)) sh)
theorem z9u (xs:List Int)(n m:Nat)(sh:Int)(k:Nat):(z0o xs n m sh k).length=xs.length:=by
 induction k with
 | zero=>rfl
 | succ k ih=>simp [z0o,ih]
section
variable {lo:Nat}{A:Option Addr}{c:Nat}{xs:List Int}{M0:Mem}{a:Addr}{cc:Nat}{Q:Value × Mem→Prop}{n m:Nat}{sh:Int}
theorem zpd (hx:RdI M0 .u8 A xs)(bx:zh xs)(hn:xs.length≤1000)(h2:2*(xs.length / 2)=xs.length)(hnn:n+1≤xs.length / 2)(hm:m≤n)(M:Mem)(hp:Pre M0 M)(B:Option Addr)(nb cb:Nat)(i:Int)(hi : -(n:Int)≤i∧i < n)
  (hend:Run P T lo F.zw (zw.Cb n m sh B nb cb i (z06 xs n m i (2*n+1)) ((n:Int)+1) A xs.length c ((xs.length / 2:Nat):Int) M) Q) :
  ∀ (d t:Nat),2*n+1 - t=d→t≤2*n+1 →
  Run P T lo F.zw (zw.Cb n m sh B nb cb i (z06 xs n m i t) (-(n:Int)+t) A xs.length c ((xs.length / 2:Nat):Int) M) Q:=by
 intro d
 induction d with
 | zero=>
  intro t hd ht
  obtain rfl:t=2*n+1:=by omega
  rw [show -(n:Int)+((2*n+1:Nat):Int)=(n:Int)+1 by omega]
  exact hend
 | succ d ih=>
  intro t hd ht
  refine kut (fun k=>zw.Pb k ..) ?_
  refine Evp.dec (fun _=>?_) fun h=>absurd h (by omega)
  rw [w64 (x:=i+(-(n:Int)+t)) (by omega),w64 (x:=0 - (n:Int)) (by omega),w64 (x:=0 - (n:Int) - 1) (by omega),show 0 - (n:Int) - 1=-(n:Int) - 1 by omega]
  refine Evp.ob (zbq _ _ _ _ _ (by omega)) ?_
  rintro _ rfl
  simp only [RD,RE,Nat.reduceAdd,Nat.reduceLT]
  have hc:=z0j (v:=i+(-(n:Int)+t)) (a:=-(n:Int) - 1) (b:=n) (by omega)
  have hs:=zjk bx n m i t
  have ha:=qq xs bx (y8 (i+(-(n:Int)+t)) (-(n:Int) - 1) n)
  rw [w64 (x:=((xs.length / 2:Nat):Int)+y8 (i+(-(n:Int)+t)) (-(n:Int) - 1) n) (by omega)]
  refine Evp.pos (by omega) (Evp.ldI (hx.pre hp) (by omega) fun _ _=>?_)
  rw [show xs.getD (((xs.length / 2:Nat):Int)+y8 (i+(-(n:Int)+t)) (-(n:Int) - 1) n).toNat 0=atE xs (y8 (i+(-(n:Int)+t)) (-(n:Int) - 1) n) from rfl]
  rw [w64 (x:=0 - (m:Int)) (by omega),show 0 - (m:Int)=-(m:Int) by omega]
  refine Evp.ob (z9t ..) ?_
  rintro _ rfl
  simp only [RD,RE,Nat.reduceAdd,Nat.reduceLT]
  have nxt:=ih (t+1) (by omega) (by omega)
  simp only [z06] at nxt
  generalize atE xs (y8 (i+(-(n:Int)+t)) (-(n:Int) - 1) n)=v at *
  rw [w64 (x:=v) (by omega)]
  refine Evp.dec (fun h=>?_) fun h=>?_
  ·rw [if_pos h] at nxt
   rw [w64 (x:=z06 xs n m i t+v) (by omega),w64 (x:=z06 xs n m i t+v+v) (by omega)]
   refine Evp.ret ?_
   refine kut (fun k=>zw.Pc k ..) ?_
   rw [w64 (x:=-(n:Int)+t+1) (by omega),show -(n:Int)+t+1=-(n:Int)+((t+1:Nat):Int) by omega,show z06 xs n m i t+v+v=z06 xs n m i t+2*v by omega]
   exact Evp.ret nxt
  ·rw [if_neg h,Int.one_mul] at nxt
   rw [w64 (x:=z06 xs n m i t+v) (by omega)]
   refine Evp.ret ?_
   refine kut (fun k=>zw.Pc k ..) ?_
   rw [w64 (x:=-(n:Int)+t+1) (by omega),show -(n:Int)+t+1=-(n:Int)+((t+1:Nat):Int) by omega]
   exact Evp.ret nxt
theorem zns (hlo:lo≤M0.length)(hx:RdI M0 .u8 A xs)(bx:zh xs)(hn:xs.length≤1000)(h2:2*(xs.length / 2)=xs.length)(hnn:n+1≤xs.length / 2)(hm:m≤n)(hsh:sh=3∨sh=4) :
  ∀ (d k:Nat) (M:Mem),2*n - k=d→k≤2*n→Pre M0 M→Buf M0 M a ((z0o xs n m sh k).map (Value.int .u8)) →
  Run P T lo F.zw (zw.Ca n m sh (some a) xs.length cc (-(n:Int)+k) A xs.length c ((xs.length / 2:Nat):Int) M) fun r=>∃ M',r=(.slice (some a) xs.length cc,M')∧Pre M0 M'∧Buf M0 M' a ((z0o xs n m sh (2*n)).map (Value.int .u8)):=by
 intro d
 induction d with
 | zero=>
  intro k M hd hk hp hb
  obtain rfl:k=2*n:=by omega
  refine kut (fun k=>zw.Pa k ..) ?_
  exact Evp.dec (fun h=>absurd h (by omega)) fun _=>Evp.ret (Run.ret ⟨M,rfl,hp,hb⟩)
 | succ d ih=>
  intro k M hd hk hp hb
  refine kut (fun k=>zw.Pa k ..) ?_
  refine Evp.dec (fun _=>?_) fun h=>absurd h (by omega)
  rw [w64 (x:=0 - (n:Int)) (by omega),show 0 - (n:Int)=-(n:Int)+((0:Nat):Int) by omega]
  refine Evp.ret (zpd hx bx hn h2 hnn hm M hp (some a) xs.length cc (-(n:Int)+k) (by omega) ?_ _ 0 rfl (by omega))
  refine kut (fun k=>zw.Pb k ..) ?_
  refine Evp.dec (fun h=>absurd h (by omega)) fun _=>?_
  rw [w64 (x:=sh - 1) (by omega),w64 (x:=((xs.length / 2:Nat):Int)+(-(n:Int)+k)) (by omega)]
  refine Evp.neg (by omega) (Evp.neg (by omega) (Evp.pos (by omega) (Evp.some rfl ?_)))
  rw [show (((xs.length / 2:Nat):Int)+(-(n:Int)+k)).toNat=xs.length / 2 - n+k by omega]
  obtain ⟨M1,g1,g2,g3,g4,g5⟩:=hb.st (lo:=lo) (i:=xs.length / 2 - n+k) (vs:=[.int .u8 (zdo (z06 xs n m (-(n:Int)+k) (2*n+1)) sh)]) hp hlo (by simp [z9u];omega)
  unfold zdo at g1
  rw [w64 (x:=sh - 1) (by omega)] at g1
  refine Evp.some g1 ?_
  rw [jf,qe] at g2
  rw [w64 (x:=-(n:Int)+k+1) (by omega),show -(n:Int)+k+1=-(n:Int)+((k+1:Nat):Int) by omega]
  exact Evp.ret (ih (k+1) M1 (by omega) (by omega) g3 g2)
end
theorem z18 (lo:Nat)(A:Option Addr)(c:Nat)(xs:List Int)(M:Mem)(hr:RdI M .u8 A xs)(h0:xs.length≠0)(hn:xs.length≤140737488351232)(hlo:lo≤M.length) :
  Ac P T lo F.z1p [.slice A xs.length c] M fun r=>∃ a cc M',r=(.slice (some a) xs.length cc,M')∧Pre M M'∧xs.length≤cc∧Buf M M' a (xs.map (Value.int .u8)):=by
 obtain ⟨a0,hA,_⟩:=hr.ld (i:=0) (by omega)
 refine Ac.of (Evp.of_eq (fun k=>z1p.entry k ..) ?_)
 refine Evp.ff (by rw [hA];rfl) ?_
 refine Evp.some ((hr.pre (Pre.app _ _)).src) ?_
 have e:(M ++ [⟨.fx,[]⟩]:Mem).app lo 1 1 ⟨some ⟨M.length,0,none⟩,0,0⟩ (xs.map (Value.int .u8)) xs.length=some (⟨some ⟨(M ++ [⟨.fx,[]⟩]:Mem).length,0,some (xs.map (Value.int .u8)).length⟩,xs.length,xs.length⟩,(M ++ [⟨.fx,[]⟩]:Mem) ++ [⟨.op 1,xs.map (Value.int .u8)⟩]):=by
  unfold Mem.app
  have hroom:room (0+xs.length) 1:=by show (0+xs.length)*1≤140737488355328;omega
  simp only [h0,if_false]
  rw [if_pos hroom]
  simp
 refine Evp.some e ?_
 refine Evp.ret (Run.ret ⟨_,_,_,rfl,(Pre.app M _).trans (Pre.app _ _),Nat.le_refl _,?_⟩)
 exact ⟨.op 1,rfl,by simp,by simp,.inr ⟨1,rfl,rfl⟩⟩
def z5c (n m:Nat)(sh:Int):Prop:=(n=2∧m=1∧sh=3)∨(n=3∧m=0∧sh=3)∨(n=6∧m=1∧sh=4)
section
variable {lo:Nat}{A:Option Addr}{c:Nat}{xs:List Int}{M:Mem}{n m:Nat}{sh:Int}
theorem zqs (hlo:lo≤M.length)(hx:RdI M .u8 A xs)(bx:zh xs)(hn:xs.length≤1000)(h2:2*(xs.length / 2)=xs.length)(hnn:n+1≤xs.length / 2)(hc:z5c n m sh) :
  Ac P T lo F.zw [.agg ⟨[.slice A xs.length c,.int .i64 ((xs.length / 2:Nat):Int)]⟩,.int .i64 n,.int .i64 m,.int .i64 sh] M fun r=>∃ a cc M',r=(.slice (some a) xs.length cc,M')∧Pre M M'∧Buf M M' a ((z0o xs n m sh (2*n)).map (Value.int .u8)):=by
 unfold z5c at hc
 refine Ac.of (Evp.of_eq (fun k=>zw.entry k ..) ?_)
 refine Evp.ob (z18 lo A c xs M hx (by omega) (by omega) hlo) ?_
 rintro _ ⟨a,cc,M1,rfl,p1,hcc,hb⟩
 simp only [RD,RE,Nat.reduceAdd,Nat.reduceLT]
 rw [w64 (x:=0 - (n:Int)) (by omega),show 0 - (n:Int)=-(n:Int)+((0:Nat):Int) by omega]
 refine Evp.ret ((zns (a:=a) (cc:=cc) hlo hx bx hn h2 hnn (by omega) (by omega) _ 0 M1 rfl (by omega) p1 hb).mono ?_)
 rintro _ ⟨M',rfl,p,hb'⟩
 exact ⟨a,cc,M',rfl,p,hb'⟩
end
def z63 (xs:List Int)(t:Int):Prop:=yo xs (-2) (-1) > t∨yo xs 1 0 > t
instance (xs:List Int) (t:Int):Decidable (z63 xs t):=inferInstanceAs (Decidable (_∨_))
def cB (v:Int):Int:=y8 v (-128) 127
def fE0 (xs:List Int)(t:Int):Int:=if z63 xs t then cB (atE xs (-2) - atE xs 1) else 0
def fE (xs:List Int)(t:Int):Int:=cB (fE0 xs t+3*(atE xs 0 - atE xs (-1)))
def aE (xs:List Int)(t:Int):Int:=cB (fE xs t+4) / 8
def bE (xs:List Int)(t:Int):Int:=cB (fE xs t+3) / 8
def dE (xs:List Int)(t:Int):Int:=(aE xs t+1) / 2
def uu (xs:List Int)(t:Int):List Int:=
 if z63 xs t then (xs.set (xs.length / 2) (y8 (atE xs 0 - aE xs t) 0 255)).set (xs.length / 2 - 1) (y8 (atE xs (-1)+bE xs t) 0 255)
 else (((xs.set (xs.length / 2) (y8 (atE xs 0 - aE xs t) 0 255)).set (xs.length / 2 - 1) (y8 (atE xs (-1)+bE xs t) 0 255)).set (xs.length / 2+1) (y8 (atE xs 1 - dE xs t) 0 255)).set (xs.length / 2 - 2) (y8 (atE xs (-2)+dE xs t) 0 255)
theorem z6j (v:Int) : -128≤cB v∧cB v≤127:=z0j (by decide)
theorem zcs (lo:Nat)(v:Int)(M:Mem):Ac P T lo F.z7k [.int .i64 v] M fun r=>r=(.int .i64 (cB v),M):=by
 refine Ac.of (Evp.of_eq (fun k=>z7k.entry k ..) ?_)
 refine Evp.ob (zbq _ _ _ _ _ (by decide)) ?_
 rintro _ rfl
 simp only [RD,RE,Nat.reduceAdd,Nat.reduceLT]
 exact Evp.ret (Run.ret rfl)
theorem zl7 (z:Int):yz .i64 z 3=z / 8:=by rw [ud 3 (by omega)];rfl
theorem zrx (z:Int):yz .i64 z 1=z / 2:=by rw [ud 1 (by omega)];rfl
theorem Buf.in_ {M0 M:Mem}{a:Addr}{cs:List Value}(h:Buf M0 M a cs):a.block < M.length:=by
 obtain ⟨k,h1,h2,h3,h4⟩:=h
 exact (List.getElem?_eq_some_iff.1 h3).1
section
variable {lo:Nat}{A:Option Addr}{c:Nat}{xs:List Int}{M0:Mem}{a:Addr}{cc b3 b4:Nat}
theorem zfi (hlo:lo≤M0.length)(hn:xs.length≤1000)(M:Mem)(hp:Pre M0 M)(zs:List Int)(hz:zs.length=xs.length)(hb:Buf M0 M a (zs.map (Value.int .u8)))(g3:M[b3]?=some ⟨.fx,[.slice (some a) xs.length cc]⟩)(g4:M[b4]?=some ⟨.fx,[.slice A xs.length c,.int .i64 ((xs.length / 2:Nat):Int)]⟩)(n3:a.block≠b3)(n4:a.block≠b4)(i v:Int)(h0:0≤((xs.length / 2:Nat):Int)+i)(h1:((xs.length / 2:Nat):Int)+i < xs.length) :
  Ac P T lo F.z7j [.int .i64 i,.int .i64 v,.pointer (some ⟨b3,0,none⟩),.pointer (some ⟨b4,0,none⟩)] M fun r=>∃ M',r=(.tuple ⟨[]⟩,M')∧Pre M0 M'∧Buf M0 M' a ((zs.set (((xs.length / 2:Nat):Int)+i).toNat (y8 v 0 255)).map (Value.int .u8))∧M'[b3]?=some ⟨.fx,[.slice (some a) xs.length cc]⟩∧M'[b4]?=some ⟨.fx,[.slice A xs.length c,.int .i64 ((xs.length / 2:Nat):Int)]⟩:=by
 have l3:=vw g3
 have l4:=vw g4
 refine Ac.of (Evp.of_eq (fun k=>z7j.entry k ..) ?_)
 refine Evp.some (b:=⟨some a,xs.length,cc⟩) (by rw [if_pos l3,zam g3];rfl) ?_
 refine Evp.some (b:=((xs.length / 2:Nat):Int)) (by rw [if_pos (by rw [z3a];exact l4),zhf g4];rfl) ?_
 refine Evp.ob (zbq _ _ _ _ _ (by decide)) ?_
 rintro _ rfl
 simp only [RD,RE,Nat.reduceAdd,Nat.reduceLT]
 have k:=z0j (v:=v) (a:=0) (b:=255) (by decide)
 rw [w64 (x:=((xs.length / 2:Nat):Int)+i) (by omega),wu8 k]
 refine Evp.pos (by omega) (Evp.some rfl ?_)
 obtain ⟨M1,s1,s2,s3,s4,s5⟩:=hb.st (lo:=lo) (i:=(((xs.length / 2:Nat):Int)+i).toNat) (vs:=[.int .u8 (y8 v 0 255)]) hp hlo (by simp;omega)
 refine Evp.some s1 ?_
 rw [jf,qe] at s2
 exact Evp.ret (Run.ret ⟨M1,rfl,s3,s2,s4 _ _ g3 (fun a' h=>by cases h;exact n3),s4 _ _ g4 (fun a' h=>by cases h;exact n4)⟩)
end
theorem znt (lo:Nat)(A:Option Addr)(c:Nat)(xs:List Int)(M:Mem)(lim edge t:Int)(hlo:lo≤M.length)(hx:RdI M .u8 A xs)(bx:zh xs)(hn:xs.length≤1000)(h2:2*(xs.length / 2)=xs.length)(h4:4≤xs.length) :
  Ac P T lo F.yj [.agg ⟨[.slice A xs.length c,.int .i64 ((xs.length / 2:Nat):Int)]⟩,.agg ⟨[.int .i64 lim,.int .i64 edge,.int .i64 t]⟩] M fun r=>∃ a cc M',r=(.slice (some a) xs.length cc,M')∧Pre M M'∧Buf M M' a ((uu xs t).map (Value.int .u8)):=by
 have v1:=qq xs bx (-2)
 have v2:=qq xs bx (-1)
 have v3:=qq xs bx 0
 have v4:=qq xs bx 1
 have g0:=z32 M ⟨.fx,[.slice A xs.length c,.int .i64 ((xs.length / 2:Nat):Int)]⟩
 have p1:=Pre.app M [⟨.fx,[.slice A xs.length c,.int .i64 ((xs.length / 2:Nat):Int)]⟩]
 have l1:=vw g0
 refine Ac.of (Evp.of_eq (fun k=>yj.entry k ..) ?_)
 generalize (M ++ [⟨.fx,[.slice A xs.length c,.int .i64 ((xs.length / 2:Nat):Int)]⟩]:Mem)=M1 at *
 have hx1:=hx.pre p1
 have ldA:(M1.ld ⟨M.length,0,none⟩).bind Value.slc?=some ⟨A,xs.length,c⟩:=by rw [zam g0];rfl
 have ldH:(M1.ld (plus ⟨M.length,0,none⟩ 1)).bind (Value.int? .i64)=some ((xs.length / 2:Nat):Int):=by rw [zhf g0];rfl
 have ret:∀ (a:Addr) (cc b3:Nat) (M':Mem),Pre M M'→Buf M M' a ((uu xs t).map (Value.int .u8))→M'[b3]?=some ⟨.fx,[.slice (some a) xs.length cc]⟩→Run P T lo F.yj (yj.Cb ⟨b3,0,none⟩ M') fun r=>∃ a cc M',r=(.slice (some a) xs.length cc,M')∧Pre M M'∧Buf M M' a ((uu xs t).map (Value.int .u8)):=fun a cc b3 M' hp hb g=>by
  refine kut (fun k=>yj.Pb k ..) ?_
  refine Evp.some (b:=⟨some a,xs.length,cc⟩) (by rw [zam g];rfl) ?_
  exact Evp.ret (Run.ret ⟨a,cc,M',rfl,hp,hb⟩)
 have fin:∀ (b:Bool),(b=true ↔ z63 xs t)→Run P T lo F.yj (yj.Ca ⟨M.length,0,none⟩ (atE xs (-2)) (atE xs (-1)) (atE xs 0) (atE xs 1) b (fE0 xs t) M1) fun r=>∃ a cc M',r=(.slice (some a) xs.length cc,M')∧Pre M M'∧Buf M M' a ((uu xs t).map (Value.int .u8)):=fun b hb=>by
  have hf0 : -128≤fE0 xs t∧fE0 xs t≤127:=by
   unfold fE0;split
   ·exact z6j _
   ·omega
  refine kut (fun k=>yj.Pa k ..) ?_
  rw [w64 (x:=atE xs 0 - atE xs (-1)) (by omega),w64 (x:=3*(atE xs 0 - atE xs (-1))) (by omega),w64 (x:=fE0 xs t+3*(atE xs 0 - atE xs (-1))) (by omega)]
  refine Evp.ob (zcs ..) ?_
  rintro _ rfl
  simp only [RD,RE,Nat.reduceAdd,Nat.reduceLT]
  rw [show cB (fE0 xs t+3*(atE xs 0 - atE xs (-1)))=fE xs t from rfl]
  have hf : -128≤fE xs t∧fE xs t≤127:=z6j _
  rw [w64 (x:=fE xs t+4) (by omega),w64 (x:=fE xs t+3) (by omega)]
  refine Evp.ob (zcs ..) ?_
  rintro _ rfl
  simp only [RD,RE,Nat.reduceAdd,Nat.reduceLT]
  refine Evp.some ldA ?_
  refine Evp.ob (z18 lo A c xs M1 hx1 (by omega) (by omega) (Nat.le_trans hlo p1.len)) ?_
  rintro _ ⟨a,cc,M2,rfl,p2,hcc,hbuf⟩
  simp only [RD,RE,Nat.reduceAdd,Nat.reduceLT]
  have ha : -16≤aE xs t∧aE xs t≤16:=by have:=z6j (fE xs t+4);unfold aE;omega
  have hbb : -16≤bE xs t∧bE xs t≤16:=by have:=z6j (fE xs t+3);unfold bE;omega
  have hd : -16≤dE xs t∧dE xs t≤16:=by unfold dE;omega
  refine Evp.some (zjm (us:=[.slice none 0 0]) (vs:=[.slice (some a) xs.length cc]) (Nat.le_trans hlo (p1.trans p2).len) rfl) ?_
  have nw:=hbuf.new
  have inn:=hbuf.in_
  have g3:=z32 M2 ⟨.fx,[.slice (some a) xs.length cc]⟩
  have g4:=zpg (x:=⟨.fx,[.slice (some a) xs.length cc]⟩) (p2 _ _ g0)
  have p3:=Pre.app M2 [⟨.fx,[.slice (some a) xs.length cc]⟩]
  have hb3:=(hbuf.floor (M0:=M) p1.len).pre p3
  have q3:=(p1.trans p2).trans p3
  rw [zl7,show cB (fE xs t+4) / 8=aE xs t from rfl,w64 (x:=atE xs 0 - aE xs t) (by omega)]
  generalize (M2 ++ [⟨.fx,[.slice (some a) xs.length cc]⟩]:Mem)=M3 at *
  refine Evp.ob (zfi hlo hn M3 q3 xs rfl hb3 g3 g4 (by omega) (by omega) 0 (atE xs 0 - aE xs t) (by omega) (by omega)) ?_
  rintro _ ⟨M4,rfl,q4,b4,g3,g4⟩
  simp only [RD,RE,Nat.reduceAdd,Nat.reduceLT]
  refine Evp.ob (zcs ..) ?_
  rintro _ rfl
  simp only [RD,RE,Nat.reduceAdd,Nat.reduceLT]
  rw [zl7,show cB (fE xs t+3) / 8=bE xs t from rfl,w64 (x:=atE xs (-1)+bE xs t) (by omega)]
  refine Evp.ob (zfi hlo hn M4 q4 _ (by simp) b4 g3 g4 (by omega) (by omega) (-1) (atE xs (-1)+bE xs t) (by omega) (by omega)) ?_
  rintro _ ⟨M5,rfl,q5,b5,g3,g4⟩
  simp only [RD,RE,Nat.reduceAdd,Nat.reduceLT]
  have i0:(((xs.length / 2:Nat):Int)+0).toNat=xs.length / 2:=by omega
  have i1:(((xs.length / 2:Nat):Int)+-1).toNat=xs.length / 2 - 1:=by omega
  rw [i0,i1] at b5
  refine Evp.nb (fun hf=>?_) fun hf=>?_
  ·have hne:¬ z63 xs t:=fun h=>by rw [hb.2 h] at hf;exact absurd hf (by decide)
   rw [w64 (x:=aE xs t+1) (by omega),zrx,show (aE xs t+1) / 2=dE xs t from rfl,w64 (x:=atE xs 1 - dE xs t) (by omega),w64 (x:=atE xs (-2)+dE xs t) (by omega)]
   refine Evp.ob (zfi hlo hn M5 q5 _ (by simp) b5 g3 g4 (by omega) (by omega) 1 (atE xs 1 - dE xs t) (by omega) (by omega)) ?_
   rintro _ ⟨M6,rfl,q6,b6,g3,g4⟩
   simp only [RD,RE,Nat.reduceAdd,Nat.reduceLT]
   refine Evp.ob (zfi hlo hn M6 q6 _ (by simp) b6 g3 g4 (by omega) (by omega) (-2) (atE xs (-2)+dE xs t) (by omega) (by omega)) ?_
   rintro _ ⟨M7,rfl,q7,b7,g3,g4⟩
   simp only [RD,RE,Nat.reduceAdd,Nat.reduceLT]
   have i2:(((xs.length / 2:Nat):Int)+1).toNat=xs.length / 2+1:=by omega
   have i3:(((xs.length / 2:Nat):Int)+-2).toNat=xs.length / 2 - 2:=by omega
   rw [i2,i3] at b7
   exact Evp.ret (ret a cc _ M7 q7 (by unfold uu;rw [if_neg hne];exact b7) g3)
  ·exact Evp.ret (ret a cc _ M5 q5 (by unfold uu;rw [if_pos (hb.1 hf)];exact b5) g3)
 have cF:z63 xs t→cB (atE xs (-2) - atE xs 1)=fE0 xs t:=fun h=>by unfold fE0;rw [if_pos h]
 have lA:(if M.length < M1.length then M1.ld ⟨M.length,0,none⟩ else none).bind Value.slc?=some ⟨A,xs.length,c⟩:=by rw [if_pos l1];exact ldA
 have lH:(if M.length < M1.length then M1.ld (plus ⟨M.length,0,none⟩ 1) else none).bind (Value.int? .i64)=some ((xs.length / 2:Nat):Int):=by rw [if_pos l1];exact ldH
 refine Evp.some ldA (Evp.some ldH ?_)
 refine Evp.ob (z6v _ _ _ _ _ hx1 hn 1 (by omega) (by omega)) ?_
 rintro _ rfl
 simp only [RD,RE,Nat.reduceAdd,Nat.reduceLT]
 refine Evp.some lA (Evp.some lH ?_)
 refine Evp.ob (z6v _ _ _ _ _ hx1 hn 0 (by omega) (by omega)) ?_
 rintro _ rfl
 simp only [RD,RE,Nat.reduceAdd,Nat.reduceLT]
 refine Evp.some lA (Evp.some lH ?_)
 refine Evp.ob (z6w _ _ _ _ _ hx1 hn 0 (by omega) (by omega)) ?_
 rintro _ rfl
 simp only [RD,RE,Nat.reduceAdd,Nat.reduceLT]
 refine Evp.some lA (Evp.some lH ?_)
 refine Evp.ob (z6w _ _ _ _ _ hx1 hn 1 (by omega) (by omega)) ?_
 rintro _ rfl
 simp only [RD,RE,Nat.reduceAdd,Nat.reduceLT]
 refine Evp.some ldA (Evp.some ldH ?_)
 refine Evp.ob (z6v _ _ _ _ _ hx1 hn 1 (by omega) (by omega)) ?_
 rintro _ rfl
 simp only [RD,RE,Nat.reduceAdd,Nat.reduceLT]
 refine Evp.some lA (Evp.some lH ?_)
 refine Evp.ob (z6v _ _ _ _ _ hx1 hn 0 (by omega) (by omega)) ?_
 rintro _ rfl
 simp only [RD,RE,Nat.reduceAdd,Nat.reduceLT]
 rw [show (-1 - 1:Int)=-2 by omega,show (-1 - 0:Int)=-1 by omega]
 refine Evp.ob (z4s _ _ _ _ v1 v2) ?_
 rintro _ rfl
 simp only [RD,RE,Nat.reduceAdd,Nat.reduceLT]
 rw [w64 (x:=atE xs (-2)) (by omega),w64 (x:=atE xs (-1)) (by omega),w64 (x:=atE xs 0) (by omega),w64 (x:=atE xs 1) (by omega),w64 (x:=atE xs (-2) - atE xs 1) (by omega),show jw (atE xs (-2) - atE xs (-1))=yo xs (-2) (-1) from rfl]
 refine Evp.dec (fun h=>?_) fun h1=>?_
 ·refine Evp.ob (zcs ..) ?_
  rintro _ rfl
  simp only [RD,RE,Nat.reduceAdd,Nat.reduceLT]
  rw [cF (.inl h)]
  exact Evp.ret (fin true ⟨fun _=>.inl h,fun _=>rfl⟩)
 ·refine Evp.some ldA (Evp.some ldH ?_)
  refine Evp.ob (z6w _ _ _ _ _ hx1 hn 1 (by omega) (by omega)) ?_
  rintro _ rfl
  simp only [RD,RE,Nat.reduceAdd,Nat.reduceLT]
  refine Evp.some lA (Evp.some lH ?_)
  refine Evp.ob (z6w _ _ _ _ _ hx1 hn 0 (by omega) (by omega)) ?_
  rintro _ rfl
  simp only [RD,RE,Nat.reduceAdd,Nat.reduceLT]
  refine Evp.ob (z4s _ _ _ _ v4 v3) ?_
  rintro _ rfl
  simp only [RD,RE,Nat.reduceAdd,Nat.reduceLT]
  rw [show jw (atE xs 1 - atE xs 0)=yo xs 1 0 from rfl]
  have iffd:decide (yo xs 1 0 > t)=true ↔ z63 xs t:=⟨fun h=>.inr (of_decide_eq_true h),fun h=>decide_eq_true (by rcases h with h | h;exact absurd h h1;exact h)⟩
  refine Evp.dec (fun h=>?_) fun h=>?_
  ·refine Evp.ob (zcs ..) ?_
   rintro _ rfl
   simp only [RD,RE,Nat.reduceAdd,Nat.reduceLT]
   rw [cF (.inr h)]
   exact Evp.ret (fin _ iffd)
  ·have h0:fE0 xs t=0:=by unfold fE0;rw [if_neg (fun e=>by rcases e with e | e;exact h1 e;exact h e)]
   have:=fin _ iffd
   rw [h0] at this
   exact Evp.ret this
def z2c (level sharp:Int):Int:=2*(level+2)+zm level sharp
def uc (xs:List Int)(level:Int):List Int:=
 if xs.length=6∧kn xs 2 then z0o xs 2 1 3 (2*2) else if xs.length=14∧kn xs 6 then z0o xs 6 1 4 (2*6) else if 8≤xs.length∧kn xs 3 then z0o xs 3 0 3 (2*3) else uu xs (level / 16)
def uw (xs:List Int)(level sharp:Int):List Int:=if level≠0∧z09 xs (zm level sharp) (z2c level sharp) then uc xs level else xs
section
variable (lo:Nat)(A:Option Addr)(c:Nat)(xs:List Int)(M:Mem)(level sharp:Int)
theorem znu (hlo:lo≤M.length)(hx:RdI M .u8 A xs)(bx:zh xs)(hlen:xs.length=4∨xs.length=6∨xs.length=8∨xs.length=14)(lim edge:Int) :
  Ac P T lo F.z8s [.agg ⟨[.slice A xs.length c,.int .i64 ((xs.length / 2:Nat):Int)]⟩,.agg ⟨[.int .i64 lim,.int .i64 edge,.int .i64 (level / 16)]⟩] M fun r=>∃ a cc M',r=(.slice (some a) xs.length cc,M')∧Pre M M'∧Buf M M' a ((if z09 xs lim edge then uc xs level else xs).map (Value.int .u8)):=by
 refine Ac.of (Evp.of_eq (fun k=>z8s.entry k ..) ?_)
 refine Evp.ob (zpc _ _ _ _ _ hx bx (by omega) (by omega) lim edge (level / 16)) ?_
 rintro _ rfl
 simp only [RD,RE,Nat.reduceAdd,Nat.reduceLT]
 refine Evp.dec (fun h=>?_) fun h=>?_
 ·refine Evp.ob (z18 lo A c xs M hx (by omega) (by omega) hlo) ?_
  rintro _ ⟨a,cc,M1,rfl,p1,hcc,hb⟩
  simp only [RD,RE,Nat.reduceAdd,Nat.reduceLT]
  exact Evp.ret (Run.ret ⟨a,cc,M1,rfl,p1,by rw [if_neg h];exact hb⟩)
 have h:=Decidable.not_not.1 h
 rw [if_pos h]
 have nar:uc xs level=uu xs (level / 16)→Evp (fun k=>ob (z5 P T k lo F.yj [.agg ⟨[.slice A xs.length c,.int .i64 ((xs.length / 2:Nat):Int)]⟩,.agg ⟨[.int .i64 lim,.int .i64 edge,.int .i64 (level / 16)]⟩] M) fun r29=>ob ((some r29.1).bind Value.slc?) fun s30=>some (.ret (.slice s30.a s30.n s30.c) r29.2)) fun out=>Run P T lo F.z8s out fun r=>∃ a cc M',r=(.slice (some a) xs.length cc,M')∧Pre M M'∧Buf M M' a ((uc xs level).map (Value.int .u8)):=fun e=>by
  rw [e]
  refine Evp.ob (znt lo A c xs M lim edge (level / 16) hlo hx bx (by omega) (by omega) (by omega)) ?_
  rintro _ ⟨a,cc,M1,rfl,p1,hb⟩
  simp only [RD,RE,Nat.reduceAdd,Nat.reduceLT]
  exact Evp.ret (Run.ret ⟨a,cc,M1,rfl,p1,hb⟩)
 have wid:∀ (n m:Nat) (sh:Int),z5c n m sh→n+1≤xs.length / 2→uc xs level=z0o xs n m sh (2*n)→Evp (fun k=>ob (z5 P T k lo F.zw [.agg ⟨[.slice A xs.length c,.int .i64 ((xs.length / 2:Nat):Int)]⟩,.int .i64 n,.int .i64 m,.int .i64 sh] M) fun r29=>ob ((some r29.1).bind Value.slc?) fun s30=>some (.ret (.slice s30.a s30.n s30.c) r29.2)) fun out=>Run P T lo F.z8s out fun r=>∃ a cc M',r=(.slice (some a) xs.length cc,M')∧Pre M M'∧Buf M M' a ((uc xs level).map (Value.int .u8)):=fun n m sh hc hnn e=>by
  rw [e]
  refine Evp.ob (zqs hlo hx bx (by omega) (by omega) hnn hc) ?_
  rintro _ ⟨a,cc,M1,rfl,p1,hb⟩
  simp only [RD,RE,Nat.reduceAdd,Nat.reduceLT]
  exact Evp.ret (Run.ret ⟨a,cc,M1,rfl,p1,hb⟩)
 have n6:xs.length≠6→xs.length≠14∨¬ kn xs 6→(8≤xs.length→¬ kn xs 3)→uc xs level=uu xs (level / 16):=fun a b c=>by
  unfold uc
  rw [if_neg (fun e=>a e.1),if_neg (fun e=>by rcases b with b | b;exact b e.1;exact b e.2),if_neg (fun e=>c e.1 e.2)]
 refine Evp.eqb (fun e6=>?_) fun e6=>?_
 ·refine Evp.ob (zal _ _ _ _ _ hx bx (by omega) 2 (by omega)) ?_
  rintro _ rfl
  simp only [RD,RE,Nat.reduceAdd,Nat.reduceLT]
  refine Evp.dec (fun hf=>wid 2 1 3 (.inl ⟨rfl,rfl,rfl⟩) (by omega) (by unfold uc;rw [if_pos ⟨by omega,hf⟩])) fun hf=>?_
  refine Evp.eqb (fun e14=>absurd e14 (by omega)) fun e14=>?_
  refine Evp.dec (fun h8=>absurd h8 (by omega)) fun h8=>?_
  exact nar (by unfold uc;rw [if_neg (fun e=>hf e.2),if_neg (by omega),if_neg (by omega)])
 ·refine Evp.eqb (fun e14=>?_) fun e14=>?_
  ·refine Evp.ob (zal _ _ _ _ _ hx bx (by omega) 6 (by omega)) ?_
   rintro _ rfl
   simp only [RD,RE,Nat.reduceAdd,Nat.reduceLT]
   refine Evp.dec (fun hf=>wid 6 1 4 (.inr (.inr ⟨rfl,rfl,rfl⟩)) (by omega) (by unfold uc;rw [if_neg (by omega),if_pos ⟨by omega,hf⟩])) fun hf=>?_
   refine Evp.dec (fun h8=>?_) fun h8=>absurd h8 (by omega)
   refine Evp.ob (zal _ _ _ _ _ hx bx (by omega) 3 (by omega)) ?_
   rintro _ rfl
   simp only [RD,RE,Nat.reduceAdd,Nat.reduceLT]
   refine Evp.dec (fun hf3=>wid 3 0 3 (.inr (.inl ⟨rfl,rfl,rfl⟩)) (by omega) (by unfold uc;rw [if_neg (by omega),if_neg (fun e=>hf e.2),if_pos ⟨by omega,hf3⟩])) fun hf3=>?_
   exact nar (n6 (by omega) (.inr hf) fun _=>hf3)
  ·refine Evp.dec (fun h8=>?_) fun h8=>?_
   ·refine Evp.ob (zal _ _ _ _ _ hx bx (by omega) 3 (by omega)) ?_
    rintro _ rfl
    simp only [RD,RE,Nat.reduceAdd,Nat.reduceLT]
    refine Evp.dec (fun hf3=>wid 3 0 3 (.inr (.inl ⟨rfl,rfl,rfl⟩)) (by omega) (by unfold uc;rw [if_neg (by omega),if_neg (by omega),if_pos ⟨by omega,hf3⟩])) fun hf3=>?_
    exact nar (n6 (by omega) (.inl (by omega)) fun _=>hf3)
   ·exact nar (n6 (by omega) (.inl (by omega)) fun h=>absurd h (by omega))
end
theorem zew (xs:List Int)(level sharp:Int):(uw xs level sharp).length=xs.length:=by
 unfold uw uc uu
 repeat' split
 all_goals simp [z9u]
theorem zha (lo:Nat)(w h:Int)(M:Mem):Ac P T lo F.ziv [.int .i64 w,.int .i64 h] M fun r=>r=(.bool (decide (1≤w∧w≤512∧1≤h∧h≤512)),M):=by
 refine Ac.of (Evp.of_eq (fun k=>ziv.entry k ..) ?_)
 refine Evp.dec (fun h1=>?_) fun h1=>?_
 ·refine Evp.dec (fun h2=>?_) fun h2=>?_
  ·refine Evp.dec (fun h3=>?_) fun h3=>?_
   ·refine Evp.ret (Run.ret ?_)
    congr 2
    exact decide_eq_decide.2 (by omega)
   ·refine Evp.ret (Run.ret ?_)
    congr 2
    simp;omega
  ·refine Evp.ret (Run.ret ?_)
   congr 2
   simp;omega
 ·refine Evp.ret (Run.ret ?_)
  congr 2
  simp;omega
def qa (w h n:Int):Int:=if 1≤w∧w≤512∧1≤h∧h≤512∧n=w*h then 0 else 2
theorem zbr {w h:Int}(h1:1≤w∧w≤512∧1≤h∧h≤512):1≤w*h∧w*h≤262144:=by
 have hm:w*h≤512*512:=Int.mul_le_mul h1.2.1 h1.2.2.2 (by omega) (by omega)
 have hm0:1*1≤w*h:=Int.mul_le_mul h1.1 h1.2.2.1 (by omega) (by omega)
 omega
theorem z1x (lo:Nat)(w h:Int)(A:Option Addr)(n c:Nat)(M:Mem):Ac P T lo F.zir [.agg ⟨[.int .i64 w,.int .i64 h,.slice A n c]⟩] M fun r=>r=(.int .i64 (qa w h n),M):=by
 refine Ac.of (Evp.of_eq (fun k=>zir.entry k ..) ?_)
 refine Evp.ob (zha ..) ?_
 rintro _ rfl
 simp only [RD,RE,Nat.reduceAdd,Nat.reduceLT]
 refine Evp.nb (fun h1=>?_) fun h1=>?_
 ·refine Evp.ret (Run.ret ?_)
  have:=of_decide_eq_false h1
  unfold qa
  rw [if_neg (by omega)]
 ·have h1:=of_decide_eq_true h1
  have hm:=zbr h1
  rw [w64 (by omega)]
  refine Evp.neb (fun h2=>?_) fun h2=>?_
  ·refine Evp.ret (Run.ret ?_)
   unfold qa
   rw [if_neg (by omega)]
  ·refine Evp.ret (Run.ret ?_)
   unfold qa
   rw [if_pos (by omega)]
theorem zy {w h n:Int}(h0:qa w h n=0):1≤w∧w≤512∧1≤h∧h≤512∧n=w*h:=by
 unfold qa at h0
 split at h0
 ·assumption
 ·omega
def TxP (t:Int):Prop:=t=4∨t=8∨t=16∨t=32∨t=64
instance (t:Int):Decidable (TxP t):=inferInstanceAs (Decidable (_∨_))
abbrev z00:List Int:=[4,8,16,32,64]
theorem zhb (lo:Nat)(v:Int)(M:Mem)(A:Option Addr)(hx:RdI M .u8 A z00):Ac P T lo F.z48 [.slice A 5 5,.int .u8 v] M fun r=>r=(.bool (decide (TxP v)),M):=by
 have idx:Ac P T lo F.yg [.slice A 5 5,.int .u8 v] M fun r=>∃ z:Int,r=(.int .i64 z,M)∧(z ≥ 0 ↔ TxP v):=by
  unfold TxP
  refine Ac.of (Evp.of_eq (fun k=>yg.entry k ..) ?_)
  refine Evp.ret ?_
  refine kut (fun k=>yg.Pa k ..) ?_
  refine Evp.tt rfl (Evp.pos (by decide) (Evp.ldI (i:=0) hx (by decide) fun _ _=>?_))
  refine Evp.eqb (fun h=>Evp.ret (Run.ret ⟨_,rfl,by simp [h]⟩)) fun h0=>?_
  rw [show i64.wrap (0+1)=1 from by decide]
  refine Evp.ret ?_
  refine kut (fun k=>yg.Pa k ..) ?_
  refine Evp.tt rfl (Evp.pos (by decide) (Evp.ldI (i:=1) hx (by decide) fun _ _=>?_))
  refine Evp.eqb (fun h=>Evp.ret (Run.ret ⟨_,rfl,by simp [h]⟩)) fun h1=>?_
  rw [show i64.wrap (1+1)=2 from by decide]
  refine Evp.ret ?_
  refine kut (fun k=>yg.Pa k ..) ?_
  refine Evp.tt rfl (Evp.pos (by decide) (Evp.ldI (i:=2) hx (by decide) fun _ _=>?_))
  refine Evp.eqb (fun h=>Evp.ret (Run.ret ⟨_,rfl,by simp [h]⟩)) fun h2=>?_
  rw [show i64.wrap (2+1)=3 from by decide]
  refine Evp.ret ?_
  refine kut (fun k=>yg.Pa k ..) ?_
  refine Evp.tt rfl (Evp.pos (by decide) (Evp.ldI (i:=3) hx (by decide) fun _ _=>?_))
  refine Evp.eqb (fun h=>Evp.ret (Run.ret ⟨_,rfl,by simp [h]⟩)) fun h3=>?_
  rw [show i64.wrap (3+1)=4 from by decide]
  refine Evp.ret ?_
  refine kut (fun k=>yg.Pa k ..) ?_
  refine Evp.tt rfl (Evp.pos (by decide) (Evp.ldI (i:=4) hx (by decide) fun _ _=>?_))
  refine Evp.eqb (fun h=>Evp.ret (Run.ret ⟨_,rfl,by simp [h]⟩)) fun h4=>?_
  rw [show i64.wrap (4+1)=5 from by decide]
  refine Evp.ret ?_
  refine kut (fun k=>yg.Pa k ..) ?_
  refine Evp.ff rfl (Evp.ret (Run.ret ⟨-1,rfl,?_⟩))
  have e0:z00.getD 0 0=4:=rfl
  have e1:z00.getD 1 0=8:=rfl
  have e2:z00.getD 2 0=16:=rfl
  have e3:z00.getD 3 0=32:=rfl
  have e4:z00.getD 4 0=64:=rfl
  omega
 refine Ac.of (Evp.of_eq (fun k=>z48.entry k ..) ?_)
 refine Evp.ob idx ?_
 rintro _ ⟨z,rfl,hz⟩
 simp only [RD,RE,Nat.reduceAdd,Nat.reduceLT]
 refine Evp.ret (Run.ret ?_)
 congr 2
 exact decide_eq_decide.2 hz
theorem znv (lo:Nat)(v:Int)(M:Mem)(A:Option Addr)(b:Addr)(hx:RdI M .u8 A z00)(hb:M.ld b=some (.slice A 5 5)):Ac P T lo F.zfb [.int .u8 v,.pointer (some b)] M fun r=>r=(.bool (!decide (TxP v)),M):=by
 refine Ac.of (Evp.of_eq (fun k=>zfb.entry k ..) ?_)
 refine Evp.some (b:=⟨A,5,5⟩) (by rw [hb];rfl) ?_
 refine Evp.ob (zhb lo v M A hx) ?_
 rintro _ rfl
 simp only [RD,RE,Nat.reduceAdd,Nat.reduceLT]
 exact Evp.ret (Run.ret rfl)
theorem zbs {xs:List Int}{i:Nat}(h:i < xs.length):xs.getD i 0 ∈ xs:=by
 rw [List.getD_eq_getElem?_getD,List.getElem?_eq_getElem h];exact List.getElem_mem h
section
variable (lo:Nat)(A S:Option Addr)(c:Nat)(tx:List Int)(b:Addr)(M:Mem)(hx:RdI M .u8 A tx)(hs:RdI M .u8 S z00)(hb:M.ld b=some (.slice S 5 5))(hn:tx.length≤140737488351232)
include hx hs hb hn
theorem zii:∀ (q i:Nat),tx.length - i=q→i≤tx.length→(∀ j,j < i→TxP (tx.getD j 0))→Run P T lo F.yw (yw.Ca A tx.length c (.func (.func F.zfb) ⟨[]⟩ ⟨[.pointer (some b)]⟩) tx.length i M) fun r=>∃ z:Int,r=(.int .i64 z,M)∧(z ≥ 0 ↔ ∃ t ∈ tx,¬ TxP t):=by
 intro q
 induction q with
 | zero=>
  intro i hq hi hj
  refine kut (fun k=>yw.Pa k ..) ?_
  refine Evp.dec (fun h=>absurd h (by omega)) fun _=>?_
  refine Evp.ret (Run.ret ⟨-1,rfl,⟨fun e=>absurd e (by decide),?_⟩⟩)
  rintro ⟨u,hu,hn⟩
  obtain ⟨j,hj',rfl⟩:=List.mem_iff_getElem.1 hu
  have:=hj j (by omega)
  rw [List.getD_eq_getElem?_getD,List.getElem?_eq_getElem hj'] at this
  exact absurd this hn
 | succ q ih=>
  intro i hq hi hj
  refine kut (fun k=>yw.Pa k ..) ?_
  refine Evp.dec (fun _=>?_) fun h=>absurd h (by omega)
  refine Evp.pos (by omega) ?_
  simp only [Int.toNat_natCast]
  refine Evp.ldI hx (by omega) fun _ _=>?_
  refine Evp.some (b:=(F.zfb,[],[.pointer (some b)])) rfl ?_
  refine Evp.ob (znv lo (tx.getD i 0) M S b hs hb) ?_
  rintro _ rfl
  simp only [RD,RE,Nat.reduceAdd,Nat.reduceLT]
  refine Evp.nb (fun g=>Evp.ret (Run.ret ⟨_,rfl,⟨fun _=>⟨_,zbs (show i < tx.length by omega),of_decide_eq_false g⟩,fun _=>by omega⟩⟩)) fun g=>?_
  rw [w64 (by omega)]
  refine Evp.ret (ih (i+1) (by omega) (by omega) fun j hj'=>?_)
  by_cases hji:j=i
  ·rw [hji];exact of_decide_eq_true g
  ·exact hj j (by omega)
theorem zhc:Ac P T lo F.z2q [.slice A tx.length c,.func (.func F.zfb) ⟨[]⟩ ⟨[.pointer (some b)]⟩] M fun r=>∃ z:Bool,r=(.bool z,M)∧(z=true ↔ ∃ t ∈ tx,¬ TxP t):=by
 refine Ac.of (Evp.of_eq (fun k=>z2q.entry k ..) ?_)
 have idx:Ac P T lo F.yw [.slice A tx.length c,.func (.func F.zfb) ⟨[]⟩ ⟨[.pointer (some b)]⟩] M fun r=>∃ z:Int,r=(.int .i64 z,M)∧(z ≥ 0 ↔ ∃ t ∈ tx,¬ TxP t):=by
  refine Ac.of (Evp.of_eq (fun k=>yw.entry k ..) ?_)
  exact Evp.ret (zii lo A S c tx b M hx hs hb hn _ 0 rfl (by omega) fun j hj=>absurd hj (by omega))
 refine Evp.ob idx ?_
 rintro _ ⟨z,rfl,hz⟩
 simp only [RD,RE,Nat.reduceAdd,Nat.reduceLT]
 exact Evp.ret (Run.ret ⟨_,rfl,by rw [decide_eq_true_iff];exact hz⟩)
end
def z6y (w h nx mw mh:Int)(tx:List Int)(ni nq:Int):Prop:=qa w h nx=0∧w % 4=0∧h % 4=0∧mw=w / 4∧mh=h / 4∧tx.length=mw*mh∧ni=mw*mh∧nq=mw*mh∧∀ t ∈ tx,TxP t
noncomputable instance (w h nx mw mh:Int) (tx:List Int) (ni nq:Int):Decidable (z6y w h nx mw mh tx ni nq):=Classical.propDecidable _
theorem zfj {w:Int}(h:0≤w):Int.tmod w 4=w % 4:=Int.tmod_eq_emod_of_nonneg h
theorem zfk {w:Int}(h:0≤w):Int.tdiv w 4=w / 4:=Int.tdiv_eq_ediv_of_nonneg h
theorem zb1 {w h:Int}(s:1≤w∧w≤512∧1≤h∧h≤512):i64.wrap (w / 4)=w / 4∧i64.wrap (h / 4)=h / 4∧i64.wrap (w / 4*(h / 4))=w / 4*(h / 4)∧0≤w / 4*(h / 4)∧w / 4*(h / 4)≤16384:=by
 have a1:0≤w / 4∧w / 4≤128:=by omega
 have a2:0≤h / 4∧h / 4≤128:=by omega
 generalize w / 4=p at *
 generalize h / 4=q at *
 have m:p*q≤128*128:=Int.mul_le_mul a1.2 a2.2 a2.1 (by decide)
 have m0:0≤p*q:=Int.mul_nonneg a1.1 a2.1
 generalize p*q=r at *
 exact ⟨w64 (by omega),w64 (by omega),w64 (by omega),m0,by omega⟩
section
variable (lo:Nat)(w h mw mh:Int)(A AT AI AQ:Option Addr)(n c ct ni ci nq cq:Nat)(tx:List Int)(M:Mem)(hlo:lo≤M.length)(hT:RdI M .u8 AT tx)(hnt:tx.length≤140737488351232)
include hlo hT hnt
theorem zry:Ac P T lo F.ziu [.agg ⟨[.int .i64 w,.int .i64 h,.slice A n c]⟩,.agg ⟨[.int .i64 mw,.int .i64 mh,.slice AT tx.length ct,.slice AI ni ci,.slice AQ nq cq]⟩] M fun r=>∃ M',r=(.bool (decide (z6y w h n mw mh tx ni nq)),M')∧Pre M M':=by
 have bad:∀ M',Pre M M'→¬ z6y w h n mw mh tx ni nq→Run P T lo F.ziu (.ret (.bool false) M') fun r=>∃ M',r=(.bool (decide (z6y w h n mw mh tx ni nq)),M')∧Pre M M':=fun M' hp hno=>Run.ret ⟨M',by rw [decide_eq_false hno],hp⟩
 refine Ac.of (Evp.of_eq (fun k=>ziu.entry k ..) ?_)
 refine Evp.ob (z1x ..) ?_
 rintro _ rfl
 simp only [RD,RE,Nat.reduceAdd,Nat.reduceLT]
 refine Evp.neb (fun g=>Evp.ret (bad M (Pre.refl _) fun e=>g e.1)) fun k1=>?_
 have s1:=zy k1
 obtain ⟨c1,c2,c3,c4,c5⟩:=zb1 (w:=w) (h:=h) ⟨s1.1,s1.2.1,s1.2.2.1,s1.2.2.2.1⟩
 rw [zfj (by omega),zfj (by omega),zfk (by omega),zfk (by omega),c1,c2]
 refine Evp.neb (fun g=>Evp.ret (bad M (Pre.refl _) fun e=>g e.2.1)) fun k2=>?_
 refine Evp.neb (fun g=>Evp.ret (bad M (Pre.refl _) fun e=>g e.2.2.1)) fun k3=>?_
 refine Evp.neb (fun g=>Evp.ret (bad M (Pre.refl _) fun e=>g e.2.2.2.1)) fun k4=>?_
 refine Evp.neb (fun g=>Evp.ret (bad M (Pre.refl _) fun e=>g e.2.2.2.2.1)) fun k5=>?_
 have em:i64.wrap (mw*mh)=mw*mh:=by rw [k4,k5];exact c3
 rw [em]
 have x1:=Pre.app M [⟨.fx,z00.map (Value.int .u8)⟩]
 have x2:=Pre.app (M ++ [⟨.fx,z00.map (Value.int .u8)⟩]) [⟨.fx,[.slice (some ⟨M.length,0,none⟩) 5 5]⟩]
 have q2:=x1.trans x2
 refine Evp.some (zjm (Nat.le_trans hlo x1.len) rfl) ?_
 have hs:RdI ((M ++ [⟨.fx,z00.map (Value.int .u8)⟩]) ++ [⟨.fx,[.slice (some ⟨M.length,0,none⟩) 5 5]⟩]:Mem) .u8 (some ⟨M.length,0,none⟩) z00:=(RdI.lit z00).pre x2
 have hb:((M ++ [⟨.fx,z00.map (Value.int .u8)⟩]) ++ [⟨.fx,[.slice (some ⟨M.length,0,none⟩) 5 5]⟩]:Mem).ld ⟨(M ++ [⟨.fx,z00.map (Value.int .u8)⟩]:Mem).length,0,none⟩=some (.slice (some ⟨M.length,0,none⟩) 5 5):=zam (z32 _ _) 0
 refine Evp.eqb (fun k6=>?_) fun g=>Evp.ret (bad _ q2 fun e=>g e.2.2.2.2.2.1)
 refine Evp.eqb (fun k7=>?_) fun g=>Evp.ret (bad _ q2 fun e=>g e.2.2.2.2.2.2.1)
 refine Evp.eqb (fun k8=>?_) fun g=>Evp.ret (bad _ q2 fun e=>g e.2.2.2.2.2.2.2.1)
 refine Evp.ob (zhc lo AT _ ct tx _ _ (hT.pre q2) hs hb hnt) ?_
 rintro _ ⟨z,rfl,hz⟩
 simp only [RD,RE,Nat.reduceAdd,Nat.reduceLT]
 refine Evp.ret (Run.ret ⟨_,?_,q2⟩)
 congr 2
 rw [Bool.eq_iff_iff,decide_eq_true_iff,Bool.not_eq_true',← Bool.not_eq_true,hz]
 constructor
 ·intro hno
  refine ⟨k1,k2,k3,k4,k5,k6,k7,k8,fun t ht=>?_⟩
  by_cases g:TxP t
  ·exact g
  ·exact absurd ⟨t,ht,g⟩ hno
 ·rintro e ⟨t,ht,g⟩
  exact g (e.2.2.2.2.2.2.2.2 t ht)
end
structure Cells where
 mw:Nat
 up:Bool
 col:Bool
 tx:List Int
 ids:List Int
 qs:List Bool
 level:Int
 sharp:Int
def z19 (xs:List Int)(b st n:Nat):List Int:=(List.range n).map fun j=>xs.getD (b+j*st) 0
def z4z (xs:List Int)(b st:Nat)(zs:List Int):Nat→List Int
 | 0=>xs
 | j+1=>(z4z xs b st zs j).set (b+j*st) (zs.getD j 0)
def z6k (xs:List Int)(b st n:Nat)(level sharp:Int):List Int:=z4z xs b st (uw (z19 xs b st n) level sharp) n
def z2g (reach:Int)(col:Bool):Nat:=if reach < 8 then 4 else if col=true then 6 else if reach < 16 then 8 else 14
namespace Cells
variable (m:Cells)(W H:Nat)
def at_ (i:Nat):Nat:=if m.up then 4*(i % m.mw) else 4*(i / m.mw)
def side:Nat:=if m.up then W else H
def prev (i:Nat):Nat:=if m.up then i - 1 else i - m.mw
def step:Nat:=if m.up then 1 else W
def along:Nat:=if m.up then W else 1
def skip (i:Nat):Prop:=m.at_ i=0∨(m.at_ i:Int) % m.tx.getD i 0≠0∨(m.ids.getD i 0=m.ids.getD (m.prev i) 0∧m.qs.getD i false=true∧m.qs.getD (m.prev i) false=true)
instance (i:Nat):Decidable (m.skip i):=inferInstanceAs (Decidable (_∨_))
def reach (i:Nat):Int:=min (min (m.tx.getD i 0) (m.tx.getD (m.prev i) 0)) (min (m.at_ i:Int) ((m.side W H:Int) - m.at_ i))
def taps (i:Nat):Nat:=z2g (m.reach W H i) m.col
def first (i k:Nat):Nat:=4*(i / m.mw)*W+4*(i % m.mw)+k*m.along W - m.taps W H i / 2*m.step W
def linesS (xs:List Int)(i:Nat):Nat→List Int
 | 0=>xs
 | k+1=>z6k (linesS xs i k) (m.first W H i k) (m.step W) (m.taps W H i) m.level m.sharp
def cellS (xs:List Int)(i:Nat):List Int:=if m.skip i then xs else m.linesS W H xs i 4
def passS (xs:List Int):Nat→List Int
 | 0=>xs
 | i+1=>m.cellS W H (passS xs i) i
end Cells
theorem z8l (xs:List Int)(b st:Nat)(zs:List Int):∀ n,(z4z xs b st zs n).length=xs.length
 | 0=>rfl
 | n+1=>by simp only [z4z,List.length_set];exact z8l xs b st zs n
theorem zbt (xs:List Int)(b st n:Nat):(z19 xs b st n).length=n:=by simp [z19]
theorem z8m {xs:List Int}(bx:zh xs)(b st n:Nat):zh (z19 xs b st n):=fun z hz=>by
 unfold z19 at hz
 obtain ⟨j,_,rfl⟩:=List.mem_map.1 hz
 exact bx.get _
theorem zpe {r:Int}(col:Bool)(h:4≤r):(z2g r col=4∨z2g r col=6∨z2g r col=8∨z2g r col=14)∧((z2g r col / 2:Nat):Int)≤r:=by
 unfold z2g
 split
 ·exact ⟨.inl rfl,by omega⟩
 ·split
  ·exact ⟨.inr (.inl rfl),by omega⟩
  ·split
   ·exact ⟨.inr (.inr (.inl rfl)),by omega⟩
   ·exact ⟨.inr (.inr (.inr rfl)),by omega⟩
theorem z2z {i mw mh:Nat}(h:i < mw*mh):i / mw < mh∧i % mw < mw∧0 < mw:=by
 have h0:0 < mw:=by
  rcases Nat.eq_zero_or_pos mw with e | e
  ·rw [e,Nat.zero_mul] at h;omega
  ·exact e
 exact ⟨(Nat.div_lt_iff_lt_mul h0).2 (by rwa [Nat.mul_comm] at h),Nat.mod_lt _ h0,h0⟩
theorem zct {h w y c:Nat}(hy:y < h)(hc:c < w):y*w+c < h*w:=by
 have:(y+1)*w≤h*w:=Nat.mul_le_mul_right w (by omega)
 rw [Nat.add_mul,Nat.one_mul] at this
 omega
section
variable (m:Cells)(W H mh i:Nat)(hW:W=4*m.mw)(hH:H=4*mh)(hi:i < m.mw*mh)(t1:TxP (m.tx.getD i 0))(t2:TxP (m.tx.getD (m.prev i) 0))(hs:¬ m.skip i)
include hW hH hi
theorem zl8:m.at_ i < m.side W H∧m.at_ i % 4=0∧m.side W H % 4=0:=by
 obtain ⟨h1,h2,h3⟩:=z2z hi
 unfold Cells.at_ Cells.side
 split <;> omega
include t1 t2 hs
theorem geo:(m.taps W H i=4∨m.taps W H i=6∨m.taps W H i=8∨m.taps W H i=14)∧m.taps W H i / 2≤m.at_ i∧m.at_ i+m.taps W H i / 2≤m.side W H∧4≤m.reach W H i:=by
 obtain ⟨a1,a2,a3⟩:=zl8 m W H mh i hW hH hi
 have h0:m.at_ i≠0:=fun e=>hs (.inl e)
 unfold TxP at t1 t2
 have hr:4≤m.reach W H i:=by unfold Cells.reach;omega
 have hr2:m.reach W H i≤m.at_ i∧m.reach W H i≤(m.side W H:Int) - m.at_ i:=by unfold Cells.reach;omega
 obtain ⟨g1,g2⟩:=zpe m.col hr
 unfold Cells.taps
 exact ⟨g1,by omega,by omega,hr⟩
theorem znw (k j:Nat)(hk:k < 4)(hj:j < m.taps W H i):m.first W H i k+j*m.step W=(if m.up then (4*(i / m.mw)+k)*W+(4*(i % m.mw) - m.taps W H i / 2+j) else (4*(i / m.mw) - m.taps W H i / 2+j)*W+(4*(i % m.mw)+k)) ∧
  m.first W H i k+j*m.step W < H*W∧m.first W H i k+m.taps W H i / 2*m.step W=4*(i / m.mw)*W+4*(i % m.mw)+k*m.along W:=by
 obtain ⟨h1,h2,h3⟩:=z2z hi
 obtain ⟨g1,g2,g3,_⟩:=geo m W H mh i hW hH hi t1 t2 hs
 unfold Cells.first
 unfold Cells.at_ at g2
 unfold Cells.at_ Cells.side at g3
 unfold Cells.step Cells.along
 generalize m.taps W H i=n at *
 generalize hy:i / m.mw=y at *
 generalize hx:i % m.mw=x at *
 cases hu:m.up with
 | true=>
  rw [hu] at g2 g3
  simp only [if_true] at g2 g3 ⊢
  have e:(4*y+k)*W=4*y*W+k*W:=Nat.add_mul ..
  have l:=zct (h:=H) (w:=W) (y:=4*y+k) (c:=4*x - n / 2+j) (by omega) (by omega)
  refine ⟨by omega,by omega,by omega⟩
 | false=>
  rw [hu] at g2 g3
  simp only [Bool.false_eq_true,if_false] at g2 g3 ⊢
  have e:(4*y - n / 2+j)*W=4*y*W - n / 2*W+j*W:=by rw [Nat.add_mul,Nat.sub_mul]
  have e2:n / 2*W≤4*y*W:=Nat.mul_le_mul_right W g2
  have l:=zct (h:=H) (w:=W) (y:=4*y - n / 2+j) (c:=4*x+k) (by omega) (by omega)
  refine ⟨by omega,by omega,by omega⟩
end
theorem zcu {xs:List Int}(bx:zh xs)(b st:Nat){zs:List Int}(bz:zh zs):∀ n,zh (z4z xs b st zs n)
 | 0=>bx
 | n+1=>fun z hz=>by
  simp only [z4z] at hz
  rcases List.mem_or_eq_of_mem_set hz with hz | rfl
  ·exact zcu bx b st bz n z hz
  ·exact bz.get _
theorem z1y {xs:List Int}(bx:zh xs)(i:Nat){v:Int}(hv:0≤v∧v≤255):zh (xs.set i v):=fun z hz=>by
 rcases List.mem_or_eq_of_mem_set hz with hz | rfl
 ·exact bx z hz
 ·exact hv
theorem z6l {xs:List Int}(bx:zh xs)(n m:Nat)(sh:Int):∀ k,zh (z0o xs n m sh k)
 | 0=>bx
 | k+1=>by
  simp only [z0o]
  refine z1y (z6l bx n m sh k) _ ?_
  unfold zdo
  rw [IntKind.wrap_u8];omega
theorem z30 (v:Int):0≤y8 v 0 255∧y8 v 0 255≤255:=by
 unfold y8
 repeat' split
 all_goals omega
theorem zij {xs:List Int}(bx:zh xs)(level sharp:Int):zh (uw xs level sharp):=by
 unfold uw uc uu
 repeat' split
 ·exact z6l bx _ _ _ _
 ·exact z6l bx _ _ _ _
 ·exact z6l bx _ _ _ _
 ·exact z1y (z1y bx _ (z30 _)) _ (z30 _)
 ·exact z1y (z1y (z1y (z1y bx _ (z30 _)) _ (z30 _)) _ (z30 _)) _ (z30 _)
 ·exact bx
theorem znx (xs:List Int)(b st n:Nat)(level sharp:Int):(z6k xs b st n level sharp).length=xs.length:=z8l ..
theorem zik {xs:List Int}(bx:zh xs)(b st n:Nat)(level sharp:Int):zh (z6k xs b st n level sharp):=zcu bx b st (zij (z8m bx b st n) level sharp) n
theorem z31 {hf:Nat}(h:hf≤7):i64.wrap (Int.tdiv ((2*hf:Nat):Int) 2)=(hf:Int)∧i64.wrap (Int.tdiv (i64.wrap (0 - ((2*hf:Nat):Int))) 2)=-(hf:Int):=by
 constructor
 ·rw [show Int.tdiv ((2*hf:Nat):Int) 2=((2*hf / 2:Nat):Int) from rfl,w64 (by omega)];omega
 ·rw [w64 (x:=0 - ((2*hf:Nat):Int)) (by omega),show (0:Int) - ((2*hf:Nat):Int)=-((2*hf:Nat):Int) by omega,Int.neg_tdiv,show Int.tdiv ((2*hf:Nat):Int) 2=((2*hf / 2:Nat):Int) from rfl,w64 (by omega)];omega
theorem z5g (a b:Int):zq a b=min a b:=by unfold zq;omega
def z0d (w h nx mw mh:Int)(tx:List Int)(ni nq level sharp:Int):Prop:=z6y w h nx mw mh tx ni nq∧0≤level∧level≤63∧0≤sharp∧sharp≤7
noncomputable instance (w h nx mw mh:Int) (tx:List Int) (ni nq level sharp:Int):Decidable (z0d w h nx mw mh tx ni nq level sharp):=Classical.propDecidable _
def z3o (Mb:Mem)(w h:Int)(xs:List Int)(m:Cells)(mw mh:Int)(r:Value × Mem):Prop:=
 Pre Mb r.2∧if z0d w h xs.length mw mh m.tx m.ids.length m.qs.length m.level m.sharp then ∃ a cc,r.1=.tuple ⟨[.agg ⟨[.int .i64 w,.int .i64 h,.slice (some a) xs.length cc]⟩,.int .i64 0]⟩∧xs.length≤cc∧Buf Mb r.2 a ((m.passS w.toNat h.toNat xs m.tx.length).map (Value.int .u8))
  else r.1=.tuple ⟨[.agg ⟨[.int .i64 0,.int .i64 0,.slice none 0 0]⟩,.int .i64 2]⟩
namespace Cells
variable (m:Cells)(W H:Nat)
theorem linesS_len (xs:List Int)(i:Nat):∀ k,(m.linesS W H xs i k).length=xs.length
 | 0=>rfl
 | k+1=>by simp only [linesS];rw [znx];exact linesS_len xs i k
theorem zny (xs:List Int)(i:Nat):(m.cellS W H xs i).length=xs.length:=by
 unfold cellS;split
 ·rfl
 ·exact linesS_len ..
theorem passS_len (xs:List Int):∀ i,(m.passS W H xs i).length=xs.length
 | 0=>rfl
 | i+1=>by simp only [passS];rw [zny];exact passS_len xs i
theorem linesS_bytes {xs:List Int}(bx:zh xs)(i:Nat):∀ k,zh (m.linesS W H xs i k)
 | 0=>bx
 | k+1=>by simp only [linesS];exact zik (linesS_bytes bx i k) _ _ _ _ _
theorem zil {xs:List Int}(bx:zh xs)(i:Nat):zh (m.cellS W H xs i):=by
 unfold cellS;split
 ·exact bx
 ·exact linesS_bytes m W H bx i 4
theorem passS_bytes {xs:List Int}(bx:zh xs):∀ i,zh (m.passS W H xs i)
 | 0=>bx
 | i+1=>by simp only [passS];exact zil m W H (passS_bytes bx i) i
end Cells
theorem z5h {m:Cells}{i mh:Nat}(h:i < m.mw*mh):m.prev i < m.mw*mh:=by unfold Cells.prev;split <;> omega
structure PassF (m:Cells) (W H mh:Nat) (n:Nat) (AT AI AQ:Option Addr) (Mb:Mem):Prop where
 hW:W=4*m.mw
 hH:H=4*mh
 w512:W≤512
 h512:H≤512
 hn:n=H*W
 ht:m.tx.length=m.mw*mh
 hi:m.ids.length=m.mw*mh
 hq:m.qs.length=m.mw*mh
 tp:∀ t ∈ m.tx,TxP t
 rt:RdI Mb .u8 AT m.tx
 ri:RdI Mb .i64 AI m.ids
 rq:RdB Mb AQ m.qs
 lv:0≤m.level∧m.level≤63
 sh:0≤m.sharp∧m.sharp≤7
section
variable {m:Cells}{W H mh n:Nat}{AT AI AQ:Option Addr}{Mb:Mem}(f:PassF m W H mh n AT AI AQ Mb)
include f
theorem PassF.txp {i:Nat}(h:i < m.mw*mh):TxP (m.tx.getD i 0):=f.tp _ (zbs (by rw [f.ht];exact h))
theorem PassF.small:n≤262144∧m.mw*mh≤16384:=by
 have h1:H*W≤512*512:=Nat.mul_le_mul f.h512 f.w512
 have:=f.hW
 have:=f.hH
 have:=f.w512
 have:=f.h512
 have h2:m.mw*mh≤128*128:=Nat.mul_le_mul (by omega) (by omega)
 have:=f.hn
 omega
end
theorem zhd (lo:Nat)(r:Int)(col:Bool)(M:Mem):Ac P T lo F.zas [.int .i64 r,.bool col] M fun q=>q=(.int .i64 ((z2g r col:Nat):Int),M):=by
 refine Ac.of (Evp.of_eq (fun k=>zas.entry k ..) ?_)
 unfold z2g
 refine Evp.dec (fun h=>Evp.ret (Run.ret (by rw [if_pos h];rfl))) fun h=>?_
 rw [if_neg h]
 refine Evp.bb (fun h=>Evp.ret (Run.ret (by rw [if_pos h];rfl))) fun h'=>?_
 rw [if_neg (by rw [h'];simp)]
 refine Evp.dec (fun h=>Evp.ret (Run.ret (by rw [if_pos h];rfl))) fun h=>Evp.ret (Run.ret (by rw [if_neg h];rfl))
theorem z25 (v:Value)(n:Nat):y4 [v] n=List.replicate n v:=by
 unfold y4
 induction n with
 | zero=>rfl
 | succ n ih=>rw [List.replicate_succ,List.flatten_cons,ih];rfl
namespace Cells
def back (m:Cells):Nat:=if m.up then 1 else m.mw
end Cells
section
variable (lo W H mh:Nat)(m:Cells)(AT AI AQ:Option Addr)(n ct ci cq:Nat)(a:Addr)(co:Nat)(Mb:Mem)(hlo:lo≤Mb.length)(f:PassF m W H mh n AT AI AQ Mb)(h0:m.level≠0)(Q:Value × Mem→Prop)
include hlo f
theorem zim (x y i k tn:Nat)(b:Nat)(hb:b≤262144)(z:Addr)(cz:Nat)(xs zs:List Int)(hl:xs.length=n)(hz:zs.length=tn)(ht:tn≤14)(hin:∀ j,j < tn→b+j*m.step W < n)(M1:Mem)(hza:a.block < M1.length)
  (next:∀ M,Pre Mb M→Buf Mb M a ((z4z xs b (m.step W) zs tn).map (Value.int .u8))→Run P T lo F.z8 (z8.Ce m.up m.col (m.step W:Nat) (m.along W:Nat) (m.back:Nat) (m.side W H:Nat) x y tn AT m.tx.length ct m.tx.length i ((k+1:Nat):Int) W H (some a) n co m.mw mh AT m.tx.length ct AI m.ids.length ci AQ m.qs.length cq 0 0 none 0 0 (zm m.level m.sharp) (2*(m.level+2)+zm m.level m.sharp) (m.level / 16) M) Q) (hk:k < 4) :
  ∀ (d j:Nat) (M:Mem),tn - j=d→j≤tn→Pre Mb M→Buf Mb M a ((z4z xs b (m.step W) zs j).map (Value.int .u8))→Buf M1 M z (zs.map (Value.int .u8)) →
   Run P T lo F.z8 (z8.Cg m.up m.col (m.step W:Nat) (m.along W:Nat) (m.back:Nat) (m.side W H:Nat) x y tn b AT m.tx.length ct m.tx.length i k (some z) tn cz tn j W H (some a) n co m.mw mh AT m.tx.length ct AI m.ids.length ci AQ m.qs.length cq 0 0 none 0 0 (zm m.level m.sharp) (2*(m.level+2)+zm m.level m.sharp) (m.level / 16) M) Q:=by
 have w512:=f.w512
 have st:m.step W≤512:=by unfold Cells.step;split <;> omega
 intro d
 induction d with
 | zero=>
  intro j M hd hj hp hbuf hbz
  obtain rfl:j=tn:=by omega
  refine kut (fun k=>z8.Pg k ..) ?_
  refine Evp.dec (fun h=>absurd h (by omega)) fun _=>?_
  rw [w64 (by omega)]
  exact Evp.ret (next M hp hbuf)
 | succ d ih=>
  intro j M hd hj hp hbuf hbz
  have hlt:=hin j (by omega)
  have jm:j*m.step W≤14*512:=Nat.mul_le_mul (by omega) st
  have ei:i64.wrap ((b:Int)+i64.wrap ((j:Int)*(m.step W:Nat)))=((b+j*m.step W:Nat):Int):=by
   rw [← Int.natCast_mul,w64 (x:=((j*m.step W:Nat):Int)) (by omega),w64 (by omega)];omega
  refine kut (fun k=>z8.Pg k ..) ?_
  rw [ei]
  refine Evp.dec (fun _=>?_) fun h=>absurd h (by omega)
  refine Evp.pos (by omega) ?_
  simp only [Int.toNat_natCast]
  refine Evp.ldI hbz.rdI (by omega) fun _ _=>?_
  refine Evp.pos (by omega) (Evp.some rfl ?_)
  obtain ⟨M3,h1,h2,h3,h4,h5⟩:=hbuf.st (lo:=lo) (i:=b+j*m.step W) (vs:=[.int .u8 (zs.getD j 0)]) hp hlo (by simp [z8l];omega)
  refine Evp.some h1 ?_
  rw [jf,qe] at h2
  rw [w64 (by omega)]
  exact Evp.ret (ih (j+1) M3 (by omega) (by omega) h3 h2 (hbz.keep h4 fun a' e=>by injection e with e;subst e;have:=hbz.new;omega))
include h0
theorem zl9 (x y i k hf:Nat)(hhf:hf=2∨hf=3∨hf=4∨hf=7)(b:Nat)(hb:b≤262144)(xs:List Int)(hl:xs.length=n)(bx:zh xs)(hin:∀ j,j < 2*hf→b+j*m.step W < n)(hk:k < 4)
  (next:∀ M,Pre Mb M→Buf Mb M a ((z6k xs b (m.step W) (2*hf) m.level m.sharp).map (Value.int .u8))→Run P T lo F.z8 (z8.Ce m.up m.col (m.step W:Nat) (m.along W:Nat) (m.back:Nat) (m.side W H:Nat) x y ((2*hf:Nat):Int) AT m.tx.length ct m.tx.length i ((k+1:Nat):Int) W H (some a) n co m.mw mh AT m.tx.length ct AI m.ids.length ci AQ m.qs.length cq 0 0 none 0 0 (zm m.level m.sharp) (2*(m.level+2)+zm m.level m.sharp) (m.level / 16) M) Q)
  (M0:Mem) (hp0:Pre Mb M0) (hbuf0:Buf Mb M0 a (xs.map (Value.int .u8))) (s:Addr):∀ (d j:Nat) (ss:List Int) (M:Mem),2*hf - j=d→j≤2*hf→ss.length=2*hf→(∀ q,q < j→ss.getD q 0=xs.getD (b+q*m.step W) 0)→Pre M0 M→Buf M0 M s (ss.map (Value.int .u8)) →
   Run P T lo F.z8 (z8.Cf m.up m.col (m.step W:Nat) (m.along W:Nat) (m.back:Nat) (m.side W H:Nat) x y ((2*hf:Nat):Int) b AT m.tx.length ct m.tx.length i k ((2*hf:Nat):Int) j W H (some a) n co m.mw mh AT m.tx.length ct AI m.ids.length ci AQ m.qs.length cq 0 0 none 0 0 (zm m.level m.sharp) (2*(m.level+2)+zm m.level m.sharp) (m.level / 16) (some s) (2*hf) (2*hf) hf M) Q:=by
 have w512:=f.w512
 have st:m.step W≤512:=by unfold Cells.step;split <;> omega
 have hab:a.block < M0.length:=by
  obtain ⟨_,_,_,hb2,_⟩:=hbuf0
  exact (List.getElem?_eq_some_iff.1 hb2).1
 intro d
 induction d with
 | zero=>
  intro j ss M hd hj hs hq hp hbs
  obtain rfl:j=2*hf:=by omega
  have ess:ss=z19 xs b (m.step W) (2*hf):=z2p (by rw [hs,zbt]) fun q hq'=>by
   rw [hq q (by omega)]
   unfold z19
   rw [uf (by omega)]
  refine kut (fun k=>z8.Pf k ..) ?_
  refine Evp.dec (fun h=>absurd h (by omega)) fun _=>?_
  have F:=znu lo (some s) (2*hf) ss M m.level (Nat.le_trans hlo (hp0.trans hp).len) hbs.rdI (by rw [ess];exact z8m bx _ _ _) (by omega) (zm m.level m.sharp) (2*(m.level+2)+zm m.level m.sharp)
  rw [hs,show 2*hf / 2=hf by omega] at F
  refine Evp.ob F ?_
  rintro _ ⟨z,cz,M1,rfl,p1,b1⟩
  simp only [RD,RE,Nat.reduceAdd,Nat.reduceLT]
  have ee:(if z09 ss (zm m.level m.sharp) (2*(m.level+2)+zm m.level m.sharp) then uc ss m.level else ss)=uw (z19 xs b (m.step W) (2*hf)) m.level m.sharp:=by
   rw [← ess]
   unfold uw z2c
   by_cases g:z09 ss (zm m.level m.sharp) (2*(m.level+2)+zm m.level m.sharp)
   ·rw [if_pos g,if_pos ⟨h0,g⟩]
   ·rw [if_neg g,if_neg (fun e=>g e.2)]
  rw [ee] at b1
  exact Evp.ret (zim lo W H mh m AT AI AQ n ct ci cq a co Mb hlo f Q x y i k (2*hf) b hb z cz xs _ hl (by rw [zew,zbt]) (by omega) hin M (Nat.lt_of_lt_of_le hab hp.len) next hk _ 0 M1 rfl (Nat.zero_le _) ((hp0.trans hp).trans p1) ((hbuf0.pre hp).pre p1) b1)
 | succ d ih=>
  intro j ss M hd hj hs hq hp hbs
  have hlt:=hin j (by omega)
  have jm:j*m.step W≤14*512:=Nat.mul_le_mul (by omega) st
  have ei:i64.wrap ((b:Int)+i64.wrap ((j:Int)*(m.step W:Nat)))=((b+j*m.step W:Nat):Int):=by
   rw [← Int.natCast_mul,w64 (x:=((j*m.step W:Nat):Int)) (by omega),w64 (by omega)];omega
  refine kut (fun k=>z8.Pf k ..) ?_
  rw [ei]
  refine Evp.dec (fun _=>?_) fun h=>absurd h (by omega)
  refine Evp.pos (by omega) ?_
  simp only [Int.toNat_natCast]
  refine Evp.ldI (hbuf0.pre hp).rdI (by omega) fun _ _=>?_
  refine Evp.pos (by omega) (Evp.some rfl ?_)
  obtain ⟨M3,h1,h2,h3,h4,h5⟩:=hbs.st (lo:=lo) (i:=j) (vs:=[.int .u8 (xs.getD (b+j*m.step W) 0)]) hp (Nat.le_trans hlo hp0.len) (by simp;omega)
  refine Evp.some h1 ?_
  rw [jf,qe] at h2
  rw [w64 (by omega)]
  refine Evp.ret (ih (j+1) _ M3 (by omega) (by omega) (by simpa using hs) (fun q hq'=>?_) h3 h2)
  rw [z0k (by omega)]
  split
  ·rename_i e;subst e;rfl
  ·exact hq q (by omega)
theorem zin (i:Nat)(hi:i < m.mw*mh)(hs:¬ m.skip i)(xs:List Int)(hl:xs.length=n)(bx:zh xs)
  (next:∀ M,Pre Mb M→Buf Mb M a ((m.linesS W H xs i 4).map (Value.int .u8))→Run P T lo F.z8 (z8.Cc m.up m.col (m.step W:Nat) (m.along W:Nat) (m.back:Nat) (m.side W H:Nat) AT m.tx.length ct m.tx.length i W H (some a) n co m.mw mh AT m.tx.length ct AI m.ids.length ci AQ m.qs.length cq 0 0 none 0 0 (zm m.level m.sharp) (2*(m.level+2)+zm m.level m.sharp) (m.level / 16) M) Q) :
  ∀ (d k:Nat) (M:Mem),4 - k=d→k≤4→Pre Mb M→Buf Mb M a ((m.linesS W H xs i k).map (Value.int .u8)) →
   Run P T lo F.z8 (z8.Ce m.up m.col (m.step W:Nat) (m.along W:Nat) (m.back:Nat) (m.side W H:Nat) ((4*(i % m.mw):Nat):Int) ((4*(i / m.mw):Nat):Int) (m.taps W H i:Nat) AT m.tx.length ct m.tx.length i k W H (some a) n co m.mw mh AT m.tx.length ct AI m.ids.length ci AQ m.qs.length cq 0 0 none 0 0 (zm m.level m.sharp) (2*(m.level+2)+zm m.level m.sharp) (m.level / 16) M) Q:=by
 obtain ⟨s1,s2⟩:=f.small
 have t1:=f.txp hi
 have t2:=f.txp (z5h hi)
 have w512:=f.w512
 have h512:=f.h512
 have hw:=f.hW
 have hh:=f.hH
 have ht:=f.ht
 obtain ⟨g1,g2,g3,g4⟩:=geo m W H mh _ f.hW f.hH hi t1 t2 hs
 obtain ⟨v1,v2,v3⟩:=z2z hi
 have P1:=znw m W H mh _ f.hW f.hH hi t1 t2 hs
 obtain ⟨hf,hft,hfv⟩:∃ hf,m.taps W H i=2*hf∧(hf=2∨hf=3∨hf=4∨hf=7):=⟨m.taps W H i / 2,by omega,by omega⟩
 intro d
 induction d with
 | zero=>
  intro k M hd hk hp hbuf
  obtain rfl:k=4:=by omega
  refine kut (fun k=>z8.Pe k ..) ?_
  refine Evp.dec (fun h=>absurd h (by omega)) fun _=>Evp.ret (next M hp hbuf)
 | succ d ih=>
  intro k M hd hk hp hbuf
  have P0:=(P1 k 0 (by omega) (by omega)).2
  have hin:∀ j,j < 2*hf→m.first W H i k+j*m.step W < n:=fun j hj=>by
   rw [f.hn]
   exact (P1 k j (by omega) (by omega)).2.1
  have b0:=hin 0 (by omega)
  rw [Nat.zero_mul,Nat.add_zero] at b0
  have st512:m.step W≤512:=by unfold Cells.step;split <;> omega
  have ec:i64.wrap ((i64.wrap ((i64.wrap ((i64.wrap (((4*(i / m.mw):Nat):Int)*W))+((4*(i % m.mw):Nat):Int)))+(i64.wrap ((k:Int)*(m.along W:Nat))))) - (i64.wrap ((i64.wrap (Int.tdiv ((2*hf:Nat):Int) 2))*(m.step W:Nat))))=((m.first W H i k:Nat):Int):=by
   have e1:hf=m.taps W H i / 2:=by omega
   have e2:=P0.2
   rw [← e1] at e2
   have a1:m.along W≤512:=by unfold Cells.along;split <;> omega
   have a2:k*m.along W≤4*512:=Nat.mul_le_mul (by omega) a1
   have a3:4*(i / m.mw)*W≤512*512:=Nat.mul_le_mul (by omega) w512
   have a4:hf*m.step W≤7*512:=Nat.mul_le_mul (by omega) st512
   rw [(z31 (hf:=hf) (by omega)).1,← Int.natCast_mul k,← Int.natCast_mul hf,← Int.natCast_mul]
   generalize 4*(i / m.mw)*W=q1 at *
   generalize k*m.along W=q2 at *
   generalize hf*m.step W=q3 at *
   generalize i % m.mw=x at *
   rw [w64 (x:=(q1:Int)) (by omega),w64 (x:=(q1:Int)+((4*x:Nat):Int)) (by omega),w64 (x:=(q2:Int)) (by omega),w64 (x:=(q1:Int)+((4*x:Nat):Int)+q2) (by omega),w64 (x:=(q3:Int)) (by omega),w64 (by omega)]
   omega
  refine kut (fun k=>z8.Pe k ..) ?_
  rw [hft] at ih ⊢
  refine Evp.dec (fun _=>?_) fun h=>absurd h (by omega)
  refine Evp.pos ⟨by omega,by show _*1≤_;omega⟩ ?_
  rw [ec,(z31 (hf:=hf) (by omega)).1]
  simp only [Int.toNat_natCast]
  have hz:y4 [.int .u8 0] (2*hf)=(List.replicate (2*hf) (0:Int)).map (Value.int .u8):=by rw [z25,List.map_replicate]
  rw [hz]
  refine Evp.ret (zl9 lo W H mh m AT AI AQ n ct ci cq a co Mb hlo f h0 Q _ _ i k hf hfv (m.first W H i k) (by omega) (m.linesS W H xs i k) (by rw [m.linesS_len];exact hl) (m.linesS_bytes W H bx i k) hin (by omega) (fun M' hp' hb'=>?_) M hp hbuf ⟨M.length,0,none⟩ _ 0 (List.replicate (2*hf) 0) _ rfl (Nat.zero_le _) (by simp) (fun q hq=>absurd hq (by omega)) (Pre.app _ _) (Buf.push (Pre.refl _)))
  refine ih (k+1) M' (by omega) (by omega) hp' ?_
  simp only [Cells.linesS]
  rw [hft]
  exact hb'
theorem zla (i:Nat)(hi:i < m.mw*mh)(xs:List Int)(hl:xs.length=n)(bx:zh xs)(M:Mem)(hp:Pre Mb M)(hbuf:Buf Mb M a (xs.map (Value.int .u8)))
  (next:∀ M,Pre Mb M→Buf Mb M a ((m.cellS W H xs i).map (Value.int .u8))→Run P T lo F.z8 (z8.Cc m.up m.col (m.step W:Nat) (m.along W:Nat) (m.back:Nat) (m.side W H:Nat) AT m.tx.length ct m.tx.length i W H (some a) n co m.mw mh AT m.tx.length ct AI m.ids.length ci AQ m.qs.length cq 0 0 none 0 0 (zm m.level m.sharp) (2*(m.level+2)+zm m.level m.sharp) (m.level / 16) M) Q) :
  Run P T lo F.z8 (z8.Cd m.up m.col (m.step W:Nat) (m.along W:Nat) (m.back:Nat) (m.side W H:Nat) i (m.tx.getD i 0) ((4*(i % m.mw):Nat):Int) ((4*(i / m.mw):Nat):Int) (m.at_ i:Nat) AT m.tx.length ct m.tx.length i W H (some a) n co m.mw mh AT m.tx.length ct AI m.ids.length ci AQ m.qs.length cq 0 0 none 0 0 (zm m.level m.sharp) (2*(m.level+2)+zm m.level m.sharp) (m.level / 16) M) Q:=by
 obtain ⟨s1,s2⟩:=f.small
 have t1:=f.txp hi
 have t2:=f.txp (z5h hi)
 have pl:=z5h hi
 have skp:m.skip i→Run P T lo F.z8 (z8.Cc m.up m.col (m.step W:Nat) (m.along W:Nat) (m.back:Nat) (m.side W H:Nat) AT m.tx.length ct m.tx.length i W H (some a) n co m.mw mh AT m.tx.length ct AI m.ids.length ci AQ m.qs.length cq 0 0 none 0 0 (zm m.level m.sharp) (2*(m.level+2)+zm m.level m.sharp) (m.level / 16) M) Q:=fun h=>next M hp (by unfold Cells.cellS;rw [if_pos h];exact hbuf)
 have asd:=zl8 m W H mh _ f.hW f.hH hi
 obtain ⟨v1,v2,v3⟩:=z2z hi
 have w512:=f.w512
 have h512:=f.h512
 have sd:m.side W H≤512:=by unfold Cells.side;split <;> omega
 have t1':=t1
 have t2':=t2
 unfold TxP at t1' t2'
 have ht:=f.ht
 have hii:=f.hi
 have hqq:=f.hq
 have rt:=f.rt.pre hp
 have ri:=f.ri.pre hp
 have rq:=f.rq.pre hp
 have go:¬ m.skip i→Evp (fun k=>pb (0≤((m.prev i:Nat):Int)∧((m.prev i:Nat):Int) < (m.tx.length:Int)) (ob AT fun a49=>ob ((M.ld (plus a49 (m.prev i))).bind (Value.int? .u8)) fun x50=>
   ob (z5 P T k lo F.zas [.int .i64 (zq (zq (zq (i64.wrap (m.tx.getD i 0)) (i64.wrap x50)) (m.at_ i:Nat)) (i64.wrap (((m.side W H:Nat):Int) - (m.at_ i:Nat)))),.bool m.col] M) fun r51=>ob ((some r51.1).bind (Value.int? .i64)) fun x52=>
   some (z8.Ce m.up m.col (m.step W:Nat) (m.along W:Nat) (m.back:Nat) (m.side W H:Nat) ((4*(i % m.mw):Nat):Int) ((4*(i / m.mw):Nat):Int) x52 AT m.tx.length ct m.tx.length i 0 W H (some a) n co m.mw mh AT m.tx.length ct AI m.ids.length ci AQ m.qs.length cq 0 0 none 0 0 (zm m.level m.sharp) (2*(m.level+2)+zm m.level m.sharp) (m.level / 16) r51.2)) none) fun out=>Run P T lo F.z8 out Q:=fun h=>by
  refine Evp.pos (by omega) (Evp.ldI rt (by omega) fun _ _=>?_)
  have er:zq (zq (zq (i64.wrap (m.tx.getD i 0)) (i64.wrap (m.tx.getD (m.prev i) 0))) (m.at_ i:Nat)) (i64.wrap (((m.side W H:Nat):Int) - (m.at_ i:Nat)))=m.reach W H i:=by
   rw [w64 (x:=m.tx.getD i 0) (by omega),w64 (x:=m.tx.getD (m.prev i) 0) (by omega),w64 (x:=((m.side W H:Nat):Int) - (m.at_ i:Nat)) (by omega),z5g,z5g,z5g]
   unfold Cells.reach
   omega
  rw [er]
  refine Evp.ob (zhd lo (m.reach W H i) m.col M) ?_
  rintro _ rfl
  simp only [RD,RE,Nat.reduceAdd,Nat.reduceLT]
  exact Evp.ret (zin lo W H mh m AT AI AQ n ct ci cq a co Mb hlo f h0 Q i hi h xs hl bx (fun M' hp' hb'=>next M' hp' (by unfold Cells.cellS;rw [if_neg h];exact hb')) _ 0 M rfl (Nat.zero_le _) hp hbuf)
 refine kut (fun k=>z8.Pd k ..) ?_
 refine Evp.eqb (fun h=>Evp.ret (skp (.inl (by omega)))) fun h00=>?_
 rw [w64 (x:=m.tx.getD i 0) (by omega)] at *
 refine Evp.neg (by omega) ?_
 have em:Int.tmod (m.at_ i:Int) (m.tx.getD i 0)=(m.at_ i:Int) % m.tx.getD i 0:=Int.tmod_eq_emod_of_nonneg (by omega)
 rw [em]
 refine Evp.neb (fun h=>Evp.ret (skp (.inr (.inl h)))) fun h1=>?_
 have eb:i64.wrap ((i:Int) - (m.back:Nat))=((m.prev i:Nat):Int):=by
  unfold Cells.at_ at h00
  have dm:=Nat.div_add_mod i m.mw
  unfold Cells.prev Cells.back
  cases hu:m.up with
  | true=>
   rw [hu] at h00
   simp only [if_true] at h00 ⊢
   have:i % m.mw≤i:=Nat.mod_le _ _
   rw [w64 (by omega)];omega
  | false=>
   rw [hu] at h00
   simp only [Bool.false_eq_true,if_false] at h00 ⊢
   have:m.mw*1≤m.mw*(i / m.mw):=Nat.mul_le_mul_left _ (by omega)
   rw [w64 (by omega)];omega
 rw [eb]
 simp only [Int.toNat_natCast]
 refine Evp.pos (by omega) (Evp.ldI ri (by omega) fun _ _=>?_)
 refine Evp.pos (by omega) (Evp.ldI ri (by omega) fun _ _=>?_)
 refine Evp.eqb (fun h2=>?_) fun h2=>?_
 ·refine Evp.pos (by omega) (Evp.ldB rq (by omega) fun _ _=>?_)
  refine Evp.bb (fun h3=>?_) fun h3=>?_
  ·refine Evp.pos (by omega) (Evp.ldB rq (by omega) fun _ _=>?_)
   refine Evp.bb (fun h4=>Evp.ret (skp (.inr (.inr ⟨h2,h3,h4⟩)))) fun h4=>?_
   refine go ?_
   rintro (e | e | e)
   ·omega
   ·exact e h1
   ·rw [h4] at e;cases e.2.2
  ·refine go ?_
   rintro (e | e | e)
   ·omega
   ·exact e h1
   ·rw [h3] at e;cases e.2.1
 ·refine go ?_
  rintro (e | e | e)
  ·omega
  ·exact e h1
  ·exact h2 e.1
theorem zio (xs:List Int)(hl:xs.length=n)(bx:zh xs)(fin:∀ M,Pre Mb M→Buf Mb M a ((m.passS W H xs m.tx.length).map (Value.int .u8))→Q (.tuple ⟨[.agg ⟨[.int .i64 W,.int .i64 H,.slice (some a) n co]⟩,.int .i64 0]⟩,M)) :
  ∀ (d i:Nat) (M:Mem),m.tx.length - i=d→i≤m.tx.length→Pre Mb M→Buf Mb M a ((m.passS W H xs i).map (Value.int .u8)) →
   Run P T lo F.z8 (z8.Cb m.up m.col (m.step W:Nat) (m.along W:Nat) (m.back:Nat) (m.side W H:Nat) AT m.tx.length ct m.tx.length i W H (some a) n co m.mw mh AT m.tx.length ct AI m.ids.length ci AQ m.qs.length cq 0 0 none 0 0 (zm m.level m.sharp) (2*(m.level+2)+zm m.level m.sharp) (m.level / 16) M) Q:=by
 obtain ⟨s1,s2⟩:=f.small
 have w512:=f.w512
 have h512:=f.h512
 have hw:=f.hW
 have hh:=f.hH
 have ht:=f.ht
 intro d
 induction d with
 | zero=>
  intro i M hd hi hp hbuf
  obtain rfl:i=m.tx.length:=by omega
  refine kut (fun k=>z8.Pb k ..) ?_
  refine Evp.dec (fun h=>absurd h (by omega)) fun _=>Evp.ret (Run.ret (fin M hp hbuf))
 | succ d ih=>
  intro i M hd hi hp hbuf
  have hil:i < m.mw*mh:=by omega
  obtain ⟨v1,v2,v3⟩:=z2z hil
  have nx:∀ M,Pre Mb M→Buf Mb M a ((m.cellS W H (m.passS W H xs i) i).map (Value.int .u8))→Run P T lo F.z8 (z8.Cc m.up m.col (m.step W:Nat) (m.along W:Nat) (m.back:Nat) (m.side W H:Nat) AT m.tx.length ct m.tx.length i W H (some a) n co m.mw mh AT m.tx.length ct AI m.ids.length ci AQ m.qs.length cq 0 0 none 0 0 (zm m.level m.sharp) (2*(m.level+2)+zm m.level m.sharp) (m.level / 16) M) Q:=fun M' hp' hb'=>by
   refine kut (fun k=>z8.Pc k ..) ?_
   rw [w64 (by omega)]
   exact Evp.ret (ih (i+1) M' (by omega) (by omega) hp' hb')
  have cell:=zla lo W H mh m AT AI AQ n ct ci cq a co Mb hlo f h0 Q i hil (m.passS W H xs i) (by rw [m.passS_len];exact hl) (m.passS_bytes W H bx i) M hp hbuf nx
  have ex:i64.wrap (4*Int.tmod (i:Int) (m.mw:Int))=((4*(i % m.mw):Nat):Int):=by
   rw [show Int.tmod (i:Int) (m.mw:Int)=((i % m.mw:Nat):Int) from rfl,w64 (by omega)];omega
  have ey:i64.wrap (4*i64.wrap (Int.tdiv (i:Int) (m.mw:Int)))=((4*(i / m.mw):Nat):Int):=by
   rw [show Int.tdiv (i:Int) (m.mw:Int)=((i / m.mw:Nat):Int) from rfl]
   generalize i / m.mw=q at *
   rw [w64 (x:=(q:Int)) (by omega),w64 (by omega)];omega
  refine kut (fun k=>z8.Pb k ..) ?_
  refine Evp.dec (fun _=>?_) fun h=>absurd h (by omega)
  refine Evp.pos (by omega) ?_
  simp only [Int.toNat_natCast]
  refine Evp.ldI (f.rt.pre hp) (by omega) fun _ _=>?_
  refine Evp.neg (by omega) (Evp.neg (by omega) ?_)
  rw [ex,ey]
  unfold Cells.at_ at cell
  refine Evp.nb (fun hu=>?_) fun hu=>?_
  ·rw [if_neg (by rw [hu];simp)] at cell;exact Evp.ret cell
  ·rw [if_pos hu] at cell;exact Evp.ret cell
end
theorem zf7 (xs:List Int)(i:Nat):xs.set i (xs.getD i 0)=xs:=by
 by_cases h:i < xs.length
 ·refine z2p (by simp) fun j hj=>?_
  rw [z0k h]
  split
  ·rename_i e;rw [e]
  ·rfl
 ·exact List.set_eq_of_length_le (by omega)
theorem zjl (xs:List Int)(b st n:Nat):∀ j,j≤n→z4z xs b st (z19 xs b st n) j=xs
 | 0,_=>rfl
 | j+1,h=>by
  simp only [z4z]
  rw [zjl xs b st n j (by omega)]
  unfold z19
  rw [uf (by omega)]
  exact zf7 xs _
theorem zpf {xs:List Int}{b st n:Nat}{level sharp:Int}(h:uw (z19 xs b st n) level sharp=z19 xs b st n):z6k xs b st n level sharp=xs:=by
 unfold z6k
 rw [h];exact zjl xs b st n n (Nat.le_refl _)
theorem Cells.pass_zero (m:Cells)(W H:Nat)(h:m.level=0)(xs:List Int):∀ i,m.passS W H xs i=xs
 | 0=>rfl
 | i+1=>by
  have ll:∀ k,m.linesS W H xs i k=xs:=fun k=>by
   induction k with
   | zero=>rfl
   | succ k ih=>
    simp only [Cells.linesS]
    rw [ih]
    exact zpf (by unfold uw;rw [if_neg (fun e=>e.1 h)])
  simp only [Cells.passS]
  rw [Cells.pass_zero m W H h xs i]
  unfold Cells.cellS
  rw [ll];split <;> rfl
section
variable (lo:Nat)(w h mw mh:Int)(m:Cells)(A AT AI AQ:Option Addr)(c ct ci cq:Nat)(xs:List Int)(M:Mem)(hlo:lo≤M.length)(hx:RdI M .u8 A xs)(bx:zh xs)(hn:xs.length≤140737488351232)
variable (rt:RdI M .u8 AT m.tx)(ri:RdI M .i64 AI m.ids)(rq:RdB M AQ m.qs)(hnt:m.tx.length≤140737488351232)(hm:m.mw=mw.toNat)
include hlo hx bx hn rt ri rq hnt hm
omit hlo hx bx hn hnt in
theorem zhe (ok:z0d w h xs.length mw mh m.tx m.ids.length m.qs.length m.level m.sharp):∃ W H mhn:Nat,w=W∧h=H∧mw=m.mw∧mh=mhn∧PassF m W H mhn xs.length AT AI AQ M∧1≤xs.length∧m.tx.length=m.mw*mhn:=by
 obtain ⟨⟨k1,k2,k3,k4,k5,k6,k7,k8,k9⟩,l0,l1,p0,p1⟩:=ok
 have s1:=zy k1
 obtain ⟨W,rfl⟩:=Int.eq_ofNat_of_zero_le (a:=w) (by omega)
 obtain ⟨H,rfl⟩:=Int.eq_ofNat_of_zero_le (a:=h) (by omega)
 have n1:xs.length=H*W:=by have:=s1.2.2.2.2;rw [← Int.natCast_mul,Nat.mul_comm] at this;omega
 have e1:mw=(m.mw:Int):=by omega
 obtain ⟨mhn,rfl⟩:=Int.eq_ofNat_of_zero_le (a:=mh) (by omega)
 rw [e1,← Int.natCast_mul] at k6 k7 k8
 have pos:1*1≤H*W:=Nat.mul_le_mul (by omega) (by omega)
 exact ⟨W,H,mhn,rfl,rfl,e1,rfl,⟨by omega,by omega,by omega,by omega,n1,by omega,by omega,by omega,k9,rt,ri,rq,⟨l0,l1⟩,⟨p0,p1⟩⟩,by omega,by omega⟩
theorem zqt:Ac P T lo F.z8 [.agg ⟨[.int .i64 w,.int .i64 h,.slice A xs.length c]⟩,.agg ⟨[.int .i64 mw,.int .i64 mh,.slice AT m.tx.length ct,.slice AI m.ids.length ci,.slice AQ m.qs.length cq]⟩,.bool m.up,.bool m.col,.int .i64 m.level,.int .i64 m.sharp] M (z3o M w h xs m mw mh):=by
 have bad:∀ M',Pre M M'→¬ z0d w h xs.length mw mh m.tx m.ids.length m.qs.length m.level m.sharp→Run P T lo F.z8 (.ret (.tuple ⟨[.agg ⟨[.int .i64 0,.int .i64 0,.slice none 0 0]⟩,.int .i64 2]⟩) M') (z3o M w h xs m mw mh):=fun M' hp hno=>Run.ret ⟨hp,by rw [if_neg hno]⟩
 refine Ac.of (Evp.of_eq (fun k=>z8.entry k ..) ?_)
 refine Evp.ob (zry lo w h mw mh A AT AI AQ xs.length c ct m.ids.length ci m.qs.length cq m.tx M hlo rt hnt) ?_
 rintro _ ⟨M1,rfl,p1⟩
 simp only [RD,RE,Nat.reduceAdd,Nat.reduceLT]
 refine Evp.nb (fun g=>Evp.ret (bad M1 p1 fun e=>of_decide_eq_false g e.1)) fun k1=>?_
 have k1:=of_decide_eq_true k1
 refine Evp.ob (z9t ..) ?_
 rintro _ rfl
 simp only [RD,RE,Nat.reduceAdd,Nat.reduceLT]
 refine Evp.nb (fun g=>Evp.ret (bad M1 p1 fun e=>of_decide_eq_false g ⟨e.2.1,e.2.2.1⟩)) fun k2=>?_
 have k2:=of_decide_eq_true k2
 refine Evp.ob (z9t ..) ?_
 rintro _ rfl
 simp only [RD,RE,Nat.reduceAdd,Nat.reduceLT]
 refine Evp.nb (fun g=>Evp.ret (bad M1 p1 fun e=>of_decide_eq_false g ⟨e.2.2.2.1,e.2.2.2.2⟩)) fun k3=>?_
 have k3:=of_decide_eq_true k3
 have ok:z0d w h xs.length mw mh m.tx m.ids.length m.qs.length m.level m.sharp:=⟨k1,k2.1,k2.2,k3.1,k3.2⟩
 obtain ⟨W,H,mhn,rfl,rfl,rfl,rfl,f,n0,tl⟩:=zhe w h mw mh m AT AI AQ xs M rt ri rq hm ok
 refine Evp.ob (z18 lo A c xs M1 (hx.pre p1) (by omega) (by omega) (Nat.le_trans hlo p1.len)) ?_
 rintro _ ⟨a,co,M2,rfl,p2,hco,b2⟩
 simp only [RD,RE,Nat.reduceAdd,Nat.reduceLT]
 have q2:=p1.trans p2
 have b2':=b2.floor (M0:=M) p1.len
 refine Evp.eqb (fun e0=>Evp.ret (Run.ret ⟨q2,?_⟩)) fun e0=>?_
 ·rw [if_pos ok]
  refine ⟨a,co,rfl,hco,?_⟩
  rw [m.pass_zero _ _ e0];exact b2'
 refine Evp.ob (znq _ _ _ _ k2 k3) ?_
 rintro _ rfl
 simp only [RD,RE,Nat.reduceAdd,Nat.reduceLT]
 have end_:∀ M',Pre M M'→Buf M M' a ((m.passS W H xs m.tx.length).map (Value.int .u8))→z3o M W H xs m (m.mw:Nat) mhn (.tuple ⟨[.agg ⟨[.int .i64 W,.int .i64 H,.slice (some a) xs.length co]⟩,.int .i64 0]⟩,M'):=fun M' hp hb=>⟨hp,by
  rw [if_pos ok]
  exact ⟨a,co,rfl,hco,hb⟩⟩
 have loop:=zio lo W H mhn m AT AI AQ xs.length ct ci cq a co M hlo f e0 _ xs rfl bx end_ _ 0 M2 rfl (Nat.zero_le _) q2 b2'
 refine Evp.nb (fun hu=>?_) fun hu=>?_
 ·refine Evp.ret ?_
  refine kut (fun k=>z8.Pa k ..) ?_
  unfold Cells.step Cells.along Cells.back Cells.side at loop
  rw [hu] at loop ⊢
  exact Evp.ret loop
 ·refine Evp.ret ?_
  refine kut (fun k=>z8.Pa k ..) ?_
  unfold Cells.step Cells.along Cells.back Cells.side at loop
  rw [hu] at loop ⊢
  exact Evp.ret loop
end
theorem z3o.got {M M':Mem}{w h mw mh:Int}{xs:List Int}{m:Cells}{v:Value}(hr:z3o M w h xs m mw mh (v,M'))(hk:z0d w h xs.length mw mh m.tx m.ids.length m.qs.length m.level m.sharp) :
  ∃ a cc,v=.tuple ⟨[.agg ⟨[.int .i64 w,.int .i64 h,.slice (some a) xs.length cc]⟩,.int .i64 0]⟩∧Pre M M'∧xs.length≤cc∧Buf M M' a ((m.passS w.toNat h.toNat xs m.tx.length).map (Value.int .u8)):=by
 obtain ⟨p,h⟩:=hr
 rw [if_pos hk] at h
 obtain ⟨a,cc,e,b⟩:=h
 exact ⟨a,cc,e,p,b⟩
theorem z3o.not {M M':Mem}{w h mw mh:Int}{xs:List Int}{m:Cells}{v:Value}(hr:z3o M w h xs m mw mh (v,M'))(hk:¬ z0d w h xs.length mw mh m.tx m.ids.length m.qs.length m.level m.sharp) :
  v=.tuple ⟨[.agg ⟨[.int .i64 0,.int .i64 0,.slice none 0 0]⟩,.int .i64 2]⟩∧Pre M M':=by
 obtain ⟨p,h⟩:=hr
 rw [if_neg hk] at h
 exact ⟨h,p⟩
end Go.Zt

