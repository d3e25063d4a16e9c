/- What the law ChainRuns needs of the text Fb. -/
import Derived.Test.YtbbfdebfhgdciaaGreatPFa
import Derived.Test.YtbbfdebfhgdciaaGreatPEq1
import Derived.Test.YtbbfdebfhgdciaaGreatPEq2
import Derived.Test.YtbbfdebfhgdciaaGreatPEq3
import Derived.Test.YtbbfdebfhgdciaaGreatPEq4
import Derived.Test.YtbbfdebfhgdciaaGreatPEq5
import Derived.KernelRfl
set_option linter.unusedVariables false
set_option linter.unusedSimpArgs false
set_option maxRecDepth 100000
namespace Go.Zt
open IntKind (i64 u8)
def z45 (M0 M:Mem)(A:Option Addr)(xs:List Int):Prop:=xs=[]∨∃ a,A=some a∧Buf M0 M a (xs.map (Value.int .u8))
theorem z45.rd {M0 M:Mem}{A:Option Addr}{xs:List Int}(h:z45 M0 M A xs):RdI M .u8 A xs:=by
 rcases h with rfl | ⟨a,rfl,hb⟩
 ·exact RdI.nil
 ·exact hb.rdI
theorem z45.pre {M0 M M':Mem}{A:Option Addr}{xs:List Int}(h:z45 M0 M A xs)(hp:Pre M M'):z45 M0 M' A xs:=by
 rcases h with rfl | ⟨a,rfl,hb⟩
 ·exact .inl rfl
 ·exact .inr ⟨a,rfl,hb.pre hp⟩
theorem z45.floor {M0 M1 M:Mem}{A:Option Addr}{xs:List Int}(h:z45 M1 M A xs)(hl:M0.length≤M1.length):z45 M0 M A xs:=by
 rcases h with rfl | ⟨a,rfl,hb⟩
 ·exact .inl rfl
 ·exact .inr ⟨a,rfl,hb.floor hl⟩
theorem Grow.own {M0 M:Mem}{A:Option Addr}{xs:List Int}(h:Grow M0 M 1 A xs.length (xs.map (Value.int .u8))):z45 M0 M A xs:=by
 by_cases h0:xs=[]
 ·exact .inl h0
 ·obtain ⟨a,h1,h2⟩:=h.buf (fun e=>h0 (List.eq_nil_of_length_eq_zero e))
  exact .inr ⟨a,h1,h2⟩
theorem z6u (lo:Nat)(A:Option Addr)(c:Nat)(xs:List Int)(M:Mem)(hr:RdI M .u8 A xs)(hn:xs.length≤140737488351232)(hlo:lo≤M.length) :
  Ac P T lo F.z1p [.slice A xs.length c] M fun r=>∃ A' cc M',r=(.slice A' xs.length cc,M')∧Pre M M'∧xs.length≤cc∧z45 M M' A' xs:=by
 by_cases h0:xs.length=0
 ·refine Ac.of (Evp.of_eq (fun k=>z1p.entry k ..) ?_)
  have hx:xs=[]:=List.eq_nil_of_length_eq_zero h0
  subst hx
  refine Evp.bb (fun h=>Evp.ret (Run.ret ⟨none,0,M,rfl,Pre.refl _,Nat.le_refl _,.inl rfl⟩)) fun h=>?_
  have e1:Mem.src (M ++ [⟨.fx,[]⟩]:Mem) A ([]:List Int).length ([]:List Int).length=some []:=(RdI.nil (M:=(M ++ [⟨.fx,[]⟩]:Mem)) (k:=.u8) (A:=A)).src
  refine Evp.some e1 ?_
  have e2:(M ++ [⟨.fx,[]⟩]:Mem).app lo 1 1 ⟨some ⟨M.length,0,none⟩,0,0⟩ [] 0=some (⟨some ⟨M.length,0,none⟩,0,0⟩,(M ++ [⟨.fx,[]⟩]:Mem)):=by
   unfold Mem.app;rw [if_pos rfl]
  refine Evp.some e2 ?_
  exact Evp.ret (Run.ret ⟨_,_,_,rfl,Pre.app _ _,Nat.le_refl _,.inl rfl⟩)
 ·refine Ac.mono (z18 lo A c xs M hr h0 hn hlo) ?_
  rintro _ ⟨a,cc,M',rfl,p,hc,hb⟩
  exact ⟨some a,cc,M',rfl,p,hc,.inr ⟨a,rfl,hb⟩⟩
theorem zru {x:Int}(n:Nat)(hn:n≤64):yz .u64 x n=x / 2 ^ n:=by
 unfold yz
 rw [show min n IntKind.u64.bits=n from Nat.min_eq_left hn]
 exact Int.fdiv_eq_ediv_of_nonneg _ (by exact_mod_cast Nat.zero_le _)
theorem zgv {x k:Nat}(h:2 ^ k≤x):Nat.log2 (x / 2 ^ k)+k=Nat.log2 x:=by
 have hp:0 < 2 ^ k:=Nat.two_pow_pos k
 have h0:x / 2 ^ k≠0:=by
  have:=(Nat.le_div_iff_mul_le hp (x:=1) (y:=x)).2 (by omega)
  omega
 have hx:x≠0:=by omega
 symm
 rw [Nat.log2_eq_iff hx]
 obtain ⟨a,b⟩:=(Nat.log2_eq_iff h0 (k:=Nat.log2 (x / 2 ^ k))).1 rfl
 generalize Nat.log2 (x / 2 ^ k)=a' at *
 rw [Nat.le_div_iff_mul_le hp] at a
 rw [Nat.div_lt_iff_lt_mul hp] at b
 rw [show a'+k+1=a'+1+k by omega,Nat.pow_add,Nat.pow_add]
 exact ⟨a,b⟩
def kh (x:Nat):Nat:=if x=0 then 0 else Nat.log2 x+1
def zbn:ByteArray:=⟨((List.range 256).map fun x=>UInt8.ofNat (kh x)).toArray⟩
theorem zl0:∀ x,x < 256→zc9 zbn x=(kh x:Nat):=by decide +kernel
theorem zic:zbn.size=256:=by decide +kernel
theorem zgw {x k:Nat}(h:2 ^ k≤x):kh (x / 2 ^ k)+k=kh x:=by
 have hp:0 < 2 ^ k:=Nat.two_pow_pos k
 have h0:x / 2 ^ k≠0:=by
  have:=(Nat.le_div_iff_mul_le hp (x:=1) (y:=x)).2 (by omega)
  omega
 unfold kh
 rw [if_neg h0,if_neg (by omega)]
 have:=zgv h
 omega
theorem zqm {x:Nat}(h:x < 256):kh x≤8:=by
 have:∀ x,x < 256→kh x≤8:=by decide +kernel
 exact this x h
theorem zp0 (lo:Nat)(x:Nat)(M:Mem)(hx:x≤1048576):Ac P T lo F.yf [.int .u64 x] M fun r=>r=(.int .i64 (kh x:Nat),M):=by
 have tab:∀ (y n:Nat),y < 256→n≤64→kh y+n=kh x→Run P T lo F.yf (yf.Cc y n M) fun r=>r=(.int .i64 (kh x:Nat),M):=fun y n hy hn e=>by
  have hl:=zqm hy
  have key:∀ t:ByteArray,t=zbn→Evp (fun k=>pb (0≤u8.wrap (y:Int)∧u8.wrap (y:Int) < (t.size:Int)) (some (.ret (.int .i64 (i64.wrap ((n:Int)+(i64.wrap (zc9 t (u8.wrap (y:Int)).toNat))))) M)) none) fun out=>Run P T lo F.yf out fun r=>r=(.int .i64 (kh x:Nat),M):=fun t ht=>by
   subst ht
   rw [zic,wu8 (x:=(y:Int)) (by omega)]
   refine Evp.pos (by omega) (Evp.ret (Run.ret ?_))
   rw [Int.toNat_natCast,zl0 y hy,w64 (x:=((kh y:Nat):Int)) (by omega),w64 (by omega)]
   congr 2
   omega
  refine kut (fun k=>yf.Pc k ..) ?_
  exact key _ (by kernel_rfl)
 have c16:yz .u64 (x:Int) 16=((x / 65536:Nat):Int):=by rw [zru 16 (by omega)];rfl
 have c8:∀ y:Nat,yz .u64 (y:Int) 8=((y / 256:Nat):Int):=fun y=>by rw [zru 8 (by omega)];rfl
 have mid:∀ (y n:Nat),y < 65536→n≤16→kh y+n=kh x→Run P T lo F.yf (yf.Cb y n M) fun r=>r=(.int .i64 (kh x:Nat),M):=fun y n hy hn e=>by
  refine kut (fun k=>yf.Pb k ..) ?_
  refine Evp.dec (fun h=>?_) fun h=>Evp.ret (tab y n (by omega) (by omega) e)
  rw [c8,w64 (by omega),show (n:Int)+8=((n+8:Nat):Int) by omega]
  exact Evp.ret (tab (y / 256) (n+8) (by omega) (by omega) (by have:=zgw (x:=y) (k:=8) (by omega);rw [show (2:Nat) ^ 8=256 from rfl] at this;omega))
 refine Ac.of (Evp.of_eq (fun k=>yf.entry k ..) ?_)
 refine Evp.dec (fun h=>absurd h (by omega)) fun _=>Evp.ret ?_
 refine kut (fun k=>yf.Pa k ..) ?_
 refine Evp.dec (fun h=>?_) fun h=>Evp.ret (mid x 0 (by omega) (by omega) (by omega))
 rw [c16,show i64.wrap (0+16)=((16:Nat):Int) from by decide]
 exact Evp.ret (mid (x / 65536) 16 (by omega) (by omega) (by have:=zgw (x:=x) (k:=16) (by omega);rw [show (2:Nat) ^ 16=65536 from rfl] at this;omega))
theorem znf (lo:Nat)(x:Nat)(M:Mem)(hx:x≤1048576):Ac P T lo F.zf8 [.int .u64 x] M fun r=>r=(.int .i64 (kh x:Nat),M):=by
 refine Ac.of (Evp.of_eq (fun k=>zf8.entry k ..) ?_)
 refine Evp.ob (zp0 lo x M hx) ?_
 rintro _ rfl
 simp only [RD,RE,Nat.reduceAdd,Nat.reduceLT]
 exact Evp.ret (Run.ret rfl)
theorem zae {x:Nat}(h:x≤1048576):Nat.log2 x≤20:=by
 rcases Nat.eq_zero_or_pos x with rfl | h0
 ·decide
 ·have:=(Nat.log2_lt (n:=x) (k:=21) (by omega)).2 (by omega)
  omega
def y9 (v:Int):Int:=y8 v (-1048576) 1048576
theorem z1v (v:Int) : -1048576≤y9 v∧y9 v≤1048576:=z0j (by decide)
def qz (t p:Int):Int:=y8 (y9 p - (Nat.log2 (y9 t).toNat:Nat)) 0 60
def z04 (d t p:Int):Int:=
 if y9 t≤0 then 0 else
  if y9 d < 0 then -(zq (jw (y9 d)) (yv 0 (y9 t - jw (y9 d) / 2 ^ (qz t p).toNat))) else zq (jw (y9 d)) (yv 0 (y9 t - jw (y9 d) / 2 ^ (qz t p).toNat))
theorem z62 (lo:Nat)(v a b:Int)(M:Mem)(h:a≤b):Ac P T lo F.zo1 [.int .i64 v,.int .i64 a,.int .i64 b] M fun r=>r=(.int .i64 (y8 v a b),M):=by
 refine Ac.of (Evp.of_eq (fun k=>zo1.entry k ..) ?_)
 refine Evp.ret (Run.ret ?_)
 have:zq (yv v a) b=y8 v a b:=by
  unfold zq yv y8
  repeat' split
  all_goals omega
 rw [this]
theorem zes (d t p:Int)(h:¬ y9 t≤0):0≤qz t p∧qz t p≤60∧0≤jw (y9 d)∧jw (y9 d)≤1048576∧0≤jw (y9 d) / 2 ^ (qz t p).toNat∧jw (y9 d) / 2 ^ (qz t p).toNat≤1048576:=by
 have h1:=z1v d
 have h3:0≤qz t p∧qz t p≤60:=z0j (by decide)
 have h4:0≤jw (y9 d)∧jw (y9 d)≤1048576:=by unfold jw;split <;> omega
 have hp:(0:Int) < 2 ^ (qz t p).toNat:=by
  have:=Nat.two_pow_pos (qz t p).toNat
  exact_mod_cast this
 have h5:=Int.ediv_nonneg h4.1 (Int.le_of_lt hp)
 have h6:=Int.ediv_le_self (2 ^ (qz t p).toNat) h4.1
 exact ⟨h3.1,h3.2,h4.1,h4.2,h5,by omega⟩
theorem zp1 (lo:Nat)(d t p:Int)(M:Mem):Ac P T lo F.zlf [.int .i64 d,.int .i64 t,.int .i64 p] M fun r=>r=(.int .i64 (z04 d t p),M):=by
 have h1:=z1v d
 have h2:=z1v t
 have h3:=z1v p
 refine Ac.of (Evp.of_eq (fun k=>zlf.entry k ..) ?_)
 refine Evp.ob (z62 lo d _ _ M (by decide)) ?_
 rintro _ rfl
 simp only [RD,RE,Nat.reduceAdd,Nat.reduceLT]
 refine Evp.ob (z62 lo t _ _ M (by decide)) ?_
 rintro _ rfl
 simp only [RD,RE,Nat.reduceAdd,Nat.reduceLT]
 refine Evp.ob (z62 lo p _ _ M (by decide)) ?_
 rintro _ rfl
 simp only [RD,RE,Nat.reduceAdd,Nat.reduceLT]
 refine Evp.dec (fun h=>Evp.ret (Run.ret (by unfold z04;rw [if_pos (show y9 t≤0 from h)]))) fun h=>?_
 have h:¬ y9 t≤0:=h
 obtain ⟨s0,s1,a0,a1,q0,q1⟩:=zes d t p h
 obtain ⟨n,en⟩:=Int.eq_ofNat_of_zero_le (a:=y9 t) (by omega)
 have en':y8 t (-1048576) 1048576=(n:Int):=en
 have hn:n≤1048576∧n≠0:=by omega
 rw [en',zdp (x:=(n:Int)) (by omega)]
 refine Evp.ob (znf lo n M hn.1) ?_
 rintro _ rfl
 simp only [RD,RE,Nat.reduceAdd,Nat.reduceLT]
 have l20:=zae hn.1
 have es:i64.wrap ((i64.wrap (y8 p (-1048576) 1048576 - ((kh n:Nat):Int)))+1)=y9 p - (Nat.log2 n:Nat):=by
  unfold kh
  rw [if_neg hn.2]
  show i64.wrap ((i64.wrap (y9 p - ((Nat.log2 n+1:Nat):Int)))+1)=_
  rw [w64 (x:=y9 p - ((Nat.log2 n+1:Nat):Int)) (by omega),w64 (by omega)]
  omega
 rw [es]
 refine Evp.ob (z62 lo _ _ _ M (by decide)) ?_
 rintro _ rfl
 simp only [RD,RE,Nat.reduceAdd,Nat.reduceLT]
 have e2:y8 (y9 p - (Nat.log2 n:Nat)) 0 60=qz t p:=by unfold qz;rw [en,Int.toNat_natCast]
 rw [e2]
 refine Evp.neg (by omega) ?_
 have ed:yv (y8 d (-1048576) 1048576) (i64.wrap (0 - y8 d (-1048576) 1048576))=jw (y9 d):=by
  show yv (y9 d) (i64.wrap (0 - y9 d))=_
  rw [w64 (by omega)]
  unfold yv jw
  split <;> split <;> omega
 have ev:zq (jw (y9 d)) (yv 0 (i64.wrap ((n:Int) - yz .i64 (jw (y9 d)) (qz t p).toNat)))=zq (jw (y9 d)) (yv 0 (y9 t - jw (y9 d) / 2 ^ (qz t p).toNat)):=by
  rw [ud _ (by omega),w64 (by omega),en]
 have vb:0≤zq (jw (y9 d)) (yv 0 (y9 t - jw (y9 d) / 2 ^ (qz t p).toNat))∧zq (jw (y9 d)) (yv 0 (y9 t - jw (y9 d) / 2 ^ (qz t p).toNat))≤1048576:=by
  unfold zq yv
  split <;> split <;> omega
 rw [ed,ev]
 refine Evp.dec (fun g=>Evp.ret (Run.ret ?_)) fun g=>Evp.ret (Run.ret ?_)
 ·unfold z04
  rw [if_neg h,if_pos (show y9 d < 0 from g),w64 (by omega),Int.zero_sub]
 ·unfold z04
  rw [if_neg h,if_neg (show ¬ y9 d < 0 from g)]
def jh (d r c:Nat):Nat:=
 if d=0 then r+c else if d=1 then r+c / 2 else if d=2 then r else if d=3 then 3+r - c / 2 else if d=4 then 7+r - c else if d=5 then 3 - r / 2+c else if d=6 then c else r / 2+c
theorem zaf {d r c:Nat}(hr:r < 8)(hc:c < 8):jh d r c < 16:=by
 unfold jh
 repeat' split
 all_goals omega
def zcl (r c:Nat):List Int:=[(jh 0 r c:Nat),(jh 1 r c:Nat),(jh 2 r c:Nat),(jh 3 r c:Nat),(jh 4 r c:Nat),(jh 5 r c:Nat),(jh 6 r c:Nat),(jh 7 r c:Nat)]
theorem zl1 {r c d:Nat}(hd:d < 8):(zcl r c).getD d 0=(jh d r c:Nat):=by
 have:d=0∨d=1∨d=2∨d=3∨d=4∨d=5∨d=6∨d=7:=by omega
 rcases this with rfl | rfl | rfl | rfl | rfl | rfl | rfl | rfl <;> rfl
theorem zp2 (lo r c:Nat)(M:Mem)(hr:r < 8)(hc:c < 8):Ac P T lo F.zli [.int .i64 r,.int .i64 c] M fun q=>q=(.agg ⟨(zcl r c).map (Value.int .i64)⟩,M):=by
 refine Ac.of (Evp.of_eq (fun k=>zli.entry k ..) ?_)
 have dr:Int.tdiv (r:Int) 2=((r / 2:Nat):Int):=rfl
 have dc:Int.tdiv (c:Int) 2=((c / 2:Nat):Int):=rfl
 rw [dr,dc,w64 (x:=((c / 2:Nat):Int)) (by omega),w64 (x:=((r / 2:Nat):Int)) (by omega),w64 (x:=(r:Int)+c) (by omega),w64 (x:=(r:Int)+((c / 2:Nat):Int)) (by omega),w64 (x:=3+(r:Int)) (by omega),w64 (x:=3+(r:Int) - ((c / 2:Nat):Int)) (by omega),w64 (x:=7+(r:Int)) (by omega),w64 (x:=7+(r:Int) - c) (by omega),w64 (x:=3 - ((r / 2:Nat):Int)) (by omega),w64 (x:=3 - ((r / 2:Nat):Int)+c) (by omega),w64 (x:=((r / 2:Nat):Int)+c) (by omega)]
 refine Evp.ret (Run.ret ?_)
 have e0:(r:Int)+c=((jh 0 r c:Nat):Int):=by simp [jh]
 have e1:(r:Int)+((c / 2:Nat):Int)=((jh 1 r c:Nat):Int):=by simp [jh]
 have e3:3+(r:Int) - ((c / 2:Nat):Int)=((jh 3 r c:Nat):Int):=by show _=((3+r - c / 2:Nat):Int);omega
 have e4:7+(r:Int) - c=((jh 4 r c:Nat):Int):=by show _=((7+r - c:Nat):Int);omega
 have e5:3 - ((r / 2:Nat):Int)+c=((jh 5 r c:Nat):Int):=by show _=((3 - r / 2+c:Nat):Int);omega
 have e7:((r / 2:Nat):Int)+c=((jh 7 r c:Nat):Int):=by show _=((r / 2+c:Nat):Int);omega
 rw [e0,e1,e3,e4,e5,e7]
 rfl
def u7 (b:List Int)(d k:Nat):Nat→Int
 | 0=>0
 | i+1=>u7 b d k i+(if jh d (i / 8) (i % 8)=k then b.getD i 0 - 128 else 0)
def zl (d k:Nat):Nat→Int
 | 0=>0
 | i+1=>zl d k i+(if jh d (i / 8) (i % 8)=k then 1 else 0)
theorem z5f {b:List Int}(bb:zh b)(d k:Nat):∀ i:Nat,-(128*(i:Int))≤u7 b d k i∧u7 b d k i≤128*(i:Int)
 | 0=>by simp [u7]
 | i+1=>by
  have ih:=z5f bb d k i
  have:=bb.get i
  simp only [u7]
  split <;> omega
theorem z2o (d k:Nat):∀ i:Nat,0≤zl d k i∧zl d k i≤(i:Int)
 | 0=>by simp [zl]
 | i+1=>by
  have ih:=z2o d k i
  simp only [zl]
  split <;> omega
def z4y (b:List Int)(i d:Nat)(L:List Int):Prop:=L.length=128∧∀ d' k,d' < 8→k < 16→L.getD (d'*16+k) 0=u7 b d' k (if d' < d then i+1 else i)
def z2f (i d:Nat)(L:List Int):Prop:=L.length=128∧∀ d' k,d' < 8→k < 16→L.getD (d'*16+k) 0=zl d' k (if d' < d then i+1 else i)
theorem z4y.next {b:List Int}{i d:Nat}{L:List Int}(h:z4y b i d L)(hd:d < 8)(hi:i < 64):z4y b i (d+1) (L.set (d*16+jh d (i / 8) (i % 8)) (L.getD (d*16+jh d (i / 8) (i % 8)) 0+(b.getD i 0 - 128))):=by
 have hn:=zaf (d:=d) (r:=i / 8) (c:=i % 8) (by omega) (by omega)
 refine ⟨by simpa using h.1,fun d' k hd' hk=>?_⟩
 have h1:=h.1
 rw [z0k (by omega)]
 by_cases e:d'*16+k=d*16+jh d (i / 8) (i % 8)
 ·have e1:d'=d:=by omega
  have e2:k=jh d (i / 8) (i % 8):=by omega
  subst e1
  rw [if_pos e,h.2 d' _ hd hn,if_neg (by omega),if_pos (by omega),e2]
  simp only [u7,if_true]
 ·rw [if_neg e,h.2 d' k hd' hk]
  by_cases g:d' < d
  ·rw [if_pos g,if_pos (by omega)]
  ·by_cases g2:d'=d
   ·subst g2
    have hne:¬ jh d' (i / 8) (i % 8)=k:=fun h=>e (by rw [h])
    rw [if_neg g,if_pos (by omega)]
    simp only [u7]
    rw [if_neg hne,Int.add_zero]
   ·rw [if_neg g,if_neg (by omega)]
theorem z2f.next {i d:Nat}{L:List Int}(h:z2f i d L)(hd:d < 8)(hi:i < 64):z2f i (d+1) (L.set (d*16+jh d (i / 8) (i % 8)) (L.getD (d*16+jh d (i / 8) (i % 8)) 0+1)):=by
 have hn:=zaf (d:=d) (r:=i / 8) (c:=i % 8) (by omega) (by omega)
 refine ⟨by simpa using h.1,fun d' k hd' hk=>?_⟩
 have h1:=h.1
 rw [z0k (by omega)]
 by_cases e:d'*16+k=d*16+jh d (i / 8) (i % 8)
 ·have e1:d'=d:=by omega
  have e2:k=jh d (i / 8) (i % 8):=by omega
  subst e1
  rw [if_pos e,h.2 d' _ hd hn,if_neg (by omega),if_pos (by omega),e2]
  simp only [zl,if_true]
 ·rw [if_neg e,h.2 d' k hd' hk]
  by_cases g:d' < d
  ·rw [if_pos g,if_pos (by omega)]
  ·by_cases g2:d'=d
   ·subst g2
    have hne:¬ jh d' (i / 8) (i % 8)=k:=fun h=>e (by rw [h])
    rw [if_neg g,if_pos (by omega)]
    simp only [zl]
    rw [if_neg hne,Int.add_zero]
   ·rw [if_neg g,if_neg (by omega)]
theorem z4y.turn {b:List Int}{i:Nat}{L:List Int}(h:z4y b i 8 L):z4y b (i+1) 0 L:=⟨h.1,fun d' k hd' hk=>by rw [h.2 d' k hd' hk,if_pos hd',if_neg (by omega)]⟩
theorem z2f.turn {i:Nat}{L:List Int}(h:z2f i 8 L):z2f (i+1) 0 L:=⟨h.1,fun d' k hd' hk=>by rw [h.2 d' k hd' hk,if_pos hd',if_neg (by omega)]⟩
def u9 (b:List Int)(d:Nat):Nat→Int
 | 0=>0
 | k+1=>u9 b d k+(if zl d k 64=0 then 0 else u7 b d k 64*u7 b d k 64*(840 / zl d k 64))
theorem zl2 {s:Int}(h : -8192≤s∧s≤8192):0≤s*s∧s*s≤67108864:=by
 have:=ks (a:=s) (b:=s) (A:=8192) (B:=8192) (by omega) (by omega)
 have h0:0≤s*s:=by
  rcases Int.le_total 0 s with h | h
  ·exact Int.mul_nonneg h h
  ·rw [← Int.neg_mul_neg];exact Int.mul_nonneg (by omega) (by omega)
 omega
theorem zag {b:List Int}(bb:zh b)(d k:Nat):0≤(if zl d k 64=0 then 0 else u7 b d k 64*u7 b d k 64*(840 / zl d k 64))∧(if zl d k 64=0 then 0 else u7 b d k 64*u7 b d k 64*(840 / zl d k 64))≤67108864*840:=by
 have s:=z5f bb d k 64
 have q:=zl2 (s:=u7 b d k 64) (by omega)
 have m:=z2o d k 64
 split
 ·omega
 ·have h1:0≤840 / zl d k 64:=Int.ediv_nonneg (by omega) m.1
  have h2:840 / zl d k 64≤840:=Int.ediv_le_self _ (by omega)
  exact ⟨Int.mul_nonneg q.1 h1,Int.mul_le_mul q.2 h2 h1 (by omega)⟩
theorem z46 {b:List Int}(bb:zh b)(d:Nat):∀ k:Nat,0≤u9 b d k∧u9 b d k≤67108864*840*(k:Int)
 | 0=>by simp [u9]
 | k+1=>by
  have ih:=z46 bb d k
  have:=zag bb d k
  simp only [u9]
  omega
def yu (b:List Int):Nat→Nat
 | 0=>0
 | d+1=>if u9 b d 16 > u9 b (yu b d) 16 then d else yu b d
theorem z0h (b:List Int):∀ n,yu b n < max n 1
 | 0=>by simp [yu]
 | n+1=>by
  have:=z0h b n
  simp only [yu]
  split <;> omega
theorem z3j {L:List Int}{i:Nat}(h:i < L.length):((L.map (Value.int .i64))[i]?).bind (Value.int? .i64)=some (L.getD i 0):=zao L i h
section
variable (lo:Nat)(A:Option Addr)(c:Nat)(b:List Int)(M:Mem)(hx:RdI M .u8 A b)(bb:zh b)(hl:b.length=64)(Q:Value × Mem→Prop)
include bb
theorem zng (x1:Int)(i:Nat)(hi:i < 64)(next:∀ L K,z4y b (i+1) 0 L→z2f (i+1) 0 K→Run P T lo F.ze (ze.Ca x1 A 64 c 64 ((i+1:Nat):Int) (L.map (Value.int .i64)) (K.map (Value.int .i64)) M) Q) :
  ∀ (e d:Nat) (L K:List Int),8 - d=e→d≤8→z4y b i d L→z2f i d K →
  Run P T lo F.ze (ze.Cd x1 (b.getD i 0) A 64 c 64 i (jh 0 (i / 8) (i % 8):Nat) (jh 1 (i / 8) (i % 8):Nat) (jh 2 (i / 8) (i % 8):Nat) (jh 3 (i / 8) (i % 8):Nat) (jh 4 (i / 8) (i % 8):Nat) (jh 5 (i / 8) (i % 8):Nat) (jh 6 (i / 8) (i % 8):Nat) (jh 7 (i / 8) (i % 8):Nat) d (L.map (Value.int .i64)) (K.map (Value.int .i64)) M) Q:=by
 intro e
 induction e with
 | zero=>
  intro d L K he hd hL hK
  obtain rfl:d=8:=by omega
  refine kut (fun k=>ze.Pd k ..) ?_
  refine Evp.dec (fun h=>absurd h (by omega)) fun _=>?_
  rw [w64 (by omega)]
  exact Evp.ret (next L K hL.turn hK.turn)
 | succ e ih=>
  intro d L K he hd hL hK
  have hd8:d < 8:=by omega
  have hn:=zaf (d:=d) (r:=i / 8) (c:=i % 8) (by omega) (by omega)
  have g0:=hL.2 d (jh d (i / 8) (i % 8)) hd8 hn
  have g1:=hK.2 d (jh d (i / 8) (i % 8)) hd8 hn
  rw [if_neg (by omega)] at g0 g1
  have b0:=z5f bb d (jh d (i / 8) (i % 8)) i
  have b1:=z2o d (jh d (i / 8) (i % 8)) i
  have bi:=bb.get i
  have l1:=hL.1
  have k1:=hK.1
  have hget:=zl1 (r:=i / 8) (c:=i % 8) hd8
  have hla:((zcl (i / 8) (i % 8)).map (Value.int .i64))[d]?.bind (Value.int? .i64)=some ((jh d (i / 8) (i % 8):Nat):Int):=by rw [z3j (by show d < 8;exact hd8),hget]
  refine kut (fun k=>ze.Pd k ..) ?_
  refine Evp.dec (fun _=>?_) fun h=>absurd h (by omega)
  refine Evp.pos (by omega) ?_
  simp only [Int.toNat_natCast,Nat.add_zero,Nat.zero_add]
  refine Evp.some hla ?_
  generalize hk:jh d (i / 8) (i % 8)=k at *
  simp only [Int.toNat_natCast,Nat.add_zero]
  refine Evp.pos (by omega) (Evp.pos (by omega) (Evp.some (z3j (by omega)) ?_))
  refine Evp.pos (by omega) (Evp.pos (by omega) (Evp.pos (by simp;omega) ?_))
  refine Evp.pos (by omega) (Evp.pos (by omega) (Evp.some (z3j (by omega)) ?_))
  refine Evp.pos (by omega) (Evp.pos (by omega) (Evp.pos (by simp;omega) ?_))
  rw [jf,jf,qe,qe,w64 (x:=b.getD i 0) (by omega),w64 (x:=b.getD i 0 - 128) (by omega),w64 (x:=L.getD (d*16+k) 0+(b.getD i 0 - 128)) (by omega),w64 (x:=K.getD (d*16+k) 0+1) (by omega),w64 (by omega)]
  have nL:=hL.next hd8 hi
  have nK:=hK.next hd8 hi
  rw [hk] at nL nK
  exact Evp.ret (ih (d+1) _ _ (by omega) (by omega) nL nK)
include hx hl
theorem zid (x1:Int)(next:∀ L K,z4y b 64 0 L→z2f 64 0 K→Run P T lo F.ze (ze.Cb x1 0 (L.map (Value.int .i64)) (K.map (Value.int .i64)) [.int .i64 0,.int .i64 0,.int .i64 0,.int .i64 0,.int .i64 0,.int .i64 0,.int .i64 0,.int .i64 0] M) Q) :
  ∀ (e i:Nat) (L K:List Int),64 - i=e→i≤64→z4y b i 0 L→z2f i 0 K→Run P T lo F.ze (ze.Ca x1 A 64 c 64 i (L.map (Value.int .i64)) (K.map (Value.int .i64)) M) Q:=by
 intro e
 induction e with
 | zero=>
  intro i L K he hi hL hK
  obtain rfl:i=64:=by omega
  refine kut (fun k=>ze.Pa k ..) ?_
  exact Evp.dec (fun h=>absurd h (by omega)) fun _=>Evp.ret (next L K hL hK)
 | succ e ih=>
  intro i L K he hi hL hK
  refine kut (fun k=>ze.Pa k ..) ?_
  refine Evp.dec (fun _=>?_) fun h=>absurd h (by omega)
  refine Evp.pos (by omega) ?_
  simp only [Int.toNat_natCast]
  refine Evp.ldI hx (by omega) fun _ _=>?_
  rw [show Int.tdiv (i:Int) 8=((i / 8:Nat):Int) from rfl,show Int.tmod (i:Int) 8=((i % 8:Nat):Int) from rfl,w64 (x:=((i / 8:Nat):Int)) (by omega)]
  refine Evp.ob (zp2 lo (i / 8) (i % 8) M (by omega) (by omega)) ?_
  rintro _ rfl
  simp only [zcl,List.map_cons,List.map_nil,RD,RE,Nat.reduceAdd,Nat.reduceLT]
  exact Evp.ret (zng lo A c b M bb Q x1 i (by omega) (fun L K hL hK=>ih (i+1) L K (by omega) (by omega) hL hK) _ 0 L K rfl (by omega) hL hK)
end
def zpq (d:Nat):List Int:=[zl d 0 64,zl d 1 64,zl d 2 64,zl d 3 64,zl d 4 64,zl d 5 64,zl d 6 64,zl d 7 64,zl d 8 64,zl d 9 64,zl d 10 64,zl d 11 64,zl d 12 64,zl d 13 64,zl d 14 64,zl d 15 64]
theorem znh {d k:Nat}(hk:k < 16):(zpq d).getD k 0=zl d k 64:=by
 have:k=0∨k=1∨k=2∨k=3∨k=4∨k=5∨k=6∨k=7∨k=8∨k=9∨k=10∨k=11∨k=12∨k=13∨k=14∨k=15:=by omega
 rcases this with rfl | rfl | rfl | rfl | rfl | rfl | rfl | rfl | rfl | rfl | rfl | rfl | rfl | rfl | rfl | rfl <;> rfl
def z27 (b:List Int)(d k:Nat)(G:List Int):Prop:=G.length=8∧∀ d',d' < 8→G.getD d' 0=if d' < d then u9 b d' 16 else if d'=d then u9 b d k else 0
theorem z27.start (b:List Int):z27 b 0 0 [0,0,0,0,0,0,0,0]:=⟨rfl,fun d' h=>by
 have:([0,0,0,0,0,0,0,0]:List Int).getD d' 0=0:=by
  have:d'=0∨d'=1∨d'=2∨d'=3∨d'=4∨d'=5∨d'=6∨d'=7:=by omega
  rcases this with rfl | rfl | rfl | rfl | rfl | rfl | rfl | rfl <;> rfl
 rw [this,if_neg (by omega)]
 split <;> rfl⟩
theorem z27.turn {b:List Int}{d:Nat}{G:List Int}(h:z27 b d 16 G):z27 b (d+1) 0 G:=⟨h.1,fun d' hd=>by
 rw [h.2 d' hd]
 by_cases g:d' < d
 ·rw [if_pos g,if_pos (by omega)]
 ·rw [if_neg g]
  by_cases g2:d'=d
  ·subst g2;rw [if_pos rfl,if_pos (by omega)]
  ·rw [if_neg g2,if_neg (by omega)]
   split
   ·simp [u9]
   ·rfl⟩
theorem z27.next {b:List Int}{d k:Nat}{G:List Int}(h:z27 b d k G)(hd:d < 8){v:Int}(hv:v=u9 b d (k+1)):z27 b d (k+1) (G.set d v):=⟨by simpa using h.1,fun d' hd'=>by
 have h1:=h.1
 rw [z0k (by omega),h.2 d' hd']
 by_cases e:d'=d
 ·subst e;rw [if_pos rfl,if_neg (by omega),if_pos rfl,hv]
 ·rw [if_neg e,if_neg e,if_neg e]⟩
theorem z27.skip {b:List Int}{d k:Nat}{G:List Int}(h:z27 b d k G)(hz:u9 b d (k+1)=u9 b d k):z27 b d (k+1) G:=⟨h.1,fun d' hd'=>by rw [h.2 d' hd',hz]⟩
def z1l (b:List Int):Int:=(u9 b (yu b 8) 16 - u9 b ((yu b 8+4) % 8) 16) / 1024
section
variable (lo:Nat)(b:List Int)(M:Mem)(bb:zh b)(L K:List Int)(hL:z4y b 64 0 L)(hK:z2f 64 0 K)(Q:Value × Mem→Prop)
include bb hL
theorem zl3 (x1:Int)(d:Nat)(hd:d < 8)(next:∀ G,z27 b d 16 G→Run P T lo F.ze (ze.Ce x1 d d (zl d 0 64) (zl d 1 64) (zl d 2 64) (zl d 3 64) (zl d 4 64) (zl d 5 64) (zl d 6 64) (zl d 7 64) (zl d 8 64) (zl d 9 64) (zl d 10 64) (zl d 11 64) (zl d 12 64) (zl d 13 64) (zl d 14 64) (zl d 15 64) 16 (L.map (Value.int .i64)) (K.map (Value.int .i64)) (G.map (Value.int .i64)) M) Q) :
  ∀ (e k:Nat) (G:List Int),16 - k=e→k≤16→z27 b d k G→Run P T lo F.ze (ze.Ce x1 d d (zl d 0 64) (zl d 1 64) (zl d 2 64) (zl d 3 64) (zl d 4 64) (zl d 5 64) (zl d 6 64) (zl d 7 64) (zl d 8 64) (zl d 9 64) (zl d 10 64) (zl d 11 64) (zl d 12 64) (zl d 13 64) (zl d 14 64) (zl d 15 64) k (L.map (Value.int .i64)) (K.map (Value.int .i64)) (G.map (Value.int .i64)) M) Q:=by
 intro e
 induction e with
 | zero=>
  intro k G he hk hG
  obtain rfl:k=16:=by omega
  exact next G hG
 | succ e ih=>
  intro k G he hk hG
  have hk16:k < 16:=by omega
  have nx:∀ G',z27 b d (k+1) G'→Run P T lo F.ze (ze.Cf x1 d d (zl d 0 64) (zl d 1 64) (zl d 2 64) (zl d 3 64) (zl d 4 64) (zl d 5 64) (zl d 6 64) (zl d 7 64) (zl d 8 64) (zl d 9 64) (zl d 10 64) (zl d 11 64) (zl d 12 64) (zl d 13 64) (zl d 14 64) (zl d 15 64) k (L.map (Value.int .i64)) (K.map (Value.int .i64)) (G'.map (Value.int .i64)) M) Q:=fun G' hG'=>by
   refine kut (fun k=>ze.Pf k ..) ?_
   rw [w64 (by omega)]
   exact Evp.ret (ih (k+1) G' (by omega) (by omega) hG')
  have hml:((zpq d).map (Value.int .i64))[k]?.bind (Value.int? .i64)=some (zl d k 64):=by rw [z3j (by show k < 16;exact hk16),znh hk16]
  have hs:=hL.2 d k hd hk16
  rw [if_neg (by omega)] at hs
  have hg:=hG.2 d hd
  rw [if_neg (by omega),if_pos rfl] at hg
  have s:=z5f bb d k 64
  have q:=zl2 (s:=u7 b d k 64) (by omega)
  have m:=z2o d k 64
  have wl:=z46 bb d k
  have tl:=zag bb d k
  have l1:=hL.1
  have g1:=hG.1
  refine kut (fun k=>ze.Pe k ..) ?_
  refine Evp.dec (fun _=>?_) fun h=>absurd h (by omega)
  refine Evp.pos (by omega) ?_
  simp only [Int.toNat_natCast,Nat.add_zero,Nat.zero_add]
  refine Evp.some hml ?_
  refine Evp.eqb (fun h0=>Evp.ret (nx G (hG.skip (by simp only [u9];rw [if_pos h0,Int.add_zero])))) fun h0=>?_
  rw [if_neg h0] at tl
  refine Evp.pos (by omega) (Evp.some (z3j (by omega)) ?_)
  refine Evp.pos (by omega) (Evp.pos (by omega) (Evp.some (z3j (by omega)) ?_))
  refine Evp.pos (by omega) (Evp.pos (by omega) (Evp.some (z3j (by omega)) ?_))
  refine Evp.neg h0 (Evp.pos (by omega) (Evp.pos (by simp;omega) ?_))
  have dv:Int.tdiv 840 (zl d k 64)=840 / zl d k 64:=Int.tdiv_eq_ediv_of_nonneg (by omega)
  have dl:0≤840 / zl d k 64∧840 / zl d k 64≤840:=⟨Int.ediv_nonneg (by omega) m.1,Int.ediv_le_self _ (by omega)⟩
  rw [jf,qe,hs,hg,dv,w64 (x:=u7 b d k 64*u7 b d k 64) (by omega),w64 (x:=840 / zl d k 64) (by omega),w64 (x:=u7 b d k 64*u7 b d k 64*(840 / zl d k 64)) (by omega),w64 (by omega)]
  refine Evp.ret (nx _ (hG.next hd ?_))
  simp only [u9]
  rw [if_neg h0]
include hK
theorem zp3 (fin:Q (.tuple ⟨[.int .i64 (yu b 8:Nat),.int .i64 (z1l b),.int .i64 0]⟩,M)):∀ (e d:Nat) (G:List Int),8 - d=e→d≤8→z27 b d 0 G →
  Run P T lo F.ze (ze.Cb (yu b d:Nat) d (L.map (Value.int .i64)) (K.map (Value.int .i64)) (G.map (Value.int .i64)) M) Q:=by
 intro e
 induction e with
 | zero=>
  intro d G he hd hG
  obtain rfl:d=8:=by omega
  have bl:=z0h b 8
  have g1:=hG.1
  have h1:=hG.2 (yu b 8) (by omega)
  have h2:=hG.2 ((yu b 8+4) % 8) (by omega)
  rw [if_pos (by omega)] at h1
  rw [if_pos (by omega)] at h2
  have w1:=z46 bb (yu b 8) 16
  have w2:=z46 bb ((yu b 8+4) % 8) 16
  refine kut (fun k=>ze.Pb k ..) ?_
  refine Evp.dec (fun h=>absurd h (by omega)) fun _=>?_
  have et:Int.tmod (i64.wrap (((yu b 8:Nat):Int)+4)) 8=(((yu b 8+4) % 8:Nat):Int):=by
   rw [w64 (by omega),show ((yu b 8:Nat):Int)+4=((yu b 8+4:Nat):Int) by omega];rfl
  rw [et]
  refine Evp.pos (by omega) ?_
  simp only [Int.toNat_natCast,Nat.add_zero,Nat.zero_add]
  refine Evp.some (z3j (by omega)) (Evp.pos (by omega) (Evp.some (z3j (by omega)) ?_))
  rw [h1,h2,w64 (by omega),ud 10 (by omega)]
  exact Evp.ret (Run.ret fin)
 | succ e ih=>
  intro d G he hd hG
  have hd8:d < 8:=by omega
  have k1:=hK.1
  have hm:∀ j,j < 16→((K.map (Value.int .i64))[d*16+j]?).bind (Value.int? .i64)=some (zl d j 64):=fun j hj=>by
   rw [z3j (by omega),hK.2 d j hd8 hj,if_neg (by omega)]
  refine kut (fun k=>ze.Pb k ..) ?_
  refine Evp.dec (fun _=>?_) fun h=>absurd h (by omega)
  refine Evp.pos (by omega) ?_
  simp only [Int.toNat_natCast,Nat.zero_add]
  refine Evp.some (hm 0 (by omega)) (Evp.some (hm 1 (by omega)) (Evp.some (hm 2 (by omega)) (Evp.some (hm 3 (by omega)) (Evp.some (hm 4 (by omega)) (Evp.some (hm 5 (by omega)) (Evp.some (hm 6 (by omega)) (Evp.some (hm 7 (by omega)) ?_)))))))
  refine Evp.some (hm 8 (by omega)) (Evp.some (hm 9 (by omega)) (Evp.some (hm 10 (by omega)) (Evp.some (hm 11 (by omega)) (Evp.some (hm 12 (by omega)) (Evp.some (hm 13 (by omega)) (Evp.some (hm 14 (by omega)) (Evp.some (hm 15 (by omega)) ?_)))))))
  refine Evp.ret (zl3 lo b M bb L K hL Q _ d hd8 (fun G' hG'=>?_) 16 0 G rfl (by omega) hG)
  have bl:=z0h b d
  have g1:=hG'.1
  have h1:=hG'.2 d hd8
  rw [if_neg (by omega),if_pos rfl] at h1
  have h2:G'.getD (yu b d) 0=u9 b (yu b d) 16:=by
   rw [hG'.2 _ (by omega)]
   by_cases g:yu b d < d
   ·rw [if_pos g]
   ·have e0:yu b d=d:=by omega
    rw [if_neg g,if_pos e0,e0]
  refine kut (fun k=>ze.Pe k ..) ?_
  refine Evp.dec (fun h=>absurd h (by decide)) fun _=>?_
  refine Evp.pos (by omega) ?_
  simp only [Int.toNat_natCast,Nat.add_zero,Nat.zero_add]
  refine Evp.some (z3j (by omega)) (Evp.pos (by omega) ?_)
  refine Evp.some (z3j (by omega)) ?_
  rw [h1,h2]
  have eb:yu b (d+1)=if u9 b d 16 > u9 b (yu b d) 16 then d else yu b d:=rfl
  have go:∀ x:Nat,x=yu b (d+1)→Run P T lo F.ze (ze.Cc x d (L.map (Value.int .i64)) (K.map (Value.int .i64)) (G'.map (Value.int .i64)) M) Q:=fun x hx=>by
   subst hx
   refine kut (fun k=>ze.Pc k ..) ?_
   rw [w64 (by omega)]
   exact Evp.ret (ih (d+1) G' (by omega) (by omega) hG'.turn)
  refine Evp.dec (fun g=>Evp.ret (go d (by rw [eb,if_pos g]))) fun g=>Evp.ret (go (yu b d) (by rw [eb,if_neg g]))
end
def zgx (b:List Int)(M:Mem)(r:Value × Mem):Prop:=r=if b.length=64 then (.tuple ⟨[.int .i64 (yu b 8:Nat),.int .i64 (z1l b),.int .i64 0]⟩,M) else (.tuple ⟨[.int .i64 0,.int .i64 0,.int .i64 2]⟩,M)
theorem zgy (lo:Nat)(A:Option Addr)(c:Nat)(b:List Int)(M:Mem)(hx:RdI M .u8 A b)(bb:zh b):Ac P T lo F.ze [.slice A b.length c] M (zgx b M):=by
 refine Ac.of (Evp.of_eq (fun k=>ze.entry k ..) ?_)
 refine Evp.neb (fun h=>Evp.ret (Run.ret (by unfold zgx;rw [if_neg (by omega)]))) fun h=>?_
 have hl:b.length=64:=by omega
 have z:∀ i,i < 128→(List.replicate 128 (0:Int)).getD i 0=0:=fun i hi=>by rw [List.getD_eq_getElem?_getD,List.getElem?_replicate,if_pos hi];rfl
 have sL:z4y b 0 0 (List.replicate 128 0):=⟨List.length_replicate,fun d' k hd' hk=>by rw [z _ (by omega),if_neg (by omega)];rfl⟩
 have sK:z2f 0 0 (List.replicate 128 0):=⟨List.length_replicate,fun d' k hd' hk=>by rw [z _ (by omega),if_neg (by omega)];rfl⟩
 rw [hl]
 exact Evp.ret (zid lo A c b M hx bb hl (zgx b M) 0 (fun L K hL hK=>zp3 lo b M bb L K hL hK (zgx b M) (by unfold zgx;rw [if_pos hl]) 8 0 _ rfl (by omega) (z27.start b)) 64 0 _ _ rfl (by omega) sL sK)
theorem zdn (d t p:Int) : -1048576≤z04 d t p∧z04 d t p≤1048576:=by
 have h1:=z1v d
 have h4:0≤jw (y9 d)∧jw (y9 d)≤1048576:=by unfold jw;split <;> omega
 unfold z04
 have z0:0≤yv 0 (y9 t - jw (y9 d) / 2 ^ (qz t p).toNat):=by unfold yv;split <;> omega
 generalize yv 0 (y9 t - jw (y9 d) / 2 ^ (qz t p).toNat)=z at *
 have hz:0≤zq (jw (y9 d)) z∧zq (jw (y9 d)) z≤jw (y9 d):=by unfold zq;split <;> omega
 repeat' split
 all_goals omega
structure S3 where
 sum:Int
 low:Int
 top:Int
def tR (T:List Int)(t:Nat):Int:=T.getD (t*4) 0
def tC (T:List Int)(t:Nat):Int:=T.getD (t*4+1) 0
def tS (T:List Int)(t:Nat):Int:=T.getD (t*4+2) 0
def tM (T:List Int)(t:Nat):Int:=T.getD (t*4+3) 0
def inP (w h:Nat)(x y:Int):Prop:=(0≤x∧x≤(w:Int) - 1)∧(0≤y∧y≤(h:Int) - 1)
instance (w h:Nat) (x y:Int):Decidable (inP w h x y):=inferInstanceAs (Decidable (_∧_))
def atP (w:Nat)(xs:List Int)(x y:Int):Int:=xs.getD (y*w+x).toNat 0
def z0y (w h:Nat)(xs:List Int)(x y v p:Int)(T:List Int)(t:Nat)(way:Int)(s:S3):S3:=
 if inP w h (x+way*tC T t) (y+way*tR T t) then
  ⟨s.sum+tM T t*z04 (atP w xs (x+way*tC T t) (y+way*tR T t) - v) (tS T t) p,zq s.low (atP w xs (x+way*tC T t) (y+way*tR T t)),yv s.top (atP w xs (x+way*tC T t) (y+way*tR T t))⟩
 else s
def z3k (w h:Nat)(xs:List Int)(x y v p:Int)(T:List Int):Nat→S3
 | 0=>⟨0,v,v⟩
 | t+1=>z0y w h xs x y v p T t (-1) (z0y w h xs x y v p T t 1 (z3k w h xs x y v p T t))
def z47 (v:Int)(s:S3):Int:=y8 (v+(8+(if s.sum < 0 then s.sum - 1 else s.sum)) / 16) s.low s.top
def z3l (w h:Nat)(xs:List Int)(x y p:Int)(T:List Int):Int:=z47 (atP w xs x y) (z3k w h xs x y (atP w xs x y) p T 6)
def S3B (v:Int)(n:Nat)(s:S3):Prop:=-(4194304*(n:Int))≤s.sum∧s.sum≤4194304*(n:Int)∧0≤s.low∧s.low≤v∧v≤s.top∧s.top≤255
def zbo (T:List Int):Prop:=T.length=24∧∀ t,t < 6→(-2≤tR T t∧tR T t≤2)∧(-2≤tC T t∧tC T t≤2)∧(0≤tM T t∧tM T t≤4)
theorem zah {w h:Nat}{xs:List Int}(bx:zh xs){x y v p:Int}{T:List Int}(hT:zbo T){t:Nat}(ht:t < 6){way:Int}{n:Nat}{s:S3}(hs:S3B v n s):S3B v (n+1) (z0y w h xs x y v p T t way s):=by
 obtain ⟨a1,a2,a3,a4,a5,a6⟩:=hs
 unfold z0y
 split
 ·have l:=zdn (atP w xs (x+way*tC T t) (y+way*tR T t) - v) (tS T t) p
  have b:0≤atP w xs (x+way*tC T t) (y+way*tR T t)∧atP w xs (x+way*tC T t) (y+way*tR T t)≤255:=bx.get _
  have m:=(hT.2 t ht).2.2
  have ml:=ks (a:=tM T t) (b:=z04 (atP w xs (x+way*tC T t) (y+way*tR T t) - v) (tS T t) p) (A:=4) (B:=1048576) (by omega) (by omega)
  generalize tM T t*z04 (atP w xs (x+way*tC T t) (y+way*tR T t) - v) (tS T t) p=z at *
  generalize atP w xs (x+way*tC T t) (y+way*tR T t)=q at *
  refine ⟨by simp only;omega,by simp only;omega,?_,?_,?_,?_⟩
  ·simp only;unfold zq;split <;> omega
  ·simp only;unfold zq;split <;> omega
  ·simp only;unfold yv;split <;> omega
  ·simp only;unfold yv;split <;> omega
 ·exact ⟨by omega,by omega,a3,a4,a5,a6⟩
theorem zcm {w h:Nat}{xs:List Int}(bx:zh xs){x y v p:Int}{T:List Int}(hT:zbo T)(hv:0≤v∧v≤255):∀ t,t≤6→S3B v (2*t) (z3k w h xs x y v p T t)
 | 0,_=>⟨by simp [z3k],by simp [z3k],hv.1,Int.le_refl _,Int.le_refl _,hv.2⟩
 | t+1,h'=>by
  have:=zah (w:=w) (h:=h) bx (x:=x) (y:=y) (p:=p) hT (t:=t) (by omega) (way:=-1) (zah (w:=w) (h:=h) bx (x:=x) (y:=y) (p:=p) hT (t:=t) (by omega) (way:=1) (zcm (w:=w) (h:=h) bx (x:=x) (y:=y) (p:=p) hT hv t (by omega)))
  exact this
theorem zgz {v:Int}{n:Nat}{s:S3}(h:S3B v n s):0≤z47 v s∧z47 v s≤255∧s.low≤z47 v s∧z47 v s≤s.top:=by
 obtain ⟨_,_,a3,a4,a5,a6⟩:=h
 unfold z47 y8
 repeat' split
 all_goals omega
section
variable (lo:Nat)(w h:Nat)(A R:Option Addr)(cap cr:Nat)(xs T:List Int)(x y:Nat)(p:Int)(M:Mem)
variable (hx:RdI M .u8 A xs)(hR:Rd M R 6 4 (T.map (Value.int .i64)))(bx:zh xs)(hT:zbo T)(hw:1≤w∧w≤512)(hh:1≤h∧h≤512)(hl:xs.length=h*w)(hxw:x < w)(hyh:y < h)
include hx bx hT hw hh hl hxw hyh
theorem zcn (v:Int)(hv:0≤v∧v≤255)(t:Nat)(ht:t < 6)(way:Int)(hway:way=1∨way=-1)(j:Nat)(hj:j < 2)(hwj:(([.int .i64 1,.int .i64 (-1)]:List Value)[j]?).bind (Value.int? .i64)=some way)(n:Nat)(hn:n≤12)(s:S3)(hs:S3B v n s)(Q:Value × Mem→Prop)
  (next:∀ s',s'=z0y w h xs x y v p T t way s→Run P Zt.T lo F.y5 (y5.Cd x y p v s'.sum s'.low s'.top R 6 cr 6 t 1 (-1) j w h A xs.length cap (tR T t) (tC T t) (tS T t) (tM T t) M) Q) :
  Run P Zt.T lo F.y5 (y5.Cc x y p v s.sum s.low s.top R 6 cr 6 t 1 (-1) j w h A xs.length cap (tR T t) (tC T t) (tS T t) (tM T t) M) Q:=by
 obtain ⟨⟨r1,r2⟩,⟨c1,c2⟩,m1,m2⟩:=hT.2 t ht
 obtain ⟨a1,a2,a3,a4,a5,a6⟩:=hs
 have wr : -2≤way*tR T t∧way*tR T t≤2:=by rcases hway with rfl | rfl <;> omega
 have wc : -2≤way*tC T t∧way*tC T t≤2:=by rcases hway with rfl | rfl <;> omega
 have sm:h*w≤512*512:=Nat.mul_le_mul hh.2 hw.2
 refine kut (fun k=>y5.Pc k ..) ?_
 refine Evp.dec (fun _=>?_) fun g=>absurd g (by omega)
 refine Evp.pos (by omega) ?_
 simp only [Int.toNat_natCast,Nat.add_zero]
 refine Evp.some hwj ?_
 rw [w64 (x:=way*tC T t) (by omega),w64 (x:=way*tR T t) (by omega),w64 (x:=(x:Int)+way*tC T t) (by omega),w64 (x:=(y:Int)+way*tR T t) (by omega),w64 (x:=(w:Int) - 1) (by omega),w64 (x:=(h:Int) - 1) (by omega)]
 have win:∀ (v a b:Int),Ac P Zt.T lo F.zb2 [.int .i64 v,.int .i64 a,.int .i64 b] M fun r=>r=(.bool (decide (a≤v∧v≤b)),M):=fun v a b=>by
  refine Ac.of (Evp.of_eq (fun k=>zb2.entry k ..) ?_)
  refine Evp.dec (fun h=>Evp.ret (Run.ret ?_)) fun h=>Evp.ret (Run.ret (by rw [decide_eq_false (fun e=>h e.1)]))
  congr 2
  exact decide_eq_decide.2 ⟨fun e=>⟨h,e⟩,fun e=>e.2⟩
 refine Evp.ob (win _ _ _) ?_
 rintro _ rfl
 simp only [RD,RE,Nat.reduceAdd,Nat.reduceLT]
 refine Evp.nb (fun g=>Evp.ret (next s (by unfold z0y;rw [if_neg (fun e=>of_decide_eq_false g e.1)]))) fun g1=>?_
 have g1:=of_decide_eq_true g1
 refine Evp.ob (win _ _ _) ?_
 rintro _ rfl
 simp only [RD,RE,Nat.reduceAdd,Nat.reduceLT]
 refine Evp.nb (fun g=>Evp.ret (next s (by unfold z0y;rw [if_neg (fun e=>of_decide_eq_false g e.2)]))) fun g2=>?_
 have g2:=of_decide_eq_true g2
 have hin:inP w h ((x:Int)+way*tC T t) ((y:Int)+way*tR T t):=⟨g1,g2⟩
 have nx:=next ⟨s.sum+tM T t*z04 (atP w xs ((x:Int)+way*tC T t) ((y:Int)+way*tR T t) - v) (tS T t) p,zq s.low (atP w xs ((x:Int)+way*tC T t) ((y:Int)+way*tR T t)),yv s.top (atP w xs ((x:Int)+way*tC T t) ((y:Int)+way*tR T t))⟩ (by unfold z0y;rw [if_pos hin])
 unfold atP at nx
 generalize (x:Int)+way*tC T t=cx at *
 generalize (y:Int)+way*tR T t=cy at *
 obtain ⟨X,rfl⟩:=Int.eq_ofNat_of_zero_le g1.1
 obtain ⟨Y,rfl⟩:=Int.eq_ofNat_of_zero_le g2.1
 have hlt:Y*w+X < h*w:=by
  have:(Y+1)*w≤h*w:=Nat.mul_le_mul_right w (by omega)
  rw [Nat.add_mul,Nat.one_mul] at this
  omega
 have ei:i64.wrap ((i64.wrap ((Y:Int)*w))+(X:Int))=((Y*w+X:Nat):Int):=by
  rw [← Int.natCast_mul,w64 (x:=((Y*w:Nat):Int)) (by omega),w64 (by omega)];omega
 have en:((Y:Int)*w+X).toNat=Y*w+X:=by rw [← Int.natCast_mul];omega
 rw [en] at nx
 rw [ei]
 refine Evp.pos (by omega) ?_
 simp only [Int.toNat_natCast]
 refine Evp.ldI hx (by omega) fun _ _=>?_
 have bb:=bx.get (Y*w+X)
 rw [w64 (x:=xs.getD (Y*w+X) 0) (by omega),w64 (x:=xs.getD (Y*w+X) 0 - v) (by omega)]
 refine Evp.ob (zp1 M.length _ _ _ M) ?_
 rintro _ rfl
 simp only [RD,RE,Nat.reduceAdd,Nat.reduceLT]
 have l:=zdn (xs.getD (Y*w+X) 0 - v) (tS T t) p
 have ml:=ks (a:=tM T t) (b:=z04 (xs.getD (Y*w+X) 0 - v) (tS T t) p) (A:=4) (B:=1048576) (by omega) (by omega)
 rw [w64 (x:=tM T t*z04 (xs.getD (Y*w+X) 0 - v) (tS T t) p) (by omega),w64 (x:=s.sum+tM T t*z04 (xs.getD (Y*w+X) 0 - v) (tS T t) p) (by omega)]
 exact Evp.ret nx
include hR
theorem zie (v:Int)(hv:0≤v∧v≤255)(Q:Value × Mem→Prop)(fin:Q (.int .u8 (z47 v (z3k w h xs x y v p T 6)),M)):∀ (d t:Nat) (s:S3),6 - t=d→t≤6→s=z3k w h xs x y v p T t →
  Run P Zt.T lo F.y5 (y5.Cb x y p v s.sum s.low s.top R 6 cr 6 t w h A xs.length cap M) Q:=by
 intro d
 induction d with
 | zero=>
  intro t s hd ht hs
  obtain rfl:t=6:=by omega
  have sb:=zcm (w:=w) (h:=h) bx (x:=x) (y:=y) (v:=v) (p:=p) hT hv 6 (by omega)
  rw [← hs] at fin sb
  obtain ⟨a1,a2,a3,a4,a5,a6⟩:=sb
  have ol:=zgz (v:=v) ⟨a1,a2,a3,a4,a5,a6⟩
  have last:∀ z:Int,z=(if s.sum < 0 then s.sum - 1 else s.sum)→Run P Zt.T lo F.y5 (y5.Ca v z s.low s.top M) Q:=fun z hz=>by
   have zb : -60000000≤z∧z≤60000000:=by rw [hz];split <;> omega
   refine kut (fun k=>y5.Pa k ..) ?_
   rw [w64 (x:=8+z) (by omega),ud 4 (by omega),show ((2:Int) ^ 4)=16 from rfl,w64 (by omega)]
   refine Evp.ob (z62 lo _ _ _ M (by omega)) ?_
   rintro _ rfl
   simp only [RD,RE,Nat.reduceAdd,Nat.reduceLT]
   refine Evp.ret (Run.ret ?_)
   have:y8 (v+(8+z) / 16) s.low s.top=z47 v s:=by unfold z47;rw [hz]
   rw [this,wu8 (by omega)]
   exact fin
  refine kut (fun k=>y5.Pb k ..) ?_
  refine Evp.dec (fun g=>absurd g (by omega)) fun _=>?_
  refine Evp.dec (fun g=>?_) fun g=>Evp.ret (last _ (by rw [if_neg g]))
  rw [w64 (by omega)]
  exact Evp.ret (last _ (by rw [if_pos g]))
 | succ d ih=>
  intro t s hd ht hs
  have ht6:t < 6:=by omega
  have tl:=hT.1
  have hm:∀ k,k < 4→∃ a,R=some a∧(M.ld (plus a (t*4+k))).bind (Value.int? .i64)=some (T.getD (t*4+k) 0):=fun k hk=>by
   obtain ⟨a,ea,_,hld⟩:=Rd.get hR (i:=t*4+k) (by omega)
   refine ⟨a,ea,?_⟩
   rw [hld]
   exact zao T (t*4+k) (by omega)
  obtain ⟨a,rfl,h0⟩:=hm 0 (by omega)
  obtain ⟨_,e,h1⟩:=hm 1 (by omega);injection e with e;subst e
  obtain ⟨_,e,h2⟩:=hm 2 (by omega);injection e with e;subst e
  obtain ⟨_,e,h3⟩:=hm 3 (by omega);injection e with e;subst e
  have sb:=zcm (w:=w) (h:=h) bx (x:=x) (y:=y) (v:=v) (p:=p) hT hv t (by omega)
  rw [← hs] at sb
  refine kut (fun k=>y5.Pb k ..) ?_
  refine Evp.dec (fun _=>?_) fun g=>absurd g (by omega)
  refine Evp.pos (by omega) ?_
  simp only [Int.toNat_natCast,z2v]
  refine Evp.some rfl (Evp.some h0 (Evp.some h1 (Evp.some h2 (Evp.some h3 ?_))))
  have turn:∀ (j:Nat) (s':S3),j < 2→Run P Zt.T lo F.y5 (y5.Cc x y p v s'.sum s'.low s'.top (some a) 6 cr 6 t 1 (-1) ((j+1:Nat):Int) w h A xs.length cap (tR T t) (tC T t) (tS T t) (tM T t) M) Q→Run P Zt.T lo F.y5 (y5.Cd x y p v s'.sum s'.low s'.top (some a) 6 cr 6 t 1 (-1) j w h A xs.length cap (tR T t) (tC T t) (tS T t) (tM T t) M) Q:=fun j s' hj hr=>by
   refine kut (fun k=>y5.Pd k ..) ?_
   rw [w64 (by omega)]
   exact Evp.ret hr
  refine Evp.ret (zcn lo w h A (some a) cap cr xs T x y p M hx bx hT hw hh hl hxw hyh v hv t ht6 1 (.inl rfl) 0 (by omega) rfl (2*t) (by omega) s sb Q fun s1 hs1=>turn 0 s1 (by omega) ?_)
  have sb1:S3B v (2*t+1) s1:=by rw [hs1];exact zah bx hT ht6 sb
  refine zcn lo w h A (some a) cap cr xs T x y p M hx bx hT hw hh hl hxw hyh v hv t ht6 (-1) (.inr rfl) 1 (by omega) rfl (2*t+1) (by omega) s1 sb1 Q fun s2 hs2=>turn 1 s2 (by omega) ?_
  refine kut (fun k=>y5.Pc k ..) ?_
  refine Evp.dec (fun g=>absurd g (by decide)) fun _=>?_
  rw [w64 (by omega)]
  refine Evp.ret (ih (t+1) s2 (by omega) (by omega) ?_)
  rw [hs2,hs1,hs]
  rfl
theorem zni:Ac P Zt.T lo F.y5 [.agg ⟨[.int .i64 w,.int .i64 h,.slice A xs.length cap]⟩,.int .i64 x,.int .i64 y,.slice R 6 cr,.int .i64 p] M fun r=>r=(.int .u8 (z3l w h xs x y p T),M):=by
 have sm:h*w≤512*512:=Nat.mul_le_mul hh.2 hw.2
 have hlt:y*w+x < h*w:=by
  have:(y+1)*w≤h*w:=Nat.mul_le_mul_right w (by omega)
  rw [Nat.add_mul,Nat.one_mul] at this
  omega
 have ei:i64.wrap ((i64.wrap ((y:Int)*w))+(x:Int))=((y*w+x:Nat):Int):=by
  rw [← Int.natCast_mul,w64 (x:=((y*w:Nat):Int)) (by omega),w64 (by omega)];omega
 have en:atP w xs x y=xs.getD (y*w+x) 0:=by
  unfold atP
  rw [show ((y:Int)*w+x).toNat=y*w+x by rw [← Int.natCast_mul];omega]
 have bb:=bx.get (y*w+x)
 refine Ac.of (Evp.of_eq (fun k=>y5.entry k ..) ?_)
 rw [ei]
 refine Evp.pos (by omega) ?_
 simp only [Int.toNat_natCast]
 refine Evp.ldI hx (by omega) fun _ _=>?_
 rw [w64 (by omega)]
 refine Evp.ret (zie lo w h A R cap cr xs T x y p M hx hR bx hT hw hh hl hxw hyh (xs.getD (y*w+x) 0) bb _ ?_ 6 0 ⟨0,xs.getD (y*w+x) 0,xs.getD (y*w+x) 0⟩ rfl (by omega) rfl)
 unfold z3l
 rw [en]
end
def je:List Int:=[-1,1,-2,2,0,1,-1,2,0,1,0,2,0,1,1,2,1,1,2,2,1,0,2,1,1,0,2,0,1,0,2,-1]
def vg (pri:Nat)(k:Nat):Int:=if pri % 2=1 then 3 else if k=0 then 4 else 2
def zai (dir pri sec k:Nat):List Int:=
 [je.getD (dir*4+k*2) 0,je.getD (dir*4+k*2+1) 0,pri,vg pri k,
  je.getD ((dir+2) % 8*4+k*2) 0,je.getD ((dir+2) % 8*4+k*2+1) 0,sec,2 - k,
  je.getD ((dir+6) % 8*4+k*2) 0,je.getD ((dir+6) % 8*4+k*2+1) 0,sec,2 - k]
def jc (dir pri sec:Nat):List Int:=zai dir pri sec 0 ++ zai dir pri sec 1
theorem zp4:∀ i,i < 32→-2≤je.getD i 0∧je.getD i 0≤2:=by decide
theorem zet (pri k:Nat):0≤vg pri k∧vg pri k≤4:=by
 unfold vg
 repeat' split
 all_goals omega
theorem zaj {dir pri sec:Nat}(hd:dir < 8):zbo (jc dir pri sec):=by
 have al:=fun (i:Nat) (h:i < 32)=>zp4 i h
 have t0:=zet pri 0
 have t1:=zet pri 1
 refine ⟨rfl,fun t ht=>?_⟩
 have:t=0∨t=1∨t=2∨t=3∨t=4∨t=5:=by omega
 rcases this with rfl | rfl | rfl | rfl | rfl | rfl
 ·exact ⟨al _ (by omega),al _ (by omega),t0⟩
 ·exact ⟨al _ (by omega),al _ (by omega),by show (0:Int)≤2 - ((0:Nat):Int)∧2 - ((0:Nat):Int)≤4;omega⟩
 ·exact ⟨al _ (by omega),al _ (by omega),by show (0:Int)≤2 - ((0:Nat):Int)∧2 - ((0:Nat):Int)≤4;omega⟩
 ·exact ⟨al _ (by omega),al _ (by omega),t1⟩
 ·exact ⟨al _ (by omega),al _ (by omega),by show (0:Int)≤2 - ((1:Nat):Int)∧2 - ((1:Nat):Int)≤4;omega⟩
 ·exact ⟨al _ (by omega),al _ (by omega),by show (0:Int)≤2 - ((1:Nat):Int)∧2 - ((1:Nat):Int)≤4;omega⟩
theorem zp5 (lo:Nat)(M:Mem):Ac P T lo F.zlh [] M fun r=>r=(.agg ⟨je.map (Value.int .i64)⟩,M):=by
 refine Ac.of (Evp.of_eq (fun k=>zlh.entry k ..) ?_)
 exact Evp.ret (Run.ret rfl)
theorem zqn (lo dir pri sec:Nat)(M:Mem)(hlo:lo≤M.length)(hd:dir < 8)(hp:pri≤15)(hs:sec≤4):Ac P T lo F.qr [.int .i64 dir,.int .i64 pri,.int .i64 sec] M fun r=>∃ R cr M',r=(.slice R 6 cr,M')∧Pre M M'∧Rd M' R 6 4 ((jc dir pri sec).map (Value.int .i64)):=by
 have ag:∀ i,i < 32→((je.map (Value.int .i64))[i]?).bind (Value.int? .i64)=some (je.getD i 0):=fun i hi=>z3j hi
 have d2:Int.tmod (i64.wrap ((dir:Int)+2)) 8=(((dir+2) % 8:Nat):Int):=by
  rw [w64 (by omega),show (dir:Int)+2=((dir+2:Nat):Int) by omega];rfl
 have d6:Int.tmod (i64.wrap ((i64.wrap ((dir:Int)+8)) - 2)) 8=(((dir+6) % 8:Nat):Int):=by
  rw [w64 (x:=(dir:Int)+8) (by omega),w64 (by omega),show (dir:Int)+8 - 2=((dir+6:Nat):Int) by omega];rfl
 have half:∀ (t0 t1:Int) (k:Nat) (A:Option Addr) (c:Nat) (cs:List Value) (M1:Mem),t0=vg pri 0→t1=vg pri 1→k < 2→Pre M M1→Grow M M1 4 A (3*k) cs →
   (∀ A' c' M2,Pre M M2→Grow M M2 4 A' (3*(k+1)) (cs ++ (zai dir pri sec k).map (Value.int .i64))→Run P T lo F.qr (qr.Cb dir pri sec A' (3*(k+1)) c' ((k+1:Nat):Int) (-1) 1 (-2) 2 0 1 (-1) 2 0 1 0 2 0 1 1 2 1 1 2 2 1 0 2 1 1 0 2 0 1 0 2 (-1) t0 t1 M2) fun r=>∃ R cr M',r=(.slice R 6 cr,M')∧Pre M M'∧Rd M' R 6 4 ((jc dir pri sec).map (Value.int .i64))) →
   Run P T lo F.qr (qr.Cb dir pri sec A (3*k) c k (-1) 1 (-2) 2 0 1 (-1) 2 0 1 0 2 0 1 1 2 1 1 2 2 1 0 2 1 1 0 2 0 1 0 2 (-1) t0 t1 M1) fun r=>∃ R cr M',r=(.slice R 6 cr,M')∧Pre M M'∧Rd M' R 6 4 ((jc dir pri sec).map (Value.int .i64)):=by
  intro t0 t1 k A c cs M1 e0 e1 hk hpM hg next
  have tk:(([.int .i64 t0,.int .i64 t1]:List Value)[k]?).bind (Value.int? .i64)=some (vg pri k):=by
   have:k=0∨k=1:=by omega
   rcases this with rfl | rfl
   ·rw [e0];rfl
   ·rw [e1];rfl
  refine kut (fun k=>qr.Pb k ..) ?_
  rw [d2,d6]
  refine Evp.dec (fun _=>?_) fun g=>absurd g (by omega)
  refine Evp.pos (by omega) (Evp.pos (by omega) ?_)
  simp only [Int.toNat_natCast,Nat.add_zero,Nat.zero_add]
  refine Evp.some (ag (dir*4+k*2) (by omega)) (Evp.some (ag (dir*4+k*2+1) (by omega)) ?_)
  refine Evp.pos (by omega) (Evp.some tk ?_)
  refine Evp.pos (by omega) (Evp.pos (by omega) ?_)
  refine Evp.some (ag ((dir+2) % 8*4+k*2) (by omega)) (Evp.some (ag ((dir+2) % 8*4+k*2+1) (by omega)) ?_)
  refine Evp.pos (by omega) (Evp.pos (by omega) ?_)
  refine Evp.some (ag ((dir+6) % 8*4+k*2) (by omega)) (Evp.some (ag ((dir+6) % 8*4+k*2+1) (by omega)) ?_)
  rw [w64 (x:=2 - (k:Int)) (by omega),w64 (x:=(k:Int)+1) (by omega)]
  obtain ⟨⟨sa,sn,sc⟩,M3,e3,g3,hsn,p3,_,_⟩:=hg.app (lo:=lo) (bytes:=32) (c:=c) (m:=3) (vs:=(zai dir pri sec k).map (Value.int .i64)) hpM hlo rfl (by omega) (by omega)
  refine Evp.some e3 ?_
  simp only at hsn g3
  subst hsn
  exact Evp.ret (next sa sc M3 p3 g3)
 have all:∀ (t0 t1:Int),t0=vg pri 0→t1=vg pri 1→Run P T lo F.qr (qr.Ca dir pri sec (-1) 1 (-2) 2 0 1 (-1) 2 0 1 0 2 0 1 1 2 1 1 2 2 1 0 2 1 1 0 2 0 1 0 2 (-1) t0 t1 M) fun r=>∃ R cr M',r=(.slice R 6 cr,M')∧Pre M M'∧Rd M' R 6 4 ((jc dir pri sec).map (Value.int .i64)):=fun t0 t1 e0 e1=>by
  refine kut (fun k=>qr.Pa k ..) ?_
  refine Evp.ret (half t0 t1 0 none 0 [] M e0 e1 (by omega) (Pre.refl _) Grow.nil fun A1 c1 M1 p1 g1=>half t0 t1 1 A1 c1 _ M1 e0 e1 (by omega) p1 g1 fun A2 c2 M2 p2 g2=>?_)
  refine kut (fun k=>qr.Pb k ..) ?_
  refine Evp.dec (fun g=>absurd g (by decide)) fun _=>Evp.ret (Run.ret ⟨A2,c2,M2,rfl,p2,?_⟩)
  have:=g2.rd
  unfold jc
  rw [List.map_append]
  exact this
 have tm:Int.tmod (pri:Int) 2=((pri % 2:Nat):Int):=rfl
 refine Ac.of (Evp.of_eq (fun k=>qr.entry k ..) ?_)
 refine Evp.ob (zp5 lo M) ?_
 rintro _ rfl
 simp only [je,List.map_cons,List.map_nil,RD,RE,Nat.reduceAdd,Nat.reduceLT]
 rw [tm]
 refine Evp.eqb (fun g=>Evp.ret (all 3 3 (by unfold vg;rw [if_pos (by omega)]) (by unfold vg;rw [if_pos (by omega)]))) fun g=>Evp.ret (all 4 2 (by unfold vg;rw [if_neg (by omega),if_pos rfl]) (by unfold vg;rw [if_neg (by omega),if_neg (by omega)]))
def vk (w h:Nat)(xs:List Int)(X Y W:Nat)(p:Int)(T:List Int)(n:Nat):List Int:=(List.range n).map fun i=>z3l w h xs ((X+i % W:Nat):Int) ((Y+i / W:Nat):Int) p T
theorem zb0 (w h:Nat)(xs:List Int)(X Y W:Nat)(p:Int)(T:List Int)(n:Nat):vk w h xs X Y W p T (n+1)=vk w h xs X Y W p T n ++ [z3l w h xs ((X+n % W:Nat):Int) ((Y+n / W:Nat):Int) p T]:=by
 unfold vk;rw [List.range_succ,List.map_append];rfl
def z2y (w h n x y rw rh dir pri sec p:Int):Prop:=qa w h n=0∧(1≤rw∧rw≤64)∧(1≤rh∧rh≤64)∧(0≤x∧x≤w - rw)∧(0≤y∧y≤h - rh)∧(0≤dir∧dir≤7)∧(0≤pri∧pri≤15)∧(0≤sec∧sec≤4)∧(0≤p∧p≤6)
instance (w h n x y rw rh dir pri sec p:Int):Decidable (z2y w h n x y rw rh dir pri sec p):=inferInstanceAs (Decidable (_∧_))
theorem qu (lo:Nat)(v a b:Int)(M:Mem):Ac P T lo F.zb2 [.int .i64 v,.int .i64 a,.int .i64 b] M fun r=>r=(.bool (decide (a≤v∧v≤b)),M):=by
 refine Ac.of (Evp.of_eq (fun k=>zb2.entry k ..) ?_)
 refine Evp.dec (fun h=>Evp.ret (Run.ret ?_)) fun h=>Evp.ret (Run.ret (by rw [decide_eq_false (fun e=>h e.1)]))
 congr 2
 exact decide_eq_decide.2 ⟨fun e=>⟨h,e⟩,fun e=>e.2⟩
def zco (M:Mem)(w h:Int)(xs:List Int)(x y rw rh dir pri sec p:Int)(r:Value × Mem):Prop:=
 Pre M r.2∧if z2y w h xs.length x y rw rh dir pri sec p then ∃ A c,r.1=.tuple ⟨[.slice A (rw.toNat*rh.toNat) c,.int .i64 0]⟩∧rw.toNat*rh.toNat≤c∧Grow M r.2 1 A (rw.toNat*rh.toNat) ((vk w.toNat h.toNat xs x.toNat y.toNat rw.toNat p (jc dir.toNat pri.toNat sec.toNat) (rw.toNat*rh.toNat)).map (Value.int .u8))
  else r.1=.tuple ⟨[.slice none 0 0,.int .i64 2]⟩
section
variable (lo:Nat)(A:Option Addr)(c:Nat)(xs:List Int)(w h:Int)(x y rw' rh dir pri sec p:Int)(M:Mem)(hlo:lo≤M.length)(hx:RdI M .u8 A xs)(bx:zh xs)
include hlo hx bx
theorem zp6:Ac P T lo F.qh [.agg ⟨[.int .i64 w,.int .i64 h,.slice A xs.length c]⟩,.agg ⟨[.int .i64 x,.int .i64 y,.int .i64 rw',.int .i64 rh]⟩,.int .i64 dir,.int .i64 pri,.int .i64 sec,.int .i64 p] M (zco M w h xs x y rw' rh dir pri sec p):=by
 have bad:¬ z2y w h xs.length x y rw' rh dir pri sec p→Run P T lo F.qh (.ret (.tuple ⟨[.slice none 0 0,.int .i64 2]⟩) M) (zco M w h xs x y rw' rh dir pri sec p):=fun hno=>Run.ret ⟨Pre.refl _,by rw [if_neg hno]⟩
 refine Ac.of (Evp.of_eq (fun k=>qh.entry k ..) ?_)
 refine Evp.ob (z1x ..) ?_
 rintro _ rfl
 simp only [RD,RE,Nat.reduceAdd,Nat.reduceLT]
 refine Evp.eqb (fun k1=>?_) fun g=>Evp.ret (bad fun e=>g e.1)
 have s1:=zy k1
 refine Evp.ob (qu ..) ?_
 rintro _ rfl
 simp only [RD,RE,Nat.reduceAdd,Nat.reduceLT]
 refine Evp.dec (fun k2=>?_) fun g=>Evp.ret (bad fun e=>g e.2.1)
 refine Evp.ob (qu ..) ?_
 rintro _ rfl
 simp only [RD,RE,Nat.reduceAdd,Nat.reduceLT]
 refine Evp.dec (fun k3=>?_) fun g=>Evp.ret (bad fun e=>g e.2.2.1)
 rw [w64 (x:=w - rw') (by omega),w64 (x:=h - rh) (by omega)]
 refine Evp.ob (qu ..) ?_
 rintro _ rfl
 simp only [RD,RE,Nat.reduceAdd,Nat.reduceLT]
 refine Evp.dec (fun k4=>?_) fun g=>Evp.ret (bad fun e=>g e.2.2.2.1)
 refine Evp.ob (qu ..) ?_
 rintro _ rfl
 simp only [RD,RE,Nat.reduceAdd,Nat.reduceLT]
 refine Evp.nb (fun g=>Evp.ret (bad fun e=>of_decide_eq_false g e.2.2.2.2.1)) fun k5=>?_
 have k5:=of_decide_eq_true k5
 refine Evp.ob (qu ..) ?_
 rintro _ rfl
 simp only [RD,RE,Nat.reduceAdd,Nat.reduceLT]
 refine Evp.nb (fun g=>Evp.ret (bad fun e=>of_decide_eq_false g e.2.2.2.2.2.1)) fun k6=>?_
 have k6:=of_decide_eq_true k6
 refine Evp.ob (qu ..) ?_
 rintro _ rfl
 simp only [RD,RE,Nat.reduceAdd,Nat.reduceLT]
 refine Evp.nb (fun g=>Evp.ret (bad fun e=>of_decide_eq_false g e.2.2.2.2.2.2.1)) fun k7=>?_
 have k7:=of_decide_eq_true k7
 refine Evp.ob (qu ..) ?_
 rintro _ rfl
 simp only [RD,RE,Nat.reduceAdd,Nat.reduceLT]
 refine Evp.nb (fun g=>Evp.ret (bad fun e=>of_decide_eq_false g e.2.2.2.2.2.2.2.1)) fun k8=>?_
 have k8:=of_decide_eq_true k8
 refine Evp.ob (qu ..) ?_
 rintro _ rfl
 simp only [RD,RE,Nat.reduceAdd,Nat.reduceLT]
 refine Evp.nb (fun g=>Evp.ret (bad fun e=>of_decide_eq_false g e.2.2.2.2.2.2.2.2)) fun k9=>?_
 have k9:=of_decide_eq_true k9
 have ok:z2y w h xs.length x y rw' rh dir pri sec p:=⟨k1,k2,k3,k4,k5,k6,k7,k8,k9⟩
 obtain ⟨w,rfl⟩:=Int.eq_ofNat_of_zero_le (a:=w) (by omega)
 obtain ⟨h,rfl⟩:=Int.eq_ofNat_of_zero_le (a:=h) (by omega)
 obtain ⟨X,rfl⟩:=Int.eq_ofNat_of_zero_le k4.1
 obtain ⟨Y,rfl⟩:=Int.eq_ofNat_of_zero_le k5.1
 obtain ⟨W,rfl⟩:=Int.eq_ofNat_of_zero_le (a:=rw') (by omega)
 obtain ⟨H,rfl⟩:=Int.eq_ofNat_of_zero_le (a:=rh) (by omega)
 obtain ⟨dir,rfl⟩:=Int.eq_ofNat_of_zero_le k6.1
 obtain ⟨pri,rfl⟩:=Int.eq_ofNat_of_zero_le k7.1
 obtain ⟨sec,rfl⟩:=Int.eq_ofNat_of_zero_le k8.1
 have n1:xs.length=h*w:=by have:=s1.2.2.2.2;rw [← Int.natCast_mul,Nat.mul_comm] at this;omega
 have sm:W*H≤64*64:=Nat.mul_le_mul (by omega) (by omega)
 refine Evp.ob (zqn lo dir pri sec M hlo (by omega) (by omega) (by omega)) ?_
 rintro _ ⟨R,cr,M1,rfl,p1,hR⟩
 simp only [RD,RE,Nat.reduceAdd,Nat.reduceLT]
 rw [← Int.natCast_mul,w64 (x:=((W*H:Nat):Int)) (by omega)]
 refine Evp.pos ⟨by omega,by show _*1≤_;omega⟩ ?_
 have tb:=zaj (dir:=dir) (pri:=pri) (sec:=sec) (by omega)
 obtain ⟨T',hT'⟩:∃ T',T'=jc dir pri sec:=⟨_,rfl⟩
 rw [← hT'] at hR tb
 have rows:∀ (d j:Nat) (B:Option Addr) (cb:Nat) (M2:Mem),H - j=d→j≤H→Pre M1 M2→j*W≤cb→Grow M1 M2 1 B (j*W) ((vk w h xs X Y W p T' (j*W)).map (Value.int .u8)) →
   Run P T lo F.qh (qh.Ca p R 6 cr B (j*W) cb ((Y+j:Nat):Int) w h A xs.length c X Y W H M2) fun r=>Pre M r.2∧∃ A c,r.1=.tuple ⟨[.slice A (W*H) c,.int .i64 0]⟩∧W*H≤c∧Grow M r.2 1 A (W*H) ((vk w h xs X Y W p T' (W*H)).map (Value.int .u8)):=by
  intro d
  induction d with
  | zero=>
   intro j B cb M2 hd hj hp hc hg
   obtain rfl:H=j:=by omega
   rw [Nat.mul_comm H W] at hg hc ⊢
   refine kut (fun k=>qh.Pa k ..) ?_
   rw [w64 (x:=(Y:Int)+H) (by omega)]
   refine Evp.dec (fun g=>absurd g (by omega)) fun _=>Evp.ret (Run.ret ⟨p1.trans hp,B,cb,rfl,hc,⟨hg.len,?_⟩⟩)
   rcases hg.at_ with g | ⟨b,g1,g2,g3⟩
   ·exact .inl g
   ·exact .inr ⟨b,g1,Nat.le_trans p1.len g2,g3⟩
  | succ d ih=>
   intro j B cb M2 hd hj hp hc hg
   have hjH:j < H:=by omega
   have cols:∀ (e i:Nat) (B:Option Addr) (cb:Nat) (M2:Mem),W - i=e→i≤W→Pre M1 M2→j*W+i≤cb→Grow M1 M2 1 B (j*W+i) ((vk w h xs X Y W p T' (j*W+i)).map (Value.int .u8)) →
     Run P T lo F.qh (qh.Cb p R 6 cr B (j*W+i) cb ((Y+j:Nat):Int) ((X+i:Nat):Int) w h A xs.length c X Y W H M2) fun r=>Pre M r.2∧∃ A c,r.1=.tuple ⟨[.slice A (W*H) c,.int .i64 0]⟩∧W*H≤c∧Grow M r.2 1 A (W*H) ((vk w h xs X Y W p T' (W*H)).map (Value.int .u8)):=by
    intro e
    induction e with
    | zero=>
     intro i B cb M2 he hi hp hc hg
     obtain rfl:W=i:=by omega
     refine kut (fun k=>qh.Pb k ..) ?_
     rw [w64 (x:=(X:Int)+W) (by omega)]
     refine Evp.dec (fun g=>absurd g (by omega)) fun _=>?_
     rw [w64 (by omega),show ((Y+j:Nat):Int)+1=((Y+(j+1):Nat):Int) by omega]
     rw [show j*W+W=(j+1)*W by rw [Nat.add_mul,Nat.one_mul]] at hg hc ⊢
     exact Evp.ret (ih (j+1) B cb M2 (by omega) (by omega) hp hc hg)
    | succ e ih2=>
     intro i B cb M2 he hi hp hc hg
     have hiW:i < W:=by omega
     have q:=p1.trans hp
     have jl:j*W+i < W*H:=by
      have:(j+1)*W≤H*W:=Nat.mul_le_mul_right W (by omega)
      rw [Nat.add_mul,Nat.one_mul,Nat.mul_comm H W] at this
      omega
     have dm:(j*W+i) / W=j∧(j*W+i) % W=i:=by
      rw [Nat.add_comm]
      exact ⟨by rw [Nat.add_mul_div_right i j (by omega),Nat.div_eq_of_lt hiW,Nat.zero_add],by rw [Nat.add_mul_mod_self_right,Nat.mod_eq_of_lt hiW]⟩
     refine kut (fun k=>qh.Pb k ..) ?_
     rw [w64 (x:=(X:Int)+W) (by omega)]
     refine Evp.dec (fun _=>?_) fun g=>absurd g (by omega)
     refine Evp.ob (zni lo w h A R c cr xs T' (X+i) (Y+j) p M2 (hx.pre q) (hR.pre hp) bx tb (by omega) (by omega) n1 (by omega) (by omega)) ?_
     rintro _ rfl
     simp only [RD,RE,Nat.reduceAdd,Nat.reduceLT]
     obtain ⟨⟨sa,sn,sc⟩,M3,e3,g3,hsn,p3,_,k3⟩:=hg.app (lo:=lo) (bytes:=1) (c:=cb) (m:=1) (vs:=[.int .u8 (z3l w h xs ((X+i:Nat):Int) ((Y+j:Nat):Int) p T')]) hp (Nat.le_trans hlo p1.len) rfl (by omega) (by omega)
     refine Evp.some e3 ?_
     simp only at hsn g3 k3
     subst hsn
     rw [w64 (by omega),show ((X+i:Nat):Int)+1=((X+(i+1):Nat):Int) by omega]
     refine Evp.ret (ih2 (i+1) sa sc M3 (by omega) (by omega) p3 (k3 hc) ?_)
     rw [show j*W+(i+1)=j*W+i+1 by omega,zb0,dm.1,dm.2,List.map_append]
     exact g3
   refine kut (fun k=>qh.Pa k ..) ?_
   rw [w64 (x:=(Y:Int)+H) (by omega)]
   refine Evp.dec (fun _=>?_) fun g=>absurd g (by omega)
   exact Evp.ret (cols _ 0 B cb M2 rfl (by omega) hp hc hg)
 have g0:Grow M1 (M1 ++ [⟨.op 1,[]⟩]:Mem) 1 (some ⟨M1.length,0,some 0⟩) 0 []:=⟨rfl,.inr ⟨M1.length,rfl,Nat.le_refl _,by simp⟩⟩
 have R0:=rows H 0 (some ⟨M1.length,0,some 0⟩) 0 (M1 ++ [⟨.op 1,[]⟩]:Mem) rfl (by omega) (Pre.app _ _) (by omega) (by rw [Nat.zero_mul];exact g0)
 rw [Nat.zero_mul,Nat.add_zero] at R0
 refine Evp.ret (R0.mono ?_)
 rintro r ⟨pr,A',c',e,hc,hg⟩
 refine ⟨pr,?_⟩
 rw [if_pos ok]
 simp only [Int.toNat_natCast]
 rw [← hT']
 exact ⟨A',c',e,hc,hg⟩
end
theorem Buf.cell {M0 M:Mem}{a:Addr}{cs:List Value}(h:Buf M0 M a cs){i:Nat}(hi:i < cs.length):M.ld (plus a i)=cs[i]?:=by
 obtain ⟨a',e,_,h2⟩:=Rd.get (h.rd (n:=cs.length) (z:=1) (by omega)) (i:=i) (by omega)
 injection e with e;subst e
 exact h2
theorem z8h (w h:Nat)(xs:List Int)(X Y W:Nat)(p:Int)(T:List Int)(n:Nat):(vk w h xs X Y W p T n).length=n:=by simp [vk]
theorem dm {W r s:Nat}(hs:s < W):(r*W+s) / W=r∧(r*W+s) % W=s:=by
 rw [Nat.mul_comm,Nat.mul_add_div (by omega),Nat.mul_add_mod,Nat.div_eq_of_lt hs,Nat.mod_eq_of_lt hs]
 exact ⟨by omega,rfl⟩
theorem zfh {W h q:Nat}(hq:q < h*W):0 < W∧q / W < h∧q % W < W∧q=(q / W)*W+q % W:=by
 have hW:0 < W:=by
  rcases Nat.eq_zero_or_pos W with e | e
  ·rw [e] at hq;simp at hq
  ·exact e
 refine ⟨hW,Nat.div_lt_of_lt_mul (by rwa [Nat.mul_comm] at hq),Nat.mod_lt _ hW,?_⟩
 have:=Nat.div_add_mod q W
 rw [Nat.mul_comm] at this
 exact this.symm
theorem zcp {W h r s:Nat}(hr:r < h)(hs:s < W):r*W+s < h*W:=by
 have:(r+1)*W≤h*W:=Nat.mul_le_mul_right _ hr
 rw [Nat.succ_mul] at this
 omega
theorem zqo {xs:List Int}{o n i:Nat}(hi:i < n):((xs.drop o).take n).getD i 0=xs.getD (o+i) 0:=by
 simp only [List.getD_eq_getElem?_getD,List.getElem?_take,if_pos hi,List.getElem?_drop]
theorem znj {xs ys:List Int}{i:Nat}(h:i < xs.length):(xs ++ ys).getD i 0=xs.getD i 0:=by
 simp only [List.getD_eq_getElem?_getD,List.getElem?_append_left h]
theorem znk {xs ys:List Int}{i:Nat}(h:xs.length≤i):(xs ++ ys).getD i 0=ys.getD (i - xs.length) 0:=by
 simp only [List.getD_eq_getElem?_getD,List.getElem?_append_right h]
def jr (w h x y rw rh:Int):Prop:=1≤rw∧1≤rh∧0≤x∧0≤y∧x+rw≤w∧y+rh≤h
instance (w h x y rw rh:Int):Decidable (jr w h x y rw rh):=inferInstanceAs (Decidable (_∧_))
section
variable (lo:Nat)(w h:Int)(A:Option Addr)(n c:Nat)(x y rw rh:Int)(M:Mem)
theorem zh0:Ac P T lo F.zhm [.agg ⟨[.int .i64 w,.int .i64 h,.slice A n c]⟩,.agg ⟨[.int .i64 x,.int .i64 y,.int .i64 rw,.int .i64 rh]⟩] M fun r=>r=(.bool (decide (qa w h n=0∧jr w h x y rw rh)),M):=by
 have no:¬ (qa w h n=0∧jr w h x y rw rh)→Run P T lo F.zhm (.ret (.bool false) M) fun r=>r=(.bool (decide (qa w h n=0∧jr w h x y rw rh)),M):=fun hn=>Run.ret (by rw [decide_eq_false hn])
 refine Ac.of (Evp.of_eq (fun k=>zhm.entry k ..) ?_)
 refine Evp.ob (z1x ..) ?_
 rintro _ rfl
 simp only [RD,RE,Nat.reduceAdd,Nat.reduceLT]
 refine Evp.eqb (fun h0=>?_) fun h0=>Evp.ret (no fun e=>h0 e.1)
 have hs:=zy h0
 refine Evp.dec (fun h1=>?_) fun h1=>Evp.ret (no fun e=>by have:=e.2;unfold jr at this;omega)
 refine Evp.dec (fun h2=>?_) fun h2=>Evp.ret (no fun e=>by have:=e.2;unfold jr at this;omega)
 refine Evp.dec (fun h3=>?_) fun h3=>Evp.ret (no fun e=>by have:=e.2;unfold jr at this;omega)
 refine Evp.dec (fun h4=>?_) fun h4=>Evp.ret (no fun e=>by have:=e.2;unfold jr at this;omega)
 refine Evp.dec (fun h5=>?_) fun h5=>Evp.ret (no fun e=>by have:=e.2;unfold jr at this;omega)
 refine Evp.dec (fun h6=>?_) fun h6=>Evp.ret (no fun e=>by have:=e.2;unfold jr at this;omega)
 rw [w64 (x:=w - rw) (by omega),w64 (x:=h - rh) (by omega)]
 refine Evp.dec (fun h7=>?_) fun h7=>Evp.ret (no fun e=>by have:=e.2;unfold jr at this;omega)
 refine Evp.ret (Run.ret ?_)
 congr 2
 exact decide_eq_decide.2 (by unfold jr;omega)
end
section
variable {w h x y rw rh:Nat}{xs:List Int}{A:Option Addr}{c:Nat}
theorem zrv (lo i:Nat)(M:Mem)(hw:w≤512)(hh:h≤512)(hn:xs.length=w*h)(hc:xs.length≤c)(hr1:1≤rw)(hx:x+rw≤w)(hy:y+rh≤h)(hi:i < rh) :
  Ac P T lo F.znz [.agg ⟨[.int .i64 w,.int .i64 h,.slice A xs.length c]⟩,.agg ⟨[.int .i64 x,.int .i64 y,.int .i64 rw,.int .i64 rh]⟩,.int .i64 i] M fun r=>r=(.slice (A.map fun a=>plus a ((y+i)*w+x)) rw rw,M):=by
 refine Ac.of (Evp.of_eq (fun k=>znz.entry k ..) ?_)
 have hin:(y+i)*w+x+rw≤w*h:=by
  have:(y+i+1)*w≤h*w:=Nat.mul_le_mul_right _ (by omega)
  rw [Nat.succ_mul,Nat.mul_comm h w] at this
  omega
 have hmax:w*h≤512*512:=Nat.mul_le_mul hw hh
 have e0:((y:Int)+i)*w=(((y+i)*w:Nat):Int):=by simp
 rw [w64 (x:=(y:Int)+i) (by omega),e0]
 generalize hg:(y+i)*w=g at *
 rw [w64 (x:=(g:Int)) (by omega),w64 (x:=(g:Int)+x) (by omega),w64 (x:=(g:Int)+x+rw) (by omega)]
 refine Evp.pos (by omega) ?_
 rw [show ((g:Int)+x).toNat=g+x by omega,show ((g:Int)+x+rw).toNat=g+x+rw by omega]
 refine Evp.ret (Run.ret ?_)
 unfold z3x
 rw [if_neg (by omega),show g+x+rw - (g+x)=rw by omega]
 rfl
theorem zrw {M:Mem}{i:Nat}(hr:RdI M .u8 A xs)(hin:(y+i)*w+x+rw≤xs.length):RdI M .u8 (A.map fun a=>plus a ((y+i)*w+x)) ((xs.drop ((y+i)*w+x)).take rw):=by
 have:=hr.slAddr (l:=(y+i)*w+x) (h:=(y+i)*w+x+rw) (c:=xs.length+1) (by omega) hin (by omega)
 unfold slAddr at this
 rw [if_neg (by omega),show (y+i)*w+x+rw - ((y+i)*w+x)=rw by omega] at this
 exact this
def v7 (w:Nat)(xs:List Int)(x y rw n:Nat):List Int:=(List.range n).map fun q=>xs.getD ((y+q / rw)*w+(x+q % rw)) 0
theorem z0i (w:Nat)(xs:List Int)(x y rw n:Nat):(v7 w xs x y rw n).length=n:=by simp [v7]
theorem zp7 (hr1:1≤rw)(i:Nat)(hin:(y+i)*w+x+rw≤xs.length):v7 w xs x y rw (i*rw) ++ (xs.drop ((y+i)*w+x)).take rw=v7 w xs x y rw ((i+1)*rw):=by
 apply z2p
 ·rw [List.length_append,z0i,z0i,List.length_take,List.length_drop,Nat.succ_mul];omega
 ·intro q hq
  rw [List.length_append,z0i,List.length_take,List.length_drop] at hq
  have hq2:q < (i+1)*rw:=by rw [Nat.succ_mul];omega
  unfold v7
  rw [uf hq2]
  by_cases h:q < i*rw
  ·rw [znj (by simpa using h),uf h]
  ·obtain ⟨s,hs⟩:∃ s,q=i*rw+s:=⟨q - i*rw,by omega⟩
   subst hs
   obtain ⟨d1,d2⟩:=dm (W:=rw) (r:=i) (s:=s) (by omega)
   rw [znk (by simp),d1,d2]
   simp only [List.length_map,List.length_range]
   rw [show i*rw+s - i*rw=s by omega,zqo (by omega)]
   congr 1;omega
theorem zp8 (lo:Nat)(M0:Mem)(hlo:lo≤M0.length)(hr:RdI M0 .u8 A xs)(hw:w≤512)(hh:h≤512)(hn:xs.length=w*h)(hc:xs.length≤c)(hr1:1≤rw)(hx:x+rw≤w)(hy:y+rh≤h) :
  ∀ (d i:Nat) (M:Mem) (B:Option Addr) (cc:Nat),rh - i=d→i≤rh→Pre M0 M→(i*rw≤cc∨i=0)→Grow M0 M 1 B (i*rw) ((v7 w xs x y rw (i*rw)).map (Value.int .u8)) →
  Run P T lo F.z0f (z0f.Ca B (i*rw) cc rh i w h A xs.length c x y rw rh M) fun r=>∃ B' cc' M',r=(.tuple ⟨[.slice B' (v7 w xs x y rw (rh*rw)).length cc',.int .i64 0]⟩,M')∧Pre M0 M'∧Grow M0 M' 1 B' (v7 w xs x y rw (rh*rw)).length ((v7 w xs x y rw (rh*rw)).map (Value.int .u8))∧(v7 w xs x y rw (rh*rw)).length≤cc':=by
 have hmax:w*h≤512*512:=Nat.mul_le_mul hw hh
 intro d
 induction d with
 | zero=>
  intro i M B cc hd hi hp hcc hg
  obtain rfl:i=rh:=by omega
  refine kut (fun k=>z0f.Pa k ..) ?_
  refine Evp.dec (fun h=>absurd h (by omega)) fun _=>Evp.ret (Run.ret ⟨B,cc,M,?_,hp,?_,?_⟩)
  ·rw [z0i]
  ·rw [z0i];exact hg
  ·rw [z0i]
   rcases hcc with h | h
   ·exact h
   ·rw [h,Nat.zero_mul];exact Nat.zero_le _
 | succ d ih=>
  intro i M B cc hd hi hp hcc hg
  refine kut (fun k=>z0f.Pa k ..) ?_
  refine Evp.dec (fun _=>?_) fun h=>absurd h (by omega)
  refine Evp.ob (zrv lo i M hw hh hn hc hr1 hx hy (by omega)) ?_
  rintro _ rfl
  simp only [RD,RE,Nat.reduceAdd,Nat.reduceLT]
  have hin:(y+i)*w+x+rw≤xs.length:=by
   have:(y+i+1)*w≤h*w:=Nat.mul_le_mul_right _ (by omega)
   rw [Nat.succ_mul,Nat.mul_comm h w] at this
   omega
  have hrow:=(zrw (hr.pre hp) hin).src
  rw [List.length_take,List.length_drop,Nat.min_eq_left (by omega)] at hrow
  refine Evp.some hrow ?_
  have hb1:(i+1)*rw≤rh*w:=Nat.mul_le_mul (by omega) (by omega)
  have hb2:rh*w≤512*512:=Nat.mul_le_mul (by omega) hw
  have hsm:(i+1)*rw=i*rw+rw:=Nat.succ_mul _ _
  obtain ⟨s,M',h1,h2,h3,h4,_,h5⟩:=hg.app (lo:=lo) (bytes:=1) (c:=cc) (m:=rw) (vs:=((xs.drop ((y+i)*w+x)).take rw).map (Value.int .u8)) hp hlo (by simp;omega) (by omega) (by omega)
  rw [← List.map_append,zp7 hr1 i hin,h3,← hsm] at h2
  refine Evp.some h1 ?_
  rw [h3,← hsm,w64 (by omega)]
  exact Evp.ret (ih (i+1) M' s.a s.c (by omega) (by omega) h4 (.inl (by
   rcases hcc with hcc | hcc
   ·rw [hsm,← h3];exact h5 hcc
   ·rw [hsm,← h3];exact h5 (by rw [hcc,Nat.zero_mul];exact Nat.zero_le _))) h2)
end
def zp9 (M:Mem)(w h:Int)(xs:List Int)(x y rw rh:Int)(r:Value × Mem):Prop:=
 Pre M r.2∧if qa w h xs.length=0∧jr w h x y rw rh then ∃ B cc,r.1=.tuple ⟨[.slice B (v7 w.toNat xs x.toNat y.toNat rw.toNat (rh.toNat*rw.toNat)).length cc,.int .i64 0]⟩∧Grow M r.2 1 B (v7 w.toNat xs x.toNat y.toNat rw.toNat (rh.toNat*rw.toNat)).length ((v7 w.toNat xs x.toNat y.toNat rw.toNat (rh.toNat*rw.toNat)).map (Value.int .u8))∧(v7 w.toNat xs x.toNat y.toNat rw.toNat (rh.toNat*rw.toNat)).length≤cc
  else r.1=.tuple ⟨[.slice none 0 0,.int .i64 2]⟩
theorem zqp (lo:Nat)(w h:Int)(A:Option Addr)(c:Nat)(xs:List Int)(x y rw rh:Int)(M:Mem)(hr:RdI M .u8 A xs)(hc:xs.length≤c)(hlo:lo≤M.length) :
  Ac P T lo F.z0f [.agg ⟨[.int .i64 w,.int .i64 h,.slice A xs.length c]⟩,.agg ⟨[.int .i64 x,.int .i64 y,.int .i64 rw,.int .i64 rh]⟩] M (zp9 M w h xs x y rw rh):=by
 refine Ac.of (Evp.of_eq (fun k=>z0f.entry k ..) ?_)
 refine Evp.ob (zh0 ..) ?_
 rintro _ rfl
 simp only [RD,RE,Nat.reduceAdd,Nat.reduceLT]
 refine Evp.nb (fun h1=>?_) fun h1=>?_
 ·have:=of_decide_eq_false h1
  exact Evp.ret (Run.ret ⟨Pre.refl _,by rw [if_neg this]⟩)
 ·obtain ⟨hk,hwi⟩:=of_decide_eq_true h1
  have hs:=zy hk
  obtain ⟨h1,h2,h3,h4,h5,h6⟩:=hwi
  have hwi:jr w h x y rw rh:=⟨h1,h2,h3,h4,h5,h6⟩
  obtain ⟨w,rfl⟩:=Int.eq_ofNat_of_zero_le (a:=w) (by omega)
  obtain ⟨h,rfl⟩:=Int.eq_ofNat_of_zero_le (a:=h) (by omega)
  obtain ⟨x,rfl⟩:=Int.eq_ofNat_of_zero_le h3
  obtain ⟨y,rfl⟩:=Int.eq_ofNat_of_zero_le h4
  obtain ⟨rw',rfl⟩:=Int.eq_ofNat_of_zero_le (a:=rw) (by omega)
  obtain ⟨rh,rfl⟩:=Int.eq_ofNat_of_zero_le (a:=rh) (by omega)
  have hm:rw'*rh≤512*512:=Nat.mul_le_mul (by omega) (by omega)
  have e:(rw':Int)*(rh:Int)=((rw'*rh:Nat):Int):=by simp
  have hnn:xs.length=w*h:=by have:=hs.2.2.2.2;rw [← Int.natCast_mul] at this;omega
  rw [e,w64 (by omega)]
  refine Evp.pos ⟨by omega,by show ((rw'*rh:Nat):Int).toNat*1≤140737488355328;omega⟩ ?_
  have fin:=zp8 (w:=w) (h:=h) (x:=x) (y:=y) (rw:=rw') (rh:=rh) (xs:=xs) (A:=A) (c:=c) lo M hlo hr (by omega) (by omega) hnn hc (by omega) (by omega) (by omega) rh 0 (M ++ [⟨.op 1,[]⟩]) (some ⟨M.length,0,some 0⟩) 0 rfl (by omega) (Pre.app _ _) (.inr rfl) (by
   rw [Nat.zero_mul];exact ⟨by simp [v7],.inr ⟨M.length,rfl,Nat.le_refl _,by simp [v7]⟩⟩)
  rw [Nat.zero_mul] at fin
  refine Evp.ret (fin.mono ?_)
  rintro _ ⟨B,cc,M',rfl,p,g,gc⟩
  refine ⟨p,?_⟩
  rw [if_pos ⟨hk,hwi⟩]
  exact ⟨B,cc,rfl,g,gc⟩
section
variable {w h x y rw rh:Nat}{xs bs:List Int}
def z05 (w:Nat)(xs bs:List Int)(x y rw rh i:Nat):List Int:=(List.range xs.length).map fun q=>if (y≤q / w∧q / w < y+rh∧x≤q % w∧q % w < x+rw)∧(q / w - y)*rw+(q % w - x) < i then bs.getD ((q / w - y)*rw+(q % w - x)) 0 else xs.getD q 0
theorem z1w (w:Nat)(xs bs:List Int)(x y rw rh i:Nat):(z05 w xs bs x y rw rh i).length=xs.length:=by simp [z05]
theorem zeu (w:Nat)(xs bs:List Int)(x y rw rh:Nat):z05 w xs bs x y rw rh 0=xs:=by
 apply z2p (z1w ..)
 intro q hq
 rw [z1w] at hq
 unfold z05
 rw [uf hq,if_neg (fun e=>absurd e.2 (Nat.not_lt_zero _))]
theorem zh1 (hn:xs.length=w*h)(hr1:1≤rw)(hx:x+rw≤w)(hy:y+rh≤h)(i:Nat)(hi:i < rh*rw) :
  (z05 w xs bs x y rw rh i).set ((y+i / rw)*w+(x+i % rw)) (bs.getD i 0)=z05 w xs bs x y rw rh (i+1):=by
 obtain ⟨i0,i1,i2,i3⟩:=zfh hi
 have hin:(y+i / rw)*w+(x+i % rw) < xs.length:=by
  rw [hn,Nat.mul_comm w h]
  exact zcp (by generalize i / rw=u at *;omega) (by generalize i % rw=u at *;omega)
 obtain ⟨d1,d2⟩:=dm (W:=w) (r:=y+i / rw) (s:=x+i % rw) (by generalize i % rw=u at *;omega)
 apply z2p (by rw [List.length_set,z1w,z1w])
 intro q hq
 rw [List.length_set,z1w] at hq
 rw [z0k (by rw [z1w];exact hin)]
 have hq2:q < h*w:=by rw [Nat.mul_comm];omega
 obtain ⟨q0,q1,q2,q3⟩:=zfh hq2
 unfold z05
 rw [uf hq,uf hq]
 by_cases e:q=(y+i / rw)*w+(x+i % rw)
 ·subst e
  rw [if_pos rfl,d1,d2,Nat.add_sub_cancel_left,Nat.add_sub_cancel_left,← i3,if_pos ⟨by generalize i / rw=u at *;generalize i % rw=v at *;omega,by omega⟩]
 ·rw [if_neg e]
  have hne:(y≤q / w∧q / w < y+rh∧x≤q % w∧q % w < x+rw)→(q / w - y)*rw+(q % w - x)≠i:=fun h1 h2=>e (by
   have h3:q % w - x < rw:=by generalize q % w=u at *;omega
   obtain ⟨g1,g2⟩:=dm (W:=rw) (r:=q / w - y) (s:=q % w - x) h3
   rw [h2] at g1 g2
   rw [g1,g2]
   rw [Nat.add_sub_cancel' h1.1,Nat.add_sub_cancel' h1.2.2.1]
   exact q3)
  by_cases h1:y≤q / w∧q / w < y+rh∧x≤q % w∧q % w < x+rw
  ·have:=hne h1
   generalize (q / w - y)*rw+(q % w - x)=t at *
   by_cases h2:t < i
   ·rw [if_pos ⟨h1,h2⟩,if_pos ⟨h1,by omega⟩]
   ·rw [if_neg (fun e=>h2 e.2),if_neg (fun e=>by have:=e.2;omega)]
  ·rw [if_neg (fun e=>h1 e.1),if_neg (fun e=>h1 e.1)]
end
def jq (n:Int):Prop:=n % 2=0∧16≤n∧n≤256
instance (n:Int):Decidable (jq n):=inferInstanceAs (Decidable (_∧_))
theorem z8i (lo:Nat)(w h:Int)(M:Mem):Ac P T lo F.zis [.int .i64 w,.int .i64 h] M fun r=>r=(.bool (decide (jq w∧jq h)),M):=by
 have a1:∀ z:Int,z0g .i64 z 1=z % 2:=fun z=>zph (x:=z) 1 (by omega)
 have hmin:zq w h≤w∧zq w h≤h∧(zq w h=w∨zq w h=h):=by unfold zq;split <;> omega
 have hmax:w≤yv w h∧h≤yv w h∧(yv w h=w∨yv w h=h):=by unfold yv;split <;> omega
 refine Ac.of (Evp.of_eq (fun k=>zis.entry k ..) ?_)
 rw [a1,a1]
 refine Evp.eqb (fun h1=>?_) fun h1=>Evp.ret (Run.ret (by rw [decide_eq_false (fun e=>h1 e.1.1)]))
 refine Evp.eqb (fun h2=>?_) fun h2=>Evp.ret (Run.ret (by rw [decide_eq_false (fun e=>h2 e.2.1)]))
 refine Evp.dec (fun h3=>?_) fun h3=>Evp.ret (Run.ret (by rw [decide_eq_false (fun e=>by unfold jq at e;omega)]))
 refine Evp.ret (Run.ret ?_)
 congr 2
 exact decide_eq_decide.2 (by unfold jq;omega)
def z3m (w0 h0 n0 w1 h1 n1 w2 h2 n2:Int):Prop:=qa w0 h0 n0=0∧jq w0∧jq h0∧qa w1 h1 n1=0∧w1=w0 / 2∧h1=h0 / 2∧qa w2 h2 n2=0∧w2=w0 / 2∧h2=h0 / 2
instance (w0 h0 n0 w1 h1 n1 w2 h2 n2:Int):Decidable (z3m w0 h0 n0 w1 h1 n1 w2 h2 n2):=inferInstanceAs (Decidable (_∧_))
def kj (w0 h0 n0 w1 h1 n1 w2 h2 n2:Int):Int:=if z3m w0 h0 n0 w1 h1 n1 w2 h2 n2 then 0 else 2
section
variable (lo:Nat)(w0 h0 w1 h1 w2 h2:Int)(A0 A1 A2:Option Addr)(n0 c0 n1 c1 n2 c2:Nat)(M:Mem)
theorem zh2:Ac P T lo F.v9 [.agg ⟨[.int .i64 w0,.int .i64 h0,.slice A0 n0 c0,.int .i64 w1,.int .i64 h1,.slice A1 n1 c1,.int .i64 w2,.int .i64 h2,.slice A2 n2 c2]⟩] M fun r=>r=(.int .i64 (kj w0 h0 n0 w1 h1 n1 w2 h2 n2),M):=by
 have bad:¬ z3m w0 h0 n0 w1 h1 n1 w2 h2 n2→Run P T lo F.v9 (.ret (.int .i64 2) M) fun r=>r=(.int .i64 (kj w0 h0 n0 w1 h1 n1 w2 h2 n2),M):=fun h=>Run.ret (by unfold kj;rw [if_neg h])
 have s0:∀ z:Int,yz .i64 z (zq 0 1).toNat=z:=fun z=>by rw [show (zq 0 1).toNat=0 from rfl,ud 0 (by omega)];simp
 have s1:∀ z:Int,yz .i64 z (zq 1 1).toNat=z / 2:=fun z=>by rw [show (zq 1 1).toNat=1 from rfl,ud 1 (by omega)];rfl
 have s2:∀ z:Int,yz .i64 z (zq 2 1).toNat=z / 2:=fun z=>by rw [show (zq 2 1).toNat=1 from rfl,ud 1 (by omega)];rfl
 refine Ac.of (Evp.of_eq (fun k=>v9.entry k ..) ?_)
 refine Evp.ret ?_
 refine kut (fun k=>v9.Pa k ..) ?_
 refine Evp.tt rfl (Evp.pos (by decide) (Evp.some rfl (Evp.some rfl (Evp.some rfl ?_))))
 refine Evp.ob (z1x ..) ?_
 rintro _ rfl
 simp only [RD,RE,Nat.reduceAdd,Nat.reduceLT]
 refine Evp.neb (fun h=>Evp.ret (bad fun e=>h e.1)) fun k0=>?_
 refine Evp.ob (z8i ..) ?_
 rintro _ rfl
 simp only [RD,RE,Nat.reduceAdd,Nat.reduceLT]
 refine Evp.nb (fun h=>Evp.ret (bad fun e=>of_decide_eq_false h ⟨e.2.1,e.2.2.1⟩)) fun hs=>?_
 have hs:=of_decide_eq_true hs
 refine Evp.neg (by decide) ?_
 rw [s0,s0]
 refine Evp.neb (fun h=>absurd rfl h) fun _=>?_
 refine Evp.neg (by decide) ?_
 refine Evp.neb (fun h=>absurd rfl h) fun _=>?_
 rw [show i64.wrap (0+1)=1 from by decide]
 refine Evp.ret ?_
 refine kut (fun k=>v9.Pa k ..) ?_
 refine Evp.tt rfl (Evp.pos (by decide) (Evp.some rfl (Evp.some rfl (Evp.some rfl ?_))))
 refine Evp.ob (z1x ..) ?_
 rintro _ rfl
 simp only [RD,RE,Nat.reduceAdd,Nat.reduceLT]
 refine Evp.neb (fun h=>Evp.ret (bad fun e=>h e.2.2.2.1)) fun k1=>?_
 refine Evp.ob (z8i ..) ?_
 rintro _ rfl
 simp only [RD,RE,Nat.reduceAdd,Nat.reduceLT]
 refine Evp.ff (by rw [decide_eq_true hs];rfl) ?_
 refine Evp.neg (by decide) ?_
 rw [s1,s1]
 refine Evp.neb (fun h=>Evp.ret (bad fun e=>h e.2.2.2.2.1)) fun e1=>?_
 refine Evp.neg (by decide) ?_
 refine Evp.neb (fun h=>Evp.ret (bad fun e=>h e.2.2.2.2.2.1)) fun e2=>?_
 rw [show i64.wrap (1+1)=2 from by decide]
 refine Evp.ret ?_
 refine kut (fun k=>v9.Pa k ..) ?_
 refine Evp.tt rfl (Evp.pos (by decide) (Evp.some rfl (Evp.some rfl (Evp.some rfl ?_))))
 refine Evp.ob (z1x ..) ?_
 rintro _ rfl
 simp only [RD,RE,Nat.reduceAdd,Nat.reduceLT]
 refine Evp.neb (fun h=>Evp.ret (bad fun e=>h e.2.2.2.2.2.2.1)) fun k2=>?_
 refine Evp.ob (z8i ..) ?_
 rintro _ rfl
 simp only [RD,RE,Nat.reduceAdd,Nat.reduceLT]
 refine Evp.ff (by rw [decide_eq_true hs];rfl) ?_
 refine Evp.neg (by decide) ?_
 rw [s2,s2]
 refine Evp.neb (fun h=>Evp.ret (bad fun e=>h e.2.2.2.2.2.2.2.1)) fun e3=>?_
 refine Evp.neg (by decide) ?_
 refine Evp.neb (fun h=>Evp.ret (bad fun e=>h e.2.2.2.2.2.2.2.2)) fun e4=>?_
 rw [show i64.wrap (2+1)=3 from by decide]
 refine Evp.ret ?_
 refine kut (fun k=>v9.Pa k ..) ?_
 refine Evp.ff rfl (Evp.ret (Run.ret ?_))
 unfold kj
 rw [if_pos ⟨k0,hs.1,hs.2,k1,e1,e2,k2,e3,e4⟩]
end
def zh3 (d:Nat):Nat→Int
 | 0=>0
 | k+1=>zh3 d k+zl d k 64
theorem zpa:∀ d,d < 8→zh3 d 16=64:=by decide +kernel
theorem zh4 {b:List Int}(bb:zh b)(d k:Nat):∀ i:Nat,-(128*zl d k i)≤u7 b d k i∧u7 b d k i≤128*zl d k i
 | 0=>by simp [u7,zl]
 | i+1=>by
  have ih:=zh4 bb d k i
  have:=bb.get i
  simp only [u7,zl]
  split <;> omega
theorem znl {s m:Int}(h0:0 < m)(h : -(128*m)≤s∧s≤128*m):s*s*(840 / m)≤13762560*m:=by
 have e1:=ks (a:=s) (b:=s) h h
 have q0:0≤840 / m:=Int.ediv_nonneg (by omega) (by omega)
 have q1:m*(840 / m)≤840:=Int.mul_ediv_self_le (by omega)
 have e2:s*s*(840 / m)≤128*m*(128*m)*(840 / m):=Int.mul_le_mul_of_nonneg_right e1.2 q0
 have e3:128*m*(128*m)*(840 / m)=16384*m*(m*(840 / m)):=by
  rw [show 128*m*(128*m)=16384*m*m by rw [Int.mul_assoc,Int.mul_left_comm m 128 m,← Int.mul_assoc 128 128,Int.mul_assoc 16384];rfl,Int.mul_assoc (16384*m)]
 have e4:16384*m*(m*(840 / m))≤16384*m*840:=Int.mul_le_mul_of_nonneg_left q1 (by omega)
 omega
theorem zbp {b:List Int}(bb:zh b)(d:Nat):∀ k:Nat,0≤u9 b d k∧u9 b d k≤13762560*zh3 d k
 | 0=>by simp [u9,zh3]
 | k+1=>by
  have ih:=zbp bb d k
  have t:=(zag bb d k).1
  have m0:=(z2o d k 64).1
  simp only [u9,zh3]
  by_cases h:zl d k 64=0
  ·rw [if_pos h];omega
  ·rw [if_neg h] at t ⊢
   have:=znl (m:=zl d k 64) (by omega) (zh4 bb d k 64)
   omega
theorem zh5 (b:List Int):∀ n d,d < n→u9 b d 16≤u9 b (yu b n) 16
 | 0,d,h=>absurd h (Nat.not_lt_zero _)
 | n+1,d,h=>by
  have ih:=zh5 b n d
  simp only [yu]
  by_cases e:d=n
  ·subst e;split <;> omega
  ·have:=ih (by omega)
   split <;> omega
theorem zjh {b:List Int}(bb:zh b):0≤z1l b∧z1l b≤860160:=by
 have hb:=z0h b 8
 have h1:=zbp bb (yu b 8) 16
 have h2:=zbp bb ((yu b 8+4) % 8) 16
 rw [zpa _ (by omega)] at h1 h2
 have h3:=zh5 b 8 ((yu b 8+4) % 8) (by omega)
 unfold z1l
 omega
def ua (n:Int):Int:=if n=3 then 4 else n
def ka (n t:Int):Int:=if t=0 then 0 else if t / 64=0 then (4*n+8) / 16 else (n*(4+zq (Nat.log2 (t / 64).toNat:Nat) 12)+8) / 16
theorem zev {n t:Int}(hn:0≤n∧n≤15):0≤n*(4+zq (Nat.log2 (t / 64).toNat:Nat) 12)∧n*(4+zq (Nat.log2 (t / 64).toNat:Nat) 12)≤240:=by
 have hm:0≤zq (Nat.log2 (t / 64).toNat:Nat) 12∧zq (Nat.log2 (t / 64).toNat:Nat) 12≤12:=by unfold zq;split <;> omega
 generalize zq (Nat.log2 (t / 64).toNat:Nat) 12=m at *
 have a:=Int.mul_nonneg hn.1 (show (0:Int)≤4+m by omega)
 have b:=(ks (a:=n) (b:=4+m) (A:=15) (B:=16) (by omega) (by omega)).2
 omega
theorem zh6 {n t:Int}(hn:0≤n∧n≤15):0≤ka n t∧ka n t≤15:=by
 have:=zev (t:=t) hn
 unfold ka
 repeat' split
 all_goals omega
theorem znm (lo:Nat)(n:Int)(M:Mem):Ac P T lo F.ziq [.int .i64 n] M fun r=>r=(.int .i64 (ua n),M):=by
 refine Ac.of (Evp.of_eq (fun k=>ziq.entry k ..) ?_)
 exact Evp.eqb (fun h=>Evp.ret (Run.ret (by unfold ua;rw [if_pos h]))) fun h=>Evp.ret (Run.ret (by unfold ua;rw [if_neg h]))
theorem zl4 (lo:Nat)(n t:Int)(M:Mem)(hn:0≤n∧n≤15)(ht:0≤t∧t≤860160):Ac P T lo F.zhk [.int .i64 n,.int .i64 t] M fun r=>r=(.int .i64 (ka n t),M):=by
 have pm:=zev (t:=t) hn
 refine Ac.of (Evp.of_eq (fun k=>zhk.entry k ..) ?_)
 rw [ud 6 (by omega),show ((2:Int) ^ 6)=64 from rfl]
 refine Evp.eqb (fun h=>Evp.ret (Run.ret (by unfold ka;rw [if_pos h]))) fun h=>?_
 refine Evp.eqb (fun h2=>?_) fun h2=>?_
 ·rw [w64 (x:=4*n) (by omega),w64 (x:=4*n+8) (by omega),ud 4 (by omega)]
  exact Evp.ret (Run.ret (by unfold ka;rw [if_neg h,if_pos h2];rfl))
 ·obtain ⟨x,hx⟩:=Int.eq_ofNat_of_zero_le (a:=t / 64) (by omega)
  have hp:ka n t=(n*(4+zq (Nat.log2 x:Nat) 12)+8) / 16:=by unfold ka;rw [if_neg h,if_neg h2,hx];rfl
  rw [hp]
  rw [hx] at h2 pm ⊢
  simp only [Int.toNat_natCast] at pm
  rw [zdp (by omega)]
  refine Evp.ob (znf lo x M (by omega)) ?_
  rintro _ rfl
  simp only [RD,RE,Nat.reduceAdd,Nat.reduceLT]
  have l20:=zae (x:=x) (by omega)
  have e1:i64.wrap (((kh x:Nat):Int) - 1)=(Nat.log2 x:Nat):=by
   unfold kh
   rw [if_neg (by omega),w64 (by omega)];omega
  have hm:0≤zq (Nat.log2 x:Nat) 12∧zq (Nat.log2 x:Nat) 12≤12:=by unfold zq;split <;> omega
  rw [e1,w64 (x:=4+zq (Nat.log2 x:Nat) 12) (by omega),w64 (x:=n*(4+zq (Nat.log2 x:Nat) 12)) (by omega),w64 (by omega),ud 4 (by omega)]
  exact Evp.ret (Run.ret rfl)
structure Plv where
 w:Int
 h:Int
 A:Option Addr
 c:Nat
 xs:List Int
structure Fr3 where
 p0:Plv
 p1:Plv
 p2:Plv
structure Hd where
 h0:Bool
 h1:Int
 h2:Bool
 h3:Bool
 h4:Int
 h5:Int
 h6:Int
 h7:Int
 h8:Int
 h9:Int
 h10:Int
 h11:Int
 h12:Int
 h13:Int
 h14:Int
 h15:Int
 h16:Int
 h17:Bool
 h18:Int
 h19:Int
 h20:Int
 h21:Int
 h22:Int
 cdef:Bool
 damp:Int
 h25:Int
 A:Option Addr
 n:Nat
 c:Nat
 h27:Bool
 h28:Bool
 h29:Bool
abbrev Fr3.cells (f:Fr3):List Value:=[.int .i64 f.p0.w,.int .i64 f.p0.h,.slice f.p0.A f.p0.xs.length f.p0.c,.int .i64 f.p1.w,.int .i64 f.p1.h,.slice f.p1.A f.p1.xs.length f.p1.c,.int .i64 f.p2.w,.int .i64 f.p2.h,.slice f.p2.A f.p2.xs.length f.p2.c]
abbrev Hd.cells (hd:Hd):List Value:=[.bool hd.h0,.int .i64 hd.h1,.bool hd.h2,.bool hd.h3,.int .i64 hd.h4,.int .i64 hd.h5,.int .i64 hd.h6,.int .i64 hd.h7,.int .i64 hd.h8,.int .i64 hd.h9,.int .i64 hd.h10,.int .i64 hd.h11,.int .i64 hd.h12,.int .i64 hd.h13,.int .i64 hd.h14,.int .i64 hd.h15,.int .i64 hd.h16,.bool hd.h17,.int .i64 hd.h18,.int .i64 hd.h19,.int .i64 hd.h20,.int .i64 hd.h21,.int .i64 hd.h22,.bool hd.cdef,.int .i64 hd.damp,.int .i64 hd.h25,.slice hd.A hd.n hd.c,.bool hd.h27,.bool hd.h28,.bool hd.h29]
def z8j (L:List Int)(i:Nat):Prop:=(0≤L.getD (i*4) 0∧L.getD (i*4) 0≤15)∧(0≤L.getD (i*4+2) 0∧L.getD (i*4+2) 0≤15)∧(0≤L.getD (i*4+1) 0∧L.getD (i*4+1) 0≤3)∧(0≤L.getD (i*4+3) 0∧L.getD (i*4+3) 0≤3)
def uj (f:Fr3):Prop:=z3m f.p0.w f.p0.h f.p0.xs.length f.p1.w f.p1.h f.p1.xs.length f.p2.w f.p2.h f.p2.xs.length
def zpr (hd:Hd)(ws L:List Int):Prop:=(3≤hd.damp∧hd.damp≤6)∧(1≤hd.n∧hd.n≤8)∧(∀ i,i < hd.n→z8j L i)∧∀ i,i < ws.length→0≤ws.getD i 0∧ws.getD i 0≤(hd.n:Int) - 1
def uh (f:Fr3)(qn:Nat)(ws:List Int)(hd:Hd)(L:List Int):Prop:=
 uj f∧f.p0.w % 8=0∧f.p0.h % 8=0∧(qn:Int)=f.p0.w / 8*(f.p0.h / 8)∧(ws.length:Int)=(f.p0.w+63) / 64*((f.p0.h+63) / 64)∧(hd.cdef=true→zpr hd ws L)
theorem ldS {M:Mem}{A:Option Addr}{n:Nat}{L:List Int}(h:Rd M A n 4 (L.map (Value.int .i64))){i:Nat}(hi:i < n):∃ a,A=some a∧(M.ld (plus a (i*4))).bind (Value.int? .i64)=some (L.getD (i*4) 0) ∧
  (M.ld (plus (plus a (i*4)) 1)).bind (Value.int? .i64)=some (L.getD (i*4+1) 0)∧(M.ld (plus (plus a (i*4)) 2)).bind (Value.int? .i64)=some (L.getD (i*4+2) 0)∧(M.ld (plus (plus a (i*4)) 3)).bind (Value.int? .i64)=some (L.getD (i*4+3) 0):=by
 have hl:L.length=n*4:=by have:=h.1;simpa using this
 have hm:∀ k,k < 4→∃ a,A=some a∧(M.ld (plus a (i*4+k))).bind (Value.int? .i64)=some (L.getD (i*4+k) 0):=fun k hk=>by
  obtain ⟨a,ea,_,hld⟩:=Rd.get h (i:=i*4+k) (by omega)
  refine ⟨a,ea,?_⟩
  rw [hld]
  exact zao L (i*4+k) (by omega)
 obtain ⟨a,rfl,h0⟩:=hm 0 (by omega)
 obtain ⟨_,e,h1⟩:=hm 1 (by omega);injection e with e;subst e
 obtain ⟨_,e,h2⟩:=hm 2 (by omega);injection e with e;subst e
 obtain ⟨_,e,h3⟩:=hm 3 (by omega);injection e with e;subst e
 refine ⟨a,rfl,h0,?_,?_,?_⟩
 ·rw [z2v];exact h1
 ·rw [z2v];exact h2
 ·rw [z2v];exact h3
theorem zcq (lo:Nat)(n:Int)(M:Mem)(hn:0≤n∧n≤1024):Ac P T lo F.zlg [.int .i64 n] M fun r=>r=(.int .i64 ((n+63) / 64),M):=by
 obtain ⟨x,rfl⟩:=Int.eq_ofNat_of_zero_le hn.1
 refine Ac.of (Evp.of_eq (fun k=>zlg.entry k ..) ?_)
 rw [w64 (x:=(x:Int)+64) (by omega),w64 (x:=(x:Int)+64 - 1) (by omega),show (x:Int)+64 - 1=((x+63:Nat):Int) by omega,show Int.tdiv ((x+63:Nat):Int) 64=(((x+63) / 64:Nat):Int) from rfl,w64 (by omega)]
 refine Evp.ret (Run.ret ?_)
 congr 2
section
variable (lo:Nat)(f:Fr3)(Q V:Option Addr)(qn qc vc:Nat)(ws:List Int)(hd:Hd)(L:List Int)(M:Mem)
variable (hV:RdI M .i64 V ws)(hn:ws.length≤17592186043904)(hL:Rd M hd.A hd.n 4 (L.map (Value.int .i64)))
include hV hn hL
omit hL in
theorem zqq (B:Addr)(hB:M.ld (plus B 26)=some (.slice hd.A hd.n hd.c)):∀ (d i:Nat),ws.length - i=d→i≤ws.length→(∀ j,j < i→0≤ws.getD j 0∧ws.getD j 0≤(hd.n:Int) - 1)→hd.n≤8 →
  Run P T lo F.j9 (j9.Ca V ws.length vc (.func (.func F.zle) ⟨[]⟩ ⟨[.pointer (some B)]⟩) ws.length i M) fun r=>∃ z:Int,r=(.int .i64 z,M)∧(¬ z ≥ 0 ↔ ∀ i,i < ws.length→0≤ws.getD i 0∧ws.getD i 0≤(hd.n:Int) - 1):=by
 intro d
 induction d with
 | zero=>
  intro i hd' hi hj h8
  refine kut (fun k=>j9.Pa k ..) ?_
  exact Evp.dec (fun g=>absurd g (by omega)) fun _=>Evp.ret (Run.ret ⟨-1,rfl,fun _ j h=>hj j (by omega),fun _=>by omega⟩)
 | succ d ih=>
  intro i hd' hi hj h8
  refine kut (fun k=>j9.Pa k ..) ?_
  refine Evp.dec (fun _=>?_) fun g=>absurd g (by omega)
  refine Evp.pos (by omega) ?_
  simp only [Int.toNat_natCast]
  refine Evp.ldI hV (by omega) fun _ _=>Evp.some rfl ?_
  have one:Ac P T lo F.zle [.int .i64 (ws.getD i 0),.pointer (some B)] M fun r=>r=(.bool (!decide (0≤ws.getD i 0∧ws.getD i 0≤(hd.n:Int) - 1)),M):=by
   refine Ac.of (Evp.of_eq (fun k=>zle.entry k ..) ?_)
   rw [hB]
   refine Evp.some rfl ?_
   rw [w64 (by show _∧_;dsimp only;omega)]
   refine Evp.ob (qu ..) ?_
   rintro _ rfl
   simp only [RD,RE,Nat.reduceAdd,Nat.reduceLT]
   exact Evp.ret (Run.ret rfl)
  refine Evp.ob one ?_
  rintro _ rfl
  simp only [RD,RE,Nat.reduceAdd,Nat.reduceLT]
  refine Evp.nb (fun g=>?_) fun g=>?_
  ·have g:=of_decide_eq_false g
   exact Evp.ret (Run.ret ⟨i,rfl,fun e=>absurd (Int.natCast_nonneg i) e,fun e=>absurd (e i (by omega)) g⟩)
  ·have g:=of_decide_eq_true g
   rw [w64 (by omega)]
   exact Evp.ret (ih (i+1) (by omega) (by omega) (fun j h=>by
    by_cases e:j=i
    ·subst e;exact g
    ·exact hj j (by omega)) h8)
theorem znn:Ac P T lo F.z1b [.agg ⟨f.cells⟩,.slice Q qn qc,.slice V ws.length vc,.agg ⟨hd.cells⟩] M fun r=>∃ b M',r=(.bool b,M')∧Pre M M'∧(b=true ↔ uh f qn ws hd L):=by
 obtain ⟨M1,hM1⟩:∃ M1:Mem,M1=M ++ [⟨.fx,[.bool hd.h0,.int .i64 hd.h1,.bool hd.h2,.bool hd.h3,.int .i64 hd.h4,.int .i64 hd.h5,.int .i64 hd.h6,.int .i64 hd.h7,.int .i64 hd.h8,.int .i64 hd.h9,.int .i64 hd.h10,.int .i64 hd.h11,.int .i64 hd.h12,.int .i64 hd.h13,.int .i64 hd.h14,.int .i64 hd.h15,.int .i64 hd.h16,.bool hd.h17,.int .i64 hd.h18,.int .i64 hd.h19,.int .i64 hd.h20,.int .i64 hd.h21,.int .i64 hd.h22,.bool hd.cdef,.int .i64 hd.damp,.int .i64 hd.h25,.slice hd.A hd.n hd.c,.bool hd.h27,.bool hd.h28,.bool hd.h29]⟩]:=⟨_,rfl⟩
 have b1:Buf M M1 ⟨M.length,0,none⟩ hd.cells:=by rw [hM1];exact Buf.push (Pre.refl _)
 have p1:Pre M M1:=by rw [hM1];exact Pre.app _ _
 have g23:M1.ld (plus ⟨M.length,0,none⟩ 23)=some (.bool hd.cdef):=b1.cell (i:=23) (by show 23 < 30;decide)
 have g24:M1.ld (plus ⟨M.length,0,none⟩ 24)=some (.int .i64 hd.damp):=b1.cell (i:=24) (by show 24 < 30;decide)
 have g26:M1.ld (plus ⟨M.length,0,none⟩ 26)=some (.slice hd.A hd.n hd.c):=b1.cell (i:=26) (by show 26 < 30;decide)
 have no:¬ uh f qn ws hd L→Evp (fun k=>some (.ret (.bool false) M1)) fun out=>Run P T lo F.z1b out fun r=>∃ b M',r=(.bool b,M')∧Pre M M'∧(b=true ↔ uh f qn ws hd L):=fun g=>Evp.ret (Run.ret ⟨false,M1,rfl,p1,fun e=>absurd e (by decide),fun e=>absurd e g⟩)
 have hV1:=hV.pre p1
 have hL1:=hL.pre p1
 refine Ac.of (Evp.of_eq (fun k=>z1b.entry k ..) ?_)
 rw [← hM1]
 refine Evp.ob (zh2 ..) ?_
 rintro _ rfl
 simp only [RD,RE,Nat.reduceAdd,Nat.reduceLT]
 refine Evp.neb (fun g=>no fun e=>g (by unfold kj;rw [if_pos (show z3m _ _ _ _ _ _ _ _ _ from e.1)])) fun k1=>?_
 have hw:uj f:=by
  by_cases h:uj f
  ·exact h
  ·exfalso
   unfold kj at k1
   rw [if_neg (show ¬ z3m _ _ _ _ _ _ _ _ _ from h)] at k1
   omega
 have sw:jq f.p0.w:=hw.2.1
 have sh:jq f.p0.h:=hw.2.2.1
 unfold jq at sw sh
 rw [Int.tmod_eq_emod_of_nonneg (show 0≤f.p0.w by omega),Int.tmod_eq_emod_of_nonneg (show 0≤f.p0.h by omega),Int.tdiv_eq_ediv_of_nonneg (show 0≤f.p0.w by omega),Int.tdiv_eq_ediv_of_nonneg (show 0≤f.p0.h by omega)]
 have m1:=ks (a:=f.p0.w / 8) (b:=f.p0.h / 8) (A:=32) (B:=32) (by omega) (by omega)
 have m2:=ks (a:=(f.p0.w+63) / 64) (b:=(f.p0.h+63) / 64) (A:=5) (B:=5) (by omega) (by omega)
 rw [w64 (x:=f.p0.w / 8) (by omega),w64 (x:=f.p0.h / 8) (by omega),w64 (x:=f.p0.w / 8*(f.p0.h / 8)) (by omega)]
 refine Evp.neb (fun g=>no fun e=>g e.2.1) fun k2=>?_
 refine Evp.neb (fun g=>no fun e=>g e.2.2.1) fun k3=>?_
 refine Evp.neb (fun g=>no fun e=>g e.2.2.2.1) fun k4=>?_
 refine Evp.ob (zcq lo f.p0.w M1 (by omega)) ?_
 rintro _ rfl
 simp only [RD,RE,Nat.reduceAdd,Nat.reduceLT]
 refine Evp.ob (zcq lo f.p0.h M1 (by omega)) ?_
 rintro _ rfl
 simp only [RD,RE,Nat.reduceAdd,Nat.reduceLT]
 rw [w64 (x:=(f.p0.w+63) / 64*((f.p0.h+63) / 64)) (by omega)]
 refine Evp.neb (fun g=>no fun e=>g e.2.2.2.2.1) fun k5=>?_
 rw [g23]
 refine Evp.some rfl ?_
 refine Evp.nb (fun g=>?_) fun kc=>?_
 ·exact Evp.ret (Run.ret ⟨true,M1,rfl,p1,fun _=>⟨hw,k2,k3,k4,k5,fun e=>by rw [e] at g;cases g⟩,fun _=>rfl⟩)
 rw [g24]
 refine Evp.some rfl ?_
 refine Evp.ob (qu ..) ?_
 rintro _ rfl
 simp only [RD,RE,Nat.reduceAdd,Nat.reduceLT]
 refine Evp.nb (fun g=>no fun e=>of_decide_eq_false g (e.2.2.2.2.2 kc).1) fun k6=>?_
 have k6:=of_decide_eq_true k6
 rw [g26]
 refine Evp.some rfl ?_
 refine Evp.ob (qu ..) ?_
 rintro _ rfl
 simp only [RD,RE,Nat.reduceAdd,Nat.reduceLT]
 refine Evp.nb (fun g=>no fun e=>of_decide_eq_false g (by have:=(e.2.2.2.2.2 kc).2.1;omega)) fun k7=>?_
 have k7:=of_decide_eq_true k7
 rw [g26]
 refine Evp.some rfl (Evp.ret ?_)
 have loop:∀ (d i:Nat),hd.n - i=d→i≤hd.n→(∀ j,j < i→z8j L j)→Run P T lo F.z1b (z1b.Ca V ws.length vc ⟨M.length,0,none⟩ hd.A hd.n hd.c (hd.n:Int) i M1) fun r=>∃ b M',r=(.bool b,M')∧Pre M M'∧(b=true ↔ uh f qn ws hd L):=by
  intro d
  induction d with
  | zero=>
   intro i hd' hi hj
   refine kut (fun k=>z1b.Pa k ..) ?_
   refine Evp.dec (fun g=>absurd g (by omega)) fun _=>?_
   have hc:Ac P T lo F.z49 [.slice V ws.length vc,.func (.func F.zle) ⟨[]⟩ ⟨[.pointer (some ⟨M.length,0,none⟩)]⟩] M1 fun r=>∃ b,r=(.bool b,M1)∧(b=false ↔ ∀ i,i < ws.length→0≤ws.getD i 0∧ws.getD i 0≤(hd.n:Int) - 1):=by
    have hi0:Ac P T lo F.j9 [.slice V ws.length vc,.func (.func F.zle) ⟨[]⟩ ⟨[.pointer (some ⟨M.length,0,none⟩)]⟩] M1 fun r=>∃ z:Int,r=(.int .i64 z,M1)∧(¬ z ≥ 0 ↔ ∀ i,i < ws.length→0≤ws.getD i 0∧ws.getD i 0≤(hd.n:Int) - 1):=by
     refine Ac.of (Evp.of_eq (fun k=>j9.entry k ..) ?_)
     exact Evp.ret (zqq lo V vc ws hd M1 hV1 hn ⟨M.length,0,none⟩ g26 _ 0 rfl (by omega) (fun j h=>by omega) (by omega))
    refine Ac.of (Evp.of_eq (fun k=>z49.entry k ..) ?_)
    refine Evp.ob hi0 ?_
    rintro _ ⟨z,rfl,hz⟩
    simp only [RD,RE,Nat.reduceAdd,Nat.reduceLT]
    exact Evp.ret (Run.ret ⟨_,rfl,by rw [← hz];exact decide_eq_false_iff_not⟩)
   refine Evp.ob hc ?_
   rintro _ ⟨b,rfl,hb⟩
   simp only [RD,RE,Nat.reduceAdd,Nat.reduceLT]
   refine Evp.ret (Run.ret ⟨_,_,rfl,p1,fun e=>⟨hw,k2,k3,k4,k5,fun _=>⟨k6,by omega,fun j h=>hj j (by omega),hb.1 (by simpa using e)⟩⟩,fun e=>?_⟩)
   have:=hb.2 (e.2.2.2.2.2 kc).2.2.2
   rw [this];rfl
  | succ d ih=>
   intro i hd' hi hj
   obtain ⟨a,ea,l0,l1,l2,l3⟩:=ldS hL1 (i:=i) (by omega)
   refine kut (fun k=>z1b.Pa k ..) ?_
   refine Evp.dec (fun _=>?_) fun g=>absurd g (by omega)
   refine Evp.pos (by omega) ?_
   simp only [Int.toNat_natCast]
   refine Evp.some ea (Evp.some l0 (Evp.some l1 (Evp.some l2 (Evp.some l3 ?_))))
   refine Evp.ob (qu ..) ?_
   rintro _ rfl
   simp only [RD,RE,Nat.reduceAdd,Nat.reduceLT]
   refine Evp.nb (fun g=>no fun e=>of_decide_eq_false g ((e.2.2.2.2.2 kc).2.2.1 i (by omega)).1) fun q1=>?_
   refine Evp.ob (qu ..) ?_
   rintro _ rfl
   simp only [RD,RE,Nat.reduceAdd,Nat.reduceLT]
   refine Evp.nb (fun g=>no fun e=>of_decide_eq_false g ((e.2.2.2.2.2 kc).2.2.1 i (by omega)).2.1) fun q2=>?_
   refine Evp.ob (qu ..) ?_
   rintro _ rfl
   simp only [RD,RE,Nat.reduceAdd,Nat.reduceLT]
   refine Evp.nb (fun g=>no fun e=>of_decide_eq_false g ((e.2.2.2.2.2 kc).2.2.1 i (by omega)).2.2.1) fun q3=>?_
   refine Evp.ob (qu ..) ?_
   rintro _ rfl
   simp only [RD,RE,Nat.reduceAdd,Nat.reduceLT]
   refine Evp.nb (fun g=>no fun e=>of_decide_eq_false g ((e.2.2.2.2.2 kc).2.2.1 i (by omega)).2.2.2) fun q4=>?_
   rw [w64 (by omega)]
   exact Evp.ret (ih (i+1) (by omega) (by omega) fun j h=>by
    by_cases e:j=i
    ·subst e;exact ⟨of_decide_eq_true q1,of_decide_eq_true q2,of_decide_eq_true q3,of_decide_eq_true q4⟩
    ·exact hj j (by omega))
 exact loop _ 0 rfl (by omega) fun j h=>by omega
end
def Fr3.at (f:Fr3)(n:Nat):Plv:=match n with | 0=>f.p0 | 1=>f.p1 | _=>f.p2
abbrev csL (f:Fr3)(ad:Nat→Addr)(cc:Nat→Nat):List Value:=[.int .i64 f.p0.w,.int .i64 f.p0.h,.slice (some (ad 0)) f.p0.xs.length (cc 0),.int .i64 f.p1.w,.int .i64 f.p1.h,.slice (some (ad 1)) f.p1.xs.length (cc 1),.int .i64 f.p2.w,.int .i64 f.p2.h,.slice (some (ad 2)) f.p2.xs.length (cc 2)]
structure Bufs (M0 M:Mem) (f:Fr3) (ad:Nat→Addr) (os:Nat→List Int):Prop where
 buf:∀ n,n < 3→Buf M0 M (ad n) ((os n).map (Value.int .u8))
 len:∀ n,n < 3→(os n).length=(f.at n).xs.length
 ne:∀ m n,m < 3→n < 3→m≠n→(ad m).block≠(ad n).block
def upd (os:Nat→List Int)(n:Nat)(v:List Int):Nat→List Int:=fun m=>if m=n then v else os m
theorem Bufs.pre {M0 M M':Mem}{f:Fr3}{ad:Nat→Addr}{os:Nat→List Int}(h:Bufs M0 M f ad os)(hp:Pre M M'):Bufs M0 M' f ad os:=⟨fun n hn=>(h.buf n hn).pre hp,h.len,h.ne⟩
theorem Bufs.congr {M0 M:Mem}{f:Fr3}{ad:Nat→Addr}{os os':Nat→List Int}(h:Bufs M0 M f ad os)(he:∀ n,n < 3→os n=os' n):Bufs M0 M f ad os':=
 ⟨fun n hn=>by rw [← he n hn];exact h.buf n hn,fun n hn=>by rw [← he n hn];exact h.len n hn,h.ne⟩
theorem Bufs.st {M0 M:Mem}{f:Fr3}{ad:Nat→Addr}{os:Nat→List Int}(h:Bufs M0 M f ad os){n:Nat}(hn:n < 3)(hp:Pre M0 M){lo i:Nat}(hlo:lo≤M0.length){vs:List Int}(hi:i+vs.length≤(os n).length) :
  ∃ M',M.st lo (plus (ad n) i) (vs.map (Value.int .u8))=some M'∧Bufs M0 M' f ad (upd os n (setL (os n) i vs))∧Pre M0 M'∧zdq (some (ad n)) M M':=by
 have smap:∀ (cs:List Int) (i:Nat) (vs:List Int),setL (cs.map (Value.int .u8)) i (vs.map (Value.int .u8))=(setL cs i vs).map (Value.int .u8):=fun cs i vs=>by
  induction vs generalizing cs i with
  | nil=>rfl
  | cons v r ih=>simp only [List.map_cons,setL,qe,ih]
 obtain ⟨M',h1,h2,h3,h4,_⟩:=(h.buf n hn).st (lo:=lo) (i:=i) (vs:=vs.map (Value.int .u8)) hp hlo (by simpa using hi)
 rw [smap] at h2
 refine ⟨M',h1,⟨fun m hm=>?_,fun m hm=>?_,h.ne⟩,h3,h4⟩
 ·unfold upd
  by_cases e:m=n
  ·subst e;rw [if_pos rfl];exact h2
  ·rw [if_neg e]
   exact (h.buf m hm).keep h4 fun a' ha=>by injection ha with ha;subst ha;exact h.ne n m hn hm (Ne.symm e)
 ·unfold upd
  by_cases e:m=n
  ·subst e;rw [if_pos rfl,zhg];exact h.len m hm
  ·rw [if_neg e];exact h.len m hm
theorem zji (os:Nat→List Int)(n:Nat)(u v:List Int):upd (upd os n u) n v=upd os n v:=by
 funext m;unfold upd;split <;> rfl
theorem z8k (os:Nat→List Int)(n:Nat)(v:List Int):upd os n v n=v:=by unfold upd;rw [if_pos rfl]
theorem zh7 (os:Nat→List Int)(n:Nat):upd os n (os n)=os:=by
 funext m;unfold upd;split
 ·rename_i h;rw [h]
 ·rfl
theorem zpb {w h x y rw rh:Nat}{xs bs:List Int}(hn:xs.length=w*h)(hr1:1≤rw)(hx:x+rw≤w)(hy:y+rh≤h)(hb:bs.length=rh*rw)(k:Nat)(hk:k < rh) :
  setL (z05 w xs bs x y rw rh (k*rw)) ((y+k)*w+x) ((bs.drop (k*rw)).take rw)=z05 w xs bs x y rw rh ((k+1)*rw):=by
 have key:∀ d j,rw - j=d→j≤rw→setL (z05 w xs bs x y rw rh (k*rw+j)) ((y+k)*w+x+j) ((bs.drop (k*rw+j)).take (rw - j))=z05 w xs bs x y rw rh (k*rw+rw):=by
  intro d
  induction d with
  | zero=>
   intro j hd hj
   obtain rfl:j=rw:=by omega
   rw [Nat.sub_self,List.take_zero];rfl
  | succ d ih=>
   intro j hd hj
   have lt:k*rw+j < bs.length:=by
    have:(k+1)*rw≤rh*rw:=Nat.mul_le_mul_right _ (by omega)
    rw [Nat.succ_mul] at this
    omega
   obtain ⟨d1,d2⟩:=dm (W:=rw) (r:=k) (s:=j) (by omega)
   have hs:=zh1 (bs:=bs) hn hr1 hx hy (k*rw+j) (by omega)
   rw [d1,d2] at hs
   rw [List.drop_eq_getElem_cons lt,show rw - j=(rw - j - 1)+1 by omega,List.take_succ_cons]
   have eg:bs[k*rw+j]=bs.getD (k*rw+j) 0:=by rw [List.getD_eq_getElem?_getD,List.getElem?_eq_getElem lt];rfl
   simp only [setL]
   rw [eg,show (y+k)*w+x+j=(y+k)*w+(x+j) by omega,hs]
   have:=ih (j+1) (by omega) (by omega)
   rw [show rw - j - 1=rw - (j+1) by omega,show k*rw+j+1=k*rw+(j+1) by omega,show (y+k)*w+(x+j)+1=(y+k)*w+x+(j+1) by omega]
   exact this
 have:=key rw 0 (by omega) (by omega)
 rw [Nat.add_zero,Nat.sub_zero] at this
 rw [Nat.succ_mul]
 exact this
def ug (f:Fr3)(X Y:Nat):List Int:=v7 f.p0.w.toNat f.p0.xs X Y 8 64
def z0z (p:Plv)(o:List Int)(X Y S d pri sec:Nat)(damp:Int):List Int:=z05 p.w.toNat o (vk p.w.toNat p.h.toNat p.xs X Y S damp (jc d pri sec) (S*S)) X Y S S (S*S)
def z3n (f:Fr3)(damp:Int)(X Y:Nat)(a b c d:Int)(n:Nat)(o:List Int):List Int:=
 if n=0 then z0z f.p0 o X Y 8 (if a=0 then 0 else yu (ug f X Y) 8) (ka a (z1l (ug f X Y))).toNat (ua b).toNat damp
 else z0z (f.at n) o (X / 2) (Y / 2) 4 (if c=0 then 0 else yu (ug f X Y) 8) c.toNat (ua d).toNat (damp - 1)
def vt (f:Fr3)(qs:List Bool)(ws L:List Int)(damp:Int):Nat→Nat→List Int
 | 0=>fun n=>(f.at n).xs
 | i+1=>
  if qs.getD i false=true then vt f qs ws L damp i
  else fun n=>z3n f damp (8*(i % (f.p0.w.toNat / 8))) (8*(i / (f.p0.w.toNat / 8)))
   (L.getD ((ws.getD (8*(i / (f.p0.w.toNat / 8)) / 64*((f.p0.w.toNat+63) / 64)+8*(i % (f.p0.w.toNat / 8)) / 64) 0).toNat*4) 0)
   (L.getD ((ws.getD (8*(i / (f.p0.w.toNat / 8)) / 64*((f.p0.w.toNat+63) / 64)+8*(i % (f.p0.w.toNat / 8)) / 64) 0).toNat*4+1) 0)
   (L.getD ((ws.getD (8*(i / (f.p0.w.toNat / 8)) / 64*((f.p0.w.toNat+63) / 64)+8*(i % (f.p0.w.toNat / 8)) / 64) 0).toNat*4+2) 0)
   (L.getD ((ws.getD (8*(i / (f.p0.w.toNat / 8)) / 64*((f.p0.w.toNat+63) / 64)+8*(i % (f.p0.w.toNat / 8)) / 64) 0).toNat*4+3) 0) n (vt f qs ws L damp i n)
structure FrOk (M:Mem) (f:Fr3):Prop where
 rd:∀ n,n < 3→RdI M .u8 (f.at n).A (f.at n).xs
 by_:∀ n,n < 3→zh (f.at n).xs
 cap:∀ n,n < 3→(f.at n).xs.length≤(f.at n).c
 chk:∀ n,n < 3→qa (f.at n).w (f.at n).h (f.at n).xs.length=0
theorem lt3 {n:Nat}(h:n < 3):n=0∨n=1∨n=2:=by omega
theorem zsp {f:Fr3}{n:Nat}(hn:n < 3):((f.cells)[0+n*3+0]?).bind (Value.int? .i64)=some (f.at n).w:=by
 rcases lt3 hn with rfl | rfl | rfl <;> rfl
theorem zsq {f:Fr3}{n:Nat}(hn:n < 3):((f.cells)[0+n*3+1]?).bind (Value.int? .i64)=some (f.at n).h:=by
 rcases lt3 hn with rfl | rfl | rfl <;> rfl
theorem zsr {f:Fr3}{n:Nat}(hn:n < 3):((f.cells)[0+n*3+2]?).bind Value.slc?=some ⟨(f.at n).A,(f.at n).xs.length,(f.at n).c⟩:=by
 rcases lt3 hn with rfl | rfl | rfl <;> rfl
theorem zss {f:Fr3}{ad:Nat→Addr}{cc:Nat→Nat}{n:Nat}(hn:n < 3):((csL f ad cc)[0+n*3+0+0]?).bind (Value.int? .i64)=some (f.at n).w:=by
 rcases lt3 hn with rfl | rfl | rfl <;> rfl
theorem zst {f:Fr3}{ad:Nat→Addr}{cc:Nat→Nat}{n:Nat}(hn:n < 3):((csL f ad cc)[0+n*3+2+0]?).bind Value.slc?=some ⟨some (ad n),(f.at n).xs.length,cc n⟩:=by
 rcases lt3 hn with rfl | rfl | rfl <;> rfl
abbrev kN (V:Option Addr)(vn vc:Nat)(ac X Y dir str:Int)(Q:Option Addr)(qn qc:Nat)(len i n:Int)(f:Fr3)(hd:Hd)(cs:List Value)(a b c d:Int)(M:Mem):Out:=zj.Cd V vn vc ac X Y dir str Q qn qc len i n f.p0.w f.p0.h f.p0.A f.p0.xs.length f.p0.c f.p1.w f.p1.h f.p1.A f.p1.xs.length f.p1.c f.p2.w f.p2.h f.p2.A f.p2.xs.length f.p2.c hd.h0 hd.h1 hd.h2 hd.h3 hd.h4 hd.h5 hd.h6 hd.h7 hd.h8 hd.h9 hd.h10 hd.h11 hd.h12 hd.h13 hd.h14 hd.h15 hd.h16 hd.h17 hd.h18 hd.h19 hd.h20 hd.h21 hd.h22 hd.cdef hd.damp hd.h25 hd.A hd.n hd.c hd.h27 hd.h28 hd.h29 0 0 none 0 0 0 0 none 0 0 0 0 none 0 0 cs a b c d M
abbrev kD (V:Option Addr)(vn vc:Nat)(ac X Y dir str n pri named sec damp:Int)(Q:Option Addr)(qn qc:Nat)(len i:Int)(f:Fr3)(hd:Hd)(cs:List Value)(a b c d rx ry rw rh:Int)(M:Mem):Out:=zj.Ce V vn vc ac X Y dir str n pri named sec damp Q qn qc len i n f.p0.w f.p0.h f.p0.A f.p0.xs.length f.p0.c f.p1.w f.p1.h f.p1.A f.p1.xs.length f.p1.c f.p2.w f.p2.h f.p2.A f.p2.xs.length f.p2.c hd.h0 hd.h1 hd.h2 hd.h3 hd.h4 hd.h5 hd.h6 hd.h7 hd.h8 hd.h9 hd.h10 hd.h11 hd.h12 hd.h13 hd.h14 hd.h15 hd.h16 hd.h17 hd.h18 hd.h19 hd.h20 hd.h21 hd.h22 hd.cdef hd.damp hd.h25 hd.A hd.n hd.c hd.h27 hd.h28 hd.h29 0 0 none 0 0 0 0 none 0 0 0 0 none 0 0 cs a b c d rx ry rw rh M
abbrev kR (V:Option Addr)(vn vc:Nat)(ac X Y dir str n:Int)(B:Option Addr)(bn bc:Nat)(Q:Option Addr)(qn qc:Nat)(len i k:Int)(f:Fr3)(hd:Hd)(cs:List Value)(a b c d rx ry rw rh:Int)(M:Mem):Out:=zj.Cg V vn vc ac X Y dir str n B bn bc Q qn qc len i n rh k f.p0.w f.p0.h f.p0.A f.p0.xs.length f.p0.c f.p1.w f.p1.h f.p1.A f.p1.xs.length f.p1.c f.p2.w f.p2.h f.p2.A f.p2.xs.length f.p2.c hd.h0 hd.h1 hd.h2 hd.h3 hd.h4 hd.h5 hd.h6 hd.h7 hd.h8 hd.h9 hd.h10 hd.h11 hd.h12 hd.h13 hd.h14 hd.h15 hd.h16 hd.h17 hd.h18 hd.h19 hd.h20 hd.h21 hd.h22 hd.cdef hd.damp hd.h25 hd.A hd.n hd.c hd.h27 hd.h28 hd.h29 0 0 none 0 0 0 0 none 0 0 0 0 none 0 0 cs a b c d rx ry rw rh M
abbrev kI (V:Option Addr)(vn vc:Nat)(ac:Int)(Q:Option Addr)(qn qc:Nat)(len i:Int)(f:Fr3)(hd:Hd)(cs:List Value)(M:Mem):Out:=zj.Cb V vn vc ac Q qn qc len i f.p0.w f.p0.h f.p0.A f.p0.xs.length f.p0.c f.p1.w f.p1.h f.p1.A f.p1.xs.length f.p1.c f.p2.w f.p2.h f.p2.A f.p2.xs.length f.p2.c hd.h0 hd.h1 hd.h2 hd.h3 hd.h4 hd.h5 hd.h6 hd.h7 hd.h8 hd.h9 hd.h10 hd.h11 hd.h12 hd.h13 hd.h14 hd.h15 hd.h16 hd.h17 hd.h18 hd.h19 hd.h20 hd.h21 hd.h22 hd.cdef hd.damp hd.h25 hd.A hd.n hd.c hd.h27 hd.h28 hd.h29 0 0 none 0 0 0 0 none 0 0 0 0 none 0 0 cs M
section
variable (lo:Nat)(f:Fr3)(V Q:Option Addr)(vn vc qn qc:Nat)(hd:Hd)(ac X Y str len i:Int)(dir:Nat)(a b c d:Int)(M0:Mem)(ad:Nat→Addr)(cc:Nat→Nat)(R:Value × Mem→Prop)
variable (hlo:lo≤M0.length)(hf:FrOk M0 f)(hcc:∀ n,n < 3→(f.at n).xs.length≤cc n)
include hlo hf hcc
theorem zl5 (n:Nat)(hn:n < 3)(S RX RY:Nat)(hS:S=8∨S=4)(hx:RX+S≤(f.at n).w.toNat)(hy:RY+S≤(f.at n).h.toNat)(B:Option Addr)(cb:Nat)(bs:List Int)(hb:bs.length=S*S)(hcb:S*S≤cb)(os:Nat→List Int)
  (next:∀ M',Pre M0 M'→Bufs M0 M' f ad (upd os n (z05 (f.at n).w.toNat (os n) bs RX RY S S (S*S)))→Run P T lo F.zj (kN V vn vc ac X Y dir str Q qn qc len i ((n+1:Nat):Int) f hd (csL f ad cc) a b c d M') R) :
  ∀ (e k:Nat) (M:Mem),S - k=e→k≤S→Pre M0 M→Bufs M0 M f ad (upd os n (z05 (f.at n).w.toNat (os n) bs RX RY S S (k*S)))→(∀ n',n' < 3→∀ x,B=some x→(ad n').block≠x.block)→RdI M .u8 B bs →
   Run P T lo F.zj (kR V vn vc ac X Y dir str n B (S*S) cb Q qn qc len i k f hd (csL f ad cc) a b c d RX RY S S M) R:=by
 have ck:=zy (hf.chk n hn)
 obtain ⟨W,hW⟩:=Int.eq_ofNat_of_zero_le (a:=(f.at n).w) (by omega)
 obtain ⟨H,hH⟩:=Int.eq_ofNat_of_zero_le (a:=(f.at n).h) (by omega)
 have eW:(f.at n).w.toNat=W:=by omega
 have eH:(f.at n).h.toNat=H:=by omega
 have hl:(f.at n).xs.length=W*H:=by have:=ck.2.2.2.2;rw [hW,hH,← Int.natCast_mul] at this;omega
 have hm:W*H≤512*512:=Nat.mul_le_mul (by omega) (by omega)
 simp only [eW] at hx next ⊢
 simp only [eH] at hy
 intro e
 induction e with
 | zero=>
  intro k M he hk hp hB hne hr
  obtain rfl:k=S:=by omega
  refine kut (fun k=>zj.Pg k ..) ?_
  refine Evp.dec (fun g=>absurd g (by omega)) fun _=>?_
  rw [w64 (by omega)]
  exact Evp.ret (next M hp hB)
 | succ e ih=>
  intro k M he hk hp hB hne hr
  have hkS:k < S:=by omega
  have oin:(RY+k)*W+RX+S≤W*H:=by
   have:(RY+k+1)*W≤H*W:=Nat.mul_le_mul_right _ (by omega)
   rw [Nat.succ_mul,Nat.mul_comm H W] at this
   omega
  have kS:k*S+S≤S*S:=by
   have:(k+1)*S≤S*S:=Nat.mul_le_mul_right _ (by omega)
   rwa [Nat.succ_mul] at this
  have sm:S*S≤64:=by rcases hS with rfl | rfl <;> omega
  have hol:(upd os n (z05 W (os n) bs RX RY S S (k*S)) n).length=W*H:=by rw [hB.len n hn,hl]
  rw [z8k] at hol
  have hol':(os n).length=W*H:=by rw [z1w] at hol;exact hol
  refine kut (fun k=>zj.Pg k ..) ?_
  refine Evp.dec (fun _=>?_) fun g=>absurd g (by omega)
  refine Evp.pos (by omega) ?_
  simp only [Int.toNat_natCast]
  refine Evp.some (zst hn) (Evp.pos (by omega) (Evp.some (zss hn) ?_))
  have e0:i64.wrap ((i64.wrap ((i64.wrap ((RY:Int)+k))*(f.at n).w))+(RX:Int))=(((RY+k)*W+RX:Nat):Int):=by
   have e1:((RY:Int)+k)*(W:Int)=(((RY+k)*W:Nat):Int):=by simp
   rw [hW,w64 (x:=(RY:Int)+k) (by omega),e1]
   generalize (RY+k)*W=g at *
   rw [w64 (x:=(g:Int)) (by omega),w64 (by omega)];omega
  have e2:i64.wrap ((k:Int)*S)=((k*S:Nat):Int):=by rw [← Int.natCast_mul,w64 (by omega)]
  have e3:i64.wrap ((i64.wrap ((k:Int)+1))*S)=((k*S+S:Nat):Int):=by
   rw [w64 (x:=(k:Int)+1) (by omega),show (k:Int)+1=((k+1:Nat):Int) by omega,← Int.natCast_mul,Nat.succ_mul,w64 (by omega)]
  have hcn:=hcc n hn
  dsimp only
  rw [e0,e2,e3]
  refine Evp.pos (by omega) (Evp.pos (by omega) ?_)
  simp only [Int.toNat_natCast]
  have emin:Nat.min (k*S+S - k*S) ((f.at n).xs.length - ((RY+k)*W+RX))=S:=by rw [show k*S+S - k*S=S by omega];exact Nat.min_eq_left (by omega)
  simp only [emin]
  have hsrc:=(hr.slAddr (l:=k*S) (h:=k*S+S) (c:=cb) (by omega) (by omega) (by omega)).src
  rw [List.length_take,List.length_drop,show min (k*S+S - k*S) (bs.length - k*S)=S by omega,show k*S+S - k*S=S by omega] at hsrc
  refine Evp.some hsrc (Evp.neg (by omega) ?_)
  have esl:slAddr 1 (some (ad n)) ((RY+k)*W+RX) (cc n)=some (plus (ad n) ((RY+k)*W+RX)):=by
   unfold slAddr
   rw [if_neg (by omega)];rfl
  refine Evp.some esl ?_
  have hrow:=zpb (bs:=bs) hol' (by omega) hx hy hb k hkS
  obtain ⟨M',h1,h2,h3,h4⟩:=hB.st (n:=n) hn hp (lo:=lo) (i:=(RY+k)*W+RX) hlo (vs:=(bs.drop (k*S)).take S) (by rw [z8k,hol,List.length_take,List.length_drop];omega)
  rw [z8k,zji,hrow] at h2
  refine Evp.some h1 ?_
  rw [w64 (x:=(k:Int)+1) (by omega)]
  exact Evp.ret (ih (k+1) M' (by omega) (by omega) h3 h2 hne (Rd.keep hr h4 fun x x' hx hx'=>by injection hx' with hx';subst hx';exact hne n hn x hx))
theorem zcr (n:Nat)(hn:n < 3)(S RX RY:Nat)(hS:S=8∨S=4)(hx:RX+S≤(f.at n).w.toNat)(hy:RY+S≤(f.at n).h.toNat)(pri named sec damp:Int)(hdir:dir < 8)(hpri:0≤pri∧pri≤15)(hsec:0≤sec∧sec≤3)(hdamp:0≤damp∧damp≤6)(os:Nat→List Int)(M:Mem)(hp:Pre M0 M)(hB:Bufs M0 M f ad os)
  (next:∀ M',Pre M0 M'→Bufs M0 M' f ad (upd os n (z0z (f.at n) (os n) RX RY S (if named=0 then 0 else dir) pri.toNat (ua sec).toNat damp))→Run P T lo F.zj (kN V vn vc ac X Y dir str Q qn qc len i ((n+1:Nat):Int) f hd (csL f ad cc) a b c d M') R) :
  Run P T lo F.zj (kD V vn vc ac X Y dir str n pri named sec damp Q qn qc len i f hd (csL f ad cc) a b c d RX RY S S M) R:=by
 have ck:=zy (hf.chk n hn)
 have hsec4:0≤ua sec∧ua sec≤4:=by unfold ua;split <;> omega
 have key:∀ d':Nat,d' < 8→(∀ M',Pre M0 M'→Bufs M0 M' f ad (upd os n (z0z (f.at n) (os n) RX RY S d' pri.toNat (ua sec).toNat damp))→Run P T lo F.zj (kN V vn vc ac X Y dir str Q qn qc len i ((n+1:Nat):Int) f hd (csL f ad cc) a b c d M') R) →
   Run P T lo F.zj (zj.Cf V vn vc ac X Y dir str n pri sec damp d' Q qn qc len i n f.p0.w f.p0.h f.p0.A f.p0.xs.length f.p0.c f.p1.w f.p1.h f.p1.A f.p1.xs.length f.p1.c f.p2.w f.p2.h f.p2.A f.p2.xs.length f.p2.c hd.h0 hd.h1 hd.h2 hd.h3 hd.h4 hd.h5 hd.h6 hd.h7 hd.h8 hd.h9 hd.h10 hd.h11 hd.h12 hd.h13 hd.h14 hd.h15 hd.h16 hd.h17 hd.h18 hd.h19 hd.h20 hd.h21 hd.h22 hd.cdef hd.damp hd.h25 hd.A hd.n hd.c hd.h27 hd.h28 hd.h29 0 0 none 0 0 0 0 none 0 0 0 0 none 0 0 (csL f ad cc) a b c d RX RY S S M) R:=fun d' hd' nx=>by
  have ok:z2y (f.at n).w (f.at n).h (f.at n).xs.length RX RY S S d' pri (ua sec) damp:=⟨hf.chk n hn,by rcases hS with rfl | rfl <;> omega,by rcases hS with rfl | rfl <;> omega,by omega,by omega,by omega,hpri,hsec4,hdamp⟩
  refine kut (fun k=>zj.Pf k ..) ?_
  refine Evp.pos (by omega) ?_
  simp only [Int.toNat_natCast]
  refine Evp.some (zsp hn) (Evp.some (zsq hn) (Evp.some (zsr hn) ?_))
  refine Evp.ob (znm M.length sec M) ?_
  rintro _ rfl
  simp only [RD,RE,Nat.reduceAdd,Nat.reduceLT]
  refine Evp.ob (zp6 _ (f.at n).A (f.at n).c (f.at n).xs (f.at n).w (f.at n).h RX RY S S d' pri (ua sec) damp M (by have:=hp.len;omega) ((hf.rd n hn).pre hp) (hf.by_ n hn)) ?_
  rintro ⟨v,M2⟩ ⟨p2,hb⟩
  rw [if_pos ok] at hb
  obtain ⟨B,cb,e,hcb,gB⟩:=hb
  simp only [Int.toNat_natCast] at e gB p2 hcb
  subst e
  simp only [RD,RE,Nat.reduceAdd,Nat.reduceLT]
  refine Evp.neb (fun g=>absurd rfl g) fun _=>Evp.ret ?_
  unfold z0z at nx
  obtain ⟨bs,hbs⟩:∃ bs,bs=vk (f.at n).w.toNat (f.at n).h.toNat (f.at n).xs RX RY S damp (jc d' pri.toNat (ua sec).toNat) (S*S):=⟨_,rfl⟩
  have hbl:bs.length=S*S:=by rw [hbs,z8h]
  rw [← hbs] at nx gB
  have rB:RdI M2 .u8 B bs:=by
   have:=gB.rd
   rw [← hbl] at this
   exact this
  have hBn:∀ n',n' < 3→∀ x,B=some x→(ad n').block≠x.block:=fun n' hn' x hx=>by
   have i1:=(hB.buf n' hn').in_
   rcases gB.at_ with ⟨e,_⟩ | ⟨q,e,q2,_⟩
   ·rw [e] at hx;cases hx
   ·rw [e] at hx;injection hx with hx;subst hx
    show (ad n').block≠q
    omega
  refine zl5 lo f V Q vn vc qn qc hd ac X Y str len i dir a b c d M0 ad cc R hlo hf hcc n hn S RX RY hS hx hy B cb bs hbl hcb os nx S 0 M2 rfl (by omega) (hp.trans p2) ?_ hBn rB
  rw [Nat.zero_mul,zeu,zh7]
  exact hB.pre p2
 refine kut (fun k=>zj.Pe k ..) ?_
 refine Evp.eqb (fun g=>Evp.ret (key 0 (by omega) fun M' q1 q2=>next M' q1 (by rw [if_pos g];exact q2))) fun g=>Evp.ret (key dir hdir fun M' q1 q2=>next M' q1 (by rw [if_neg g];exact q2))
end
theorem zh8 (f:Fr3)(X Y:Nat):(ug f X Y).length=64:=z0i ..
theorem z5a {f:Fr3}(h:zh f.p0.xs)(X Y:Nat):zh (ug f X Y):=fun z hz=>by
 unfold ug v7 at hz
 obtain ⟨i,_,rfl⟩:=List.mem_map.1 hz
 exact h.get _
structure FrIn (M:Mem) (f:Fr3):Prop where
 rd:∀ n,n < 3→RdI M .u8 (f.at n).A (f.at n).xs
 by_:∀ n,n < 3→zh (f.at n).xs
 cap:∀ n,n < 3→(f.at n).xs.length≤(f.at n).c
theorem FrIn.ok {M:Mem}{f:Fr3}(h:FrIn M f)(hw:uj f):FrOk M f:=⟨h.rd,h.by_,h.cap,fun n hn=>by
 rcases lt3 hn with rfl | rfl | rfl
 ·exact hw.1
 ·exact hw.2.2.2.1
 ·exact hw.2.2.2.2.2.2.1⟩
theorem FrIn.pre {M M':Mem}{f:Fr3}(h:FrIn M f)(hp:Pre M M'):FrIn M' f:=⟨fun n hn=>(h.rd n hn).pre hp,h.by_,h.cap⟩
theorem FrOk.pre {M M':Mem}{f:Fr3}(h:FrOk M f)(hp:Pre M M'):FrOk M' f:=⟨fun n hn=>(h.rd n hn).pre hp,h.by_,h.cap,h.chk⟩
theorem zno {f:Fr3}(hw:uj f)(h8:f.p0.w % 8=0)(v8:f.p0.h % 8=0){X Y:Nat}(hX:X % 8=0∧X+8≤f.p0.w.toNat)(hY:Y % 8=0∧Y+8≤f.p0.h.toNat) :
  ∀ n,n < 3→n≠0→X / 2+4≤(f.at n).w.toNat∧Y / 2+4≤(f.at n).h.toNat:=fun n hn h0=>by
 obtain ⟨_,s1,s2,_,e1,e2,_,e3,e4⟩:=hw
 unfold jq at s1 s2
 rcases lt3 hn with rfl | rfl | rfl
 ·exact absurd rfl h0
 ·show X / 2+4≤f.p1.w.toNat∧Y / 2+4≤f.p1.h.toNat
  omega
 ·show X / 2+4≤f.p2.w.toNat∧Y / 2+4≤f.p2.h.toNat
  omega
section
variable (lo:Nat)(f:Fr3)(V Q:Option Addr)(vn vc qn qc:Nat)(hd:Hd)(M0:Mem)(ad:Nat→Addr)(cc:Nat→Nat)(R:Value × Mem→Prop)
variable (hlo:lo≤M0.length)(hf:FrOk M0 f)(hcc:∀ n,n < 3→(f.at n).xs.length≤cc n)(hw:uj f)(h8:f.p0.w % 8=0)(v8:f.p0.h % 8=0)
include hlo hf hcc hw h8 v8
theorem zif (ac len i:Int)(X Y:Nat)(hX:X % 8=0∧X+8≤f.p0.w.toNat)(hY:Y % 8=0∧Y+8≤f.p0.h.toNat)(a b c d:Int)(hs:(0≤a∧a≤15)∧(0≤c∧c≤15)∧(0≤b∧b≤3)∧(0≤d∧d≤3))(hdamp:3≤hd.damp∧hd.damp≤6)(os:Nat→List Int)(M:Mem)(hp:Pre M0 M)(hB:Bufs M0 M f ad os)
  (next:∀ M',Pre M0 M'→Bufs M0 M' f ad (fun n=>z3n f hd.damp X Y a b c d n (os n))→Run P T lo F.zj (zj.Cc V vn vc ac Q qn qc len i f.p0.w f.p0.h f.p0.A f.p0.xs.length f.p0.c f.p1.w f.p1.h f.p1.A f.p1.xs.length f.p1.c f.p2.w f.p2.h f.p2.A f.p2.xs.length f.p2.c hd.h0 hd.h1 hd.h2 hd.h3 hd.h4 hd.h5 hd.h6 hd.h7 hd.h8 hd.h9 hd.h10 hd.h11 hd.h12 hd.h13 hd.h14 hd.h15 hd.h16 hd.h17 hd.h18 hd.h19 hd.h20 hd.h21 hd.h22 hd.cdef hd.damp hd.h25 hd.A hd.n hd.c hd.h27 hd.h28 hd.h29 0 0 none 0 0 0 0 none 0 0 0 0 none 0 0 (csL f ad cc) M') R) :
  Run P T lo F.zj (kN V vn vc ac X Y (yu (ug f X Y) 8:Nat) (z1l (ug f X Y)) Q qn qc len i 0 f hd (csL f ad cc) a b c d M) R:=by
 obtain ⟨s1,s2,s3,s4⟩:=hs
 have hb8:yu (ug f X Y) 8 < 8:=by have:=z0h (ug f X Y) 8;omega
 have hst:=zjh (z5a (hf.by_ 0 (by omega)) X Y)
 have sz:=zno hw h8 v8 hX hY
 have sw:jq f.p0.w:=hw.2.1
 have sh:jq f.p0.h:=hw.2.2.1
 unfold jq at sw sh
 have hpr:=zh6 (n:=a) (t:=z1l (ug f X Y)) s1
 have za7:∀ n,n < 3→∀ (os:Nat→List Int) (M:Mem),Pre M0 M→Bufs M0 M f ad os→(∀ M',Pre M0 M'→Bufs M0 M' f ad (upd os n (z3n f hd.damp X Y a b c d n (os n)))→Run P T lo F.zj (kN V vn vc ac X Y (yu (ug f X Y) 8:Nat) (z1l (ug f X Y)) Q qn qc len i ((n+1:Nat):Int) f hd (csL f ad cc) a b c d M') R) →
   Run P T lo F.zj (kN V vn vc ac X Y (yu (ug f X Y) 8:Nat) (z1l (ug f X Y)) Q qn qc len i (n:Int) f hd (csL f ad cc) a b c d M) R:=fun n hn os M hp hB nx=>by
  refine kut (fun k=>zj.Pd k ..) ?_
  refine Evp.dec (fun _=>?_) fun g=>absurd g (by omega)
  refine Evp.ob (zl4 M.length a (z1l (ug f X Y)) M s1 hst) ?_
  rintro _ rfl
  simp only [RD,RE,Nat.reduceAdd,Nat.reduceLT]
  by_cases h0:n=0
  ·subst h0
   refine Evp.dec (fun g=>absurd g (by omega)) fun _=>Evp.ret ?_
   refine zcr lo f V Q vn vc qn qc hd ac X Y (z1l (ug f X Y)) len i (yu (ug f X Y) 8) a b c d M0 ad cc R hlo hf hcc 0 (by omega) 8 X Y (.inl rfl) hX.2 hY.2 _ a b hd.damp hb8 hpr s3 (by omega) os M hp hB fun M' q1 q2=>nx M' q1 ?_
   unfold z3n
   rw [if_pos rfl]
   exact q2
  ·refine Evp.dec (fun _=>Evp.ret ?_) fun g=>absurd g (by omega)
   rw [show Int.tdiv (X:Int) 2=((X / 2:Nat):Int) from rfl,show Int.tdiv (Y:Int) 2=((Y / 2:Nat):Int) from rfl,w64 (x:=((X / 2:Nat):Int)) (by omega),w64 (x:=((Y / 2:Nat):Int)) (by omega),w64 (x:=hd.damp - 1) (by omega)]
   obtain ⟨z1,z2⟩:=sz n hn h0
   refine zcr lo f V Q vn vc qn qc hd ac X Y (z1l (ug f X Y)) len i (yu (ug f X Y) 8) a b c d M0 ad cc R hlo hf hcc n hn 4 (X / 2) (Y / 2) (.inr rfl) z1 z2 c c d (hd.damp - 1) hb8 s2 s4 (by omega) os M hp hB fun M' q1 q2=>nx M' q1 ?_
   unfold z3n
   rw [if_neg h0]
   exact q2
 refine za7 0 (by omega) os M hp hB fun M1 p1 b1=>?_
 refine za7 1 (by omega) _ M1 p1 b1 fun M2 p2 b2=>?_
 refine za7 2 (by omega) _ M2 p2 b2 fun M3 p3 b3=>?_
 refine kut (fun k=>zj.Pd k ..) ?_
 refine Evp.dec (fun g=>absurd g (by decide)) fun _=>Evp.ret (next M3 p3 (b3.congr fun n hn=>?_))
 rcases lt3 hn with rfl | rfl | rfl <;> rfl
theorem zig (qs:List Bool)(ws L:List Int)(hq:qs.length=f.p0.w.toNat / 8*(f.p0.h.toNat / 8))(hws:(ws.length:Int)=(f.p0.w+63) / 64*((f.p0.h+63) / 64))(hC:zpr hd ws L)(hQ:RdB M0 Q qs)(hV:RdI M0 .i64 V ws)(hL:Rd M0 hd.A hd.n 4 (L.map (Value.int .i64)))
  (fin:∀ M',Pre M0 M'→Bufs M0 M' f ad (vt f qs ws L hd.damp qs.length)→R (.tuple ⟨[.agg ⟨csL f ad cc⟩,.int .i64 0]⟩,M')) :
  ∀ (e i:Nat) (M:Mem),qs.length - i=e→i≤qs.length→Pre M0 M→Bufs M0 M f ad (vt f qs ws L hd.damp i) →
   Run P T lo F.zj (kI V ws.length vc ((f.p0.w.toNat / 8:Nat):Int) Q qs.length qc (qs.length:Int) i f hd (csL f ad cc) M) R:=by
 have sw:jq f.p0.w:=hw.2.1
 have sh:jq f.p0.h:=hw.2.2.1
 unfold jq at sw sh
 obtain ⟨W,hW⟩:=Int.eq_ofNat_of_zero_le (a:=f.p0.w) (by omega)
 obtain ⟨H,hH⟩:=Int.eq_ofNat_of_zero_le (a:=f.p0.h) (by omega)
 have eW:f.p0.w.toNat=W:=by omega
 have eH:f.p0.h.toNat=H:=by omega
 have hqm:qs.length≤32*32:=by rw [hq];exact Nat.mul_le_mul (by omega) (by omega)
 have hwl:ws.length=(W+63) / 64*((H+63) / 64):=by
  rw [hW,hH,show ((W:Int)+63) / 64=(((W+63) / 64:Nat):Int) by omega,show ((H:Int)+63) / 64=(((H+63) / 64:Nat):Int) by omega,← Int.natCast_mul] at hws
  omega
 have hwm:ws.length≤5*5:=by rw [hwl];exact Nat.mul_le_mul (by omega) (by omega)
 intro e
 induction e with
 | zero=>
  intro i M he hi hp hB
  obtain rfl:i=qs.length:=by omega
  refine kut (fun k=>zj.Pb k ..) ?_
  refine Evp.dec (fun g=>absurd g (by omega)) fun _=>?_
  refine Evp.some rfl (Evp.some rfl (Evp.some rfl (Evp.some rfl (Evp.some rfl (Evp.some rfl (Evp.some rfl (Evp.some rfl (Evp.some rfl ?_))))))))
  exact Evp.ret (Run.ret (fin M hp hB))
 | succ e ih=>
  intro i M he hi hp hB
  have on:∀ M',Pre M0 M'→Bufs M0 M' f ad (vt f qs ws L hd.damp (i+1))→Run P T lo F.zj (zj.Cc V ws.length vc ((f.p0.w.toNat / 8:Nat):Int) Q qs.length qc (qs.length:Int) i f.p0.w f.p0.h f.p0.A f.p0.xs.length f.p0.c f.p1.w f.p1.h f.p1.A f.p1.xs.length f.p1.c f.p2.w f.p2.h f.p2.A f.p2.xs.length f.p2.c hd.h0 hd.h1 hd.h2 hd.h3 hd.h4 hd.h5 hd.h6 hd.h7 hd.h8 hd.h9 hd.h10 hd.h11 hd.h12 hd.h13 hd.h14 hd.h15 hd.h16 hd.h17 hd.h18 hd.h19 hd.h20 hd.h21 hd.h22 hd.cdef hd.damp hd.h25 hd.A hd.n hd.c hd.h27 hd.h28 hd.h29 0 0 none 0 0 0 0 none 0 0 0 0 none 0 0 (csL f ad cc) M') R:=fun M' q1 q2=>by
   refine kut (fun k=>zj.Pc k ..) ?_
   rw [w64 (by omega)]
   exact Evp.ret (ih (i+1) M' (by omega) (by omega) q1 q2)
  have hiq:i < f.p0.w.toNat / 8*(f.p0.h.toNat / 8):=by omega
  rw [Nat.mul_comm] at hiq
  obtain ⟨i0,i1,i2,i3⟩:=zfh hiq
  refine kut (fun k=>zj.Pb k ..) ?_
  refine Evp.dec (fun _=>?_) fun g=>absurd g (by omega)
  refine Evp.pos (by omega) ?_
  simp only [Int.toNat_natCast]
  refine Evp.ldB (hQ.pre hp) (by omega) fun _ _=>?_
  refine Evp.bb (fun g=>Evp.ret (on M hp ?_)) fun g=>?_
  ·show Bufs M0 M f ad (if qs.getD i false=true then vt f qs ws L hd.damp i else _)
   rw [if_pos g]
   exact hB
  have on2:=fun M' q1 q2=>on M' q1 (show Bufs M0 M' f ad (if qs.getD i false=true then vt f qs ws L hd.damp i else _) from by rw [if_neg (by rw [g];decide)];exact q2)
  clear on
  refine Evp.neg (by omega) (Evp.neg (by omega) ?_)
  have tm:Int.tmod (i:Int) ((f.p0.w.toNat / 8:Nat):Int)=((i % (f.p0.w.toNat / 8):Nat):Int):=rfl
  have td:Int.tdiv (i:Int) ((f.p0.w.toNat / 8:Nat):Int)=((i / (f.p0.w.toNat / 8):Nat):Int):=rfl
  rw [tm,td]
  rw [eW] at *
  obtain ⟨X,hX⟩:∃ X,X=8*(i % (W / 8)):=⟨_,rfl⟩
  obtain ⟨Y,hY⟩:∃ Y,Y=8*(i / (W / 8)):=⟨_,rfl⟩
  rw [← hX,← hY] at on2
  have eX:i64.wrap (8*((i % (W / 8):Nat):Int))=(X:Int):=by
   rw [w64 (by generalize i % (W / 8)=u at *;omega)];rw [hX];generalize i % (W / 8)=u at *;omega
  have eY:i64.wrap (8*(i64.wrap ((i / (W / 8):Nat):Int)))=(Y:Int):=by
   rw [w64 (x:=((i / (W / 8):Nat):Int)) (by generalize i / (W / 8)=u at *;omega),w64 (by generalize i / (W / 8)=u at *;omega)];rw [hY];generalize i / (W / 8)=u at *;omega
  rw [eX,eY]
  have bX:X % 8=0∧X+8≤W:=by generalize i % (W / 8)=u at *;omega
  have bY:Y % 8=0∧Y+8≤H:=by generalize i / (W / 8)=u at *;omega
  clear eX eY tm td
  have bY64:Y / 64 < (H+63) / 64:=by omega
  have bX64:X / 64 < (W+63) / 64:=by omega
  have hJ:Y / 64*((W+63) / 64)+X / 64 < ws.length:=by
   rw [hwl,Nat.mul_comm ((W+63) / 64)]
   exact zcp bY64 bX64
  have eJ:i64.wrap ((i64.wrap ((i64.wrap (Int.tdiv (Y:Int) 64))*(i64.wrap (Int.tdiv (i64.wrap ((i64.wrap (f.p0.w+64)) - 1)) 64))))+(i64.wrap (Int.tdiv (X:Int) 64)))=((Y / 64*((W+63) / 64)+X / 64:Nat):Int):=by
   rw [hW,w64 (x:=(W:Int)+64) (by omega),w64 (x:=(W:Int)+64 - 1) (by omega),show (W:Int)+64 - 1=((W+63:Nat):Int) by omega,show Int.tdiv ((W+63:Nat):Int) 64=(((W+63) / 64:Nat):Int) from rfl,
    show Int.tdiv (Y:Int) 64=((Y / 64:Nat):Int) from rfl,show Int.tdiv (X:Int) 64=((X / 64:Nat):Int) from rfl,w64 (x:=(((W+63) / 64:Nat):Int)) (by omega),w64 (x:=((Y / 64:Nat):Int)) (by omega),w64 (x:=((X / 64:Nat):Int)) (by omega),← Int.natCast_mul]
   generalize Y / 64*((W+63) / 64)=u at *
   rw [w64 (x:=(u:Int)) (by omega),w64 (by omega)];omega
  rw [eJ]
  generalize Y / 64*((W+63) / 64)+X / 64=J at *
  refine Evp.pos (by omega) ?_
  simp only [Int.toNat_natCast]
  refine Evp.ldI (hV.pre hp) hJ fun _ _=>?_
  have hJ4:=hC.2.2.2 J hJ
  refine Evp.pos (by omega) ?_
  obtain ⟨q,hq'⟩:∃ q,q=(ws.getD J 0).toNat:=⟨_,rfl⟩
  rw [← hq'] at on2 ⊢
  have hqn:q < hd.n:=by omega
  obtain ⟨a,ea,l0,l1,l2,l3⟩:=ldS (hL.pre hp) (i:=q) hqn
  have sq:=hC.2.2.1 q hqn
  refine Evp.some ea (Evp.some l0 (Evp.some l1 (Evp.some l2 (Evp.some l3 ?_))))
  refine Evp.ob (zqp lo f.p0.w f.p0.h f.p0.A f.p0.c f.p0.xs X Y 8 8 M ((hf.rd 0 (by omega)).pre hp) (hf.cap 0 (by omega)) (Nat.le_trans hlo hp.len)) ?_
  rintro ⟨v,M2⟩ ⟨p2,hb⟩
  rw [if_pos ⟨hf.chk 0 (by omega),show jr f.p0.w f.p0.h X Y 8 8 from ⟨by decide,by decide,by omega,by omega,by omega,by omega⟩⟩] at hb
  obtain ⟨B,cb,e',gB,_⟩:=hb
  have e8:v7 f.p0.w.toNat f.p0.xs (X:Int).toNat (Y:Int).toNat (8:Int).toNat ((8:Int).toNat*(8:Int).toNat)=ug f X Y:=rfl
  rw [e8] at e' gB
  simp only at e' gB p2
  subst e'
  simp only [RD,RE,Nat.reduceAdd,Nat.reduceLT]
  refine Evp.neb (fun g=>absurd rfl g) fun _=>?_
  have rB:RdI M2 .u8 B (ug f X Y):=gB.rd
  refine Evp.ob (zgy lo B cb (ug f X Y) M2 rB (z5a (hf.by_ 0 (by omega)) X Y)) ?_
  rintro _ rfl
  rw [if_pos (zh8 f X Y)]
  simp only [RD,RE,Nat.reduceAdd,Nat.reduceLT]
  refine Evp.ret ?_
  exact zif lo f V Q ws.length vc qs.length qc hd M0 ad cc R hlo hf hcc hw h8 v8 _ _ _ X Y ⟨bX.1,by omega⟩ ⟨bY.1,by omega⟩ _ _ _ _ sq hC.1 _ M2 (hp.trans p2) (hB.pre p2) on2
end
abbrev z4i:List Value:=[.int .i64 0,.int .i64 0,.slice none 0 0,.int .i64 0,.int .i64 0,.slice none 0 0,.int .i64 0,.int .i64 0,.slice none 0 0]
def vq (f:Fr3)(qs:List Bool)(ws:List Int)(hd:Hd)(L:List Int):Nat→List Int:=if hd.cdef=true then vt f qs ws L hd.damp qs.length else fun n=>(f.at n).xs
def z7g (f:Fr3)(qs:List Bool)(ws:List Int)(hd:Hd)(L:List Int)(M:Mem)(r:Value × Mem):Prop:=
 Pre M r.2∧((uh f qs.length ws hd L∧∃ ad cc,r.1=.tuple ⟨[.agg ⟨csL f ad cc⟩,.int .i64 0]⟩∧(∀ n,n < 3→(f.at n).xs.length≤cc n)∧Bufs M r.2 f ad (vq f qs ws hd L))∨(¬ uh f qs.length ws hd L∧r.1=.tuple ⟨[.agg ⟨z4i⟩,.int .i64 2]⟩))
def z02 {α:Type}(a b c:α):Nat→α
 | 0=>a
 | 1=>b
 | _=>c
theorem zjj {M0 M1 M2 M3:Mem}{f:Fr3}(hf:FrOk M0 f){A0 A1 A2:Option Addr}(p1:Pre M0 M1)(p2:Pre M1 M2)(p3:Pre M2 M3)(o0:z45 M0 M1 A0 f.p0.xs)(o1:z45 M1 M2 A1 f.p1.xs)(o2:z45 M2 M3 A2 f.p2.xs) :
  ∃ a0 a1 a2,A0=some a0∧A1=some a1∧A2=some a2∧Bufs M0 M3 f (z02 a0 a1 a2) fun n=>(f.at n).xs:=by
 have pos:∀ n,n < 3→(f.at n).xs≠[]:=fun n hn e=>by
  have:=zy (hf.chk n hn)
  have a:=zbr ⟨this.1,this.2.1,this.2.2.1,this.2.2.2.1⟩
  have h:=this.2.2.2.2
  rw [e] at h
  simp only [List.length_nil] at h
  omega
 rcases o0 with e | ⟨a0,e0,b0⟩
 ·exact absurd e (pos 0 (by omega))
 rcases o1 with e | ⟨a1,e1,b1⟩
 ·exact absurd e (pos 1 (by omega))
 rcases o2 with e | ⟨a2,e2,b2⟩
 ·exact absurd e (pos 2 (by omega))
 have i0:=b0.in_
 have i1:=b1.in_
 have n1:=b1.new
 have n2:=b2.new
 have l1:=p1.len
 have l2:=p2.len
 have ne:a0.block≠a1.block∧a0.block≠a2.block∧a1.block≠a2.block:=⟨by omega,by omega,by omega⟩
 refine ⟨a0,a1,a2,e0,e1,e2,fun n hn=>?_,fun _ _=>rfl,fun m n hm hn hmn=>?_⟩
 ·rcases lt3 hn with rfl | rfl | rfl
  ·exact b0.pre (p2.trans p3)
  ·exact (b1.floor l1).pre p3
  ·exact b2.floor (by omega)
 ·rcases lt3 hm with rfl | rfl | rfl <;> rcases lt3 hn with rfl | rfl | rfl
  ·exact absurd rfl hmn
  ·exact ne.1
  ·exact ne.2.1
  ·exact ne.1.symm
  ·exact absurd rfl hmn
  ·exact ne.2.2
  ·exact ne.2.1.symm
  ·exact ne.2.2.symm
  ·exact absurd rfl hmn
section
variable (lo:Nat)(f:Fr3)(Q V:Option Addr)(qc vc:Nat)(qs:List Bool)(ws:List Int)(hd:Hd)(L:List Int)(M:Mem)
variable (hlo:lo≤M.length)(hf:FrIn M f)(hQ:RdB M Q qs)(hV:RdI M .i64 V ws)(hn:ws.length≤17592186043904)(hL:Rd M hd.A hd.n 4 (L.map (Value.int .i64)))
include hlo hf hQ hV hn hL
theorem znp:Ac P T lo F.zj [.agg ⟨f.cells⟩,.slice Q qs.length qc,.slice V ws.length vc,.agg ⟨hd.cells⟩] M (z7g f qs ws hd L M):=by
 refine Ac.of (Evp.of_eq (fun k=>zj.entry k ..) ?_)
 refine Evp.ob (znn lo f Q V qs.length qc vc ws hd L M hV hn hL) ?_
 rintro _ ⟨b,M0,rfl,p0,hb⟩
 simp only [RD,RE,Nat.reduceAdd,Nat.reduceLT]
 refine Evp.nb (fun g=>?_) fun g=>?_
 ·have hm:¬ uh f qs.length ws hd L:=fun e=>by rw [hb.2 e] at g;cases g
  exact Evp.ret (Run.ret ⟨p0,.inr ⟨hm,rfl⟩⟩)
 have hm:=hb.1 g
 have hw:=hm.1
 have hf0:=(hf.ok hw).pre p0
 have sm:∀ n,n < 3→(f.at n).xs.length≤140737488351232:=fun n hn=>by
  have:=zy (hf0.chk n hn)
  have a:=zbr ⟨this.1,this.2.1,this.2.2.1,this.2.2.2.1⟩
  have h:=this.2.2.2.2
  omega
 have hlo0:=Nat.le_trans hlo p0.len
 refine Evp.ret ?_
 refine kut (fun k=>zj.Pa k ..) ?_
 refine Evp.tt rfl (Evp.pos (by decide) (Evp.some rfl ?_))
 refine Evp.ob (z6u lo f.p0.A f.p0.c f.p0.xs M0 (hf0.rd 0 (by omega)) (sm 0 (by omega)) hlo0) ?_
 rintro _ ⟨A0,c0,M1,rfl,p1,k0,o0⟩
 simp only [RD,RE,Nat.reduceAdd,Nat.reduceLT]
 refine Evp.pos (by decide) (Evp.pos (Nat.le_of_ble_eq_true rfl) ?_)
 rw [show i64.wrap (0+1)=1 from by decide]
 refine Evp.ret ?_
 refine kut (fun k=>zj.Pa k ..) ?_
 refine Evp.tt rfl (Evp.pos (by decide) (Evp.some rfl ?_))
 refine Evp.ob (z6u lo f.p1.A f.p1.c f.p1.xs M1 ((hf0.rd 1 (by omega)).pre p1) (sm 1 (by omega)) (Nat.le_trans hlo0 p1.len)) ?_
 rintro _ ⟨A1,c1,M2,rfl,p2,k1,o1⟩
 simp only [RD,RE,Nat.reduceAdd,Nat.reduceLT]
 refine Evp.pos (by decide) (Evp.pos (Nat.le_of_ble_eq_true rfl) ?_)
 rw [show i64.wrap (1+1)=2 from by decide]
 refine Evp.ret ?_
 refine kut (fun k=>zj.Pa k ..) ?_
 refine Evp.tt rfl (Evp.pos (by decide) (Evp.some rfl ?_))
 refine Evp.ob (z6u lo f.p2.A f.p2.c f.p2.xs M2 ((hf0.rd 2 (by omega)).pre (p1.trans p2)) (sm 2 (by omega)) (Nat.le_trans hlo0 (p1.trans p2).len)) ?_
 rintro _ ⟨A2,c2,M3,rfl,p3,k2,o2⟩
 simp only [RD,RE,Nat.reduceAdd,Nat.reduceLT]
 refine Evp.pos (by decide) (Evp.pos (Nat.le_of_ble_eq_true rfl) ?_)
 rw [show i64.wrap (2+1)=3 from by decide]
 obtain ⟨a0,a1,a2,rfl,rfl,rfl,hB⟩:=zjj hf0 p1 p2 p3 o0 o1 o2
 have p03:=(p1.trans p2).trans p3
 have hcc:∀ n,n < 3→(f.at n).xs.length≤z02 c0 c1 c2 n:=fun n hn=>by
  rcases lt3 hn with rfl | rfl | rfl
  ·exact k0
  ·exact k1
  ·exact k2
 refine Evp.ret ?_
 refine kut (fun k=>zj.Pa k ..) ?_
 refine Evp.ff rfl ?_
 refine Evp.nb (fun gc=>?_) fun gc=>?_
 ·refine Evp.some rfl (Evp.some rfl (Evp.some rfl (Evp.some rfl (Evp.some rfl (Evp.some rfl (Evp.some rfl (Evp.some rfl (Evp.some rfl ?_))))))))
  refine Evp.ret (Run.ret ⟨p0.trans p03,.inl ⟨hm,z02 a0 a1 a2,z02 c0 c1 c2,rfl,hcc,?_⟩⟩)
  unfold vq
  rw [if_neg (by rw [gc];decide)]
  exact ⟨fun n hn=>(hB.buf n hn).floor p0.len,hB.len,hB.ne⟩
 ·have hC:=hm.2.2.2.2.2 gc
  have sw:jq f.p0.w:=hw.2.1
  have sh:jq f.p0.h:=hw.2.2.1
  unfold jq at sw sh
  have hq:qs.length=f.p0.w.toNat / 8*(f.p0.h.toNat / 8):=by
   have:=hm.2.2.2.1
   obtain ⟨W,hW⟩:=Int.eq_ofNat_of_zero_le (a:=f.p0.w) (by omega)
   obtain ⟨H,hH⟩:=Int.eq_ofNat_of_zero_le (a:=f.p0.h) (by omega)
   rw [hW,hH,show (W:Int) / 8=((W / 8:Nat):Int) by omega,show (H:Int) / 8=((H / 8:Nat):Int) by omega,← Int.natCast_mul] at this
   rw [hW,hH]
   simp only [Int.toNat_natCast]
   omega
  have eac:i64.wrap (Int.tdiv f.p0.w 8)=((f.p0.w.toNat / 8:Nat):Int):=by
   rw [Int.tdiv_eq_ediv_of_nonneg (by omega),w64 (by omega)];omega
  rw [eac]
  refine Evp.ret ?_
  refine zig lo f V Q vc qc hd M0 (z02 a0 a1 a2) (z02 c0 c1 c2) (z7g f qs ws hd L M) hlo0 hf0 hcc hw hm.2.1 hm.2.2.1 qs ws L hq hm.2.2.2.2.1 hC (hQ.pre p0) (hV.pre p0) (hL.pre p0) (fun M' q1 q2=>⟨p0.trans q1,.inl ⟨hm,z02 a0 a1 a2,z02 c0 c1 c2,rfl,hcc,?_⟩⟩) qs.length 0 M3 rfl (Nat.zero_le _) p03 hB
  unfold vq
  rw [if_pos gc]
  exact ⟨fun n hn=>(q2.buf n hn).floor p0.len,q2.len,q2.ne⟩
end
abbrev Plv.with (p:Plv)(A:Option Addr)(c:Nat):Plv:=⟨p.w,p.h,A,c,p.xs⟩
def Fr3.to (f:Fr3)(A:Nat→Option Addr)(c:Nat→Nat):Fr3:=⟨f.p0.with (A 0) (c 0),f.p1.with (A 1) (c 1),f.p2.with (A 2) (c 2)⟩
theorem zh9 (f:Fr3)(A:Nat→Option Addr)(c:Nat→Nat)(qs:List Bool)(ws L:List Int)(damp:Int):∀ i n,n < 3→vt (f.to A c) qs ws L damp i n=vt f qs ws L damp i n
 | 0,n,hn=>by rcases lt3 hn with rfl | rfl | rfl <;> rfl
 | i+1,n,hn=>by
  have ih:=zh9 f A c qs ws L damp i n hn
  have e:∀ X Y a b c' d o,z3n (f.to A c) damp X Y a b c' d n o=z3n f damp X Y a b c' d n o:=fun X Y a b c' d o=>by rcases lt3 hn with rfl | rfl | rfl <;> rfl
  simp only [vt]
  split
  ·exact ih
  ·show z3n (f.to A c) damp _ _ _ _ _ _ n (vt (f.to A c) qs ws L damp i n)=_
   rw [e,ih]
   rfl
theorem zqr (f:Fr3)(A:Nat→Option Addr)(c:Nat→Nat)(qs:List Bool)(ws:List Int)(hd:Hd)(L:List Int)(n:Nat)(hn:n < 3):vq (f.to A c) qs ws hd L n=vq f qs ws hd L n:=by
 unfold vq
 split
 ·exact zh9 f A c qs ws L hd.damp _ n hn
 ·rcases lt3 hn with rfl | rfl | rfl <;> rfl
end Go.Zt

