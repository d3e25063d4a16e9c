/- What the law ChainRuns needs of the text Fw. -/
import Derived.Test.YtbbfdebfhgdciaaGreatPFv
set_option linter.unusedVariables false
set_option linter.unusedSimpArgs false
set_option maxRecDepth 100000
namespace Go.Zt
open IntKind (i64 u8)
section
variable (lo:Nat)(t:Tp)(M:Mem)
theorem z6t:Ac P T lo F.z9y [.agg ⟨[.int .i64 t.a,.int .i64 t.b,.int .i64 t.c]⟩] M fun r=>r=(.bool (decide (vf t)),M):=by
 have no:¬ vf t→Run P T lo F.z9y (.ret (.bool false) M) fun r=>r=(.bool (decide (vf t)),M):=fun h=>Run.ret (by rw [decide_eq_false h])
 refine Ac.of (Evp.of_eq (fun k=>z9y.entry k ..) ?_)
 refine Evp.dec (fun h1=>?_) fun h1=>Evp.ret (no fun e=>h1 e.1.1)
 refine Evp.dec (fun h2=>?_) fun h2=>Evp.ret (no fun e=>h2 e.1.2)
 refine Evp.dec (fun h3=>?_) fun h3=>Evp.ret (no fun e=>h3 e.2.1.1)
 refine Evp.dec (fun h4=>?_) fun h4=>Evp.ret (no fun e=>h4 e.2.1.2)
 refine Evp.dec (fun h5=>?_) fun h5=>Evp.ret (no fun e=>h5 e.2.2.1)
 refine Evp.ret (Run.ret ?_)
 congr 2
 exact decide_eq_decide.2 ⟨fun e=>⟨⟨h1,h2⟩,⟨h3,h4⟩,h5,e⟩,fun e=>e.2.2.2⟩
theorem zep:Ac P T lo F.z8x [.agg ⟨[.int .i64 t.a,.int .i64 t.b,.int .i64 t.c]⟩] M (zrm t M):=by
 refine Ac.of (Evp.of_eq (fun k=>z8x.entry k ..) ?_)
 refine Evp.ob (z6t ..) ?_
 rintro _ rfl
 simp only [RD,RE,Nat.reduceAdd,Nat.reduceLT]
 by_cases h:vf t
 ·rw [decide_eq_true h]
  have h':=h
  unfold vf at h'
  rw [w64 (x:=t.a+t.b) (by omega),w64 (x:=t.a+t.b+t.c) (by omega),w64 (x:=2*(t.a+t.b+t.c)) (by omega),w64 (x:=128 - 2*(t.a+t.b+t.c)) (by omega)]
  refine Evp.ff rfl (Evp.ret (Run.ret ⟨_,_,_,_,_,_,_,by rw [if_pos h],?_⟩))
  unfold z42
  rw [if_pos h]
 ·rw [decide_eq_false h]
  refine Evp.tt rfl (Evp.ret (Run.ret ⟨_,_,_,_,_,_,_,by rw [if_neg h],?_⟩))
  unfold z42
  rw [if_neg h]
end
section
variable (lo:Nat)(u:Un)(M:Mem)(w:u.wf)
include w
theorem zkq:Ac P T lo F.z8t [.agg ⟨u.cells⟩] M fun r=>r=(.int .i64 (z0c u),M):=by
 have yes:(u.on=true∧vf u.v∧vf u.h)→z0c u=0:=fun h=>by unfold z0c;rw [if_pos (.inl h)]
 refine Ac.of (Evp.of_eq (fun k=>z8t.entry k ..) ?_)
 refine Evp.bb (fun h1=>?_) fun h1=>z43 lo u M w fun e=>by rw [e.1] at h1;cases h1
 refine Evp.ob (z6t lo u.v M) ?_
 rintro _ rfl
 simp only [RD,RE,Nat.reduceAdd,Nat.reduceLT]
 refine Evp.dec (fun h2=>?_) fun h2=>z43 lo u M w fun e=>h2 e.2.1
 refine Evp.ob (z6t lo u.h M) ?_
 rintro _ rfl
 simp only [RD,RE,Nat.reduceAdd,Nat.reduceLT]
 refine Evp.dec (fun h3=>?_) fun h3=>z43 lo u M w fun e=>h3 e.2.2
 exact Evp.ret (Run.ret (by rw [yes ⟨h1,h2,h3⟩]))
end
theorem zqc (lo:Nat)(v:Int)(M:Mem)(hv : -1000000000≤v∧v≤1000000000):Ac P T lo F.z3r [.int .i64 v,.int .i64 3] M fun r=>r=(.int .i64 ((v+4) / 8),M):=by
 refine Ac.of (Evp.of_eq (fun k=>z3r.entry k ..) ?_)
 refine Evp.neg (by decide) (Evp.neg (by decide) (Evp.ret (Run.ret ?_)))
 rw [show (i64.wrap ((3:Int) - 1)).toNat=2 from by decide,zan 2 (by omega),show ((3:Int)).toNat=3 from rfl,show ((2:Int) ^ 2)=4 from rfl,w64 (by omega),ud 3 (by omega)];rfl
theorem zol (lo:Nat)(v:Int)(M:Mem)(hv : -1000000000≤v∧v≤1000000000):Ac P T lo F.z3r [.int .i64 v,.int .i64 11] M fun r=>r=(.int .i64 ((v+1024) / 2048),M):=by
 refine Ac.of (Evp.of_eq (fun k=>z3r.entry k ..) ?_)
 refine Evp.neg (by decide) (Evp.neg (by decide) (Evp.ret (Run.ret ?_)))
 rw [show (i64.wrap ((11:Int) - 1)).toNat=10 from by decide,zan 10 (by omega),show ((11:Int)).toNat=11 from rfl,show ((2:Int) ^ 10)=1024 from rfl,w64 (by omega),ud 11 (by omega)];rfl
section
variable (lo:Nat)(A:Option Addr)(cap:Nat)(xs:List Int)(w h y:Nat)(a b c d e f g:Int)(M0:Mem)
variable (hlo:lo≤M0.length)(hx:RdI M0 .u8 A xs)(bx:zh xs)(hw:1≤w∧w≤512)(hh:h≤512)(hn:xs.length=h*w)(hy:y < h)(ht:TsB [a,b,c,d,e,f,g])(hcap:xs.length≤cap)
include hx bx hw hn hy ht hh in
theorem zgm (x:Nat)(hx2:x≤1024)(M:Mem)(hp:Pre M0 M):∀ (q i:Nat),7 - i=q→i≤7 →
  Run P T lo F.jy (jy.Ca x y (z9s [a,b,c,d,e,f,g] xs w y x i) i w h A xs.length cap a b c d e f g M) fun r=>r=(.int .i64 (acS [a,b,c,d,e,f,g] xs w y x),M):=by
 intro q
 induction q with
 | zero=>
  intro i hq hi
  obtain rfl:i=7:=by omega
  have:=z7d ht bx w y x 7
  refine kut (fun k=>jy.Pa k ..) ?_
  refine Evp.ff rfl ?_
  refine Evp.ob (zqc _ _ _ (by omega)) ?_
  rintro _ rfl
  simp only [RD,RE,Nat.reduceAdd,Nat.reduceLT]
  refine Evp.ob (vp ..) ?_
  rintro _ rfl
  simp only [RD,RE,Nat.reduceAdd,Nat.reduceLT]
  exact Evp.ret (Run.ret rfl)
 | succ q ih=>
  intro i hq hi
  have ha:=z7d ht bx w y x i
  have hp2:=zdl (ht.2 i) (bx.get (y*w+cxS w x i))
  have bg:=bx.get (y*w+cxS w x i)
  obtain ⟨e1,e2⟩:=zpo (w:=w) (x:=x) (i:=i) hw.1
  have hlt:=z5z hy e2
  have sm:y*w≤512*512:=Nat.mul_le_mul (by omega) hw.2
  refine kut (fun k=>jy.Pa k ..) ?_
  refine Evp.dec (fun _=>?_) fun h=>absurd h (by omega)
  refine Evp.pos (by omega) ?_
  simp only [Int.toNat_natCast,Nat.zero_add]
  refine Evp.some (z4r i (by omega)) ?_
  rw [w64 (x:=(x:Int)+i) (by omega),w64 (x:=(x:Int)+i - 3) (by omega),w64 (x:=(w:Int) - 1) (by omega)]
  refine Evp.ob (vp ..) ?_
  rintro _ rfl
  simp only [RD,RE,Nat.reduceAdd,Nat.reduceLT]
  rw [e1,← Int.natCast_mul,w64 (x:=((y*w:Nat):Int)) (by omega),← Int.natCast_add,w64 (x:=((y*w+cxS w x i:Nat):Int)) (by omega)]
  refine Evp.pos (z7e (by omega)) ?_
  simp only [Int.toNat_natCast]
  refine Evp.ldI (hx.pre hp) (by omega) fun _ _=>?_
  rw [w64 (x:=xs.getD (y*w+cxS w x i) 0) (by omega),w64 (x:=_*_) (by omega),w64 (x:=_+_*_) (by omega),w64 (x:=(i:Int)+1) (by omega)]
  exact Evp.ret (ih (i+1) (by omega) (by omega))
include hx bx hw hn hy ht hh in
theorem zcg (x:Nat)(hx2:x≤1024)(M:Mem)(hp:Pre M0 M):Ac P T lo F.jy [.agg ⟨[.int .i64 w,.int .i64 h,.slice A xs.length cap]⟩,.int .i64 x,.int .i64 y,.agg ⟨[.int .i64 a,.int .i64 b,.int .i64 c,.int .i64 d,.int .i64 e,.int .i64 f,.int .i64 g]⟩] M fun r=>r=(.int .i64 (acS [a,b,c,d,e,f,g] xs w y x),M):=by
 refine Ac.of (Evp.of_eq (fun k=>jy.entry k ..) ?_)
 exact Evp.ret (zgm lo A cap xs w h y a b c d e f g M0 hx bx hw hh hn hy ht x hx2 M hp 7 0 rfl (by omega))
end
section
variable (lo:Nat)(A B:Option Addr)(cap capb:Nat)(xs bs:List Int)(w h side y x:Nat)(u:Un)(M0:Mem)
variable (hx:RdI M0 .u8 A xs)(hb:RdI M0 .u8 B bs)(bx:zh xs)(bb':zh bs)(hw:1≤w∧w≤512)(hh:h≤512)(hn:xs.length=h*w)(hnb:bs.length=h*w)(hy:y < h)(hxw:x < w)(hs:z15 side)
include hx hb bx bb' hw hh hn hnb hy hxw hs
theorem zf5:Ac P T lo F.y6 [.agg ⟨[.int .i64 w,.int .i64 h,.slice A xs.length cap]⟩,.agg ⟨[.int .i64 w,.int .i64 h,.slice B bs.length capb]⟩,.int .i64 x,.int .i64 y,.agg ⟨u.cells⟩,.int .i64 side] M0 fun r=>r=(.int .u8 (z59 u xs bs w h side y x),M0):=by
 have hs':=hs
 unfold z15 at hs'
 obtain ⟨s1,s2⟩:=zjf hs y (by omega)
 have f:=zck (y:=y) hs
 refine Ac.of (Evp.of_eq (fun k=>y6.entry k ..) ?_)
 refine Evp.ob (zep lo u.v M0) ?_
 rintro _ ⟨a,b,c,d,e,f1,g,rfl,ev⟩
 simp only [RD,RE,Nat.reduceAdd,Nat.reduceLT]
 refine Evp.ob (zep lo u.h M0) ?_
 rintro _ ⟨a',b',c',d',e',f',g',rfl,eh⟩
 simp only [RD,RE,Nat.reduceAdd,Nat.reduceLT]
 refine Evp.neg (by omega) ?_
 rw [s1,s2]
 have tv:=zad u.v
 have th:=zad u.h
 rw [ev] at tv
 rw [eh] at th
 have es:z59 u xs bs w h side y x=z4h [a,b,c,d,e,f1,g] [a',b',c',d',e',f',g'] xs bs w h side y x:=by unfold z59;rw [ev,eh]
 rw [es]
 have loop:∀ (q i:Nat),7 - i=q→i≤7→Run P T lo F.y6 (y6.Ca x y (qj side y) (qj side y+side) (z2n [a,b,c,d,e,f1,g] [a',b',c',d',e',f',g'] xs bs w h side y x i) i w h A xs.length cap w h B bs.length capb a b c d e f1 g a' b' c' d' e' f' g' M0) fun r=>r=(.int .u8 (z4h [a,b,c,d,e,f1,g] [a',b',c',d',e',f',g'] xs bs w h side y x),M0):=by
  intro q
  induction q with
  | zero=>
   intro i hq hi
   obtain rfl:i=7:=by omega
   have:=z7f tv [a',b',c',d',e',f',g'] xs bs w h side y x 7
   refine kut (fun k=>y6.Pa k ..) ?_
   refine Evp.ff rfl ?_
   refine Evp.ob (zol _ _ _ (by omega)) ?_
   rintro _ rfl
   simp only [RD,RE,Nat.reduceAdd,Nat.reduceLT]
   refine Evp.ob (vp ..) ?_
   rintro _ rfl
   simp only [RD,RE,Nat.reduceAdd,Nat.reduceLT]
   refine Evp.ret (Run.ret ?_)
   have l:=zgt [a,b,c,d,e,f1,g] [a',b',c',d',e',f',g'] xs bs w h side y x
   unfold z4h at *
   rw [wu8 (by omega)]
  | succ q ih=>
   intro i hq hi
   have v1:=z7f tv [a',b',c',d',e',f',g'] xs bs w h side y x i
   have v2:=zbk (tv.2 i) (zdm [a',b',c',d',e',f',g'] xs bs w h side y x i)
   obtain ⟨r1,r2⟩:=znb (h:=h) hs hy (i:=i) (by omega)
   have next:∀ z:Int,z=z2n [a,b,c,d,e,f1,g] [a',b',c',d',e',f',g'] xs bs w h side y x (i+1)→Run P T lo F.y6 (y6.Cb x y (qj side y) (qj side y+side) z i w h A xs.length cap w h B bs.length capb a b c d e f1 g a' b' c' d' e' f' g' M0) fun r=>r=(.int .u8 (z4h [a,b,c,d,e,f1,g] [a',b',c',d',e',f',g'] xs bs w h side y x),M0):=fun z hz=>by
    subst hz
    refine kut (fun k=>y6.Pb k ..) ?_
    rw [w64 (x:=(i:Int)+1) (by omega)]
    exact Evp.ret (ih (i+1) (by omega) (by omega))
   refine kut (fun k=>y6.Pa k ..) ?_
   refine Evp.dec (fun _=>?_) fun h=>absurd h (by omega)
   rw [w64 (x:=(y:Int)+i) (by omega),w64 (x:=(y:Int)+i - 3) (by omega),w64 (x:=(h:Int) - 1) (by omega),w64 (x:=qj side y - 2) (by omega),w64 (x:=qj side y+side+1) (by omega)]
   refine Evp.ob (vp ..) ?_
   rintro _ rfl
   simp only [RD,RE,Nat.reduceAdd,Nat.reduceLT]
   refine Evp.ob (vp ..) ?_
   rintro _ rfl
   simp only [RD,RE,Nat.reduceAdd,Nat.reduceLT]
   rw [show y8 (y8 ((y:Int)+i - 3) 0 ((h:Int) - 1)) (qj side y - 2) (qj side y+side+1)=z8g h side y i from rfl,r1]
   have acx:=zcg M0.length A cap xs w h (z2m h side y i) a' b' c' d' e' f' g' M0 hx bx hw hh hn r2 th x (by omega) M0 (Pre.refl _)
   have acb:=zcg M0.length B capb bs w h (z2m h side y i) a' b' c' d' e' f' g' M0 hb bb' hw hh hnb r2 th x (by omega) M0 (Pre.refl _)
   have out:¬ inS h side y i→Evp (fun k=>pb (0≤(i:Int)∧(i:Int) < (7:Int)) (ob ((([.int .i64 a,.int .i64 b,.int .i64 c,.int .i64 d,.int .i64 e,.int .i64 f1,.int .i64 g]:List Value)[0+(i:Int).toNat+0]?).bind (Value.int? .i64)) fun x55=>
     ob (z5 P T k M0.length F.jy [.agg ⟨[.int .i64 w,.int .i64 h,.slice B bs.length capb]⟩,.int .i64 x,.int .i64 (z2m h side y i:Nat),.agg ⟨[.int .i64 a',.int .i64 b',.int .i64 c',.int .i64 d',.int .i64 e',.int .i64 f',.int .i64 g']⟩] M0) fun r56=>ob ((some r56.1).bind (Value.int? .i64)) fun x57=>
     some (y6.Cb x y (qj side y) (qj side y+side) (i64.wrap (z2n [a,b,c,d,e,f1,g] [a',b',c',d',e',f',g'] xs bs w h side y x i+(i64.wrap (x55*x57)))) i w h A xs.length cap w h B bs.length capb a b c d e f1 g a' b' c' d' e' f' g' r56.2)) none) fun out=>Run P T lo F.y6 out fun r=>r=(.int .u8 (z4h [a,b,c,d,e,f1,g] [a',b',c',d',e',f',g'] xs bs w h side y x),M0):=fun hno=>by
    have et:z4x [a',b',c',d',e',f',g'] xs bs w h side y x i=acS [a',b',c',d',e',f',g'] bs w (z2m h side y i) x:=by unfold z4x;rw [if_neg hno]
    rw [et] at v2
    refine Evp.pos (by omega) ?_
    simp only [Int.toNat_natCast,Nat.zero_add]
    refine Evp.some (z4r i (by omega)) ?_
    refine Evp.ob acb ?_
    rintro _ rfl
    simp only [RD,RE,Nat.reduceAdd,Nat.reduceLT]
    rw [w64 (x:=_*_) (by omega),w64 (x:=_+_*_) (by omega)]
    exact Evp.ret (next _ (by simp only [z2n];rw [et]))
   refine Evp.dec (fun g1=>?_) fun g1=>out fun e=>g1 (by rw [← r1];exact e.1)
   refine Evp.dec (fun g2=>?_) fun g2=>out fun e=>g2 (by rw [← r1];exact e.2)
   have et:z4x [a',b',c',d',e',f',g'] xs bs w h side y x i=acS [a',b',c',d',e',f',g'] xs w (z2m h side y i) x:=by
    unfold z4x;rw [if_pos ⟨by rw [r1];exact g1,by rw [r1];exact g2⟩]
   rw [et] at v2
   refine Evp.pos (by omega) ?_
   simp only [Int.toNat_natCast,Nat.zero_add]
   refine Evp.some (z4r i (by omega)) ?_
   refine Evp.ob acx ?_
   rintro _ rfl
   simp only [RD,RE,Nat.reduceAdd,Nat.reduceLT]
   rw [w64 (x:=_*_) (by omega),w64 (x:=_+_*_) (by omega)]
   exact Evp.ret (next _ (by simp only [z2n];rw [et]))
 exact Evp.ret (loop 7 0 rfl (by omega))
end
theorem zqd {w h side y x:Nat}(hs:z15 side)(hy:y < h)(hx:x < w):y / side*yr w side+x / side < yr w side*yr h side:=by
 have:=z5z (h:=yr h side) (w:=yr w side) (y:=y / side) (c:=x / side) (zbl hs hy) (zbl hs hx)
 rwa [Nat.mul_comm (yr h side)] at this
section
variable (lo:Nat)(AU A B:Option Addr)(cu cap capb:Nat)(us:List Un)(xs bs:List Int)(w h side:Nat)(M0:Mem)
variable (hlo:lo≤M0.length)(hU:RdU M0 AU us)(hx:RdI M0 .u8 A xs)(hb:RdI M0 .u8 B bs)(bx:zh xs)(bb':zh bs)(hw:1≤w∧w≤512)(hh:1≤h∧h≤512)(hn:xs.length=h*w)(hnb:bs.length=h*w)(hs:z15 side)(hul:us.length=yr w side*yr h side)
include hlo hU hx hb bx bb' hw hh hn hnb hs hul
theorem zkr (ao:Addr)(co y:Nat)(hy:y < h)(hnext:∀ zs M,Pre M0 M→Buf M0 M ao (zs.map (Value.int .u8))→kg us xs bs w h side ((y+1)*w) zs→Run P T lo F.zf (zf.Cb AU us.length cu side (yr w side:Nat) ((y+1:Nat):Int) w h A xs.length cap w h B bs.length capb 0 0 none 0 0 w h (some ao) xs.length co M) (kz M0 us w h w h side xs bs)) :
  ∀ (q x:Nat) (zs:List Int) (M:Mem),w - x=q→x≤w→Pre M0 M→Buf M0 M ao (zs.map (Value.int .u8))→kg us xs bs w h side (y*w+x) zs →
   Run P T lo F.zf (zf.Cc AU us.length cu side (yr w side:Nat) y x w h A xs.length cap w h B bs.length capb 0 0 none 0 0 w h (some ao) xs.length co M) (kz M0 us w h w h side xs bs):=by
 have hs':side=64∨side=32:=hs
 intro q
 induction q with
 | zero=>
  intro x zs M hq hi hp hbuf hinv
  refine kut (fun k=>zf.Pc k ..) ?_
  refine Evp.dec (fun h=>absurd h (by omega)) fun _=>?_
  rw [w64 (by omega)]
  refine Evp.ret (hnext zs M hp hbuf ?_)
  have:y*w+x=(y+1)*w:=by rw [Nat.add_mul,Nat.one_mul];omega
  rw [← this];exact hinv
 | succ q ih=>
  intro x zs M hq hi hp hbuf hinv
  have hxw:x < w:=by omega
  have hlt:=z5z hy hxw
  have sm:h*w≤512*512:=Nat.mul_le_mul hh.2 hw.2
  have next:∀ zs M,Pre M0 M→Buf M0 M ao (zs.map (Value.int .u8))→kg us xs bs w h side (y*w+x+1) zs→Run P T lo F.zf (zf.Cd AU us.length cu side (yr w side:Nat) y x w h A xs.length cap w h B bs.length capb 0 0 none 0 0 w h (some ao) xs.length co M) (kz M0 us w h w h side xs bs):=fun zs M hp hbuf hinv=>by
   refine kut (fun k=>zf.Pd k ..) ?_
   rw [w64 (by omega)]
   exact Evp.ret (ih (x+1) zs M (by omega) (by omega) hp hbuf hinv)
  obtain ⟨_,w1,w2⟩:=z5e hs hw
  have ul:=zqd hs hy hxw
  have ta:=znc (us:=us) (xs:=xs) (bs:=bs) (h:=h) (side:=side) (y:=y) hxw
  refine kut (fun k=>zf.Pc k ..) ?_
  refine Evp.dec (fun _=>?_) fun h=>absurd h (by omega)
  refine Evp.neg (by omega) (Evp.neg (by omega) ?_)
  have e1:Int.tdiv (y:Int) (side:Int)=((y / side:Nat):Int):=rfl
  have e2:Int.tdiv (x:Int) (side:Int)=((x / side:Nat):Int):=rfl
  have l1:y / side≤512:=Nat.le_trans (Nat.div_le_self _ _) (by omega)
  have l2:x / side≤512:=Nat.le_trans (Nat.div_le_self _ _) (by omega)
  have ei:i64.wrap ((i64.wrap ((i64.wrap (Int.tdiv (y:Int) (side:Int)))*((yr w side:Nat):Int)))+(i64.wrap (Int.tdiv (x:Int) (side:Int))))=((y / side*yr w side+x / side:Nat):Int):=by
   rw [e1,e2]
   have l3:y / side*yr w side≤512*16:=Nat.mul_le_mul l1 w2
   generalize y / side=p at *
   generalize x / side=s at *
   rw [w64 (x:=((p:Nat):Int)) (by omega),w64 (x:=((s:Nat):Int)) (by omega),← Int.natCast_mul,w64 (x:=((p*yr w side:Nat):Int)) (by omega),w64 (by omega)]
   omega
  rw [ei]
  refine Evp.pos (z7e (by rw [hul];exact ul)) ?_
  simp only [Int.toNat_natCast]
  refine Evp.ldU (hU.pre hp) (by rw [hul];exact ul) fun _ _=>?_
  refine Evp.bb (fun hon=>?_) fun hon=>?_
  ·refine Evp.ob (zf5 M.length A B cap capb xs bs w h side y x (us.getD (y / side*yr w side+x / side) u0) M (hx.pre hp) (hb.pre hp) bx bb' hw hh.2 hn hnb hy hxw hs) ?_
   rintro _ rfl
   simp only [RD,RE,Nat.reduceAdd,Nat.reduceLT]
   have ep:i64.wrap ((i64.wrap ((y:Int)*w))+(x:Int))=((y*w+x:Nat):Int):=by
    rw [← Int.natCast_mul,w64 (x:=((y*w:Nat):Int)) (by omega),w64 (by omega)];omega
   rw [ep]
   refine Evp.pos (z7e (by omega)) (Evp.some rfl ?_)
   simp only [Int.toNat_natCast]
   rw [if_pos hon] at ta
   obtain ⟨M',h1,h2,h3,h4,h5⟩:=hbuf.st (lo:=lo) (i:=y*w+x) (vs:=[.int .u8 (z59 (us.getD (y / side*yr w side+x / side) u0) xs bs w h side y x)]) hp hlo (by simp [hinv.1];omega)
   refine Evp.some h1 ?_
   rw [jf,qe,← ta] at h2
   exact Evp.ret (next _ M' h3 h2 (hinv.set hlt))
  ·refine Evp.ret (next zs M hp hbuf (hinv.skip (by omega) fun p g1 g2 g3=>?_))
   obtain rfl:p=y*w+x:=by omega
   rw [ta,if_neg (by rw [hon];simp)]
theorem zks (ao:Addr)(co:Nat)(hco:xs.length≤co)(hok:jp us w h xs.length w h bs.length side):∀ (q y:Nat) (zs:List Int) (M:Mem),h - y=q→y≤h→Pre M0 M→Buf M0 M ao (zs.map (Value.int .u8))→kg us xs bs w h side (y*w) zs →
  Run P T lo F.zf (zf.Cb AU us.length cu side (yr w side:Nat) y w h A xs.length cap w h B bs.length capb 0 0 none 0 0 w h (some ao) xs.length co M) (kz M0 us w h w h side xs bs):=by
 intro q
 induction q with
 | zero=>
  intro y zs M hq hi hp hbuf hinv
  obtain rfl:y=h:=by omega
  refine kut (fun k=>zf.Pb k ..) ?_
  refine Evp.dec (fun h=>absurd h (by omega)) fun _=>?_
  refine Evp.ret (Run.ret ⟨hp,?_⟩)
  rw [if_pos hok]
  refine ⟨ao,co,rfl,hco,?_⟩
  simp only [Int.toNat_natCast]
  rw [← hinv.full (Nat.le_refl _)];exact hbuf
 | succ q ih=>
  intro y zs M hq hi hp hbuf hinv
  refine kut (fun k=>zf.Pb k ..) ?_
  refine Evp.dec (fun _=>?_) fun h=>absurd h (by omega)
  exact Evp.ret (zkr lo AU A B cu cap capb us xs bs w h side M0 hlo hU hx hb bx bb' hw hh hn hnb hs hul ao co y (by omega) (fun zs M hp hbuf hinv=>ih (y+1) zs M (by omega) (by omega) hp hbuf hinv) _ 0 zs M rfl (by omega) hp hbuf hinv)
end
section
variable (lo:Nat)(AU A B:Option Addr)(cu cap capb:Nat)(us:List Un)(xs bs:List Int)(w h w' h' side:Int)(M0:Mem)
variable (hlo:lo≤M0.length)(hU:RdU M0 AU us)(hwf:∀ u ∈ us,u.wf)(hul:us.length≤140737488351232)(hx:RdI M0 .u8 A xs)(hb:RdI M0 .u8 B bs)(bx:zh xs)(bb':zh bs)
include hlo hU hwf hx hb bx bb'
theorem z9r:Ac P T lo F.zf [.agg ⟨[.int .i64 w,.int .i64 h,.slice A xs.length cap]⟩,.agg ⟨[.int .i64 w',.int .i64 h',.slice B bs.length capb]⟩,.slice AU us.length cu,.int .i64 side] M0 (kz M0 us w h w' h' side xs bs):=by
 have bad:¬ jp us w h xs.length w' h' bs.length side→Run P T lo F.zf (.ret (.tuple ⟨[.agg ⟨[.int .i64 0,.int .i64 0,.slice none 0 0]⟩,.int .i64 2]⟩) M0) (kz M0 us w h w' h' side xs bs):=fun hno=>Run.ret ⟨Pre.refl _,by rw [if_neg hno]⟩
 refine Ac.of (Evp.of_eq (fun k=>zf.entry k ..) ?_)
 refine Evp.ob (z11 ..) ?_
 rintro _ rfl
 simp only [RD,RE,Nat.reduceAdd,Nat.reduceLT]
 refine Evp.neb (fun g=>Evp.ret (bad fun e=>g e.1)) fun k1=>?_
 refine Evp.ob (z11 ..) ?_
 rintro _ rfl
 simp only [RD,RE,Nat.reduceAdd,Nat.reduceLT]
 refine Evp.neb (fun g=>Evp.ret (bad fun e=>g e.2.1)) fun k2=>?_
 refine Evp.neb (fun g=>Evp.ret (bad fun e=>g e.2.2.1)) fun k3=>?_
 refine Evp.neb (fun g=>Evp.ret (bad fun e=>g e.2.2.2.1)) fun k4=>?_
 subst k3;subst k4
 have s1:=zy k1
 have s2:=zy k2
 obtain ⟨w,rfl⟩:=Int.eq_ofNat_of_zero_le (a:=w) (by omega)
 obtain ⟨h,rfl⟩:=Int.eq_ofNat_of_zero_le (a:=h) (by omega)
 have n1:xs.length=h*w:=by have:=s1.2.2.2.2;rw [← Int.natCast_mul,Nat.mul_comm] at this;omega
 have n2:bs.length=h*w:=by have:=s2.2.2.2.2;rw [← Int.natCast_mul,Nat.mul_comm] at this;omega
 have rest:∀ sd:Nat,z15 sd→side=(sd:Int)→Evp (fun k=>pb (side=0) none (pb (side=0) none (bb ((us.length:Int) != i64.wrap ((i64.wrap (Int.tdiv (i64.wrap ((i64.wrap ((w:Int)+side)) - 1)) side))*(i64.wrap (Int.tdiv (i64.wrap ((i64.wrap ((h:Int)+side)) - 1)) side))))
   (some (.ret (.tuple ⟨[.agg ⟨[.int .i64 0,.int .i64 0,.slice none 0 0]⟩,.int .i64 2]⟩) M0))
   (some (zf.Ca AU us.length cu side (i64.wrap (Int.tdiv (i64.wrap ((i64.wrap ((w:Int)+side)) - 1)) side)) 0 w h A xs.length cap w h B bs.length capb 0 0 none 0 0 M0))))) fun out=>Run P T lo F.zf out (kz M0 us w h w h side xs bs):=by
  rintro sd hs rfl
  have hs':sd=64∨sd=32:=hs
  obtain ⟨e1,a1,a2⟩:=z5e (n:=w) hs (by omega)
  obtain ⟨e2,b1,b2⟩:=z5e (n:=h) hs (by omega)
  have sm:yr w sd*yr h sd≤16*16:=Nat.mul_le_mul a2 b2
  refine Evp.neg (by omega) (Evp.neg (by omega) ?_)
  rw [e1,e2,← Int.natCast_mul,w64 (x:=((yr w sd*yr h sd:Nat):Int)) (by omega)]
  refine Evp.neb (fun g=>Evp.ret (bad fun e=>?_)) fun hl=>?_
  ·have:=e.2.2.2.2.2.1
   simp only [Int.toNat_natCast] at this
   exact g (by rw [this])
  have hl:us.length=yr w sd*yr h sd:=by omega
  have loop:∀ (q i:Nat),us.length - i=q→i≤us.length→(∀ j,j < i→z2e (us.getD j u0))→Run P T lo F.zf (zf.Ca AU us.length cu sd (yr w sd:Nat) i w h A xs.length cap w h B bs.length capb 0 0 none 0 0 M0) (kz M0 us w h w h sd xs bs):=by
   intro q
   induction q with
   | zero=>
    intro i hq hi hj
    have ok:jp us w h xs.length w h bs.length sd:=⟨k1,k2,rfl,rfl,by omega,by simp only [Int.toNat_natCast];exact hl,fun u hu=>by
     obtain ⟨j,hj',rfl⟩:=List.mem_iff_getElem.1 hu
     have:=hj j (by omega)
     rw [List.getD_eq_getElem?_getD,List.getElem?_eq_getElem hj'] at this
     exact this⟩
    refine kut (fun k=>zf.Pa k ..) ?_
    refine Evp.dec (fun h=>absurd h (by omega)) fun _=>?_
    have sm2:h*w≤512*512:=Nat.mul_le_mul (by omega) (by omega)
    refine Evp.ob (vu _ _ _ _ _ _ _ hx (by omega)) ?_
    rintro _ ⟨S,cs,M2,rfl,p2,g2,k⟩
    simp only [RD,RE,Nat.reduceAdd,Nat.reduceLT]
    have hpos:1*1≤h*w:=Nat.mul_le_mul (by omega) (by omega)
    obtain ⟨ao,rfl,hbuf⟩:=k.buf (by omega)
    refine Evp.ret ?_
    have:=zks lo AU A B cu cap capb us xs bs w h sd M0 hlo hU hx hb bx bb' (by omega) (by omega) n1 n2 hs hl ao cs g2 ok h 0 xs M2 (by omega) (by omega) p2 hbuf (by rw [Nat.zero_mul];exact kg.start n1)
    exact this
   | succ q ih=>
    intro i hq hi hj
    refine kut (fun k=>zf.Pa k ..) ?_
    refine Evp.dec (fun _=>?_) fun h=>absurd h (by omega)
    refine Evp.pos (by omega) ?_
    simp only [Int.toNat_natCast]
    refine Evp.ldU hU (by omega) fun _ _=>?_
    refine Evp.ob (zkq lo (us.getD i u0) M0 (hwf _ (z60 (by omega)))) ?_
    rintro _ rfl
    simp only [RD,RE,Nat.reduceAdd,Nat.reduceLT]
    refine Evp.neb (fun g=>Evp.ret (bad fun e=>g ?_)) fun g=>?_
    ·unfold z0c;rw [if_pos (e.2.2.2.2.2.2 _ (z60 (by omega)))]
    rw [w64 (by omega)]
    refine Evp.ret (ih (i+1) (by omega) (by omega) fun j hj'=>?_)
    by_cases hji:j=i
    ·rw [hji]
     unfold z0c at g
     by_cases hp:z2e (us.getD i u0)
     ·exact hp
     ·rw [if_neg hp] at g;exact absurd g (by decide)
    ·exact hj j (by omega)
  exact Evp.ret (loop _ 0 rfl (by omega) fun j hj=>absurd hj (by omega))
 refine Evp.neb (fun g1=>?_) fun g1=>rest 64 (.inl rfl) g1
 refine Evp.neb (fun g2=>Evp.ret (bad fun e=>?_)) fun g2=>rest 32 (.inr rfl) g2
 rcases e.2.2.2.2.1 with e | e
 ·exact g1 e
 ·exact g2 e
end
end Go.Zt

