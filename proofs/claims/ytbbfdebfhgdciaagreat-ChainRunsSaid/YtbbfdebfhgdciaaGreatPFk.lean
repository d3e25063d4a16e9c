/- What the law ChainRuns needs of the text Fk. -/
import Derived.Test.YtbbfdebfhgdciaaGreatPFi
import Derived.Test.YtbbfdebfhgdciaaGreatPArg
set_option linter.unusedVariables false
set_option linter.unusedSimpArgs false
set_option maxRecDepth 100000
set_option maxHeartbeats 4000000
namespace Go.Zt
theorem zbd {M:Mem}{n d:Nat}{cs:List Value}(hl:cs.length=n*7)(h:∀ i,i < n→yy P M (d+3) 77 ((cs.drop (i*7)).take 7)):∃ us:List Un,us.length=n∧cs=z7c us∧∀ u ∈ us,u.wf:=by
 induction n generalizing cs with
 | zero=>
  rw [Nat.zero_mul] at hl
  exact ⟨[],rfl,List.eq_nil_of_length_eq_zero hl,fun u hu=>absurd hu (by simp)⟩
 | succ n ih=>
  obtain ⟨b,a1,a2,a3,a4,a5,a6,e,w1,w2,w3,w4,w5,w6⟩:=Y77 (d:=d) (h 0 (by omega))
  rw [Nat.zero_mul,List.drop_zero] at e
  obtain ⟨us,h1,h2,h3⟩:=ih (cs:=cs.drop 7) (by rw [List.length_drop,hl];omega) fun i hi=>by
   have:=h (i+1) (by omega)
   rwa [List.drop_drop,show 7+i*7=(i+1)*7 by omega]
  refine ⟨⟨b,⟨a1,a2,a3⟩,⟨a4,a5,a6⟩⟩ :: us,by simp [h1],?_,?_⟩
  ·have:cs=cs.take 7 ++ cs.drop 7:=(List.take_append_drop 7 cs).symm
   rw [this,e,h2]
   rfl
  ·intro u hu
   rcases List.mem_cons.1 hu with rfl | hu
   ·exact ⟨w1,w2,w3,w4,w5,w6⟩
   ·exact h3 u hu
theorem zq6 {M:Mem}{n d:Nat}{cs:List Value}(hl:cs.length=n*4)(h:∀ i,i < n→yy P M (d+2) 89 ((cs.drop (i*4)).take 4)):∃ L:List Int,cs=L.map (Value.int .i64):=by
 induction n generalizing cs with
 | zero=>
  rw [Nat.zero_mul] at hl
  exact ⟨[],List.eq_nil_of_length_eq_zero hl⟩
 | succ n ih=>
  obtain ⟨a,b,c,e,he,_⟩:=Y89 (d:=d) (h 0 (by omega))
  rw [Nat.zero_mul,List.drop_zero] at he
  obtain ⟨L,hL⟩:=ih (cs:=cs.drop 4) (by rw [List.length_drop,hl];omega) fun i hi=>by
   have:=h (i+1) (by omega)
   rwa [List.drop_drop,show 4+i*4=(i+1)*4 by omega]
  refine ⟨a :: b :: c :: e :: L,?_⟩
  have:cs=cs.take 4 ++ cs.drop 4:=(List.take_append_drop 4 cs).symm
  rw [this,he,hL]
  rfl
theorem zbe {l:List Int}(h:∀ x ∈ l,(Lit.int .u8 x).wf=true):zh l:=fun x hx=>zsh (h x hx)
theorem zsa {M:Mem}{d:Nat}{cs:List Value}(h:yy P M (d+5) 27 cs):∃ f:Fr3,cs=f.cells∧FrIn M f∧∀ n,n < 3→(f.at n).xs.length≤140737488351232:=by
 obtain ⟨w0,h0,A0,c0,x0,w1,h1,A1,c1,x1,w2,h2,A2,c2,x2,rfl,_,_,k0,n0,r0,b0,_,_,k1,n1,r1,b1,_,_,k2,n2,r2,b2⟩:=Y27 h
 refine ⟨⟨⟨w0,h0,A0,c0,x0⟩,⟨w1,h1,A1,c1,x1⟩,⟨w2,h2,A2,c2,x2⟩⟩,rfl,⟨fun n hn=>?_,fun n hn=>?_,fun n hn=>?_⟩,fun n hn=>?_⟩
 ·rcases lt3 hn with rfl | rfl | rfl
  ·exact r0
  ·exact r1
  ·exact r2
 ·rcases lt3 hn with rfl | rfl | rfl
  ·exact zbe b0
  ·exact zbe b1
  ·exact zbe b2
 ·rcases lt3 hn with rfl | rfl | rfl
  ·exact k0
  ·exact k1
  ·exact k2
 ·rcases lt3 hn with rfl | rfl | rfl
  ·show x0.length≤_;omega
  ·show x1.length≤_;omega
  ·show x2.length≤_;omega
theorem zsb {M:Mem}{d:Nat}{cs:List Value}(h:yy P M (d+4) 34 cs):∃ (hd:Hd) (L:List Int),cs=hd.cells∧zdh hd∧Rd M hd.A hd.n 4 (L.map (Value.int .i64)):=by
 obtain ⟨b0,x1,b2,b3,x4,x5,x6,x7,x8,x9,x10,x11,x12,x13,x14,x15,x16,b17,x18,x19,x20,x21,x22,b23,x24,x25,A,n,c,v,b27,b28,b29,rfl,_,_,_,_,_,_,_,w1,w2,w3,w4,w5,_,_,_,_,_,_,_,_,_,hc,hn,hr,hl⟩:=Y34 h
 obtain ⟨L,rfl⟩:=zq6 hr.1 hl
 refine ⟨⟨b0,x1,b2,b3,x4,x5,x6,x7,x8,x9,x10,x11,x12,x13,x14,x15,x16,b17,x18,x19,x20,x21,x22,b23,x24,x25,A,n,c,b27,b28,b29⟩,L,rfl,fun x hx=>?_,hr⟩
 simp only [List.mem_cons,List.not_mem_nil,or_false] at hx
 rcases hx with rfl | rfl | rfl | rfl | rfl
 ·exact w1
 ·exact w2
 ·exact w3
 ·exact w4
 ·exact w5
theorem zq7 {M:Mem}{d:Nat}{cs:List Value}(h:yy P M (d+6) 43 cs):∃ s:SideV,cs=s.cells∧SideOk M s∧SideFit s:=by
 obtain ⟨c0,c1,c2,c3,rfl,h0,h1,h2,h3⟩:=Y43 h
 obtain ⟨x0,y0,A0,a0,t0,B0,b0,i0,C0,d0,q0,x1,y1,A1,a1,t1,B1,b1,i1,C1,d1,q1,x2,y2,A2,a2,t2,B2,b2,i2,C2,d2,q2,rfl,_,_,_,l00,r00,_,_,l01,r01,_,_,l02,r02,_,_,_,l10,r10,_,_,l11,r11,_,_,l12,r12,_,_,_,l20,r20,_,_,l21,r21,_,_,l22,r22⟩:=Y39 h0
 obtain ⟨Q,qc,qs,rfl,_,lq,rq⟩:=Y36 h1
 obtain ⟨V,vc,ws,rfl,_,lv,rv,_⟩:=Y35 h2
 obtain ⟨U0,n0,e0,v0,U1,n1,e1,v1,U2,n2,e2,v2,rfl,_,m0,g0,k0,_,m1,g1,k1,_,m2,g2,k2⟩:=Y41 h3
 obtain ⟨us0,rfl,rfl,wf0⟩:=zbd g0.1 k0
 obtain ⟨us1,rfl,rfl,wf1⟩:=zbd g1.1 k1
 obtain ⟨us2,rfl,rfl,wf2⟩:=zbd g2.1 k2
 refine ⟨⟨⟨x0,y0,A0,t0,a0,B0,i0,b0,C0,q0,d0⟩,⟨x1,y1,A1,t1,a1,B1,i1,b1,C1,q1,d1⟩,⟨x2,y2,A2,t2,a2,B2,i2,b2,C2,q2,d2⟩,Q,qs,qc,V,ws,vc,⟨U0,us0,e0⟩,⟨U1,us1,e1⟩,⟨U2,us2,e2⟩⟩,rfl,⟨fun n=>?_,rq,rv,by show ws.length≤_;omega,fun n=>?_⟩,⟨fun n=>?_,fun n=>?_,by show qs.length≤_;omega,lv,fun n=>?_⟩⟩
 ·match n with
  | 0=>exact ⟨r00,r01,r02,by show t0.length≤_;omega⟩
  | 1=>exact ⟨r10,r11,r12,by show t1.length≤_;omega⟩
  | n+2=>exact ⟨r20,r21,r22,by show t2.length≤_;omega⟩
 ·match n with
  | 0=>exact ⟨g0,wf0,by show us0.length≤_;omega⟩
  | 1=>exact ⟨g1,wf1,by show us1.length≤_;omega⟩
  | n+2=>exact ⟨g2,wf2,by show us2.length≤_;omega⟩
 ·match n with
  | 0=>exact l01
  | 1=>exact l11
  | n+2=>exact l21
 ·match n with
  | 0=>show q0.length≤_;omega
  | 1=>show q1.length≤_;omega
  | n+2=>show q2.length≤_;omega
 ·match n with
  | 0=>exact m0
  | 1=>exact m1
  | n+2=>exact m2
end Go.Zt

