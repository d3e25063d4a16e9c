/- What the law ChainRuns needs of the text Ab19. -/
import Derived.Test.YtbbfdebfhgdciaaGreatPAb18
set_option linter.unusedVariables false
set_option linter.unusedSimpArgs false
namespace Go.Zt
section
variable {C:Ctx}{s s' s2:St}{e:EV}{o:Oper}{b:Nat}
def vd (b:Nat)(o:Oper)(s:St):Prop:=∃ x ∈ o.op.operands.toList,∃ ev,ye s x=some ev∧kl b ev=true
theorem z98 {x:Option Value}{s:St}(h:(x.bind fun v=>K0 (.v v) s)=some (e,s')):kl b e=false:=by
 obtain ⟨v,_,h⟩:=Option.bind_eq_some_iff.1 h
 injection h with h;injection h with h _;subst h;rfl
theorem ze1 {P:Program}{t:TypeId}{g:Nat→Option Value}{s:St}(h:(z3w P t g fun v=>K0 (EV.v v) s)=some (e,s')):kl b e=false:=by
 rcases z5p h with ⟨_,⟨_,_,_,_,_,h⟩ | ⟨_,_,_,_,h⟩⟩ <;> (injection h with h;injection h with h _;subst h;rfl)
theorem zjr {t:TypeId}{x:Option EV}{i:Int}{s:St}(h:(vr C t x i fun e=>K0 e s)=some (e,s'))(hr:kl b e=true):∃ ev,x=some ev∧kl b ev=true:=by
 unfold vr at h
 split at h
 ·split at h
  ·rw [yt] at h
   split at h
   ·injection h with h;injection h with h _;subst h;exact ⟨_,rfl,hr⟩
   ·cases h
  ·cases h
 ·split at h
  ·rw [yt] at h
   split at h
   ·injection h with h;injection h with h _;subst h;cases hr
   ·cases h
  ·cases h
 ·split at h
  ·rw [yt] at h
   split at h
   ·rw [yn] at h
    obtain ⟨_,_,h⟩:=Option.bind_eq_some_iff.1 h
    injection h with h;injection h with h _;subst h;cases hr
   ·cases h
  ·cases h
 ·cases h
theorem zo4 (h:aop C o s K0=some (e,s'))(hr:kl b e=true):(zk C.ann o=.new∧o.dst=some b)∨vd b o s:=by
 by_cases hn:zk C.ann o=.new
 ·obtain ⟨t,cs,h1,_,_,_,h5,_⟩:=ze3 hn h
  rw [h5 b hr];exact .inl ⟨hn,h1⟩
 by_cases hw:zk C.ann o=.wr
 ·have:=(zfq hw h).1 b
  rw [this] at hr;cases hr
 right
 obtain ⟨dst,op,type,pos,after,guard⟩:=o
 have no:kl b e=false→vd b ⟨dst,op,type,pos,after,guard⟩ s:=fun h=>by rw [h] at hr;cases hr
 cases op <;> simp only [aop] at h <;> try (cases h;done)
 case move x=>
  split at h
  ·rename_i ev hx
   injection h with h;injection h with h _;subst h
   exact ⟨x,by simp [Op.operands],_,hx,hr⟩
  ·cases h
 case assign x=>
  split at h
  ·rename_i ev hx
   injection h with h;injection h with h _;subst h
   exact ⟨x,by simp [Op.operands],_,hx,hr⟩
  ·cases h
 case pick c x y=>
  split at h
  ·unfold z53 at h
   split at h
   ·rw [yt] at h
    split at h
    ·injection h with h;injection h with h _;subst h;cases hr
    ·cases h
   ·injection h with h;injection h with h _;subst h;cases hr
   ·rw [za8] at h
    split at h
    ·split at h
     ·rename_i hx
      injection h with h;injection h with h _;subst h
      exact ⟨x,by simp [Op.operands],_,hx,hr⟩
     ·cases h
    ·split at h
     ·rename_i hx
      injection h with h;injection h with h _;subst h
      exact ⟨y,by simp [Op.operands],_,hx,hr⟩
     ·cases h
  ·cases h
 case alloc t=>
  simp only [zk] at hn hw
  split at h
  ·unfold qy at h
   split at h
   ·cases h
   ·split at h
    ·rename_i hp
     simp only [hp] at hn
     exact absurd trivial hn
    ·repeat' split at h
     all_goals first
      | (cases h;done)
      | (injection h with h;injection h with h _;subst h;cases hr)
      | (rw [yn] at h;obtain ⟨_,_,h⟩:=Option.bind_eq_some_iff.1 h;injection h with h;injection h with h _;subst h;cases hr)
  ·cases h
 case box t x=>
  simp only [zk] at hn hw
  split at h
  ·split at h
   ·unfold qy at h
    split at h
    ·cases h
    ·split at h
     ·rename_i hp
      simp only [hp] at hn
      exact absurd trivial hn
     ·repeat' split at h
      all_goals first
       | (cases h;done)
       | (injection h with h;injection h with h _;subst h;cases hr)
       | (rw [yn] at h;obtain ⟨_,_,h⟩:=Option.bind_eq_some_iff.1 h;injection h with h;injection h with h _;subst h;cases hr)
   ·cases h
  ·cases h
 case build t ps=>
  repeat' split at h
  all_goals first
   | (cases h;done)
   | (injection h with h;injection h with h _;subst h;cases hr)
 case buildSlice t n ps=>
  cases dst with
  | none=>exact absurd rfl hw
  | some t'=>
   cases hp:z03 C.ann.priv t' with
   | true=>simp only [zk,hp] at hn;exact absurd trivial hn
   | false=>
    repeat' split at h
    all_goals first
     | (cases h;done)
     | (simp_all;done)
     | (injection h with h;injection h with h _;subst h;cases hr)
     | (rw [yn] at h;obtain ⟨_,_,h⟩:=Option.bind_eq_some_iff.1 h;injection h with h;injection h with h _;subst h;cases hr)
 case load t x=>
  obtain ⟨v,h⟩:=ze6 h
  injection h with h;injection h with h _;subst h;cases hr
 case store t x y=>exact absurd rfl hw
 case nilCheck x=>
  split at h
  ·injection h with h;injection h with h _;subst h;cases hr
  ·cases h
 case binOp op t x y ae=>
  split at h
  ·exact no (z98 ((zc7 (K:=some) ..).trans h))
  ·cases h
 case unOp op t x=>
  split at h
  ·exact no (z98 ((zef (K:=some) ..).trans h))
  ·cases h
 case convert t u x=>
  split at h
  ·exact no (z98 ((zeg (K:=some) ..).trans h))
  ·cases h
 case makeFunc fn first captured=>
  split at h
  ·injection h with h;injection h with h _;subst h;cases hr
  ·cases h
 case makeSlice t l c=>
  unfold z3e at h
  split at h
  ·split at h
   ·rw [yt] at h
    repeat' split at h
    all_goals first
     | (cases h;done)
     | (injection h with h;injection h with h _;subst h;cases hr)
     | (rw [yn] at h;obtain ⟨_,_,h⟩:=Option.bind_eq_some_iff.1 h;injection h with h;injection h with h _;subst h;cases hr)
   ·cases h
  ·cases h
 case slice t x l hi mx=>
  unfold z3d at h
  split at h
  ·split at h
   ·split at h
    ·exact no (z98 ((z81 (K:=some) ..).trans h))
    ·cases h
   ·split at h
    ·rw [yt] at h
     split at h
     ·exact no (z98 ((z81 (K:=some) ..).trans h))
     ·cases h
    ·cases h
   ·cases h
  ·cases h
 case fieldAddr t x i=>
  split at h
  ·split at h
   ·split at h
    ·split at h
     ·rename_i hx
      injection h with h;injection h with h _;subst h
      exact ⟨x,by simp [Op.operands],_,hx,hr⟩
     ·injection h with h;injection h with h _;subst h;cases hr
     ·cases h
    ·cases h
   ·cases h
  ·cases h
 case field t x i=>
  repeat' split at h
  all_goals first
   | (cases h;done)
   | exact no (ze1 h)
 case indexAddr t x i=>
  split at h
  ·obtain ⟨ev,h1,h2⟩:=zjr h hr
   exact ⟨x,by simp [Op.operands],ev,h1,h2⟩
  ·cases h
 case index t x i=>
  repeat' split at h
  all_goals first
   | (cases h;done)
   | (rw [yt] at h;split at h <;> first | (cases h;done) | first | exact no (ze1 h) | (injection h with h;injection h with h _;subst h;cases hr))
 case extract x i=>
  repeat' split at h
  all_goals first
   | (cases h;done)
   | (injection h with h;injection h with h _;subst h;cases hr)
 case call c=>
  obtain ⟨callee,xs,ats⟩:=c
  cases callee with
  | invoke r n=>cases h
  | value f=>
   simp only at h
   split at h
   ·rw [yn] at h
    obtain ⟨q,_,h⟩:=Option.bind_eq_some_iff.1 h
    unfold z54 at h
    rw [yn] at h
    obtain ⟨r,hr',h⟩:=Option.bind_eq_some_iff.1 h
    have h:=z7x h
    injection h with h;injection h with h _;subst h;cases hr
   ·cases h
  | builtin bi=>
   simp only at h
   cases bi <;> first | (exact absurd rfl hw) | skip
   ·simp only [qd] at h
    split at h
    ·exact no (z98 ((zgb (K:=some) ..).trans h))
    ·cases h
   ·simp only [qd] at h
    split at h
    ·exact no (z98 ((zgc (K:=some) ..).trans h))
    ·cases h
   ·simp only [qd] at h
    split at h
    ·exact no (z98 ((zgd (K:=some) ..).trans h))
    ·cases h
end
end Go.Zt

