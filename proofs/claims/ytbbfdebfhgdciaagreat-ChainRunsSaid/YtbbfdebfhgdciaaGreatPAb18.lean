/- What the law ChainRuns needs of the text Ab18. -/
import Derived.Test.YtbbfdebfhgdciaaGreatPAb17
set_option linter.unusedVariables false
set_option linter.unusedSimpArgs false
namespace Go.Zt
def kl (b:Nat):EV→Bool
 | .l t _=>Nat.beq b t
 | .s t _=>Nat.beq b t
 | _=>false
theorem zjs (b:Nat)(p:Nat × EV)(r:List (Nat × EV)):noRef b (p :: r)=(!kl b p.2 && noRef b r):=by
 obtain ⟨t,e⟩:=p
 cases e <;> simp only [noRef,kl] <;> first | rfl | (cases Nat.beq b _ <;> rfl)
theorem zpv {env:List (Nat × EV)}{u b:Nat}{e:EV}(h:lk env u=some e)(hr:kl b e=true):noRef b env=false:=by
 cases e with
 | u=>cases hr
 | v x=>cases hr
 | l t off=>
  have:=Nat.eq_of_beq_eq_true (show Nat.beq b t=true from hr)
  subst this;exact zm3 h
 | s t n=>
  have:=Nat.eq_of_beq_eq_true (show Nat.beq b t=true from hr)
  subst this;exact zj7 h
section
variable {C:Ctx}{s s' s2:St}{e:EV}{o:Oper}
abbrev K0:EV→St→Option (EV × St):=fun e s=>some (e,s)
def z0m (o:Oper)(s s2:St):Prop:=∀ x ∈ o.op.operands.toList,ye s2 x=ye s x
theorem qb {x:Operand}(h:ye s2 x=ye s x):val s2 x=val s x:=by simp only [val,h]
theorem z2u:∀ {l:List Operand},(∀ x ∈ l,ye s2 x=ye s x)→vals s2 l=vals s l
 | [],_=>rfl
 | x :: l,h=>by
  have h1:=qb (h x (by simp))
  have h2:=z2u (l:=l) fun y hy=>h y (by simp [hy])
  simp only [vals,h1,h2]
theorem z35:∀ {l:List (Nat × Operand)},(∀ p ∈ l,ye s2 p.2=ye s p.2)→kw s2 l=kw s l
 | [],_=>rfl
 | (i,x) :: l,h=>by
  have h1:=qb (h (i,x) (by simp))
  have h2:=z35 (l:=l) fun p hp=>h p (by simp [hp])
  simp only [kw,h1,h2]
theorem z7r {x:Option Operand}(h:∀ y,x=some y→ye s2 y=ye s y):z1e s2 x=z1e s x:=by
 cases x with
 | none=>rfl
 | some y=>
  have h1:=qb (h y rfl)
  simp only [z1e,h1]
theorem zc2 (hcls:zk C.ann o=.pure)(h:z0m o s s2):aop C o s2 K0=aop C o s (fun e _=>some (e,s2)):=by
 obtain ⟨dst,op,type,pos,after,guard⟩:=o
 have hx:∀ x ∈ op.operands.toList,ye s2 x=ye s x:=h
 cases op <;> simp only [aop] <;> try rfl
 case move x=>rw [hx x (by simp [Op.operands])]
 case assign x=>rw [hx x (by simp [Op.operands])]
 case pick c x y=>rw [qb (hx c (by simp [Op.operands])),hx x (by simp [Op.operands]),hx y (by simp [Op.operands])]
 case alloc t=>simp only [zk] at hcls;split at hcls <;> (try split at hcls) <;> cases hcls
 case box t x=>simp only [zk] at hcls;split at hcls <;> (try split at hcls) <;> cases hcls
 case buildSlice t n ps=>simp only [zk] at hcls;split at hcls <;> (try split at hcls) <;> cases hcls
 case load t x=>cases hcls
 case store t x y=>cases hcls
 case makeSlice t l c=>cases hcls
 case build t ps=>rw [z35 (fun p hp=>hx p.2 (by simp [Op.operands];exact ⟨p.1,by simpa using hp⟩))]
 case nilCheck x=>rw [qb (hx x (by simp [Op.operands]))]
 case binOp op t x y ae=>rw [qb (hx x (by simp [Op.operands])),qb (hx y (by simp [Op.operands]))]
 case unOp op t x=>rw [qb (hx x (by simp [Op.operands]))]
 case convert t u x=>rw [qb (hx x (by simp [Op.operands]))]
 case makeFunc fn first captured=>
  rw [z2u (fun x hm=>hx x (by simp [Op.operands];exact .inl (by simpa using hm))),z2u (fun x hm=>hx x (by simp [Op.operands];exact .inr (by simpa using hm)))]
 case slice t x l hi mx=>
  rw [hx x (by simp [Op.operands]),z7r (fun y hy=>hx y (by subst hy;simp [Op.operands])),z7r (fun y hy=>hx y (by subst hy;simp [Op.operands])),z7r (fun y hy=>hx y (by subst hy;simp [Op.operands]))]
 case fieldAddr t x i=>rw [hx x (by simp [Op.operands])]
 case field t x i=>rw [qb (hx x (by simp [Op.operands]))]
 case indexAddr t x i=>rw [hx x (by simp [Op.operands]),qb (hx i (by simp [Op.operands]))]
 case index t x i=>rw [qb (hx x (by simp [Op.operands])),qb (hx i (by simp [Op.operands]))]
 case extract x i=>rw [qb (hx x (by simp [Op.operands]))]
 case call c=>
  obtain ⟨callee,xs,ats⟩:=c
  cases callee with
  | value f=>cases hcls
  | invoke r n=>rfl
  | builtin b=>
   have ha:∀ x ∈ xs.toList,ye s2 x=ye s x:=fun x hm=>hx x (by simp [Op.operands,Call.operands];simpa using hm)
   cases b <;> first | (cases hcls;done) | skip
   ·simp only [qd]
    split
    ·rename_i x hl;rw [ha x (by rw [hl];simp)]
    ·rfl
   ·simp only [qd,z2u ha]
   ·simp only [qd,z2u ha]
theorem ze2 (hcls:zk C.ann o=.eff)(h:z0m o s s2)(hm:s2.mem=s.mem):aop C o s2 K0=aop C o s (fun e s'=>some (e,{ s2 with mem:=s'.mem })):=by
 obtain ⟨dst,op,type,pos,after,guard⟩:=o
 have hx:∀ x ∈ op.operands.toList,ye s2 x=ye s x:=h
 cases op <;> simp only [aop] <;> try (cases hcls;done)
 case alloc t=>
  simp only [zk] at hcls
  split at hcls
  ·rename_i t'
   split at hcls
   ·cases hcls
   ·rename_i hp
    simp only [qy,hp,hm]
  ·cases hcls
 case box t x=>
  simp only [zk] at hcls
  split at hcls
  ·rename_i t'
   split at hcls
   ·cases hcls
   ·rename_i hp
    rw [qb (hx x (by simp [Op.operands]))]
    simp only [qy,hp,hm]
  ·cases hcls
 case buildSlice t n ps=>
  simp only [zk] at hcls
  split at hcls
  ·rename_i t'
   split at hcls
   ·cases hcls
   ·rename_i hp
    rw [z35 (fun p hp=>hx p.2 (by simp [Op.operands];exact ⟨p.1,by simpa using hp⟩))]
    simp only [hm]
    cases C.P.underlying t with
    | none=>rfl
    | some d=>
     cases d <;> try rfl
     rename_i el
     cases kw s ps.toList with
     | none=>rfl
     | some l=>
      simp only
      cases z1n C.P el with
      | none=>rfl
      | some z=>
       cases ub C.P el with
       | none=>rfl
       | some k=>
        cases k with
        | zero=>rfl
        | succ k=>
         simp only
         cases Nat.ble (n*(k+1)) 16777216 with
         | false=>rfl
         | true=>
          cases z3c (fun i=>some (i*(k+1),k+1)) (y4 z n) l with
          | none=>rfl
          | some cs=>
           simp only
           cases z4k cs with
           | false=>rfl
           | true=>simp only [hp]
  ·cases hcls
 case makeSlice t l c=>
  simp only [z3e]
  rw [qb (hx c (by simp [Op.operands]))]
  simp only [hm]
 case call c=>
  obtain ⟨callee,xs,ats⟩:=c
  cases callee with
  | invoke r n=>rfl
  | builtin b=>cases b <;> cases hcls
  | value f=>
   simp only
   rw [qb (hx f (by simp [Op.operands,Call.operands])),z2u (fun x hm=>hx x (by simp [Op.operands,Call.operands];exact .inr (by simpa using hm)))]
   simp only [z54,hm]
theorem zfp (hcls:zk C.ann o=.ld)(h:z0m o s s2)(hl:∀ x ∈ o.op.operands.toList,∀ ev,ye s x=some ev→∀ b,kl b ev=true→lk s2.loc b=lk s.loc b)
  (hm:∀ b,(∀ n,C.top=some n→b < n)→s2.mem[b]?=s.mem[b]?):aop C o s2 K0=aop C o s (fun e _=>some (e,s2)):=by
 obtain ⟨dst,op,type,pos,after,guard⟩:=o
 have hx:∀ x ∈ op.operands.toList,ye s2 x=ye s x:=h
 cases op <;> simp only [aop] <;> try (cases hcls;done)
 case alloc t=>simp only [zk] at hcls;split at hcls <;> (try split at hcls) <;> cases hcls
 case box t x=>simp only [zk] at hcls;split at hcls <;> (try split at hcls) <;> cases hcls
 case buildSlice t n ps=>simp only [zk] at hcls;split at hcls <;> (try split at hcls) <;> cases hcls
 case call c=>
  obtain ⟨callee,xs,ats⟩:=c
  cases callee with
  | invoke r n=>rfl
  | builtin b=>cases b <;> cases hcls
  | value f=>cases hcls
 case load t x=>
  rw [hx x (by simp [Op.operands])]
  unfold z1o
  cases hox:ye s x with
  | none=>rfl
  | some ev=>
   cases ev with
   | u=>rfl
   | s t n=>rfl
   | l b off=>
    simp only
    rw [hl x (by simp [Op.operands]) _ hox b (Nat.beq_refl b)]
   | v y=>
    cases y with
    | pointer p=>
     cases p with
     | none=>rfl
     | some a=>
      have:ldM C s2 a=ldM C s a:=by
       funext i
       unfold ldM
       cases ht:C.top with
       | none=>
        simp only [Mem.ld,z3a]
        rw [hm a.block (fun n hn=>by rw [ht] at hn;cases hn)]
       | some n=>
        simp only
        split
        ·rename_i hlt
         simp only [Mem.ld,z3a]
         rw [hm a.block (fun n' hn'=>by rw [ht] at hn';injection hn' with hn';omega)]
        ·rfl
      simp only [this]
    | _=>rfl
theorem ze3 (hcls:zk C.ann o=.new)(h:aop C o s K0=some (e,s')):∃ t cs,o.dst=some t∧s'={ s with loc:=(t,cs) :: s.loc }∧lk s.loc t=none∧noRef t s.env=true∧(∀ b,kl b e=true→b=t) ∧
  ∀ s2,z0m o s s2→lk s2.loc t=none→noRef t s2.env=true→aop C o s2 K0=some (e,{ s2 with loc:=(t,cs) :: s2.loc }):=by
 obtain ⟨dst,op,type,pos,after,guard⟩:=o
 have alc:∀ (t:Nat) (cs:List Value),z03 C.ann.priv t=true→qy C (some t) cs s K0=some (e,s')→s'={ s with loc:=(t,cs) :: s.loc }∧lk s.loc t=none∧noRef t s.env=true∧(∀ b,kl b e=true→b=t) ∧
   ∀ s2:St,lk s2.loc t=none→noRef t s2.env=true→qy C (some t) cs s2 K0=some (e,{ s2 with loc:=(t,cs) :: s2.loc }):=fun t cs hp h=>by
  simp only [qy,hp] at h
  split at h
  ·rename_i h1 h2
   injection h with h;injection h with e1 e2;subst e1;subst e2
   refine ⟨rfl,h1,h2,fun b hb=>Nat.eq_of_beq_eq_true hb,fun s2 g1 g2=>?_⟩
   simp only [qy,hp,g1,g2]
  ·cases h
 cases op <;> simp only [aop] at h <;> try (cases hcls;done)
 case alloc t=>
  simp only [zk] at hcls
  split at hcls
  ·rename_i t'
   split at hcls
   ·rename_i hp
    split at h
    ·rename_i cs hz
     obtain ⟨h1,h2,h3,h4,h5⟩:=alc t' cs hp h
     exact ⟨t',cs,rfl,h1,h2,h3,h4,fun s2 _ g1 g2=>by simp only [aop,hz];exact h5 s2 g1 g2⟩
    ·cases h
   ·cases hcls
  ·cases hcls
 case box t x=>
  simp only [zk] at hcls
  split at hcls
  ·rename_i t'
   split at hcls
   ·rename_i hp
    split at h
    ·rename_i v hv
     split at h
     ·rename_i h1'
      obtain ⟨h1,h2,h3,h4,h5⟩:=alc t' _ hp h
      refine ⟨t',_,rfl,h1,h2,h3,h4,fun s2 hs g1 g2=>?_⟩
      have hv2:val s2 x=some v:=by rw [qb (hs x (by simp [Op.operands]))];exact hv
      simp only [aop,hv2,h1']
      exact h5 s2 g1 g2
     ·cases h
    ·cases h
   ·cases hcls
  ·cases hcls
 case buildSlice t n ps=>
  simp only [zk] at hcls
  split at hcls
  ·rename_i t'
   split at hcls
   ·rename_i hp
    split at h
    ·rename_i el l hu hl
     split at h
     ·rename_i z k hz hk
      split at h
      ·rename_i cs hle hcs
       split at h
       ·rename_i t2 h1 ht2
        injection ht2 with ht2;subst ht2
        simp only [hp] at h
        split at h
        ·rename_i g1 g2
         injection h with h;injection h with e1 e2;subst e1;subst e2
         refine ⟨t',cs,rfl,rfl,g1,g2,fun b hb=>Nat.eq_of_beq_eq_true hb,fun s2 hs q1 q2=>?_⟩
         have hp2:kw s2 ps.toList=some l:=by
          rw [z35 (fun p hp=>hs p.2 (by simp [Op.operands];exact ⟨p.1,by simpa using hp⟩))];exact hl
         simp only [aop,hu,hp2,hz,hk,hle,hcs,h1,hp,q1,q2]
        ·cases h
       ·cases h
      ·cases h
     ·cases h
    ·cases h
   ·cases hcls
  ·cases hcls
 case call c=>
  obtain ⟨callee,xs,ats⟩:=c
  cases callee with
  | invoke r n=>cases hcls
  | builtin b=>cases b <;> cases hcls
  | value f=>cases hcls
theorem zfq (hcls:zk C.ann o=.wr)(h:aop C o s K0=some (e,s')):(∀ b,kl b e=false)∧s'.env=s.env ∧
  (
   (s'.loc=s.loc∧∀ s2,z0m o s s2→s2.mem=s.mem→(∀ x ∈ o.op.operands.toList,∀ ev,ye s x=some ev→∀ b,kl b ev=true→lk s2.loc b=lk s.loc b)→aop C o s2 K0=some (e,{ s2 with mem:=s'.mem })) ∨
   (
   s'.mem=s.mem∧∃ b cs,lk s.loc b≠none∧s'.loc=up s.loc b cs∧(∃ x ∈ o.op.operands.toList,∃ ev,ye s x=some ev∧kl b ev=true) ∧
   ∀ s2,z0m o s s2→s2.mem=s.mem→(∀ x ∈ o.op.operands.toList,∀ ev,ye s x=some ev→∀ b,kl b ev=true→lk s2.loc b=lk s.loc b)→aop C o s2 K0=some (e,{ s2 with loc:=up s2.loc b cs }))):=by
 obtain ⟨dst,op,type,pos,after,guard⟩:=o
 cases op <;> try (cases hcls;done)
 case alloc t=>
  simp only [zk] at hcls
  split at hcls
  ·split at hcls <;> cases hcls
  ·skip
   simp only [aop,qy] at h
   split at h <;> cases h
 case box t x=>
  simp only [zk] at hcls
  split at hcls
  ·split at hcls <;> cases hcls
  ·skip
   simp only [aop,qy] at h
   repeat' split at h
   all_goals cases h
 case buildSlice t n ps=>
  simp only [zk] at hcls
  split at hcls
  ·split at hcls <;> cases hcls
  ·skip
   simp only [aop] at h
   repeat' split at h
   all_goals first | (cases h;done) | contradiction | simp_all
 case store t x y=>
  simp only [aop] at h
  split at h
  ·rename_i v hv
   unfold z1d at h
   split at h
   ·cases h
   ·cases h
   ·rename_i n hn
    split at h
    ·rename_i g1 g2
     split at h
     ·rename_i b off hx
      split at h
      ·rename_i cs hcs
       rw [yt] at h
       split at h
       ·rename_i hle
        injection h with h;injection h with e1 e2;subst e1;subst e2
        refine ⟨fun _=>rfl,rfl,.inr ⟨rfl,b,_,by rw [hcs];simp,rfl,⟨x,by simp [Op.operands],_,hx,Nat.beq_refl b⟩,fun s2 hs hm hl=>?_⟩⟩
        have k1:val s2 y=some v:=by rw [qb (hs y (by simp [Op.operands]))];exact hv
        have k2:ye s2 x=some (.l b off):=by rw [hs x (by simp [Op.operands])];exact hx
        have k3:lk s2.loc b=some cs:=by rw [hl x (by simp [Op.operands]) _ hx b (Nat.beq_refl b)];exact hcs
        simp only [aop,k1,z1d,hn,g1,g2,k2,k3,yt,if_pos hle]
       ·cases h
      ·cases h
     ·rename_i a hx
      rw [yn] at h
      obtain ⟨M,hM,h⟩:=Option.bind_eq_some_iff.1 h
      injection h with h;injection h with e1 e2;subst e1;subst e2
      refine ⟨fun _=>rfl,rfl,.inl ⟨rfl,fun s2 hs hm hl=>?_⟩⟩
      have k1:val s2 y=some v:=by rw [qb (hs y (by simp [Op.operands]))];exact hv
      have k2:ye s2 x=some (.v (.pointer (some a))):=by rw [hs x (by simp [Op.operands])];exact hx
      simp only [aop,k1,z1d,hn,g1,g2,k2,hm,hM,yn,Option.bind_some]
     ·cases h
    ·cases h
  ·cases h
 case call c=>
  obtain ⟨callee,xs,ats⟩:=c
  cases callee with
  | invoke r n=>cases hcls
  | value f=>cases hcls
  | builtin b=>
   have src:∀ (s2:St) (z n:Nat) (y:Operand),s2.mem=s.mem→(∀ ev,ye s y=some ev→∀ b,kl b ev=true→lk s2.loc b=lk s.loc b)→z6p C s2 z n (ye s y)=z6p C s z n (ye s y):=fun s2 z n y hm hl=>by
    unfold z6p
    cases hy:ye s y with
    | none=>rfl
    | some ev=>
     cases ev with
     | u=>rfl
     | l t off=>rfl
     | s t k=>simp only;rw [hl _ hy t (Nat.beq_refl t)]
     | v q=>cases q <;> first | rfl | (simp only [hm])
   simp only [aop] at h
   cases b <;> first | (cases h;done) | (cases hcls;done) | skip
   ·-- append
    simp only [qd] at h
    split at h
    ·rename_i x y hxs
     have hmx:∀ s2,z0m ⟨dst,.call ⟨.builtin .append,xs,ats⟩,type,pos,after,guard⟩ s s2→ye s2 x=ye s x∧ye s2 y=ye s y:=fun s2 hs=>⟨hs x (by simp [Op.operands,Call.operands,hxs]),hs y (by simp [Op.operands,Call.operands,hxs])⟩
     unfold z22 at h
     split at h
     ·rename_i t u hats
      split at h
      ·rename_i el el2 A n c mm hu hu2 hx hy
       split at h
       ·rename_i z b zz hz hb hzz
        rw [yn] at h
        obtain ⟨vs,hvs,h⟩:=Option.bind_eq_some_iff.1 h
        rw [yn] at h
        obtain ⟨r,hr,h⟩:=Option.bind_eq_some_iff.1 h
        injection h with h;injection h with e1 e2;subst e1;subst e2
        refine ⟨fun _=>rfl,rfl,.inl ⟨rfl,fun s2 hs hm hl=>?_⟩⟩
        obtain ⟨q1,q2⟩:=hmx s2 hs
        have hs2:=src s2 (z+1) mm y hm (fun ev hev b hb=>hl y (by simp [Op.operands,Call.operands,hxs]) ev hev b hb)
        simp only [aop,qd,hxs,z22,hats,hu,hu2,q1,q2,hx,hy,hz,hb,hzz,hs2,hm]
        rw [hvs]
        show ob (s.mem.app C.lo (z+1) (b+1) ⟨A,n,c⟩ vs mm) _=_
        rw [hr]
       ·cases h
      ·cases h
     ·cases h
    ·cases h
   ·-- clear
    simp only [qd] at h
    split at h
    ·rename_i x hxs
     unfold z29 at h
     split at h
     ·rename_i t hats
      split at h
      ·rename_i el A n c hu hx
       split at h
       ·cases h
       ·rename_i z1 zs hzs
        rw [yt] at h
        split at h
        ·rename_i h0
         injection h with h;injection h with e1 e2;subst e1;subst e2
         refine ⟨fun _=>rfl,rfl,.inl ⟨rfl,fun s2 hs hm hl=>?_⟩⟩
         have q1:=hs x (by simp [Op.operands,Call.operands,hxs])
         simp only [aop,qd,hxs,z29,hats,hu,q1,hx,hzs,yt,if_pos h0,← hm]
        ·rename_i h0
         rw [yn] at h
         obtain ⟨a,ha,h⟩:=Option.bind_eq_some_iff.1 h
         rw [yn] at h
         obtain ⟨M,hM,h⟩:=Option.bind_eq_some_iff.1 h
         injection h with h;injection h with e1 e2;subst e1;subst e2
         refine ⟨fun _=>rfl,rfl,.inl ⟨rfl,fun s2 hs hm hl=>?_⟩⟩
         have q1:=hs x (by simp [Op.operands,Call.operands,hxs])
         simp only [aop,qd,hxs,z29,hats,hu,q1,hx,hzs,yt,if_neg h0,ha,hm]
         show ob (s.mem.st C.lo a (y4 (z1 :: zs) n)) _=_
         rw [hM]
       ·cases h
      ·cases h
     ·cases h
    ·cases h
   ·-- copy
    simp only [qd] at h
    split at h
    ·rename_i x y hxs
     unfold z4c at h
     split at h
     ·rename_i t u hats
      split at h
      ·rename_i el el2 A n c mm hu hu2 hx hy
       split at h
       ·rename_i z hz
        rw [yn] at h
        obtain ⟨vs,hvs,h⟩:=Option.bind_eq_some_iff.1 h
        rw [yt] at h
        have hq:∀ s2,z0m ⟨dst,.call ⟨.builtin .copy,xs,ats⟩,type,pos,after,guard⟩ s s2→s2.mem=s.mem→(∀ x ∈ (Op.call ⟨.builtin .copy,xs,ats⟩).operands.toList,∀ ev,ye s x=some ev→∀ b,kl b ev=true→lk s2.loc b=lk s.loc b) →
          ye s2 x=ye s x∧ye s2 y=ye s y∧z6p C s2 (z+1) (Nat.min mm n) (ye s y)=some vs:=fun s2 hs hm hl=>
         ⟨hs x (by simp [Op.operands,Call.operands,hxs]),hs y (by simp [Op.operands,Call.operands,hxs]),by rw [src s2 (z+1) _ y hm (fun ev hev b hb=>hl y (by simp [Op.operands,Call.operands,hxs]) ev hev b hb)];exact hvs⟩
        split at h
        ·rename_i h0
         injection h with h;injection h with e1 e2;subst e1;subst e2
         refine ⟨fun _=>rfl,rfl,.inl ⟨rfl,fun s2 hs hm hl=>?_⟩⟩
         obtain ⟨q1,q2,q3⟩:=hq s2 hs hm hl
         simp only [aop,qd,hxs,z4c,hats,hu,hu2,q1,q2,hx,hy,hz,q3,yt,if_pos h0,← hm]
        ·rename_i h0
         rw [yn] at h
         obtain ⟨a,ha,h⟩:=Option.bind_eq_some_iff.1 h
         rw [yn] at h
         obtain ⟨M,hM,h⟩:=Option.bind_eq_some_iff.1 h
         injection h with h;injection h with e1 e2;subst e1;subst e2
         refine ⟨fun _=>rfl,rfl,.inl ⟨rfl,fun s2 hs hm hl=>?_⟩⟩
         obtain ⟨q1,q2,q3⟩:=hq s2 hs hm hl
         simp only [aop,qd,hxs,z4c,hats,hu,hu2,q1,q2,hx,hy,hz,q3,yt,if_neg h0,ha,hm]
         show ob (s.mem.st C.lo a vs) _=_
         rw [hM]
       ·cases h
      ·cases h
     ·cases h
    ·cases h
end
end Go.Zt

