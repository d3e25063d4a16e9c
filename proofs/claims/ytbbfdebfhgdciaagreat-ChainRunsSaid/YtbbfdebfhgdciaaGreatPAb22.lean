/- What the law ChainRuns needs of the text Ab22. -/
import Derived.Test.YtbbfdebfhgdciaaGreatPAb21
set_option linter.unusedVariables false
set_option linter.unusedSimpArgs false
namespace Go.Zt
section
variable {C:Ctx}{B lo:Nat}{w0:World}{m0:Mp}{M0:Mem}{m:Mp}{ml:Nat→Nat}{s s' s1 s2:St}{w:World}{a:Act}{ops:Array Oper}
def kt (C:Ctx)(ops:Array Oper)(L R0:Nat)(N:List Nat)(b0 j:Nat)(o:Oper):Ctx:=
 { C with lo:=loJ C L ops.toList (jd ops.toList []) j o,top:=match decide (zk C.ann o=.ld) && z1i C.ann ((jd ops.toList []).getD j 0) (jd ops.toList []) j ops.toList 0 with | true=>some R0 | false=>none,slot:=z1g N b0 j }
theorem zj1 {L R0 j b0:Nat}{N:List Nat}{o:Oper}(h:zk C.ann o=.eff)(hl:z3y C.ann ((jd ops.toList []).getD j 0) (jd ops.toList []) j ops.toList 0=true):(kt C ops L R0 N b0 j o).lo=L:=by
 show loJ C L ops.toList (jd ops.toList []) j o=L
 unfold loJ
 rw [decide_eq_true h,hl]
 rfl
theorem zlm {L R0 j b0:Nat}{N:List Nat}{o:Oper}(h:C.lo≤L):C.lo≤(kt C ops L R0 N b0 j o).lo∧(kt C ops L R0 N b0 j o).lo≤L:=by
 show C.lo≤loJ C L ops.toList (jd ops.toList []) j o∧loJ C L ops.toList (jd ops.toList []) j o≤L
 unfold loJ
 split
 ·exact ⟨h,Nat.le_refl _⟩
 ·exact ⟨Nat.le_refl _,h⟩
noncomputable def z12 (C:Ctx)(ops:Array Oper)(L R0:Nat)(N:List Nat)(b0 j:Nat)(s:St):Option St:=
 match ops[j]? with
 | some o=>match chk C.ann (jd ops.toList []) ops.toList j o s with
  | true=>j6 (kt C ops L R0 N b0 j o) ops o s
  | false=>none
 | none=>none
theorem z5j {L R0 j b0:Nat}{N:List Nat}{s s1:St}{o:Oper}(ho:ops[j]?=some o)(h:z12 C ops L R0 N b0 j s=some s1):chk C.ann (jd ops.toList []) ops.toList j o s=true∧j6 (kt C ops L R0 N b0 j o) ops o s=some s1:=by
 unfold z12 at h
 rw [ho] at h
 simp only at h
 split at h
 ·rename_i hk;exact ⟨hk,h⟩
 ·cases h
theorem z7p {L R0 j b0:Nat}{N:List Nat}{s s1:St}{o:Oper}(ho:ops[j]?=some o)(hk:chk C.ann (jd ops.toList []) ops.toList j o s=true)(h:j6 (kt C ops L R0 N b0 j o) ops o s=some s1):z12 C ops L R0 N b0 j s=some s1:=by
 unfold z12
 rw [ho]
 simp only [hk]
 exact h
theorem z7q {L R0 j b0:Nat}{N:List Nat}{s s1:St}(h:z12 C ops L R0 N b0 j s=some s1):∃ o,ops[j]?=some o:=by
 unfold z12 at h
 split at h
 ·rename_i o ho;exact ⟨o,ho⟩
 ·cases h
noncomputable def z3t (C:Ctx)(ops:Array Oper)(L R0:Nat)(N:List Nat)(b0:Nat):List Nat→St→Option St
 | [],s=>some s
 | j :: r,s=>(z12 C ops L R0 N b0 j s).bind (z3t C ops L R0 N b0 r)
theorem zdz {L R0 b0:Nat}{N:List Nat}{R:Type}{K:St→Option R}{r:R} : ∀ (l:List Oper) (k:Nat) {s:St},(∀ j,l[j]?=ops[k+j]?)→z6q C ops ops.toList (jd ops.toList []) L R0 N b0 l k s K=some r →
  ∃ s',z3t C ops L R0 N b0 (List.range' k l.length) s=some s'∧K s'=some r
 | [],k,s,_,h=>⟨s,rfl,h⟩
 | o :: l,k,s,hl,h=>by
  simp only [z6q] at h
  split at h
  ·rename_i hk
   rw [z7w] at h
   obtain ⟨s1,h1,h⟩:=Option.bind_eq_some_iff.1 h
   obtain ⟨s',h2,h3⟩:=zdz l (k+1) (fun j=>by rw [show k+1+j=k+(j+1) by omega,← hl (j+1)];rfl) h
   refine ⟨s',?_,h3⟩
   have ho:ops[k]?=some o:=by have:=hl 0;simpa using this.symm
   rw [List.length_cons,List.range'_succ,z3t]
   have:z12 C ops L R0 N b0 k s=some s1:=z7p ho hk h1
   rw [this,Option.bind_some]
   exact h2
  ·cases h
theorem zfm {L R0 b0:Nat}{N:List Nat} : ∀ (l:List Nat) {s s' s2:St},z3t C ops L R0 N b0 l s=some s'→Eqv s s2→∃ s3,z3t C ops L R0 N b0 l s2=some s3∧Eqv s' s3
 | [],s,s',s2,h,he=>by injection h with h;subst h;exact ⟨s2,rfl,he⟩
 | j :: r,s,s',s2,h,he=>by
  simp only [z3t] at h
  obtain ⟨s1,h1,h⟩:=Option.bind_eq_some_iff.1 h
  obtain ⟨o,ho⟩:=z7q h1
  obtain ⟨hk,h1⟩:=z5j ho h1
  obtain ⟨s3,g1,g2⟩:=zo3 h1 he
  obtain ⟨s4,k1,k2⟩:=zfm r h g2
  refine ⟨s4,?_,k2⟩
  have:z12 C ops L R0 N b0 j s2=some s3:=z7p ho (by rw [zj4 he];exact hk) g1
  simp only [z3t,this,Option.bind_some]
  exact k1
theorem z95 (hc:uo C.call){L R0 j b0:Nat}{N:List Nat}(h:z12 C ops L R0 N b0 j s=some s1):s.mem.length≤s1.mem.length:=by
 obtain ⟨o,ho⟩:=z7q h
 exact (z5k (by exact hc) (z5j ho h).2).1
def zln (C:Ctx)(ops:Array Oper)(L R0:Nat)(N:List Nat)(b0 j i:Nat):Prop:=∀ x y,ops[j]?=some x→ops[i]?=some y→NoClash C.ann ops x y ∧
 (zk C.ann x=.eff→zk C.ann y=.ld→(kt C ops L R0 N b0 i y).top=some R0∧R0≤(kt C ops L R0 N b0 j x).lo)∧(zk C.ann x=.ld→zk C.ann y=.eff→(kt C ops L R0 N b0 j x).top=some R0∧R0≤(kt C ops L R0 N b0 i y).lo) ∧
 (zk C.ann x=.wr→zk C.ann y=.ld→∃ b,z1f C.ann x=some b∧z03 (z2a C.ann ((jd ops.toList []).getD i 0) (jd ops.toList []) i ops.toList 0) b=true) ∧
 (jn C.ann x=true→jn C.ann y=true→∃ a b,z1g N b0 j=some a∧z1g N b0 i=some b∧a≠b) ∧
 (zk C.ann x=.ld→zk C.ann y=.wr→∃ b,z1f C.ann y=some b∧z03 (z2a C.ann ((jd ops.toList []).getD j 0) (jd ops.toList []) j ops.toList 0) b=true)
theorem zfn {ann:Ann}{o:Oper}{ms:List Nat}{all:List Oper}{j b:Nat}{s:St}(hc:zk ann o=.ld)(hk:chk ann ms all j o s=true)(hb:z03 (z2a ann (ms.getD j 0) ms j all 0) b=true):¬ vd b o s:=by
 rintro ⟨z,hz,ev,h1,h2⟩
 obtain ⟨dst,op,type,pos,after,guard⟩:=o
 cases op <;> first | (cases hc;done) | skip
 case alloc t=>simp only [zk] at hc;split at hc <;> (try split at hc) <;> cases hc
 case box t x=>simp only [zk] at hc;split at hc <;> (try split at hc) <;> cases hc
 case buildSlice t n ps=>simp only [zk] at hc;split at hc <;> (try split at hc) <;> cases hc
 case call c=>
  obtain ⟨callee,xs,ats⟩:=c
  cases callee with
  | invoke r n=>cases hc
  | builtin bi=>cases bi <;> cases hc
  | value f=>cases hc
 case load t x=>
  have hz:z=x:=by simpa [Op.operands] using hz
  subst hz
  simp only [chk,h1] at hk
  cases ev with
  | u=>cases h2
  | v v=>cases h2
  | l c off=>
   have:=Nat.eq_of_beq_eq_true (show Nat.beq b c=true from h2)
   subst this
   simp only [zgh,hb] at hk
   cases hk
  | s c n=>
   have:=Nat.eq_of_beq_eq_true (show Nat.beq b c=true from h2)
   subst this
   simp only [zgh,hb] at hk
   cases hk
theorem ze0 (hc:uo C.call){L R0 i b0:Nat}{N:List Nat}{rest:List Nat} : ∀ (pre:List Nat) {s s':St},(∀ j ∈ pre,zln C ops L R0 N b0 j i)→R0≤s.mem.length→z3t C ops L R0 N b0 (pre ++ i :: rest) s=some s' →
  ∃ s1 s2,z12 C ops L R0 N b0 i s=some s1∧z3t C ops L R0 N b0 (pre ++ rest) s1=some s2∧Eqv s' s2
 | [],s,s',_,_,h=>by
  obtain ⟨s1,h1,h⟩:=Option.bind_eq_some_iff.1 (show (z12 C ops L R0 N b0 i s).bind (z3t C ops L R0 N b0 rest)=some s' from h)
  exact ⟨s1,s',h1,h,Eqv.refl _⟩
 | p :: pre,s,s',hp,hR,h=>by
  obtain ⟨sp,h1,h⟩:=Option.bind_eq_some_iff.1 (show (z12 C ops L R0 N b0 p s).bind (z3t C ops L R0 N b0 (pre ++ i :: rest))=some s' from h)
  obtain ⟨t1,s2,h2,h3,h4⟩:=ze0 hc pre (fun j hj=>hp j (by simp [hj])) (Nat.le_trans hR (z95 hc h1)) h
  have hpo:=hp p (by simp)
  obtain ⟨x,hx⟩:=z7q h1
  obtain ⟨y,hy⟩:=z7q h2
  obtain ⟨kx,h1⟩:=z5j hx h1
  obtain ⟨ky,h2⟩:=z5j hy h2
  obtain ⟨n1,n2,n3,n4,n6,n5⟩:=hpo x y hx hy
  have hAy:va ops y s sp:=fun t ht=>by
   obtain ⟨ex,lx,fx⟩:=z97 h1
   rw [fx.upd.env t,if_neg]
   intro hd
   exact n1.xy t hd ht
  have ky':chk C.ann (jd ops.toList []) ops.toList i y s=true:=by rw [← zb4 hAy.same];exact ky
  have key:∃ s1' s2',j6 (kt C ops L R0 N b0 i y) ops y s=some s1'∧j6 (kt C ops L R0 N b0 p x) ops x s1'=some s2'∧Eqv t1 s2':=by
   by_cases hnn:jn C.ann x=true∧jn C.ann y=true
   ·obtain ⟨a,b,q1,q2,q3⟩:=n6 hnn.1 hnn.2
    exact zs1 (Cx:=kt C ops L R0 N b0 p x) (Cy:=kt C ops L R0 N b0 i y) q3 rfl n1 hnn.1 hnn.2 q1 q2 h1 h2
   ·exact zsi (Cx:=kt C ops L R0 N b0 p x) (Cy:=kt C ops L R0 N b0 i y) hc hc rfl n1 hnn (fun e1 e2=>⟨R0,(n2 e1 e2).1,(n2 e1 e2).2,hR⟩) (fun e1 e2=>⟨R0,(n3 e1 e2).1,(n3 e1 e2).2,hR⟩)
      (fun e1 e2=>by
       obtain ⟨b,q1,q2⟩:=n4 e1 e2
       exact ⟨zfo (C:=kt C ops L R0 N b0 p x) q1 kx h1,fun b' h=>by
        have:=zj2 (C:=kt C ops L R0 N b0 p x) q1 kx h
        subst this
        exact zfn e2 ky' q2⟩)
      (fun e1 e2=>by
       obtain ⟨b,q1,q2⟩:=n5 e1 e2
       exact ⟨zfo (C:=kt C ops L R0 N b0 i y) q1 ky h2,fun b' h=>by
        have:=zj2 (C:=kt C ops L R0 N b0 i y) q1 ky' h
        subst this
        exact zfn e1 kx q2⟩) h1 h2
  obtain ⟨u1,u2,g1,g2,g3⟩:=key
  obtain ⟨s3,k1,k2⟩:=zfm _ h3 g3
  have hAx:va ops x s u1:=fun t ht=>by
   obtain ⟨ey,ly,fy⟩:=z97 g1
   rw [fy.upd.env t,if_neg]
   intro hd
   exact n1.yx t hd ht
  refine ⟨u1,s3,z7p hy ky' g1,?_,h4.trans k2⟩
  have:z12 C ops L R0 N b0 p u1=some u2:=z7p hx (by rw [zb4 hAx.same];exact kx) g2
  show (z12 C ops L R0 N b0 p u1).bind (z3t C ops L R0 N b0 (pre ++ rest))=some s3
  rw [this];exact k1
end
end Go.Zt

