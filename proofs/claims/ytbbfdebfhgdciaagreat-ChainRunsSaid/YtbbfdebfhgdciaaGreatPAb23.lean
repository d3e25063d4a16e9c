/- What the law ChainRuns needs of the text Ab23. -/
import Derived.Test.YtbbfdebfhgdciaaGreatPAb22
set_option linter.unusedVariables false
set_option linter.unusedSimpArgs false
namespace Go.Zt
section
variable {ann:Ann}{ops:Array Oper}
theorem z7m {acc:List Nat}{b:Nat} : ∀ {es:List Edge} {s:Nat},(z4m acc es s).testBit b=true→s.testBit b=true∨∃ e ∈ es,Region.binds .any e=true∧(e.on=b∨(acc.getD e.on 0).testBit b=true)
 | [],s,h=>.inl h
 | e :: r,s,h=>by
  simp only [z4m] at h
  split at h
  ·rename_i hb
   rcases z7m h with h | ⟨e',h1,h2⟩
   ·rw [Nat.testBit_or,Nat.testBit_or,Nat.testBit_two_pow] at h
    rcases Bool.or_eq_true_iff.1 h with h | h
    ·rcases Bool.or_eq_true_iff.1 h with h | h
     ·exact .inl h
     ·exact .inr ⟨e,by simp,hb,.inl (by simpa using h)⟩
    ·exact .inr ⟨e,by simp,hb,.inr h⟩
   ·exact .inr ⟨e',by simp [h1],h2⟩
  ·rcases z7m h with h | ⟨e',h1,h2⟩
   ·exact .inl h
   ·exact .inr ⟨e',by simp [h1],h2⟩
theorem zdy:∀ (l:List Oper)(acc:List Nat),∃ tail,jd l acc=acc ++ tail∧tail.length=l.length∧∀ (i:Nat) (o:Oper),l[i]?=some o→tail[i]?=some (z4m (acc ++ tail.take i) o.after.toList 0)
 | [],acc=>⟨[],by simp [jd],rfl,fun i o h=>by simp at h⟩
 | o :: r,acc=>by
  obtain ⟨tail,h1,h2,h3⟩:=zdy r (acc ++ [z4m acc o.after.toList 0])
  refine ⟨z4m acc o.after.toList 0 :: tail,by simp [jd,h1],by simp [h2],fun i o' h=>?_⟩
  cases i with
  | zero=>simp at h;subst h;simp
  | succ i=>
   have:=h3 i o' (by simpa using h)
   simpa using this
def zll (ops:Array Oper)(L:Nat→Prop):Prop:=∀ (i:Nat) (o:Oper),L i→ops[i]?=some o→∀ e ∈ o.after.toList,Region.binds .any e=true→L e.on
theorem zho {L:Nat→Prop}(hc:zll ops L):∀ (n i:Nat) (o:Oper),i < n→ops[i]?=some o→(∀ e ∈ o.after.toList,Region.binds .any e=true→L e.on)→∀ b,((jd ops.toList []).getD i 0).testBit b=true→L b:=by
 intro n
 induction n with
 | zero=>intro i o hi;omega
 | succ n ih=>
  intro i o hi ho ha b hb
  obtain ⟨tail,h1,h2,h3⟩:=zdy ops.toList []
  rw [List.nil_append] at h1
  have hm:=h3 i o (by rw [Array.getElem?_toList];exact ho)
  rw [h1,List.getD_eq_getElem?_getD,hm] at hb
  rcases z7m hb with h | ⟨e,h4,h5,h6⟩
  ·simp at h
  ·have hl:=ha e h4 h5
   rcases h6 with rfl | h6
   ·exact hl
   ·rw [List.nil_append,List.getD_eq_getElem?_getD,List.getElem?_take] at h6
    split at h6
    ·rename_i hlt
     have hsz:e.on < ops.size:=by
      have:=(Array.getElem?_eq_some_iff.1 ho).1
      omega
     refine ih e.on ops[e.on] (by omega) (Array.getElem?_eq_getElem hsz) (fun e' he' hb'=>hc e.on _ hl (Array.getElem?_eq_getElem hsz) e' he' hb') b ?_
     rw [h1,List.getD_eq_getElem?_getD];exact h6
    ·simp at h6
theorem z92 {y:Oper}{m:Nat} : ∀ {l:List Oper} {i:Nat},z79 ann ops y m l i=true→∀ (j:Nat) (x:Oper),l[j]?=some x→z6d ann ops x y=true→m.testBit (i+j)=true
 | [],i,h,j,x,hx,_=>by simp at hx
 | z :: r,i,h,j,x,hx,hcl=>by
  simp only [z79] at h
  split at h
  ·cases h
  ·rename_i hz
   cases j with
   | zero=>
    simp at hx;subst hx
    rw [hcl] at hz
    simpa using hz
   | succ j=>
    rw [show i+(j+1)=i+1+j by omega]
    exact z92 h j x (by simpa using hx) hcl
theorem zbz:∀ {l done:List Oper}{ms:List Nat},zaa ann ops done l ms=true→∀ (k:Nat) (y:Oper),l[k]?=some y→z79 ann ops y (ms.getD k 0) (done ++ l.take k) 0=true
 | [],done,ms,h,k,y,hy=>by simp at hy
 | z :: r,done,[],h,k,y,hy=>by simp [zaa] at h
 | z :: r,done,m :: ms,h,k,y,hy=>by
  simp only [zaa] at h
  split at h
  ·rename_i hz
   cases k with
   | zero=>simp at hy;subst hy;simpa using hz
   | succ k=>
    have:=zbz h k y (by simpa using hy)
    simpa using this
  ·cases h
theorem z4a:∀ {l l':List Nat},za9 l l'=false→∀ d ∈ l,d ∉ l'
 | [],l',h,d,hd=>by simp at hd
 | x :: r,l',h,d,hd=>by
  simp only [za9] at h
  split at h
  ·cases h
  ·rename_i hx
   rcases List.mem_cons.1 hd with rfl | hd
   ·intro hm
    rw [z5q.2 hm] at hx;cases hx
   ·exact z4a h d hd
theorem z7n {x y:Oper}(h:z6d ann ops x y=false):NoClash ann ops x y:=by
 unfold z6d at h
 simp only [Bool.or_eq_false_iff] at h
 obtain ⟨⟨⟨h1,h2⟩,h3⟩,h4⟩:=h
 have h1:z87 (zk ann x) (zk ann y)=false∨z5t ann x y=true∨(jn ann x=true∧jn ann y=true):=by
  cases ha:z87 (zk ann x) (zk ann y) with
  | false=>exact .inl rfl
  | true=>
   rw [ha] at h1
   cases hb:z5t ann x y with
   | true=>exact .inr (.inl rfl)
   | false=>
    rw [hb] at h1
    exact .inr (.inr (by simpa using h1))
 have dm:∀ (o:Oper) d,o.dst=some d→d ∈ zdb o:=fun o d hd=>by simp [zdb,hd]
 exact ⟨h1,fun d hx hy=>z4a h2 d (dm x d hx) (dm y d hy),fun d hx=>z4a h3 d (dm x d hx),fun d hy=>z4a h4 d (dm y d hy)⟩
theorem z7o {m:Nat}{ms:List Nat}{j:Nat} : ∀ {l:List Oper} {i:Nat} (k:Nat) (x:Oper),l[k]?=some x→zk ann x=.eff→(if i+k < j then m.testBit (i+k) else (ms.getD (i+k) 0).testBit j)=false→z1i ann m ms j l i=true
 | [],i,k,x,hx,_,_=>by simp at hx
 | z :: r,i,k,x,hx,hc,hb=>by
  simp only [z1i]
  cases k with
  | zero=>
   simp at hx;subst hx
   rw [Nat.add_zero] at hb
   have hd:decide (zk ann z=.eff)=true:=decide_eq_true hc
   cases hbl:Nat.blt i j with
   | true=>
    have hlt:i < j:=Nat.le_of_ble_eq_true hbl
    rw [if_pos hlt] at hb
    simp only [hd,hb,Bool.not_false,Bool.and_self]
   | false=>
    have hlt:¬ i < j:=fun h=>by rw [show Nat.blt i j=true from Nat.ble_eq_true_of_le h] at hbl;cases hbl
    rw [if_neg hlt] at hb
    simp only [hd,hb,Bool.not_false,Bool.and_self]
  | succ k=>
   split
   ·rfl
   ·exact z7o k x (by simpa using hx) hc (by rw [show i+1+k=i+(k+1) by omega];exact hb)
theorem z5i {m:Nat}{ms:List Nat}{j:Nat} : ∀ {l:List Oper} {i:Nat} (k:Nat) (x:Oper),l[k]?=some x→zk ann x=.ld→(if i+k < j then m.testBit (i+k) else (ms.getD (i+k) 0).testBit j)=false→z3y ann m ms j l i=true
 | [],i,k,x,hx,_,_=>by simp at hx
 | z :: r,i,k,x,hx,hc,hb=>by
  simp only [z3y]
  cases k with
  | zero=>
   simp at hx;subst hx
   rw [Nat.add_zero] at hb
   have hd:decide (zk ann z=.ld)=true:=decide_eq_true hc
   cases hbl:Nat.blt i j with
   | true=>
    have hlt:i < j:=Nat.le_of_ble_eq_true hbl
    rw [if_pos hlt] at hb
    simp only [hd,hb,Bool.not_false,Bool.and_self]
   | false=>
    have hlt:¬ i < j:=fun h=>by rw [show Nat.blt i j=true from Nat.ble_eq_true_of_le h] at hbl;cases hbl
    rw [if_neg hlt] at hb
    simp only [hd,hb,Bool.not_false,Bool.and_self]
  | succ k=>
   split
   ·rfl
   ·exact z5i k x (by simpa using hx) hc (by rw [show i+1+k=i+(k+1) by omega];exact hb)
theorem z4t {all:List Oper}{ms:List Nat} : ∀ {l:List Oper} {i:Nat} (k:Nat) (x:Oper),l[k]?=some x→zk ann x=.ld→z1i ann (ms.getD (i+k) 0) ms (i+k) all 0=true→z3z ann all ms l i=true
 | [],i,k,x,hx,_,_=>by simp at hx
 | z :: r,i,k,x,hx,hc,hb=>by
  simp only [z3z]
  cases k with
  | zero=>
   simp at hx;subst hx
   rw [Nat.add_zero] at hb
   have hd:decide (zk ann z=.ld)=true:=decide_eq_true hc
   simp only [hd,hb,Bool.and_self]
  | succ k=>
   split
   ·rfl
   ·exact z4t k x (by simpa using hx) hc (by rw [show i+1+k=i+(k+1) by omega];exact hb)
theorem z93 {m:Nat}{ms:List Nat}{j b:Nat} : ∀ {l:List Oper} {i:Nat} (k:Nat) (x:Oper),l[k]?=some x→z1f ann x=some b→(if i+k < j then m.testBit (i+k) else (ms.getD (i+k) 0).testBit j)=false→z03 (z2a ann m ms j l i) b=true
 | [],i,k,x,hx,_,_=>by simp at hx
 | z :: r,i,k,x,hx,hc,hb=>by
  cases k with
  | zero=>
   simp at hx;subst hx
   rw [Nat.add_zero] at hb
   simp only [z2a,hc]
   cases hbl:Nat.blt i j with
   | true=>
    have hlt:i < j:=Nat.le_of_ble_eq_true hbl
    rw [if_pos hlt] at hb
    simp only [hb]
    exact z5q.2 (by simp)
   | false=>
    have hlt:¬ i < j:=fun h=>by rw [show Nat.blt i j=true from Nat.ble_eq_true_of_le h] at hbl;cases hbl
    rw [if_neg hlt] at hb
    simp only [hb]
    exact z5q.2 (by simp)
  | succ k=>
   have ih:=z93 (l:=r) (i:=i+1) k x (by simpa using hx) hc (by rw [show i+1+k=i+(k+1) by omega];exact hb)
   simp only [z2a]
   split
   ·split
    ·exact ih
    ·exact z5q.2 (List.mem_cons_of_mem _ (z5q.1 ih))
   ·exact ih
theorem ziz {o:Oper}(h:jn ann o=true):zk ann o=.eff:=by
 unfold jn at h
 split at h
 ·assumption
 ·cases h
theorem zrz {x y:Oper}(h:z6d ann ops x y=false)(h1:zk ann x=.wr)(h2:zk ann y=.ld):∃ b,z1f ann x=some b:=by
 rcases (z7n h).cls with c | c | c
 rotate_left 2
 ·rw [ziz c.1] at h1;cases h1
 ·rw [h1,h2] at c;cases c
 ·simp only [z5t,h1,h2] at c
  exact Option.isSome_iff_exists.1 c
theorem zs0 {x y:Oper}(h:z6d ann ops x y=false)(h1:zk ann x=.ld)(h2:zk ann y=.wr):∃ b,z1f ann y=some b:=by
 rcases (z7n h).cls with c | c | c
 rotate_left 2
 ·rw [ziz c.1] at h1;cases h1
 ·rw [h1,h2] at c;cases c
 ·simp only [z5t,h1,h2] at c
  exact Option.isSome_iff_exists.1 c
theorem z4u {m:Nat}{ms:List Nat}{j:Nat} : ∀ {l:List Oper} {i:Nat} (k:Nat) (x:Oper),l[k]?=some x→jn ann x=true→i+k≠j→(if i+k < j then m.testBit (i+k) else (ms.getD (i+k) 0).testBit j)=false→z5u ann m ms j l i=true
 | [],i,k,x,hx,_,_,_=>by simp at hx
 | z :: r,i,k,x,hx,hc,hne,hb=>by
  simp only [z5u]
  cases k with
  | zero=>
   simp at hx;subst hx
   rw [Nat.add_zero] at hb hne
   have hq:Nat.beq i j=false:=z39 hne
   cases hbl:Nat.blt i j with
   | true=>
    have hlt:i < j:=Nat.le_of_ble_eq_true hbl
    rw [if_pos hlt] at hb
    simp only [hc,hq,hb,Bool.not_false,Bool.and_self]
   | false=>
    have hlt:¬ i < j:=fun h=>by rw [show Nat.blt i j=true from Nat.ble_eq_true_of_le h] at hbl;cases hbl
    rw [if_neg hlt] at hb
    simp only [hc,hq,hb,Bool.not_false,Bool.and_self]
  | succ k=>
   split
   ·rfl
   ·exact z4u k x (by simpa using hx) hc (by omega) (by rw [show i+1+k=i+(k+1) by omega];exact hb)
theorem zb3 {all:List Oper}{ms:List Nat} : ∀ {l:List Oper} {i:Nat} (k:Nat) (x:Oper),l[k]?=some x→jn ann x=true→z5u ann (ms.getD (i+k) 0) ms (i+k) all 0=true→i+k ∈ z01 ann all ms l i
 | [],i,k,x,hx,_,_=>by simp at hx
 | z :: r,i,k,x,hx,hc,hb=>by
  simp only [z01]
  cases k with
  | zero=>
   simp at hx;subst hx
   rw [Nat.add_zero] at hb ⊢
   simp only [hc,hb,Bool.and_self]
   exact List.mem_cons_self
  | succ k=>
   have ih:=zb3 (l:=r) (i:=i+1) k x (by simpa using hx) hc (by rw [show i+1+k=i+(k+1) by omega];exact hb)
   rw [show i+1+k=i+(k+1) by omega] at ih
   split
   ·exact List.mem_cons_of_mem _ ih
   ·exact ih
theorem z4j:∀ {N:List Nat}{b j:Nat},j ∈ N→∃ a,z1g N b j=some a∧b≤a
 | [],b,j,h=>by cases h
 | k :: r,b,j,h=>by
  simp only [z1g]
  by_cases e:k=j
  ·subst e
   exact ⟨b,by simp,Nat.le_refl _⟩
  ·rw [z39 e]
   obtain ⟨a,h1,h2⟩:=z4j (N:=r) (b:=b+1) (j:=j) ((List.mem_cons.1 h).resolve_left (fun h=>e h.symm))
   exact ⟨a,h1,by omega⟩
theorem zj0:∀ {N:List Nat}{b i j u v:Nat},i≠j→i ∈ N→j ∈ N→z1g N b i=some u→z1g N b j=some v→u≠v
 | [],b,i,j,u,v,_,h,_,_,_=>by cases h
 | k :: r,b,i,j,u,v,hij,hi,hj,hu,hv=>by
  simp only [z1g] at hu hv
  by_cases e:k=i
  ·subst e
   have e2:k≠j:=hij
   rw [z39 e2] at hv
   have hv:z1g r (b+1) j=some v:=hv
   have:Nat.beq k k=true:=by simp
   rw [this] at hu
   injection hu with hu;subst hu
   obtain ⟨a,h1,h2⟩:=z4j (N:=r) (b:=b+1) (j:=j) ((List.mem_cons.1 hj).resolve_left (fun h=>e2 h.symm))
   rw [hv] at h1;injection h1 with h1
   omega
  ·rw [z39 e] at hu
   have hu:z1g r (b+1) i=some u:=hu
   have hi':=(List.mem_cons.1 hi).resolve_left (fun h=>e h.symm)
   by_cases e2:k=j
   ·subst e2
    have:Nat.beq k k=true:=by simp
    rw [this] at hv
    injection hv with hv;subst hv
    obtain ⟨a,h1,h2⟩:=z4j (N:=r) (b:=b+1) (j:=i) hi'
    rw [hu] at h1;injection h1 with h1
    omega
   ·rw [z39 e2] at hv
    exact zj0 hij hi' ((List.mem_cons.1 hj).resolve_left (fun h=>e2 h.symm)) hu hv
theorem z73 {i:Nat} : ∀ {l:List Edge},z6e i l=true→∀ e ∈ l,Region.binds .any e=true→e.on < i
 | [],h,e,he,_=>by simp at he
 | z :: r,h,e,he,hb=>by
  simp only [z6e] at h
  split at h
  ·cases h
  ·rename_i hz
   rcases List.mem_cons.1 he with rfl | he
   ·cases hbl:Nat.blt e.on i with
    | true=>exact Nat.le_of_ble_eq_true hbl
    | false=>exact absurd hbl (hz hb)
   ·exact z73 h e he hb
theorem z94:∀ {l:List Oper}{i:Nat},z7a l i=true→∀ (k:Nat) (o:Oper),l[k]?=some o→∀ e ∈ o.after.toList,Region.binds .any e=true→e.on < i+k
 | [],i,h,k,o,ho,_,_,_=>by simp at ho
 | z :: r,i,h,k,o,ho,e,he,hb=>by
  simp only [z7a] at h
  split at h
  ·rename_i hz
   cases k with
   | zero=>simp at ho;subst ho;exact z73 hz e he hb
   | succ k=>
    have:=z94 h k o (by simpa using ho) e he hb
    omega
  ·cases h
end
end Go.Zt

