/- What the law ChainRuns needs of the text Ab17. -/
import Derived.Test.YtbbfdebfhgdciaaGreatPAb16
set_option linter.unusedVariables false
set_option linter.unusedSimpArgs false
namespace Go.Zt
def Low (lo:Nat)(M M':Mem):Prop:=M.length≤M'.length∧∀ b,b < lo→b < M.length→M'[b]?=M[b]?
theorem Low.refl (lo:Nat)(M:Mem):Low lo M M:=⟨Nat.le_refl _,fun _ _ _=>rfl⟩
theorem Low.trans {lo:Nat}{M M1 M2:Mem}(h:Low lo M M1)(k:Low lo M1 M2):Low lo M M2:=⟨Nat.le_trans h.1 k.1,fun b h1 h2=>(k.2 b h1 (Nat.lt_of_lt_of_le h2 h.1)).trans (h.2 b h1 h2)⟩
theorem Low.floor {lo lo':Nat}{M M':Mem}(h:Low lo' M M')(hl:lo≤lo'∨M.length≤lo'):Low lo M M':=⟨h.1,fun b h1 h2=>h.2 b (by omega) h2⟩
theorem Low.push (lo:Nat)(M:Mem)(k:Blk):Low lo M (M ++ [k]):=⟨by simp,fun b _ h2=>List.getElem?_append_left h2⟩
theorem Low.set {lo:Nat}(M:Mem){b:Nat}(k:Blk)(h:lo≤b):Low lo M (M.set b k):=⟨by simp,fun c h1 h2=>List.getElem?_set_ne (by omega)⟩
theorem zfr {lo:Nat}{M M':Mem}{a:Addr}{vs:List Value}(h:M.st lo a vs=some M'):Low lo M M':=by
 unfold Mem.st at h
 split at h
 ·split at h
  ·rename_i hc;injection h with h;subst h;exact Low.set _ _ hc.2.1
  ·cases h
 ·split at h
  ·rename_i hc;injection h with h;subst h;exact Low.set _ _ hc.2.1
  ·cases h
 ·cases h
theorem zpw {lo z b:Nat}{M M':Mem}{sl sl':Slc}{vs:List Value}{m:Nat}(h:M.app lo z b sl vs m=some (sl',M')):Low lo M M':=by
 unfold Mem.app at h
 split at h
 ·injection h with h;injection h with _ h;subst h;exact Low.refl _ _
 ·split at h
  ·split at h
   ·split at h
    ·injection h with h;injection h with _ h;subst h;exact Low.push _ _ _
    ·cases h
   ·split at h
    ·split at h
     ·obtain ⟨old,_,h⟩:=Option.bind_eq_some_iff.1 h
      injection h with h;injection h with _ h;subst h;exact Low.push _ _ _
     ·cases h
    ·split at h
     ·split at h
      ·rename_i hc;injection h with h;injection h with _ h;subst h;exact Low.set _ _ hc.2.2.2.2
      ·cases h
     ·cases h
  ·cases h
theorem zb5 {M M':Mem}{lo i z:Nat}{cs:List Value}{a:Addr}(h:M.fill lo i z cs=some (a,M')):Low lo M M':=by
 obtain ⟨ds,hk,hlo,hz,hc⟩:=z7y h
 rcases hc with ⟨rfl,rfl,rfl⟩ | ⟨hne,rfl,rfl⟩
 ·exact Low.refl _ _
 ·exact Low.set _ _ hlo
theorem zfs (lo:Nat)(s:St)(N:List Nat):Low lo s.mem (z14 s N).mem:=by
 cases N with
 | nil=>exact Low.refl _ _
 | cons k r=>exact ⟨by simp [z14],fun b _ h2=>List.getElem?_append_left h2⟩
def uo (call:Nat→FuncId→List Value→Mem→Option (Value × Mem)):Prop:=∀ lo f args M r M',call lo f args M=some (r,M')→Low lo M M'
section
variable {C:Ctx}{s s':St}{e:EV}
theorem z68 {P:Program}{t:TypeId}{g:Nat→Option Value}{s:St}(h:(z3w P t g fun v=>some (EV.v v,s))=some (e,s')):s'=s:=by
 rcases z5p h with ⟨_,⟨_,_,_,_,_,h⟩ | ⟨_,_,_,_,h⟩⟩ <;> (injection h with h;injection h with _ h;exact h.symm)
theorem ze4 {dst:Option Tmp}{cs:List Value}(h:qy C dst cs s (fun e s'=>some (e,s'))=some (e,s')):Low C.lo s.mem s'.mem:=by
 unfold qy at h
 split at h
 ·cases h
 ·split at h
  ·split at h
   ·injection h with h;injection h with _ h;subst h;exact Low.refl _ _
   ·cases h
  ·split at h
   ·injection h with h;injection h with _ h;subst h;exact Low.push _ _ _
   ·split at h
    ·cases h
    ·rw [yn] at h
     obtain ⟨q,hq,h⟩:=Option.bind_eq_some_iff.1 h
     injection h with h;injection h with _ h;subst h;exact zb5 hq
theorem zlq {t:TypeId}{x:Option EV}(h:z1o C t x s (fun e s'=>some (e,s'))=some (e,s')):s'=s:=by
 unfold z1o at h
 split at h
 ·split at h
  ·exact z68 h
  ·cases h
 ·exact z68 h
 ·cases h
theorem zlr {t:TypeId}{x:Option EV}{v:Value}(h:z1d C t x v s (fun e s'=>some (e,s'))=some (e,s')):Low C.lo s.mem s'.mem:=by
 unfold z1d at h
 split at h
 ·cases h
 ·cases h
 ·split at h
  ·split at h
   ·split at h
    ·rw [yt] at h
     split at h
     ·injection h with h;injection h with _ h;subst h;exact Low.refl _ _
     ·cases h
    ·cases h
   ·rw [yn] at h
    obtain ⟨M,hM,h⟩:=Option.bind_eq_some_iff.1 h
    injection h with h;injection h with _ h;subst h;exact zfr hM
   ·cases h
  ·cases h
theorem zls {k:IntKind}{l:List Value} : ∀ {x:Int},(z85 k x l fun v=>some (EV.v v,s))=some (e,s')→s'=s:=by
 induction l with
 | nil=>intro x h;injection h with h;injection h with _ h;exact h.symm
 | cons v l ih=>
  intro x h
  cases v <;> simp only [z85] at h <;> first | (cases h;done) | skip
  rw [yt] at h
  split at h
  ·exact ih h
  ·cases h
theorem zlt {k:IntKind}{l:List Value} : ∀ {x:Int},(z86 k x l fun v=>some (EV.v v,s))=some (e,s')→s'=s:=by
 induction l with
 | nil=>intro x h;injection h with h;injection h with _ h;exact h.symm
 | cons v l ih=>
  intro x h
  cases v <;> simp only [z86] at h <;> first | (cases h;done) | skip
  rw [yt] at h
  split at h
  ·exact ih h
  ·cases h
theorem zaw {z:Nat}{A:Option Addr}{n c:Nat}{l h m:Option Int}{s:St}(hh:(z1t z A n c l h m fun v=>some (EV.v v,s))=some (e,s')):s'=s:=by
 unfold z1t at hh
 repeat' split at hh
 all_goals first
  | (cases hh;done)
  | (rw [yt] at hh;split at hh <;> first | (cases hh;done) | (injection hh with hh;injection hh with _ hh;exact hh.symm))
theorem zo5 {tys:List TypeId}{x:Option EV}(h:(z9k C tys x fun v=>some (EV.v v,s))=some (e,s')):s'=s:=by
 unfold z9k at h
 repeat' split at h
 all_goals first
  | (cases h;done)
  | (injection h with h;injection h with _ h;exact h.symm)
theorem zhp {b:Builtin}{tys:List TypeId}{args:List Operand}(h:qd C b tys args s (fun e s'=>some (e,s'))=some (e,s')):Low C.lo s.mem s'.mem:=by
 unfold qd at h
 split at h
 ·split at h
  ·rw [zo5 h];exact Low.refl _ _
  ·cases h
 ·split at h
  ·rw [zls h];exact Low.refl _ _
  ·cases h
 ·split at h
  ·rw [zlt h];exact Low.refl _ _
  ·cases h
 ·split at h
  ·unfold z22 at h
   split at h
   ·split at h
    ·split at h
     ·rw [yn] at h
      obtain ⟨vs,_,h⟩:=Option.bind_eq_some_iff.1 h
      rw [yn] at h
      obtain ⟨r,hr,h⟩:=Option.bind_eq_some_iff.1 h
      injection h with h;injection h with _ h;subst h
      exact zpw hr
     ·cases h
    ·cases h
   ·cases h
  ·cases h
 ·split at h
  ·unfold z4c at h
   split at h
   ·split at h
    ·split at h
     ·rw [yn] at h
      obtain ⟨vs,_,h⟩:=Option.bind_eq_some_iff.1 h
      rw [yt] at h
      split at h
      ·injection h with h;injection h with _ h;subst h;exact Low.refl _ _
      ·rw [yn] at h
       obtain ⟨a,_,h⟩:=Option.bind_eq_some_iff.1 h
       rw [yn] at h
       obtain ⟨M,hM,h⟩:=Option.bind_eq_some_iff.1 h
       injection h with h;injection h with _ h;subst h;exact zfr hM
     ·cases h
    ·cases h
   ·cases h
  ·cases h
 ·split at h
  ·unfold z29 at h
   split at h
   ·split at h
    ·split at h
     ·cases h
     ·rw [yt] at h
      split at h
      ·injection h with h;injection h with _ h;subst h;exact Low.refl _ _
      ·rw [yn] at h
       obtain ⟨a,_,h⟩:=Option.bind_eq_some_iff.1 h
       rw [yn] at h
       obtain ⟨M,hM,h⟩:=Option.bind_eq_some_iff.1 h
       injection h with h;injection h with _ h;subst h;exact zfr hM
     ·cases h
    ·cases h
   ·cases h
  ·cases h
 ·cases h
theorem zlu {b:Bool}{x y:Option EV}{s:St}(h:(z53 b x y fun e=>some (e,s))=some (e,s')):s'=s:=by
 unfold z53 at h
 split at h
 ·rw [yt] at h
  split at h
  ·injection h with h;injection h with _ h;exact h.symm
  ·cases h
 ·injection h with h;injection h with _ h;exact h.symm
 ·rw [za8] at h
  split at h <;> (split at h <;> first | (cases h;done) | (injection h with h;injection h with _ h;exact h.symm))
theorem zlv {op:BinOp}{k:FloatKind}{x y:Nat}{s:St}(h:(zba op k x y fun v=>some (EV.v v,s))=some (e,s')):s'=s:=by
 cases op <;> simp only [zba] at h <;> first | (cases h;done) | (injection h with h;injection h with _ h;exact h.symm)
theorem zlw {op:BinOp}{k:IntKind}{x y:Int}{s:St}(h:(z9j op k x y fun v=>some (EV.v v,s))=some (e,s')):s'=s:=by
 cases op <;> simp only [z9j,yt] at h <;> (try split at h) <;> first | (cases h;done) | (injection h with h;injection h with _ h;exact h.symm)
theorem zjt {P:Program}{op:BinOp}{t:TypeId}{a b:Value}{s:St}(h:(z4l P op t a b fun v=>some (EV.v v,s))=some (e,s')):s'=s:=by
 unfold z4l at h
 repeat' split at h
 all_goals first
  | (cases h;done)
  | (injection h with h;injection h with _ h;exact h.symm)
  | (rw [yt] at h;split at h <;> first | (cases h;done) | exact zlw h | exact zlv h | (injection h with h;injection h with _ h;exact h.symm))
  | (rw [yn] at h;obtain ⟨_,_,h⟩:=Option.bind_eq_some_iff.1 h;rw [yn] at h;obtain ⟨_,_,h⟩:=Option.bind_eq_some_iff.1 h;injection h with h;injection h with _ h;exact h.symm)
theorem zlx {op:UnOp}{a:Value}{s:St}(h:(z6b op a fun v=>some (EV.v v,s))=some (e,s')):s'=s:=by
 unfold z6b at h
 repeat' split at h
 all_goals first
  | (cases h;done)
  | (injection h with h;injection h with _ h;exact h.symm)
theorem zly {P:Program}{t u:TypeId}{a:Value}{s:St}(h:(z6c P t u a fun v=>some (EV.v v,s))=some (e,s')):s'=s:=by
 unfold z6c at h
 repeat' split at h
 all_goals first
  | (cases h;done)
  | (injection h with h;injection h with _ h;exact h.symm)
theorem zju {t:TypeId}{x:Option EV}{l h m:Option (Option Int)}{s:St}(hh:(z3d C t x l h m fun e=>some (e,s))=some (e,s')):s'=s:=by
 unfold z3d at hh
 repeat' split at hh
 all_goals first
  | (cases hh;done)
  | exact zaw hh
  | (rw [yt] at hh;split at hh <;> first | exact zaw hh | cases hh)
theorem zjv {t:TypeId}{x:Option EV}{i:Int}{s:St}(h:(vr C t x i fun e=>some (e,s))=some (e,s')):s'=s:=by
 unfold vr at h
 repeat' split at h
 all_goals first
  | (cases h;done)
  | (rw [yt] at h;split at h <;> first
    | (cases h;done)
    | (injection h with h;injection h with _ h;exact h.symm)
    | (rw [yn] at h;obtain ⟨_,_,h⟩:=Option.bind_eq_some_iff.1 h;injection h with h;injection h with _ h;exact h.symm))
theorem zpx (hc:uo C.call){o:Oper}(h:z38 C o s=some (e,s')):Low C.lo s.mem s'.mem:=by
 obtain ⟨dst,op,type,pos,after,guard⟩:=o
 unfold z38 at h
 have same:s'=s→Low C.lo s.mem s'.mem:=fun h=>by rw [h];exact Low.refl _ _
 cases op <;> simp only [aop] at h <;> try (cases h;done)
 case move x=>
  split at h
  ·injection h with h;injection h with _ h;exact same h.symm
  ·cases h
 case assign x=>
  split at h
  ·injection h with h;injection h with _ h;exact same h.symm
  ·cases h
 case pick c x y=>
  split at h
  ·exact same (zlu h)
  ·cases h
 case alloc t=>
  split at h
  ·exact ze4 h
  ·cases h
 case box t x=>
  split at h
  ·split at h
   ·exact ze4 h
   ·cases h
  ·cases h
 case build t ps=>
  repeat' split at h
  all_goals first
   | (cases h;done)
   | (injection h with h;injection h with _ h;exact same h.symm)
 case buildSlice t len ps=>
  repeat' split at h
  all_goals first
   | (cases h;done)
   | (injection h with h;injection h with _ h;subst h;first | exact Low.refl _ _ | exact Low.push _ _ _)
   | (rw [yn] at h;obtain ⟨q,hq,h⟩:=Option.bind_eq_some_iff.1 h;injection h with h;injection h with _ h;subst h;exact zb5 hq)
 case load t x=>exact same (zlq h)
 case store t x y=>
  split at h
  ·exact zlr h
  ·cases h
 case nilCheck x=>
  split at h
  ·injection h with h;injection h with _ h;exact same h.symm
  ·cases h
 case binOp op t x y ae=>
  split at h
  ·exact same (zjt h)
  ·cases h
 case unOp op t x=>
  split at h
  ·exact same (zlx h)
  ·cases h
 case convert t u x=>
  split at h
  ·exact same (zly h)
  ·cases h
 case makeFunc fn first captured=>
  split at h
  ·injection h with h;injection h with _ h;exact same h.symm
  ·cases h
 case makeSlice t l c=>
  unfold z3e at h
  split at h
  ·split at h
   ·rw [yt] at h
    split at h
    ·split at h
     ·split at h
      ·injection h with h;injection h with _ h;subst h;exact Low.push _ _ _
      ·rw [yn] at h
       obtain ⟨q,hq,h⟩:=Option.bind_eq_some_iff.1 h
       injection h with h;injection h with _ h;subst h;exact zb5 hq
     ·split at h
      ·injection h with h;injection h with _ h;subst h;exact Low.push _ _ _
      ·cases h
     ·cases h
    ·cases h
   ·cases h
  ·cases h
 case slice t x l hi mx=>exact same (zju h)
 case fieldAddr t x i=>
  repeat' split at h
  all_goals first
   | (cases h;done)
   | (injection h with h;injection h with _ h;exact same h.symm)
 case field t x i=>
  repeat' split at h
  all_goals first
   | (cases h;done)
   | exact same (z68 h)
 case indexAddr t x i=>
  split at h
  ·exact same (zjv h)
  ·cases h
 case index t x i=>
  repeat' split at h
  all_goals first
   | (cases h;done)
   | (rw [yt] at h;split at h <;> first | (cases h;done) | first | exact same (z68 h) | (injection h with h;injection h with _ h;exact same h.symm))
 case extract x i=>
  repeat' split at h
  all_goals first
   | (cases h;done)
   | (injection h with h;injection h with _ h;exact same h.symm)
 case call c=>
  split at h
  ·exact zhp h
  ·split at h
   ·rw [yn] at h
    obtain ⟨q,_,h⟩:=Option.bind_eq_some_iff.1 h
    unfold z54 at h
    rw [yn] at h
    obtain ⟨r,hr,h⟩:=Option.bind_eq_some_iff.1 h
    have h:=z7x h
    injection h with h;injection h with _ h;subst h
    exact hc _ _ _ _ _ _ hr
   ·cases h
  ·cases h
theorem zj5 {dst:Option Tmp}(h:km C dst e s=some s'):s'.mem=s.mem∧s'.loc=s.loc:=by
 rcases z5m h with ⟨_,rfl⟩ | ⟨t,_,_,rfl⟩ <;> exact ⟨rfl,rfl⟩
theorem z5k (hc:uo C.call){ops:Array Oper}{o:Oper}(h:j6 C ops o s=some s'):Low C.lo s.mem s'.mem:=by
 have key:∀ s:St,((z38 C o s).bind fun p=>km C o.dst p.1 p.2)=some s'→Low C.lo s.mem s'.mem:=fun s h=>by
  obtain ⟨p,hp,h⟩:=Option.bind_eq_some_iff.1 h
  rw [(zj5 h).1]
  exact zpx hc hp
 unfold j6 at h
 repeat' split at h
 all_goals first
  | (cases h;done)
  | (have:=key _ h;exact this)
  | (rw [(zj5 h).1];exact Low.refl _ _)
theorem zc3 (hc:uo C.call){ops:Array Oper}{R:Type}{K:St→Option R}{r:R} : ∀ {l:List Oper} {s:St},z78 C ops l s K=some r→∃ s',Low C.lo s.mem s'.mem∧K s'=some r
 | [],s,h=>⟨s,Low.refl _ _,h⟩
 | o :: l,s,h=>by
  simp only [z78] at h
  rw [z7w] at h
  obtain ⟨s1,h1,h⟩:=Option.bind_eq_some_iff.1 h
  obtain ⟨s',h2,h3⟩:=zc3 hc h
  exact ⟨s',(z5k hc h1).trans h2,h3⟩
theorem zft (hc:uo C.call){ops:Array Oper}{all:List Oper}{ms:List Nat}{L R0 f b0:Nat}{N:List Nat}(h1:f≤C.lo)(h2:f≤L){R:Type}{K:St→Option R}{r:R} : ∀ {l:List Oper} {j:Nat} {s:St},z6q C ops all ms L R0 N b0 l j s K=some r→∃ s',Low f s.mem s'.mem∧K s'=some r
 | [],j,s,h=>⟨s,Low.refl _ _,h⟩
 | o :: l,j,s,h=>by
  simp only [z6q] at h
  split at h
  ·rw [z7w] at h
   obtain ⟨s1,g1,h⟩:=Option.bind_eq_some_iff.1 h
   obtain ⟨s',g2,g3⟩:=zft hc h1 h2 h
   have g1:=z5k (by exact hc) g1
   refine ⟨s',(g1.floor (.inl ?_)).trans g2,g3⟩
   show f≤loJ C L all ms j o
   unfold loJ
   split
   ·exact h2
   ·exact h1
  ·cases h
theorem zpy (hc:uo C.call){ops:Array Oper}{draw:Bool}{R:Type}{K:St→Option R}{r:R}(h:z9l C ops draw s K=some r):∃ s',Low C.lo s.mem s'.mem∧K s'=some r:=by
 unfold z9l at h
 split at h
 ·exact zc3 hc h
 ·split at h
  ·have fin:∀ L R0:Nat,min C.lo s.mem.length≤L→z6q C ops ops.toList (jd ops.toList []) L R0 (z01 C.ann ops.toList (jd ops.toList []) ops.toList 0) s.mem.length ops.toList 0 (z14 s (z01 C.ann ops.toList (jd ops.toList []) ops.toList 0)) K=some r→∃ s',Low C.lo s.mem s'.mem∧K s'=some r:=fun L R0 hL h=>by
    obtain ⟨s',h1,h2⟩:=zft (f:=min C.lo s.mem.length) hc (Nat.min_le_left _ _) hL h
    have h0:=zfs (min C.lo s.mem.length) s (z01 C.ann ops.toList (jd ops.toList []) ops.toList 0)
    have h1:=h0.trans h1
    exact ⟨s',⟨h1.1,fun b hb1 hb2=>h1.2 b (by omega) hb2⟩,h2⟩
   split at h
   ·exact fin _ _ (Nat.min_le_left _ _) h
   ·split at h
    ·exact fin _ _ (Nat.min_le_left _ _) h
    ·exact fin _ _ (Nat.min_le_right _ _) h
  ·cases h
def Out.mem:Out→Mem
 | .ret _ M=>M
 | .cut _ _ _ M=>M
def z99 (lo:Nat)(K:Kt):Prop:=∀ e s out,K e s=some out→Low lo s.mem out.mem
theorem zcy {p:Nat}{out:Out}(h:cutTo C p s=some out):out.mem=s.mem:=by
 unfold cutTo at h
 repeat' split at h
 all_goals first
  | (cases h;done)
  | (injection h with h;subst h;rfl)
theorem z1s {p:Nat}{out:Out}{F:St→Option Out}(hF:∀ s out,F s=some out→Low C.lo s.mem out.mem)(h:uv C p s F=some out):Low C.lo s.mem out.mem:=by
 unfold uv at h
 split at h
 ·rw [zcy h];exact Low.refl _ _
 ·exact hF _ _ h
theorem zcz {lo:Nat}{F:St→Option Out}{K:Kt}(hF:∀ s out,F s=some out→Low lo s.mem out.mem)(hK:z99 lo K):z99 lo (z6r F K):=by
 intro e s out h
 cases e with
 | nrm=>exact hF _ _ h
 | ext id=>exact hK _ _ _ h
 | ret=>exact hK _ _ _ h
theorem ze5 {lo id:Nat}{K:Kt}(hK:z99 lo K):z99 lo (z4n id K):=by
 intro e s out h
 cases e with
 | nrm=>exact hK _ _ _ h
 | ext i=>
  rw [z7u] at h
  split at h <;> exact hK _ _ _ h
 | ret=>exact hK _ _ _ h
theorem zb6 (hc:uo C.call):∀ (c:Code) (p:Nat) (s:St) (K:Kt) (out:Out),z99 C.lo K→z1k C c p s K=some out→Low C.lo s.mem out.mem:=by
 intro c
 induction c with
 | skip=>intro p s K out hK h;exact hK _ _ _ h
 | label l=>intro p s K out hK h;exact hK _ _ _ h
 | exit id=>intro p s K out hK h;exact hK (.ext id) _ _ h
 | ret=>intro p s K out hK h;exact hK .ret _ _ h
 | region id ops draw=>
  intro p s K out hK h
  obtain ⟨s',h1,h2⟩:=zpy hc (show z9l C ops draw s (fun s'=>K .nrm s')=some out from h)
  exact h1.trans (hK _ _ _ h2)
 | seq x y ihx ihy=>
  intro p s K out hK h
  refine z1s (fun s out h=>?_) (show uv C (2*p) s (fun s=>z1k C x (2*p) s (z6r (fun s=>uv C (2*p+1) s fun s=>z1k C y (2*p+1) s K) K))=some out from h)
  exact ihx _ _ _ _ (zcz (fun s out h=>z1s (fun s out h=>ihy _ _ _ _ hK h) h) hK) h
 | cond c x y ihx ihy=>
  intro p s K out hK h
  have h:(match val s c with
   | some (.bool b)=>bb b (uv C (2*p) s fun s=>z1k C x (2*p) s K) (uv C (2*p+1) s fun s=>z1k C y (2*p+1) s K)
   | _=>none)=some out:=h
  split at h
  ·rw [za8] at h
   split at h
   ·exact z1s (fun s out h=>ihx _ _ _ _ hK h) h
   ·exact z1s (fun s out h=>ihy _ _ _ _ hK h) h
  ·cases h
 | block id x ihx=>
  intro p s K out hK h
  exact z1s (fun s out h=>ihx _ _ _ _ (ze5 hK) h) (show uv C (2*p) s (fun s=>z1k C x (2*p) s (z4n id K))=some out from h)
 | scope x ihx=>
  intro p s K out hK h
  exact z1s (fun s out h=>ihx _ _ _ _ hK h) (show uv C (2*p) s (fun s=>z1k C x (2*p) s K)=some out from h)
 | loop x ihx=>
  intro p s K out hK h
  rw [zcy (show cutTo C (2*p) s=some out from h)]
  exact Low.refl _ _
 | _=>intro p s K out hK h;cases h
theorem zfu (hc:uo C.call):∀ (path:List Bool) (c:Code) (p:Nat) (K:Kt),z99 C.lo K→z99 C.lo (z0v C path c p K)
 | [],c,p,K,hK=>hK
 | d :: r,c,p,K,hK=>by
  have ih:=zfu hc r
  cases c <;> cases d <;> simp only [z0v] <;> first
   | (exact fun e s out h=>by cases h)
   | exact ih _ _ _ hK
   | exact ih _ _ _ (ze5 hK)
   | exact ih _ _ _ (zcz (fun s out h=>z1s (fun s out h=>zb6 hc _ _ _ _ _ hK h) h) hK)
   | exact ih _ _ _ (zcz (fun s out h=>by rw [zcy h];exact Low.refl _ _) hK)
theorem ze6 {R:Type}{t:TypeId}{x:Option EV}{K:EV→St→Option R}{r:R}(h:z1o C t x s K=some r):∃ v,K (.v v) s=some r:=by
 unfold z1o at h
 repeat' split at h
 all_goals first
  | (cases h;done)
  | (rcases z5p h with ⟨_,⟨_,vs,_,_,_,h⟩ | ⟨_,v,_,_,h⟩⟩ <;> exact ⟨_,h⟩)
theorem zb7 {s:St} : ∀ {rs:List ResultVar} {K:List Value→Option Out} {out:Out},(∀ l out,K l=some out→out.mem=s.mem)→z4w C s rs K=some out→out.mem=s.mem
 | [],K,out,hK,h=>hK _ _ h
 | .tmp t :: rs,K,out,hK,h=>by
  simp only [z4w] at h
  split at h
  ·exact zb7 (fun l out h=>hK _ _ h) h
  ·cases h
 | .cell t ty :: rs,K,out,hK',h=>by
  simp only [z4w] at h
  obtain ⟨v,h⟩:=ze6 h
  exact zb7 (fun l out h=>hK' _ _ h) h
theorem zj6 {lo:Nat}{fn:Func} : z99 lo (zke C fn):=by
 have key:∀ s out,(z4w C s fn.results.toList fun l=>match l with | [v]=>some (.ret v s.mem) | l=>some (.ret (.tuple ⟨l⟩) s.mem))=some out→Low lo s.mem out.mem:=fun s out h=>by
  have:=zb7 (fun l out h=>by split at h <;> (injection h with h;subst h;rfl)) h
  rw [this];exact Low.refl _ _
 intro e s out h
 cases e with
 | nrm=>exact key s out h
 | ext id=>cases h
 | ret=>exact key s out h
theorem zlz (hc:uo C.call){fn:Func}{c:Code}{p:Nat}{vs:List EV}{ls:List (List Value)}{M:Mem}{out:Out}(h:z1j C fn c p vs ls M=some out):Low C.lo M out.mem:=by
 unfold z1j at h
 repeat' split at h
 all_goals first
  | (cases h;done)
  | exact zb6 hc _ _ _ _ _ (zfu hc _ _ _ _ zj6) h
theorem zr4 {lo:Nat}{pc:Nat→List EV→List (List Value)→Mem→Option Out}(hp:∀ p vs ls M out,pc p vs ls M=some out→Low lo M out.mem):∀ {n:Nat} {out:Out} {r:Value} {M:Mem},go pc n out=some (r,M)→Low lo out.mem M:=by
 intro n
 induction n with
 | zero=>
  intro out r M h
  cases out with
  | ret v M'=>injection h with h;injection h with _ h;subst h;exact Low.refl _ _
  | cut=>cases h
 | succ n ih=>
  intro out r M h
  cases out with
  | ret v M'=>injection h with h;injection h with _ h;subst h;exact Low.refl _ _
  | cut p vs ls M'=>
   obtain ⟨out',h1,h2⟩:=Option.bind_eq_some_iff.1 (show (pc p vs ls M').bind (go pc n)=some (r,M) from h)
   exact (hp _ _ _ _ _ h1).trans (ih h2)
theorem zm0 (P:Program)(T:Tab):∀ k,uo (z5 P T k):=by
 intro k
 induction k with
 | zero=>intro lo f args M r M' h;cases h
 | succ k ih=>
  intro lo f args M r M' h
  unfold z5 at h
  split at h
  ·rename_i fn ann hfn hann
   split at h
   ·rename_i c hc
    obtain ⟨out,h1,h2⟩:=Option.bind_eq_some_iff.1 h
    have h3:Low lo M out.mem:=by
     unfold z7b at h1
     split at h1
     ·exact zb6 (C:=mkC P (z5 P T k) ann lo fn.ntmps) ih _ _ _ _ _ zj6 h1
     ·cases h1
    exact h3.trans (zr4 (fun p vs ls M out h=>zlz (C:=mkC P (z5 P T k) ann lo fn.ntmps) ih h) h2)
   ·cases h
  ·cases h
end
end Go.Zt

