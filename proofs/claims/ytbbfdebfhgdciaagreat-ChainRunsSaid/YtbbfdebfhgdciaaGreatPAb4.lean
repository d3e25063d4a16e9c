/- What the law ChainRuns needs of the text Ab4. -/
import Derived.Test.YtbbfdebfhgdciaaGreatPAb3
set_option linter.unusedVariables false
set_option linter.unusedSimpArgs false
namespace Go.Zt
section
variable {R S:Type}
theorem z0q {α:Type}(o:Option α)(f:α→Option R)(L:R→Option S):(ob o f).bind L=ob o fun x=>(f x).bind L:=by cases o <;> rfl
theorem zra (b:Bool)(A B:Option R)(L:R→Option S):(bb b A B).bind L=bb b (A.bind L) (B.bind L):=by cases b <;> rfl
theorem z0r (c:Prop)[d:Decidable c](A B:Option R)(L:R→Option S):(pb c A B).bind L=pb c (A.bind L) (B.bind L):=by cases d <;> rfl
theorem zg7 (c:CK)(o:Option Value)(K:Value→Option R)(L:R→Option S):(ck c o K).bind L=ck c o fun v=>(K v).bind L:=by
 cases c <;> simp only [ck,z0q]
theorem zg8 (g:Nat→Option Value)(l:List CK):∀ (i:Nat) (K:List Value→Option R) (L:R→Option S),(z9i g l i K).bind L=z9i g l i fun v=>(K v).bind L:=by
 induction l with
 | nil=>intro i K L;rfl
 | cons c l ih=>intro i K L;simp only [z9i,zg7,ih]
theorem zg9 (P:Program)(t:TypeId)(g:Nat→Option Value)(K:Value→Option R)(L:R→Option S):(z3w P t g K).bind L=z3w P t g fun v=>(K v).bind L:=by
 unfold z3w
 repeat' split
 all_goals first | rfl | simp only [zg8,zg7]
theorem zga (P:Program)(t:TypeId)(o:Option Value)(K:Value→Option R)(L:R→Option S):(zb9 P t o K).bind L=zb9 P t o fun v=>(K v).bind L:=by
 unfold zb9
 repeat' split
 all_goals first | rfl | simp only [zg8,zg7,z0q]
theorem zma (P:Program)(vs:List Value)(ts:List TypeId):∀ (i:Nat) (K:List Value→Option R) (L:R→Option S),(z83 P vs ts i K).bind L=z83 P vs ts i fun v=>(K v).bind L:=by
 induction ts with
 | nil=>intro i K L;rfl
 | cons c l ih=>intro i K L;simp only [z83,zga,ih]
theorem zk9 (P:Program)(ts:List TypeId)(v:Value)(K:Value→Option R)(L:R→Option S):(z77 P ts v K).bind L=z77 P ts v fun v=>(K v).bind L:=by
 unfold z77
 split
 ·simp only [zga]
 ·simp only [z0q,zma]
theorem zoa (op:BinOp)(k:FloatKind)(x y:Nat)(K:Value→Option R)(L:R→Option S):(zba op k x y K).bind L=zba op k x y fun v=>(K v).bind L:=by cases op <;> rfl
theorem zob (op:BinOp)(k:IntKind)(x y:Int)(K:Value→Option R)(L:R→Option S):(z9j op k x y K).bind L=z9j op k x y fun v=>(K v).bind L:=by
 cases op <;> simp only [z9j,z0r,Option.bind_none]
theorem zc7 (P:Program)(op:BinOp)(t:TypeId)(a b:Value)(K:Value→Option R)(L:R→Option S):(z4l P op t a b K).bind L=z4l P op t a b fun v=>(K v).bind L:=by
 unfold z4l
 repeat' split
 all_goals first | rfl | simp only [zob,zoa,z0q,z0r,Option.bind_none]
theorem zef (op:UnOp)(a:Value)(K:Value→Option R)(L:R→Option S):(z6b op a K).bind L=z6b op a fun v=>(K v).bind L:=by
 unfold z6b
 repeat' split
 all_goals rfl
theorem zeg (P:Program)(t u:TypeId)(a:Value)(K:Value→Option R)(L:R→Option S):(z6c P t u a K).bind L=z6c P t u a fun v=>(K v).bind L:=by
 unfold z6c
 repeat' split
 all_goals rfl
theorem zmb (b:Bool)(x y:Option EV)(K:EV→Option R)(L:R→Option S):(z53 b x y K).bind L=z53 b x y fun v=>(K v).bind L:=by
 unfold z53
 split
 ·simp only [z0r,Option.bind_none]
 ·rfl
 ·rw [zra]
  congr 1 <;> (split <;> rfl)
theorem zka (C:Ctx)(dst:Option Tmp)(cs:List Value)(s:St)(K:EV→St→Option R)(L:R→Option S):(qy C dst cs s K).bind L=qy C dst cs s fun e s=>(K e s).bind L:=by
 unfold qy
 repeat' split
 all_goals first | rfl | simp only [z0q]
theorem zmc (C:Ctx)(t:TypeId)(e:Option EV)(s:St)(K:EV→St→Option R)(L:R→Option S):(z1o C t e s K).bind L=z1o C t e s fun e s=>(K e s).bind L:=by
 unfold z1o
 repeat' split
 all_goals first | rfl | simp only [zg9]
theorem zkb (C:Ctx)(t:TypeId)(e:Option EV)(x:Value)(s:St)(K:EV→St→Option R)(L:R→Option S):(z1d C t e x s K).bind L=z1d C t e x s fun e s=>(K e s).bind L:=by
 unfold z1d
 repeat' split
 all_goals first | rfl | simp only [z0r,z0q,Option.bind_none]
theorem zd7 (C:Ctx)(t:TypeId)(x:Option EV)(i:Int)(K:EV→Option R)(L:R→Option S):(vr C t x i K).bind L=vr C t x i fun e=>(K e).bind L:=by
 unfold vr
 repeat' split
 all_goals first | rfl | simp only [z0r,z0q,Option.bind_none]
theorem z81 (z:Nat)(A:Option Addr)(n c:Nat)(l h m:Option Int)(K:Value→Option R)(L:R→Option S):(z1t z A n c l h m K).bind L=z1t z A n c l h m fun e=>(K e).bind L:=by
 unfold z1t
 repeat' split
 all_goals first | rfl | simp only [z0r,Option.bind_none]
theorem zkc (C:Ctx)(t:TypeId)(x:Option EV)(l h m:Option (Option Int))(K:EV→Option R)(L:R→Option S):(z3d C t x l h m K).bind L=z3d C t x l h m fun e=>(K e).bind L:=by
 unfold z3d
 repeat' split
 all_goals first | rfl | simp only [z81,z0r,Option.bind_none]
theorem zi0 (C:Ctx)(ts:List TypeId)(s:St)(x y:Option EV)(K:EV→St→Option R)(L:R→Option S):(z22 C ts s x y K).bind L=z22 C ts s x y fun e s=>(K e s).bind L:=by
 unfold z22
 repeat' split
 all_goals first | rfl | simp only [z0q]
theorem zmd (C:Ctx)(ts:List TypeId)(s:St)(x y:Option EV)(K:EV→St→Option R)(L:R→Option S):(z4c C ts s x y K).bind L=z4c C ts s x y fun e s=>(K e s).bind L:=by
 unfold z4c
 repeat' split
 all_goals first | rfl | simp only [z0q,z0r]
theorem zkd (C:Ctx)(ts:List TypeId)(s:St)(x:Option EV)(K:EV→St→Option R)(L:R→Option S):(z29 C ts s x K).bind L=z29 C ts s x fun e s=>(K e s).bind L:=by
 unfold z29
 repeat' split
 all_goals first | rfl | simp only [z0q,z0r]
theorem zgb (C:Ctx)(ts:List TypeId)(x:Option EV)(K:Value→Option R)(L:R→Option S):(z9k C ts x K).bind L=z9k C ts x fun e=>(K e).bind L:=by
 unfold z9k
 repeat' split
 all_goals rfl
theorem zgc (k:IntKind)(l:List Value):∀ (x:Int) (K:Value→Option R) (L:R→Option S),(z85 k x l K).bind L=z85 k x l fun e=>(K e).bind L:=by
 induction l with
 | nil=>intro x K L;rfl
 | cons v l ih=>intro x K L;cases v <;> simp only [z85,z0r,ih,Option.bind_none]
theorem zgd (k:IntKind)(l:List Value):∀ (x:Int) (K:Value→Option R) (L:R→Option S),(z86 k x l K).bind L=z86 k x l fun e=>(K e).bind L:=by
 induction l with
 | nil=>intro x K L;rfl
 | cons v l ih=>intro x K L;cases v <;> simp only [z86,z0r,ih,Option.bind_none]
theorem zge (C:Ctx)(b:Builtin)(ts:List TypeId)(args:List Operand)(s:St)(K:EV→St→Option R)(L:R→Option S):(qd C b ts args s K).bind L=qd C b ts args s fun e s=>(K e s).bind L:=by
 unfold qd
 repeat' split
 all_goals first | rfl | simp only [zgb,zgc,zgd,zi0,zmd,zkd]
theorem zme (C:Ctx)(t:TypeId)(f:FuncId)(args:List Value)(s:St)(K:EV→St→Option R)(L:R→Option S):(z54 C t f args s K).bind L=z54 C t f args s fun e s=>(K e s).bind L:=by
 simp only [z54,z0q,zk9]
theorem zmf (C:Ctx)(t:TypeId)(l c:Operand)(s:St)(K:EV→St→Option R)(L:R→Option S):(z3e C t l c s K).bind L=z3e C t l c s fun e s=>(K e s).bind L:=by
 unfold z3e
 repeat' split
 all_goals first | rfl | (rw [z0r];congr 1;repeat' split) <;> first | rfl | simp only [z0q]
theorem zj9 (C:Ctx)(o:Oper)(s:St)(K:EV→St→Option R)(L:R→Option S):(aop C o s K).bind L=aop C o s fun e s=>(K e s).bind L:=by
 obtain ⟨dst,op,type,pos,after,guard⟩:=o
 cases op <;> simp only [aop] <;> (repeat' split) <;>
  first
   | rfl
   | simp only [zmb,zka,zmc,zkb,zc7,zef,zeg,zmf,zkc,zg9,zd7,zge,zme,z0q,z0r,Option.bind_none]
noncomputable def z38 (C:Ctx)(o:Oper)(s:St):Option (EV × St):=aop C o s fun e s=>some (e,s)
theorem zrb (C:Ctx)(o:Oper)(s:St)(K:EV→St→Option R):aop C o s K=(z38 C o s).bind fun p=>K p.1 p.2:=by
 unfold z38
 rw [zj9]
 rfl
end
end Go.Zt

