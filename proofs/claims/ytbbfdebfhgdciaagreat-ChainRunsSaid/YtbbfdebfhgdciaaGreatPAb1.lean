/- What the law ChainRuns needs of the text Ab1. -/
import Derived.Orders
import GoSem.ClaimKeys
import Derived.Laws.Sem
set_option linter.unusedVariables false
set_option linter.unusedSimpArgs false
namespace Go.Zt
inductive EV where
 | u
 | v (x:Value)
 | l (t off:Nat)
 | s (t n:Nat)
inductive BK where
 | ro
 | fx
 | op (esz:Nat)
structure Blk where
 kind:BK
 cells:List Value
abbrev Mem:=List Blk
structure St where
 env:List (Nat × EV)
 loc:List (Nat × List Value)
 mem:Mem
inductive Ex where
 | nrm
 | ext (id:Nat)
 | ret
structure Ann where
 priv:List Nat
 cut:List (Nat × (List Nat × List Nat))
noncomputable abbrev ob {α R:Type}(o:Option α)(f:α→Option R):Option R:=@Option.rec α (fun _=>Option R) none f o
noncomputable abbrev bb {R:Type}(b:Bool)(A B:Option R):Option R:=@Bool.rec (fun _=>Option R) B A b
noncomputable abbrev pb {R:Type}(c:Prop)[d:Decidable c](A B:Option R):Option R:=@Decidable.rec c (fun _=>Option R) (fun _=>B) (fun _=>A) d
theorem yn {α R:Type}(o:Option α)(f:α→Option R):ob o f=o.bind f:=by cases o <;> rfl
theorem za8 {R:Type}(b:Bool)(A B:Option R):bb b A B=if b=true then A else B:=by cases b <;> rfl
theorem yt {R:Type}(c:Prop)[d:Decidable c](A B:Option R):pb c A B=if c then A else B:=by
 cases d with
 | isTrue h=>exact (if_pos h).symm
 | isFalse h=>exact (if_neg h).symm
def lk {α:Type} : List (Nat × α)→Nat→Option α
 | [],_=>none
 | (t,x) :: r,u=>match Nat.beq t u with | true=>some x | false=>lk r u
def up {α:Type} : List (Nat × α)→Nat→α→List (Nat × α)
 | [],_,_=>[]
 | (t,x) :: r,u,y=>match Nat.beq t u with | true=>(t,y) :: r | false=>(t,x) :: up r u y
def z03:List Nat→Nat→Bool
 | [],_=>false
 | t :: r,u=>match Nat.beq t u with | true=>true | false=>z03 r u
def plus (a:Addr)(n:Nat):Addr:=match n with | 0=>a | n+1=>⟨a.block,a.off+(n+1),a.spot⟩
def z0u (a:Nat):Nat→Nat
 | 1=>a
 | b=>a*b
def Mem.ld (M:Mem)(a:Addr):Option Value:=
 match M[a.block]? with
 | some ⟨.op _,cs⟩=>if a.spot=some cs.length then cs[a.off]? else none
 | some ⟨_,cs⟩=>if a.spot=none then cs[a.off]? else none
 | none=>none
def setL {α:Type}(cs:List α)(off:Nat):List α→List α
 | []=>cs
 | v :: r=>setL (cs.set off v) (off+1) r
def z4k:List Value→Bool
 | []=>true
 | v :: r=>match v.oneCell' with | true=>z4k r | false=>false
def Mem.st (M:Mem)(lo:Nat)(a:Addr)(vs:List Value):Option Mem:=
 match M[a.block]? with
 | some ⟨.fx,cs⟩=>if a.spot=none∧lo≤a.block∧a.off+vs.length≤cs.length then some (M.set a.block ⟨.fx,setL cs a.off vs⟩) else none
 | some ⟨.op e,cs⟩=>if a.spot=some cs.length∧lo≤a.block∧a.off+vs.length≤cs.length then some (M.set a.block ⟨.op e,setL cs a.off vs⟩) else none
 | _=>none
def Mem.lds (M:Mem)(a:Addr)(n:Nat):Option (List Value):=
 match M[a.block]? with
 | some ⟨.op _,cs⟩=>if a.spot=some cs.length∧a.off+n≤cs.length then some ((cs.drop a.off).take n) else none
 | some ⟨_,cs⟩=>if a.spot=none∧a.off+n≤cs.length then some ((cs.drop a.off).take n) else none
 | none=>none
structure Slc where
 a:Option Addr
 n:Nat
 c:Nat
def Slc.val (s:Slc):Value:=.slice s.a s.n s.c
end Go.Zt
namespace Go
open Zt
def Value.int? (k:IntKind):Value→Option Int
 | .int k' x=>if k'=k then some x else none
 | _=>none
def Value.bool? : Value→Option Bool
 | .bool b=>some b
 | _=>none
def Value.flt? (k:FloatKind):Value→Option Nat
 | .float k' x=>if k'=k then some x else none
 | _=>none
def Value.slc? : Value→Option Slc
 | .slice a n c=>some ⟨a,n,c⟩
 | _=>none
def Value.ptr? : Value→Option (Option Addr)
 | .pointer a=>some a
 | _=>none
def Value.str? : Value→Option ByteArray
 | .string s=>some s
 | _=>none
def Value.one? (v:Value):Option Value:=match v.oneCell' with
 | true=>some v
 | false=>none
def Value.fun? : Value→Option (FuncId × List Value × List Value)
 | .func (.func g) first captured=>some (g,first.toList,captured.toList)
 | _=>none
def Value.agg? (n:Nat):Value→Option (List Value)
 | .agg cs=>if cs.toList.length=n then some cs.toList else none
 | _=>none
def Value.tup? (n:Nat):Value→Option (List Value)
 | .tuple cs=>if cs.toList.length=n then some cs.toList else none
 | _=>none
end Go
namespace Go.Zt
inductive CK where
 | int (k:IntKind)
 | bool
 | flt (k:FloatKind)
 | slc
 | ptr
 | str
 | any
def lay (P:Program):Nat→TypeId→Option (List CK)
 | 0,_=>none
 | d+1,t=>
  match P.underlying t with
  | some (.int k)=>some [.int k]
  | some .bool=>some [.bool]
  | some (.float k)=>some [.flt k]
  | some (.slice _)=>some [.slc]
  | some (.pointer _)=>some [.ptr]
  | some .string=>some [.str]
  | some (.func _ _ _)=>some [.any]
  | some (.array n e)=>(lay P d e).map fun l=>(List.replicate n l).flatten
  | some (.struct fs)=>fs.toList.foldr (fun f acc=>(lay P d f.type).bind fun l=>acc.map fun r=>l ++ r) (some [])
  | _=>none
def ki (P:Program)(t:TypeId):Bool:=
 match P.underlying t with
 | some (.struct _)=>true
 | some (.array _ _)=>true
 | _=>false
def ub (P:Program)(t:TypeId):Option Nat:=(P.info? t).map (·.size)
def z5r:Value→Bool
 | .bool _ | .int _ _ | .float _ _ | .complex _ _ _ | .string _ | .pointer none | .slice none 0 0 | .nilFunc | .nilIface | .map none | .chan none=>true
 | _=>false
def uq:List Value→Bool
 | []=>true
 | v :: r=>match z5r v with | true=>uq r | false=>false
def qo:Value→List Value
 | .agg cs=>cs.toList
 | v=>[v]
def z1n (P:Program)(t:TypeId):Option (List Value):=
 match P.info? t with
 | some i=>match i.zero with
  | some z=>match uq (qo z),Nat.beq (qo z).length i.size with
   | true,true=>some (qo z)
   | _,_=>none
  | none=>none
 | none=>none
noncomputable section
variable {R:Type}
def ck (c:CK)(o:Option Value)(K:Value→Option R):Option R:=
 match c with
 | .int k=>ob (o.bind (Value.int? k)) fun x=>K (.int k x)
 | .bool=>ob (o.bind Value.bool?) fun x=>K (.bool x)
 | .flt k=>ob (o.bind (Value.flt? k)) fun x=>K (.float k x)
 | .slc=>ob (o.bind Value.slc?) fun s=>K (.slice s.a s.n s.c)
 | .ptr=>ob (o.bind Value.ptr?) fun a=>K (.pointer a)
 | .str=>ob (o.bind Value.str?) fun s=>K (.string s)
 | .any=>ob (o.bind Value.one?) K
def z9i (g:Nat→Option Value):List CK→Nat→(List Value→Option R)→Option R
 | [],_,K=>K []
 | c :: r,i,K=>ck c (g i) fun v=>z9i g r (i+1) fun vs=>K (v :: vs)
def z3w (P:Program)(t:TypeId)(g:Nat→Option Value)(K:Value→Option R):Option R:=
 match ki P t with
 | true=>match lay P 8 t with
  | some l=>match ub P t with
   | some n=>match Nat.beq l.length n with
    | true=>z9i g l 0 fun vs=>K (.agg ⟨vs⟩)
    | false=>none
   | none=>none
  | none=>none
 | false=>match lay P 8 t with
  | some [c]=>ck c (g 0) K
  | _=>none
def zb9 (P:Program)(t:TypeId)(o:Option Value)(K:Value→Option R):Option R:=
 match ki P t with
 | true=>match lay P 8 t with
  | some l=>ob (o.bind (Value.agg? l.length)) fun vs=>z9i (fun i=>vs[i]?) l 0 fun vs=>K (.agg ⟨vs⟩)
  | none=>none
 | false=>match lay P 8 t with
  | some [c]=>ck c o K
  | _=>none
def z83 (P:Program)(vs:List Value):List TypeId→Nat→(List Value→Option R)→Option R
 | [],_,K=>K []
 | t :: r,i,K=>zb9 P t vs[i]? fun v=>z83 P vs r (i+1) fun l=>K (v :: l)
def z77 (P:Program)(ts:List TypeId)(v:Value)(K:Value→Option R):Option R:=
 match ts with
 | [t]=>zb9 P t (some v) K
 | ts=>ob (v.tup? ts.length) fun vs=>z83 P vs ts 0 fun l=>K (.tuple ⟨l⟩)
def zd9 (k:FloatKind):Nat:=k.format.infRung+2 ^ (k.format.fractionBits - 1)
def zrd (k:FloatKind)(x y:Nat):Nat:=(k.format.add x y).getD (zd9 k)
def zre (k:FloatKind)(x y:Nat):Nat:=(k.format.sub x y).getD (zd9 k)
def zrf (k:FloatKind)(x y:Nat):Nat:=(k.format.mul x y).getD (zd9 k)
def fdiv (k:FloatKind)(x y:Nat):Nat:=(k.format.div x y).getD (zd9 k)
def z0g (k:IntKind)(x y:Int):Int:=k.wrap ((BitVec.ofInt k.bits x &&& BitVec.ofInt k.bits y).toNat:Int)
def orI (k:IntKind)(x y:Int):Int:=k.wrap ((BitVec.ofInt k.bits x ||| BitVec.ofInt k.bits y).toNat:Int)
def zda (k:IntKind)(x y:Int):Int:=k.wrap ((BitVec.ofInt k.bits x ^^^ BitVec.ofInt k.bits y).toNat:Int)
def zsj (k:IntKind)(x y:Int):Int:=k.wrap ((BitVec.ofInt k.bits x &&& ~~~BitVec.ofInt k.bits y).toNat:Int)
def z84 (k:IntKind)(x:Int)(n:Nat):Int:=k.wrap (x*2 ^ (min n k.bits))
def yz (k:IntKind)(x:Int)(n:Nat):Int:=x.fdiv (2 ^ (min n k.bits))
def qp (la lb:List Lit):Bool:=@decide (la=lb) (Classical.propDecidable _)
def zba (op:BinOp)(k:FloatKind)(x y:Nat)(K:Value→Option R):Option R:=
 match op with
 | .add=>K (.float k (zrd k x y))
 | .sub=>K (.float k (zre k x y))
 | .mul=>K (.float k (zrf k x y))
 | .quo=>K (.float k (fdiv k x y))
 | .eql=>K (.bool (k.format.order x y == some .eq))
 | .neq=>K (.bool (k.format.order x y != some .eq))
 | .lss=>K (.bool (k.format.order x y == some .lt))
 | .leq=>K (.bool (k.format.order x y == some .lt || k.format.order x y == some .eq))
 | .gtr=>K (.bool (k.format.order x y == some .gt))
 | .geq=>K (.bool (k.format.order x y == some .gt || k.format.order x y == some .eq))
 | _=>none
def z9j (op:BinOp)(k:IntKind)(x y:Int)(K:Value→Option R):Option R:=
 match op with
 | .add=>K (.int k (k.wrap (x+y)))
 | .sub=>K (.int k (k.wrap (x - y)))
 | .mul=>K (.int k (k.wrap (x*y)))
 | .quo=>pb (y=0) none (K (.int k (k.wrap (x.tdiv y))))
 | .rem=>pb (y=0) none (K (.int k (x.tmod y)))
 | .and=>K (.int k (z0g k x y))
 | .or=>K (.int k (orI k x y))
 | .xor=>K (.int k (zda k x y))
 | .andNot=>K (.int k (zsj k x y))
 | .eql=>K (.bool (x == y))
 | .neq=>K (.bool (x != y))
 | .lss=>K (.bool (decide (x < y)))
 | .leq=>K (.bool (decide (x≤y)))
 | .gtr=>K (.bool (decide (x > y)))
 | .geq=>K (.bool (decide (x ≥ y)))
 | _=>none
def z4l (P:Program)(op:BinOp)(ty:TypeId)(a b:Value)(K:Value→Option R):Option R:=
 match a,b with
 | .int k x,.int k' y=>
  match op with
  | .shl=>pb (y < 0) none (K (.int k (z84 k x y.toNat)))
  | .shr=>pb (y < 0) none (K (.int k (yz k x y.toNat)))
  | op=>pb (k=k') (z9j op k x y K) none
 | .float k x,.float k' y=>pb (k=k') (zba op k x y K) none
 | .bool x,.bool y=>
  match P.underlying ty with
  | some .bool=>match op with
   | .eql=>K (.bool (x == y))
   | .neq=>K (.bool (!(x == y)))
   | _=>none
  | _=>none
 | .string x,.string y=>
  match op with
  | .add=>pb (((x.size+y.size:Nat):Int) > IntKind.i64.max) none (K (.string (x ++ y)))
  | .eql=>K (.bool (x.toList == y.toList))
  | .neq=>K (.bool (!(x.toList == y.toList)))
  | _=>none
 | .agg xs,.agg ys=>
  match P.keyTypeAt 8 ty,ki P ty,P.eqGuardType P.depth ty with
  | true,true,false=>match op with
   | .eql=>ob (P.keyLits 9 ty xs.toList) fun la=>ob (P.keyLits 9 ty ys.toList) fun lb=>K (.bool (qp la lb))
   | .neq=>ob (P.keyLits 9 ty xs.toList) fun la=>ob (P.keyLits 9 ty ys.toList) fun lb=>K (.bool (!qp la lb))
   | _=>none
  | _,_,_=>none
 | .slice x _ _,.slice none _ _=>
  match P.underlying ty with
  | some (.slice _)=>match op with
   | .eql=>K (.bool x.isNone)
   | .neq=>K (.bool (!x.isNone))
   | _=>none
  | _=>none
 | .pointer x,.pointer none=>
  match P.underlying ty with
  | some (.pointer _)=>match op with
   | .eql=>K (.bool x.isNone)
   | .neq=>K (.bool (!x.isNone))
   | _=>none
  | _=>none
 | _,_=>none
def z6b (op:UnOp)(a:Value)(K:Value→Option R):Option R:=
 match op,a with
 | .neg,.int k n=>K (.int k (k.wrap (0 - n)))
 | .xor,.int k n=>K (.int k (zda k (if k.signed then -1 else k.max) n))
 | .not,.bool b=>K (.bool (!b))
 | _,_=>none
def z6c (P:Program)(src dst:TypeId)(x:Value)(K:Value→Option R):Option R:=
 match P.underlying src,P.underlying dst,x with
 | some (.int _),some (.int k),.int _ n=>K (.int k (k.wrap n))
 | some (.int _),some (.float k),.int _ n=>K (.float k (k.nearest n))
 | _,_,_=>none
noncomputable abbrev zpn {α:Type}(b:Bool)(x y:α):α:=@Bool.rec (fun _=>α) y x b
def z53 (b:Bool)(x y:Option EV)(K:EV→Option R):Option R:=
 match x,y with
 | some (.v (.int k x)),some (.v (.int k' y))=>pb (k=k') (K (.v (.int k (zpn b x y)))) none
 | some (.v (.bool x)),some (.v (.bool y))=>K (.v (.bool (zpn b x y)))
 | x,y=>bb b (match x with | some e=>K e | none=>none) (match y with | some e=>K e | none=>none)
structure Ctx where
 P:Program
 call:Nat→FuncId→List Value→Mem→Option (Value × Mem)
 ann:Ann
 lo:Nat
 nt:Nat
 /-- In a statement that draws its order: loads are from below here. -/
 top:Option Nat
 /-- The place that is kept free for this operation's new block. -/
 slot:Option Nat
def ye (s:St):Operand→Option EV
 | .tmp t=>lk s.env t
 | .const v=>match uq (qo v) with | true=>some (.v v) | false=>none
 | .func f=>some (.v (.func (.func f) #[] #[]))
 | .global _=>none
def val (s:St)(x:Operand):Option Value:=
 match ye s x with
 | some (.v v)=>some v
 | _=>none
def vals (s:St):List Operand→Option (List Value)
 | []=>some []
 | x :: r=>match val s x,vals s r with
  | some v,some vs=>some (v :: vs)
  | _,_=>none
def noRef (t:Nat):List (Nat × EV)→Bool
 | []=>true
 | (_,.l u _) :: r=>match Nat.beq t u with | true=>false | false=>noRef t r
 | (_,.s u _) :: r=>match Nat.beq t u with | true=>false | false=>noRef t r
 | _ :: r=>noRef t r
def Mem.fill (M:Mem)(lo i z:Nat)(cs:List Value):Option (Addr × Mem):=
 match M[i]? with
 | some ⟨.op 0,_⟩=>if lo≤i∧z≠0 then (match cs with | []=>some (⟨i,0,none⟩,M) | _ :: _=>some (⟨i,0,some cs.length⟩,M.set i ⟨.op z,cs⟩)) else none
 | _=>none
def qy (C:Ctx)(dst:Option Tmp)(cs:List Value)(s:St)(K:EV→St→Option R):Option R:=
 match dst with
 | none=>none
 | some t=>match z03 C.ann.priv t with
  | true=>match lk s.loc t,noRef t s.env with
   | none,true=>K (.l t 0) { s with loc:=(t,cs) :: s.loc }
   | _,_=>none
  | false=>match C.slot with
   | none=>K (.v (.pointer (some ⟨s.mem.length,0,none⟩))) { s with mem:=s.mem ++ [⟨.fx,cs⟩] }
   | some i=>match cs with
    | []=>none
    | c :: r=>ob (s.mem.fill C.lo i 1 (c :: r)) fun q=>K (.v (.pointer (some q.1))) { s with mem:=q.2 }
def z3c (place:Nat→Option (Nat × Nat))(cells:List Value):List (Nat × Value)→Option (List Value)
 | []=>some cells
 | (i,v) :: rest=>
  match place i with
  | none=>none
  | some (off,size)=>
   match Nat.beq (qo v).length size,Nat.ble (off+(qo v).length) cells.length with
   | true,true=>z3c place (setL cells off (qo v)) rest
   | _,_=>none
def kw (s:St):List (Nat × Operand)→Option (List (Nat × Value))
 | []=>some []
 | (i,x) :: r=>match val s x,kw s r with
  | some v,some l=>some ((i,v) :: l)
  | _,_=>none
def z1h (P:Program):List Field→Option (List (Nat × Nat))
 | []=>some []
 | f :: r=>match ub P f.type,z1h P r with
  | some n,some l=>some ((f.offset,n) :: l)
  | _,_=>none
def ldM (C:Ctx)(s:St)(a:Addr)(i:Nat):Option Value:=
 match C.top with
 | none=>s.mem.ld (plus a i)
 | some n=>if a.block < n then s.mem.ld (plus a i) else none
def z1o (C:Ctx)(t:TypeId)(e:Option EV)(s:St)(K:EV→St→Option R):Option R:=
 match e with
 | some (.l b off)=>match lk s.loc b with
  | some cs=>z3w C.P t (fun i=>cs[off+i]?) fun v=>K (.v v) s
  | none=>none
 | some (.v (.pointer (some a)))=>z3w C.P t (ldM C s a) fun v=>K (.v v) s
 | _=>none
def z1d (C:Ctx)(t:TypeId)(e:Option EV)(x:Value)(s:St)(K:EV→St→Option R):Option R:=
 match ub C.P t with
 | none | some 0=>none
 | some (n+1)=>match Nat.beq (qo x).length (n+1),z4k (qo x) with
  | true,true=>match e with
   | some (.l b off)=>match lk s.loc b with
    | some cs=>pb (off+(n+1)≤cs.length) (K .u { s with loc:=up s.loc b (setL cs off (qo x)) }) none
    | none=>none
   | some (.v (.pointer (some a)))=>ob (s.mem.st C.lo a (qo x)) fun M=>K .u { s with mem:=M }
   | _=>none
  | _,_=>none
def vr (C:Ctx)(t:TypeId)(x:Option EV)(i:Int)(K:EV→Option R):Option R:=
 match C.P.underlying t,x with
 | some (.array n e),some (.l b off)=>match ub C.P e with
  | some z=>pb (0≤i∧i < (n:Int)) (K (.l b (off+z0u i.toNat z))) none
  | none=>none
 | some (.array n e),some (.v (.pointer (some a)))=>match ub C.P e with
  | some z=>pb (0≤i∧i < (n:Int)) (K (.v (.pointer (some (plus a (z0u i.toNat z)))))) none
  | none=>none
 | some (.slice e),some (.v (.slice A n _))=>match ub C.P e with
  | some z=>pb (0≤i∧i < (n:Int)) (ob A fun a=>K (.v (.pointer (some (plus a (z0u i.toNat z)))))) none
  | none=>none
 | _,_=>none
def slAddr (z:Nat)(A:Option Addr)(l m:Nat):Option Addr:=if m=l then A else A.map fun a=>plus a (z0u l z)
def z3x (z:Nat)(A:Option Addr)(l m:Nat):Option Addr:=if m=l then A.map fun a=>⟨a.block,a.off,none⟩ else A.map fun a=>plus a (z0u l z)
def z1e (s:St):Option Operand→Option (Option Int)
 | none=>some none
 | some x=>match val s x with
  | some (.int _ i)=>some (some i)
  | _=>none
def z1t (z:Nat)(A:Option Addr)(n c:Nat)(l h m:Option Int)(K:Value→Option R):Option R:=
 match m with
 | some m=>
  match h with
  | some h=>pb (0≤l.getD 0∧l.getD 0≤h∧h≤m∧m≤(c:Int))
    (K (.slice (z3x z A (l.getD 0).toNat m.toNat) (h.toNat - (l.getD 0).toNat) (m.toNat - (l.getD 0).toNat))) none
  | none=>none
 | none=>
  match h with
  | some h=>pb (0≤l.getD 0∧l.getD 0≤h∧h≤(c:Int))
    (K (.slice (slAddr z A (l.getD 0).toNat c) (h.toNat - (l.getD 0).toNat) (c - (l.getD 0).toNat))) none
  | none=>pb (0≤l.getD 0∧l.getD 0≤(n:Int))
    (K (.slice (slAddr z A (l.getD 0).toNat c) (n - (l.getD 0).toNat) (c - (l.getD 0).toNat))) none
def z3d (C:Ctx)(t:TypeId)(x:Option EV)(l h m:Option (Option Int))(K:EV→Option R):Option R:=
 match l,h,m with
 | some l,some h,some m=>
  match C.P.underlying t,x with
  | some (.slice e),some (.v (.slice A n c))=>match ub C.P e with
   | some z=>z1t z A n c l h m fun v=>K (.v v)
   | none=>none
  | some (.array n e),some (.v (.pointer (some a)))=>match ub C.P e with
   | some z=>pb (a.spot=none) (z1t z (some a) n n l h m fun v=>K (.v v)) none
   | none=>none
  | _,_=>none
 | _,_,_=>none
def room (n bytes:Nat):Prop:=n*bytes≤140737488355328
instance (n bytes:Nat):Decidable (room n bytes):=inferInstanceAs (Decidable (_≤_))
def Mem.app (M:Mem)(lo z bytes:Nat)(s:Slc)(vs:List Value)(m:Nat):Option (Slc × Mem):=
 if m=0 then some (s,M) else
 if room (s.n+m) bytes then
  match s.a with
  | none=>if s.n=0 then some (⟨some ⟨M.length,0,some vs.length⟩,m,m⟩,M ++ [⟨.op z,vs⟩]) else none
  | some a=>
   match a.spot with
   | none=>if s.n=s.c then
     (if s.n=0 then some [] else M.lds a (z0u s.n z)).bind fun old=>some (⟨some ⟨M.length,0,some (old ++ vs).length⟩,s.n+m,s.n+m⟩,M ++ [⟨.op z,old ++ vs⟩])
    else none
   | some ver=>
    match M[a.block]? with
    | some ⟨.op z',cs⟩=>if z'=z∧a.off=0∧ver=cs.length∧z0u s.n z=cs.length∧lo≤a.block then
      some (⟨some ⟨a.block,0,some (cs ++ vs).length⟩,s.n+m,s.n+m⟩,M.set a.block ⟨.op z,cs ++ vs⟩) else none
    | _=>none
 else none
def zc8 (P:Program)(t:TypeId):Option Nat:=(P.info? t).map (·.bytes)
def Mem.src (M:Mem)(A:Option Addr)(n nz:Nat):Option (List Value):=
 match A with
 | some a=>if n=0 then some [] else M.lds a nz
 | none=>if n=0 then some [] else none
def z6p (C:Ctx)(s:St)(z n:Nat)(x:Option EV):Option (List Value):=
 match x with
 | some (.s t k)=>match lk s.loc t with
  | some cs=>match Nat.beq cs.length (z0u k z) with
   | true=>some (cs.take (z0u n z))
   | false=>none
  | none=>none
 | some (.v (.slice A _ _))=>s.mem.src A n (z0u n z)
 | _=>none
def zgf:Option EV→Option Nat
 | some (.s _ n)=>some n
 | some (.v (.slice _ n _))=>some n
 | _=>none
def z22 (C:Ctx)(tys:List TypeId)(s:St)(x y:Option EV)(K:EV→St→Option R):Option R:=
 match tys with
 | [t,u]=>match C.P.underlying t,C.P.underlying u,x,zgf y with
  | some (.slice e),some (.slice _),some (.v (.slice A n c)),some m=>match ub C.P e,zc8 C.P e,z1n C.P e with
   | some (z+1),some (b+1),some _=>ob (z6p C s (z+1) m y) fun vs=>
     ob (s.mem.app C.lo (z+1) (b+1) ⟨A,n,c⟩ vs m) fun r=>K (.v (.slice r.1.a r.1.n r.1.c)) { s with mem:=r.2 }
   | _,_,_=>none
  | _,_,_,_=>none
 | _=>none
def z4c (C:Ctx)(tys:List TypeId)(s:St)(x y:Option EV)(K:EV→St→Option R):Option R:=
 match tys with
 | [t,u]=>match C.P.underlying t,C.P.underlying u,x,zgf y with
  | some (.slice e),some (.slice _),some (.v (.slice A n _)),some m=>match ub C.P e with
   | some (z+1)=>ob (z6p C s (z+1) (Nat.min m n) y) fun vs=>
     pb (Nat.min m n=0) (K (.v (.int .i64 0)) s) <|
     ob A fun a=>ob (s.mem.st C.lo a vs) fun M=>K (.v (.int .i64 (Nat.min m n:Nat))) { s with mem:=M }
   | _=>none
  | _,_,_,_=>none
 | _=>none
def y4 (zs:List Value)(n:Nat):List Value:=(List.replicate n zs).flatten
def z29 (C:Ctx)(tys:List TypeId)(s:St)(x:Option EV)(K:EV→St→Option R):Option R:=
 match tys with
 | [t]=>match C.P.underlying t,x with
  | some (.slice e),some (.v (.slice A n _))=>match z1n C.P e with
   | some []=>none
   | some (z0 :: zs)=>pb (n=0) (K (.v (.tuple #[])) s) <|
     ob A fun a=>ob (s.mem.st C.lo a (y4 (z0 :: zs) n)) fun M=>K (.v (.tuple #[])) { s with mem:=M }
   | none=>none
  | _,_=>none
 | _=>none
def z9k (C:Ctx)(tys:List TypeId)(x:Option EV)(K:Value→Option R):Option R:=
 match tys with
 | [t]=>match C.P.underlying t,x with
  | some (.slice _),some (.v (.slice _ n _))=>K (.int .i64 n)
  | some (.array n _),some _=>K (.int .i64 n)
  | some .string,some (.v (.string b))=>K (.int .i64 b.size)
  | _,_=>none
 | _=>none
def yv (x y:Int):Int:=if y > x then y else x
def zq (x y:Int):Int:=if y < x then y else x
def z85 (k:IntKind):Int→List Value→(Value→Option R)→Option R
 | x,[],K=>K (.int k x)
 | x,.int k' y :: r,K=>pb (k'=k) (z85 k (yv x y) r K) none
 | _,_,_=>none
def z86 (k:IntKind):Int→List Value→(Value→Option R)→Option R
 | x,[],K=>K (.int k x)
 | x,.int k' y :: r,K=>pb (k'=k) (z86 k (zq x y) r K) none
 | _,_,_=>none
def qd (C:Ctx)(b:Builtin)(tys:List TypeId)(args:List Operand)(s:St)(K:EV→St→Option R):Option R:=
 match b with
 | .len=>match args with
  | [x]=>z9k C tys (ye s x) fun v=>K (.v v) s
  | _=>none
 | .max=>match vals s args with
  | some (.int k x :: r)=>z85 k x r fun v=>K (.v v) s
  | _=>none
 | .min=>match vals s args with
  | some (.int k x :: r)=>z86 k x r fun v=>K (.v v) s
  | _=>none
 | .append=>match args with
  | [x,y]=>z22 C tys s (ye s x) (ye s y) K
  | _=>none
 | .copy=>match args with
  | [x,y]=>z4c C tys s (ye s x) (ye s y) K
  | _=>none
 | .clear=>match args with
  | [x]=>z29 C tys s (ye s x) K
  | _=>none
 | _=>none
def zrg (P:Program)(t:TypeId):List TypeId:=
 match P.underlying t with
 | some (.tuple ts)=>ts.toList
 | _=>[t]
def z54 (C:Ctx)(t:TypeId)(f:FuncId)(args:List Value)(s:St)(K:EV→St→Option R):Option R:=
 ob (C.call C.lo f args s.mem) fun r=>z77 C.P (zrg C.P t) r.1 fun v=>K (.v v) { s with mem:=r.2 }
def zgg:Operand→Operand→Bool
 | .tmp t,.tmp u=>Nat.beq t u
 | .const (.int k a),.const (.int k' b)=>decide (k=k') && a == b
 | _,_=>false
def zmg:Operand→Bool
 | .const (.int .i64 n)=>n == 0
 | _=>false
def z3e (C:Ctx)(t:TypeId)(l c:Operand)(s:St)(K:EV→St→Option R):Option R:=
 match C.P.underlying t,val s c with
 | some (.slice e),some (.int .i64 n)=>match z1n C.P e,zc8 C.P e,ub C.P e with
  | some zs,some (b+1),some (z+1)=>
   pb (0≤n∧room n.toNat (b+1))
    (match zgg l c,zmg l with
    | true,_=>match C.slot with
     | none=>K (.v (.slice (some ⟨s.mem.length,0,none⟩) n.toNat n.toNat)) { s with mem:=s.mem ++ [⟨.fx,y4 zs n.toNat⟩] }
     | some i=>ob (s.mem.fill C.lo i (z+1) (y4 zs n.toNat)) fun q=>K (.v (.slice (some q.1) n.toNat n.toNat)) { s with mem:=q.2 }
    | _,true=>match C.slot with
     | none=>K (.v (.slice (some ⟨s.mem.length,0,some 0⟩) 0 0)) { s with mem:=s.mem ++ [⟨.op (z+1),[]⟩] }
     | some _=>none
    | _,_=>none)
    none
  | _,_,_=>none
 | _,_=>none
def zc9 (b:ByteArray)(i:Nat):Int:=((b.data.toList.getD i 0).toNat:Int)
def aop (C:Ctx)(o:Oper)(s:St)(K:EV→St→Option R):Option R:=
 match o.op with
 | .move x | .assign x=>match ye s x with
  | some e=>K e s
  | none=>none
 | .pick c x y=>match val s c with
  | some (.bool b)=>z53 b (ye s x) (ye s y) fun e=>K e s
  | _=>none
 | .alloc t=>match z1n C.P t with
  | some cs=>qy C o.dst cs s K
  | none=>none
 | .box _ x=>match val s x with
  | some v=>match z4k (qo v) with
   | true=>qy C o.dst (qo v) s K
   | false=>none
  | none=>none
 | .build t ps=>match C.P.underlying t,z1n C.P t,kw s ps.toList with
  | some (.struct fs),some z,some l=>match z1h C.P fs.toList with
   | some pl=>match z3c (fun i=>pl[i]?) z l with
    | some cs=>K (.v (.agg ⟨cs⟩)) s
    | none=>none
   | none=>none
  | some (.array _ e),some z,some l=>match ub C.P e with
   | some n=>match z3c (fun i=>some (i*n,n)) z l with
    | some cs=>K (.v (.agg ⟨cs⟩)) s
    | none=>none
   | none=>none
  | _,_,_=>none
 | .buildSlice t len ps=>match C.P.underlying t,kw s ps.toList with
  | some (.slice e),some l=>match z1n C.P e,ub C.P e with
   | some z,some (n+1)=>match Nat.ble (len*(n+1)) 16777216,z3c (fun i=>some (i*(n+1),n+1)) (y4 z len) l with
    | true,some cs=>match z4k cs,o.dst with
     | true,some t=>match z03 C.ann.priv t with
      | true=>match lk s.loc t,noRef t s.env with
       | none,true=>K (.s t len) { s with loc:=(t,cs) :: s.loc }
       | _,_=>none
      | false=>match C.slot with
       | none=>K (.v (.slice (some ⟨s.mem.length,0,none⟩) len len)) { s with mem:=s.mem ++ [⟨.fx,cs⟩] }
       | some i=>match Nat.beq cs.length (len*(n+1)) with
        | true=>ob (s.mem.fill C.lo i (n+1) cs) fun q=>K (.v (.slice (some q.1) len len)) { s with mem:=q.2 }
        | false=>none
     | _,_=>none
    | _,_=>none
   | _,_=>none
  | _,_=>none
 | .load t x=>z1o C t (ye s x) s K
 | .store t x y=>match val s y with
  | some v=>z1d C t (ye s x) v s K
  | none=>none
 | .nilCheck x=>match val s x with
  | some (.pointer (some a))=>K (.v (.pointer (some a))) s
  | _=>none
 | .binOp op t x y _=>match val s x,val s y with
  | some a,some b=>z4l C.P op t a b fun v=>K (.v v) s
  | _,_=>none
 | .unOp op _ x=>match val s x with
  | some a=>z6b op a fun v=>K (.v v) s
  | none=>none
 | .convert t u x=>match val s x with
  | some a=>z6c C.P t u a fun v=>K (.v v) s
  | none=>none
 | .makeFunc fn first captured=>match vals s first.toList,vals s captured.toList with
  | some l,some r=>K (.v (.func fn ⟨l⟩ ⟨r⟩)) s
  | _,_=>none
 | .makeSlice t l c=>z3e C t l c s K
 | .slice t x l h m=>z3d C t (ye s x) (z1e s l) (z1e s h) (z1e s m) fun e=>K e s
 | .fieldAddr t x i=>match C.P.underlying t with
  | some (.struct fs)=>match fs.toList[i]? with
   | some f=>match ub C.P f.type with
    | some (_+1)=>match ye s x with
     | some (.l b off)=>K (.l b (off+f.offset)) s
     | some (.v (.pointer (some a)))=>K (.v (.pointer (some (plus a f.offset)))) s
     | _=>none
    | _=>none
   | none=>none
  | _=>none
 | .field t x i=>match C.P.underlying t,val s x with
  | some (.struct fs),some (.agg cs)=>match fs.toList[i]? with
   | some f=>z3w C.P f.type (fun j=>cs.toList[f.offset+j]?) fun v=>K (.v v) s
   | none=>none
  | _,_=>none
 | .indexAddr t x i=>match val s i with
  | some (.int _ i)=>vr C t (ye s x) i fun e=>K e s
  | _=>none
 | .index t x i=>match C.P.underlying t,val s x,val s i with
  | some (.array n e),some (.agg cs),some (.int _ i)=>match ub C.P e with
   | some z=>pb (0≤i∧i < (n:Int)) (z3w C.P e (fun j=>cs.toList[z0u i.toNat z+j]?) fun v=>K (.v v) s) none
   | none=>none
  | some .string,some (.string b),some (.int _ i)=>pb (0≤i∧i < (b.size:Int)) (K (.v (.int .u8 (zc9 b i.toNat))) s) none
  | _,_,_=>none
 | .extract x i=>match val s x with
  | some (.tuple vs)=>match vs.toList[i]? with
   | some v=>K (.v v) s
   | none=>none
  | _=>none
 | .call c=>match c.callee with
  | .builtin b=>qd C b c.argTypes.toList c.args.toList s K
  | .value f=>match val s f,vals s c.args.toList with
   | some v,some args=>ob v.fun? fun q=>z54 C o.type q.1 (q.2.1 ++ args ++ q.2.2) s K
   | _,_=>none
  | .invoke _ _=>none
 | _=>none
def z4v (C:Ctx)(dst:Option Tmp)(e:EV)(s:St)(K:St→Option R):Option R:=
 match dst with
 | none=>K s
 | some t=>match Nat.blt t C.nt with
  | true=>K { s with env:=(t,e) :: s.env }
  | false=>none
def z5s (ops:Array Oper)(g:Nat):Option Tmp:=(ops[g]?).bind (·.dst)
def zfe (C:Ctx)(ops:Array Oper)(o:Oper)(s:St)(K:St→Option R):Option R:=
 match o.guard with
 | none=>aop C o s fun e s'=>z4v C o.dst e s' K
 | some (g,want)=>match z5s ops g with
  | some t=>match lk s.env t with
   | some (.v (.bool b))=>match want with
    | true=>bb b (aop C o { s with env:=(t,.v (.bool true)) :: s.env } fun e s'=>z4v C o.dst e s' K) (z4v C o.dst .u { s with env:=(t,.v (.bool false)) :: s.env } K)
    | false=>bb b (z4v C o.dst .u { s with env:=(t,.v (.bool true)) :: s.env } K) (aop C o { s with env:=(t,.v (.bool false)) :: s.env } fun e s'=>z4v C o.dst e s' K)
   | some .u=>z4v C o.dst .u s K
   | _=>none
  | none=>none
def z78 (C:Ctx)(ops:Array Oper):List Oper→St→(St→Option R)→Option R
 | [],s,K=>K s
 | o :: r,s,K=>zfe C ops o s fun s'=>z78 C ops r s' K
inductive Cls where
 | pure
 | new
 | ld
 | eff
 | wr
 deriving DecidableEq
def zk (ann:Ann)(o:Oper):Cls:=
 match o.op with
 | .alloc _ | .box _ _ | .buildSlice _ _ _=>match o.dst with
  | some t=>match z03 ann.priv t with | true=>.new | false=>.eff
  | none=>.wr
 | .makeSlice _ _ _=>.eff
 | .call c=>match c.callee with
  | .builtin .len | .builtin .max | .builtin .min=>.pure
  | .builtin _=>.wr
  | _=>.eff
 | .load _ _=>.ld
 | .store _ _ _=>.wr
 | _=>.pure
def z87:Cls→Cls→Bool
 | .ld,.wr | .wr,.ld | .wr,.wr | .wr,.eff | .eff,.wr | .eff,.eff=>true
 | _,_=>false
def za9:List Nat→List Nat→Bool
 | [],_=>false
 | x :: r,l=>match z03 l x with | true=>true | false=>za9 r l
def zdb (o:Oper):List Nat:=match o.dst with | some d=>[d] | none=>[]
def z1f (ann:Ann)(o:Oper):Option Nat:=
 match o.op with
 | .store _ (.tmp b) _=>match z03 ann.priv b with | true=>some b | false=>none
 | _=>none
def z5t (ann:Ann)(x y:Oper):Bool:=
 match zk ann x,zk ann y with
 | .wr,.ld=>(z1f ann x).isSome
 | .ld,.wr=>(z1f ann y).isSome
 | _,_=>false
def jn (ann:Ann)(o:Oper):Bool:=
 match zk ann o with
 | .eff=>match o.op with
  | .alloc _ | .box _ _ | .buildSlice _ _ _ | .makeSlice _ _ _=>true
  | _=>false
 | _=>false
def z6d (ann:Ann)(ops:Array Oper)(x y:Oper):Bool:=
 (z87 (zk ann x) (zk ann y) && !z5t ann x y && !(jn ann x && jn ann y)) || za9 (zdb x) (zdb y) || za9 (zdb x) (y.looksAt ops) || za9 (zdb y) (x.looksAt ops)
def z4m (acc:List Nat):List Edge→Nat→Nat
 | [],s=>s
 | e :: r,s=>match Region.binds .any e with
  | true=>z4m acc r (s ||| 2 ^ e.on ||| acc.getD e.on 0)
  | false=>z4m acc r s
def jd:List Oper→List Nat→List Nat
 | [],acc=>acc
 | o :: r,acc=>jd r (acc ++ [z4m acc o.after.toList 0])
def z79 (ann:Ann)(ops:Array Oper)(y:Oper)(m:Nat):List Oper→Nat→Bool
 | [],_=>true
 | x :: r,i=>match z6d ann ops x y && !m.testBit i with | true=>false | false=>z79 ann ops y m r (i+1)
def zaa (ann:Ann)(ops:Array Oper):List Oper→List Oper→List Nat→Bool
 | _,[],_=>true
 | done,y :: r,m :: ms=>match z79 ann ops y m done 0 with | true=>zaa ann ops (done ++ [y]) r ms | false=>false
 | _,_ :: _,[]=>false
def z1i (ann:Ann)(m:Nat)(ms:List Nat)(j:Nat):List Oper→Nat→Bool
 | [],_=>false
 | x :: r,i=>match decide (zk ann x=.eff) && !(match Nat.blt i j with | true=>m.testBit i | false=>(ms.getD i 0).testBit j) with | true=>true | false=>z1i ann m ms j r (i+1)
def z3y (ann:Ann)(m:Nat)(ms:List Nat)(j:Nat):List Oper→Nat→Bool
 | [],_=>false
 | x :: r,i=>match decide (zk ann x=.ld) && !(match Nat.blt i j with | true=>m.testBit i | false=>(ms.getD i 0).testBit j) with | true=>true | false=>z3y ann m ms j r (i+1)
def loJ (C:Ctx)(L:Nat)(all:List Oper)(ms:List Nat)(j:Nat)(o:Oper):Nat:=match decide (zk C.ann o=.eff) && z3y C.ann (ms.getD j 0) ms j all 0 with | true=>L | false=>C.lo
def z2a (ann:Ann)(m:Nat)(ms:List Nat)(j:Nat):List Oper→Nat→List Nat
 | [],_=>[]
 | x :: r,i=>match z1f ann x with
  | some b=>match (match Nat.blt i j with | true=>m.testBit i | false=>(ms.getD i 0).testBit j) with
   | true=>z2a ann m ms j r (i+1)
   | false=>b :: z2a ann m ms j r (i+1)
  | none=>z2a ann m ms j r (i+1)
def zgh (B:List Nat):Option EV→Bool
 | some (.l b _)=>!z03 B b
 | some (.s b _)=>!z03 B b
 | _=>true
def zs2 (b:Nat):Option EV→Bool
 | some (.l c _)=>Nat.beq c b
 | some (.v _)=>false
 | some (.s _ _)=>false
 | _=>true
def zs3:Option EV→Bool
 | some (.l _ _)=>false
 | some (.s _ _)=>false
 | _=>true
def chk (ann:Ann)(ms:List Nat)(all:List Oper)(j:Nat)(o:Oper)(s:St):Bool:=
 match o.op with
 | .load _ x=>zgh (z2a ann (ms.getD j 0) ms j all 0) (ye s x)
 | .store _ x y=>match z1f ann o with
  | some b=>zs2 b (ye s x) && zs3 (ye s y)
  | none=>true
 | _=>true
def z5u (ann:Ann)(m:Nat)(ms:List Nat)(j:Nat):List Oper→Nat→Bool
 | [],_=>false
 | x :: r,i=>match jn ann x && !Nat.beq i j && !(match Nat.blt i j with | true=>m.testBit i | false=>(ms.getD i 0).testBit j) with | true=>true | false=>z5u ann m ms j r (i+1)
def z01 (ann:Ann)(all:List Oper)(ms:List Nat):List Oper→Nat→List Nat
 | [],_=>[]
 | o :: r,j=>match jn ann o && z5u ann (ms.getD j 0) ms j all 0 with | true=>j :: z01 ann all ms r (j+1) | false=>z01 ann all ms r (j+1)
def z1g:List Nat→Nat→Nat→Option Nat
 | [],_,_=>none
 | k :: r,b,j=>match Nat.beq k j with | true=>some b | false=>z1g r (b+1) j
def freeL:List Nat→List Blk
 | []=>[]
 | _ :: r=>⟨.op 0,[]⟩ :: freeL r
def z14 (s:St)(N:List Nat):St:=
 match N with
 | []=>s
 | k :: r=>{ s with mem:=s.mem ++ freeL (k :: r) }
def z6q (C:Ctx)(ops:Array Oper)(all:List Oper)(ms:List Nat)(L R0:Nat)(N:List Nat)(b0:Nat):List Oper→Nat→St→(St→Option R)→Option R
 | [],_,s,K=>K s
 | o :: r,j,s,K=>
  match chk C.ann ms all j o s with
  | true=>zfe { C with lo:=loJ C L all ms j o,top:=match decide (zk C.ann o=.ld) && z1i C.ann (ms.getD j 0) ms j all 0 with | true=>some R0 | false=>none,slot:=z1g N b0 j } ops o s
   fun s'=>z6q C ops all ms L R0 N b0 r (j+1) s' K
  | false=>none
def z3z (ann:Ann)(all:List Oper)(ms:List Nat):List Oper→Nat→Bool
 | [],_=>false
 | o :: r,j=>match decide (zk ann o=.ld) && z1i ann (ms.getD j 0) ms j all 0 with | true=>true | false=>z3z ann all ms r (j+1)
def zmh (s:St)(acc:List Nat)(b:Nat):Bool:=
 match z03 acc b with
 | true=>true
 | false=>match lk s.env b with
  | some (.l _ _)=>true
  | _=>false
def zff (s:St):List Oper→List Nat→List Nat
 | [],acc=>acc
 | o :: r,acc=>match o.op,o.dst with
  | .fieldAddr _ (.tmp b) _,some d=>match zmh s acc b with | true=>zff s r (d :: acc) | false=>zff s r acc
  | _,_=>zff s r acc
def zs4 (s:St)(acc:List Nat)(o:Oper):Bool:=
 match o.op with
 | .load _ (.tmp b)=>match zmh s acc b with | true=>false | false=>true
 | _=>true
def zmi (ann:Ann)(s:St)(acc:List Nat)(all:List Oper)(ms:List Nat):List Oper→Nat→Bool
 | [],_=>false
 | o :: r,j=>match decide (zk ann o=.ld) && z1i ann (ms.getD j 0) ms j all 0 && zs4 s acc o with | true=>true | false=>zmi ann s acc all ms r (j+1)
def zs5 (ann:Ann)(s:St)(ops:Array Oper):Bool:=
 match z03 ann.priv 1000000000 with
 | false=>false
 | true=>match zmi ann s (zff s ops.toList []) ops.toList (jd ops.toList []) ops.toList 0 with | true=>false | false=>true
def z6e (i:Nat):List Edge→Bool
 | []=>true
 | e :: r=>match Region.binds .any e,Nat.blt e.on i with
  | true,false=>false
  | _,_=>z6e i r
def z7a:List Oper→Nat→Bool
 | [],_=>true
 | o :: r,i=>match z6e i o.after.toList with | true=>z7a r (i+1) | false=>false
def z9l (C:Ctx)(ops:Array Oper)(draw:Bool)(s:St)(K:St→Option R):Option R:=
 match draw with
 | false=>z78 C ops ops.toList s K
 | true=>
  match zaa C.ann ops [] ops.toList (jd ops.toList []),z7a ops.toList 0 with
  | true,true=>match z3z C.ann ops.toList (jd ops.toList []) ops.toList 0 with
   | false=>z6q C ops ops.toList (jd ops.toList []) C.lo s.mem.length (z01 C.ann ops.toList (jd ops.toList []) ops.toList 0) s.mem.length ops.toList 0 (z14 s (z01 C.ann ops.toList (jd ops.toList []) ops.toList 0)) K
   | true=>match zs5 C.ann s ops with
    | true=>z6q C ops ops.toList (jd ops.toList []) C.lo 0 (z01 C.ann ops.toList (jd ops.toList []) ops.toList 0) s.mem.length ops.toList 0 (z14 s (z01 C.ann ops.toList (jd ops.toList []) ops.toList 0)) K
    | false=>z6q C ops ops.toList (jd ops.toList []) s.mem.length s.mem.length (z01 C.ann ops.toList (jd ops.toList []) ops.toList 0) s.mem.length ops.toList 0 (z14 s (z01 C.ann ops.toList (jd ops.toList []) ops.toList 0)) K
  | _,_=>none
end
inductive Out where
 | ret (v:Value) (M:Mem)
 | cut (p:Nat) (vs:List EV) (ls:List (List Value)) (M:Mem)
def z6f {α:Type}(l:List (Nat × α)):List Nat→Option (List α)
 | []=>some []
 | t :: r=>match lk l t,z6f l r with
  | some x,some xs=>some (x :: xs)
  | _,_=>none
noncomputable def cutTo (C:Ctx)(p:Nat)(s:St):Option Out:=
 match lk C.ann.cut p with
 | some (live,locs)=>match z6f s.env live,z6f s.loc locs with
  | some vs,some ls=>some (.cut p vs ls s.mem)
  | _,_=>none
 | none=>none
noncomputable def uv (C:Ctx)(p:Nat)(s:St)(F:St→Option Out):Option Out:=
 match lk C.ann.cut p with
 | some _=>cutTo C p s
 | none=>F s
abbrev Kt:=Ex→St→Option Out
noncomputable def z6r (F:St→Option Out)(K:Kt):Kt:=fun e s=>
 match e with
 | .nrm=>F s
 | .ext id=>K (.ext id) s
 | .ret=>K .ret s
noncomputable def z4n (id:Nat)(K:Kt):Kt:=fun e s=>
 match e with
 | .nrm=>K .nrm s
 | .ext i=>match Nat.beq i id with
  | true=>K .nrm s
  | false=>K (.ext i) s
 | .ret=>K .ret s
noncomputable def z1k (C:Ctx)(c:Code):Nat→St→Kt→Option Out:=
 Code.rec (motive:=fun _=>Nat→St→Kt→Option Out)
  (fun _ s K=>K .nrm s)
  (fun _ ops draw _ s K=>z9l C ops draw s fun s'=>K .nrm s')
  (fun _ _ iha ihb p s K=>uv C (2*p) s fun s=>iha (2*p) s (z6r (fun s=>uv C (2*p+1) s fun s=>ihb (2*p+1) s K) K))
  (fun c _ _ iha ihb p s K=>match val s c with
   | some (.bool b)=>bb b (uv C (2*p) s fun s=>iha (2*p) s K) (uv C (2*p+1) s fun s=>ihb (2*p+1) s K)
   | _=>none)
  (fun id _ iha p s K=>uv C (2*p) s fun s=>iha (2*p) s (z4n id K))
  (fun _ _ p s _=>cutTo C (2*p) s)
  (fun _ _ _ _ _ _ _ _ _=>none)
  (fun id _ s K=>K (.ext id) s)
  (fun _ iha p s K=>uv C (2*p) s fun s=>iha (2*p) s K)
  (fun _ _ s K=>K .nrm s)
  (fun _ _ _ _=>none)
  (fun _ s K=>K .ret s)
  (fun _ _ _ _=>none)
  c
def sub:List Bool→Code→Code
 | [],c=>c
 | d :: r,.seq a b=>match d with | false=>sub r a | true=>sub r b
 | d :: r,.cond _ a b=>match d with | false=>sub r a | true=>sub r b
 | false :: r,.block _ a=>sub r a
 | false :: r,.loop a=>sub r a
 | false :: r,.scope a=>sub r a
 | _, _ => .refuse "no such place"
noncomputable def z0v (C:Ctx):List Bool→Code→Nat→Kt→Kt
 | [],_,_,K=>K
 | d :: r,.seq a b,p,K=>match d with
  | false=>z0v C r a (2*p) (z6r (fun s=>uv C (2*p+1) s fun s=>z1k C b (2*p+1) s K) K)
  | true=>z0v C r b (2*p+1) K
 | d :: r,.cond _ a b,p,K=>match d with
  | false=>z0v C r a (2*p) K
  | true=>z0v C r b (2*p+1) K
 | false :: r,.block id a,p,K=>z0v C r a (2*p) (z4n id K)
 | false :: r,.loop a,p,K=>z0v C r a (2*p) (z6r (fun s=>cutTo C (2*p) s) K)
 | false :: r,.scope a,p,K=>z0v C r a (2*p) K
 | _,_,_,_=>fun _ _=>none
def zca:Nat→Nat→List Bool→List Bool
 | 0,_,acc=>acc
 | f+1,p,acc=>match Nat.ble p 1 with
  | true=>acc
  | false=>zca f (p / 2) ((Nat.beq (p % 2) 1) :: acc)
def ji:Nat→List Bool→Nat
 | p,[]=>p
 | p,false :: r=>ji (2*p) r
 | p,true :: r=>ji (2*p+1) r
noncomputable def z4w (C:Ctx)(s:St):List ResultVar→(List Value→Option Out)→Option Out
 | [],K=>K []
 | .tmp t :: r,K=>match lk s.env t with
  | some (.v v)=>z4w C s r fun l=>K (v :: l)
  | _=>none
 | .cell t ty :: r,K=>z1o C ty (lk s.env t) s fun e _=>match e with
  | .v v=>z4w C s r fun l=>K (v :: l)
  | _=>none
noncomputable def zke (C:Ctx)(fn:Func):Kt:=fun e s=>
 match e with
 | .ext _=>none
 | _=>z4w C s fn.results.toList fun l=>match l with
  | [v]=>some (.ret v s.mem)
  | l=>some (.ret (.tuple ⟨l⟩) s.mem)
def zbb {α:Type} : List Nat→List α→List (Nat × α)
 | t :: r,x :: xs=>(t,x) :: zbb r xs
 | _,_=>[]
def z9m:Nat→List Value→List (Nat × EV)
 | _,[]=>[]
 | i,v :: r=>(i,.v v) :: z9m (i+1) r
noncomputable def z1j (C:Ctx)(fn:Func)(c:Code)(p:Nat)(vs:List EV)(ls:List (List Value))(M:Mem):Option Out:=
 match lk C.ann.cut p with
 | some (live,locs)=>match Nat.beq live.length vs.length,Nat.beq locs.length ls.length with
  | true,true=>match Nat.beq (ji 1 (zca 2000 p [])) p with
   | true=>z1k C (sub (zca 2000 p []) c) p ⟨zbb live vs,zbb locs ls,M⟩ (z0v C (zca 2000 p []) c 1 (zke C fn))
   | false=>none
  | _,_=>none
 | none=>none
noncomputable def z7b (C:Ctx)(fn:Func)(c:Code)(args:List Value)(M:Mem):Option Out:=
 match Nat.ble args.length fn.ntmps with
 | true=>z1k C c 1 ⟨z9m 0 args,[],M⟩ (zke C fn)
 | false=>none
noncomputable def go (z2d:Nat→List EV→List (List Value)→Mem→Option Out):Nat→Out→Option (Value × Mem)
 | _,.ret v M=>some (v,M)
 | 0,.cut _ _ _ _=>none
 | n+1,.cut p vs ls M=>(z2d p vs ls M).bind (go z2d n)
abbrev Tab:=Nat→Option Ann
def mkC (P:Program)(call:Nat→FuncId→List Value→Mem→Option (Value × Mem))(ann:Ann)(lo nt:Nat):Ctx:=
 { P,call,ann,lo,nt,top:=none,slot:=none }
noncomputable def z5 (P:Program)(T:Tab):Nat→Nat→FuncId→List Value→Mem→Option (Value × Mem)
 | 0,_,_,_,_=>none
 | k+1,lo,f,args,M=>
  match P.funcs[f]?,T f with
  | some fn,some ann=>match fn.body with
   | some c=>(z7b (mkC P (z5 P T k) ann lo fn.ntmps) fn c args M).bind (go (z1j (mkC P (z5 P T k) ann lo fn.ntmps) fn c) k)
   | none=>none
  | _,_=>none
noncomputable def z2d (P:Program)(T:Tab)(k lo:Nat)(f:FuncId)(p:Nat)(vs:List EV)(ls:List (List Value))(M:Mem):Option Out:=
 match P.funcs[f]?,T f with
 | some fn,some ann=>match fn.body with
  | some c=>z1j (mkC P (z5 P T k) ann lo fn.ntmps) fn c p vs ls M
  | none=>none
 | _,_=>none
noncomputable def entry (P:Program)(T:Tab)(k lo:Nat)(f:FuncId)(args:List Value)(M:Mem):Option Out:=
 match P.funcs[f]?,T f with
 | some fn,some ann=>match fn.body with
  | some c=>z7b (mkC P (z5 P T k) ann lo fn.ntmps) fn c args M
  | none=>none
 | _,_=>none
abbrev _root_.Go.Value.i (x:Int):Value:=.int .i64 x
abbrev _root_.Go.Value.s (A:Option Addr)(n c:Nat):Value:=.slice A n c
abbrev _root_.Go.Value.b (x:Bool):Value:=.bool x
noncomputable def pz (P:Program)(T:Tab)(k lo:Nat)(f:FuncId):Out→Option Out
 | .cut p vs ls M=>z2d P T k lo f p vs ls M
 | .ret _ _=>none
end Go.Zt

