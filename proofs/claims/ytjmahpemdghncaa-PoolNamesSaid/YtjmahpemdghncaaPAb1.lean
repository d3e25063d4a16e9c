/- What the law PoolNames needs of the text Ab1. -/
import Derived.Orders
import GoSem.ClaimKeys
import Derived.Laws.Sem
set_option linter.unusedVariables false
namespace Go.Zt
inductive EV where
  | u
  | v (x : Value)
  | l (t off : Nat)
  | s (t n : Nat)
inductive BK where
  | ro
  | fx
  | op (esz : Nat)
structure Blk where
  kind : BK
  cells : List Value
abbrev Mem := List Blk
structure St where
  env : List (Nat × EV)
  loc : List (Nat × List Value)
  mem : Mem
inductive Ex where
  | nrm
  | ext (id : Nat)
  | ret
structure Ann where
  priv : List Nat
  cut : List (Nat × (List Nat × List Nat))
noncomputable abbrev ob {α R : Type} (o : Option α) (f : α → Option R) : Option R := @Option.rec α (fun _ => Option R) none f o
noncomputable abbrev bb {R : Type} (b : Bool) (A B : Option R) : Option R := @Bool.rec (fun _ => Option R) B A b
noncomputable abbrev pb {R : Type} (c : Prop) [d : Decidable c] (A B : Option R) : Option R := @Decidable.rec c (fun _ => Option R) (fun _ => B) (fun _ => A) d
theorem ob_eq {α R : Type} (o : Option α) (f : α → Option R) : ob o f = o.bind f := by cases o <;> rfl
theorem bb_eq {R : Type} (b : Bool) (A B : Option R) : bb b A B = if b = true then A else B := by cases b <;> rfl
theorem pb_eq {R : Type} (c : Prop) [d : Decidable c] (A B : Option R) : pb c A B = if c then A else B := by
  cases d with
  | isTrue h => exact (if_pos h).symm
  | isFalse h => exact (if_neg h).symm
def lk {α : Type} : List (Nat × α) → Nat → Option α
  | [], _ => none
  | (t, x) :: r, u => match Nat.beq t u with | true => some x | false => lk r u
def up {α : Type} : List (Nat × α) → Nat → α → List (Nat × α)
  | [], _, _ => []
  | (t, x) :: r, u, y => match Nat.beq t u with | true => (t, y) :: r | false => (t, x) :: up r u y
def isIn : List Nat → Nat → Bool
  | [], _ => false
  | t :: r, u => match Nat.beq t u with | true => true | false => isIn r u
def plus (a : Addr) (n : Nat) : Addr := match n with | 0 => a | n + 1 => ⟨a.block, a.off + (n + 1), a.spot⟩
def mulN (a : Nat) : Nat → Nat
  | 1 => a
  | b => a * b
def Mem.ld (M : Mem) (a : Addr) : Option Value :=
  match M[a.block]? with
  | some ⟨.op _, cs⟩ => if a.spot = some cs.length then cs[a.off]? else none
  | some ⟨_, cs⟩ => if a.spot = none then cs[a.off]? else none
  | none => none
def setL {α : Type} (cs : List α) (off : Nat) : List α → List α
  | [] => cs
  | v :: r => setL (cs.set off v) (off + 1) r
def allOne : List Value → Bool
  | [] => true
  | v :: r => match v.oneCell' with | true => allOne r | false => false
def Mem.st (M : Mem) (lo : Nat) (a : Addr) (vs : List Value) : Option Mem :=
  match M[a.block]? with
  | some ⟨.fx, cs⟩ => if a.spot = none ∧ lo ≤ a.block ∧ a.off + vs.length ≤ cs.length then some (M.set a.block ⟨.fx, setL cs a.off vs⟩) else none
  | some ⟨.op e, cs⟩ => if a.spot = some cs.length ∧ lo ≤ a.block ∧ a.off + vs.length ≤ cs.length then some (M.set a.block ⟨.op e, setL cs a.off vs⟩) else none
  | _ => none
def Mem.lds (M : Mem) (a : Addr) (n : Nat) : Option (List Value) :=
  match M[a.block]? with
  | some ⟨.op _, cs⟩ => if a.spot = some cs.length ∧ a.off + n ≤ cs.length then some ((cs.drop a.off).take n) else none
  | some ⟨_, cs⟩ => if a.spot = none ∧ a.off + n ≤ cs.length then some ((cs.drop a.off).take n) else none
  | none => none
structure Slc where
  a : Option Addr
  n : Nat
  c : Nat
def Slc.val (s : Slc) : Value := .slice s.a s.n s.c
end Go.Zt
namespace Go
open Zt
def Value.int? (k : IntKind) : Value → Option Int
  | .int k' x => if k' = k then some x else none
  | _ => none
def Value.bool? : Value → Option Bool
  | .bool b => some b
  | _ => none
def Value.flt? (k : FloatKind) : Value → Option Nat
  | .float k' x => if k' = k then some x else none
  | _ => none
def Value.slc? : Value → Option Slc
  | .slice a n c => some ⟨a, n, c⟩
  | _ => none
def Value.ptr? : Value → Option (Option Addr)
  | .pointer a => some a
  | _ => none
def Value.str? : Value → Option ByteArray
  | .string s => some s
  | _ => none
def Value.one? (v : Value) : Option Value := match v.oneCell' with
  | true => some v
  | false => none
def Value.fun? : Value → Option (FuncId × List Value × List Value)
  | .func (.func g) first captured => some (g, first.toList, captured.toList)
  | _ => none
def Value.agg? (n : Nat) : Value → Option (List Value)
  | .agg cs => if cs.toList.length = n then some cs.toList else none
  | _ => none
def Value.tup? (n : Nat) : Value → Option (List Value)
  | .tuple cs => if cs.toList.length = n then some cs.toList else none
  | _ => none
end Go
namespace Go.Zt
inductive CK where
  | int (k : IntKind)
  | bool
  | flt (k : FloatKind)
  | slc
  | ptr
  | str
  | any
def lay (P : Program) : Nat → TypeId → Option (List CK)
  | 0, _ => none
  | d + 1, t =>
    match P.underlying t with
    | some (.int k) => some [.int k]
    | some .bool => some [.bool]
    | some (.float k) => some [.flt k]
    | some (.slice _) => some [.slc]
    | some (.pointer _) => some [.ptr]
    | some .string => some [.str]
    | some (.func _ _ _) => some [.any]
    | some (.array n e) => (lay P d e).map fun l => (List.replicate n l).flatten
    | some (.struct fs) => fs.toList.foldr (fun f acc => (lay P d f.type).bind fun l => acc.map fun r => l ++ r) (some [])
    | _ => none
def isAggB (P : Program) (t : TypeId) : Bool :=
  match P.underlying t with
  | some (.struct _) => true
  | some (.array _ _) => true
  | _ => false
def tsize (P : Program) (t : TypeId) : Option Nat := (P.info? t).map (·.size)
def plainV : Value → Bool
  | .bool _ | .int _ _ | .float _ _ | .complex _ _ _ | .string _ | .pointer none | .slice none 0 0 | .nilFunc | .nilIface | .map none | .chan none => true
  | _ => false
def allPlain : List Value → Bool
  | [] => true
  | v :: r => match plainV v with | true => allPlain r | false => false
def cellsL : Value → List Value
  | .agg cs => cs.toList
  | v => [v]
def zeroL (P : Program) (t : TypeId) : Option (List Value) :=
  match P.info? t with
  | some i => match i.zero with
    | some z => match allPlain (cellsL z), Nat.beq (cellsL z).length i.size with
      | true, true => some (cellsL z)
      | _, _ => none
    | none => none
  | none => none
noncomputable section
variable {R : Type}
def ck (c : CK) (o : Option Value) (K : Value → Option R) : Option R :=
  match c with
  | .int k => ob (o.bind (Value.int? k)) fun x => K (.int k x)
  | .bool => ob (o.bind Value.bool?) fun x => K (.bool x)
  | .flt k => ob (o.bind (Value.flt? k)) fun x => K (.float k x)
  | .slc => ob (o.bind Value.slc?) fun s => K (.slice s.a s.n s.c)
  | .ptr => ob (o.bind Value.ptr?) fun a => K (.pointer a)
  | .str => ob (o.bind Value.str?) fun s => K (.string s)
  | .any => ob (o.bind Value.one?) K
def getC (g : Nat → Option Value) : List CK → Nat → (List Value → Option R) → Option R
  | [], _, K => K []
  | c :: r, i, K => ck c (g i) fun v => getC g r (i + 1) fun vs => K (v :: vs)
def getT (P : Program) (t : TypeId) (g : Nat → Option Value) (K : Value → Option R) : Option R :=
  match isAggB P t with
  | true => match lay P 8 t with
    | some l => match tsize P t with
      | some n => match Nat.beq l.length n with
        | true => getC g l 0 fun vs => K (.agg ⟨vs⟩)
        | false => none
      | none => none
    | none => none
  | false => match lay P 8 t with
    | some [c] => ck c (g 0) K
    | _ => none
def getR (P : Program) (t : TypeId) (o : Option Value) (K : Value → Option R) : Option R :=
  match isAggB P t with
  | true => match lay P 8 t with
    | some l => ob (o.bind (Value.agg? l.length)) fun vs => getC (fun i => vs[i]?) l 0 fun vs => K (.agg ⟨vs⟩)
    | none => none
  | false => match lay P 8 t with
    | some [c] => ck c o K
    | _ => none
def getRs (P : Program) (vs : List Value) : List TypeId → Nat → (List Value → Option R) → Option R
  | [], _, K => K []
  | t :: r, i, K => getR P t vs[i]? fun v => getRs P vs r (i + 1) fun l => K (v :: l)
def getRes (P : Program) (ts : List TypeId) (v : Value) (K : Value → Option R) : Option R :=
  match ts with
  | [t] => getR P t (some v) K
  | ts => ob (v.tup? ts.length) fun vs => getRs P vs ts 0 fun l => K (.tuple ⟨l⟩)
def fnan (k : FloatKind) : Nat := k.format.infRung + 2 ^ (k.format.fractionBits - 1)
def fadd (k : FloatKind) (x y : Nat) : Nat := (k.format.add x y).getD (fnan k)
def fsub (k : FloatKind) (x y : Nat) : Nat := (k.format.sub x y).getD (fnan k)
def fmul (k : FloatKind) (x y : Nat) : Nat := (k.format.mul x y).getD (fnan k)
def fdiv (k : FloatKind) (x y : Nat) : Nat := (k.format.div x y).getD (fnan k)
def andI (k : IntKind) (x y : Int) : Int := k.wrap ((BitVec.ofInt k.bits x &&& BitVec.ofInt k.bits y).toNat : Int)
def orI (k : IntKind) (x y : Int) : Int := k.wrap ((BitVec.ofInt k.bits x ||| BitVec.ofInt k.bits y).toNat : Int)
def xorI (k : IntKind) (x y : Int) : Int := k.wrap ((BitVec.ofInt k.bits x ^^^ BitVec.ofInt k.bits y).toNat : Int)
def clrI (k : IntKind) (x y : Int) : Int := k.wrap ((BitVec.ofInt k.bits x &&& ~~~BitVec.ofInt k.bits y).toNat : Int)
def shlI (k : IntKind) (x : Int) (n : Nat) : Int := k.wrap (x * 2 ^ (min n k.bits))
def shrI (k : IntKind) (x : Int) (n : Nat) : Int := x.fdiv (2 ^ (min n k.bits))
def sameLits (la lb : List Lit) : Bool := @decide (la = lb) (Classical.propDecidable _)
def binF (op : BinOp) (k : FloatKind) (x y : Nat) (K : Value → Option R) : Option R :=
  match op with
  | .add => K (.float k (fadd k x y))
  | .sub => K (.float k (fsub k x y))
  | .mul => K (.float k (fmul k x y))
  | .quo => K (.float k (fdiv k x y))
  | .eql => K (.bool (k.format.order x y == some .eq))
  | .neq => K (.bool (k.format.order x y != some .eq))
  | .lss => K (.bool (k.format.order x y == some .lt))
  | .leq => K (.bool (k.format.order x y == some .lt || k.format.order x y == some .eq))
  | .gtr => K (.bool (k.format.order x y == some .gt))
  | .geq => K (.bool (k.format.order x y == some .gt || k.format.order x y == some .eq))
  | _ => none
def binI (op : BinOp) (k : IntKind) (x y : Int) (K : Value → Option R) : Option R :=
  match op with
  | .add => K (.int k (k.wrap (x + y)))
  | .sub => K (.int k (k.wrap (x - y)))
  | .mul => K (.int k (k.wrap (x * y)))
  | .quo => pb (y = 0) none (K (.int k (k.wrap (x.tdiv y))))
  | .rem => pb (y = 0) none (K (.int k (x.tmod y)))
  | .and => K (.int k (andI k x y))
  | .or => K (.int k (orI k x y))
  | .xor => K (.int k (xorI k x y))
  | .andNot => K (.int k (clrI k x y))
  | .eql => K (.bool (x == y))
  | .neq => K (.bool (x != y))
  | .lss => K (.bool (decide (x < y)))
  | .leq => K (.bool (decide (x ≤ y)))
  | .gtr => K (.bool (decide (x > y)))
  | .geq => K (.bool (decide (x ≥ y)))
  | _ => none
def binOpA (P : Program) (op : BinOp) (ty : TypeId) (a b : Value) (K : Value → Option R) : Option R :=
  match a, b with
  | .int k x, .int k' y =>
    match op with
    | .shl => pb (y < 0) none (K (.int k (shlI k x y.toNat)))
    | .shr => pb (y < 0) none (K (.int k (shrI k x y.toNat)))
    | op => pb (k = k') (binI op k x y K) none
  | .float k x, .float k' y => pb (k = k') (binF op k x y K) none
  | .bool x, .bool y =>
    match P.underlying ty with
    | some .bool => match op with
      | .eql => K (.bool (x == y))
      | .neq => K (.bool (!(x == y)))
      | _ => none
    | _ => none
  | .string x, .string y =>
    match op with
    | .add => pb (((x.size + y.size : Nat) : Int) > IntKind.i64.max) none (K (.string (x ++ y)))
    | .eql => K (.bool (x.toList == y.toList))
    | .neq => K (.bool (!(x.toList == y.toList)))
    | _ => none
  | .agg xs, .agg ys =>
    match P.keyTypeAt 8 ty, isAggB P ty, P.eqGuardType P.depth ty with
    | true, true, false => match op with
      | .eql => ob (P.keyLits 9 ty xs.toList) fun la => ob (P.keyLits 9 ty ys.toList) fun lb => K (.bool (sameLits la lb))
      | .neq => ob (P.keyLits 9 ty xs.toList) fun la => ob (P.keyLits 9 ty ys.toList) fun lb => K (.bool (!sameLits la lb))
      | _ => none
    | _, _, _ => none
  | .slice x _ _, .slice none _ _ =>
    match P.underlying ty with
    | some (.slice _) => match op with
      | .eql => K (.bool x.isNone)
      | .neq => K (.bool (!x.isNone))
      | _ => none
    | _ => none
  | .pointer x, .pointer none =>
    match P.underlying ty with
    | some (.pointer _) => match op with
      | .eql => K (.bool x.isNone)
      | .neq => K (.bool (!x.isNone))
      | _ => none
    | _ => none
  | _, _ => none
def unOpA (op : UnOp) (a : Value) (K : Value → Option R) : Option R :=
  match op, a with
  | .neg, .int k n => K (.int k (k.wrap (0 - n)))
  | .xor, .int k n => K (.int k (xorI k (if k.signed then -1 else k.max) n))
  | .not, .bool b => K (.bool (!b))
  | _, _ => none
def convA (P : Program) (src dst : TypeId) (x : Value) (K : Value → Option R) : Option R :=
  match P.underlying src, P.underlying dst, x with
  | some (.int _), some (.int k), .int _ n => K (.int k (k.wrap n))
  | some (.int _), some (.float k), .int _ n => K (.float k (k.nearest n))
  | _, _, _ => none
noncomputable abbrev pick2 {α : Type} (b : Bool) (x y : α) : α := @Bool.rec (fun _ => α) y x b
def pickE (b : Bool) (x y : Option EV) (K : EV → Option R) : Option R :=
  match x, y with
  | some (.v (.int k x)), some (.v (.int k' y)) => pb (k = k') (K (.v (.int k (pick2 b x y)))) none
  | some (.v (.bool x)), some (.v (.bool y)) => K (.v (.bool (pick2 b x y)))
  | x, y => bb b (match x with | some e => K e | none => none) (match y with | some e => K e | none => none)
structure Ctx where
  P : Program
  call : Nat → FuncId → List Value → Mem → Option (Value × Mem)
  ann : Ann
  lo : Nat
  nt : Nat
  /-- In a statement that draws its order: loads are from below here. -/
  top : Option Nat
  /-- The place that is kept free for this operation's new block. -/
  slot : Option Nat
def opnd (s : St) : Operand → Option EV
  | .tmp t => lk s.env t
  | .const v => match allPlain (cellsL v) with | true => some (.v v) | false => none
  | .func f => some (.v (.func (.func f) #[] #[]))
  | .global _ => none
def val (s : St) (x : Operand) : Option Value :=
  match opnd s x with
  | some (.v v) => some v
  | _ => none
def vals (s : St) : List Operand → Option (List Value)
  | [] => some []
  | x :: r => match val s x, vals s r with
    | some v, some vs => some (v :: vs)
    | _, _ => none
def noRef (t : Nat) : List (Nat × EV) → Bool
  | [] => true
  | (_, .l u _) :: r => match Nat.beq t u with | true => false | false => noRef t r
  | (_, .s u _) :: r => match Nat.beq t u with | true => false | false => noRef t r
  | _ :: r => noRef t r
def Mem.fill (M : Mem) (lo i z : Nat) (cs : List Value) : Option (Addr × Mem) :=
  match M[i]? with
  | some ⟨.op 0, _⟩ => if lo ≤ i ∧ z ≠ 0 then (match cs with | [] => some (⟨i, 0, none⟩, M) | _ :: _ => some (⟨i, 0, some cs.length⟩, M.set i ⟨.op z, cs⟩)) else none
  | _ => none
def allocA (C : Ctx) (dst : Option Tmp) (cs : List Value) (s : St) (K : EV → St → Option R) : Option R :=
  match dst with
  | none => none
  | some t => match isIn C.ann.priv t with
    | true => match lk s.loc t, noRef t s.env with
      | none, true => K (.l t 0) { s with loc := (t, cs) :: s.loc }
      | _, _ => none
    | false => match C.slot with
      | none => K (.v (.pointer (some ⟨s.mem.length, 0, none⟩))) { s with mem := s.mem ++ [⟨.fx, cs⟩] }
      | some i => match cs with
        | [] => none
        | c :: r => ob (s.mem.fill C.lo i 1 (c :: r)) fun q => K (.v (.pointer (some q.1))) { s with mem := q.2 }
def fillL (place : Nat → Option (Nat × Nat)) (cells : List Value) : List (Nat × Value) → Option (List Value)
  | [] => some cells
  | (i, v) :: rest =>
    match place i with
    | none => none
    | some (off, size) =>
      match Nat.beq (cellsL v).length size, Nat.ble (off + (cellsL v).length) cells.length with
      | true, true => fillL place (setL cells off (cellsL v)) rest
      | _, _ => none
def partsA (s : St) : List (Nat × Operand) → Option (List (Nat × Value))
  | [] => some []
  | (i, x) :: r => match val s x, partsA s r with
    | some v, some l => some ((i, v) :: l)
    | _, _ => none
def fieldPlaces (P : Program) : List Field → Option (List (Nat × Nat))
  | [] => some []
  | f :: r => match tsize P f.type, fieldPlaces P r with
    | some n, some l => some ((f.offset, n) :: l)
    | _, _ => none
def ldM (C : Ctx) (s : St) (a : Addr) (i : Nat) : Option Value :=
  match C.top with
  | none => s.mem.ld (plus a i)
  | some n => if a.block < n then s.mem.ld (plus a i) else none
def loadA (C : Ctx) (t : TypeId) (e : Option EV) (s : St) (K : EV → St → Option R) : Option R :=
  match e with
  | some (.l b off) => match lk s.loc b with
    | some cs => getT C.P t (fun i => cs[off + i]?) fun v => K (.v v) s
    | none => none
  | some (.v (.pointer (some a))) => getT C.P t (ldM C s a) fun v => K (.v v) s
  | _ => none
def storeA (C : Ctx) (t : TypeId) (e : Option EV) (x : Value) (s : St) (K : EV → St → Option R) : Option R :=
  match tsize C.P t with
  | none | some 0 => none
  | some (n + 1) => match Nat.beq (cellsL x).length (n + 1), allOne (cellsL x) with
    | true, true => match e with
      | some (.l b off) => match lk s.loc b with
        | some cs => pb (off + (n + 1) ≤ cs.length) (K .u { s with loc := up s.loc b (setL cs off (cellsL x)) }) none
        | none => none
      | some (.v (.pointer (some a))) => ob (s.mem.st C.lo a (cellsL x)) fun M => K .u { s with mem := M }
      | _ => none
    | _, _ => none
def indexAddrA (C : Ctx) (t : TypeId) (x : Option EV) (i : Int) (K : EV → Option R) : Option R :=
  match C.P.underlying t, x with
  | some (.array n e), some (.l b off) => match tsize C.P e with
    | some z => pb (0 ≤ i ∧ i < (n : Int)) (K (.l b (off + mulN i.toNat z))) none
    | none => none
  | some (.array n e), some (.v (.pointer (some a))) => match tsize C.P e with
    | some z => pb (0 ≤ i ∧ i < (n : Int)) (K (.v (.pointer (some (plus a (mulN i.toNat z)))))) none
    | none => none
  | some (.slice e), some (.v (.slice A n _)) => match tsize C.P e with
    | some z => pb (0 ≤ i ∧ i < (n : Int)) (ob A fun a => K (.v (.pointer (some (plus a (mulN i.toNat z)))))) none
    | none => none
  | _, _ => none
def slAddr (z : Nat) (A : Option Addr) (l m : Nat) : Option Addr := if m = l then A else A.map fun a => plus a (mulN l z)
def slAddr3 (z : Nat) (A : Option Addr) (l m : Nat) : Option Addr := if m = l then A.map fun a => ⟨a.block, a.off, none⟩ else A.map fun a => plus a (mulN l z)
def bound? (s : St) : Option Operand → Option (Option Int)
  | none => some none
  | some x => match val s x with
    | some (.int _ i) => some (some i)
    | _ => none
def sliceS (z : Nat) (A : Option Addr) (n c : Nat) (l h m : Option Int) (K : Value → Option R) : Option R :=
  match m with
  | some m =>
    match h with
    | some h => pb (0 ≤ l.getD 0 ∧ l.getD 0 ≤ h ∧ h ≤ m ∧ m ≤ (c : Int))
        (K (.slice (slAddr3 z A (l.getD 0).toNat m.toNat) (h.toNat - (l.getD 0).toNat) (m.toNat - (l.getD 0).toNat))) none
    | none => none
  | none =>
    match h with
    | some h => pb (0 ≤ l.getD 0 ∧ l.getD 0 ≤ h ∧ h ≤ (c : Int))
        (K (.slice (slAddr z A (l.getD 0).toNat c) (h.toNat - (l.getD 0).toNat) (c - (l.getD 0).toNat))) none
    | none => pb (0 ≤ l.getD 0 ∧ l.getD 0 ≤ (n : Int))
        (K (.slice (slAddr z A (l.getD 0).toNat c) (n - (l.getD 0).toNat) (c - (l.getD 0).toNat))) none
def sliceA (C : Ctx) (t : TypeId) (x : Option EV) (l h m : Option (Option Int)) (K : EV → Option R) : Option R :=
  match l, h, m with
  | some l, some h, some m =>
    match C.P.underlying t, x with
    | some (.slice e), some (.v (.slice A n c)) => match tsize C.P e with
      | some z => sliceS z A n c l h m fun v => K (.v v)
      | none => none
    | some (.array n e), some (.v (.pointer (some a))) => match tsize C.P e with
      | some z => pb (a.spot = none) (sliceS z (some a) n n l h m fun v => K (.v v)) none
      | none => none
    | _, _ => none
  | _, _, _ => none
def room (n bytes : Nat) : Prop := n * bytes ≤ 140737488355328
instance (n bytes : Nat) : Decidable (room n bytes) := inferInstanceAs (Decidable (_ ≤ _))
def Mem.app (M : Mem) (lo z bytes : Nat) (s : Slc) (vs : List Value) (m : Nat) : Option (Slc × Mem) :=
  if m = 0 then some (s, M) else
  if room (s.n + m) bytes then
    match s.a with
    | none => if s.n = 0 then some (⟨some ⟨M.length, 0, some vs.length⟩, m, m⟩, M ++ [⟨.op z, vs⟩]) else none
    | some a =>
      match a.spot with
      | none => if s.n = s.c then
          (if s.n = 0 then some [] else M.lds a (mulN s.n z)).bind fun old => some (⟨some ⟨M.length, 0, some (old ++ vs).length⟩, s.n + m, s.n + m⟩, M ++ [⟨.op z, old ++ vs⟩])
        else none
      | some ver =>
        match M[a.block]? with
        | some ⟨.op z', cs⟩ => if z' = z ∧ a.off = 0 ∧ ver = cs.length ∧ mulN s.n z = cs.length ∧ lo ≤ a.block then
            some (⟨some ⟨a.block, 0, some (cs ++ vs).length⟩, s.n + m, s.n + m⟩, M.set a.block ⟨.op z, cs ++ vs⟩) else none
        | _ => none
  else none
def tbytes (P : Program) (t : TypeId) : Option Nat := (P.info? t).map (·.bytes)
def Mem.src (M : Mem) (A : Option Addr) (n nz : Nat) : Option (List Value) :=
  match A with
  | some a => if n = 0 then some [] else M.lds a nz
  | none => if n = 0 then some [] else none
def srcA (C : Ctx) (s : St) (z n : Nat) (x : Option EV) : Option (List Value) :=
  match x with
  | some (.s t k) => match lk s.loc t with
    | some cs => match Nat.beq cs.length (mulN k z) with
      | true => some (cs.take (mulN n z))
      | false => none
    | none => none
  | some (.v (.slice A _ _)) => s.mem.src A n (mulN n z)
  | _ => none
def lenE : Option EV → Option Nat
  | some (.s _ n) => some n
  | some (.v (.slice _ n _)) => some n
  | _ => none
def appendA (C : Ctx) (tys : List TypeId) (s : St) (x y : Option EV) (K : EV → St → Option R) : Option R :=
  match tys with
  | [t, u] => match C.P.underlying t, C.P.underlying u, x, lenE y with
    | some (.slice e), some (.slice _), some (.v (.slice A n c)), some m => match tsize C.P e, tbytes C.P e, zeroL C.P e with
      | some (z + 1), some (b + 1), some _ => ob (srcA C s (z + 1) m y) fun vs =>
          ob (s.mem.app C.lo (z + 1) (b + 1) ⟨A, n, c⟩ vs m) fun r => K (.v (.slice r.1.a r.1.n r.1.c)) { s with mem := r.2 }
      | _, _, _ => none
    | _, _, _, _ => none
  | _ => none
def copyA (C : Ctx) (tys : List TypeId) (s : St) (x y : Option EV) (K : EV → St → Option R) : Option R :=
  match tys with
  | [t, u] => match C.P.underlying t, C.P.underlying u, x, lenE y with
    | some (.slice e), some (.slice _), some (.v (.slice A n _)), some m => match tsize C.P e with
      | some (z + 1) => ob (srcA C s (z + 1) (Nat.min m n) y) fun vs =>
          pb (Nat.min m n = 0) (K (.v (.int .i64 0)) s) <|
          ob A fun a => ob (s.mem.st C.lo a vs) fun M => K (.v (.int .i64 (Nat.min m n : Nat))) { s with mem := M }
      | _ => none
    | _, _, _, _ => none
  | _ => none
def zerosL (zs : List Value) (n : Nat) : List Value := (List.replicate n zs).flatten
def clearA (C : Ctx) (tys : List TypeId) (s : St) (x : Option EV) (K : EV → St → Option R) : Option R :=
  match tys with
  | [t] => match C.P.underlying t, x with
    | some (.slice e), some (.v (.slice A n _)) => match zeroL C.P e with
      | some [] => none
      | some (z0 :: zs) => pb (n = 0) (K (.v (.tuple #[])) s) <|
          ob A fun a => ob (s.mem.st C.lo a (zerosL (z0 :: zs) n)) fun M => K (.v (.tuple #[])) { s with mem := M }
      | none => none
    | _, _ => none
  | _ => none
def lenA (C : Ctx) (tys : List TypeId) (x : Option EV) (K : Value → Option R) : Option R :=
  match tys with
  | [t] => match C.P.underlying t, x with
    | some (.slice _), some (.v (.slice _ n _)) => K (.int .i64 n)
    | some (.array n _), some _ => K (.int .i64 n)
    | some .string, some (.v (.string b)) => K (.int .i64 b.size)
    | _, _ => none
  | _ => none
def maxI (x y : Int) : Int := if y > x then y else x
def minI (x y : Int) : Int := if y < x then y else x
def maxL (k : IntKind) : Int → List Value → (Value → Option R) → Option R
  | x, [], K => K (.int k x)
  | x, .int k' y :: r, K => pb (k' = k) (maxL k (maxI x y) r K) none
  | _, _, _ => none
def minL (k : IntKind) : Int → List Value → (Value → Option R) → Option R
  | x, [], K => K (.int k x)
  | x, .int k' y :: r, K => pb (k' = k) (minL k (minI x y) r K) none
  | _, _, _ => none
def builtinA (C : Ctx) (b : Builtin) (tys : List TypeId) (args : List Operand) (s : St) (K : EV → St → Option R) : Option R :=
  match b with
  | .len => match args with
    | [x] => lenA C tys (opnd s x) fun v => K (.v v) s
    | _ => none
  | .max => match vals s args with
    | some (.int k x :: r) => maxL k x r fun v => K (.v v) s
    | _ => none
  | .min => match vals s args with
    | some (.int k x :: r) => minL k x r fun v => K (.v v) s
    | _ => none
  | .append => match args with
    | [x, y] => appendA C tys s (opnd s x) (opnd s y) K
    | _ => none
  | .copy => match args with
    | [x, y] => copyA C tys s (opnd s x) (opnd s y) K
    | _ => none
  | .clear => match args with
    | [x] => clearA C tys s (opnd s x) K
    | _ => none
  | _ => none
def resTys (P : Program) (t : TypeId) : List TypeId :=
  match P.underlying t with
  | some (.tuple ts) => ts.toList
  | _ => [t]
def callLo (C : Ctx) (x : Operand) (s : St) : Nat := match x with
  | .func f => match isIn C.ann.priv (2000000000 + f) with
    | true => s.mem.length
    | false => C.lo
  | _ => C.lo
def callA (C : Ctx) (l : Nat) (t : TypeId) (f : FuncId) (args : List Value) (s : St) (K : EV → St → Option R) : Option R :=
  ob (C.call l f args s.mem) fun r => getRes C.P (resTys C.P t) r.1 fun v => K (.v v) { s with mem := r.2 }
def sameOpnd : Operand → Operand → Bool
  | .tmp t, .tmp u => Nat.beq t u
  | .const (.int k a), .const (.int k' b) => decide (k = k') && a == b
  | _, _ => false
def isZero : Operand → Bool
  | .const (.int .i64 n) => n == 0
  | _ => false
def makeA (C : Ctx) (t : TypeId) (l c : Operand) (s : St) (K : EV → St → Option R) : Option R :=
  match C.P.underlying t, val s c with
  | some (.slice e), some (.int .i64 n) => match zeroL C.P e, tbytes C.P e, tsize C.P e with
    | some zs, some (b + 1), some (z + 1) =>
      pb (0 ≤ n ∧ room n.toNat (b + 1))
        (match sameOpnd l c, isZero l with
        | true, _ => match C.slot with
          | none => K (.v (.slice (some ⟨s.mem.length, 0, none⟩) n.toNat n.toNat)) { s with mem := s.mem ++ [⟨.fx, zerosL zs n.toNat⟩] }
          | some i => ob (s.mem.fill C.lo i (z + 1) (zerosL zs n.toNat)) fun q => K (.v (.slice (some q.1) n.toNat n.toNat)) { s with mem := q.2 }
        | _, true => match C.slot with
          | none => K (.v (.slice (some ⟨s.mem.length, 0, some 0⟩) 0 0)) { s with mem := s.mem ++ [⟨.op (z + 1), []⟩] }
          | some _ => none
        | _, _ => none)
        none
    | _, _, _ => none
  | _, _ => none
def strAt (b : ByteArray) (i : Nat) : Int := ((b.data.toList.getD i 0).toNat : Int)
def aop (C : Ctx) (o : Oper) (s : St) (K : EV → St → Option R) : Option R :=
  match o.op with
  | .move x | .assign x => match opnd s x with
    | some e => K e s
    | none => none
  | .pick c x y => match val s c with
    | some (.bool b) => pickE b (opnd s x) (opnd s y) fun e => K e s
    | _ => none
  | .alloc t => match zeroL C.P t with
    | some cs => allocA C o.dst cs s K
    | none => none
  | .box _ x => match val s x with
    | some v => match allOne (cellsL v) with
      | true => allocA C o.dst (cellsL v) s K
      | false => none
    | none => none
  | .build t ps => match C.P.underlying t, zeroL C.P t, partsA s ps.toList with
    | some (.struct fs), some z, some l => match fieldPlaces C.P fs.toList with
      | some pl => match fillL (fun i => pl[i]?) z l with
        | some cs => K (.v (.agg ⟨cs⟩)) s
        | none => none
      | none => none
    | some (.array _ e), some z, some l => match tsize C.P e with
      | some n => match fillL (fun i => some (i * n, n)) z l with
        | some cs => K (.v (.agg ⟨cs⟩)) s
        | none => none
      | none => none
    | _, _, _ => none
  | .buildSlice t len ps => match C.P.underlying t, partsA s ps.toList with
    | some (.slice e), some l => match zeroL C.P e, tsize C.P e with
      | some z, some (n + 1) => match Nat.ble (len * (n + 1)) 16777216, fillL (fun i => some (i * (n + 1), n + 1)) (zerosL z len) l with
        | true, some cs => match allOne cs, o.dst with
          | true, some t => match isIn C.ann.priv t with
            | true => match lk s.loc t, noRef t s.env with
              | none, true => K (.s t len) { s with loc := (t, cs) :: s.loc }
              | _, _ => none
            | false => match C.slot with
              | none => K (.v (.slice (some ⟨s.mem.length, 0, none⟩) len len)) { s with mem := s.mem ++ [⟨.fx, cs⟩] }
              | some i => match Nat.beq cs.length (len * (n + 1)) with
                | true => ob (s.mem.fill C.lo i (n + 1) cs) fun q => K (.v (.slice (some q.1) len len)) { s with mem := q.2 }
                | false => none
          | _, _ => none
        | _, _ => none
      | _, _ => none
    | _, _ => none
  | .load t x => loadA C t (opnd s x) s K
  | .store t x y => match val s y with
    | some v => storeA C t (opnd s x) v s K
    | none => none
  | .nilCheck x => match val s x with
    | some (.pointer (some a)) => K (.v (.pointer (some a))) s
    | _ => none
  | .binOp op t x y _ => match val s x, val s y with
    | some a, some b => binOpA C.P op t a b fun v => K (.v v) s
    | _, _ => none
  | .unOp op _ x => match val s x with
    | some a => unOpA op a fun v => K (.v v) s
    | none => none
  | .convert t u x => match val s x with
    | some a => convA C.P t u a fun v => K (.v v) s
    | none => none
  | .makeFunc fn first captured => match vals s first.toList, vals s captured.toList with
    | some l, some r => K (.v (.func fn ⟨l⟩ ⟨r⟩)) s
    | _, _ => none
  | .makeSlice t l c => makeA C t l c s K
  | .slice t x l h m => sliceA C t (opnd s x) (bound? s l) (bound? s h) (bound? s m) fun e => K e s
  | .fieldAddr t x i => match C.P.underlying t with
    | some (.struct fs) => match fs.toList[i]? with
      | some f => match tsize C.P f.type with
        | some (_ + 1) => match opnd s x with
          | some (.l b off) => K (.l b (off + f.offset)) s
          | some (.v (.pointer (some a))) => K (.v (.pointer (some (plus a f.offset)))) s
          | _ => none
        | _ => none
      | none => none
    | _ => none
  | .field t x i => match C.P.underlying t, val s x with
    | some (.struct fs), some (.agg cs) => match fs.toList[i]? with
      | some f => getT C.P f.type (fun j => cs.toList[f.offset + j]?) fun v => K (.v v) s
      | none => none
    | _, _ => none
  | .indexAddr t x i => match val s i with
    | some (.int _ i) => indexAddrA C t (opnd s x) i fun e => K e s
    | _ => none
  | .index t x i => match C.P.underlying t, val s x, val s i with
    | some (.array n e), some (.agg cs), some (.int _ i) => match tsize C.P e with
      | some z => pb (0 ≤ i ∧ i < (n : Int)) (getT C.P e (fun j => cs.toList[mulN i.toNat z + j]?) fun v => K (.v v) s) none
      | none => none
    | some .string, some (.string b), some (.int _ i) => pb (0 ≤ i ∧ i < (b.size : Int)) (K (.v (.int .u8 (strAt b i.toNat))) s) none
    | _, _, _ => none
  | .extract x i => match val s x with
    | some (.tuple vs) => match vs.toList[i]? with
      | some v => K (.v v) s
      | none => none
    | _ => none
  | .call c => match c.callee with
    | .builtin b => builtinA C b c.argTypes.toList c.args.toList s K
    | .value f => match val s f, vals s c.args.toList with
      | some v, some args => ob v.fun? fun q => callA C (callLo C f s) o.type q.1 (q.2.1 ++ args ++ q.2.2) s K
      | _, _ => none
    | .invoke _ _ => none
  | _ => none
def putE (C : Ctx) (dst : Option Tmp) (e : EV) (s : St) (K : St → Option R) : Option R :=
  match dst with
  | none => K s
  | some t => match Nat.blt t C.nt with
    | true => K { s with env := (t, e) :: s.env }
    | false => none
def guardTmp (ops : Array Oper) (g : Nat) : Option Tmp := (ops[g]?).bind (·.dst)
def oneOp (C : Ctx) (ops : Array Oper) (o : Oper) (s : St) (K : St → Option R) : Option R :=
  match o.guard with
  | none => aop C o s fun e s' => putE C o.dst e s' K
  | some (g, want) => match guardTmp ops g with
    | some t => match lk s.env t with
      | some (.v (.bool b)) => match want with
        | true => bb b (aop C o { s with env := (t, .v (.bool true)) :: s.env } fun e s' => putE C o.dst e s' K) (putE C o.dst .u { s with env := (t, .v (.bool false)) :: s.env } K)
        | false => bb b (putE C o.dst .u { s with env := (t, .v (.bool true)) :: s.env } K) (aop C o { s with env := (t, .v (.bool false)) :: s.env } fun e s' => putE C o.dst e s' K)
      | some .u => putE C o.dst .u s K
      | _ => none
    | none => none
def runOps (C : Ctx) (ops : Array Oper) : List Oper → St → (St → Option R) → Option R
  | [], s, K => K s
  | o :: r, s, K => oneOp C ops o s fun s' => runOps C ops r s' K
inductive Cls where
  | pure   -- its operands alone
  | new    -- a private box
  | ld
  | eff    -- calls, new blocks
  | wr     -- writes
  deriving DecidableEq
def clsOp (ann : Ann) (o : Oper) : Cls :=
  match o.op with
  | .alloc _ | .box _ _ | .buildSlice _ _ _ => match o.dst with
    | some t => match isIn ann.priv t with | true => .new | false => .eff
    | none => .wr
  | .makeSlice _ _ _ => .eff
  | .call c => match c.callee with
    | .builtin .len | .builtin .max | .builtin .min => .pure
    | .builtin _ => .wr
    | _ => .eff
  | .load _ _ => .ld
  | .store _ _ _ => .wr
  | _ => .pure
def clsClash : Cls → Cls → Bool
  | .ld, .wr | .wr, .ld | .wr, .wr | .wr, .eff | .eff, .wr | .eff, .eff => true
  | _, _ => false
def meets : List Nat → List Nat → Bool
  | [], _ => false
  | x :: r, l => match isIn l x with | true => true | false => meets r l
def dstL (o : Oper) : List Nat := match o.dst with | some d => [d] | none => []
def pstBox (ann : Ann) (o : Oper) : Option Nat :=
  match o.op with
  | .store _ (.tmp b) _ => match isIn ann.priv b with | true => some b | false => none
  | _ => none
def exPair (ann : Ann) (x y : Oper) : Bool :=
  match clsOp ann x, clsOp ann y with
  | .wr, .ld => (pstBox ann x).isSome
  | .ld, .wr => (pstBox ann y).isSome
  | _, _ => false
def isNewOp (ann : Ann) (o : Oper) : Bool :=
  match clsOp ann o with
  | .eff => match o.op with
    | .alloc _ | .box _ _ | .buildSlice _ _ _ | .makeSlice _ _ _ => true
    | _ => false
  | _ => false
def clash (ann : Ann) (ops : Array Oper) (x y : Oper) : Bool :=
  (clsClash (clsOp ann x) (clsOp ann y) && !exPair ann x y && !(isNewOp ann x && isNewOp ann y)) || meets (dstL x) (dstL y) || meets (dstL x) (y.looksAt ops) || meets (dstL y) (x.looksAt ops)
def maskOf (acc : List Nat) : List Edge → Nat → Nat
  | [], s => s
  | e :: r, s => match Region.binds .any e with
    | true => maskOf acc r (s ||| 2 ^ e.on ||| acc.getD e.on 0)
    | false => maskOf acc r s
def befL : List Oper → List Nat → List Nat
  | [], acc => acc
  | o :: r, acc => befL r (acc ++ [maskOf acc o.after.toList 0])
def okPairs (ann : Ann) (ops : Array Oper) (y : Oper) (m : Nat) : List Oper → Nat → Bool
  | [], _ => true
  | x :: r, i => match clash ann ops x y && !m.testBit i with | true => false | false => okPairs ann ops y m r (i + 1)
def okAll (ann : Ann) (ops : Array Oper) : List Oper → List Oper → List Nat → Bool
  | _, [], _ => true
  | done, y :: r, m :: ms => match okPairs ann ops y m done 0 with | true => okAll ann ops (done ++ [y]) r ms | false => false
  | _, _ :: _, [] => false
def looseLd (ann : Ann) (m : Nat) (ms : List Nat) (j : Nat) : List Oper → Nat → Bool
  | [], _ => false
  | x :: r, i => match decide (clsOp ann x = .eff) && !(match Nat.blt i j with | true => m.testBit i | false => (ms.getD i 0).testBit j) with | true => true | false => looseLd ann m ms j r (i + 1)
def looseEf (ann : Ann) (m : Nat) (ms : List Nat) (j : Nat) : List Oper → Nat → Bool
  | [], _ => false
  | x :: r, i => match decide (clsOp ann x = .ld) && !(match Nat.blt i j with | true => m.testBit i | false => (ms.getD i 0).testBit j) with | true => true | false => looseEf ann m ms j r (i + 1)
def loJ (C : Ctx) (L : Nat) (all : List Oper) (ms : List Nat) (j : Nat) (o : Oper) : Nat := match decide (clsOp C.ann o = .eff) && looseEf C.ann (ms.getD j 0) ms j all 0 with | true => L | false => C.lo
def sideBx (ann : Ann) (m : Nat) (ms : List Nat) (j : Nat) : List Oper → Nat → List Nat
  | [], _ => []
  | x :: r, i => match pstBox ann x with
    | some b => match (match Nat.blt i j with | true => m.testBit i | false => (ms.getD i 0).testBit j) with
      | true => sideBx ann m ms j r (i + 1)
      | false => b :: sideBx ann m ms j r (i + 1)
    | none => sideBx ann m ms j r (i + 1)
def boxNot (B : List Nat) : Option EV → Bool
  | some (.l b _) => !isIn B b
  | some (.s b _) => !isIn B b
  | _ => true
def boxIs (b : Nat) : Option EV → Bool
  | some (.l c _) => Nat.beq c b
  | some (.v _) => false
  | some (.s _ _) => false
  | _ => true
def noBox : Option EV → Bool
  | some (.l _ _) => false
  | some (.s _ _) => false
  | _ => true
def chk (ann : Ann) (ms : List Nat) (all : List Oper) (j : Nat) (o : Oper) (s : St) : Bool :=
  match o.op with
  | .load _ x => boxNot (sideBx ann (ms.getD j 0) ms j all 0) (opnd s x)
  | .store _ x y => match pstBox ann o with
    | some b => boxIs b (opnd s x) && noBox (opnd s y)
    | none => true
  | _ => true
def looseNew (ann : Ann) (m : Nat) (ms : List Nat) (j : Nat) : List Oper → Nat → Bool
  | [], _ => false
  | x :: r, i => match isNewOp ann x && !Nat.beq i j && !(match Nat.blt i j with | true => m.testBit i | false => (ms.getD i 0).testBit j) with | true => true | false => looseNew ann m ms j r (i + 1)
def newsL (ann : Ann) (all : List Oper) (ms : List Nat) : List Oper → Nat → List Nat
  | [], _ => []
  | o :: r, j => match isNewOp ann o && looseNew ann (ms.getD j 0) ms j all 0 with | true => j :: newsL ann all ms r (j + 1) | false => newsL ann all ms r (j + 1)
def slotOf : List Nat → Nat → Nat → Option Nat
  | [], _, _ => none
  | k :: r, b, j => match Nat.beq k j with | true => some b | false => slotOf r (b + 1) j
def freeL : List Nat → List Blk
  | [] => []
  | _ :: r => ⟨.op 0, []⟩ :: freeL r
def withFree (s : St) (N : List Nat) : St :=
  match N with
  | [] => s
  | k :: r => { s with mem := s.mem ++ freeL (k :: r) }
def runD (C : Ctx) (ops : Array Oper) (all : List Oper) (ms : List Nat) (L R0 : Nat) (N : List Nat) (b0 : Nat) : List Oper → Nat → St → (St → Option R) → Option R
  | [], _, s, K => K s
  | o :: r, j, s, K =>
    match chk C.ann ms all j o s with
    | true => oneOp { C with lo := loJ C L all ms j o, top := match decide (clsOp C.ann o = .ld) && looseLd C.ann (ms.getD j 0) ms j all 0 with | true => some R0 | false => none, slot := slotOf N b0 j } ops o s
      fun s' => runD C ops all ms L R0 N b0 r (j + 1) s' K
    | false => none
def anyLoose (ann : Ann) (all : List Oper) (ms : List Nat) : List Oper → Nat → Bool
  | [], _ => false
  | o :: r, j => match decide (clsOp ann o = .ld) && looseLd ann (ms.getD j 0) ms j all 0 with | true => true | false => anyLoose ann all ms r (j + 1)
def isBoxT (s : St) (acc : List Nat) (b : Nat) : Bool :=
  match isIn acc b with
  | true => true
  | false => match lk s.env b with
    | some (.l _ _) => true
    | _ => false
def privT (s : St) : List Oper → List Nat → List Nat
  | [], acc => acc
  | o :: r, acc => match o.op, o.dst with
    | .fieldAddr _ (.tmp b) _, some d => match isBoxT s acc b with | true => privT s r (d :: acc) | false => privT s r acc
    | _, _ => privT s r acc
def farLd (s : St) (acc : List Nat) (o : Oper) : Bool :=
  match o.op with
  | .load _ (.tmp b) => match isBoxT s acc b with | true => false | false => true
  | _ => true
def anyFar (ann : Ann) (s : St) (acc : List Nat) (all : List Oper) (ms : List Nat) : List Oper → Nat → Bool
  | [], _ => false
  | o :: r, j => match decide (clsOp ann o = .ld) && looseLd ann (ms.getD j 0) ms j all 0 && farLd s acc o with | true => true | false => anyFar ann s acc all ms r (j + 1)
def nearM (ann : Ann) (s : St) (ops : Array Oper) : Bool :=
  match isIn ann.priv 1000000001, isIn ann.priv 1000000000 with
  | true, _ => true
  | false, false => false
  | false, true => match anyFar ann s (privT s ops.toList []) ops.toList (befL ops.toList []) ops.toList 0 with | true => false | false => true
def edgesBack (i : Nat) : List Edge → Bool
  | [] => true
  | e :: r => match Region.binds .any e, Nat.blt e.on i with
    | true, false => false
    | _, _ => edgesBack i r
def edgesOk : List Oper → Nat → Bool
  | [], _ => true
  | o :: r, i => match edgesBack i o.after.toList with | true => edgesOk r (i + 1) | false => false
def regA (C : Ctx) (ops : Array Oper) (draw : Bool) (s : St) (K : St → Option R) : Option R :=
  match draw with
  | false => runOps C ops ops.toList s K
  | true =>
    match okAll C.ann ops [] ops.toList (befL ops.toList []), edgesOk ops.toList 0 with
    | true, true => match anyLoose C.ann ops.toList (befL ops.toList []) ops.toList 0 with
      | false => runD C ops ops.toList (befL ops.toList []) C.lo s.mem.length (newsL C.ann ops.toList (befL ops.toList []) ops.toList 0) s.mem.length ops.toList 0 (withFree s (newsL C.ann ops.toList (befL ops.toList []) ops.toList 0)) K
      | true => match nearM C.ann s ops with
        | true => match isIn C.ann.priv 1000000001 with
          | true => runD C ops ops.toList (befL ops.toList []) C.lo C.lo (newsL C.ann ops.toList (befL ops.toList []) ops.toList 0) s.mem.length ops.toList 0 (withFree s (newsL C.ann ops.toList (befL ops.toList []) ops.toList 0)) K
          | false => runD C ops ops.toList (befL ops.toList []) C.lo 0 (newsL C.ann ops.toList (befL ops.toList []) ops.toList 0) s.mem.length ops.toList 0 (withFree s (newsL C.ann ops.toList (befL ops.toList []) ops.toList 0)) K
        | false => runD C ops ops.toList (befL ops.toList []) s.mem.length s.mem.length (newsL C.ann ops.toList (befL ops.toList []) ops.toList 0) s.mem.length ops.toList 0 (withFree s (newsL C.ann ops.toList (befL ops.toList []) ops.toList 0)) K
    | _, _ => none
end
inductive Out where
  | ret (v : Value) (M : Mem)
  | cut (p : Nat) (vs : List EV) (ls : List (List Value)) (M : Mem)
def filtV {α : Type} (l : List (Nat × α)) : List Nat → Option (List α)
  | [] => some []
  | t :: r => match lk l t, filtV l r with
    | some x, some xs => some (x :: xs)
    | _, _ => none
noncomputable def cutTo (C : Ctx) (p : Nat) (s : St) : Option Out :=
  match lk C.ann.cut p with
  | some (live, locs) => match filtV s.env live, filtV s.loc locs with
    | some vs, some ls => some (.cut p vs ls s.mem)
    | _, _ => none
  | none => none
noncomputable def atCut (C : Ctx) (p : Nat) (s : St) (F : St → Option Out) : Option Out :=
  match lk C.ann.cut p with
  | some _ => cutTo C p s
  | none => F s
abbrev Kt := Ex → St → Option Out
noncomputable def seqK (F : St → Option Out) (K : Kt) : Kt := fun e s =>
  match e with
  | .nrm => F s
  | .ext id => K (.ext id) s
  | .ret => K .ret s
noncomputable def blockK (id : Nat) (K : Kt) : Kt := fun e s =>
  match e with
  | .nrm => K .nrm s
  | .ext i => match Nat.beq i id with
    | true => K .nrm s
    | false => K (.ext i) s
  | .ret => K .ret s
noncomputable def exec (C : Ctx) (c : Code) : Nat → St → Kt → Option Out :=
  Code.rec (motive := fun _ => Nat → St → Kt → Option Out)
    (fun _ s K => K .nrm s)
    (fun _ ops draw _ s K => regA C ops draw s fun s' => K .nrm s')
    (fun _ _ iha ihb p s K => atCut C (2 * p) s fun s => iha (2 * p) s (seqK (fun s => atCut C (2 * p + 1) s fun s => ihb (2 * p + 1) s K) K))
    (fun c _ _ iha ihb p s K => match val s c with
      | some (.bool b) => bb b (atCut C (2 * p) s fun s => iha (2 * p) s K) (atCut C (2 * p + 1) s fun s => ihb (2 * p + 1) s K)
      | _ => none)
    (fun id _ iha p s K => atCut C (2 * p) s fun s => iha (2 * p) s (blockK id K))
    (fun _ _ p s _ => cutTo C (2 * p) s)
    (fun _ _ _ _ _ _ _ _ _ => none)
    (fun id _ s K => K (.ext id) s)
    (fun _ iha p s K => atCut C (2 * p) s fun s => iha (2 * p) s K)
    (fun _ _ s K => K .nrm s)
    (fun _ _ _ _ => none)
    (fun _ s K => K .ret s)
    (fun _ _ _ _ => none)
    c
def sub : List Bool → Code → Code
  | [], c => c
  | d :: r, .seq a b => match d with | false => sub r a | true => sub r b
  | d :: r, .cond _ a b => match d with | false => sub r a | true => sub r b
  | false :: r, .block _ a => sub r a
  | false :: r, .loop a => sub r a
  | false :: r, .scope a => sub r a
  | _, _ => .refuse "no such place"
noncomputable def kont (C : Ctx) : List Bool → Code → Nat → Kt → Kt
  | [], _, _, K => K
  | d :: r, .seq a b, p, K => match d with
    | false => kont C r a (2 * p) (seqK (fun s => atCut C (2 * p + 1) s fun s => exec C b (2 * p + 1) s K) K)
    | true => kont C r b (2 * p + 1) K
  | d :: r, .cond _ a b, p, K => match d with
    | false => kont C r a (2 * p) K
    | true => kont C r b (2 * p + 1) K
  | false :: r, .block id a, p, K => kont C r a (2 * p) (blockK id K)
  | false :: r, .loop a, p, K => kont C r a (2 * p) (seqK (fun s => cutTo C (2 * p) s) K)
  | false :: r, .scope a, p, K => kont C r a (2 * p) K
  | _, _, _, _ => fun _ _ => none
def pathOf : Nat → Nat → List Bool → List Bool
  | 0, _, acc => acc
  | f + 1, p, acc => match Nat.ble p 1 with
    | true => acc
    | false => pathOf f (p / 2) ((Nat.beq (p % 2) 1) :: acc)
def posOf : Nat → List Bool → Nat
  | p, [] => p
  | p, false :: r => posOf (2 * p) r
  | p, true :: r => posOf (2 * p + 1) r
noncomputable def resL (C : Ctx) (s : St) : List ResultVar → (List Value → Option Out) → Option Out
  | [], K => K []
  | .tmp t :: r, K => match lk s.env t with
    | some (.v v) => resL C s r fun l => K (v :: l)
    | _ => none
  | .cell t ty :: r, K => loadA C ty (lk s.env t) s fun e _ => match e with
    | .v v => resL C s r fun l => K (v :: l)
    | _ => none
noncomputable def retK (C : Ctx) (fn : Func) : Kt := fun e s =>
  match e with
  | .ext _ => none
  | _ => resL C s fn.results.toList fun l => match l with
    | [v] => some (.ret v s.mem)
    | l => some (.ret (.tuple ⟨l⟩) s.mem)
def zipL {α : Type} : List Nat → List α → List (Nat × α)
  | t :: r, x :: xs => (t, x) :: zipL r xs
  | _, _ => []
def argEnv : Nat → List Value → List (Nat × EV)
  | _, [] => []
  | i, v :: r => (i, .v v) :: argEnv (i + 1) r
noncomputable def pieceOf (C : Ctx) (fn : Func) (c : Code) (p : Nat) (vs : List EV) (ls : List (List Value)) (M : Mem) : Option Out :=
  match lk C.ann.cut p with
  | some (live, locs) => match Nat.beq live.length vs.length, Nat.beq locs.length ls.length with
    | true, true => match Nat.beq (posOf 1 (pathOf 2000 p [])) p with
      | true => exec C (sub (pathOf 2000 p []) c) p ⟨zipL live vs, zipL locs ls, M⟩ (kont C (pathOf 2000 p []) c 1 (retK C fn))
      | false => none
    | _, _ => none
  | none => none
noncomputable def entryOf (C : Ctx) (fn : Func) (c : Code) (args : List Value) (M : Mem) : Option Out :=
  match Nat.ble args.length fn.ntmps with
  | true => exec C c 1 ⟨argEnv 0 args, [], M⟩ (retK C fn)
  | false => none
noncomputable def go (piece : Nat → List EV → List (List Value) → Mem → Option Out) : Nat → Out → Option (Value × Mem)
  | _, .ret v M => some (v, M)
  | 0, .cut _ _ _ _ => none
  | n + 1, .cut p vs ls M => (piece p vs ls M).bind (go piece n)
abbrev Tab := Nat → Option Ann
def mkC (P : Program) (call : Nat → FuncId → List Value → Mem → Option (Value × Mem)) (ann : Ann) (lo nt : Nat) : Ctx :=
  { P, call, ann, lo, nt, top := none, slot := none }
noncomputable def acall (P : Program) (T : Tab) : Nat → Nat → FuncId → List Value → Mem → Option (Value × Mem)
  | 0, _, _, _, _ => none
  | k + 1, lo, f, args, M =>
    match P.funcs[f]?, T f with
    | some fn, some ann => match fn.body with
      | some c => (entryOf (mkC P (acall P T k) ann lo fn.ntmps) fn c args M).bind (go (pieceOf (mkC P (acall P T k) ann lo fn.ntmps) fn c) k)
      | none => none
    | _, _ => none
noncomputable def piece (P : Program) (T : Tab) (k lo : Nat) (f : FuncId) (p : Nat) (vs : List EV) (ls : List (List Value)) (M : Mem) : Option Out :=
  match P.funcs[f]?, T f with
  | some fn, some ann => match fn.body with
    | some c => pieceOf (mkC P (acall P T k) ann lo fn.ntmps) fn c p vs ls M
    | none => none
  | _, _ => none
noncomputable def entry (P : Program) (T : Tab) (k lo : Nat) (f : FuncId) (args : List Value) (M : Mem) : Option Out :=
  match P.funcs[f]?, T f with
  | some fn, some ann => match fn.body with
    | some c => entryOf (mkC P (acall P T k) ann lo fn.ntmps) fn c args M
    | none => none
  | _, _ => none
end Go.Zt
