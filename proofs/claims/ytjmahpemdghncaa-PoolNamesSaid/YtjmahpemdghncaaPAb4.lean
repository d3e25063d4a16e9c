/- What the law PoolNames needs of the text Ab4. -/
import Derived.Test.YtjmahpemdghncaaPAb3
set_option linter.unusedVariables false
set_option linter.unusedSimpArgs false
namespace Go.Zt
section
variable {R S : Type}
theorem ob_nat {α : Type} (o : Option α) (f : α → Option R) (L : R → Option S) : (ob o f).bind L = ob o fun x => (f x).bind L := by cases o <;> rfl
theorem bb_nat (b : Bool) (A B : Option R) (L : R → Option S) : (bb b A B).bind L = bb b (A.bind L) (B.bind L) := by cases b <;> rfl
theorem pb_nat (c : Prop) [d : Decidable c] (A B : Option R) (L : R → Option S) : (pb c A B).bind L = pb c (A.bind L) (B.bind L) := by cases d <;> rfl
theorem ck_nat (c : CK) (o : Option Value) (K : Value → Option R) (L : R → Option S) : (ck c o K).bind L = ck c o fun v => (K v).bind L := by
  cases c <;> simp only [ck, ob_nat]
theorem getC_nat (g : Nat → Option Value) (l : List CK) : ∀ (i : Nat) (K : List Value → Option R) (L : R → Option S), (getC g l i K).bind L = getC g l i fun v => (K v).bind L := by
  induction l with
  | nil => intro i K L; rfl
  | cons c l ih => intro i K L; simp only [getC, ck_nat, ih]
theorem getT_nat (P : Program) (t : TypeId) (g : Nat → Option Value) (K : Value → Option R) (L : R → Option S) : (getT P t g K).bind L = getT P t g fun v => (K v).bind L := by
  unfold getT
  repeat' split
  all_goals first | rfl | simp only [getC_nat, ck_nat]
theorem getR_nat (P : Program) (t : TypeId) (o : Option Value) (K : Value → Option R) (L : R → Option S) : (getR P t o K).bind L = getR P t o fun v => (K v).bind L := by
  unfold getR
  repeat' split
  all_goals first | rfl | simp only [getC_nat, ck_nat, ob_nat]
theorem getRs_nat (P : Program) (vs : List Value) (ts : List TypeId) : ∀ (i : Nat) (K : List Value → Option R) (L : R → Option S), (getRs P vs ts i K).bind L = getRs P vs ts i fun v => (K v).bind L := by
  induction ts with
  | nil => intro i K L; rfl
  | cons c l ih => intro i K L; simp only [getRs, getR_nat, ih]
theorem getRes_nat (P : Program) (ts : List TypeId) (v : Value) (K : Value → Option R) (L : R → Option S) : (getRes P ts v K).bind L = getRes P ts v fun v => (K v).bind L := by
  unfold getRes
  split
  · simp only [getR_nat]
  · simp only [ob_nat, getRs_nat]
theorem binF_nat (op : BinOp) (k : FloatKind) (x y : Nat) (K : Value → Option R) (L : R → Option S) : (binF op k x y K).bind L = binF op k x y fun v => (K v).bind L := by cases op <;> rfl
theorem binI_nat (op : BinOp) (k : IntKind) (x y : Int) (K : Value → Option R) (L : R → Option S) : (binI op k x y K).bind L = binI op k x y fun v => (K v).bind L := by
  cases op <;> simp only [binI, pb_nat, Option.bind_none]
theorem binOpA_nat (P : Program) (op : BinOp) (t : TypeId) (a b : Value) (K : Value → Option R) (L : R → Option S) : (binOpA P op t a b K).bind L = binOpA P op t a b fun v => (K v).bind L := by
  unfold binOpA
  repeat' split
  all_goals first | rfl | simp only [binI_nat, binF_nat, ob_nat, pb_nat, Option.bind_none]
theorem unOpA_nat (op : UnOp) (a : Value) (K : Value → Option R) (L : R → Option S) : (unOpA op a K).bind L = unOpA op a fun v => (K v).bind L := by
  unfold unOpA
  repeat' split
  all_goals rfl
theorem convA_nat (P : Program) (t u : TypeId) (a : Value) (K : Value → Option R) (L : R → Option S) : (convA P t u a K).bind L = convA P t u a fun v => (K v).bind L := by
  unfold convA
  repeat' split
  all_goals rfl
theorem pickE_nat (b : Bool) (x y : Option EV) (K : EV → Option R) (L : R → Option S) : (pickE b x y K).bind L = pickE b x y fun v => (K v).bind L := by
  unfold pickE
  split
  · simp only [pb_nat, Option.bind_none]
  · rfl
  · rw [bb_nat]
    congr 1 <;> (split <;> rfl)
theorem allocA_nat (C : Ctx) (dst : Option Tmp) (cs : List Value) (s : St) (K : EV → St → Option R) (L : R → Option S) : (allocA C dst cs s K).bind L = allocA C dst cs s fun e s => (K e s).bind L := by
  unfold allocA
  repeat' split
  all_goals first | rfl | simp only [ob_nat]
theorem loadA_nat (C : Ctx) (t : TypeId) (e : Option EV) (s : St) (K : EV → St → Option R) (L : R → Option S) : (loadA C t e s K).bind L = loadA C t e s fun e s => (K e s).bind L := by
  unfold loadA
  repeat' split
  all_goals first | rfl | simp only [getT_nat]
theorem storeA_nat (C : Ctx) (t : TypeId) (e : Option EV) (x : Value) (s : St) (K : EV → St → Option R) (L : R → Option S) : (storeA C t e x s K).bind L = storeA C t e x s fun e s => (K e s).bind L := by
  unfold storeA
  repeat' split
  all_goals first | rfl | simp only [pb_nat, ob_nat, Option.bind_none]
theorem indexAddrA_nat (C : Ctx) (t : TypeId) (x : Option EV) (i : Int) (K : EV → Option R) (L : R → Option S) : (indexAddrA C t x i K).bind L = indexAddrA C t x i fun e => (K e).bind L := by
  unfold indexAddrA
  repeat' split
  all_goals first | rfl | simp only [pb_nat, ob_nat, Option.bind_none]
theorem sliceS_nat (z : Nat) (A : Option Addr) (n c : Nat) (l h m : Option Int) (K : Value → Option R) (L : R → Option S) : (sliceS z A n c l h m K).bind L = sliceS z A n c l h m fun e => (K e).bind L := by
  unfold sliceS
  repeat' split
  all_goals first | rfl | simp only [pb_nat, Option.bind_none]
theorem sliceA_nat (C : Ctx) (t : TypeId) (x : Option EV) (l h m : Option (Option Int)) (K : EV → Option R) (L : R → Option S) : (sliceA C t x l h m K).bind L = sliceA C t x l h m fun e => (K e).bind L := by
  unfold sliceA
  repeat' split
  all_goals first | rfl | simp only [sliceS_nat, pb_nat, Option.bind_none]
theorem appendA_nat (C : Ctx) (ts : List TypeId) (s : St) (x y : Option EV) (K : EV → St → Option R) (L : R → Option S) : (appendA C ts s x y K).bind L = appendA C ts s x y fun e s => (K e s).bind L := by
  unfold appendA
  repeat' split
  all_goals first | rfl | simp only [ob_nat]
theorem copyA_nat (C : Ctx) (ts : List TypeId) (s : St) (x y : Option EV) (K : EV → St → Option R) (L : R → Option S) : (copyA C ts s x y K).bind L = copyA C ts s x y fun e s => (K e s).bind L := by
  unfold copyA
  repeat' split
  all_goals first | rfl | simp only [ob_nat, pb_nat]
theorem clearA_nat (C : Ctx) (ts : List TypeId) (s : St) (x : Option EV) (K : EV → St → Option R) (L : R → Option S) : (clearA C ts s x K).bind L = clearA C ts s x fun e s => (K e s).bind L := by
  unfold clearA
  repeat' split
  all_goals first | rfl | simp only [ob_nat, pb_nat]
theorem lenA_nat (C : Ctx) (ts : List TypeId) (x : Option EV) (K : Value → Option R) (L : R → Option S) : (lenA C ts x K).bind L = lenA C ts x fun e => (K e).bind L := by
  unfold lenA
  repeat' split
  all_goals rfl
theorem maxL_nat (k : IntKind) (l : List Value) : ∀ (x : Int) (K : Value → Option R) (L : R → Option S), (maxL k x l K).bind L = maxL k x l fun e => (K e).bind L := by
  induction l with
  | nil => intro x K L; rfl
  | cons v l ih => intro x K L; cases v <;> simp only [maxL, pb_nat, ih, Option.bind_none]
theorem minL_nat (k : IntKind) (l : List Value) : ∀ (x : Int) (K : Value → Option R) (L : R → Option S), (minL k x l K).bind L = minL k x l fun e => (K e).bind L := by
  induction l with
  | nil => intro x K L; rfl
  | cons v l ih => intro x K L; cases v <;> simp only [minL, pb_nat, ih, Option.bind_none]
theorem builtinA_nat (C : Ctx) (b : Builtin) (ts : List TypeId) (args : List Operand) (s : St) (K : EV → St → Option R) (L : R → Option S) : (builtinA C b ts args s K).bind L = builtinA C b ts args s fun e s => (K e s).bind L := by
  unfold builtinA
  repeat' split
  all_goals first | rfl | simp only [lenA_nat, maxL_nat, minL_nat, appendA_nat, copyA_nat, clearA_nat]
theorem callA_nat (C : Ctx) (l : Nat) (t : TypeId) (f : FuncId) (args : List Value) (s : St) (K : EV → St → Option R) (L : R → Option S) : (callA C l t f args s K).bind L = callA C l t f args s fun e s => (K e s).bind L := by
  simp only [callA, ob_nat, getRes_nat]
theorem makeA_nat (C : Ctx) (t : TypeId) (l c : Operand) (s : St) (K : EV → St → Option R) (L : R → Option S) : (makeA C t l c s K).bind L = makeA C t l c s fun e s => (K e s).bind L := by
  unfold makeA
  repeat' split
  all_goals first | rfl | (rw [pb_nat]; congr 1; repeat' split) <;> first | rfl | simp only [ob_nat]
theorem aop_nat (C : Ctx) (o : Oper) (s : St) (K : EV → St → Option R) (L : R → Option S) : (aop C o s K).bind L = aop C o s fun e s => (K e s).bind L := by
  obtain ⟨dst, op, type, pos, after, guard⟩ := o
  cases op <;> simp only [aop] <;> (repeat' split) <;>
    first
      | rfl
      | simp only [pickE_nat, allocA_nat, loadA_nat, storeA_nat, binOpA_nat, unOpA_nat, convA_nat, makeA_nat, sliceA_nat, getT_nat, indexAddrA_nat, builtinA_nat, callA_nat, ob_nat, pb_nat, Option.bind_none]
noncomputable def aopD (C : Ctx) (o : Oper) (s : St) : Option (EV × St) := aop C o s fun e s => some (e, s)
theorem aop_eq (C : Ctx) (o : Oper) (s : St) (K : EV → St → Option R) : aop C o s K = (aopD C o s).bind fun p => K p.1 p.2 := by
  unfold aopD
  rw [aop_nat]
  rfl
end
end Go.Zt
