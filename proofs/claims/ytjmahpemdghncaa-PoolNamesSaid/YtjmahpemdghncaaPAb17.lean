/- What the law PoolNames needs of the text Ab17. -/
import Derived.Test.YtjmahpemdghncaaPAb16
set_option linter.unusedVariables false
set_option linter.unusedSimpArgs false
namespace Go.Zt
def Low (lo : Nat) (M M' : Mem) : Prop := M.length ≤ M'.length ∧ ∀ b, b < lo → b < M.length → M'[b]? = M[b]?
theorem Low.refl (lo : Nat) (M : Mem) : Low lo M M := ⟨Nat.le_refl _, fun _ _ _ => rfl⟩
theorem Low.trans {lo : Nat} {M M1 M2 : Mem} (h : Low lo M M1) (k : Low lo M1 M2) : Low lo M M2 := ⟨Nat.le_trans h.1 k.1, fun b h1 h2 => (k.2 b h1 (Nat.lt_of_lt_of_le h2 h.1)).trans (h.2 b h1 h2)⟩
theorem Low.floor {lo lo' : Nat} {M M' : Mem} (h : Low lo' M M') (hl : lo ≤ lo' ∨ M.length ≤ lo') : Low lo M M' := ⟨h.1, fun b h1 h2 => h.2 b (by omega) h2⟩
theorem Low.push (lo : Nat) (M : Mem) (k : Blk) : Low lo M (M ++ [k]) := ⟨by simp, fun b _ h2 => List.getElem?_append_left h2⟩
theorem Low.set {lo : Nat} (M : Mem) {b : Nat} (k : Blk) (h : lo ≤ b) : Low lo M (M.set b k) := ⟨by simp, fun c h1 h2 => List.getElem?_set_ne (by omega)⟩
theorem st_low {lo : Nat} {M M' : Mem} {a : Addr} {vs : List Value} (h : M.st lo a vs = some M') : Low lo M M' := by
  unfold Mem.st at h
  split at h
  · split at h
    · rename_i hc; injection h with h; subst h; exact Low.set _ _ hc.2.1
    · cases h
  · split at h
    · rename_i hc; injection h with h; subst h; exact Low.set _ _ hc.2.1
    · cases h
  · cases h
theorem app_low {lo z b : Nat} {M M' : Mem} {sl sl' : Slc} {vs : List Value} {m : Nat} (h : M.app lo z b sl vs m = some (sl', M')) : Low lo M M' := by
  unfold Mem.app at h
  split at h
  · injection h with h; injection h with _ h; subst h; exact Low.refl _ _
  · split at h
    · split at h
      · split at h
        · injection h with h; injection h with _ h; subst h; exact Low.push _ _ _
        · cases h
      · split at h
        · split at h
          · obtain ⟨old, _, h⟩ := Option.bind_eq_some_iff.1 h
            injection h with h; injection h with _ h; subst h; exact Low.push _ _ _
          · cases h
        · split at h
          · split at h
            · rename_i hc; injection h with h; injection h with _ h; subst h; exact Low.set _ _ hc.2.2.2.2
            · cases h
          · cases h
    · cases h
theorem fill_low {M M' : Mem} {lo i z : Nat} {cs : List Value} {a : Addr} (h : M.fill lo i z cs = some (a, M')) : Low lo M M' := by
  obtain ⟨ds, hk, hlo, hz, hc⟩ := fill_inv h
  rcases hc with ⟨rfl, rfl, rfl⟩ | ⟨hne, rfl, rfl⟩
  · exact Low.refl _ _
  · exact Low.set _ _ hlo
theorem free_low (lo : Nat) (s : St) (N : List Nat) : Low lo s.mem (withFree s N).mem := by
  cases N with
  | nil => exact Low.refl _ _
  | cons k r => exact ⟨by simp [withFree], fun b _ h2 => List.getElem?_append_left h2⟩
def CallsLow (call : Nat → FuncId → List Value → Mem → Option (Value × Mem)) : Prop := ∀ lo f args M r M', call lo f args M = some (r, M') → Low lo M M'
section
variable {C : Ctx} {s s' : St} {e : EV}
theorem getT_same {P : Program} {t : TypeId} {g : Nat → Option Value} {s : St} (h : (getT P t g fun v => some (EV.v v, s)) = some (e, s')) : s' = s := by
  rcases getT_inv h with ⟨_, ⟨_, _, _, _, _, h⟩ | ⟨_, _, _, _, h⟩⟩ <;> (injection h with h; injection h with _ h; exact h.symm)
theorem alloc_low {dst : Option Tmp} {cs : List Value} (h : allocA C dst cs s (fun e s' => some (e, s')) = some (e, s')) : Low C.lo s.mem s'.mem := by
  unfold allocA at h
  split at h
  · cases h
  · split at h
    · split at h
      · injection h with h; injection h with _ h; subst h; exact Low.refl _ _
      · cases h
    · split at h
      · injection h with h; injection h with _ h; subst h; exact Low.push _ _ _
      · split at h
        · cases h
        · rw [ob_eq] at h
          obtain ⟨q, hq, h⟩ := Option.bind_eq_some_iff.1 h
          injection h with h; injection h with _ h; subst h; exact fill_low hq
theorem load_same {t : TypeId} {x : Option EV} (h : loadA C t x s (fun e s' => some (e, s')) = some (e, s')) : s' = s := by
  unfold loadA at h
  split at h
  · split at h
    · exact getT_same h
    · cases h
  · exact getT_same h
  · cases h
theorem store_low {t : TypeId} {x : Option EV} {v : Value} (h : storeA C t x v s (fun e s' => some (e, s')) = some (e, s')) : Low C.lo s.mem s'.mem := by
  unfold storeA at h
  split at h
  · cases h
  · cases h
  · split at h
    · split at h
      · split at h
        · rw [pb_eq] at h
          split at h
          · injection h with h; injection h with _ h; subst h; exact Low.refl _ _
          · cases h
        · cases h
      · rw [ob_eq] at h
        obtain ⟨M, hM, h⟩ := Option.bind_eq_some_iff.1 h
        injection h with h; injection h with _ h; subst h; exact st_low hM
      · cases h
    · cases h
theorem maxL_same {k : IntKind} {l : List Value} : ∀ {x : Int}, (maxL k x l fun v => some (EV.v v, s)) = some (e, s') → s' = s := by
  induction l with
  | nil => intro x h; injection h with h; injection h with _ h; exact h.symm
  | cons v l ih =>
    intro x h
    cases v <;> simp only [maxL] at h <;> first | (cases h; done) | skip
    rw [pb_eq] at h
    split at h
    · exact ih h
    · cases h
theorem minL_same {k : IntKind} {l : List Value} : ∀ {x : Int}, (minL k x l fun v => some (EV.v v, s)) = some (e, s') → s' = s := by
  induction l with
  | nil => intro x h; injection h with h; injection h with _ h; exact h.symm
  | cons v l ih =>
    intro x h
    cases v <;> simp only [minL] at h <;> first | (cases h; done) | skip
    rw [pb_eq] at h
    split at h
    · exact ih h
    · cases h
theorem sliceS_same {z : Nat} {A : Option Addr} {n c : Nat} {l h m : Option Int} {s : St} (hh : (sliceS z A n c l h m fun v => some (EV.v v, s)) = some (e, s')) : s' = s := by
  unfold sliceS at hh
  repeat' split at hh
  all_goals first
    | (cases hh; done)
    | (rw [pb_eq] at hh; split at hh <;> first | (cases hh; done) | (injection hh with hh; injection hh with _ hh; exact hh.symm))
theorem len_same {tys : List TypeId} {x : Option EV} (h : (lenA C tys x fun v => some (EV.v v, s)) = some (e, s')) : s' = s := by
  unfold lenA at h
  repeat' split at h
  all_goals first
    | (cases h; done)
    | (injection h with h; injection h with _ h; exact h.symm)
theorem builtin_low {b : Builtin} {tys : List TypeId} {args : List Operand} (h : builtinA C b tys args s (fun e s' => some (e, s')) = some (e, s')) : Low C.lo s.mem s'.mem := by
  unfold builtinA at h
  split at h
  · split at h
    · rw [len_same h]; exact Low.refl _ _
    · cases h
  · split at h
    · rw [maxL_same h]; exact Low.refl _ _
    · cases h
  · split at h
    · rw [minL_same h]; exact Low.refl _ _
    · cases h
  · split at h
    · unfold appendA at h
      split at h
      · split at h
        · split at h
          · rw [ob_eq] at h
            obtain ⟨vs, _, h⟩ := Option.bind_eq_some_iff.1 h
            rw [ob_eq] at h
            obtain ⟨r, hr, h⟩ := Option.bind_eq_some_iff.1 h
            injection h with h; injection h with _ h; subst h
            exact app_low hr
          · cases h
        · cases h
      · cases h
    · cases h
  · split at h
    · unfold copyA at h
      split at h
      · split at h
        · split at h
          · rw [ob_eq] at h
            obtain ⟨vs, _, h⟩ := Option.bind_eq_some_iff.1 h
            rw [pb_eq] at h
            split at h
            · injection h with h; injection h with _ h; subst h; exact Low.refl _ _
            · rw [ob_eq] at h
              obtain ⟨a, _, h⟩ := Option.bind_eq_some_iff.1 h
              rw [ob_eq] at h
              obtain ⟨M, hM, h⟩ := Option.bind_eq_some_iff.1 h
              injection h with h; injection h with _ h; subst h; exact st_low hM
          · cases h
        · cases h
      · cases h
    · cases h
  · split at h
    · unfold clearA at h
      split at h
      · split at h
        · split at h
          · cases h
          · rw [pb_eq] at h
            split at h
            · injection h with h; injection h with _ h; subst h; exact Low.refl _ _
            · rw [ob_eq] at h
              obtain ⟨a, _, h⟩ := Option.bind_eq_some_iff.1 h
              rw [ob_eq] at h
              obtain ⟨M, hM, h⟩ := Option.bind_eq_some_iff.1 h
              injection h with h; injection h with _ h; subst h; exact st_low hM
          · cases h
        · cases h
      · cases h
    · cases h
  · cases h
theorem pick_same {b : Bool} {x y : Option EV} {s : St} (h : (pickE b x y fun e => some (e, s)) = some (e, s')) : s' = s := by
  unfold pickE at h
  split at h
  · rw [pb_eq] at h
    split at h
    · injection h with h; injection h with _ h; exact h.symm
    · cases h
  · injection h with h; injection h with _ h; exact h.symm
  · rw [bb_eq] at h
    split at h <;> (split at h <;> first | (cases h; done) | (injection h with h; injection h with _ h; exact h.symm))
theorem binF_same {op : BinOp} {k : FloatKind} {x y : Nat} {s : St} (h : (binF op k x y fun v => some (EV.v v, s)) = some (e, s')) : s' = s := by
  cases op <;> simp only [binF] at h <;> first | (cases h; done) | (injection h with h; injection h with _ h; exact h.symm)
theorem binI_same {op : BinOp} {k : IntKind} {x y : Int} {s : St} (h : (binI op k x y fun v => some (EV.v v, s)) = some (e, s')) : s' = s := by
  cases op <;> simp only [binI, pb_eq] at h <;> (try split at h) <;> first | (cases h; done) | (injection h with h; injection h with _ h; exact h.symm)
theorem binOp_same {P : Program} {op : BinOp} {t : TypeId} {a b : Value} {s : St} (h : (binOpA P op t a b fun v => some (EV.v v, s)) = some (e, s')) : s' = s := by
  unfold binOpA at h
  repeat' split at h
  all_goals first
    | (cases h; done)
    | (injection h with h; injection h with _ h; exact h.symm)
    | (rw [pb_eq] at h; split at h <;> first | (cases h; done) | exact binI_same h | exact binF_same h | (injection h with h; injection h with _ h; exact h.symm))
    | (rw [ob_eq] at h; obtain ⟨_, _, h⟩ := Option.bind_eq_some_iff.1 h; rw [ob_eq] at h; obtain ⟨_, _, h⟩ := Option.bind_eq_some_iff.1 h; injection h with h; injection h with _ h; exact h.symm)
theorem unOp_same {op : UnOp} {a : Value} {s : St} (h : (unOpA op a fun v => some (EV.v v, s)) = some (e, s')) : s' = s := by
  unfold unOpA at h
  repeat' split at h
  all_goals first
    | (cases h; done)
    | (injection h with h; injection h with _ h; exact h.symm)
theorem conv_same {P : Program} {t u : TypeId} {a : Value} {s : St} (h : (convA P t u a fun v => some (EV.v v, s)) = some (e, s')) : s' = s := by
  unfold convA at h
  repeat' split at h
  all_goals first
    | (cases h; done)
    | (injection h with h; injection h with _ h; exact h.symm)
theorem slice_same {t : TypeId} {x : Option EV} {l h m : Option (Option Int)} {s : St} (hh : (sliceA C t x l h m fun e => some (e, s)) = some (e, s')) : s' = s := by
  unfold sliceA at hh
  repeat' split at hh
  all_goals first
    | (cases hh; done)
    | exact sliceS_same hh
    | (rw [pb_eq] at hh; split at hh <;> first | exact sliceS_same hh | cases hh)
theorem index_same {t : TypeId} {x : Option EV} {i : Int} {s : St} (h : (indexAddrA C t x i fun e => some (e, s)) = some (e, s')) : s' = s := by
  unfold indexAddrA at h
  repeat' split at h
  all_goals first
    | (cases h; done)
    | (rw [pb_eq] at h; split at h <;> first
        | (cases h; done)
        | (injection h with h; injection h with _ h; exact h.symm)
        | (rw [ob_eq] at h; obtain ⟨_, _, h⟩ := Option.bind_eq_some_iff.1 h; injection h with h; injection h with _ h; exact h.symm))
theorem aop_low (hc : CallsLow C.call) {o : Oper} (h : aopD C o s = some (e, s')) : Low C.lo s.mem s'.mem := by
  obtain ⟨dst, op, type, pos, after, guard⟩ := o
  unfold aopD at h
  have same : s' = s → Low C.lo s.mem s'.mem := fun h => by rw [h]; exact Low.refl _ _
  cases op <;> simp only [aop] at h <;> try (cases h; done)
  case move x =>
    split at h
    · injection h with h; injection h with _ h; exact same h.symm
    · cases h
  case assign x =>
    split at h
    · injection h with h; injection h with _ h; exact same h.symm
    · cases h
  case pick c x y =>
    split at h
    · exact same (pick_same h)
    · cases h
  case alloc t =>
    split at h
    · exact alloc_low h
    · cases h
  case box t x =>
    split at h
    · split at h
      · exact alloc_low h
      · cases h
    · cases h
  case build t ps =>
    repeat' split at h
    all_goals first
      | (cases h; done)
      | (injection h with h; injection h with _ h; exact same h.symm)
  case buildSlice t len ps =>
    repeat' split at h
    all_goals first
      | (cases h; done)
      | (injection h with h; injection h with _ h; subst h; first | exact Low.refl _ _ | exact Low.push _ _ _)
      | (rw [ob_eq] at h; obtain ⟨q, hq, h⟩ := Option.bind_eq_some_iff.1 h; injection h with h; injection h with _ h; subst h; exact fill_low hq)
  case load t x => exact same (load_same h)
  case store t x y =>
    split at h
    · exact store_low h
    · cases h
  case nilCheck x =>
    split at h
    · injection h with h; injection h with _ h; exact same h.symm
    · cases h
  case binOp op t x y ae =>
    split at h
    · exact same (binOp_same h)
    · cases h
  case unOp op t x =>
    split at h
    · exact same (unOp_same h)
    · cases h
  case convert t u x =>
    split at h
    · exact same (conv_same h)
    · cases h
  case makeFunc fn first captured =>
    split at h
    · injection h with h; injection h with _ h; exact same h.symm
    · cases h
  case makeSlice t l c =>
    unfold makeA at h
    split at h
    · split at h
      · rw [pb_eq] at h
        split at h
        · split at h
          · split at h
            · injection h with h; injection h with _ h; subst h; exact Low.push _ _ _
            · rw [ob_eq] at h
              obtain ⟨q, hq, h⟩ := Option.bind_eq_some_iff.1 h
              injection h with h; injection h with _ h; subst h; exact fill_low hq
          · split at h
            · injection h with h; injection h with _ h; subst h; exact Low.push _ _ _
            · cases h
          · cases h
        · cases h
      · cases h
    · cases h
  case slice t x l hi mx => exact same (slice_same h)
  case fieldAddr t x i =>
    repeat' split at h
    all_goals first
      | (cases h; done)
      | (injection h with h; injection h with _ h; exact same h.symm)
  case field t x i =>
    repeat' split at h
    all_goals first
      | (cases h; done)
      | exact same (getT_same h)
  case indexAddr t x i =>
    split at h
    · exact same (index_same h)
    · cases h
  case index t x i =>
    repeat' split at h
    all_goals first
      | (cases h; done)
      | (rw [pb_eq] at h; split at h <;> first | (cases h; done) | first | exact same (getT_same h) | (injection h with h; injection h with _ h; exact same h.symm))
  case extract x i =>
    repeat' split at h
    all_goals first
      | (cases h; done)
      | (injection h with h; injection h with _ h; exact same h.symm)
  case call c =>
    split at h
    · exact builtin_low h
    · split at h
      · rw [ob_eq] at h
        obtain ⟨q, _, h⟩ := Option.bind_eq_some_iff.1 h
        unfold callA at h
        rw [ob_eq] at h
        obtain ⟨r, hr, h⟩ := Option.bind_eq_some_iff.1 h
        have h := getRes_inv h
        injection h with h; injection h with _ h; subst h
        have hlow := hc _ _ _ _ _ _ hr
        refine hlow.floor ?_
        unfold callLo
        split
        · split
          · exact .inr (Nat.le_refl _)
          · exact .inl (Nat.le_refl _)
        · exact .inl (Nat.le_refl _)
      · cases h
    · cases h
theorem put_low {dst : Option Tmp} (h : putD C dst e s = some s') : s'.mem = s.mem ∧ s'.loc = s.loc := by
  rcases putD_inv h with ⟨_, rfl⟩ | ⟨t, _, _, rfl⟩ <;> exact ⟨rfl, rfl⟩
theorem step_low (hc : CallsLow C.call) {ops : Array Oper} {o : Oper} (h : stepD C ops o s = some s') : Low C.lo s.mem s'.mem := by
  have key : ∀ s : St, ((aopD C o s).bind fun p => putD C o.dst p.1 p.2) = some s' → Low C.lo s.mem s'.mem := fun s h => by
    obtain ⟨p, hp, h⟩ := Option.bind_eq_some_iff.1 h
    rw [(put_low h).1]
    exact aop_low hc hp
  unfold stepD at h
  repeat' split at h
  all_goals first
    | (cases h; done)
    | (have := key _ h; exact this)
    | (rw [(put_low h).1]; exact Low.refl _ _)
theorem runOps_low (hc : CallsLow C.call) {ops : Array Oper} {R : Type} {K : St → Option R} {r : R} : ∀ {l : List Oper} {s : St}, runOps C ops l s K = some r → ∃ s', Low C.lo s.mem s'.mem ∧ K s' = some r
  | [], s, h => ⟨s, Low.refl _ _, h⟩
  | o :: l, s, h => by
    simp only [runOps] at h
    rw [oneOp_eq] at h
    obtain ⟨s1, h1, h⟩ := Option.bind_eq_some_iff.1 h
    obtain ⟨s', h2, h3⟩ := runOps_low hc h
    exact ⟨s', (step_low hc h1).trans h2, h3⟩
theorem runD_low (hc : CallsLow C.call) {ops : Array Oper} {all : List Oper} {ms : List Nat} {L R0 f b0 : Nat} {N : List Nat} (h1 : f ≤ C.lo) (h2 : f ≤ L) {R : Type} {K : St → Option R} {r : R} : ∀ {l : List Oper} {j : Nat} {s : St}, runD C ops all ms L R0 N b0 l j s K = some r → ∃ s', Low f s.mem s'.mem ∧ K s' = some r
  | [], j, s, h => ⟨s, Low.refl _ _, h⟩
  | o :: l, j, s, h => by
    simp only [runD] at h
    split at h
    · rw [oneOp_eq] at h
      obtain ⟨s1, g1, h⟩ := Option.bind_eq_some_iff.1 h
      obtain ⟨s', g2, g3⟩ := runD_low hc h1 h2 h
      have g1 := step_low (by exact hc) g1
      refine ⟨s', (g1.floor (.inl ?_)).trans g2, g3⟩
      show f ≤ loJ C L all ms j o
      unfold loJ
      split
      · exact h2
      · exact h1
    · cases h
theorem reg_low (hc : CallsLow C.call) {ops : Array Oper} {draw : Bool} {R : Type} {K : St → Option R} {r : R} (h : regA C ops draw s K = some r) : ∃ s', Low C.lo s.mem s'.mem ∧ K s' = some r := by
  unfold regA at h
  split at h
  · exact runOps_low hc h
  · split at h
    · have fin : ∀ L R0 : Nat, min C.lo s.mem.length ≤ L → runD C ops ops.toList (befL ops.toList []) L R0 (newsL C.ann ops.toList (befL ops.toList []) ops.toList 0) s.mem.length ops.toList 0 (withFree s (newsL C.ann ops.toList (befL ops.toList []) ops.toList 0)) K = some r → ∃ s', Low C.lo s.mem s'.mem ∧ K s' = some r := fun L R0 hL h => by
        obtain ⟨s', h1, h2⟩ := runD_low (f := min C.lo s.mem.length) hc (Nat.min_le_left _ _) hL h
        have h0 := free_low (min C.lo s.mem.length) s (newsL C.ann ops.toList (befL ops.toList []) ops.toList 0)
        have h1 := h0.trans h1
        exact ⟨s', ⟨h1.1, fun b hb1 hb2 => h1.2 b (by omega) hb2⟩, h2⟩
      split at h
      · exact fin _ _ (Nat.min_le_left _ _) h
      · split at h
        · split at h
          · exact fin _ _ (Nat.min_le_left _ _) h
          · exact fin _ _ (Nat.min_le_left _ _) h
        · exact fin _ _ (Nat.min_le_right _ _) h
    · cases h
def Out.mem : Out → Mem
  | .ret _ M => M
  | .cut _ _ _ M => M
def KLow (lo : Nat) (K : Kt) : Prop := ∀ e s out, K e s = some out → Low lo s.mem out.mem
theorem cut_low {p : Nat} {out : Out} (h : cutTo C p s = some out) : out.mem = s.mem := by
  unfold cutTo at h
  repeat' split at h
  all_goals first
    | (cases h; done)
    | (injection h with h; subst h; rfl)
theorem atCut_low {p : Nat} {out : Out} {F : St → Option Out} (hF : ∀ s out, F s = some out → Low C.lo s.mem out.mem) (h : atCut C p s F = some out) : Low C.lo s.mem out.mem := by
  unfold atCut at h
  split at h
  · rw [cut_low h]; exact Low.refl _ _
  · exact hF _ _ h
theorem seq_low {lo : Nat} {F : St → Option Out} {K : Kt} (hF : ∀ s out, F s = some out → Low lo s.mem out.mem) (hK : KLow lo K) : KLow lo (seqK F K) := by
  intro e s out h
  cases e with
  | nrm => exact hF _ _ h
  | ext id => exact hK _ _ _ h
  | ret => exact hK _ _ _ h
theorem block_low {lo id : Nat} {K : Kt} (hK : KLow lo K) : KLow lo (blockK id K) := by
  intro e s out h
  cases e with
  | nrm => exact hK _ _ _ h
  | ext i =>
    rw [blockK_ext] at h
    split at h <;> exact hK _ _ _ h
  | ret => exact hK _ _ _ h
theorem exec_low (hc : CallsLow C.call) : ∀ (c : Code) (p : Nat) (s : St) (K : Kt) (out : Out), KLow C.lo K → exec C c p s K = some out → Low C.lo s.mem out.mem := by
  intro c
  induction c with
  | skip => intro p s K out hK h; exact hK _ _ _ h
  | label l => intro p s K out hK h; exact hK _ _ _ h
  | exit id => intro p s K out hK h; exact hK (.ext id) _ _ h
  | ret => intro p s K out hK h; exact hK .ret _ _ h
  | region id ops draw =>
    intro p s K out hK h
    obtain ⟨s', h1, h2⟩ := reg_low hc (show regA C ops draw s (fun s' => K .nrm s') = some out from h)
    exact h1.trans (hK _ _ _ h2)
  | seq x y ihx ihy =>
    intro p s K out hK h
    refine atCut_low (fun s out h => ?_) (show atCut C (2 * p) s (fun s => exec C x (2 * p) s (seqK (fun s => atCut C (2 * p + 1) s fun s => exec C y (2 * p + 1) s K) K)) = some out from h)
    exact ihx _ _ _ _ (seq_low (fun s out h => atCut_low (fun s out h => ihy _ _ _ _ hK h) h) hK) h
  | cond c x y ihx ihy =>
    intro p s K out hK h
    have h : (match val s c with
      | some (.bool b) => bb b (atCut C (2 * p) s fun s => exec C x (2 * p) s K) (atCut C (2 * p + 1) s fun s => exec C y (2 * p + 1) s K)
      | _ => none) = some out := h
    split at h
    · rw [bb_eq] at h
      split at h
      · exact atCut_low (fun s out h => ihx _ _ _ _ hK h) h
      · exact atCut_low (fun s out h => ihy _ _ _ _ hK h) h
    · cases h
  | block id x ihx =>
    intro p s K out hK h
    exact atCut_low (fun s out h => ihx _ _ _ _ (block_low hK) h) (show atCut C (2 * p) s (fun s => exec C x (2 * p) s (blockK id K)) = some out from h)
  | scope x ihx =>
    intro p s K out hK h
    exact atCut_low (fun s out h => ihx _ _ _ _ hK h) (show atCut C (2 * p) s (fun s => exec C x (2 * p) s K) = some out from h)
  | loop x ihx =>
    intro p s K out hK h
    rw [cut_low (show cutTo C (2 * p) s = some out from h)]
    exact Low.refl _ _
  | _ => intro p s K out hK h; cases h
theorem kont_low (hc : CallsLow C.call) : ∀ (path : List Bool) (c : Code) (p : Nat) (K : Kt), KLow C.lo K → KLow C.lo (kont C path c p K)
  | [], c, p, K, hK => hK
  | d :: r, c, p, K, hK => by
    have ih := kont_low hc r
    cases c <;> cases d <;> simp only [kont] <;> first
      | (exact fun e s out h => by cases h)
      | exact ih _ _ _ hK
      | exact ih _ _ _ (block_low hK)
      | exact ih _ _ _ (seq_low (fun s out h => atCut_low (fun s out h => exec_low hc _ _ _ _ _ hK h) h) hK)
      | exact ih _ _ _ (seq_low (fun s out h => by rw [cut_low h]; exact Low.refl _ _) hK)
theorem loadA_inv {R : Type} {t : TypeId} {x : Option EV} {K : EV → St → Option R} {r : R} (h : loadA C t x s K = some r) : ∃ v, K (.v v) s = some r := by
  unfold loadA at h
  repeat' split at h
  all_goals first
    | (cases h; done)
    | (rcases getT_inv h with ⟨_, ⟨_, vs, _, _, _, h⟩ | ⟨_, v, _, _, h⟩⟩ <;> exact ⟨_, h⟩)
theorem resL_low {s : St} : ∀ {rs : List ResultVar} {K : List Value → Option Out} {out : Out}, (∀ l out, K l = some out → out.mem = s.mem) → resL C s rs K = some out → out.mem = s.mem
  | [], K, out, hK, h => hK _ _ h
  | .tmp t :: rs, K, out, hK, h => by
    simp only [resL] at h
    split at h
    · exact resL_low (fun l out h => hK _ _ h) h
    · cases h
  | .cell t ty :: rs, K, out, hK', h => by
    simp only [resL] at h
    obtain ⟨v, h⟩ := loadA_inv h
    exact resL_low (fun l out h => hK' _ _ h) h
theorem ret_low {lo : Nat} {fn : Func} : KLow lo (retK C fn) := by
  have key : ∀ s out, (resL C s fn.results.toList fun l => match l with | [v] => some (.ret v s.mem) | l => some (.ret (.tuple ⟨l⟩) s.mem)) = some out → Low lo s.mem out.mem := fun s out h => by
    have := resL_low (fun l out h => by split at h <;> (injection h with h; subst h; rfl)) h
    rw [this]; exact Low.refl _ _
  intro e s out h
  cases e with
  | nrm => exact key s out h
  | ext id => cases h
  | ret => exact key s out h
theorem piece_low (hc : CallsLow C.call) {fn : Func} {c : Code} {p : Nat} {vs : List EV} {ls : List (List Value)} {M : Mem} {out : Out} (h : pieceOf C fn c p vs ls M = some out) : Low C.lo M out.mem := by
  unfold pieceOf at h
  repeat' split at h
  all_goals first
    | (cases h; done)
    | exact exec_low hc _ _ _ _ _ (kont_low hc _ _ _ _ ret_low) h
theorem go_low {lo : Nat} {pc : Nat → List EV → List (List Value) → Mem → Option Out} (hp : ∀ p vs ls M out, pc p vs ls M = some out → Low lo M out.mem) : ∀ {n : Nat} {out : Out} {r : Value} {M : Mem}, go pc n out = some (r, M) → Low lo out.mem M := by
  intro n
  induction n with
  | zero =>
    intro out r M h
    cases out with
    | ret v M' => injection h with h; injection h with _ h; subst h; exact Low.refl _ _
    | cut => cases h
  | succ n ih =>
    intro out r M h
    cases out with
    | ret v M' => injection h with h; injection h with _ h; subst h; exact Low.refl _ _
    | cut p vs ls M' =>
      obtain ⟨out', h1, h2⟩ := Option.bind_eq_some_iff.1 (show (pc p vs ls M').bind (go pc n) = some (r, M) from h)
      exact (hp _ _ _ _ _ h1).trans (ih h2)
theorem acall_low (P : Program) (T : Tab) : ∀ k, CallsLow (acall P T k) := by
  intro k
  induction k with
  | zero => intro lo f args M r M' h; cases h
  | succ k ih =>
    intro lo f args M r M' h
    unfold acall at h
    split at h
    · rename_i fn ann hfn hann
      split at h
      · rename_i c hc
        obtain ⟨out, h1, h2⟩ := Option.bind_eq_some_iff.1 h
        have h3 : Low lo M out.mem := by
          unfold entryOf at h1
          split at h1
          · exact exec_low (C := mkC P (acall P T k) ann lo fn.ntmps) ih _ _ _ _ _ ret_low h1
          · cases h1
        exact h3.trans (go_low (fun p vs ls M out h => piece_low (C := mkC P (acall P T k) ann lo fn.ntmps) ih h) h2)
      · cases h
    · cases h
end
end Go.Zt
