/- What the law PoolNames needs of the text Ab19. -/
import Derived.Test.YtjmahpemdghncaaPAb18
set_option linter.unusedVariables false
set_option linter.unusedSimpArgs false
namespace Go.Zt
section
variable {C : Ctx} {s s' s2 : St} {e : EV} {o : Oper} {b : Nat}
def OpRef (b : Nat) (o : Oper) (s : St) : Prop := ∃ x ∈ o.op.operands.toList, ∃ ev, opnd s x = some ev ∧ eref b ev = true
theorem vOut {x : Option Value} {s : St} (h : (x.bind fun v => K0 (.v v) s) = some (e, s')) : eref b e = false := by
  obtain ⟨v, _, h⟩ := Option.bind_eq_some_iff.1 h
  injection h with h; injection h with h _; subst h; rfl
theorem getT_refs {P : Program} {t : TypeId} {g : Nat → Option Value} {s : St} (h : (getT P t g fun v => K0 (EV.v v) s) = some (e, s')) : eref b e = false := by
  rcases getT_inv h with ⟨_, ⟨_, _, _, _, _, h⟩ | ⟨_, _, _, _, h⟩⟩ <;> (injection h with h; injection h with h _; subst h; rfl)
theorem index_refs {t : TypeId} {x : Option EV} {i : Int} {s : St} (h : (indexAddrA C t x i fun e => K0 e s) = some (e, s')) (hr : eref b e = true) : ∃ ev, x = some ev ∧ eref b ev = true := by
  unfold indexAddrA at h
  split at h
  · split at h
    · rw [pb_eq] at h
      split at h
      · injection h with h; injection h with h _; subst h; exact ⟨_, rfl, hr⟩
      · cases h
    · cases h
  · split at h
    · rw [pb_eq] at h
      split at h
      · injection h with h; injection h with h _; subst h; cases hr
      · cases h
    · cases h
  · split at h
    · rw [pb_eq] at h
      split at h
      · rw [ob_eq] at h
        obtain ⟨_, _, h⟩ := Option.bind_eq_some_iff.1 h
        injection h with h; injection h with h _; subst h; cases hr
      · cases h
    · cases h
  · cases h
theorem aop_refs (h : aop C o s K0 = some (e, s')) (hr : eref b e = true) : (clsOp C.ann o = .new ∧ o.dst = some b) ∨ OpRef b o s := by
  by_cases hn : clsOp C.ann o = .new
  · obtain ⟨t, cs, h1, _, _, _, h5, _⟩ := new_frame hn h
    rw [h5 b hr]; exact .inl ⟨hn, h1⟩
  by_cases hw : clsOp C.ann o = .wr
  · have := (wr_frame hw h).1 b
    rw [this] at hr; cases hr
  right
  obtain ⟨dst, op, type, pos, after, guard⟩ := o
  have no : eref b e = false → OpRef b ⟨dst, op, type, pos, after, guard⟩ s := fun h => by rw [h] at hr; cases hr
  cases op <;> simp only [aop] at h <;> try (cases h; done)
  case move x =>
    split at h
    · rename_i ev hx
      injection h with h; injection h with h _; subst h
      exact ⟨x, by simp [Op.operands], _, hx, hr⟩
    · cases h
  case assign x =>
    split at h
    · rename_i ev hx
      injection h with h; injection h with h _; subst h
      exact ⟨x, by simp [Op.operands], _, hx, hr⟩
    · cases h
  case pick c x y =>
    split at h
    · unfold pickE at h
      split at h
      · rw [pb_eq] at h
        split at h
        · injection h with h; injection h with h _; subst h; cases hr
        · cases h
      · injection h with h; injection h with h _; subst h; cases hr
      · rw [bb_eq] at h
        split at h
        · split at h
          · rename_i hx
            injection h with h; injection h with h _; subst h
            exact ⟨x, by simp [Op.operands], _, hx, hr⟩
          · cases h
        · split at h
          · rename_i hx
            injection h with h; injection h with h _; subst h
            exact ⟨y, by simp [Op.operands], _, hx, hr⟩
          · cases h
    · cases h
  case alloc t =>
    simp only [clsOp] at hn hw
    split at h
    · unfold allocA at h
      split at h
      · cases h
      · split at h
        · rename_i hp
          simp only [hp] at hn
          exact absurd trivial hn
        · repeat' split at h
          all_goals first
            | (cases h; done)
            | (injection h with h; injection h with h _; subst h; cases hr)
            | (rw [ob_eq] at h; obtain ⟨_, _, h⟩ := Option.bind_eq_some_iff.1 h; injection h with h; injection h with h _; subst h; cases hr)
    · cases h
  case box t x =>
    simp only [clsOp] at hn hw
    split at h
    · split at h
      · unfold allocA at h
        split at h
        · cases h
        · split at h
          · rename_i hp
            simp only [hp] at hn
            exact absurd trivial hn
          · repeat' split at h
            all_goals first
              | (cases h; done)
              | (injection h with h; injection h with h _; subst h; cases hr)
              | (rw [ob_eq] at h; obtain ⟨_, _, h⟩ := Option.bind_eq_some_iff.1 h; injection h with h; injection h with h _; subst h; cases hr)
      · cases h
    · cases h
  case build t ps =>
    repeat' split at h
    all_goals first
      | (cases h; done)
      | (injection h with h; injection h with h _; subst h; cases hr)
  case buildSlice t n ps =>
    cases dst with
    | none => exact absurd rfl hw
    | some t' =>
      cases hp : isIn C.ann.priv t' with
      | true => simp only [clsOp, hp] at hn; exact absurd trivial hn
      | false =>
        repeat' split at h
        all_goals first
          | (cases h; done)
          | (simp_all; done)
          | (injection h with h; injection h with h _; subst h; cases hr)
          | (rw [ob_eq] at h; obtain ⟨_, _, h⟩ := Option.bind_eq_some_iff.1 h; injection h with h; injection h with h _; subst h; cases hr)
  case load t x =>
    obtain ⟨v, h⟩ := loadA_inv h
    injection h with h; injection h with h _; subst h; cases hr
  case store t x y => exact absurd rfl hw
  case nilCheck x =>
    split at h
    · injection h with h; injection h with h _; subst h; cases hr
    · cases h
  case binOp op t x y ae =>
    split at h
    · exact no (vOut ((binOpA_nat (K := some) ..).trans h))
    · cases h
  case unOp op t x =>
    split at h
    · exact no (vOut ((unOpA_nat (K := some) ..).trans h))
    · cases h
  case convert t u x =>
    split at h
    · exact no (vOut ((convA_nat (K := some) ..).trans h))
    · cases h
  case makeFunc fn first captured =>
    split at h
    · injection h with h; injection h with h _; subst h; cases hr
    · cases h
  case makeSlice t l c =>
    unfold makeA at h
    split at h
    · split at h
      · rw [pb_eq] at h
        repeat' split at h
        all_goals first
          | (cases h; done)
          | (injection h with h; injection h with h _; subst h; cases hr)
          | (rw [ob_eq] at h; obtain ⟨_, _, h⟩ := Option.bind_eq_some_iff.1 h; injection h with h; injection h with h _; subst h; cases hr)
      · cases h
    · cases h
  case slice t x l hi mx =>
    unfold sliceA at h
    split at h
    · split at h
      · split at h
        · exact no (vOut ((sliceS_nat (K := some) ..).trans h))
        · cases h
      · split at h
        · rw [pb_eq] at h
          split at h
          · exact no (vOut ((sliceS_nat (K := some) ..).trans h))
          · cases h
        · cases h
      · cases h
    · cases h
  case fieldAddr t x i =>
    split at h
    · split at h
      · split at h
        · split at h
          · rename_i hx
            injection h with h; injection h with h _; subst h
            exact ⟨x, by simp [Op.operands], _, hx, hr⟩
          · injection h with h; injection h with h _; subst h; cases hr
          · cases h
        · cases h
      · cases h
    · cases h
  case field t x i =>
    repeat' split at h
    all_goals first
      | (cases h; done)
      | exact no (getT_refs h)
  case indexAddr t x i =>
    split at h
    · obtain ⟨ev, h1, h2⟩ := index_refs h hr
      exact ⟨x, by simp [Op.operands], ev, h1, h2⟩
    · cases h
  case index t x i =>
    repeat' split at h
    all_goals first
      | (cases h; done)
      | (rw [pb_eq] at h; split at h <;> first | (cases h; done) | first | exact no (getT_refs h) | (injection h with h; injection h with h _; subst h; cases hr))
  case extract x i =>
    repeat' split at h
    all_goals first
      | (cases h; done)
      | (injection h with h; injection h with h _; subst h; cases hr)
  case call c =>
    obtain ⟨callee, xs, ats⟩ := c
    cases callee with
    | invoke r n => cases h
    | value f =>
      simp only at h
      split at h
      · rw [ob_eq] at h
        obtain ⟨q, _, h⟩ := Option.bind_eq_some_iff.1 h
        unfold callA at h
        rw [ob_eq] at h
        obtain ⟨r, hr', h⟩ := Option.bind_eq_some_iff.1 h
        have h := getRes_inv h
        injection h with h; injection h with h _; subst h; cases hr
      · cases h
    | builtin bi =>
      simp only at h
      cases bi <;> first | (exact absurd rfl hw) | skip
      · simp only [builtinA] at h
        split at h
        · exact no (vOut ((lenA_nat (K := some) ..).trans h))
        · cases h
      · simp only [builtinA] at h
        split at h
        · exact no (vOut ((maxL_nat (K := some) ..).trans h))
        · cases h
      · simp only [builtinA] at h
        split at h
        · exact no (vOut ((minL_nat (K := some) ..).trans h))
        · cases h
end
end Go.Zt
