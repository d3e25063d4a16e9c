/- What the law PoolNames needs of the text Ab22. -/
import Derived.Test.YtjmahpemdghncaaPAb21
set_option linter.unusedVariables false
set_option linter.unusedSimpArgs false
namespace Go.Zt
section
variable {C : Ctx} {B lo : Nat} {w0 : World} {m0 : Mp} {M0 : Mem} {m : Mp} {ml : Nat → Nat} {s s' s1 s2 : St} {w : World} {a : Act} {ops : Array Oper}
def ctxJ (C : Ctx) (ops : Array Oper) (L R0 : Nat) (N : List Nat) (b0 j : Nat) (o : Oper) : Ctx :=
  { C with lo := loJ C L ops.toList (befL ops.toList []) j o, top := match decide (clsOp C.ann o = .ld) && looseLd C.ann ((befL ops.toList []).getD j 0) (befL ops.toList []) j ops.toList 0 with | true => some R0 | false => none, slot := slotOf N b0 j }
theorem loJ_eff {L R0 j b0 : Nat} {N : List Nat} {o : Oper} (h : clsOp C.ann o = .eff) (hl : looseEf C.ann ((befL ops.toList []).getD j 0) (befL ops.toList []) j ops.toList 0 = true) : (ctxJ C ops L R0 N b0 j o).lo = L := by
  show loJ C L ops.toList (befL ops.toList []) j o = L
  unfold loJ
  rw [decide_eq_true h, hl]
  rfl
theorem loJ_ge {L R0 j b0 : Nat} {N : List Nat} {o : Oper} (h : C.lo ≤ L) : C.lo ≤ (ctxJ C ops L R0 N b0 j o).lo ∧ (ctxJ C ops L R0 N b0 j o).lo ≤ L := by
  show C.lo ≤ loJ C L ops.toList (befL ops.toList []) j o ∧ loJ C L ops.toList (befL ops.toList []) j o ≤ L
  unfold loJ
  split
  · exact ⟨h, Nat.le_refl _⟩
  · exact ⟨Nat.le_refl _, h⟩
noncomputable def stepJ (C : Ctx) (ops : Array Oper) (L R0 : Nat) (N : List Nat) (b0 j : Nat) (s : St) : Option St :=
  match ops[j]? with
  | some o => match chk C.ann (befL ops.toList []) ops.toList j o s with
    | true => stepD (ctxJ C ops L R0 N b0 j o) ops o s
    | false => none
  | none => none
theorem stepJ_of {L R0 j b0 : Nat} {N : List Nat} {s s1 : St} {o : Oper} (ho : ops[j]? = some o) (h : stepJ C ops L R0 N b0 j s = some s1) : chk C.ann (befL ops.toList []) ops.toList j o s = true ∧ stepD (ctxJ C ops L R0 N b0 j o) ops o s = some s1 := by
  unfold stepJ at h
  rw [ho] at h
  simp only at h
  split at h
  · rename_i hk; exact ⟨hk, h⟩
  · cases h
theorem stepJ_mk {L R0 j b0 : Nat} {N : List Nat} {s s1 : St} {o : Oper} (ho : ops[j]? = some o) (hk : chk C.ann (befL ops.toList []) ops.toList j o s = true) (h : stepD (ctxJ C ops L R0 N b0 j o) ops o s = some s1) : stepJ C ops L R0 N b0 j s = some s1 := by
  unfold stepJ
  rw [ho]
  simp only [hk]
  exact h
theorem stepJ_op {L R0 j b0 : Nat} {N : List Nat} {s s1 : St} (h : stepJ C ops L R0 N b0 j s = some s1) : ∃ o, ops[j]? = some o := by
  unfold stepJ at h
  split at h
  · rename_i o ho; exact ⟨o, ho⟩
  · cases h
noncomputable def runJ (C : Ctx) (ops : Array Oper) (L R0 : Nat) (N : List Nat) (b0 : Nat) : List Nat → St → Option St
  | [], s => some s
  | j :: r, s => (stepJ C ops L R0 N b0 j s).bind (runJ C ops L R0 N b0 r)
theorem runD_runJ {L R0 b0 : Nat} {N : List Nat} {R : Type} {K : St → Option R} {r : R} : ∀ (l : List Oper) (k : Nat) {s : St}, (∀ j, l[j]? = ops[k + j]?) → runD C ops ops.toList (befL ops.toList []) L R0 N b0 l k s K = some r →
    ∃ s', runJ C ops L R0 N b0 (List.range' k l.length) s = some s' ∧ K s' = some r
  | [], k, s, _, h => ⟨s, rfl, h⟩
  | o :: l, k, s, hl, h => by
    simp only [runD] at h
    split at h
    · rename_i hk
      rw [oneOp_eq] at h
      obtain ⟨s1, h1, h⟩ := Option.bind_eq_some_iff.1 h
      obtain ⟨s', h2, h3⟩ := runD_runJ l (k + 1) (fun j => by rw [show k + 1 + j = k + (j + 1) by omega, ← hl (j + 1)]; rfl) h
      refine ⟨s', ?_, h3⟩
      have ho : ops[k]? = some o := by have := hl 0; simpa using this.symm
      rw [List.length_cons, List.range'_succ, runJ]
      have : stepJ C ops L R0 N b0 k s = some s1 := stepJ_mk ho hk h1
      rw [this, Option.bind_some]
      exact h2
    · cases h
theorem runJ_eqv {L R0 b0 : Nat} {N : List Nat} : ∀ (l : List Nat) {s s' s2 : St}, runJ C ops L R0 N b0 l s = some s' → Eqv s s2 → ∃ s3, runJ C ops L R0 N b0 l s2 = some s3 ∧ Eqv s' s3
  | [], s, s', s2, h, he => by injection h with h; subst h; exact ⟨s2, rfl, he⟩
  | j :: r, s, s', s2, h, he => by
    simp only [runJ] at h
    obtain ⟨s1, h1, h⟩ := Option.bind_eq_some_iff.1 h
    obtain ⟨o, ho⟩ := stepJ_op h1
    obtain ⟨hk, h1⟩ := stepJ_of ho h1
    obtain ⟨s3, g1, g2⟩ := step_eqv h1 he
    obtain ⟨s4, k1, k2⟩ := runJ_eqv r h g2
    refine ⟨s4, ?_, k2⟩
    have : stepJ C ops L R0 N b0 j s2 = some s3 := stepJ_mk ho (by rw [chk_eqv he]; exact hk) g1
    simp only [runJ, this, Option.bind_some]
    exact k1
theorem stepJ_low (hc : CallsLow C.call) {L R0 j b0 : Nat} {N : List Nat} (h : stepJ C ops L R0 N b0 j s = some s1) : s.mem.length ≤ s1.mem.length := by
  obtain ⟨o, ho⟩ := stepJ_op h
  exact (step_low (by exact hc) (stepJ_of ho h).2).1
def PairOk (C : Ctx) (ops : Array Oper) (L R0 : Nat) (N : List Nat) (b0 j i : Nat) : Prop := ∀ x y, ops[j]? = some x → ops[i]? = some y → NoClash C.ann ops x y ∧
  (clsOp C.ann x = .eff → clsOp C.ann y = .ld → (ctxJ C ops L R0 N b0 i y).top = some R0 ∧ R0 ≤ (ctxJ C ops L R0 N b0 j x).lo) ∧ (clsOp C.ann x = .ld → clsOp C.ann y = .eff → (ctxJ C ops L R0 N b0 j x).top = some R0 ∧ R0 ≤ (ctxJ C ops L R0 N b0 i y).lo) ∧
  (clsOp C.ann x = .wr → clsOp C.ann y = .ld → ∃ b, pstBox C.ann x = some b ∧ isIn (sideBx C.ann ((befL ops.toList []).getD i 0) (befL ops.toList []) i ops.toList 0) b = true) ∧
  (isNewOp C.ann x = true → isNewOp C.ann y = true → ∃ a b, slotOf N b0 j = some a ∧ slotOf N b0 i = some b ∧ a ≠ b) ∧
  (clsOp C.ann x = .ld → clsOp C.ann y = .wr → ∃ b, pstBox C.ann y = some b ∧ isIn (sideBx C.ann ((befL ops.toList []).getD j 0) (befL ops.toList []) j ops.toList 0) b = true)
theorem ld_apart {ann : Ann} {o : Oper} {ms : List Nat} {all : List Oper} {j b : Nat} {s : St} (hc : clsOp ann o = .ld) (hk : chk ann ms all j o s = true) (hb : isIn (sideBx ann (ms.getD j 0) ms j all 0) b = true) : ¬ OpRef b o s := by
  rintro ⟨z, hz, ev, h1, h2⟩
  obtain ⟨dst, op, type, pos, after, guard⟩ := o
  cases op <;> first | (cases hc; done) | skip
  case alloc t => simp only [clsOp] at hc; split at hc <;> (try split at hc) <;> cases hc
  case box t x => simp only [clsOp] at hc; split at hc <;> (try split at hc) <;> cases hc
  case buildSlice t n ps => simp only [clsOp] at hc; split at hc <;> (try split at hc) <;> cases hc
  case call c =>
    obtain ⟨callee, xs, ats⟩ := c
    cases callee with
    | invoke r n => cases hc
    | builtin bi => cases bi <;> cases hc
    | value f => cases hc
  case load t x =>
    have hz : z = x := by simpa [Op.operands] using hz
    subst hz
    simp only [chk, h1] at hk
    cases ev with
    | u => cases h2
    | v v => cases h2
    | l c off =>
      have := Nat.eq_of_beq_eq_true (show Nat.beq b c = true from h2)
      subst this
      simp only [boxNot, hb] at hk
      cases hk
    | s c n =>
      have := Nat.eq_of_beq_eq_true (show Nat.beq b c = true from h2)
      subst this
      simp only [boxNot, hb] at hk
      cases hk
theorem moveFront (hc : CallsLow C.call) {L R0 i b0 : Nat} {N : List Nat} {rest : List Nat} : ∀ (pre : List Nat) {s s' : St}, (∀ j ∈ pre, PairOk C ops L R0 N b0 j i) → R0 ≤ s.mem.length → runJ C ops L R0 N b0 (pre ++ i :: rest) s = some s' →
    ∃ s1 s2, stepJ C ops L R0 N b0 i s = some s1 ∧ runJ C ops L R0 N b0 (pre ++ rest) s1 = some s2 ∧ Eqv s' s2
  | [], s, s', _, _, h => by
    obtain ⟨s1, h1, h⟩ := Option.bind_eq_some_iff.1 (show (stepJ C ops L R0 N b0 i s).bind (runJ C ops L R0 N b0 rest) = some s' from h)
    exact ⟨s1, s', h1, h, Eqv.refl _⟩
  | p :: pre, s, s', hp, hR, h => by
    obtain ⟨sp, h1, h⟩ := Option.bind_eq_some_iff.1 (show (stepJ C ops L R0 N b0 p s).bind (runJ C ops L R0 N b0 (pre ++ i :: rest)) = some s' from h)
    obtain ⟨t1, s2, h2, h3, h4⟩ := moveFront hc pre (fun j hj => hp j (by simp [hj])) (Nat.le_trans hR (stepJ_low hc h1)) h
    have hpo := hp p (by simp)
    obtain ⟨x, hx⟩ := stepJ_op h1
    obtain ⟨y, hy⟩ := stepJ_op h2
    obtain ⟨kx, h1⟩ := stepJ_of hx h1
    obtain ⟨ky, h2⟩ := stepJ_of hy h2
    obtain ⟨n1, n2, n3, n4, n6, n5⟩ := hpo x y hx hy
    have hAy : Agree ops y s sp := fun t ht => by
      obtain ⟨ex, lx, fx⟩ := framed h1
      rw [fx.upd.env t, if_neg]
      intro hd
      exact n1.xy t hd ht
    have ky' : chk C.ann (befL ops.toList []) ops.toList i y s = true := by rw [← chk_same hAy.same]; exact ky
    have key : ∃ s1' s2', stepD (ctxJ C ops L R0 N b0 i y) ops y s = some s1' ∧ stepD (ctxJ C ops L R0 N b0 p x) ops x s1' = some s2' ∧ Eqv t1 s2' := by
      by_cases hnn : isNewOp C.ann x = true ∧ isNewOp C.ann y = true
      · obtain ⟨a, b, q1, q2, q3⟩ := n6 hnn.1 hnn.2
        exact swapN (Cx := ctxJ C ops L R0 N b0 p x) (Cy := ctxJ C ops L R0 N b0 i y) q3 rfl n1 hnn.1 hnn.2 q1 q2 h1 h2
      · exact swap (Cx := ctxJ C ops L R0 N b0 p x) (Cy := ctxJ C ops L R0 N b0 i y) hc hc rfl n1 hnn (fun e1 e2 => ⟨R0, (n2 e1 e2).1, (n2 e1 e2).2, hR⟩) (fun e1 e2 => ⟨R0, (n3 e1 e2).1, (n3 e1 e2).2, hR⟩)
            (fun e1 e2 => by
              obtain ⟨b, q1, q2⟩ := n4 e1 e2
              exact ⟨pst_step (C := ctxJ C ops L R0 N b0 p x) q1 kx h1, fun b' h => by
                have := pst_ref (C := ctxJ C ops L R0 N b0 p x) q1 kx h
                subst this
                exact ld_apart e2 ky' q2⟩)
            (fun e1 e2 => by
              obtain ⟨b, q1, q2⟩ := n5 e1 e2
              exact ⟨pst_step (C := ctxJ C ops L R0 N b0 i y) q1 ky h2, fun b' h => by
                have := pst_ref (C := ctxJ C ops L R0 N b0 i y) q1 ky' h
                subst this
                exact ld_apart e1 kx q2⟩) h1 h2
    obtain ⟨u1, u2, g1, g2, g3⟩ := key
    obtain ⟨s3, k1, k2⟩ := runJ_eqv _ h3 g3
    have hAx : Agree ops x s u1 := fun t ht => by
      obtain ⟨ey, ly, fy⟩ := framed g1
      rw [fy.upd.env t, if_neg]
      intro hd
      exact n1.yx t hd ht
    refine ⟨u1, s3, stepJ_mk hy ky' g1, ?_, h4.trans k2⟩
    have : stepJ C ops L R0 N b0 p u1 = some u2 := stepJ_mk hx (by rw [chk_same hAx.same]; exact kx) g2
    show (stepJ C ops L R0 N b0 p u1).bind (runJ C ops L R0 N b0 (pre ++ rest)) = some s3
    rw [this]; exact k1
end
end Go.Zt
