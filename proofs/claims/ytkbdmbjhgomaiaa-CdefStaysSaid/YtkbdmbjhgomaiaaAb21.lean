/- Two operations that do not clash are swapped. -/
import Derived.Test.YtkbdmbjhgomaiaaAb20
set_option linter.unusedVariables false
set_option linter.unusedSimpArgs false
namespace Go.Zt
section
variable {C Cx Cy : Ctx} {s s' s1 s2 : St} {e : EV} {o x y : Oper} {b : Nat} {ops : Array Oper}

theorem OpRef.noRef (h : OpRef b o s) : noRef b s.env = false := by
  obtain ⟨x, hx, ev, h1, h2⟩ := h
  cases x with
  | tmp t => exact lk_eref h1 h2
  | const v =>
    simp only [opnd] at h1
    split at h1
    · injection h1 with h1; subst h1; cases h2
    · cases h1
  | global g => cases h1
  | func f => injection h1 with h1; subst h1; cases h2

theorem OpRef.same (hs : SameO o s s2) : OpRef b o s2 ↔ OpRef b o s := by
  constructor
  · rintro ⟨x, hx, ev, h1, h2⟩; exact ⟨x, hx, ev, by rw [← hs x hx]; exact h1, h2⟩
  · rintro ⟨x, hx, ev, h1, h2⟩; exact ⟨x, hx, ev, by rw [hs x hx]; exact h1, h2⟩

theorem still_or (c : Cls) : Still c ∨ (c = .eff ∨ c = .wr) := by
  cases c
  · exact .inl (.inl rfl)
  · exact .inl (.inr (.inl rfl))
  · exact .inl (.inr (.inr rfl))
  · exact .inr (.inl rfl)
  · exact .inr (.inr rfl)

/-- A store into a private box: what it comes to. -/
theorem pst_ref {j b : Nat} {ms : List Nat} {all : List Oper} (hp : pstBox C.ann o = some b) (hk : chk C.ann ms all j o s = true) {b' : Nat} (h : OpRef b' o s) : b' = b := by
  obtain ⟨dst, op, type, pos, after, guard⟩ := o
  cases op <;> try (cases hp; done)
  rename_i t x y
  simp only [chk, hp, Bool.and_eq_true] at hk
  obtain ⟨k1, k2⟩ := hk
  obtain ⟨z, hz, ev, h1, h2⟩ := h
  have hz : z = x ∨ z = y := by simpa [Op.operands] using hz
  rcases hz with rfl | rfl
  · rw [h1] at k1
    cases ev with
    | u => cases h2
    | v v => cases h2
    | l c off => exact (Nat.eq_of_beq_eq_true (show Nat.beq b' c = true from h2)).trans (Nat.eq_of_beq_eq_true k1)
    | s c n => cases k1
  · rw [h1] at k2
    cases ev with
    | u => cases h2
    | v v => cases h2
    | l c off => cases k2
    | s c n => cases k2
theorem pst_run {j b : Nat} {ms : List Nat} {all : List Oper} (hp : pstBox C.ann o = some b) (hk : chk C.ann ms all j o s = true) (h : runP C o s = some s1) : s1.mem = s.mem := by
  unfold runP at h
  obtain ⟨⟨e, s'⟩, hd, hq⟩ := Option.bind_eq_some_iff.1 h
  have hd : aop C o s K0 = some (e, s') := hd
  have e2 : s1.mem = s'.mem := by rcases putD_inv hq with ⟨_, rfl⟩ | ⟨_, _, _, rfl⟩ <;> rfl
  rw [e2]
  obtain ⟨dst, op, type, pos, after, guard⟩ := o
  cases op <;> try (cases hp; done)
  rename_i t x y
  simp only [chk, hp, Bool.and_eq_true] at hk
  obtain ⟨k1, k2⟩ := hk
  simp only [aop] at hd
  split at hd
  · unfold storeA at hd
    split at hd
    · cases hd
    · split at hd
      · split at hd
        · split at hd
          · rw [pb_eq] at hd
            split at hd
            · injection hd with hd; injection hd with _ hd; subst hd; rfl
            · cases hd
          · cases hd
        · rename_i a hx
          rw [hx] at k1
          cases k1
        · cases hd
      · cases hd
  · cases hd
theorem chk_same {j : Nat} {ms : List Nat} {all : List Oper} {ann : Ann} (hs : SameO o s s2) : chk ann ms all j o s2 = chk ann ms all j o s := by
  obtain ⟨dst, op, type, pos, after, guard⟩ := o
  cases op <;> try rfl
  case load t x => simp only [chk]; rw [hs x (by simp [Op.operands])]
  case store t x y =>
    simp only [chk]
    split
    · rw [hs x (by simp [Op.operands]), hs y (by simp [Op.operands])]
    · rfl
theorem chk_eqv {j : Nat} {ms : List Nat} {all : List Oper} {ann : Ann} (he : Eqv s s2) : chk ann ms all j o s2 = chk ann ms all j o s := chk_same fun x _ => opnd_eqv he x
theorem pst_step {j b : Nat} {ms : List Nat} {all : List Oper} (hp : pstBox C.ann o = some b) (hk : chk C.ann ms all j o s = true) (h : stepD C ops o s = some s1) : s1.mem = s.mem := by
  have put : ∀ sg : St, putD C o.dst .u sg = some s1 → s1.mem = sg.mem := fun sg hq => by rcases putD_inv hq with ⟨_, rfl⟩ | ⟨_, _, _, rfl⟩ <;> rfl
  unfold stepD at h
  split at h
  · exact pst_run hp hk h
  · split at h
    · split at h
      · rename_i hb
        split at h
        · have := pst_run (s := _) hp (by rw [chk_eqv (guardEqv hb)]; exact hk) h
          exact this
        · have := put _ h
          exact this
      · have := put _ h
        exact this
      · cases h
    · cases h

structure NoClash (ann : Ann) (ops : Array Oper) (x y : Oper) : Prop where
  cls : clsClash (clsOp ann x) (clsOp ann y) = false ∨ exPair ann x y = true
  dst : ∀ d, x.dst = some d → y.dst ≠ some d
  xy : ∀ d, x.dst = some d → d ∉ y.looksAt ops
  yx : ∀ d, y.dst = some d → d ∉ x.looksAt ops

theorem swap (hc : CallsLow Cx.call) (hc' : CallsLow Cy.call) (hann : Cy.ann = Cx.ann) (hn : NoClash Cx.ann ops x y)
    (hl1 : clsOp Cx.ann x = .eff → clsOp Cx.ann y = .ld → ∃ n, Cy.top = some n ∧ n ≤ Cx.lo ∧ n ≤ s.mem.length) (hl2 : clsOp Cx.ann x = .ld → clsOp Cx.ann y = .eff → ∃ n, Cx.top = some n ∧ n ≤ Cy.lo ∧ n ≤ s.mem.length)
    (hs1 : clsOp Cx.ann x = .wr → clsOp Cx.ann y = .ld → s1.mem = s.mem ∧ ∀ b, OpRef b x s → ¬ OpRef b y s) (hs2 : clsOp Cx.ann x = .ld → clsOp Cx.ann y = .wr → s2.mem = s1.mem ∧ ∀ b, OpRef b y s → ¬ OpRef b x s)
    (h1 : stepD Cx ops x s = some s1) (h2 : stepD Cy ops y s1 = some s2) : ∃ s1' s2', stepD Cy ops y s = some s1' ∧ stepD Cx ops x s1' = some s2' ∧ Eqv s2 s2' := by
  obtain ⟨ex, lx, fx⟩ := framed h1
  obtain ⟨ey, ly, fy⟩ := framed h2
  have nb : (clsOp Cx.ann x = .eff ∨ clsOp Cx.ann x = .wr) → (clsOp Cx.ann y = .eff ∨ clsOp Cx.ann y = .wr) → False := fun a b => by
    rcases hn.cls with c | c
    · rcases a with a | a <;> rcases b with b | b <;> rw [a, b] at c <;> cases c
    · unfold exPair at c
      rcases a with a | a <;> rcases b with b | b <;> rw [a, b] at c <;> cases c
  have hA : Agree ops y s1 s := fun t ht => by
    rw [fx.upd.env t, if_neg]
    intro hd
    exact hn.xy t hd ht
  have nref : ∀ b, noRef b s1.env = true → noRef b s.env = true := fun b hb => by
    rw [fx.upd.ref] at hb
    exact (Bool.and_eq_true_iff.1 hb).1
  have refY : ∀ b, OpRef b y s1 → OpRef b y s := fun b h => (OpRef.same hA.same).2 h
  have hypY : Hyp Cy y s1 s := by
    refine ⟨fun hcy b hb => ?_, fun hcy t ht ha hb => ⟨?_, nref t hb⟩, fun hcy b hb => ?_, fun hcy => ?_⟩
    · rw [fx.loc b]
      cases lx with
      | none => rfl
      | some p =>
        obtain ⟨b', cs⟩ := p
        simp only
        by_cases hbb : b' = b
        · subst hbb
          rcases fx.box _ _ rfl with ⟨_, _, _, h4⟩ | ⟨h5, _, h6⟩
          · rw [(refY _ hb).noRef] at h4; cases h4
          · rw [hann] at hcy
            rcases hcy with h | h
            · exact absurd (refY _ hb) ((hs1 h5 h).2 _ h6)
            · exact absurd (.inr h) (nb (.inr h5))
        · rw [if_neg hbb]
    · have := fx.loc t
      cases lx with
      | none => simp only at this; rw [← this]; exact ha
      | some p =>
        obtain ⟨b', cs⟩ := p
        simp only at this
        by_cases hbb : b' = t
        · rw [if_pos hbb, ha] at this; cases this
        · rw [if_neg hbb] at this; rw [← this]; exact ha
    · rcases still_or (clsOp Cx.ann x) with h | h | h
      · rw [fx.mem h]
      · obtain ⟨n, q1, q2, q3⟩ := hl1 h (by rw [← hann]; exact hcy)
        have := hb n q1
        exact ((step_low hc h1).2 b (by omega) (by omega)).symm
      · rw [hann] at hcy
        rw [(hs1 h hcy).1]
    · rcases still_or (clsOp Cx.ann x) with h | h | h
      · exact (fx.mem h).symm
      · rw [hann] at hcy; exact (nb (.inl h) hcy).elim
      · rw [hann] at hcy; exact (nb (.inr h) hcy).elim
  obtain ⟨s1', g1, gU, gL, g4, g5⟩ := fy.move s hA hypY
  have hA' : Agree ops x s s1' := fun t ht => by
    rw [gU.env t, if_neg]
    intro hd
    exact hn.yx t hd ht
  rw [hann] at g4 g5
  have hypX : Hyp Cx x s s1' := by
    refine ⟨fun hcx b hb => ?_, fun hcx t ht ha hb => ⟨?_, ?_⟩, fun hcx b hb => ?_, fun hcx => ?_⟩
    · rw [gL b]
      cases ly with
      | none => rfl
      | some p =>
        obtain ⟨b', cs⟩ := p
        simp only
        by_cases hbb : b' = b
        · subst hbb
          rcases fy.box _ _ rfl with ⟨_, _, _, h4⟩ | ⟨h5, _, h6⟩
          · exact absurd (nref _ h4) (by rw [hb.noRef]; simp)
          · rw [hann] at h5
            rcases hcx with h | h
            · exact absurd hb ((hs2 h h5).2 _ (refY _ h6))
            · exact (nb (.inr h) (.inr h5)).elim
        · rw [if_neg hbb]
    · rw [gL t]
      cases ly with
      | none => exact ha
      | some p =>
        obtain ⟨b', cs⟩ := p
        simp only
        by_cases hbb : b' = t
        · subst hbb
          rcases fy.box _ _ rfl with ⟨_, h2, _, _⟩ | ⟨_, _, h6⟩
          · exact absurd h2 (hn.dst _ ht)
          · rw [(refY _ h6).noRef] at hb; cases hb
        · rw [if_neg hbb]; exact ha
    · rw [gU.ref, hb]
      cases hr : eref t ey with
      | false => simp
      | true =>
        rcases fy.refs t hr with ⟨_, h2⟩ | h6
        · exact absurd h2 (hn.dst _ ht)
        · rw [(refY _ h6).noRef] at hb; cases hb
    · rcases still_or (clsOp Cx.ann y) with h | h | h
      · rw [g5 h]
      · obtain ⟨n, q1, q2, q3⟩ := hl2 hcx h
        have := hb n q1
        exact (step_low hc' g1).2 b (by omega) (by omega)
      · rw [g4 (.inr h), (hs2 hcx h).1, fx.mem (by rw [hcx]; exact .inr (.inr rfl))]
    · rcases still_or (clsOp Cx.ann y) with h | h | h
      · exact g5 h
      · exact (nb hcx (.inl h)).elim
      · exact (nb hcx (.inr h)).elim
  obtain ⟨s2', k1, kU, kL, k4, k5⟩ := fx.move s1' hA' hypX
  refine ⟨s1', s2', g1, k1, fun t => ?_, fun t => ?_, fun t => ?_, ?_⟩
  · rw [fy.upd.env, fx.upd.env, kU.env, gU.env]
    by_cases a1 : y.dst = some t
    · by_cases a2 : x.dst = some t
      · exact absurd a1 (hn.dst t a2)
      · rw [if_pos a1, if_neg a2, if_pos a1]
    · by_cases a2 : x.dst = some t
      · rw [if_neg a1, if_pos a2, if_pos a2]
      · rw [if_neg a1, if_neg a2, if_neg a2, if_neg a1]
  · rw [fy.upd.ref, fx.upd.ref, kU.ref, gU.ref, Bool.and_assoc, Bool.and_assoc]
    congr 1
    exact Bool.and_comm _ _
  · rw [fy.loc t, fx.loc t, kL t, gL t]
    cases hlx : lx with
    | none => cases ly <;> rfl
    | some p =>
      cases hly : ly with
      | none => rfl
      | some q =>
        obtain ⟨b1, c1⟩ := p
        obtain ⟨b2, c2⟩ := q
        have hne : b1 ≠ b2 := by
          rintro rfl
          rcases fx.box _ _ hlx with ⟨_, p2, _, p4⟩ | ⟨p5, _, p7⟩
          · rcases fy.box _ _ hly with ⟨_, q2, _, _⟩ | ⟨_, _, q7⟩
            · exact hn.dst _ p2 q2
            · rw [(refY _ q7).noRef] at p4; cases p4
          · rcases fy.box _ _ hly with ⟨_, _, _, q4⟩ | ⟨q5, _, _⟩
            · have := nref _ q4
              rw [p7.noRef] at this; cases this
            · rw [hann] at q5; exact (nb (.inr p5) (.inr q5)).elim
        simp only
        by_cases a1 : b1 = t
        · by_cases a2 : b2 = t
          · exact absurd (a1.trans a2.symm) hne
          · rw [if_neg a2, if_pos a1, if_pos a1]
        · by_cases a2 : b2 = t
          · rw [if_pos a2, if_neg a1, if_pos a2]
          · rw [if_neg a2, if_neg a1, if_neg a1, if_neg a2]
  · have fym := fy.mem
    rw [hann] at fym
    rcases still_or (clsOp Cx.ann x) with h | h
    · rcases still_or (clsOp Cx.ann y) with h' | h'
      · rw [fym h', fx.mem h, k5 h, g5 h']
      · rw [k5 h, g4 h']
    · rcases still_or (clsOp Cx.ann y) with h' | h'
      · rw [fym h', k4 h]
      · exact (nb h h').elim
end
end Go.Zt
