/- Two operations that do not clash are swapped. -/
import Derived.Test.YtkbdmbjhgomaiaaAb20
set_option linter.unusedVariables false
set_option linter.unusedSimpArgs false
namespace Go.Zt
section
variable {C Cx Cy : Ctx} {s s' s1 s2 : St} {e : EV} {o x y : Oper} {b : Nat} {ops : Array Oper}

theorem OpRef.noRef (h : OpRef b o s) : noRef b s.env = false := by
  obtain ⟨x, hx, ev, h1, h2⟩ := h
  cases x with
  | tmp t => exact lk_eref h1 h2
  | const v =>
    simp only [opnd] at h1
    split at h1
    · injection h1 with h1; subst h1; cases h2
    · cases h1
  | global g => cases h1
  | func f => injection h1 with h1; subst h1; cases h2

theorem OpRef.same (hs : SameO o s s2) : OpRef b o s2 ↔ OpRef b o s := by
  constructor
  · rintro ⟨x, hx, ev, h1, h2⟩; exact ⟨x, hx, ev, by rw [← hs x hx]; exact h1, h2⟩
  · rintro ⟨x, hx, ev, h1, h2⟩; exact ⟨x, hx, ev, by rw [hs x hx]; exact h1, h2⟩

theorem still_or (c : Cls) : Still c ∨ (c = .eff ∨ c = .wr) := by
  cases c
  · exact .inl (.inl rfl)
  · exact .inl (.inr (.inl rfl))
  · exact .inl (.inr (.inr rfl))
  · exact .inr (.inl rfl)
  · exact .inr (.inr rfl)

structure NoClash (ann : Ann) (ops : Array Oper) (x y : Oper) : Prop where
  cls : clsClash (clsOp ann x) (clsOp ann y) = false
  dst : ∀ d, x.dst = some d → y.dst ≠ some d
  xy : ∀ d, x.dst = some d → d ∉ y.looksAt ops
  yx : ∀ d, y.dst = some d → d ∉ x.looksAt ops

theorem swap (hc : CallsLow Cx.call) (hc' : CallsLow Cy.call) (hann : Cy.ann = Cx.ann) (hn : NoClash Cx.ann ops x y)
    (hl1 : clsOp Cx.ann x = .eff → clsOp Cx.ann y = .ld → ∃ n, Cy.top = some n ∧ n ≤ Cx.lo ∧ n ≤ s.mem.length) (hl2 : clsOp Cx.ann x = .ld → clsOp Cx.ann y = .eff → ∃ n, Cx.top = some n ∧ n ≤ Cy.lo ∧ n ≤ s.mem.length)
    (h1 : stepD Cx ops x s = some s1) (h2 : stepD Cy ops y s1 = some s2) : ∃ s1' s2', stepD Cy ops y s = some s1' ∧ stepD Cx ops x s1' = some s2' ∧ Eqv s2 s2' := by
  obtain ⟨ex, lx, fx⟩ := framed h1
  obtain ⟨ey, ly, fy⟩ := framed h2
  have cl := hn.cls
  have hA : Agree ops y s1 s := fun t ht => by
    rw [fx.upd.env t, if_neg]
    intro hd
    exact hn.xy t hd ht
  have nref : ∀ b, noRef b s1.env = true → noRef b s.env = true := fun b hb => by
    rw [fx.upd.ref] at hb
    exact (Bool.and_eq_true_iff.1 hb).1
  have refY : ∀ b, OpRef b y s1 → OpRef b y s := fun b h => (OpRef.same hA.same).2 h
  have hypY : Hyp Cy y s1 s := by
    rw [← hann] at cl
    refine ⟨fun hcy b hb => ?_, fun hcy t ht ha hb => ⟨?_, nref t hb⟩, fun hcy b hb => ?_, fun hcy => ?_⟩
    · rw [fx.loc b]
      cases lx with
      | none => rfl
      | some p =>
        obtain ⟨b', cs⟩ := p
        simp only
        by_cases hbb : b' = b
        · subst hbb
          rcases fx.box _ _ rfl with ⟨_, _, _, h4⟩ | ⟨h5, _, _⟩
          · rw [(refY _ hb).noRef] at h4; cases h4
          · rw [← hann] at h5; rw [h5] at cl; rcases hcy with h | h <;> rw [h] at cl <;> cases cl
        · rw [if_neg hbb]
    · have := fx.loc t
      cases lx with
      | none => simp only at this; rw [← this]; exact ha
      | some p =>
        obtain ⟨b', cs⟩ := p
        simp only at this
        by_cases hbb : b' = t
        · rw [if_pos hbb, ha] at this; cases this
        · rw [if_neg hbb] at this; rw [← this]; exact ha
    · rcases still_or (clsOp Cx.ann x) with h | h | h
      · rw [fx.mem h]
      · obtain ⟨n, q1, q2, q3⟩ := hl1 h (by rw [← hann]; exact hcy)
        have := hb n q1
        exact ((step_low hc h1).2 b (by omega) (by omega)).symm
      · rw [hann, h, ← hann, hcy] at cl; cases cl
    · rcases still_or (clsOp Cx.ann x) with h | h | h
      · exact (fx.mem h).symm
      · rw [hann, h, ← hann] at cl; rcases hcy with h' | h' <;> rw [h'] at cl <;> cases cl
      · rw [hann, h, ← hann] at cl; rcases hcy with h' | h' <;> rw [h'] at cl <;> cases cl
  obtain ⟨s1', g1, gU, gL, g4, g5⟩ := fy.move s hA hypY
  have hA' : Agree ops x s s1' := fun t ht => by
    rw [gU.env t, if_neg]
    intro hd
    exact hn.yx t hd ht
  rw [hann] at g4 g5
  have hypX : Hyp Cx x s s1' := by
    refine ⟨fun hcx b hb => ?_, fun hcx t ht ha hb => ⟨?_, ?_⟩, fun hcx b hb => ?_, fun hcx => ?_⟩
    · rw [gL b]
      cases ly with
      | none => rfl
      | some p =>
        obtain ⟨b', cs⟩ := p
        simp only
        by_cases hbb : b' = b
        · subst hbb
          rcases fy.box _ _ rfl with ⟨_, _, _, h4⟩ | ⟨h5, _, _⟩
          · exact absurd (nref _ h4) (by rw [hb.noRef]; simp)
          · rw [hann] at h5; rw [h5] at cl; rcases hcx with h | h <;> rw [h] at cl <;> cases cl
        · rw [if_neg hbb]
    · rw [gL t]
      cases ly with
      | none => exact ha
      | some p =>
        obtain ⟨b', cs⟩ := p
        simp only
        by_cases hbb : b' = t
        · subst hbb
          rcases fy.box _ _ rfl with ⟨_, h2, _, _⟩ | ⟨_, _, h6⟩
          · exact absurd h2 (hn.dst _ ht)
          · rw [(refY _ h6).noRef] at hb; cases hb
        · rw [if_neg hbb]; exact ha
    · rw [gU.ref, hb]
      cases hr : eref t ey with
      | false => simp
      | true =>
        rcases fy.refs t hr with ⟨_, h2⟩ | h6
        · exact absurd h2 (hn.dst _ ht)
        · rw [(refY _ h6).noRef] at hb; cases hb
    · rcases still_or (clsOp Cx.ann y) with h | h | h
      · rw [g5 h]
      · obtain ⟨n, q1, q2, q3⟩ := hl2 hcx h
        have := hb n q1
        exact (step_low hc' g1).2 b (by omega) (by omega)
      · rw [hcx, h] at cl; cases cl
    · rcases still_or (clsOp Cx.ann y) with h | h | h
      · exact g5 h
      · rw [h] at cl; rcases hcx with h' | h' <;> rw [h'] at cl <;> cases cl
      · rw [h] at cl; rcases hcx with h' | h' <;> rw [h'] at cl <;> cases cl
  obtain ⟨s2', k1, kU, kL, k4, k5⟩ := fx.move s1' hA' hypX
  refine ⟨s1', s2', g1, k1, fun t => ?_, fun t => ?_, fun t => ?_, ?_⟩
  · rw [fy.upd.env, fx.upd.env, kU.env, gU.env]
    by_cases a1 : y.dst = some t
    · by_cases a2 : x.dst = some t
      · exact absurd a1 (hn.dst t a2)
      · rw [if_pos a1, if_neg a2, if_pos a1]
    · by_cases a2 : x.dst = some t
      · rw [if_neg a1, if_pos a2, if_pos a2]
      · rw [if_neg a1, if_neg a2, if_neg a2, if_neg a1]
  · rw [fy.upd.ref, fx.upd.ref, kU.ref, gU.ref, Bool.and_assoc, Bool.and_assoc]
    congr 1
    exact Bool.and_comm _ _
  · rw [fy.loc t, fx.loc t, kL t, gL t]
    cases hlx : lx with
    | none => cases ly <;> rfl
    | some p =>
      cases hly : ly with
      | none => rfl
      | some q =>
        obtain ⟨b1, c1⟩ := p
        obtain ⟨b2, c2⟩ := q
        have hne : b1 ≠ b2 := by
          rintro rfl
          rcases fx.box _ _ hlx with ⟨_, p2, _, p4⟩ | ⟨p5, _, p7⟩
          · rcases fy.box _ _ hly with ⟨_, q2, _, _⟩ | ⟨_, _, q7⟩
            · exact hn.dst _ p2 q2
            · rw [(refY _ q7).noRef] at p4; cases p4
          · rcases fy.box _ _ hly with ⟨_, _, _, q4⟩ | ⟨q5, _, _⟩
            · have := nref _ q4
              rw [p7.noRef] at this; cases this
            · rw [hann] at q5; rw [p5, q5] at cl; cases cl
        simp only
        by_cases a1 : b1 = t
        · by_cases a2 : b2 = t
          · exact absurd (a1.trans a2.symm) hne
          · rw [if_neg a2, if_pos a1, if_pos a1]
        · by_cases a2 : b2 = t
          · rw [if_pos a2, if_neg a1, if_pos a2]
          · rw [if_neg a2, if_neg a1, if_neg a1, if_neg a2]
  · have fym := fy.mem
    rw [hann] at fym
    rcases still_or (clsOp Cx.ann x) with h | h
    · rcases still_or (clsOp Cx.ann y) with h' | h'
      · rw [fym h', fx.mem h, k5 h, g5 h']
      · rw [k5 h, g4 h']
    · rcases still_or (clsOp Cx.ann y) with h' | h'
      · rw [fym h', k4 h]
      · rcases h with h | h <;> rcases h' with h' | h' <;> rw [h, h'] at cl <;> cases cl
end
end Go.Zt
