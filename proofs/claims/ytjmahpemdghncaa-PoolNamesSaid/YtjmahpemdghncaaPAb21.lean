/- What the law PoolNames needs of the text Ab21. -/
import Derived.Test.YtjmahpemdghncaaPAb20
set_option linter.unusedVariables false
set_option linter.unusedSimpArgs false
namespace Go.Zt
section
variable {C Cx Cy : Ctx} {s s' s1 s2 : St} {e : EV} {o x y : Oper} {b : Nat} {ops : Array Oper}
theorem OpRef.noRef (h : OpRef b o s) : noRef b s.env = false := by
  obtain ⟨x, hx, ev, h1, h2⟩ := h
  cases x with
  | tmp t => exact lk_eref h1 h2
  | const v =>
    simp only [opnd] at h1
    split at h1
    · injection h1 with h1; subst h1; cases h2
    · cases h1
  | global g => cases h1
  | func f => injection h1 with h1; subst h1; cases h2
theorem OpRef.same (hs : SameO o s s2) : OpRef b o s2 ↔ OpRef b o s := by
  constructor
  · rintro ⟨x, hx, ev, h1, h2⟩; exact ⟨x, hx, ev, by rw [← hs x hx]; exact h1, h2⟩
  · rintro ⟨x, hx, ev, h1, h2⟩; exact ⟨x, hx, ev, by rw [hs x hx]; exact h1, h2⟩
theorem still_or (c : Cls) : Still c ∨ (c = .eff ∨ c = .wr) := by
  cases c
  · exact .inl (.inl rfl)
  · exact .inl (.inr (.inl rfl))
  · exact .inl (.inr (.inr rfl))
  · exact .inr (.inl rfl)
  · exact .inr (.inr rfl)
theorem pst_ref {j b : Nat} {ms : List Nat} {all : List Oper} (hp : pstBox C.ann o = some b) (hk : chk C.ann ms all j o s = true) {b' : Nat} (h : OpRef b' o s) : b' = b := by
  obtain ⟨dst, op, type, pos, after, guard⟩ := o
  cases op <;> try (cases hp; done)
  rename_i t x y
  simp only [chk, hp, Bool.and_eq_true] at hk
  obtain ⟨k1, k2⟩ := hk
  obtain ⟨z, hz, ev, h1, h2⟩ := h
  have hz : z = x ∨ z = y := by simpa [Op.operands] using hz
  rcases hz with rfl | rfl
  · rw [h1] at k1
    cases ev with
    | u => cases h2
    | v v => cases h2
    | l c off => exact (Nat.eq_of_beq_eq_true (show Nat.beq b' c = true from h2)).trans (Nat.eq_of_beq_eq_true k1)
    | s c n => cases k1
  · rw [h1] at k2
    cases ev with
    | u => cases h2
    | v v => cases h2
    | l c off => cases k2
    | s c n => cases k2
theorem pst_run {j b : Nat} {ms : List Nat} {all : List Oper} (hp : pstBox C.ann o = some b) (hk : chk C.ann ms all j o s = true) (h : runP C o s = some s1) : s1.mem = s.mem := by
  unfold runP at h
  obtain ⟨⟨e, s'⟩, hd, hq⟩ := Option.bind_eq_some_iff.1 h
  have hd : aop C o s K0 = some (e, s') := hd
  have e2 : s1.mem = s'.mem := by rcases putD_inv hq with ⟨_, rfl⟩ | ⟨_, _, _, rfl⟩ <;> rfl
  rw [e2]
  obtain ⟨dst, op, type, pos, after, guard⟩ := o
  cases op <;> try (cases hp; done)
  rename_i t x y
  simp only [chk, hp, Bool.and_eq_true] at hk
  obtain ⟨k1, k2⟩ := hk
  simp only [aop] at hd
  split at hd
  · unfold storeA at hd
    split at hd
    · cases hd
    · cases hd
    · split at hd
      · split at hd
        · split at hd
          · rw [pb_eq] at hd
            split at hd
            · injection hd with hd; injection hd with _ hd; subst hd; rfl
            · cases hd
          · cases hd
        · rename_i a hx
          rw [hx] at k1
          cases k1
        · cases hd
      · cases hd
  · cases hd
theorem chk_same {j : Nat} {ms : List Nat} {all : List Oper} {ann : Ann} (hs : SameO o s s2) : chk ann ms all j o s2 = chk ann ms all j o s := by
  obtain ⟨dst, op, type, pos, after, guard⟩ := o
  cases op <;> try rfl
  case load t x => simp only [chk]; rw [hs x (by simp [Op.operands])]
  case store t x y =>
    simp only [chk]
    split
    · rw [hs x (by simp [Op.operands]), hs y (by simp [Op.operands])]
    · rfl
theorem chk_eqv {j : Nat} {ms : List Nat} {all : List Oper} {ann : Ann} (he : Eqv s s2) : chk ann ms all j o s2 = chk ann ms all j o s := chk_same fun x _ => opnd_eqv he x
theorem pst_step {j b : Nat} {ms : List Nat} {all : List Oper} (hp : pstBox C.ann o = some b) (hk : chk C.ann ms all j o s = true) (h : stepD C ops o s = some s1) : s1.mem = s.mem := by
  have put : ∀ sg : St, putD C o.dst .u sg = some s1 → s1.mem = sg.mem := fun sg hq => by rcases putD_inv hq with ⟨_, rfl⟩ | ⟨_, _, _, rfl⟩ <;> rfl
  unfold stepD at h
  split at h
  · exact pst_run hp hk h
  · split at h
    · split at h
      · rename_i hb
        split at h
        · have := pst_run (s := _) hp (by rw [chk_eqv (guardEqv hb)]; exact hk) h
          exact this
        · have := put _ h
          exact this
      · have := put _ h
        exact this
      · cases h
    · cases h
structure NoClash (ann : Ann) (ops : Array Oper) (x y : Oper) : Prop where
  cls : clsClash (clsOp ann x) (clsOp ann y) = false ∨ exPair ann x y = true ∨ (isNewOp ann x = true ∧ isNewOp ann y = true)
  dst : ∀ d, x.dst = some d → y.dst ≠ some d
  xy : ∀ d, x.dst = some d → d ∉ y.looksAt ops
  yx : ∀ d, y.dst = some d → d ∉ x.looksAt ops
theorem swap (hc : CallsLow Cx.call) (hc' : CallsLow Cy.call) (hann : Cy.ann = Cx.ann) (hn : NoClash Cx.ann ops x y) (hnn : ¬ (isNewOp Cx.ann x = true ∧ isNewOp Cx.ann y = true))
    (hl1 : clsOp Cx.ann x = .eff → clsOp Cx.ann y = .ld → ∃ n, Cy.top = some n ∧ n ≤ Cx.lo ∧ n ≤ s.mem.length) (hl2 : clsOp Cx.ann x = .ld → clsOp Cx.ann y = .eff → ∃ n, Cx.top = some n ∧ n ≤ Cy.lo ∧ n ≤ s.mem.length)
    (hs1 : clsOp Cx.ann x = .wr → clsOp Cx.ann y = .ld → s1.mem = s.mem ∧ ∀ b, OpRef b x s → ¬ OpRef b y s) (hs2 : clsOp Cx.ann x = .ld → clsOp Cx.ann y = .wr → s2.mem = s1.mem ∧ ∀ b, OpRef b y s → ¬ OpRef b x s)
    (h1 : stepD Cx ops x s = some s1) (h2 : stepD Cy ops y s1 = some s2) : ∃ s1' s2', stepD Cy ops y s = some s1' ∧ stepD Cx ops x s1' = some s2' ∧ Eqv s2 s2' := by
  obtain ⟨ex, lx, fx⟩ := framed h1
  obtain ⟨ey, ly, fy⟩ := framed h2
  have nb : (clsOp Cx.ann x = .eff ∨ clsOp Cx.ann x = .wr) → (clsOp Cx.ann y = .eff ∨ clsOp Cx.ann y = .wr) → False := fun a b => by
    rcases hn.cls with c | c | c
    · rcases a with a | a <;> rcases b with b | b <;> rw [a, b] at c <;> cases c
    · unfold exPair at c
      rcases a with a | a <;> rcases b with b | b <;> rw [a, b] at c <;> cases c
    · exact hnn c
  have hA : Agree ops y s1 s := fun t ht => by
    rw [fx.upd.env t, if_neg]
    intro hd
    exact hn.xy t hd ht
  have nref : ∀ b, noRef b s1.env = true → noRef b s.env = true := fun b hb => by
    rw [fx.upd.ref] at hb
    exact (Bool.and_eq_true_iff.1 hb).1
  have refY : ∀ b, OpRef b y s1 → OpRef b y s := fun b h => (OpRef.same hA.same).2 h
  have hypY : Hyp Cy y s1 s := by
    refine ⟨fun hcy b hb => ?_, fun hcy t ht ha hb => ⟨?_, nref t hb⟩, fun hcy b hb => ?_, fun hcy => ?_⟩
    · rw [fx.loc b]
      cases lx with
      | none => rfl
      | some p =>
        obtain ⟨b', cs⟩ := p
        simp only
        by_cases hbb : b' = b
        · subst hbb
          rcases fx.box _ _ rfl with ⟨_, _, _, h4⟩ | ⟨h5, _, h6⟩
          · rw [(refY _ hb).noRef] at h4; cases h4
          · rw [hann] at hcy
            rcases hcy with h | h
            · exact absurd (refY _ hb) ((hs1 h5 h).2 _ h6)
            · exact absurd (.inr h) (nb (.inr h5))
        · rw [if_neg hbb]
    · have := fx.loc t
      cases lx with
      | none => simp only at this; rw [← this]; exact ha
      | some p =>
        obtain ⟨b', cs⟩ := p
        simp only at this
        by_cases hbb : b' = t
        · rw [if_pos hbb, ha] at this; cases this
        · rw [if_neg hbb] at this; rw [← this]; exact ha
    · rcases still_or (clsOp Cx.ann x) with h | h | h
      · rw [fx.mem h]
      · obtain ⟨n, q1, q2, q3⟩ := hl1 h (by rw [← hann]; exact hcy)
        have := hb n q1
        exact ((step_low hc h1).2 b (by omega) (by omega)).symm
      · rw [hann] at hcy
        rw [(hs1 h hcy).1]
    · rcases still_or (clsOp Cx.ann x) with h | h | h
      · exact (fx.mem h).symm
      · rw [hann] at hcy; exact (nb (.inl h) hcy).elim
      · rw [hann] at hcy; exact (nb (.inr h) hcy).elim
  obtain ⟨s1', g1, gU, gL, g4, g5⟩ := fy.move s hA hypY
  have hA' : Agree ops x s s1' := fun t ht => by
    rw [gU.env t, if_neg]
    intro hd
    exact hn.yx t hd ht
  rw [hann] at g4 g5
  have hypX : Hyp Cx x s s1' := by
    refine ⟨fun hcx b hb => ?_, fun hcx t ht ha hb => ⟨?_, ?_⟩, fun hcx b hb => ?_, fun hcx => ?_⟩
    · rw [gL b]
      cases ly with
      | none => rfl
      | some p =>
        obtain ⟨b', cs⟩ := p
        simp only
        by_cases hbb : b' = b
        · subst hbb
          rcases fy.box _ _ rfl with ⟨_, _, _, h4⟩ | ⟨h5, _, h6⟩
          · exact absurd (nref _ h4) (by rw [hb.noRef]; simp)
          · rw [hann] at h5
            rcases hcx with h | h
            · exact absurd hb ((hs2 h h5).2 _ (refY _ h6))
            · exact (nb (.inr h) (.inr h5)).elim
        · rw [if_neg hbb]
    · rw [gL t]
      cases ly with
      | none => exact ha
      | some p =>
        obtain ⟨b', cs⟩ := p
        simp only
        by_cases hbb : b' = t
        · subst hbb
          rcases fy.box _ _ rfl with ⟨_, h2, _, _⟩ | ⟨_, _, h6⟩
          · exact absurd h2 (hn.dst _ ht)
          · rw [(refY _ h6).noRef] at hb; cases hb
        · rw [if_neg hbb]; exact ha
    · rw [gU.ref, hb]
      cases hr : eref t ey with
      | false => simp
      | true =>
        rcases fy.refs t hr with ⟨_, h2⟩ | h6
        · exact absurd h2 (hn.dst _ ht)
        · rw [(refY _ h6).noRef] at hb; cases hb
    · rcases still_or (clsOp Cx.ann y) with h | h | h
      · rw [g5 h]
      · obtain ⟨n, q1, q2, q3⟩ := hl2 hcx h
        have := hb n q1
        exact (step_low hc' g1).2 b (by omega) (by omega)
      · rw [g4 (.inr h), (hs2 hcx h).1, fx.mem (by rw [hcx]; exact .inr (.inr rfl))]
    · rcases still_or (clsOp Cx.ann y) with h | h | h
      · exact g5 h
      · exact (nb hcx (.inl h)).elim
      · exact (nb hcx (.inr h)).elim
  obtain ⟨s2', k1, kU, kL, k4, k5⟩ := fx.move s1' hA' hypX
  refine ⟨s1', s2', g1, k1, fun t => ?_, fun t => ?_, fun t => ?_, ?_⟩
  · rw [fy.upd.env, fx.upd.env, kU.env, gU.env]
    by_cases a1 : y.dst = some t
    · by_cases a2 : x.dst = some t
      · exact absurd a1 (hn.dst t a2)
      · rw [if_pos a1, if_neg a2, if_pos a1]
    · by_cases a2 : x.dst = some t
      · rw [if_neg a1, if_pos a2, if_pos a2]
      · rw [if_neg a1, if_neg a2, if_neg a2, if_neg a1]
  · rw [fy.upd.ref, fx.upd.ref, kU.ref, gU.ref, Bool.and_assoc, Bool.and_assoc]
    congr 1
    exact Bool.and_comm _ _
  · rw [fy.loc t, fx.loc t, kL t, gL t]
    cases hlx : lx with
    | none => cases ly <;> rfl
    | some p =>
      cases hly : ly with
      | none => rfl
      | some q =>
        obtain ⟨b1, c1⟩ := p
        obtain ⟨b2, c2⟩ := q
        have hne : b1 ≠ b2 := by
          rintro rfl
          rcases fx.box _ _ hlx with ⟨_, p2, _, p4⟩ | ⟨p5, _, p7⟩
          · rcases fy.box _ _ hly with ⟨_, q2, _, _⟩ | ⟨_, _, q7⟩
            · exact hn.dst _ p2 q2
            · rw [(refY _ q7).noRef] at p4; cases p4
          · rcases fy.box _ _ hly with ⟨_, _, _, q4⟩ | ⟨q5, _, _⟩
            · have := nref _ q4
              rw [p7.noRef] at this; cases this
            · rw [hann] at q5; exact (nb (.inr p5) (.inr q5)).elim
        simp only
        by_cases a1 : b1 = t
        · by_cases a2 : b2 = t
          · exact absurd (a1.trans a2.symm) hne
          · rw [if_neg a2, if_pos a1, if_pos a1]
        · by_cases a2 : b2 = t
          · rw [if_pos a2, if_neg a1, if_pos a2]
          · rw [if_neg a2, if_neg a1, if_neg a1, if_neg a2]
  · have fym := fy.mem
    rw [hann] at fym
    rcases still_or (clsOp Cx.ann x) with h | h
    · rcases still_or (clsOp Cx.ann y) with h' | h'
      · rw [fym h', fx.mem h, k5 h, g5 h']
      · rw [k5 h, g4 h']
    · rcases still_or (clsOp Cx.ann y) with h' | h'
      · rw [fym h', k4 h]
      · exact (nb h h').elim
theorem fill_comm {M M1 M2 : Mem} {lo lo' i i' z z' : Nat} {cs cs' : List Value} {a a' : Addr} (hne : i ≠ i') (h1 : M.fill lo i z cs = some (a, M1)) (h2 : M1.fill lo' i' z' cs' = some (a', M2)) :
    ∃ M1', M.fill lo' i' z' cs' = some (a', M1') ∧ M1'.fill lo i z cs = some (a, M2) := by
  obtain ⟨ds, k1, l1, z1, c1⟩ := fill_inv h1
  obtain ⟨ds', k2, l2, z2, c2⟩ := fill_inv h2
  have k2' : M[i']? = some (⟨.op 0, ds'⟩ : Blk) := by
    rcases c1 with ⟨_, _, rfl⟩ | ⟨_, _, rfl⟩
    · exact k2
    · rw [List.getElem?_set_ne hne] at k2; exact k2
  have mk : ∀ {M : Mem} {lo i z : Nat} {cs : List Value} {ds : List Value}, M[i]? = some (⟨.op 0, ds⟩ : Blk) → lo ≤ i → z ≠ 0 → (cs = [] → M.fill lo i z cs = some (⟨i, 0, none⟩, M)) ∧ (cs ≠ [] → M.fill lo i z cs = some (⟨i, 0, some cs.length⟩, M.set i ⟨.op z, cs⟩)) := fun {M lo i z cs ds} hk hl hz => by
    unfold Mem.fill
    rw [hk]
    simp only
    rw [if_pos ⟨hl, hz⟩]
    cases cs with
    | nil => exact ⟨fun _ => rfl, fun h => absurd rfl h⟩
    | cons c r => exact ⟨fun h => (by cases h), fun _ => rfl⟩
  rcases c2 with ⟨e2, rfl, rfl⟩ | ⟨e2, rfl, rfl⟩
  · exact ⟨M, (mk k2' l2 z2).1 e2, h1⟩
  · refine ⟨M.set i' ⟨.op z', cs'⟩, (mk k2' l2 z2).2 e2, ?_⟩
    have k1' : (M.set i' ⟨.op z', cs'⟩)[i]? = some (⟨.op 0, ds⟩ : Blk) := by rw [List.getElem?_set_ne (Ne.symm hne)]; exact k1
    rcases c1 with ⟨e1, rfl, rfl⟩ | ⟨e1, rfl, rfl⟩
    · exact (mk k1' l1 z1).1 e1
    · rw [(mk k1' l1 z1).2 e1, List.set_comm _ _ hne]
theorem new_aop {i : Nat} (hs : C.slot = some i) (ho : isNewOp C.ann o = true) (h : aop C o s K0 = some (e, s')) :
    ∃ z cs a, s.mem.fill C.lo i z cs = some (a, s'.mem) ∧ s'.env = s.env ∧ s'.loc = s.loc ∧ (∀ b, eref b e = false) ∧
      ∀ s2, SameO o s s2 → ∀ M2, s2.mem.fill C.lo i z cs = some (a, M2) → aop C o s2 K0 = some (e, { s2 with mem := M2 }) := by
  obtain ⟨dst, op, type, pos, after, guard⟩ := o
  cases op <;> try (simp only [isNewOp] at ho; split at ho <;> cases ho; done)
  case alloc t =>
    simp only [aop] at h
    split at h
    · rename_i cs hz
      cases dst with
      | none => simp [isNewOp, clsOp] at ho
      | some t' =>
        cases hp : isIn C.ann.priv t' with
        | true => simp [isNewOp, clsOp, hp] at ho
        | false =>
          cases cs with
          | nil => simp only [allocA, hp, hs] at h; cases h
          | cons c r =>
            simp only [allocA, hp, hs, ob_eq] at h
            obtain ⟨q, hq, h⟩ := Option.bind_eq_some_iff.1 h
            injection h with h; injection h with h1 h2; subst h1; subst h2
            refine ⟨1, c :: r, q.1, hq, rfl, rfl, fun _ => rfl, fun s2 _ M2 h2 => ?_⟩
            simp only [aop, hz, allocA, hp, hs, ob_eq, h2, Option.bind_some]
    · cases h
  case box t x =>
    simp only [aop] at h
    split at h
    · rename_i v hv
      split at h
      · rename_i h1'
        cases dst with
        | none => simp [isNewOp, clsOp] at ho
        | some t' =>
          cases hp : isIn C.ann.priv t' with
          | true => simp [isNewOp, clsOp, hp] at ho
          | false =>
            cases hcs : cellsL v with
            | nil => rw [hcs] at h; simp only [allocA, hp, hs] at h; cases h
            | cons c r =>
              rw [hcs] at h h1'
              simp only [allocA, hp, hs, ob_eq] at h
              obtain ⟨q, hq, h⟩ := Option.bind_eq_some_iff.1 h
              injection h with h; injection h with h1 h2; subst h1; subst h2
              refine ⟨1, c :: r, q.1, hq, rfl, rfl, fun _ => rfl, fun s2 hs2 M2 h2 => ?_⟩
              have hv2 : val s2 x = some v := by rw [val_same (hs2 x (by simp [Op.operands]))]; exact hv
              simp only [aop, hv2, hcs, h1', allocA, hp, hs, ob_eq, h2, Option.bind_some]
      · cases h
    · cases h
  case buildSlice t n ps =>
    cases dst with
    | none => simp [isNewOp, clsOp] at ho
    | some t' =>
      cases hp : isIn C.ann.priv t' with
      | true => simp [isNewOp, clsOp, hp] at ho
      | false =>
        simp only [aop] at h
        split at h
        · rename_i el l hu hl
          split at h
          · rename_i z k hz hk
            split at h
            · rename_i cs hle hcs
              split at h
              · rename_i t2 h1 ht2
                injection ht2 with ht2; subst ht2
                simp only [hp, hs] at h
                split at h
                · rename_i hb
                  rw [ob_eq] at h
                  obtain ⟨q, hq, h⟩ := Option.bind_eq_some_iff.1 h
                  injection h with h; injection h with e1 e2; subst e1; subst e2
                  refine ⟨k + 1, cs, q.1, hq, rfl, rfl, fun _ => rfl, fun s2 hs2 M2 h2 => ?_⟩
                  have hp2 : partsA s2 ps.toList = some l := by
                    rw [parts_same (fun p hp => hs2 p.2 (by simp [Op.operands]; exact ⟨p.1, by simpa using hp⟩))]; exact hl
                  simp only [aop, hu, hp2, hz, hk, hle, hcs, h1, hp, hs, hb, ob_eq, h2, Option.bind_some]
                · cases h
              · cases h
            · cases h
          · cases h
        · cases h
  case makeSlice t l c =>
    simp only [aop] at h
    unfold makeA at h
    split at h
    · rename_i el n hu hc
      split at h
      · rename_i zs b z hz hb hk
        rw [pb_eq] at h
        split at h
        · rename_i hcond
          split at h
          · rename_i hsame
            simp only [hs, ob_eq] at h
            obtain ⟨q, hq, h⟩ := Option.bind_eq_some_iff.1 h
            injection h with h; injection h with e1 e2; subst e1; subst e2
            refine ⟨z + 1, zerosL zs n.toNat, q.1, hq, rfl, rfl, fun _ => rfl, fun s2 hs2 M2 h2 => ?_⟩
            have hc2 : val s2 c = some (.int .i64 n) := by rw [val_same (hs2 c (by simp [Op.operands]))]; exact hc
            simp only [aop, makeA, hu, hc2, hz, hb, hk, pb_eq, if_pos hcond, hsame, hs, ob_eq, h2, Option.bind_some]
          · simp only [hs] at h; cases h
          · cases h
        · cases h
      · cases h
    · cases h
theorem new_run {i : Nat} (hs : C.slot = some i) (ho : isNewOp C.ann o = true) (h : runP C o s = some s1) :
    ∃ e z cs a, Upd o e s s1 ∧ (∀ t, lk s1.loc t = lk s.loc t) ∧ s.mem.fill C.lo i z cs = some (a, s1.mem) ∧
      ∀ s2, SameO o s s2 → ∀ M2, s2.mem.fill C.lo i z cs = some (a, M2) → ∃ s3, runP C o s2 = some s3 ∧ Upd o e s2 s3 ∧ (∀ t, lk s3.loc t = lk s2.loc t) ∧ s3.mem = M2 := by
  unfold runP at h
  obtain ⟨⟨e, s'⟩, hd, hp⟩ := Option.bind_eq_some_iff.1 h
  have hd : aop C o s K0 = some (e, s') := hd
  obtain ⟨z, cs, a, f1, f2, f3, f4, f5⟩ := new_aop hs ho hd
  obtain ⟨k1, k2, k3⟩ := put_upd hp f2
  refine ⟨e, z, cs, a, k1, fun t => by rw [k2, f3], by rw [k3]; exact f1, fun s2 hs2 M2 hM => ?_⟩
  have g1 := f5 s2 hs2 M2 hM
  obtain ⟨s3, hs3⟩ := put_again (s2' := { s2 with mem := M2 }) hp
  obtain ⟨q1, q2, q3⟩ := put_upd (s := s2) hs3 rfl
  refine ⟨s3, ?_, q1, fun t => by rw [q2], by rw [q3]⟩
  show (aop C o s2 K0).bind _ = _
  rw [g1]; exact hs3
theorem stepN {i : Nat} (hs : C.slot = some i) (ho : isNewOp C.ann o = true) (h : stepD C ops o s = some s1) :
    ∃ e, Upd o e s s1 ∧ (∀ t, lk s1.loc t = lk s.loc t) ∧
      ((s1.mem = s.mem ∧ ∀ s2, Agree ops o s s2 → ∃ s3, stepD C ops o s2 = some s3 ∧ Upd o e s2 s3 ∧ (∀ t, lk s3.loc t = lk s2.loc t) ∧ s3.mem = s2.mem) ∨
       ∃ z cs a, s.mem.fill C.lo i z cs = some (a, s1.mem) ∧ ∀ s2, Agree ops o s s2 → ∀ M2, s2.mem.fill C.lo i z cs = some (a, M2) → ∃ s3, stepD C ops o s2 = some s3 ∧ Upd o e s2 s3 ∧ (∀ t, lk s3.loc t = lk s2.loc t) ∧ s3.mem = M2) := by
  have idle : ∀ sg, Eqv s sg → putD C o.dst .u sg = some s1 → (∀ s2, Agree ops o s s2 → ∃ s2g, Eqv s2 s2g ∧ stepD C ops o s2 = putD C o.dst .u s2g) → ∃ e, Upd o e s s1 ∧ (∀ t, lk s1.loc t = lk s.loc t) ∧
      ((s1.mem = s.mem ∧ ∀ s2, Agree ops o s s2 → ∃ s3, stepD C ops o s2 = some s3 ∧ Upd o e s2 s3 ∧ (∀ t, lk s3.loc t = lk s2.loc t) ∧ s3.mem = s2.mem) ∨
       ∃ z cs a, s.mem.fill C.lo i z cs = some (a, s1.mem) ∧ ∀ s2, Agree ops o s s2 → ∀ M2, s2.mem.fill C.lo i z cs = some (a, M2) → ∃ s3, stepD C ops o s2 = some s3 ∧ Upd o e s2 s3 ∧ (∀ t, lk s3.loc t = lk s2.loc t) ∧ s3.mem = M2) := fun sg he hp hm => by
    obtain ⟨k1, k2, k3⟩ := put_upd (s := sg) hp rfl
    refine ⟨.u, k1.eqv he, fun t => by rw [k2]; exact (he.loc t).symm, .inl ⟨by rw [k3]; exact he.mem.symm, fun s2 ha => ?_⟩⟩
    obtain ⟨s2g, e1, e2⟩ := hm s2 ha
    obtain ⟨s3, hs3⟩ := put_again (s2' := s2g) hp
    obtain ⟨q1, q2, q3⟩ := put_upd (s := s2g) hs3 rfl
    exact ⟨s3, by rw [e2]; exact hs3, q1.eqv e1, fun t => by rw [q2]; exact (e1.loc t).symm, by rw [q3]; exact e1.mem.symm⟩
  have acts : ∀ sg, Eqv s sg → runP C o sg = some s1 → (∀ s2, Agree ops o s s2 → ∃ s2g, Eqv s2 s2g ∧ stepD C ops o s2 = runP C o s2g) → ∃ e, Upd o e s s1 ∧ (∀ t, lk s1.loc t = lk s.loc t) ∧
      ((s1.mem = s.mem ∧ ∀ s2, Agree ops o s s2 → ∃ s3, stepD C ops o s2 = some s3 ∧ Upd o e s2 s3 ∧ (∀ t, lk s3.loc t = lk s2.loc t) ∧ s3.mem = s2.mem) ∨
       ∃ z cs a, s.mem.fill C.lo i z cs = some (a, s1.mem) ∧ ∀ s2, Agree ops o s s2 → ∀ M2, s2.mem.fill C.lo i z cs = some (a, M2) → ∃ s3, stepD C ops o s2 = some s3 ∧ Upd o e s2 s3 ∧ (∀ t, lk s3.loc t = lk s2.loc t) ∧ s3.mem = M2) := fun sg he hp hm => by
    obtain ⟨e, z, cs, a, u, l, f, g⟩ := new_run hs ho hp
    refine ⟨e, u.eqv he, fun t => by rw [l t]; exact (he.loc t).symm, .inr ⟨z, cs, a, by rw [he.mem]; exact f, fun s2 ha M2 hM => ?_⟩⟩
    obtain ⟨s2g, e1, e2⟩ := hm s2 ha
    obtain ⟨s3, q1, q2, q3, q4⟩ := g s2g (fun x hx => by rw [opnd_eqv e1, opnd_eqv he]; exact ha.same x hx) M2 (by rw [← e1.mem]; exact hM)
    exact ⟨s3, by rw [e2]; exact q1, q2.eqv e1, fun t => by rw [q3 t]; exact (e1.loc t).symm, q4⟩
  have h0 := h
  unfold stepD at h
  split at h
  · rename_i hg
    exact acts s (Eqv.refl s) h fun s2 hs => ⟨s2, Eqv.refl _, by unfold stepD runP; rw [hg]⟩
  · rename_i g want hg
    split at h
    · rename_i t ht
      split at h
      · rename_i b hb
        split at h
        · rename_i hbw
          refine acts _ (guardEqv hb) h fun s2 hs => ⟨_, guardEqv (by rw [hs.guard hg ht]; exact hb), ?_⟩
          have := hs.guard hg ht
          rw [hb] at this
          unfold stepD runP
          rw [hg]; simp only [ht, this, if_pos hbw]
        · rename_i hbw
          refine idle _ (guardEqv hb) h fun s2 hs => ⟨_, guardEqv (by rw [hs.guard hg ht]; exact hb), ?_⟩
          have := hs.guard hg ht
          rw [hb] at this
          unfold stepD
          rw [hg]; simp only [ht, this, if_neg hbw]
      · rename_i hb
        refine idle s (Eqv.refl s) h fun s2 hs => ⟨s2, Eqv.refl _, ?_⟩
        have := hs.guard hg ht
        rw [hb] at this
        unfold stepD
        rw [hg]; simp only [ht, this]
      · cases h
    · cases h
theorem swapN {ix iy : Nat} (hne : ix ≠ iy) (hann : Cy.ann = Cx.ann) (hn : NoClash Cx.ann ops x y) (hx : isNewOp Cx.ann x = true) (hy : isNewOp Cx.ann y = true) (sx : Cx.slot = some ix) (sy : Cy.slot = some iy)
    (h1 : stepD Cx ops x s = some s1) (h2 : stepD Cy ops y s1 = some s2) : ∃ s1' s2', stepD Cy ops y s = some s1' ∧ stepD Cx ops x s1' = some s2' ∧ Eqv s2 s2' := by
  obtain ⟨ex, ux, lx, cx⟩ := stepN sx hx h1
  obtain ⟨ey, uy, ly, cy⟩ := stepN sy (by rw [hann]; exact hy) h2
  have hA : Agree ops y s1 s := fun t ht => by
    rw [ux.env t, if_neg]
    intro hd
    exact hn.xy t hd ht
  have hA' : ∀ s1' : St, Upd y ey s s1' → Agree ops x s s1' := fun s1' gU t ht => by
    rw [gU.env t, if_neg]
    intro hd
    exact hn.yx t hd ht
  have key : ∃ s1' s2', stepD Cy ops y s = some s1' ∧ Upd y ey s s1' ∧ (∀ t, lk s1'.loc t = lk s.loc t) ∧ stepD Cx ops x s1' = some s2' ∧ Upd x ex s1' s2' ∧ (∀ t, lk s2'.loc t = lk s1'.loc t) ∧ s2'.mem = s2.mem := by
    rcases cy with ⟨my, gy⟩ | ⟨z', cs', a', fy, gy⟩
    · obtain ⟨s1', g1, gU, gL, gM⟩ := gy s hA
      rcases cx with ⟨mx, gx⟩ | ⟨z, cs, a, fx, gx⟩
      · obtain ⟨s2', k1, kU, kL, kM⟩ := gx s1' (hA' s1' gU)
        exact ⟨s1', s2', g1, gU, gL, k1, kU, kL, by rw [kM, gM, my, mx]⟩
      · obtain ⟨s2', k1, kU, kL, kM⟩ := gx s1' (hA' s1' gU) s1.mem (by rw [gM]; exact fx)
        exact ⟨s1', s2', g1, gU, gL, k1, kU, kL, by rw [kM, my]⟩
    · rcases cx with ⟨mx, gx⟩ | ⟨z, cs, a, fx, gx⟩
      · obtain ⟨s1', g1, gU, gL, gM⟩ := gy s hA s2.mem (by rw [← mx]; exact fy)
        obtain ⟨s2', k1, kU, kL, kM⟩ := gx s1' (hA' s1' gU)
        exact ⟨s1', s2', g1, gU, gL, k1, kU, kL, by rw [kM, gM]⟩
      · obtain ⟨M1', q1, q2⟩ := fill_comm hne fx fy
        obtain ⟨s1', g1, gU, gL, gM⟩ := gy s hA M1' q1
        obtain ⟨s2', k1, kU, kL, kM⟩ := gx s1' (hA' s1' gU) s2.mem (by rw [gM]; exact q2)
        exact ⟨s1', s2', g1, gU, gL, k1, kU, kL, kM⟩
  obtain ⟨s1', s2', g1, gU, gL, k1, kU, kL, kM⟩ := key
  refine ⟨s1', s2', g1, k1, fun t => ?_, fun t => ?_, fun t => ?_, kM.symm⟩
  · rw [uy.env, ux.env, kU.env, gU.env]
    by_cases a1 : y.dst = some t
    · by_cases a2 : x.dst = some t
      · exact absurd a1 (hn.dst t a2)
      · rw [if_pos a1, if_neg a2, if_pos a1]
    · by_cases a2 : x.dst = some t
      · rw [if_neg a1, if_pos a2, if_pos a2]
      · rw [if_neg a1, if_neg a2, if_neg a2, if_neg a1]
  · rw [uy.ref, ux.ref, kU.ref, gU.ref, Bool.and_assoc, Bool.and_assoc]
    congr 1
    exact Bool.and_comm _ _
  · rw [ly t, lx t, kL t, gL t]
end
end Go.Zt
