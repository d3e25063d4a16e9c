/- What the law PoolNames needs of the text Ab18. -/
import Derived.Test.YtjmahpemdghncaaPAb17
set_option linter.unusedVariables false
set_option linter.unusedSimpArgs false
namespace Go.Zt
def eref (b : Nat) : EV → Bool
  | .l t _ => Nat.beq b t
  | .s t _ => Nat.beq b t
  | _ => false
theorem noRef_cons (b : Nat) (p : Nat × EV) (r : List (Nat × EV)) : noRef b (p :: r) = (!eref b p.2 && noRef b r) := by
  obtain ⟨t, e⟩ := p
  cases e <;> simp only [noRef, eref] <;> first | rfl | (cases Nat.beq b _ <;> rfl)
theorem lk_eref {env : List (Nat × EV)} {u b : Nat} {e : EV} (h : lk env u = some e) (hr : eref b e = true) : noRef b env = false := by
  cases e with
  | u => cases hr
  | v x => cases hr
  | l t off =>
    have := Nat.eq_of_beq_eq_true (show Nat.beq b t = true from hr)
    subst this; exact lk_ref h
  | s t n =>
    have := Nat.eq_of_beq_eq_true (show Nat.beq b t = true from hr)
    subst this; exact lk_refS h
section
variable {C : Ctx} {s s' s2 : St} {e : EV} {o : Oper}
abbrev K0 : EV → St → Option (EV × St) := fun e s => some (e, s)
def SameO (o : Oper) (s s2 : St) : Prop := ∀ x ∈ o.op.operands.toList, opnd s2 x = opnd s x
theorem val_same {x : Operand} (h : opnd s2 x = opnd s x) : val s2 x = val s x := by simp only [val, h]
theorem vals_same : ∀ {l : List Operand}, (∀ x ∈ l, opnd s2 x = opnd s x) → vals s2 l = vals s l
  | [], _ => rfl
  | x :: l, h => by
    have h1 := val_same (h x (by simp))
    have h2 := vals_same (l := l) fun y hy => h y (by simp [hy])
    simp only [vals, h1, h2]
theorem parts_same : ∀ {l : List (Nat × Operand)}, (∀ p ∈ l, opnd s2 p.2 = opnd s p.2) → partsA s2 l = partsA s l
  | [], _ => rfl
  | (i, x) :: l, h => by
    have h1 := val_same (h (i, x) (by simp))
    have h2 := parts_same (l := l) fun p hp => h p (by simp [hp])
    simp only [partsA, h1, h2]
theorem bound_same {x : Option Operand} (h : ∀ y, x = some y → opnd s2 y = opnd s y) : bound? s2 x = bound? s x := by
  cases x with
  | none => rfl
  | some y =>
    have h1 := val_same (h y rfl)
    simp only [bound?, h1]
theorem pure_frame (hcls : clsOp C.ann o = .pure) (h : SameO o s s2) : aop C o s2 K0 = aop C o s (fun e _ => some (e, s2)) := by
  obtain ⟨dst, op, type, pos, after, guard⟩ := o
  have hx : ∀ x ∈ op.operands.toList, opnd s2 x = opnd s x := h
  cases op <;> simp only [aop] <;> try rfl
  case move x => rw [hx x (by simp [Op.operands])]
  case assign x => rw [hx x (by simp [Op.operands])]
  case pick c x y => rw [val_same (hx c (by simp [Op.operands])), hx x (by simp [Op.operands]), hx y (by simp [Op.operands])]
  case alloc t => simp only [clsOp] at hcls; split at hcls <;> (try split at hcls) <;> cases hcls
  case box t x => simp only [clsOp] at hcls; split at hcls <;> (try split at hcls) <;> cases hcls
  case buildSlice t n ps => simp only [clsOp] at hcls; split at hcls <;> (try split at hcls) <;> cases hcls
  case load t x => cases hcls
  case store t x y => cases hcls
  case makeSlice t l c => cases hcls
  case build t ps => rw [parts_same (fun p hp => hx p.2 (by simp [Op.operands]; exact ⟨p.1, by simpa using hp⟩))]
  case nilCheck x => rw [val_same (hx x (by simp [Op.operands]))]
  case binOp op t x y ae => rw [val_same (hx x (by simp [Op.operands])), val_same (hx y (by simp [Op.operands]))]
  case unOp op t x => rw [val_same (hx x (by simp [Op.operands]))]
  case convert t u x => rw [val_same (hx x (by simp [Op.operands]))]
  case makeFunc fn first captured =>
    rw [vals_same (fun x hm => hx x (by simp [Op.operands]; exact .inl (by simpa using hm))), vals_same (fun x hm => hx x (by simp [Op.operands]; exact .inr (by simpa using hm)))]
  case slice t x l hi mx =>
    rw [hx x (by simp [Op.operands]), bound_same (fun y hy => hx y (by subst hy; simp [Op.operands])), bound_same (fun y hy => hx y (by subst hy; simp [Op.operands])), bound_same (fun y hy => hx y (by subst hy; simp [Op.operands]))]
  case fieldAddr t x i => rw [hx x (by simp [Op.operands])]
  case field t x i => rw [val_same (hx x (by simp [Op.operands]))]
  case indexAddr t x i => rw [hx x (by simp [Op.operands]), val_same (hx i (by simp [Op.operands]))]
  case index t x i => rw [val_same (hx x (by simp [Op.operands])), val_same (hx i (by simp [Op.operands]))]
  case extract x i => rw [val_same (hx x (by simp [Op.operands]))]
  case call c =>
    obtain ⟨callee, xs, ats⟩ := c
    cases callee with
    | value f => cases hcls
    | invoke r n => rfl
    | builtin b =>
      have ha : ∀ x ∈ xs.toList, opnd s2 x = opnd s x := fun x hm => hx x (by simp [Op.operands, Call.operands]; simpa using hm)
      cases b <;> first | (cases hcls; done) | skip
      · simp only [builtinA]
        split
        · rename_i x hl; rw [ha x (by rw [hl]; simp)]
        · rfl
      · simp only [builtinA, vals_same ha]
      · simp only [builtinA, vals_same ha]
theorem eff_frame (hcls : clsOp C.ann o = .eff) (h : SameO o s s2) (hm : s2.mem = s.mem) : aop C o s2 K0 = aop C o s (fun e s' => some (e, { s2 with mem := s'.mem })) := by
  obtain ⟨dst, op, type, pos, after, guard⟩ := o
  have hx : ∀ x ∈ op.operands.toList, opnd s2 x = opnd s x := h
  cases op <;> simp only [aop] <;> try (cases hcls; done)
  case alloc t =>
    simp only [clsOp] at hcls
    split at hcls
    · rename_i t'
      split at hcls
      · cases hcls
      · rename_i hp
        simp only [allocA, hp, hm]
    · cases hcls
  case box t x =>
    simp only [clsOp] at hcls
    split at hcls
    · rename_i t'
      split at hcls
      · cases hcls
      · rename_i hp
        rw [val_same (hx x (by simp [Op.operands]))]
        simp only [allocA, hp, hm]
    · cases hcls
  case buildSlice t n ps =>
    simp only [clsOp] at hcls
    split at hcls
    · rename_i t'
      split at hcls
      · cases hcls
      · rename_i hp
        rw [parts_same (fun p hp => hx p.2 (by simp [Op.operands]; exact ⟨p.1, by simpa using hp⟩))]
        simp only [hm]
        cases C.P.underlying t with
        | none => rfl
        | some d =>
          cases d <;> try rfl
          rename_i el
          cases partsA s ps.toList with
          | none => rfl
          | some l =>
            simp only
            cases zeroL C.P el with
            | none => rfl
            | some z =>
              cases tsize C.P el with
              | none => rfl
              | some k =>
                cases k with
                | zero => rfl
                | succ k =>
                  simp only
                  cases Nat.ble (n * (k + 1)) 16777216 with
                  | false => rfl
                  | true =>
                    cases fillL (fun i => some (i * (k + 1), k + 1)) (zerosL z n) l with
                    | none => rfl
                    | some cs =>
                      simp only
                      cases allOne cs with
                      | false => rfl
                      | true => simp only [hp]
    · cases hcls
  case makeSlice t l c =>
    simp only [makeA]
    rw [val_same (hx c (by simp [Op.operands]))]
    simp only [hm]
  case call c =>
    obtain ⟨callee, xs, ats⟩ := c
    cases callee with
    | invoke r n => rfl
    | builtin b => cases b <;> cases hcls
    | value f =>
      simp only
      rw [val_same (hx f (by simp [Op.operands, Call.operands])), vals_same (fun x hm => hx x (by simp [Op.operands, Call.operands]; exact .inr (by simpa using hm)))]
      simp only [callA, callLo, hm]
theorem ld_frame (hcls : clsOp C.ann o = .ld) (h : SameO o s s2) (hl : ∀ x ∈ o.op.operands.toList, ∀ ev, opnd s x = some ev → ∀ b, eref b ev = true → lk s2.loc b = lk s.loc b)
    (hm : ∀ b, (∀ n, C.top = some n → b < n) → s2.mem[b]? = s.mem[b]?) : aop C o s2 K0 = aop C o s (fun e _ => some (e, s2)) := by
  obtain ⟨dst, op, type, pos, after, guard⟩ := o
  have hx : ∀ x ∈ op.operands.toList, opnd s2 x = opnd s x := h
  cases op <;> simp only [aop] <;> try (cases hcls; done)
  case alloc t => simp only [clsOp] at hcls; split at hcls <;> (try split at hcls) <;> cases hcls
  case box t x => simp only [clsOp] at hcls; split at hcls <;> (try split at hcls) <;> cases hcls
  case buildSlice t n ps => simp only [clsOp] at hcls; split at hcls <;> (try split at hcls) <;> cases hcls
  case call c =>
    obtain ⟨callee, xs, ats⟩ := c
    cases callee with
    | invoke r n => rfl
    | builtin b => cases b <;> cases hcls
    | value f => cases hcls
  case load t x =>
    rw [hx x (by simp [Op.operands])]
    unfold loadA
    cases hox : opnd s x with
    | none => rfl
    | some ev =>
      cases ev with
      | u => rfl
      | s t n => rfl
      | l b off =>
        simp only
        rw [hl x (by simp [Op.operands]) _ hox b (Nat.beq_refl b)]
      | v y =>
        cases y with
        | pointer p =>
          cases p with
          | none => rfl
          | some a =>
            have : ldM C s2 a = ldM C s a := by
              funext i
              unfold ldM
              cases ht : C.top with
              | none =>
                simp only [Mem.ld, plus_block]
                rw [hm a.block (fun n hn => by rw [ht] at hn; cases hn)]
              | some n =>
                simp only
                split
                · rename_i hlt
                  simp only [Mem.ld, plus_block]
                  rw [hm a.block (fun n' hn' => by rw [ht] at hn'; injection hn' with hn'; omega)]
                · rfl
            simp only [this]
        | _ => rfl
theorem new_frame (hcls : clsOp C.ann o = .new) (h : aop C o s K0 = some (e, s')) : ∃ t cs, o.dst = some t ∧ s' = { s with loc := (t, cs) :: s.loc } ∧ lk s.loc t = none ∧ noRef t s.env = true ∧ (∀ b, eref b e = true → b = t) ∧
    ∀ s2, SameO o s s2 → lk s2.loc t = none → noRef t s2.env = true → aop C o s2 K0 = some (e, { s2 with loc := (t, cs) :: s2.loc }) := by
  obtain ⟨dst, op, type, pos, after, guard⟩ := o
  have alc : ∀ (t : Nat) (cs : List Value), isIn C.ann.priv t = true → allocA C (some t) cs s K0 = some (e, s') → s' = { s with loc := (t, cs) :: s.loc } ∧ lk s.loc t = none ∧ noRef t s.env = true ∧ (∀ b, eref b e = true → b = t) ∧
      ∀ s2 : St, lk s2.loc t = none → noRef t s2.env = true → allocA C (some t) cs s2 K0 = some (e, { s2 with loc := (t, cs) :: s2.loc }) := fun t cs hp h => by
    simp only [allocA, hp] at h
    split at h
    · rename_i h1 h2
      injection h with h; injection h with e1 e2; subst e1; subst e2
      refine ⟨rfl, h1, h2, fun b hb => Nat.eq_of_beq_eq_true hb, fun s2 g1 g2 => ?_⟩
      simp only [allocA, hp, g1, g2]
    · cases h
  cases op <;> simp only [aop] at h <;> try (cases hcls; done)
  case alloc t =>
    simp only [clsOp] at hcls
    split at hcls
    · rename_i t'
      split at hcls
      · rename_i hp
        split at h
        · rename_i cs hz
          obtain ⟨h1, h2, h3, h4, h5⟩ := alc t' cs hp h
          exact ⟨t', cs, rfl, h1, h2, h3, h4, fun s2 _ g1 g2 => by simp only [aop, hz]; exact h5 s2 g1 g2⟩
        · cases h
      · cases hcls
    · cases hcls
  case box t x =>
    simp only [clsOp] at hcls
    split at hcls
    · rename_i t'
      split at hcls
      · rename_i hp
        split at h
        · rename_i v hv
          split at h
          · rename_i h1'
            obtain ⟨h1, h2, h3, h4, h5⟩ := alc t' _ hp h
            refine ⟨t', _, rfl, h1, h2, h3, h4, fun s2 hs g1 g2 => ?_⟩
            have hv2 : val s2 x = some v := by rw [val_same (hs x (by simp [Op.operands]))]; exact hv
            simp only [aop, hv2, h1']
            exact h5 s2 g1 g2
          · cases h
        · cases h
      · cases hcls
    · cases hcls
  case buildSlice t n ps =>
    simp only [clsOp] at hcls
    split at hcls
    · rename_i t'
      split at hcls
      · rename_i hp
        split at h
        · rename_i el l hu hl
          split at h
          · rename_i z k hz hk
            split at h
            · rename_i cs hle hcs
              split at h
              · rename_i t2 h1 ht2
                injection ht2 with ht2; subst ht2
                simp only [hp] at h
                split at h
                · rename_i g1 g2
                  injection h with h; injection h with e1 e2; subst e1; subst e2
                  refine ⟨t', cs, rfl, rfl, g1, g2, fun b hb => Nat.eq_of_beq_eq_true hb, fun s2 hs q1 q2 => ?_⟩
                  have hp2 : partsA s2 ps.toList = some l := by
                    rw [parts_same (fun p hp => hs p.2 (by simp [Op.operands]; exact ⟨p.1, by simpa using hp⟩))]; exact hl
                  simp only [aop, hu, hp2, hz, hk, hle, hcs, h1, hp, q1, q2]
                · cases h
              · cases h
            · cases h
          · cases h
        · cases h
      · cases hcls
    · cases hcls
  case call c =>
    obtain ⟨callee, xs, ats⟩ := c
    cases callee with
    | invoke r n => cases hcls
    | builtin b => cases b <;> cases hcls
    | value f => cases hcls
theorem wr_frame (hcls : clsOp C.ann o = .wr) (h : aop C o s K0 = some (e, s')) : (∀ b, eref b e = false) ∧ s'.env = s.env ∧
    ((s'.loc = s.loc ∧ ∀ s2, SameO o s s2 → s2.mem = s.mem → (∀ x ∈ o.op.operands.toList, ∀ ev, opnd s x = some ev → ∀ b, eref b ev = true → lk s2.loc b = lk s.loc b) → aop C o s2 K0 = some (e, { s2 with mem := s'.mem })) ∨
     (s'.mem = s.mem ∧ ∃ b cs, lk s.loc b ≠ none ∧ s'.loc = up s.loc b cs ∧ (∃ x ∈ o.op.operands.toList, ∃ ev, opnd s x = some ev ∧ eref b ev = true) ∧
      ∀ s2, SameO o s s2 → s2.mem = s.mem → (∀ x ∈ o.op.operands.toList, ∀ ev, opnd s x = some ev → ∀ b, eref b ev = true → lk s2.loc b = lk s.loc b) → aop C o s2 K0 = some (e, { s2 with loc := up s2.loc b cs }))) := by
  obtain ⟨dst, op, type, pos, after, guard⟩ := o
  cases op <;> try (cases hcls; done)
  case alloc t =>
    simp only [clsOp] at hcls
    split at hcls
    · split at hcls <;> cases hcls
    · skip
      simp only [aop, allocA] at h
      split at h <;> cases h
  case box t x =>
    simp only [clsOp] at hcls
    split at hcls
    · split at hcls <;> cases hcls
    · skip
      simp only [aop, allocA] at h
      repeat' split at h
      all_goals cases h
  case buildSlice t n ps =>
    simp only [clsOp] at hcls
    split at hcls
    · split at hcls <;> cases hcls
    · skip
      simp only [aop] at h
      repeat' split at h
      all_goals first | (cases h; done) | contradiction | simp_all
  case store t x y =>
    simp only [aop] at h
    split at h
    · rename_i v hv
      unfold storeA at h
      split at h
      · cases h
      · cases h
      · rename_i n hn
        split at h
        · rename_i g1 g2
          split at h
          · rename_i b off hx
            split at h
            · rename_i cs hcs
              rw [pb_eq] at h
              split at h
              · rename_i hle
                injection h with h; injection h with e1 e2; subst e1; subst e2
                refine ⟨fun _ => rfl, rfl, .inr ⟨rfl, b, _, by rw [hcs]; simp, rfl, ⟨x, by simp [Op.operands], _, hx, Nat.beq_refl b⟩, fun s2 hs hm hl => ?_⟩⟩
                have k1 : val s2 y = some v := by rw [val_same (hs y (by simp [Op.operands]))]; exact hv
                have k2 : opnd s2 x = some (.l b off) := by rw [hs x (by simp [Op.operands])]; exact hx
                have k3 : lk s2.loc b = some cs := by rw [hl x (by simp [Op.operands]) _ hx b (Nat.beq_refl b)]; exact hcs
                simp only [aop, k1, storeA, hn, g1, g2, k2, k3, pb_eq, if_pos hle]
              · cases h
            · cases h
          · rename_i a hx
            rw [ob_eq] at h
            obtain ⟨M, hM, h⟩ := Option.bind_eq_some_iff.1 h
            injection h with h; injection h with e1 e2; subst e1; subst e2
            refine ⟨fun _ => rfl, rfl, .inl ⟨rfl, fun s2 hs hm hl => ?_⟩⟩
            have k1 : val s2 y = some v := by rw [val_same (hs y (by simp [Op.operands]))]; exact hv
            have k2 : opnd s2 x = some (.v (.pointer (some a))) := by rw [hs x (by simp [Op.operands])]; exact hx
            simp only [aop, k1, storeA, hn, g1, g2, k2, hm, hM, ob_eq, Option.bind_some]
          · cases h
        · cases h
    · cases h
  case call c =>
    obtain ⟨callee, xs, ats⟩ := c
    cases callee with
    | invoke r n => cases hcls
    | value f => cases hcls
    | builtin b =>
      have src : ∀ (s2 : St) (z n : Nat) (y : Operand), s2.mem = s.mem → (∀ ev, opnd s y = some ev → ∀ b, eref b ev = true → lk s2.loc b = lk s.loc b) → srcA C s2 z n (opnd s y) = srcA C s z n (opnd s y) := fun s2 z n y hm hl => by
        unfold srcA
        cases hy : opnd s y with
        | none => rfl
        | some ev =>
          cases ev with
          | u => rfl
          | l t off => rfl
          | s t k => simp only; rw [hl _ hy t (Nat.beq_refl t)]
          | v q => cases q <;> first | rfl | (simp only [hm])
      simp only [aop] at h
      cases b <;> first | (cases h; done) | (cases hcls; done) | skip
      · -- append
        simp only [builtinA] at h
        split at h
        · rename_i x y hxs
          have hmx : ∀ s2, SameO ⟨dst, .call ⟨.builtin .append, xs, ats⟩, type, pos, after, guard⟩ s s2 → opnd s2 x = opnd s x ∧ opnd s2 y = opnd s y := fun s2 hs => ⟨hs x (by simp [Op.operands, Call.operands, hxs]), hs y (by simp [Op.operands, Call.operands, hxs])⟩
          unfold appendA at h
          split at h
          · rename_i t u hats
            split at h
            · rename_i el el2 A n c mm hu hu2 hx hy
              split at h
              · rename_i z b zz hz hb hzz
                rw [ob_eq] at h
                obtain ⟨vs, hvs, h⟩ := Option.bind_eq_some_iff.1 h
                rw [ob_eq] at h
                obtain ⟨r, hr, h⟩ := Option.bind_eq_some_iff.1 h
                injection h with h; injection h with e1 e2; subst e1; subst e2
                refine ⟨fun _ => rfl, rfl, .inl ⟨rfl, fun s2 hs hm hl => ?_⟩⟩
                obtain ⟨q1, q2⟩ := hmx s2 hs
                have hs2 := src s2 (z + 1) mm y hm (fun ev hev b hb => hl y (by simp [Op.operands, Call.operands, hxs]) ev hev b hb)
                simp only [aop, builtinA, hxs, appendA, hats, hu, hu2, q1, q2, hx, hy, hz, hb, hzz, hs2, hm]
                rw [hvs]
                show ob (s.mem.app C.lo (z + 1) (b + 1) ⟨A, n, c⟩ vs mm) _ = _
                rw [hr]
              · cases h
            · cases h
          · cases h
        · cases h
      · -- clear
        simp only [builtinA] at h
        split at h
        · rename_i x hxs
          unfold clearA at h
          split at h
          · rename_i t hats
            split at h
            · rename_i el A n c hu hx
              split at h
              · cases h
              · rename_i z1 zs hzs
                rw [pb_eq] at h
                split at h
                · rename_i h0
                  injection h with h; injection h with e1 e2; subst e1; subst e2
                  refine ⟨fun _ => rfl, rfl, .inl ⟨rfl, fun s2 hs hm hl => ?_⟩⟩
                  have q1 := hs x (by simp [Op.operands, Call.operands, hxs])
                  simp only [aop, builtinA, hxs, clearA, hats, hu, q1, hx, hzs, pb_eq, if_pos h0, ← hm]
                · rename_i h0
                  rw [ob_eq] at h
                  obtain ⟨a, ha, h⟩ := Option.bind_eq_some_iff.1 h
                  rw [ob_eq] at h
                  obtain ⟨M, hM, h⟩ := Option.bind_eq_some_iff.1 h
                  injection h with h; injection h with e1 e2; subst e1; subst e2
                  refine ⟨fun _ => rfl, rfl, .inl ⟨rfl, fun s2 hs hm hl => ?_⟩⟩
                  have q1 := hs x (by simp [Op.operands, Call.operands, hxs])
                  simp only [aop, builtinA, hxs, clearA, hats, hu, q1, hx, hzs, pb_eq, if_neg h0, ha, hm]
                  show ob (s.mem.st C.lo a (zerosL (z1 :: zs) n)) _ = _
                  rw [hM]
              · cases h
            · cases h
          · cases h
        · cases h
      · -- copy
        simp only [builtinA] at h
        split at h
        · rename_i x y hxs
          unfold copyA at h
          split at h
          · rename_i t u hats
            split at h
            · rename_i el el2 A n c mm hu hu2 hx hy
              split at h
              · rename_i z hz
                rw [ob_eq] at h
                obtain ⟨vs, hvs, h⟩ := Option.bind_eq_some_iff.1 h
                rw [pb_eq] at h
                have hq : ∀ s2, SameO ⟨dst, .call ⟨.builtin .copy, xs, ats⟩, type, pos, after, guard⟩ s s2 → s2.mem = s.mem → (∀ x ∈ (Op.call ⟨.builtin .copy, xs, ats⟩).operands.toList, ∀ ev, opnd s x = some ev → ∀ b, eref b ev = true → lk s2.loc b = lk s.loc b) →
                    opnd s2 x = opnd s x ∧ opnd s2 y = opnd s y ∧ srcA C s2 (z + 1) (Nat.min mm n) (opnd s y) = some vs := fun s2 hs hm hl =>
                  ⟨hs x (by simp [Op.operands, Call.operands, hxs]), hs y (by simp [Op.operands, Call.operands, hxs]), by rw [src s2 (z + 1) _ y hm (fun ev hev b hb => hl y (by simp [Op.operands, Call.operands, hxs]) ev hev b hb)]; exact hvs⟩
                split at h
                · rename_i h0
                  injection h with h; injection h with e1 e2; subst e1; subst e2
                  refine ⟨fun _ => rfl, rfl, .inl ⟨rfl, fun s2 hs hm hl => ?_⟩⟩
                  obtain ⟨q1, q2, q3⟩ := hq s2 hs hm hl
                  simp only [aop, builtinA, hxs, copyA, hats, hu, hu2, q1, q2, hx, hy, hz, q3, pb_eq, if_pos h0, ← hm]
                · rename_i h0
                  rw [ob_eq] at h
                  obtain ⟨a, ha, h⟩ := Option.bind_eq_some_iff.1 h
                  rw [ob_eq] at h
                  obtain ⟨M, hM, h⟩ := Option.bind_eq_some_iff.1 h
                  injection h with h; injection h with e1 e2; subst e1; subst e2
                  refine ⟨fun _ => rfl, rfl, .inl ⟨rfl, fun s2 hs hm hl => ?_⟩⟩
                  obtain ⟨q1, q2, q3⟩ := hq s2 hs hm hl
                  simp only [aop, builtinA, hxs, copyA, hats, hu, hu2, q1, q2, hx, hy, hz, q3, pb_eq, if_neg h0, ha, hm]
                  show ob (s.mem.st C.lo a vs) _ = _
                  rw [hM]
              · cases h
            · cases h
          · cases h
        · cases h
end
end Go.Zt
