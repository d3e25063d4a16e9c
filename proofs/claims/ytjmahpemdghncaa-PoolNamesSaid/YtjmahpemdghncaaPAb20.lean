/- What the law PoolNames needs of the text Ab20. -/
import Derived.Test.YtjmahpemdghncaaPAb19
set_option linter.unusedVariables false
set_option linter.unusedSimpArgs false
namespace Go.Zt
section
variable {C : Ctx} {s s' s1 s2 : St} {e : EV} {o : Oper} {b : Nat} {ops : Array Oper}
structure Upd (o : Oper) (e : EV) (s s1 : St) : Prop where
  env : ∀ t, lk s1.env t = if o.dst = some t then some e else lk s.env t
  ref : ∀ t, noRef t s1.env = (noRef t s.env && !(o.dst.isSome && eref t e))
def LocUpd (lu : Option (Nat × List Value)) (s s1 : St) : Prop := ∀ t, lk s1.loc t = match lu with
  | some (b, cs) => if b = t then some cs else lk s.loc t
  | none => lk s.loc t
def Still (c : Cls) : Prop := c = .pure ∨ c = .new ∨ c = .ld
structure Hyp (C : Ctx) (o : Oper) (s s2 : St) : Prop where
  box : clsOp C.ann o = .ld ∨ clsOp C.ann o = .wr → ∀ b, OpRef b o s → lk s2.loc b = lk s.loc b
  new : clsOp C.ann o = .new → ∀ t, o.dst = some t → lk s.loc t = none → noRef t s.env = true → lk s2.loc t = none ∧ noRef t s2.env = true
  ld : clsOp C.ann o = .ld → ∀ b, (∀ n, C.top = some n → b < n) → s2.mem[b]? = s.mem[b]?
  mem : clsOp C.ann o = .eff ∨ clsOp C.ann o = .wr → s2.mem = s.mem
structure Framed (C : Ctx) (o : Oper) (X : St → Option St) (Same : St → St → Prop) (s s1 : St) (e : EV) (lu : Option (Nat × List Value)) : Prop where
  upd : Upd o e s s1
  loc : LocUpd lu s s1
  box : ∀ b cs, lu = some (b, cs) → (clsOp C.ann o = .new ∧ o.dst = some b ∧ lk s.loc b = none ∧ noRef b s.env = true) ∨ (clsOp C.ann o = .wr ∧ lk s.loc b ≠ none ∧ OpRef b o s)
  mem : Still (clsOp C.ann o) → s1.mem = s.mem
  refs : ∀ b, eref b e = true → (clsOp C.ann o = .new ∧ o.dst = some b) ∨ OpRef b o s
  move : ∀ s2, Same s s2 → Hyp C o s s2 → ∃ s3, X s2 = some s3 ∧ Upd o e s2 s3 ∧ LocUpd lu s2 s3 ∧ (clsOp C.ann o = .eff ∨ clsOp C.ann o = .wr → s3.mem = s1.mem) ∧ (Still (clsOp C.ann o) → s3.mem = s2.mem)
theorem transport (h : aop C o s K0 = some (e, s')) (f : EV → St → EV × St) : (aop C o s fun e s' => some (f e s')) = some (f e s') := by
  have := aop_nat C o s K0 (fun p => some (f p.1 p.2))
  rw [h] at this
  exact this.symm
noncomputable def runP (C : Ctx) (o : Oper) (s : St) : Option St := (aopD C o s).bind fun p => putD C o.dst p.1 p.2
theorem put_upd {s' s1 : St} (h : putD C o.dst e s' = some s1) (he : s'.env = s.env) : Upd o e s s1 ∧ s1.loc = s'.loc ∧ s1.mem = s'.mem := by
  rcases putD_inv h with ⟨hd, rfl⟩ | ⟨t, hd, _, rfl⟩
  · refine ⟨⟨fun t => ?_, fun t => ?_⟩, rfl, rfl⟩
    · rw [hd, he]; simp
    · rw [hd, he]; simp
  · refine ⟨⟨fun u => ?_, fun u => ?_⟩, rfl, rfl⟩
    · rw [hd]
      simp only [lk_cons, he]
      by_cases h : t = u
      · rw [if_pos h, if_pos (by rw [h])]
      · rw [if_neg h, if_neg (by simpa using h)]
    · rw [hd]
      simp only [noRef_cons, he]
      cases eref u e <;> cases noRef u s.env <;> rfl
theorem put_again {s' s1 s2' : St} (h : putD C o.dst e s' = some s1) : ∃ s3, putD C o.dst e s2' = some s3 := by
  unfold putD putE at *
  cases hd : o.dst with
  | none => exact ⟨_, rfl⟩
  | some t =>
    rw [hd] at h
    simp only at h ⊢
    split at h
    · exact ⟨_, rfl⟩
    · cases h
theorem lk_upB {l : List (Nat × List Value)} {b t : Nat} {cs : List Value} (h : lk l b ≠ none) : lk (up l b cs) t = if b = t then some cs else lk l t := by
  rw [lk_up]
  split
  · rename_i h'
    subst h'
    cases hx : lk l b with
    | none => exact absurd hx h
    | some x => rfl
  · rfl
theorem framed_of (hd : aop C o s K0 = some (e, s')) (hp : putD C o.dst e s' = some s1) (henv : s'.env = s.env) {lu : Option (Nat × List Value)} (hloc : LocUpd lu s s')
    (hlu : ∀ b cs, lu = some (b, cs) → (clsOp C.ann o = .new ∧ o.dst = some b ∧ lk s.loc b = none ∧ noRef b s.env = true) ∨ (clsOp C.ann o = .wr ∧ lk s.loc b ≠ none ∧ OpRef b o s))
    (hmem : Still (clsOp C.ann o) → s'.mem = s.mem)
    (hmove : ∀ s2, SameO o s s2 → Hyp C o s s2 → ∃ s2', aop C o s2 K0 = some (e, s2') ∧ s2'.env = s2.env ∧ LocUpd lu s2 s2' ∧ (clsOp C.ann o = .eff ∨ clsOp C.ann o = .wr → s2'.mem = s'.mem) ∧ (Still (clsOp C.ann o) → s2'.mem = s2.mem)) :
    Framed C o (runP C o) (SameO o) s s1 e lu := by
  obtain ⟨h1, h2, h3⟩ := put_upd hp henv
  refine ⟨h1, fun t => by rw [h2]; exact hloc t, hlu, fun h => by rw [h3]; exact hmem h, fun b hb => aop_refs hd hb, fun s2 hs hh => ?_⟩
  obtain ⟨s2', g1, g2, g3, g4, g5⟩ := hmove s2 hs hh
  obtain ⟨s3, hs3⟩ := put_again (s2' := s2') hp
  obtain ⟨k1, k2, k3⟩ := put_upd hs3 g2
  refine ⟨s3, ?_, k1, fun t => by rw [k2]; exact g3 t, fun h => by rw [k3, h3]; exact g4 h, fun h => by rw [k3]; exact g5 h⟩
  show (aop C o s2 K0).bind _ = _
  rw [g1]; exact hs3
theorem framed_run (h : runP C o s = some s1) : ∃ e lu, Framed C o (runP C o) (SameO o) s s1 e lu := by
  unfold runP at h
  obtain ⟨⟨e, s'⟩, hd, hp⟩ := Option.bind_eq_some_iff.1 h
  have hd : aop C o s K0 = some (e, s') := hd
  cases hcls : clsOp C.ann o with
  | pure =>
    have h1 : s' = s := by
      have := pure_frame (s := s) (s2 := s) hcls (fun _ _ => rfl)
      rw [hd, transport hd (fun e _ => (e, s))] at this
      injection this with this; injection this
    subst h1
    refine ⟨e, none, framed_of hd hp rfl (fun t => rfl) (fun b cs h => by cases h) (fun _ => rfl) fun s2 hs hh => ⟨s2, ?_, rfl, fun t => rfl, fun h => (by rw [hcls] at h; rcases h with h | h <;> cases h), fun _ => rfl⟩⟩
    rw [pure_frame hcls hs]; exact transport hd (fun e _ => (e, s2))
  | ld =>
    have h1 : s' = s := by
      have := ld_frame (s := s) (s2 := s) hcls (fun _ _ => rfl) (fun _ _ _ _ _ _ => rfl) (fun _ _ => rfl)
      rw [hd, transport hd (fun e _ => (e, s))] at this
      injection this with this; injection this
    subst h1
    refine ⟨e, none, framed_of hd hp rfl (fun t => rfl) (fun b cs h => by cases h) (fun _ => rfl) fun s2 hs hh => ⟨s2, ?_, rfl, fun t => rfl, fun h => (by rw [hcls] at h; rcases h with h | h <;> cases h), fun _ => rfl⟩⟩
    rw [ld_frame hcls hs (fun x hx ev hev b hb => hh.box (.inl hcls) b ⟨x, hx, ev, hev, hb⟩) (hh.ld hcls)]; exact transport hd (fun e _ => (e, s2))
  | eff =>
    have h1 : s' = { s with mem := s'.mem } := by
      have := eff_frame (s := s) (s2 := s) hcls (fun _ _ => rfl) rfl
      rw [hd, transport hd (fun e s' => (e, { s with mem := s'.mem }))] at this
      injection this with this; injection this
    refine ⟨e, none, framed_of hd hp (by rw [h1]) (fun t => by rw [h1]) (fun b cs h => by cases h) (fun h => (by rw [hcls] at h; rcases h with h | h | h <;> cases h)) fun s2 hs hh => ⟨{ s2 with mem := s'.mem }, ?_, rfl, fun t => rfl, fun _ => rfl, fun h => (by rw [hcls] at h; rcases h with h | h | h <;> cases h)⟩⟩
    rw [eff_frame hcls hs (hh.mem (.inl hcls))]; exact transport hd (fun e s' => (e, { s2 with mem := s'.mem }))
  | new =>
    obtain ⟨t, cs, h1, rfl, h3, h4, h5, h6⟩ := new_frame hcls hd
    refine ⟨e, some (t, cs), framed_of hd hp rfl (fun u => by simp only [lk_cons]) (fun b cs' h => by injection h with h; injection h with e1 e2; subst e1; exact .inl ⟨hcls, h1, h3, h4⟩) (fun _ => rfl) fun s2 hs hh => ?_⟩
    obtain ⟨q1, q2⟩ := hh.new hcls t h1 h3 h4
    exact ⟨_, h6 s2 hs q1 q2, rfl, fun u => by simp only [lk_cons], fun h => (by rw [hcls] at h; rcases h with h | h <;> cases h), fun _ => rfl⟩
  | wr =>
    obtain ⟨h1, h2, h3⟩ := wr_frame hcls hd
    rcases h3 with ⟨h3, h4⟩ | ⟨h3, t, cs, h4, h5, h6, h7⟩
    · refine ⟨e, none, framed_of hd hp h2 (fun t => by rw [h3]) (fun b cs h => by cases h) (fun h => (by rw [hcls] at h; rcases h with h | h | h <;> cases h)) fun s2 hs hh => ⟨_, h4 s2 hs (hh.mem (.inr hcls)) (fun x hx ev hev b hb => hh.box (.inr hcls) b ⟨x, hx, ev, hev, hb⟩), rfl, fun t => rfl, fun _ => rfl, fun h => (by rw [hcls] at h; rcases h with h | h | h <;> cases h)⟩⟩
    · refine ⟨e, some (t, cs), framed_of hd hp h2 (fun u => by rw [h5]; exact lk_upB h4) (fun b cs' h => by injection h with h; injection h with e1 e2; subst e1; exact .inr ⟨hcls, h4, h6⟩) (fun h => (by rw [hcls] at h; rcases h with h | h | h <;> cases h)) fun s2 hs hh => ?_⟩
      have hm := hh.mem (.inr hcls)
      refine ⟨_, h7 s2 hs hm (fun x hx ev hev b hb => hh.box (.inr hcls) b ⟨x, hx, ev, hev, hb⟩), rfl, fun u => ?_, fun _ => hm.trans h3.symm, fun _ => rfl⟩
      exact lk_upB (by rw [hh.box (.inr hcls) t h6]; exact h4)
def Agree (ops : Array Oper) (o : Oper) (s s2 : St) : Prop := ∀ t ∈ o.looksAt ops, lk s2.env t = lk s.env t
theorem Agree.same (h : Agree ops o s s2) : SameO o s s2 := fun x hx => by
  cases x with
  | tmp t => exact h t (by simp only [Oper.looksAt, List.mem_append, List.mem_filterMap]; exact .inl ⟨_, hx, rfl⟩)
  | const v => rfl
  | global g => rfl
  | func f => rfl
theorem Agree.guard (h : Agree ops o s s2) {g : Nat} {w : Bool} (hg : o.guard = some (g, w)) {t : Nat} (ht : guardTmp ops g = some t) : lk s2.env t = lk s.env t := by
  refine h t ?_
  rw [guardTmp_eq] at ht
  simp only [Oper.looksAt, List.mem_append, hg]
  exact .inr (by rw [ht]; simp)
theorem Upd.eqv {s0 s3 : St} (he : Eqv s0 s) (h : Upd o e s s3) : Upd o e s0 s3 := ⟨fun t => by rw [h.env, he.env], fun t => by rw [h.ref, he.ref]⟩
theorem opnd_eqv (he : Eqv s s2) (x : Operand) : opnd s2 x = opnd s x := by
  cases x with
  | tmp t => exact (he.env t).symm
  | _ => rfl
theorem opRef_eqv (he : Eqv s s2) : OpRef b o s2 ↔ OpRef b o s := by
  unfold OpRef
  constructor
  · rintro ⟨x, hx, ev, h1, h2⟩; exact ⟨x, hx, ev, by rw [← opnd_eqv he]; exact h1, h2⟩
  · rintro ⟨x, hx, ev, h1, h2⟩; exact ⟨x, hx, ev, by rw [opnd_eqv he]; exact h1, h2⟩
theorem guardEqv {t : Nat} {b : Bool} (h : lk s.env t = some (.v (.bool b))) : Eqv s { s with env := (t, .v (.bool b)) :: s.env } :=
  ⟨fun u => by simp only [lk_cons]; split
               · rename_i h'; subst h'; exact h
               · rfl, fun u => rfl, fun u => rfl, rfl⟩
theorem Hyp.eqv {sg s2g : St} (h : Hyp C o s s2) (h1 : Eqv s sg) (h2 : Eqv s2 s2g) : Hyp C o sg s2g where
  box := fun hc b hb => by rw [← h2.loc, ← h1.loc]; exact h.box hc b ((opRef_eqv h1).1 hb)
  new := fun hc t ht ha hb => by rw [← h2.loc, ← h2.ref]; exact h.new hc t ht (by rw [h1.loc]; exact ha) (by rw [h1.ref]; exact hb)
  ld := fun hc b hb => by rw [← h2.mem, ← h1.mem]; exact h.ld hc b hb
  mem := fun hc => by rw [← h2.mem, ← h1.mem]; exact h.mem hc
theorem framed (h : stepD C ops o s = some s1) : ∃ e lu, Framed C o (stepD C ops o) (Agree ops o) s s1 e lu := by
  have idle : ∀ sg, Eqv s sg → putD C o.dst .u sg = some s1 → (∀ s2, Agree ops o s s2 → ∃ s2g, Eqv s2 s2g ∧ stepD C ops o s2 = putD C o.dst .u s2g) → ∃ e lu, Framed C o (stepD C ops o) (Agree ops o) s s1 e lu := fun sg he hp hm => by
    obtain ⟨k1, k2, k3⟩ := put_upd (s := sg) hp rfl
    refine ⟨.u, none, k1.eqv he, fun t => by rw [k2]; exact (he.loc t).symm, (fun b cs h => by cases h), fun _ => by rw [k3]; exact he.mem.symm, (fun b hb => by cases hb), fun s2 hs hh => ?_⟩
    obtain ⟨s2g, e1, e2⟩ := hm s2 hs
    obtain ⟨s3, hs3⟩ := put_again (s2' := s2g) hp
    obtain ⟨q1, q2, q3⟩ := put_upd (s := s2g) hs3 rfl
    refine ⟨s3, by rw [e2]; exact hs3, q1.eqv e1, fun t => by rw [q2]; exact (e1.loc t).symm, fun hc => by rw [q3, k3, ← e1.mem, ← he.mem]; exact hh.mem hc, fun _ => by rw [q3]; exact e1.mem.symm⟩
  have acts : ∀ sg, Eqv s sg → runP C o sg = some s1 → (∀ s2, Agree ops o s s2 → ∃ s2g, Eqv s2 s2g ∧ stepD C ops o s2 = runP C o s2g) → ∃ e lu, Framed C o (stepD C ops o) (Agree ops o) s s1 e lu := fun sg he hp hm => by
    obtain ⟨e, lu, hf⟩ := framed_run hp
    refine ⟨e, lu, hf.upd.eqv he, fun t => by rw [hf.loc t, he.loc], fun b cs h => ?_, fun h => by rw [hf.mem h]; exact he.mem.symm, fun b hb => (hf.refs b hb).imp id (opRef_eqv he).1, fun s2 hs hh => ?_⟩
    · rcases hf.box b cs h with ⟨a1, a2, a3, a4⟩ | ⟨a1, a2, a3⟩
      · exact .inl ⟨a1, a2, by rw [he.loc]; exact a3, by rw [he.ref]; exact a4⟩
      · exact .inr ⟨a1, by rw [he.loc]; exact a2, (opRef_eqv he).1 a3⟩
    · obtain ⟨s2g, e1, e2⟩ := hm s2 hs
      obtain ⟨s3, g1, g2, g3, g4, g5⟩ := hf.move s2g (fun x hx => by rw [opnd_eqv e1, opnd_eqv he]; exact hs.same x hx) (hh.eqv he e1)
      exact ⟨s3, by rw [e2]; exact g1, g2.eqv e1, fun t => by rw [g3 t, e1.loc], g4, fun h => by rw [g5 h]; exact e1.mem.symm⟩
  have h0 := h
  unfold stepD at h
  split at h
  · rename_i hg
    exact acts s (Eqv.refl s) h fun s2 hs => ⟨s2, Eqv.refl _, by unfold stepD runP; rw [hg]⟩
  · rename_i g want hg
    split at h
    · rename_i t ht
      split at h
      · rename_i b hb
        split at h
        · rename_i hbw
          refine acts _ (guardEqv hb) h fun s2 hs => ⟨_, guardEqv (by rw [hs.guard hg ht]; exact hb), ?_⟩
          have := hs.guard hg ht
          rw [hb] at this
          unfold stepD runP
          rw [hg]; simp only [ht, this, if_pos hbw]
        · rename_i hbw
          refine idle _ (guardEqv hb) h fun s2 hs => ⟨_, guardEqv (by rw [hs.guard hg ht]; exact hb), ?_⟩
          have := hs.guard hg ht
          rw [hb] at this
          unfold stepD
          rw [hg]; simp only [ht, this, if_neg hbw]
      · rename_i hb
        refine idle s (Eqv.refl s) h fun s2 hs => ⟨s2, Eqv.refl _, ?_⟩
        have := hs.guard hg ht
        rw [hb] at this
        unfold stepD
        rw [hg]; simp only [ht, this]
      · cases h
    · cases h
theorem step_eqv (h : stepD C ops o s = some s1) (he : Eqv s s2) : ∃ s3, stepD C ops o s2 = some s3 ∧ Eqv s1 s3 := by
  obtain ⟨e, lu, hf⟩ := framed h
  obtain ⟨s3, g1, g2, g3, g4, g5⟩ := hf.move s2 (fun t _ => (he.env t).symm) ⟨fun _ b _ => (he.loc b).symm, fun _ t _ h1 h2 => ⟨by rw [← he.loc]; exact h1, by rw [← he.ref]; exact h2⟩, fun _ b _ => by rw [he.mem], fun _ => he.mem.symm⟩
  refine ⟨s3, g1, fun t => ?_, fun t => ?_, fun t => ?_, ?_⟩
  · rw [hf.upd.env, g2.env, he.env]
  · rw [hf.upd.ref, g2.ref, he.ref]
  · rw [hf.loc t, g3 t]
    cases lu with
    | none => exact he.loc t
    | some p => simp only [he.loc]
  · cases hc : clsOp C.ann o with
    | eff => exact (g4 (.inl hc)).symm
    | wr => exact (g4 (.inr hc)).symm
    | pure => rw [hf.mem (.inl hc), g5 (.inl hc)]; exact he.mem
    | new => rw [hf.mem (.inr (.inl hc)), g5 (.inr (.inl hc))]; exact he.mem
    | ld => rw [hf.mem (.inr (.inr hc)), g5 (.inr (.inr hc))]; exact he.mem
end
end Go.Zt
