/- What the law PoolNames needs of the text Ab14. -/
import Derived.Test.YtjmahpemdghncaaPAb13
set_option linter.unusedVariables false
set_option linter.unusedSimpArgs false
namespace Go.Zt
open Go.RowKit
structure SRel (nt B lo : Nat) (w0 : World) (m0 : Mp) (M0 : Mem) (s : St) (m : Mp) (ml : Nat → Nat) (a : Act) (w : World) : Prop where
  mi : MI B lo w0 m0 M0 m ml s.mem s.loc w
  env : ∀ t e, lk s.env t = some e → ER m s.mem ml e (a.eval (.tmp t))
  size : a.tmps.size = nt
  defers : a.defers = []
section
variable {C : Ctx} {nt B lo : Nat} {w0 : World} {m0 : Mp} {M0 : Mem} {m : Mp} {ml : Nat → Nat} {s s' : St} {w : World} {a : Act} {ops : Array Oper}
structure Eqv (s s' : St) : Prop where
  env : ∀ t, lk s.env t = lk s'.env t
  ref : ∀ t, noRef t s.env = noRef t s'.env
  loc : ∀ t, lk s.loc t = lk s'.loc t
  mem : s.mem = s'.mem
theorem Eqv.refl (s : St) : Eqv s s := ⟨fun _ => rfl, fun _ => rfl, fun _ => rfl, rfl⟩
theorem Eqv.symm (h : Eqv s s') : Eqv s' s := ⟨fun t => (h.env t).symm, fun t => (h.ref t).symm, fun t => (h.loc t).symm, h.mem.symm⟩
theorem Eqv.trans {s'' : St} (h : Eqv s s') (k : Eqv s' s'') : Eqv s s'' := ⟨fun t => (h.env t).trans (k.env t), fun t => (h.ref t).trans (k.ref t), fun t => (h.loc t).trans (k.loc t), h.mem.trans k.mem⟩
theorem MI.loc {M : Mem} {loc loc' : List (Nat × List Value)} (h : MI B lo w0 m0 M0 m ml M loc w) (hl : ∀ t, lk loc t = lk loc' t) : MI B lo w0 m0 M0 m ml M loc' w :=
  ⟨h.rel, ⟨fun t cs ht => h.lrel.box t cs (by rw [hl]; exact ht), fun t cs b k ht => h.lrel.apart t cs b k (by rw [hl]; exact ht), fun t t' cs cs' ht ht' => h.lrel.inj t t' cs cs' (by rw [hl]; exact ht) (by rw [hl]; exact ht'), fun t cs ht => h.lrel.one t cs (by rw [hl]; exact ht)⟩,
    h.ext, h.fr, h.k3, fun t cs ht => h.locNew t cs (by rw [hl]; exact ht), h.hB⟩
theorem SRel.eqv (h : SRel nt B lo w0 m0 M0 s m ml a w) (he : Eqv s s') : SRel nt B lo w0 m0 M0 s' m ml a w :=
  ⟨by rw [← he.mem]; exact h.mi.loc he.loc, fun t e ht => by rw [← he.mem]; exact h.env t e (by rw [he.env]; exact ht), h.size, h.defers⟩
theorem SRel.setup (h : SRel nt B lo w0 m0 M0 s m ml a w) (hc : CallsOk C.P C.call) (hlo : lo ≤ C.lo) (htop : C.lo ≤ s.mem.length) : Setup C B lo w0 m0 M0 m ml s w a.eval where
  call := hc
  flo := .inl hlo
  top := htop
  mi := h.mi
  rho := fun x ev hx => by
    cases x with
    | tmp t => exact h.env t ev hx
    | const v =>
      simp only [opnd] at hx
      split at hx
      · rename_i hp
        injection hx with hx; subst hx
        exact VR.const hp
      · cases hx
    | global g => cases hx
    | func f =>
      injection hx with hx; subst hx
      exact VR.func _ _ _ _ _ rfl rfl (fun i x y hx => by simp at hx) (fun i x y hx => by simp at hx)
theorem lk_ref {env : List (Nat × EV)} {u t off : Nat} : lk env u = some (.l t off) → noRef t env = false := by
  induction env with
  | nil => intro h; cases h
  | cons p r ih =>
    obtain ⟨v, e⟩ := p
    intro h
    rw [lk_cons] at h
    split at h
    · injection h with h; subst h
      simp [noRef, Nat.beq_refl]
    · have := ih h
      cases e <;> simp only [noRef] <;> first | exact this | (split <;> first | rfl | exact this)
theorem lk_refS {env : List (Nat × EV)} {u t n : Nat} : lk env u = some (.s t n) → noRef t env = false := by
  induction env with
  | nil => intro h; cases h
  | cons p r ih =>
    obtain ⟨v, e⟩ := p
    intro h
    rw [lk_cons] at h
    split at h
    · injection h with h; subst h
      simp [noRef, Nat.beq_refl]
    · have := ih h
      cases e <;> simp only [noRef] <;> first | exact this | (split <;> first | rfl | exact this)
theorem eval_put (a : Act) (d : Nat) (v : Value) (hd : d < a.tmps.size) (t : Nat) : (a.put (some d) v).eval (.tmp t) = if d = t then v else a.eval (.tmp t) := by
  simp only [Act.eval, Act.put, Array.getD_eq_getD_getElem?]
  by_cases h : d = t
  · subst h
    simp [hd]
  · rw [Array.getElem?_setIfInBounds_ne h, if_neg h]
noncomputable def putD (C : Ctx) (dst : Option Tmp) (e : EV) (s : St) : Option St := putE C dst e s some
theorem putE_eq {R : Type} (C : Ctx) (dst : Option Tmp) (e : EV) (s : St) (K : St → Option R) : putE C dst e s K = (putD C dst e s).bind K := by
  unfold putD putE
  cases dst with
  | none => rfl
  | some t => simp only; split <;> rfl
theorem putD_inv {dst : Option Tmp} {e : EV} (h : putD C dst e s = some s') : (dst = none ∧ s' = s) ∨ ∃ t, dst = some t ∧ t < C.nt ∧ s' = { s with env := (t, e) :: s.env } := by
  unfold putD putE at h
  cases dst with
  | none => injection h with h; exact .inl ⟨rfl, h.symm⟩
  | some t =>
    simp only at h
    split at h
    · rename_i hb
      injection h with h
      refine .inr ⟨t, rfl, ?_, h.symm⟩
      exact Nat.le_of_ble_eq_true hb
    · cases h
theorem SRel.put (h : SRel C.nt B lo w0 m0 M0 s m ml a w) {dst : Option Tmp} {e : EV} {v : Value} (her : ER m s.mem ml e v) (hp : putD C dst e s = some s') : SRel C.nt B lo w0 m0 M0 s' m ml (a.put dst v) w := by
  rcases putD_inv hp with ⟨rfl, rfl⟩ | ⟨t, rfl, ht, rfl⟩
  · exact h
  · have hd : t < a.tmps.size := by rw [h.size]; exact ht
    refine ⟨h.mi, fun u e' hu => ?_, by simpa [Act.put] using h.size, h.defers⟩
    rw [eval_put a t v hd]
    simp only [lk_cons] at hu
    split at hu
    · rename_i htu
      injection hu with hu; subst hu
      rw [if_pos htu]; exact her
    · rename_i htu
      rw [if_neg htu]; exact h.env u e' hu
theorem SRel.post (h : SRel nt B lo w0 m0 M0 s m ml a w) {e : EV} {cv : Value} {w' : World} {m' : Mp} {ml' : Nat → Nat} (hp : OpPost B lo w0 m0 M0 m ml s e s' cv w' m' ml') : SRel nt B lo w0 m0 M0 s' m' ml' a w' := by
  refine ⟨hp.mi, fun t e' ht => ?_, h.size, h.defers⟩
  rw [hp.env] at ht
  have h1 := h.env t e' ht
  cases e' with
  | u => exact h1
  | v x => exact VR.ext hp.ext h1
  | l b off =>
    have := hp.old b (.inr (lk_ref ht))
    simp only [ER] at h1 ⊢
    rw [this]; exact h1
  | s b n =>
    have := hp.old b (.inr (lk_refS ht))
    simp only [ER] at h1 ⊢
    rw [this]; exact h1
noncomputable def stepD (C : Ctx) (ops : Array Oper) (o : Oper) (s : St) : Option St :=
  match o.guard with
  | none => (aopD C o s).bind fun p => putD C o.dst p.1 p.2
  | some (g, want) =>
    match guardTmp ops g with
    | some t => match lk s.env t with
      | some (.v (.bool b)) =>
        if b = want then (aopD C o { s with env := (t, .v (.bool b)) :: s.env }).bind fun p => putD C o.dst p.1 p.2
        else putD C o.dst .u { s with env := (t, .v (.bool b)) :: s.env }
      | some .u => putD C o.dst .u s
      | _ => none
    | none => none
theorem oneOp_eq {R : Type} (C : Ctx) (ops : Array Oper) (o : Oper) (s : St) (K : St → Option R) : oneOp C ops o s K = (stepD C ops o s).bind K := by
  have key : ∀ s : St, (aop C o s fun e s' => putE C o.dst e s' K) = ((aopD C o s).bind fun p => putD C o.dst p.1 p.2).bind K := fun s => by
    rw [aop_eq]
    cases aopD C o s with
    | none => rfl
    | some p => simp only [Option.bind_some, putE_eq]
  unfold oneOp stepD
  cases o.guard with
  | none => exact key s
  | some q =>
    obtain ⟨g, want⟩ := q
    simp only
    cases guardTmp ops g with
    | none => rfl
    | some t =>
      simp only
      cases lk s.env t with
      | none => rfl
      | some e =>
        cases e with
        | u => exact putE_eq _ _ _ _ _
        | l b off => rfl
        | s b n => rfl
        | v x =>
          cases x with
          | bool b => cases want <;> cases b <;> first | exact key _ | exact putE_eq _ _ _ _ _
          | _ => rfl
theorem guardTmp_eq (ops : Array Oper) (g : Nat) : guardTmp ops g = (ops[g]?).bind (·.dst) := rfl
theorem eval_bool {t : Nat} {b : Bool} (h : a.eval (.tmp t) = .bool b) : a.tmps[t]? = some (.bool b) := by
  simp only [Act.eval, Array.getD_eq_getD_getElem?] at h
  cases hx : a.tmps[t]? with
  | none => rw [hx] at h; cases h
  | some v => rw [hx] at h; simpa using h
theorem step_sound (hc : CallsOk C.P C.call) (hs : SRel C.nt B lo w0 m0 M0 s m ml a w) (hlo : lo ≤ C.lo) (htop : C.lo ≤ s.mem.length) {o : Oper} (h : stepD C ops o s = some s') :
    if Region.wanted o (yielded ops a.tmps) = true then OpWp C.P (execOp a.eval o) w (fun v w' => ∃ m' ml', SRel C.nt B lo w0 m0 M0 s' m' ml' (a.put o.dst v) w')
    else SRel C.nt B lo w0 m0 M0 s' m ml (a.put o.dst undef) w := by
  have key : ∀ s : St, SRel C.nt B lo w0 m0 M0 s m ml a w → C.lo ≤ s.mem.length → ((aopD C o s).bind fun p => putD C o.dst p.1 p.2) = some s' → OpWp C.P (execOp a.eval o) w (fun v w' => ∃ m' ml', SRel C.nt B lo w0 m0 M0 s' m' ml' (a.put o.dst v) w') := fun s hs htop h => by
    cases ha : aopD C o s with
    | none => rw [ha] at h; cases h
    | some p =>
      rw [ha, Option.bind_some] at h
      refine OpWp.mono (aop_sound (hs.setup hc hlo htop) (fun _ => rfl) ha) fun v w' ⟨m', ml', hp⟩ => ⟨m', ml', ?_⟩
      exact (hs.post hp).put hp.er h
  unfold stepD at h
  split at h
  · rename_i hg
    rw [if_pos (by simp [Region.wanted, hg])]
    exact key s hs htop h
  · rename_i g want hg
    split at h
    · rename_i t ht
      rw [guardTmp_eq] at ht
      have hy : yielded ops a.tmps g = match a.tmps[t]? with | some (.bool b) => some b | _ => none := by
        simp only [yielded, ht, Option.bind_some]
        rfl
      split at h
      · rename_i b hb
        have hev := VR.bool_inv (hs.env t _ hb)
        have hy' : yielded ops a.tmps g = some b := by rw [hy, eval_bool hev]
        have he : Eqv s { s with env := (t, .v (.bool b)) :: s.env } := ⟨fun u => by
            simp only [lk_cons]; split
            · rename_i h'; subst h'; exact hb
            · rfl, fun u => rfl, fun u => rfl, rfl⟩
        split at h
        · rename_i hbw
          rw [if_pos (by simp [Region.wanted, hg, hy', hbw])]
          exact key _ (hs.eqv he) htop h
        · rename_i hbw
          rw [if_neg (by simp [Region.wanted, hg, hy', hbw])]
          exact (hs.eqv he).put (e := .u) (show _ = _ from rfl) h
      · rename_i hb
        have hev : a.eval (.tmp t) = undef := hs.env t _ hb
        have hy' : yielded ops a.tmps g = none := by
          rw [hy]
          simp only [Act.eval, Array.getD_eq_getD_getElem?] at hev
          cases hx : a.tmps[t]? with
          | none => rfl
          | some v => rw [hx] at hev; simp at hev; subst hev; rfl
        rw [if_neg (by simp [Region.wanted, hg, hy'])]
        exact hs.put (e := .u) (show _ = _ from rfl) h
      · cases h
    · cases h
theorem wp_of_op {P : Program} {o : Oper} {Q : Exit → Act → World → Prop} {next : Act → World → Prop} {Kv : Value → World → Prop} (h : OpWp P (execOp a.eval o) w Kv) (hn : ∀ v w', Kv v w' → next (a.put o.dst v) w') : o.wp P a w next Q := by
  unfold OpWp at h
  unfold Oper.wp
  split at h
  · rename_i v w' hr; rw [hr]; exact hn _ _ h
  · rename_i w' hr; rw [hr]; exact hn _ _ h
  · rename_i f args w' hr
    rw [hr, Oper.upon_enter]
    exact Calls.mono h fun e w'' ⟨v, he, hk⟩ => by subst he; exact hn _ _ hk
  · exact h.elim
theorem wpOp_sound (hc : CallsOk C.P C.call) (hs : SRel C.nt B lo w0 m0 M0 s m ml a w) (hlo : lo ≤ C.lo) (htop : C.lo ≤ s.mem.length) {o : Oper} {i : Nat} (hi : ops[i]? = some o) (h : stepD C ops o s = some s')
    {Q : Exit → Act → World → Prop} {K : Act → World → Prop} (hK : ∀ m' ml' a' w', SRel C.nt B lo w0 m0 M0 s' m' ml' a' w' → K a' w') : wpOp C.P ops Q i K a w := by
  have hst := step_sound (ops := ops) hc hs hlo htop h
  unfold wpOp
  rw [hi]
  simp only
  split
  · rename_i hw
    rw [if_pos hw] at hst
    exact .inl (wp_of_op hst fun v w' ⟨m', ml', h'⟩ => hK _ _ _ _ h')
  · rename_i hw
    rw [if_neg hw] at hst
    exact hK _ _ _ _ hst
theorem SRel.over (hs : SRel nt B lo w0 m0 M0 s m ml a w) (h : lo ≤ M0.length) : lo ≤ s.mem.length := Nat.le_trans h hs.mi.ext.len
theorem ops_sound (hc : CallsOk C.P C.call) (hlo : C.lo = lo) (hM : lo ≤ M0.length) {R : Type} {r : R} {K : St → Option R} {Q : Exit → Act → World → Prop}
    (hQ : ∀ s' m' ml' a' w', K s' = some r → SRel C.nt B lo w0 m0 M0 s' m' ml' a' w' → Q .normal a' w') :
    ∀ (l : List Oper) (k : Nat) {s : St} {m : Mp} {ml : Nat → Nat} {a : Act} {w : World}, (∀ j, l[j]? = ops[k + j]?) → SRel C.nt B lo w0 m0 M0 s m ml a w → runOps C ops l s K = some r → wpOps C.P ops Q (List.range' k l.length) a w
  | [], k, s, m, ml, a, w, _, hs, h => by simp only [List.length_nil, List.range'_zero, wpOps]; exact hQ _ _ _ _ _ h hs
  | o :: l, k, s, m, ml, a, w, hl, hs, h => by
    simp only [runOps] at h
    rw [oneOp_eq] at h
    cases hd : stepD C ops o s with
    | none => rw [hd] at h; cases h
    | some s1 =>
      rw [hd, Option.bind_some] at h
      rw [List.length_cons, List.range'_succ, wpOps_cons]
      refine wpOp_sound hc hs (by omega) (by rw [hlo]; exact hs.over hM) (by have := hl 0; simpa using this.symm) hd fun m' ml' a' w' hs' => ?_
      exact ops_sound hc hlo hM hQ l (k + 1) (fun j => by rw [show k + 1 + j = k + (j + 1) by omega, ← hl (j + 1)]; rfl) hs' h
end
end Go.Zt
