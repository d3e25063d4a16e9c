/- What the law PoolNames needs of the text Ab16. -/
import Derived.Test.YtjmahpemdghncaaPAb15
set_option linter.unusedVariables false
set_option linter.unusedSimpArgs false
namespace Go.Zt
open Go.RowKit
section
variable {C : Ctx} {B lo : Nat} {w0 : World} {m0 : Mp} {M0 : Mem} {m : Mp} {ml : Nat → Nat} {s s' : St} {w : World} {a : Act}
def resOne (tmps : Array Value) : ResultVar → Sem Value
  | .tmp t => pure (tmps.getD t undef)
  | .cell a t => do loadVar t (← asAddr (tmps.getD a undef))
theorem results_eq (fn : Func) (tmps : Array Value) : results fn tmps = (do let vs ← fn.results.mapM (resOne tmps); pure (if h : vs.size = 1 then vs[0] else .tuple vs)) := by
  unfold results
  congr 1
theorem loadE_sound (hs : SRel C.nt B lo w0 m0 M0 s m ml a w) (htop : C.top = none) {t : Nat} {ty : TypeId} {R : Type} {K : EV → St → Option R} {r : R} (h : loadA C ty (lk s.env t) s K = some r) :
    ∃ v cv, K (.v v) s = some r ∧ VR m s.mem v cv ∧ (resOne a.tmps (.cell t ty)).run C.P w = .ok cv w := by
  unfold loadA at h
  split at h
  · rename_i b off hx
    split at h
    · rename_i cs hcs
      have hr : a.eval (.tmp t) = .pointer (some ⟨ml b, off, none⟩) := hs.env t _ hx
      have hr : a.tmps.getD t undef = .pointer (some ⟨ml b, off, none⟩) := hr
      obtain ⟨v, cv, h1, h2, h3⟩ := run_getT (P := C.P) (w := w) h ⟨ml b, off, none⟩ (m := m) (M := s.mem) (fun i v hv => by
        have : (⟨ml b, off, none⟩ : Addr).add i = ⟨ml b, off + i, none⟩ := by unfold Addr.add; split <;> simp_all
        rw [this]
        exact hs.mi.lrel.ld hcs hv)
      refine ⟨v, cv, h1, h2, ?_⟩
      simp only [resOne, hr, asAddr, Sem.run_bind, Sem.run_pure, Result.andThen_ok]
      exact h3
    · cases h
  · rename_i p hx
    obtain ⟨c, hcx, ha⟩ := VR.ptr_inv (hs.env t _ hx)
    have hr : a.tmps.getD t undef = .pointer (some c) := hcx
    obtain ⟨v, cv, h1, h2, h3⟩ := run_getT (P := C.P) (w := w) h c (m := m) (M := s.mem) (fun i v hv => by
      have hv' : s.mem.ld (plus p i) = some v := by
        unfold ldM at hv
        rw [htop] at hv
        exact hv
      exact hs.mi.rel.ld (ha.plus i) hv')
    refine ⟨v, cv, h1, h2, ?_⟩
    simp only [resOne, hr, asAddr, Sem.run_bind, Sem.run_pure, Result.andThen_ok]
    exact h3
  · cases h
theorem resL_sound (hs : SRel C.nt B lo w0 m0 M0 s m ml a w) (htop : C.top = none) : ∀ {rs : List ResultVar} {K : List Value → Option Out} {out : Out}, resL C s rs K = some out →
    ∃ l cl, K l = some out ∧ LR m s.mem l cl ∧ (rs.mapM (resOne a.tmps)).run C.P w = .ok cl w
  | [], K, out, h => ⟨[], [], h, LR.nil, rfl⟩
  | .tmp t :: rs, K, out, h => by
    simp only [resL] at h
    split at h
    · rename_i v hv
      obtain ⟨l, cl, h1, h2, h3⟩ := resL_sound hs htop h
      refine ⟨v :: l, a.eval (.tmp t) :: cl, h1, LR.cons (hs.env t _ hv) h2, ?_⟩
      rw [List.mapM_cons]
      simp only [resOne, Sem.run_bind, Sem.run_pure, Result.andThen_ok, h3]
      rfl
    · cases h
  | .cell t ty :: rs, K, out, h => by
    simp only [resL] at h
    obtain ⟨v, cv, h1, h2, h3⟩ := loadE_sound hs htop h
    obtain ⟨l, cl, k1, k2, k3⟩ := resL_sound hs htop h1
    refine ⟨v :: l, cv :: cl, k1, LR.cons h2 k2, ?_⟩
    rw [List.mapM_cons]
    simp only [Sem.run_bind, h3, Sem.run_pure, Result.andThen_ok, k3]
theorem results_sound (hs : SRel C.nt B lo w0 m0 M0 s m ml a w) (htop : C.top = none) {fn : Func} {out : Out} (h : (resL C s fn.results.toList fun l => match l with | [v] => some (.ret v s.mem) | l => some (.ret (.tuple ⟨l⟩) s.mem)) = some out) :
    ∃ v cv, out = .ret v s.mem ∧ VR m s.mem v cv ∧ (results fn a.tmps).run C.P w = .ok cv w := by
  obtain ⟨l, cl, h1, h2, h3⟩ := resL_sound hs htop h
  have hm : (fn.results.mapM (resOne a.tmps)).run C.P w = .ok cl.toArray w := by
    rw [Array.mapM_eq_mapM_toList, map_eq_pure_bind, Sem.run_bind, h3]
    rfl
  have hrun : (results fn a.tmps).run C.P w = .ok (if h : cl.toArray.size = 1 then cl.toArray[0] else .tuple cl.toArray) w := by
    rw [results_eq]
    simp only [Sem.run_bind, hm, Result.andThen_ok, Sem.run_pure]
  split at h1
  · rename_i v
    injection h1 with h1
    obtain ⟨c, cl', rfl, hv, hn⟩ := h2.inv_cons
    obtain rfl := hn.inv_nil
    exact ⟨v, c, h1.symm, hv, by rw [hrun]; simp⟩
  · rename_i hne
    injection h1 with h1
    refine ⟨_, .tuple ⟨cl⟩, h1.symm, VR.tuple_of h2, ?_⟩
    rw [hrun, dif_neg]
    intro hsz
    have : l.length = 1 := by rw [h2.1]; simpa using hsz
    obtain ⟨x, rfl⟩ := List.length_eq_one_iff.1 this
    exact hne x rfl
theorem MI.callPost {M : Mem} {loc : List (Nat × List Value)} (h : MI B lo w0 m0 M0 m ml M loc w) {v cv : Value} (hv : VR m M v cv) : CallPost B lo m0 M0 w0 v M (.returned cv) w :=
  ⟨m, cv, rfl, hv, h.rel, h.ext, h.fr, h.k3⟩
theorem go_ret (pc : Nat → List EV → List (List Value) → Mem → Option Out) (n : Nat) (v : Value) (M : Mem) : go pc n (.ret v M) = some (v, M) := by cases n <;> rfl
theorem ret_ok {X : Fx} {fn : Func} (hX : X.b.kind = .normal) (hfn : C.P.funcs[X.b.fn]? = some fn) (htop : C.top = none) {pc : Nat → List EV → List (List Value) → Mem → Option Out} {n : Nat} {r : Value} {Mf : Mem}
    (hR : X.R = fun v w' => CallPost B C.lo m0 M0 w0 r Mf (.returned v) w') : KOk X C B w0 m0 M0 (fun out => go pc n out = some (r, Mf)) (retK C fn) [] := by
  have key : ∀ s out m ml a w todo, (resL C s fn.results.toList fun l => match l with | [v] => some (.ret v s.mem) | l => some (.ret (.tuple ⟨l⟩) s.mem)) = some out → go pc n out = some (r, Mf) → SRel C.nt B C.lo w0 m0 M0 s m ml a w →
      X.fin C.P (lone { X.b.at a todo with mode := .returning } X.cs w) := fun s out m ml a w todo h hG hs => by
    obtain ⟨v, cv, rfl, hv, hrun⟩ := results_sound hs htop h
    rw [go_ret] at hG
    injection hG with hG; injection hG with e1 e2; subst e1; subst e2
    exact ⟨cv, w, _, by rw [hR]; exact hs.mi.callPost hv, .refl _ _, rfl, rfl, hs.defers, hX, fn, hfn, hrun⟩
  intro e s out m ml a w h hG hs
  cases e with
  | nrm => exact Fx.step step_end (key s out m ml a w _ h hG hs)
  | ext id => cases h
  | ret => exact fun todo => key s out m ml a w todo h hG hs
theorem filtV_lk {α : Type} {l : List (Nat × α)} : ∀ {ts : List Nat} {xs : List α}, filtV l ts = some xs → ∀ t x, lk (zipL ts xs) t = some x → lk l t = some x
  | [], xs, h, t, x, hx => by simp only [filtV] at h; injection h with h; subst h; cases hx
  | u :: ts, xs, h, t, x, hx => by
    simp only [filtV] at h
    split at h
    · rename_i y ys hy hys
      injection h with h; subst h
      simp only [zipL, lk_cons] at hx
      split at hx
      · rename_i e; subst e; rw [← hx]; exact hy
      · exact filtV_lk hys t x hx
    · cases h
theorem SRel.cutTo (hs : SRel C.nt B lo w0 m0 M0 s m ml a w) {live locs : List Nat} {vs : List EV} {ls : List (List Value)} (h1 : filtV s.env live = some vs) (h2 : filtV s.loc locs = some ls) :
    SRel C.nt B lo w0 m0 M0 ⟨zipL live vs, zipL locs ls, s.mem⟩ m ml a w := by
  have hl := filtV_lk h2
  refine ⟨⟨hs.mi.rel, ⟨fun t cs ht => hs.mi.lrel.box t cs (hl t cs ht), fun t cs b k ht => hs.mi.lrel.apart t cs b k (hl t cs ht), fun t t' cs cs' ht ht' => hs.mi.lrel.inj t t' cs cs' (hl _ _ ht) (hl _ _ ht'), fun t cs ht => hs.mi.lrel.one t cs (hl t cs ht)⟩,
    hs.mi.ext, hs.mi.fr, hs.mi.k3, fun t cs ht => hs.mi.locNew t cs (hl t cs ht), hs.mi.hB⟩, fun t e ht => hs.env t e (filtV_lk h1 t e ht), hs.size, hs.defers⟩
theorem cut_ok {X : Fx} {fn : Func} {root : Code} (hd : DrawOk C) (hc : CallsOk C.P C.call) (hM : C.lo ≤ M0.length) (hX : X.b.kind = .normal) (hfn : C.P.funcs[X.b.fn]? = some fn) (htop : C.top = none) {r : Value} {Mf : Mem}
    (hR : X.R = fun v w' => CallPost B C.lo m0 M0 w0 r Mf (.returned v) w') : ∀ n, CutOk X C B w0 m0 M0 root (fun out => go (pieceOf C fn root) n out = some (r, Mf)) := by
  intro n
  induction n with
  | zero =>
    intro path c k s out m ml a w hat hcut hG hs
    unfold cutTo at hcut
    split at hcut
    · split at hcut
      · injection hcut with hcut; subst hcut; cases hG
      · cases hcut
    · cases hcut
  | succ n ih =>
    intro path c k s out m ml a w hat hcut hG hs
    unfold cutTo at hcut
    split at hcut
    · rename_i live locs hlk
      split at hcut
      · rename_i vs ls h1 h2
        injection hcut with hcut; subst hcut
        have hG : (pieceOf C fn root (posOf 1 path) vs ls s.mem).bind (go (pieceOf C fn root) n) = some (r, Mf) := hG
        cases hp : pieceOf C fn root (posOf 1 path) vs ls s.mem with
        | none => rw [hp] at hG; cases hG
        | some out =>
          rw [hp, Option.bind_some] at hG
          unfold pieceOf at hp
          rw [hlk] at hp
          simp only at hp
          split at hp
          · split at hp
            · rename_i hpos
              have hpath := posOf_inj _ _ _ (Nat.le_refl _) (Nat.eq_of_beq_eq_true hpos)
              rw [hpath] at hp
              rw [hat.sub] at hp
              exact exec_sound hd hc hM ih c path k _ _ out m ml a w hat (kont_ok hd hc hM ih (ret_ok hX hfn htop hR) hat) hp hG (hs.cutTo h1 h2)
            · cases hp
          · cases hp
      · cases hcut
    · cases hcut
def NamesOk (P : Program) (T : Tab) : Prop := ∀ f fn ann, P.funcs[f]? = some fn → T f = some ann → (fn.name == "runtime.NumGoroutine") = false
theorem argEnv_lk : ∀ {args : List Value} {i t : Nat} {e : EV}, lk (argEnv i args) t = some e → ∃ v, e = .v v ∧ i ≤ t ∧ args[t - i]? = some v
  | [], i, t, e, h => by cases h
  | v :: args, i, t, e, h => by
    simp only [argEnv, lk_cons] at h
    split at h
    · rename_i hit
      injection h with h; subst h; subst hit
      exact ⟨v, rfl, Nat.le_refl _, by simp⟩
    · obtain ⟨u, h1, h2, h3⟩ := argEnv_lk h
      refine ⟨u, h1, by omega, ?_⟩
      rw [show t - i = (t - (i + 1)) + 1 by omega]
      simpa using h3
theorem acall_sound {P : Program} {T : Tab} (hn : NamesOk P T) (hdraw : ∀ k ann lo nt, CallsOk P (acall P T k) → DrawOk (mkC P (acall P T k) ann lo nt)) : ∀ k, CallsOk P (acall P T k) := by
  intro k
  induction k with
  | zero => intro lo f args M r M' h; cases h
  | succ k ih =>
    intro lo f args M r M' h hM B m w cargs hrel hB hl
    unfold acall at h
    split at h
    · rename_i fn ann hfn hann
      split at h
      · rename_i c hc
        refine ⟨?_, ?_⟩
        · have h1 := hn f fn ann hfn hann
          have h1' : ¬ fn.name = "runtime.NumGoroutine" := by simpa using h1
          simp [callFunc, hfn, h1', hc]
        · cases he : entryOf (mkC P (acall P T k) ann lo fn.ntmps) fn c args M with
          | none => rw [he] at h; cases h
          | some out =>
            rw [he, Option.bind_some] at h
            unfold entryOf at he
            split at he
            · rename_i hle
              have hle := Nat.le_of_ble_eq_true hle
              have hlen : cargs.length ≤ fn.ntmps := by rw [← hl.1]; exact hle
              intro cs
              let b : Frame := { (default : Frame) with fn := f, kind := .normal }
              let a : Act := { tmps := ⟨cargs⟩ ++ Array.replicate (fn.ntmps - cargs.length) undef, defers := [] }
              have henter : Frame.enter P f ⟨cargs⟩ .normal = b.at a [.code c] := by
                simp [Frame.enter, Frame.at, hfn, hc, b, a]
              have hs : SRel fn.ntmps B lo w m M ⟨argEnv 0 args, [], M⟩ m (fun _ => 0) a w := by
                refine ⟨⟨hrel, ⟨fun t cs ht => by (cases ht), fun t cs b k ht => by (cases ht), fun t t' cs cs' ht => by (cases ht), fun t cs ht => by (cases ht)⟩, Ext.refl _ _ _, Fr.refl _ _,
                  fun b k h1 h2 h3 => .inl ⟨b, k, h1, h2, h3, rfl⟩, fun t cs ht => by (cases ht), hB⟩, fun t e ht => ?_, ?_, rfl⟩
                · obtain ⟨v, rfl, _, hv⟩ := argEnv_lk ht
                  obtain ⟨cv, g1, g2⟩ := hl.get hv
                  have ht' : t < cargs.length := (List.getElem?_eq_some_iff.1 g1).1
                  have : a.eval (.tmp t) = cv := by
                    simp only [Act.eval, a, Array.getD_eq_getD_getElem?]
                    rw [Array.getElem?_append_left (by simpa using ht')]
                    have : (⟨cargs⟩ : Array Value)[t]? = some cv := by simpa using g1
                    rw [this]; rfl
                  rw [this]; exact g2
                · simp [a]; omega
              let X : Fx := ⟨b, cs, fun v w' => CallPost B lo m M w r M' (.returned v) w'⟩
              have hcut := cut_ok (C := mkC P (acall P T k) ann lo fn.ntmps) (X := X) (B := B) (w0 := w) (m0 := m) (M0 := M) (root := c) (fn := fn) (hdraw k ann lo fn.ntmps ih) ih hM rfl hfn rfl (r := r) (Mf := M') rfl k
              obtain ⟨v, w', fr, g1, g2, g3, g4⟩ := exec_sound (C := mkC P (acall P T k) ann lo fn.ntmps) (hdraw k ann lo fn.ntmps ih) ih hM hcut c [] [] _ _ out m _ a w AtP.root
                (ret_ok (C := mkC P (acall P T k) ann lo fn.ntmps) (X := X) rfl hfn rfl rfl) he h hs
              refine ⟨.returned v, w', fr, g1, ?_, g3, g4⟩
              rw [henter]; exact g2
            · cases he
      · cases h
    · cases h
end
end Go.Zt
