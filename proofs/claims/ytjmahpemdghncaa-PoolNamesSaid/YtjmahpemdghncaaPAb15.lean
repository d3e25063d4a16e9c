/- What the law PoolNames needs of the text Ab15. -/
import Derived.Test.YtjmahpemdghncaaPAb14
import Derived.Scope
set_option linter.unusedVariables false
set_option linter.unusedSimpArgs false
namespace Go.Zt
open Go.RowKit
theorem posOf_append (r1 r2 : List Bool) : ∀ p, posOf p (r1 ++ r2) = posOf (posOf p r1) r2 := by
  induction r1 with
  | nil => intro p; rfl
  | cons d r ih => intro p; cases d <;> simp only [List.cons_append, posOf, ih]
theorem posOf_pos (r : List Bool) : ∀ p, 1 ≤ p → 1 ≤ posOf p r := by
  induction r with
  | nil => intro p h; exact h
  | cons d r ih => intro p h; cases d <;> simp only [posOf] <;> exact ih _ (by omega)
theorem list_end (r : List Bool) : r = [] ∨ ∃ r' d, r = r' ++ [d] := by
  rcases h : r.reverse with _ | ⟨d, t⟩
  · exact .inl (by simpa using h)
  · refine .inr ⟨t.reverse, d, ?_⟩
    have := congrArg List.reverse h
    simpa using this
theorem posOf_inj : ∀ (n : Nat) (r r' : List Bool), r.length ≤ n → posOf 1 r = posOf 1 r' → r = r' := by
  intro n
  induction n with
  | zero =>
    intro r r' hl h
    have : r = [] := List.eq_nil_of_length_eq_zero (by omega)
    subst this
    rcases list_end r' with rfl | ⟨r', d, rfl⟩
    · rfl
    · rw [posOf_append] at h
      have := posOf_pos r' 1 (Nat.le_refl _)
      cases d <;> simp only [posOf] at h <;> omega
  | succ n ih =>
    intro r r' hl h
    rcases list_end r with rfl | ⟨r, d, rfl⟩
    · rcases list_end r' with rfl | ⟨r', d, rfl⟩
      · rfl
      · rw [posOf_append] at h
        have := posOf_pos r' 1 (Nat.le_refl _)
        cases d <;> simp only [posOf] at h <;> omega
    · rcases list_end r' with rfl | ⟨r', d', rfl⟩
      · rw [posOf_append] at h
        have := posOf_pos r 1 (Nat.le_refl _)
        cases d <;> simp only [posOf] at h <;> omega
      · rw [posOf_append, posOf_append] at h
        have e : d = d' := by cases d <;> cases d' <;> simp only [posOf] at h <;> first | rfl | omega
        subst e
        rw [ih r r' (by simpa using hl) (by cases d <;> simp only [posOf] at h <;> omega)]
inductive AtP (root : Code) : List Bool → Code → List Item → Prop
  | root : AtP root [] root []
  | seqL {path a b k} : AtP root path (.seq a b) k → AtP root (path ++ [false]) a (.code b :: k)
  | seqR {path a b k} : AtP root path (.seq a b) k → AtP root (path ++ [true]) b k
  | condL {path c a b k} : AtP root path (.cond c a b) k → AtP root (path ++ [false]) a k
  | condR {path c a b k} : AtP root path (.cond c a b) k → AtP root (path ++ [true]) b k
  | block {path id a k} : AtP root path (.block id a) k → AtP root (path ++ [false]) a (.inBlock id :: k)
  | loop {path a k} : AtP root path (.loop a) k → AtP root (path ++ [false]) a (.inLoop a :: k)
  | scope {path a k} : AtP root path (.scope a) k → AtP root (path ++ [false]) a (.inScope a :: k)
theorem sub_append : ∀ (r : List Bool) (d : Bool) (c : Code), sub (r ++ [d]) c = sub [d] (sub r c)
  | [], d, c => rfl
  | e :: r, d, c => by
    have ih := sub_append r d
    cases c <;> cases e <;> simp only [List.cons_append, sub, ih] <;> cases d <;> rfl
theorem AtP.sub {root : Code} {path : List Bool} {c : Code} {k : List Item} (h : AtP root path c k) : sub path root = c := by
  induction h with
  | root => rfl
  | _ => rename_i ih; rw [sub_append, ih]; rfl
noncomputable def kont1 (C : Ctx) (d : Bool) (c : Code) (p : Nat) (K : Kt) : Kt := kont C [d] c p K
theorem kont_append (C : Ctx) : ∀ (r : List Bool) (d : Bool) (c : Code) (p : Nat) (K : Kt), kont C (r ++ [d]) c p K = kont1 C d (sub r c) (posOf p r) (kont C r c p K)
  | [], d, c, p, K => by simp only [List.nil_append, kont1, sub, posOf, kont]
  | e :: r, d, c, p, K => by
    have ih := kont_append C r d
    cases c <;> cases e <;> simp only [List.cons_append, kont, sub, posOf, ih] <;> first | rfl | (funext x y; cases d <;> rfl)
section
variable {C : Ctx} {B lo : Nat} {w0 : World} {m0 : Mp} {M0 : Mem} {m : Mp} {ml : Nat → Nat} {s s' : St} {w : World} {a : Act}
def DrawOk (C : Ctx) : Prop := ∀ (B : Nat) (w0 : World) (m0 : Mp) (M0 : Mem) (id : Nat) (ops : Array Oper) (s : St) (K : St → Option Out) (r : Out) (m : Mp) (ml : Nat → Nat) (a : Act) (w : World),
  C.lo ≤ M0.length → regA C ops true s K = some r → SRel C.nt B C.lo w0 m0 M0 s m ml a w →
  (Code.region id ops true).wp C.P (fun e a w => e = .normal ∧ ∃ s' m' ml', K s' = some r ∧ SRel C.nt B C.lo w0 m0 M0 s' m' ml' a w) a w
theorem region_sound (hd : DrawOk C) (hc : CallsOk C.P C.call) (hM : C.lo ≤ M0.length) {ops : Array Oper} {draw : Bool} {K : St → Option Out} {r : Out} (h : regA C ops draw s K = some r) (hs : SRel C.nt B C.lo w0 m0 M0 s m ml a w) (id : Nat) :
    (Code.region id ops draw).wp C.P (fun e a w => e = .normal ∧ ∃ s' m' ml', K s' = some r ∧ SRel C.nt B C.lo w0 m0 M0 s' m' ml' a w) a w := by
  cases draw with
  | true => exact hd B w0 m0 M0 id ops s K r m ml a w hM h hs
  | false =>
    refine wp_region ?_
    have := ops_sound (C := C) (lo := C.lo) (ops := ops) (K := K) (r := r) (Q := fun e a w => e = .normal ∧ ∃ s' m' ml', K s' = some r ∧ SRel C.nt B C.lo w0 m0 M0 s' m' ml' a w) hc rfl hM
      (fun s' m' ml' a' w' hk hs => ⟨rfl, s', m', ml', hk, hs⟩) ops.toList 0 (fun j => by simp) hs h
    simpa [List.range_eq_range'] using this
structure Fx where
  b : Frame
  cs : List Frame
  R : Value → World → Prop
def Fx.fin (X : Fx) (P : Program) (mch : Machine) : Prop := ∃ v w' fr, X.R v w' ∧ Steps P mch (lone fr X.cs w') ∧ fr.fn = X.b.fn ∧ fr.leaving P w' (.returned v)
theorem Fx.step {X : Fx} {P : Program} {m1 m2 : Machine} (h : step P m1 = .next m2) (hf : X.fin P m2) : X.fin P m1 := by
  obtain ⟨v, w', fr, h1, h2, h3⟩ := hf
  exact ⟨v, w', fr, h1, .head h h2, h3⟩
theorem Fx.steps {X : Fx} {P : Program} {m1 m2 : Machine} (h : Steps P m1 m2) (hf : X.fin P m2) : X.fin P m1 := by
  obtain ⟨v, w', fr, h1, h2, h3⟩ := hf
  exact ⟨v, w', fr, h1, h.trans h2, h3⟩
def Fx.goes (X : Fx) (P : Program) (k : List Item) (a : Act) (w : World) : Ex → Prop
  | .nrm => X.fin P (lone (X.b.at a k) X.cs w)
  | .ext id => ∃ k', exitTo id k = some k' ∧ X.fin P (lone (X.b.at a k') X.cs w)
  | .ret => ∀ todo, X.fin P (lone { X.b.at a todo with mode := .returning } X.cs w)
def KOk (X : Fx) (C : Ctx) (B : Nat) (w0 : World) (m0 : Mp) (M0 : Mem) (G : Out → Prop) (K : Kt) (k : List Item) : Prop :=
  ∀ e s out m ml a w, K e s = some out → G out → SRel C.nt B C.lo w0 m0 M0 s m ml a w → X.goes C.P k a w e
def CutOk (X : Fx) (C : Ctx) (B : Nat) (w0 : World) (m0 : Mp) (M0 : Mem) (root : Code) (G : Out → Prop) : Prop :=
  ∀ path c k s out m ml a w, AtP root path c k → cutTo C (posOf 1 path) s = some out → G out → SRel C.nt B C.lo w0 m0 M0 s m ml a w → X.fin C.P (lone (X.b.at a (.code c :: k)) X.cs w)
theorem atCut_ok {X : Fx} {root : Code} {G : Out → Prop} (hcut : CutOk X C B w0 m0 M0 root G) {path : List Bool} {c : Code} {k : List Item} (hat : AtP root path c k) {F : St → Option Out} {out : Out}
    (h : atCut C (posOf 1 path) s F = some out) (hG : G out) (hs : SRel C.nt B C.lo w0 m0 M0 s m ml a w) (hF : F s = some out → X.fin C.P (lone (X.b.at a (.code c :: k)) X.cs w)) : X.fin C.P (lone (X.b.at a (.code c :: k)) X.cs w) := by
  unfold atCut at h
  split at h
  · exact hcut path c k s out m ml a w hat h hG hs
  · exact hF h
theorem posL (path : List Bool) : posOf 1 (path ++ [false]) = 2 * posOf 1 path := by rw [posOf_append]; rfl
theorem posR (path : List Bool) : posOf 1 (path ++ [true]) = 2 * posOf 1 path + 1 := by rw [posOf_append]; rfl
theorem blockK_ext (id i : Nat) (K : Kt) (s : St) : blockK id K (.ext i) s = if i = id then K .nrm s else K (.ext i) s := by
  simp only [blockK]
  by_cases h : i = id
  · subst h; rw [if_pos rfl, Nat.beq_refl]
  · rw [if_neg h, beq_ne h]
theorem exec_sound {X : Fx} {root : Code} {G : Out → Prop} (hd : DrawOk C) (hc : CallsOk C.P C.call) (hM : C.lo ≤ M0.length) (hcut : CutOk X C B w0 m0 M0 root G) : ∀ (c : Code) (path : List Bool) (k : List Item) (K : Kt) (s : St) (out : Out) (m : Mp) (ml : Nat → Nat) (a : Act) (w : World),
    AtP root path c k → KOk X C B w0 m0 M0 G K k → exec C c (posOf 1 path) s K = some out → G out → SRel C.nt B C.lo w0 m0 M0 s m ml a w → X.fin C.P (lone (X.b.at a (.code c :: k)) X.cs w) := by
  intro c
  induction c with
  | skip =>
    intro path k K s out m ml a w hat hK h hG hs
    exact Fx.step step_skip (hK .nrm s out m ml a w h hG hs)
  | region id ops draw =>
    intro path k K s out m ml a w hat hK h hG hs
    have h : regA C ops draw s (fun s' => K .nrm s') = some out := h
    obtain ⟨e, a', w', ⟨he, s', m', ml', hk, hs'⟩, harr⟩ := region_sound hd hc hM h hs id X.b k X.cs
    subst he
    exact Fx.steps harr (hK .nrm s' out m' ml' a' w' hk hG hs')
  | seq x y ihx ihy =>
    intro path k K s out m ml a w hat hK h hG hs
    refine Fx.step step_seq ?_
    have h : atCut C (2 * posOf 1 path) s (fun s => exec C x (2 * posOf 1 path) s (seqK (fun s => atCut C (2 * posOf 1 path + 1) s fun s => exec C y (2 * posOf 1 path + 1) s K) K)) = some out := h
    rw [← posR, ← posL] at h
    refine atCut_ok hcut hat.seqL h hG hs fun h => ?_
    refine ihx _ _ _ s out m ml a w hat.seqL ?_ h hG hs
    intro e s out m ml a w h hG hs
    cases e with
    | nrm =>
      simp only [seqK] at h
      refine atCut_ok hcut hat.seqR h hG hs fun h => ?_
      exact ihy _ _ _ s out m ml a w hat.seqR hK h hG hs
    | ext id => exact hK (.ext id) s out m ml a w h hG hs
    | ret => exact hK .ret s out m ml a w h hG hs
  | cond c x y ihx ihy =>
    intro path k K s out m ml a w hat hK h hG hs
    have h : (match val s c with
      | some (.bool b) => bb b (atCut C (2 * posOf 1 path) s fun s => exec C x (2 * posOf 1 path) s K) (atCut C (2 * posOf 1 path + 1) s fun s => exec C y (2 * posOf 1 path + 1) s K)
      | _ => none) = some out := h
    rw [← posR, ← posL] at h
    split at h
    · rename_i t hv
      have he : a.eval c = .bool t := (SRel.setup hs hc (Nat.le_refl _) (hs.over hM)).val hv |>.bool_inv
      refine Fx.step (step_cond he) ?_
      rw [bb_eq] at h
      cases t with
      | true =>
        rw [if_pos rfl] at h
        rw [if_pos rfl]
        exact atCut_ok hcut hat.condL h hG hs fun h => ihx _ _ _ s out m ml a w hat.condL hK h hG hs
      | false =>
        rw [if_neg (by simp)] at h
        rw [if_neg (by simp)]
        exact atCut_ok hcut hat.condR h hG hs fun h => ihy _ _ _ s out m ml a w hat.condR hK h hG hs
    · cases h
  | block id x ihx =>
    intro path k K s out m ml a w hat hK h hG hs
    refine Fx.step step_block ?_
    have h : atCut C (2 * posOf 1 path) s (fun s => exec C x (2 * posOf 1 path) s (blockK id K)) = some out := h
    rw [← posL] at h
    refine atCut_ok hcut hat.block h hG hs fun h => ?_
    refine ihx _ _ _ s out m ml a w hat.block ?_ h hG hs
    intro e s out m ml a w h hG hs
    cases e with
    | nrm => exact Fx.step step_inBlock (hK .nrm s out m ml a w h hG hs)
    | ext i =>
      rw [blockK_ext] at h
      by_cases hi : i = id
      · rw [if_pos hi] at h
        exact ⟨k, by simp [exitTo, hi], hK .nrm s out m ml a w h hG hs⟩
      · rw [if_neg hi] at h
        obtain ⟨k', h1, h2⟩ := hK (.ext i) s out m ml a w h hG hs
        have hne : ¬ (id = i) := fun e => hi e.symm
        exact ⟨k', by simp [exitTo, hne, h1], h2⟩
    | ret => exact hK .ret s out m ml a w h hG hs
  | loop x ihx =>
    intro path k K s out m ml a w hat hK h hG hs
    refine Fx.step step_loop ?_
    have h : cutTo C (2 * posOf 1 path) s = some out := h
    rw [← posL] at h
    exact hcut _ _ _ s out m ml a w hat.loop h hG hs
  | scope x ihx =>
    intro path k K s out m ml a w hat hK h hG hs
    refine Fx.step step_scope ?_
    have h : atCut C (2 * posOf 1 path) s (fun s => exec C x (2 * posOf 1 path) s K) = some out := h
    rw [← posL] at h
    refine atCut_ok hcut hat.scope h hG hs fun h => ?_
    refine ihx _ _ _ s out m ml a w hat.scope ?_ h hG hs
    intro e s out m ml a w h hG hs
    cases e with
    | nrm => exact Fx.step step_inScope (hK .nrm s out m ml a w h hG hs)
    | ext i =>
      obtain ⟨k', h1, h2⟩ := hK (.ext i) s out m ml a w h hG hs
      exact ⟨k', by simp [exitTo, h1], h2⟩
    | ret => exact hK .ret s out m ml a w h hG hs
  | exit id =>
    intro path k K s out m ml a w hat hK h hG hs
    obtain ⟨k', h1, h2⟩ := hK (.ext id) s out m ml a w h hG hs
    exact Fx.step (step_exit h1) h2
  | label l =>
    intro path k K s out m ml a w hat hK h hG hs
    exact Fx.step step_label (hK .nrm s out m ml a w h hG hs)
  | ret =>
    intro path k K s out m ml a w hat hK h hG hs
    exact Fx.step step_ret (hK .ret s out m ml a w h hG hs _)
  | _ => intro path k K s out m ml a w hat hK h hG hs; cases h
theorem kont_ok {X : Fx} {root : Code} {G : Out → Prop} (hd : DrawOk C) (hc : CallsOk C.P C.call) (hM : C.lo ≤ M0.length) (hcut : CutOk X C B w0 m0 M0 root G) {K0 : Kt} (h0 : KOk X C B w0 m0 M0 G K0 []) {path : List Bool} {c : Code} {k : List Item} (hat : AtP root path c k) :
    KOk X C B w0 m0 M0 G (kont C path root 1 K0) k := by
  induction hat with
  | root => exact h0
  | seqL hat ih =>
    rename_i path x y k
    rw [kont_append, hat.sub]
    intro e s out m ml a w h hG hs
    have h : seqK (fun s => atCut C (2 * posOf 1 path + 1) s fun s => exec C y (2 * posOf 1 path + 1) s (kont C path root 1 K0)) (kont C path root 1 K0) e s = some out := h
    rw [← posR] at h
    cases e with
    | nrm =>
      simp only [seqK] at h
      refine atCut_ok hcut hat.seqR h hG hs fun h => ?_
      exact exec_sound hd hc hM hcut _ _ _ _ s out m ml a w hat.seqR ih h hG hs
    | ext id => exact ih (.ext id) s out m ml a w h hG hs
    | ret => exact ih .ret s out m ml a w h hG hs
  | seqR hat ih => rw [kont_append, hat.sub]; exact ih
  | condL hat ih => rw [kont_append, hat.sub]; exact ih
  | condR hat ih => rw [kont_append, hat.sub]; exact ih
  | block hat ih =>
    rename_i path id x k
    rw [kont_append, hat.sub]
    intro e s out m ml a w h hG hs
    have h : blockK id (kont C path root 1 K0) e s = some out := h
    cases e with
    | nrm => exact Fx.step step_inBlock (ih .nrm s out m ml a w h hG hs)
    | ext i =>
      rw [blockK_ext] at h
      by_cases hi : i = id
      · rw [if_pos hi] at h
        exact ⟨k, by simp [exitTo, hi], ih .nrm s out m ml a w h hG hs⟩
      · rw [if_neg hi] at h
        obtain ⟨k', h1, h2⟩ := ih (.ext i) s out m ml a w h hG hs
        have hne : ¬ (id = i) := fun e => hi e.symm
        exact ⟨k', by simp [exitTo, hne, h1], h2⟩
    | ret => exact ih .ret s out m ml a w h hG hs
  | scope hat ih =>
    rw [kont_append, hat.sub]
    intro e s out m ml a w h hG hs
    cases e with
    | nrm => exact Fx.step step_inScope (ih .nrm s out m ml a w h hG hs)
    | ext i =>
      obtain ⟨k', h1, h2⟩ := ih (.ext i) s out m ml a w h hG hs
      exact ⟨k', by simp [exitTo, h1], h2⟩
    | ret => exact ih .ret s out m ml a w h hG hs
  | loop hat ih =>
    rename_i path x k
    rw [kont_append, hat.sub]
    intro e s out m ml a w h hG hs
    have h : seqK (fun s => cutTo C (2 * posOf 1 path) s) (kont C path root 1 K0) e s = some out := h
    rw [← posL] at h
    cases e with
    | nrm => exact Fx.step step_inLoop (hcut _ _ _ s out m ml a w hat.loop h hG hs)
    | ext id => exact ih (.ext id) s out m ml a w h hG hs
    | ret => exact ih .ret s out m ml a w h hG hs
end
end Go.Zt
