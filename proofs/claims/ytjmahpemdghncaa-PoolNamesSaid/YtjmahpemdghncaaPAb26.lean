/- What the law PoolNames needs of the text Ab26. -/
import Derived.Test.YtjmahpemdghncaaPAb25
set_option linter.unusedVariables false
namespace Go.Zt
def Evp {α : Type} (g : Nat → Option α) (Q : α → Prop) : Prop := ∃ r, Q r ∧ ∃ K, ∀ k, K ≤ k → g k = some r
section
variable {α β : Type} {Q : α → Prop} {g h : Nat → Option α}
theorem Evp.ret {r : α} (hr : Q r) : Evp (fun _ => some r) Q := ⟨r, hr, 0, fun _ _ => rfl⟩
theorem Evp.of_eq (e : ∀ k, g k = h k) (hh : Evp h Q) : Evp g Q := by
  obtain ⟨r, hr, K, hK⟩ := hh
  exact ⟨r, hr, K, fun k hk => (e k).trans (hK k hk)⟩
theorem Evp.mono {Q' : α → Prop} (hg : Evp g Q) (hq : ∀ r, Q r → Q' r) : Evp g Q' := by
  obtain ⟨r, hr, hK⟩ := hg
  exact ⟨r, hq r hr, hK⟩
theorem Evp.ob {g : Nat → Option β} {f : Nat → β → Option α} {Q1 : β → Prop} (hg : Evp g Q1) (hf : ∀ b, Q1 b → Evp (fun k => f k b) Q) : Evp (fun k => ob (g k) (f k)) Q := by
  obtain ⟨b, hb, K1, h1⟩ := hg
  obtain ⟨r, hr, K2, h2⟩ := hf b hb
  exact ⟨r, hr, max K1 K2, fun k hk => by show Zt.ob (g k) (f k) = some r; rw [h1 k (by omega)]; exact h2 k (by omega)⟩
theorem Evp.some {f : Nat → β → Option α} {o : Option β} {b : β} (hb : o = .some b) (hf : Evp (fun k => f k b) Q) : Evp (fun k => Zt.ob o (f k)) Q := by
  subst hb; exact hf
theorem Evp.pos {c : Prop} [d : Decidable c] (hc : c) (hg : Evp g Q) : Evp (fun k => pb c (g k) (h k)) Q :=
  Evp.of_eq (fun k => by rw [pb_eq, if_pos hc]) hg
theorem Evp.neg {c : Prop} [d : Decidable c] (hc : ¬ c) (hg : Evp h Q) : Evp (fun k => pb c (g k) (h k)) Q :=
  Evp.of_eq (fun k => by rw [pb_eq, if_neg hc]) hg
theorem Evp.tt {b : Bool} (hb : b = true) (hg : Evp g Q) : Evp (fun k => bb b (g k) (h k)) Q := by subst hb; exact hg
theorem Evp.ff {b : Bool} (hb : b = false) (hh : Evp h Q) : Evp (fun k => bb b (g k) (h k)) Q := by subst hb; exact hh
theorem Evp.bb {b : Bool} (h1 : b = true → Evp g Q) (h2 : b = false → Evp h Q) : Evp (fun k => Zt.bb b (g k) (h k)) Q := by
  cases b
  · exact h2 rfl
  · exact h1 rfl
end
section
variable {P : Program} {T : Tab} {lo : Nat} {f : FuncId} {Q Q' : Value × Mem → Prop}
def Run (P : Program) (T : Tab) (lo : Nat) (f : FuncId) (out : Out) (Q : Value × Mem → Prop) : Prop := ∃ r, Q r ∧ ∃ K, ∀ k n, K ≤ k → K ≤ n → go (piece P T k lo f) n out = some r
def Ac (P : Program) (T : Tab) (lo : Nat) (f : FuncId) (args : List Value) (M : Mem) (Q : Value × Mem → Prop) : Prop := Evp (fun k => acall P T k lo f args M) Q
theorem Ac.mono {args : List Value} {M : Mem} (h : Ac P T lo f args M Q) (hq : ∀ r, Q r → Q' r) : Ac P T lo f args M Q' := Evp.mono h hq
theorem Run.mono {out : Out} (h : Run P T lo f out Q) (hq : ∀ r, Q r → Q' r) : Run P T lo f out Q' := by
  obtain ⟨r, hr, hK⟩ := h
  exact ⟨r, hq r hr, hK⟩
theorem Run.ret {v : Value} {M : Mem} (h : Q (v, M)) : Run P T lo f (.ret v M) Q := ⟨(v, M), h, 0, fun k n _ _ => by cases n <;> rfl⟩
theorem Run.cut {p : Nat} {vs : List EV} {ls : List (List Value)} {M : Mem} (h : Evp (fun k => piece P T k lo f p vs ls M) fun out => Run P T lo f out Q) : Run P T lo f (.cut p vs ls M) Q := by
  obtain ⟨out, ⟨r, hr, K2, h2⟩, K1, h1⟩ := h
  refine ⟨r, hr, max K1 K2 + 1, fun k n hk hn => ?_⟩
  obtain ⟨n, rfl⟩ : ∃ m, n = m + 1 := ⟨n - 1, by omega⟩
  show (piece P T k lo f p vs ls M).bind (go (piece P T k lo f) n) = some r
  have h1 : piece P T k lo f p vs ls M = some out := h1 k (by omega)
  rw [h1]
  exact h2 k n (by omega) (by omega)
theorem acall_piece (k : Nat) (args : List Value) (M : Mem) : acall P T (k + 1) lo f args M = (entry P T k lo f args M).bind (go (piece P T k lo f) k) := by
  unfold entry
  have e : ∀ fn ann c, P.funcs[f]? = some fn → T f = some ann → fn.body = some c → piece P T k lo f = pieceOf (mkC P (acall P T k) ann lo fn.ntmps) fn c := fun fn ann c h1 h2 h3 => by
    funext p vs ls M
    unfold piece
    simp only [h1, h2, h3]
  rw [acall]
  cases h1 : P.funcs[f]? with
  | none => rfl
  | some fn =>
    cases h2 : T f with
    | none => rfl
    | some ann =>
      cases h3 : fn.body with
      | none => simp only [h3]; rfl
      | some c => simp only [h3, e fn ann c h1 h2 h3]
theorem Ac.of {args : List Value} {M : Mem} (h : Evp (fun k => entry P T k lo f args M) fun out => Run P T lo f out Q) : Ac P T lo f args M Q := by
  obtain ⟨out, ⟨r, hr, K2, h2⟩, K1, h1⟩ := h
  refine ⟨r, hr, max K1 K2 + 1, fun k hk => ?_⟩
  obtain ⟨k, rfl⟩ : ∃ m, k = m + 1 := ⟨k - 1, by omega⟩
  show acall P T (k + 1) lo f args M = some r
  have h1 : entry P T k lo f args M = some out := h1 k (by omega)
  rw [acall_piece, h1]
  exact h2 k k (by omega) (by omega)
end
end Go.Zt
