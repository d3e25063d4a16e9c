/- What the law ChainBrightness needs of the text Fi. -/
import Derived.Test.YtbbfdebfhgdciaaPFh
set_option linter.unusedVariables false
set_option linter.unusedSimpArgs false
set_option maxRecDepth 100000
set_option maxHeartbeats 4000000
namespace Go.Zt
theorem copyBytes_ok (lo : Nat) (A : Option Addr) (c : Nat) (xs : List Int) (M : Mem) (hx : RdI M .u8 A xs) (hn : xs.length ≤ 140737488351232) (hlo : lo ≤ M.length) :
    Ac P T lo F.zoetroperef00_CopyBytes [.slice A xs.length c] M fun r => ∃ A' c' M', r = (.slice A' xs.length c', M') ∧ Pre M M' ∧ xs.length ≤ c' ∧ Grow M M' 1 A' xs.length (xs.map (Value.int .u8)) := by
  refine Ac.of (Evp.of_eq (fun k => zoetroperef00_CopyBytes.entry k ..) ?_)
  refine Evp.some hx.src ?_
  obtain ⟨s, M', h1, h2, h3, h4, _, h5⟩ := (Grow.nil (M0 := M) (M := M) (z := 1)).app (bytes := 1) (c := 0) (m := xs.length) (vs := xs.map (Value.int .u8)) (Pre.refl M) hlo (by simp) (by omega) (by omega)
  rw [Nat.zero_add] at h3
  refine Evp.some h1 (Evp.ret (Run.ret ⟨s.a, s.c, M', ?_, h4, by rw [← h3]; exact h5 (Nat.zero_le _), ?_⟩))
  · simp only [h3]
  · rw [h3] at h2; exact h2
theorem copyInts_ok (lo : Nat) (A : Option Addr) (c : Nat) (xs : List Int) (M : Mem) (hx : RdI M .i64 A xs) (hn : xs.length * 8 ≤ 140737488351232) (hlo : lo ≤ M.length) :
    Ac P T lo F.zoetroperef00_CopyInts [.slice A xs.length c] M fun r => ∃ A' c' M', r = (.slice A' xs.length c', M') ∧ Pre M M' ∧ xs.length ≤ c' ∧ Grow M M' 1 A' xs.length (xs.map (Value.int .i64)) := by
  refine Ac.of (Evp.of_eq (fun k => zoetroperef00_CopyInts.entry k ..) ?_)
  refine Evp.some hx.src ?_
  obtain ⟨s, M', h1, h2, h3, h4, _, h5⟩ := (Grow.nil (M0 := M) (M := M) (z := 1)).app (bytes := 8) (c := 0) (m := xs.length) (vs := xs.map (Value.int .i64)) (Pre.refl M) hlo (by simp) (by omega) (by omega)
  rw [Nat.zero_add] at h3
  refine Evp.some h1 (Evp.ret (Run.ret ⟨s.a, s.c, M', ?_, h4, by rw [← h3]; exact h5 (Nat.zero_le _), ?_⟩))
  · simp only [h3]
  · rw [h3] at h2; exact h2
structure MapEq (m m' : MapV) : Prop where
  w : m'.w = m.w
  h : m'.h = m.h
  tx : m'.tx = m.tx
  ids : m'.ids = m.ids
  qs : m'.qs = m.qs
structure SideEq (s s' : SideV) : Prop where
  m : ∀ n, MapEq (s.map n) (s'.map n)
  qs : s'.qs = s.qs
  ws : s'.ws = s.ws
  u : ∀ n, (s'.un n).us = (s.un n).us
structure SideFit (s : SideV) : Prop where
  ids : ∀ n, (s.map n).ids.length * 8 ≤ 140737488351232
  mqs : ∀ n, (s.map n).qs.length ≤ 140737488351232
  qs : s.qs.length ≤ 140737488351232
  ws : s.ws.length * 8 ≤ 140737488351232
  us : ∀ n, (s.un n).us.length * 56 ≤ 140737488351232
section
variable (lo : Nat)
theorem bools_ok (A : Option Addr) (c : Nat) (xs : List Bool) (M : Mem) (hx : RdB M A xs) (hn : xs.length ≤ 140737488351232) (hlo : lo ≤ M.length) :
    Ac P T lo F.zoetropelaw25_bools [.slice A xs.length c] M fun r => ∃ A' c' M', r = (.slice A' xs.length c', M') ∧ Pre M M' ∧ xs.length ≤ c' ∧ Grow M M' 1 A' xs.length (xs.map Value.bool) := by
  refine Ac.of (Evp.of_eq (fun k => zoetropelaw25_bools.entry k ..) ?_)
  refine Evp.some hx.src ?_
  obtain ⟨s, M', h1, h2, h3, h4, _, h5⟩ := (Grow.nil (M0 := M) (M := M) (z := 1)).app (bytes := 1) (c := 0) (m := xs.length) (vs := xs.map Value.bool) (Pre.refl M) hlo (by simp) (by omega) (by omega)
  rw [Nat.zero_add] at h3
  refine Evp.some h1 (Evp.ret (Run.ret ⟨s.a, s.c, M', ?_, h4, by rw [← h3]; exact h5 (Nat.zero_le _), ?_⟩))
  · simp only [h3]
  · rw [h3] at h2; exact h2
theorem units_ok (A : Option Addr) (c : Nat) (us : List Un) (M : Mem) (hx : RdU M A us) (hn : us.length * 56 ≤ 140737488351232) (hlo : lo ≤ M.length) :
    Ac P T lo F.zoetropelaw25_units [.slice A us.length c] M fun r => ∃ A' c' M', r = (.slice A' us.length c', M') ∧ Pre M M' ∧ us.length ≤ c' ∧ Grow M M' 7 A' us.length (cellsU us) := by
  refine Ac.of (Evp.of_eq (fun k => zoetropelaw25_units.entry k ..) ?_)
  refine Evp.some (Rd.src hx) ?_
  obtain ⟨s, M', h1, h2, h3, h4, _, h5⟩ := (Grow.nil (M0 := M) (M := M) (z := 7)).app (bytes := 56) (c := 0) (m := us.length) (vs := cellsU us) (Pre.refl M) hlo (hx.1) (by omega) (by omega)
  rw [Nat.zero_add] at h3
  refine Evp.some h1 (Evp.ret (Run.ret ⟨s.a, s.c, M', ?_, h4, by rw [← h3]; exact h5 (Nat.zero_le _), ?_⟩))
  · simp only [h3]
  · rw [h3] at h2; exact h2
def FrEq (f g : Fr3) : Prop := ∀ n, n < 3 → (f.at n).w = (g.at n).w ∧ (f.at n).h = (g.at n).h ∧ (f.at n).xs = (g.at n).xs
noncomputable instance (f g : Fr3) : Decidable (FrEq f g) := Classical.propDecidable _
end
end Go.Zt
