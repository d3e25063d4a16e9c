/- What the law ChainBrightness needs of the text Fp. -/
import Derived.Test.YtbbfdebfhgdciaaPFn
set_option linter.unusedVariables false
set_option linter.unusedSimpArgs false
set_option maxRecDepth 100000
set_option maxHeartbeats 4000000
namespace Go.Zt
theorem whole_dims {f : Fr3} (hw : WholeF f) : ∀ n, n < 3 → (1 ≤ (f.at n).w ∧ (f.at n).w ≤ 512 ∧ 1 ≤ (f.at n).h ∧ (f.at n).h ≤ 512) ∧ 1 ≤ (f.at n).w.toNat ∧ (f.at n).xs.length = (f.at n).w.toNat * (f.at n).h.toNat := fun n hn => by
  have key : ∀ w h : Int, ∀ k : Nat, checkS w h k = 0 → (1 ≤ w ∧ w ≤ 512 ∧ 1 ≤ h ∧ h ≤ 512) ∧ 1 ≤ w.toNat ∧ k = w.toNat * h.toNat := fun w h k e => by
    have l := checkS_len' e
    obtain ⟨W, rfl⟩ := Int.eq_ofNat_of_zero_le (a := w) (by omega)
    obtain ⟨Hh, rfl⟩ := Int.eq_ofNat_of_zero_le (a := h) (by omega)
    have := l.2.2.2.2
    rw [← Int.natCast_mul] at this
    simp only [Int.toNat_natCast]
    omega
  rcases lt3 hn with rfl | rfl | rfl
  · exact key _ _ _ hw.1
  · exact key _ _ _ hw.2.2.2.1
  · exact key _ _ _ hw.2.2.2.2.2.2.1
theorem runP_sizes {f F : Fr3} {s : SideV} {hd : Hd} {L : List Int} (h : ∀ n, n < 3 → (F.at n).w = (f.at n).w ∧ (F.at n).h = (f.at n).h ∧ (F.at n).xs.length = (f.at n).xs.length) (hP : RunP f s hd L) : RunP F s hd L := by
  have hW : WholeF F ↔ WholeF f := by
    obtain ⟨a0, b0, c0⟩ := h 0 (by omega)
    obtain ⟨a1, b1, c1⟩ := h 1 (by omega)
    obtain ⟨a2, b2, c2⟩ := h 2 (by omega)
    have a0 : F.p0.w = f.p0.w := a0
    have b0 : F.p0.h = f.p0.h := b0
    have c0 : F.p0.xs.length = f.p0.xs.length := c0
    have a1 : F.p1.w = f.p1.w := a1
    have b1 : F.p1.h = f.p1.h := b1
    have c1 : F.p1.xs.length = f.p1.xs.length := c1
    have a2 : F.p2.w = f.p2.w := a2
    have b2 : F.p2.h = f.p2.h := b2
    have c2 : F.p2.xs.length = f.p2.xs.length := c2
    unfold WholeF
    rw [a0, b0, c0, a1, b1, c1, a2, b2, c2]
  have a0 : F.p0.w = f.p0.w := (h 0 (by omega)).1
  have b0 : F.p0.h = f.p0.h := (h 0 (by omega)).2.1
  obtain ⟨h1, h2, h3, h4⟩ := hP
  refine ⟨hW.2 h1, by rw [a0]; exact h2, by rw [b0]; exact h3, ?_⟩
  rcases h4 with h4 | ⟨p, d, r⟩
  · exact .inl h4
  refine .inr ⟨fun n hn => ?_, ⟨hW.2 d.1, by rw [a0]; exact d.2.1, by rw [b0]; exact d.2.2.1, by rw [a0, b0]; exact d.2.2.2.1, by rw [a0, b0]; exact d.2.2.2.2.1, d.2.2.2.2.2⟩, fun n hn e => ?_⟩
  · obtain ⟨x, y, z⟩ := h n hn
    unfold PassP
    rw [x, y, z]
    exact p n hn
  · obtain ⟨x, y, z⟩ := h n hn
    rw [x, y, z]
    exact r n hn e
end Go.Zt
