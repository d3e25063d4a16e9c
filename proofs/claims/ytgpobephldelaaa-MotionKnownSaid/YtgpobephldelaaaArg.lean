/- What the arguments of the laws are. -/
import Derived.Test.YtgpobephldelaaaAb29
import Derived.Test.YtgpobephldelaaaEq0
import Derived.KernelRfl
set_option maxRecDepth 100000
set_option linter.unusedVariables false
namespace Go.Zt
theorem cat2 {a a' b b' : List Value} (h : a = a') (k : b = b') : a ++ b = a' ++ b' := by rw [h, k]
theorem Y3 {M : Mem} {d : Nat} {cs : List Value} (h : Lays P M (d + 1) 3 cs) : ∃ (x : Int), cs = [.int .i64 x] ∧ (Lit.int .i64 x).wf = true := lays_int Go.Proofs.Try.underlying3 h
theorem Y22 {M : Mem} {d : Nat} {cs : List Value} (h : Lays P M (d + 2) 22 cs) : ∃ (A : Option Addr) (c : Nat) (l : List Int), cs = [.slice A l.length c] ∧ l.length ≤ c ∧ l.length * 1 ≤ 140737488351232 ∧ RdI M .u8 A l ∧ (∀ x ∈ l, (Lit.int .u8 x).wf = true) := lays_ints Go.Proofs.Try.underlying22 Go.Proofs.Try.underlying5 (by kernel_rfl) (by kernel_rfl) h
theorem Y24 {M : Mem} {d : Nat} {cs : List Value} (h : Lays P M (d + 3) 24 cs) : ∃ (x_0 : Int) (x_1 : Int) (A_2 : Option Addr) (c_2 : Nat) (l_2 : List Int), cs = [.int .i64 x_0, .int .i64 x_1, .slice A_2 l_2.length c_2] ∧ (Lit.int .i64 x_0).wf = true ∧ (Lit.int .i64 x_1).wf = true ∧ l_2.length ≤ c_2 ∧ l_2.length * 1 ≤ 140737488351232 ∧ RdI M .u8 A_2 l_2 ∧ (∀ x ∈ l_2, (Lit.int .u8 x).wf = true) := by
  obtain ⟨e, hf⟩ := lays_fields (g := fun _ => true) Go.Proofs.Try.underlying24 (by kernel_rfl) h
  obtain ⟨x_0, e0, p0_0⟩ := Y3 (d := d + 1) (hf _ (List.Mem.head _))
  obtain ⟨x_1, e1, p1_0⟩ := Y3 (d := d + 1) (hf _ (List.Mem.tail _ (List.Mem.head _)))
  obtain ⟨A_2, c_2, l_2, e2, p2_0, p2_1, p2_2, p2_3⟩ := Y22 (d := d + 0) (hf _ (List.Mem.tail _ (List.Mem.tail _ (List.Mem.head _))))
  exact ⟨x_0, x_1, A_2, c_2, l_2, e.trans (cat2 e0 (cat2 e1 (cat2 e2 (rfl)))), p0_0, p1_0, p2_0, p2_1, p2_2, p2_3⟩
theorem Y25 {M : Mem} {d : Nat} {cs : List Value} (h : Lays P M (d + 4) 25 cs) : ∃ (x_0_0 : Int) (x_1_0 : Int) (A_2_0 : Option Addr) (c_2_0 : Nat) (l_2_0 : List Int) (x_0_1 : Int) (x_1_1 : Int) (A_2_1 : Option Addr) (c_2_1 : Nat) (l_2_1 : List Int) (x_0_2 : Int) (x_1_2 : Int) (A_2_2 : Option Addr) (c_2_2 : Nat) (l_2_2 : List Int), cs = [.int .i64 x_0_0, .int .i64 x_1_0, .slice A_2_0 l_2_0.length c_2_0, .int .i64 x_0_1, .int .i64 x_1_1, .slice A_2_1 l_2_1.length c_2_1, .int .i64 x_0_2, .int .i64 x_1_2, .slice A_2_2 l_2_2.length c_2_2] ∧ (Lit.int .i64 x_0_0).wf = true ∧ (Lit.int .i64 x_1_0).wf = true ∧ l_2_0.length ≤ c_2_0 ∧ l_2_0.length * 1 ≤ 140737488351232 ∧ RdI M .u8 A_2_0 l_2_0 ∧ (∀ x ∈ l_2_0, (Lit.int .u8 x).wf = true) ∧ (Lit.int .i64 x_0_1).wf = true ∧ (Lit.int .i64 x_1_1).wf = true ∧ l_2_1.length ≤ c_2_1 ∧ l_2_1.length * 1 ≤ 140737488351232 ∧ RdI M .u8 A_2_1 l_2_1 ∧ (∀ x ∈ l_2_1, (Lit.int .u8 x).wf = true) ∧ (Lit.int .i64 x_0_2).wf = true ∧ (Lit.int .i64 x_1_2).wf = true ∧ l_2_2.length ≤ c_2_2 ∧ l_2_2.length * 1 ≤ 140737488351232 ∧ RdI M .u8 A_2_2 l_2_2 ∧ (∀ x ∈ l_2_2, (Lit.int .u8 x).wf = true) := by
  obtain ⟨e, hf⟩ := lays_items (n := 3) (z := 3) Go.Proofs.Try.underlying25 (by kernel_rfl) (by kernel_rfl) h
  obtain ⟨x_0_0, x_1_0, A_2_0, c_2_0, l_2_0, e0, p0_0, p0_1, p0_2, p0_3, p0_4, p0_5⟩ := Y24 (d := d + 0) (hf 0 (by decide))
  obtain ⟨x_0_1, x_1_1, A_2_1, c_2_1, l_2_1, e1, p1_0, p1_1, p1_2, p1_3, p1_4, p1_5⟩ := Y24 (d := d + 0) (hf 1 (by decide))
  obtain ⟨x_0_2, x_1_2, A_2_2, c_2_2, l_2_2, e2, p2_0, p2_1, p2_2, p2_3, p2_4, p2_5⟩ := Y24 (d := d + 0) (hf 2 (by decide))
  exact ⟨x_0_0, x_1_0, A_2_0, c_2_0, l_2_0, x_0_1, x_1_1, A_2_1, c_2_1, l_2_1, x_0_2, x_1_2, A_2_2, c_2_2, l_2_2, e.trans (cat2 e0 (cat2 e1 (cat2 e2 (rfl)))), p0_0, p0_1, p0_2, p0_3, p0_4, p0_5, p1_0, p1_1, p1_2, p1_3, p1_4, p1_5, p2_0, p2_1, p2_2, p2_3, p2_4, p2_5⟩
theorem Y27 {M : Mem} {d : Nat} {cs : List Value} (h : Lays P M (d + 5) 27 cs) : ∃ (x_0_0_0 : Int) (x_1_0_0 : Int) (A_2_0_0 : Option Addr) (c_2_0_0 : Nat) (l_2_0_0 : List Int) (x_0_1_0 : Int) (x_1_1_0 : Int) (A_2_1_0 : Option Addr) (c_2_1_0 : Nat) (l_2_1_0 : List Int) (x_0_2_0 : Int) (x_1_2_0 : Int) (A_2_2_0 : Option Addr) (c_2_2_0 : Nat) (l_2_2_0 : List Int), cs = [.int .i64 x_0_0_0, .int .i64 x_1_0_0, .slice A_2_0_0 l_2_0_0.length c_2_0_0, .int .i64 x_0_1_0, .int .i64 x_1_1_0, .slice A_2_1_0 l_2_1_0.length c_2_1_0, .int .i64 x_0_2_0, .int .i64 x_1_2_0, .slice A_2_2_0 l_2_2_0.length c_2_2_0] ∧ (Lit.int .i64 x_0_0_0).wf = true ∧ (Lit.int .i64 x_1_0_0).wf = true ∧ l_2_0_0.length ≤ c_2_0_0 ∧ l_2_0_0.length * 1 ≤ 140737488351232 ∧ RdI M .u8 A_2_0_0 l_2_0_0 ∧ (∀ x ∈ l_2_0_0, (Lit.int .u8 x).wf = true) ∧ (Lit.int .i64 x_0_1_0).wf = true ∧ (Lit.int .i64 x_1_1_0).wf = true ∧ l_2_1_0.length ≤ c_2_1_0 ∧ l_2_1_0.length * 1 ≤ 140737488351232 ∧ RdI M .u8 A_2_1_0 l_2_1_0 ∧ (∀ x ∈ l_2_1_0, (Lit.int .u8 x).wf = true) ∧ (Lit.int .i64 x_0_2_0).wf = true ∧ (Lit.int .i64 x_1_2_0).wf = true ∧ l_2_2_0.length ≤ c_2_2_0 ∧ l_2_2_0.length * 1 ≤ 140737488351232 ∧ RdI M .u8 A_2_2_0 l_2_2_0 ∧ (∀ x ∈ l_2_2_0, (Lit.int .u8 x).wf = true) := by
  obtain ⟨e, hf⟩ := lays_fields (g := fun _ => true) Go.Proofs.Try.underlying27 (by kernel_rfl) h
  obtain ⟨x_0_0_0, x_1_0_0, A_2_0_0, c_2_0_0, l_2_0_0, x_0_1_0, x_1_1_0, A_2_1_0, c_2_1_0, l_2_1_0, x_0_2_0, x_1_2_0, A_2_2_0, c_2_2_0, l_2_2_0, e0, p0_0, p0_1, p0_2, p0_3, p0_4, p0_5, p0_6, p0_7, p0_8, p0_9, p0_10, p0_11, p0_12, p0_13, p0_14, p0_15, p0_16, p0_17⟩ := Y25 (d := d + 0) (hf _ (List.Mem.head _))
  exact ⟨x_0_0_0, x_1_0_0, A_2_0_0, c_2_0_0, l_2_0_0, x_0_1_0, x_1_1_0, A_2_1_0, c_2_1_0, l_2_1_0, x_0_2_0, x_1_2_0, A_2_2_0, c_2_2_0, l_2_2_0, e.trans (cat2 e0 (rfl)), p0_0, p0_1, p0_2, p0_3, p0_4, p0_5, p0_6, p0_7, p0_8, p0_9, p0_10, p0_11, p0_12, p0_13, p0_14, p0_15, p0_16, p0_17⟩
theorem Y29 {M : Mem} {d : Nat} {cs : List Value} (h : Lays P M (d + 2) 29 cs) : ∃ (x_0 : Int) (x_1 : Int) (x_2 : Int) (x_3 : Int), cs = [.int .i64 x_0, .int .i64 x_1, .int .i64 x_2, .int .i64 x_3] ∧ (Lit.int .i64 x_0).wf = true ∧ (Lit.int .i64 x_1).wf = true ∧ (Lit.int .i64 x_2).wf = true ∧ (Lit.int .i64 x_3).wf = true := by
  obtain ⟨e, hf⟩ := lays_fields (g := fun _ => true) Go.Proofs.Try.underlying29 (by kernel_rfl) h
  obtain ⟨x_0, e0, p0_0⟩ := Y3 (d := d + 0) (hf _ (List.Mem.head _))
  obtain ⟨x_1, e1, p1_0⟩ := Y3 (d := d + 0) (hf _ (List.Mem.tail _ (List.Mem.head _)))
  obtain ⟨x_2, e2, p2_0⟩ := Y3 (d := d + 0) (hf _ (List.Mem.tail _ (List.Mem.tail _ (List.Mem.head _))))
  obtain ⟨x_3, e3, p3_0⟩ := Y3 (d := d + 0) (hf _ (List.Mem.tail _ (List.Mem.tail _ (List.Mem.tail _ (List.Mem.head _)))))
  exact ⟨x_0, x_1, x_2, x_3, e.trans (cat2 e0 (cat2 e1 (cat2 e2 (cat2 e3 (rfl))))), p0_0, p1_0, p2_0, p3_0⟩
theorem Y31 {M : Mem} {d : Nat} {cs : List Value} (h : Lays P M (d + 2) 31 cs) : ∃ (x_0 : Int) (x_1 : Int), cs = [.int .i64 x_0, .int .i64 x_1] ∧ (Lit.int .i64 x_0).wf = true ∧ (Lit.int .i64 x_1).wf = true := by
  obtain ⟨e, hf⟩ := lays_fields (g := fun _ => true) Go.Proofs.Try.underlying31 (by kernel_rfl) h
  obtain ⟨x_0, e0, p0_0⟩ := Y3 (d := d + 0) (hf _ (List.Mem.head _))
  obtain ⟨x_1, e1, p1_0⟩ := Y3 (d := d + 0) (hf _ (List.Mem.tail _ (List.Mem.head _)))
  exact ⟨x_0, x_1, e.trans (cat2 e0 (cat2 e1 (rfl))), p0_0, p1_0⟩
theorem Y33 {M : Mem} {d : Nat} {cs : List Value} (h : Lays P M (d + 3) 33 cs) : ∃ (x_0 : Int) (x_0_1 : Int) (x_1_1 : Int) (x_2_1 : Int) (x_3_1 : Int) (x_0_2 : Int) (x_1_2 : Int) (x_3 : Int), cs = [.int .i64 x_0, .int .i64 x_0_1, .int .i64 x_1_1, .int .i64 x_2_1, .int .i64 x_3_1, .int .i64 x_0_2, .int .i64 x_1_2, .int .i64 x_3] ∧ (Lit.int .i64 x_0).wf = true ∧ (Lit.int .i64 x_0_1).wf = true ∧ (Lit.int .i64 x_1_1).wf = true ∧ (Lit.int .i64 x_2_1).wf = true ∧ (Lit.int .i64 x_3_1).wf = true ∧ (Lit.int .i64 x_0_2).wf = true ∧ (Lit.int .i64 x_1_2).wf = true ∧ (Lit.int .i64 x_3).wf = true := by
  obtain ⟨e, hf⟩ := lays_fields (g := fun _ => true) Go.Proofs.Try.underlying33 (by kernel_rfl) h
  obtain ⟨x_0, e0, p0_0⟩ := Y3 (d := d + 1) (hf _ (List.Mem.head _))
  obtain ⟨x_0_1, x_1_1, x_2_1, x_3_1, e1, p1_0, p1_1, p1_2, p1_3⟩ := Y29 (d := d + 0) (hf _ (List.Mem.tail _ (List.Mem.head _)))
  obtain ⟨x_0_2, x_1_2, e2, p2_0, p2_1⟩ := Y31 (d := d + 0) (hf _ (List.Mem.tail _ (List.Mem.tail _ (List.Mem.head _))))
  obtain ⟨x_3, e3, p3_0⟩ := Y3 (d := d + 1) (hf _ (List.Mem.tail _ (List.Mem.tail _ (List.Mem.tail _ (List.Mem.head _)))))
  exact ⟨x_0, x_0_1, x_1_1, x_2_1, x_3_1, x_0_2, x_1_2, x_3, e.trans (cat2 e0 (cat2 e1 (cat2 e2 (cat2 e3 (rfl))))), p0_0, p1_0, p1_1, p1_2, p1_3, p2_0, p2_1, p3_0⟩
theorem Y51 {M : Mem} {d : Nat} {cs : List Value} (h : Lays P M (d + 3) 51 cs) : ∃ (A_0 : Option Addr) (c_0 : Nat) (l_0 : List Int) (x_1 : Int) (x_0_2 : Int) (x_1_2 : Int) (x_2_2 : Int) (x_3_2 : Int) (A_3 : Option Addr) (c_3 : Nat) (l_3 : List Int), cs = [.slice A_0 l_0.length c_0, .int .i64 x_1, .int .i64 x_0_2, .int .i64 x_1_2, .int .i64 x_2_2, .int .i64 x_3_2, .slice A_3 l_3.length c_3] ∧ l_0.length ≤ c_0 ∧ l_0.length * 1 ≤ 140737488351232 ∧ RdI M .u8 A_0 l_0 ∧ (∀ x ∈ l_0, (Lit.int .u8 x).wf = true) ∧ (Lit.int .i64 x_1).wf = true ∧ (Lit.int .i64 x_0_2).wf = true ∧ (Lit.int .i64 x_1_2).wf = true ∧ (Lit.int .i64 x_2_2).wf = true ∧ (Lit.int .i64 x_3_2).wf = true ∧ l_3.length ≤ c_3 ∧ l_3.length * 1 ≤ 140737488351232 ∧ RdI M .u8 A_3 l_3 ∧ (∀ x ∈ l_3, (Lit.int .u8 x).wf = true) := by
  obtain ⟨e, hf⟩ := lays_fields (g := fun _ => true) Go.Proofs.Try.underlying51 (by kernel_rfl) h
  obtain ⟨A_0, c_0, l_0, e0, p0_0, p0_1, p0_2, p0_3⟩ := Y22 (d := d + 0) (hf _ (List.Mem.head _))
  obtain ⟨x_1, e1, p1_0⟩ := Y3 (d := d + 1) (hf _ (List.Mem.tail _ (List.Mem.head _)))
  obtain ⟨x_0_2, x_1_2, x_2_2, x_3_2, e2, p2_0, p2_1, p2_2, p2_3⟩ := Y29 (d := d + 0) (hf _ (List.Mem.tail _ (List.Mem.tail _ (List.Mem.head _))))
  obtain ⟨A_3, c_3, l_3, e3, p3_0, p3_1, p3_2, p3_3⟩ := Y22 (d := d + 0) (hf _ (List.Mem.tail _ (List.Mem.tail _ (List.Mem.tail _ (List.Mem.head _)))))
  exact ⟨A_0, c_0, l_0, x_1, x_0_2, x_1_2, x_2_2, x_3_2, A_3, c_3, l_3, e.trans (cat2 e0 (cat2 e1 (cat2 e2 (cat2 e3 (rfl))))), p0_0, p0_1, p0_2, p0_3, p1_0, p2_0, p2_1, p2_2, p2_3, p3_0, p3_1, p3_2, p3_3⟩
theorem Y54 {M : Mem} {d : Nat} {cs : List Value} (h : Lays P M (d + 2) 54 cs) : ∃ (x_0 : Int) (x_1 : Int), cs = [.int .i64 x_0, .int .i64 x_1] ∧ (Lit.int .i64 x_0).wf = true ∧ (Lit.int .i64 x_1).wf = true := by
  obtain ⟨e, hf⟩ := lays_items (n := 2) (z := 1) Go.Proofs.Try.underlying54 (by kernel_rfl) (by kernel_rfl) h
  obtain ⟨x_0, e0, p0_0⟩ := Y3 (d := d + 0) (hf 0 (by decide))
  obtain ⟨x_1, e1, p1_0⟩ := Y3 (d := d + 0) (hf 1 (by decide))
  exact ⟨x_0, x_1, e.trans (cat2 e0 (cat2 e1 (rfl))), p0_0, p1_0⟩
theorem Y4 {M : Mem} {d : Nat} {cs : List Value} (h : Lays P M (d + 1) 4 cs) : ∃ (b : Bool), cs = [.bool b] := lays_bool Go.Proofs.Try.underlying4 h
theorem Arg.MotionSingles {M : Mem} {vs : List Value} (h : LaysArgs P M [27, 33] vs) : ∃ (x_0_0_0_0 : Int) (x_1_0_0_0 : Int) (A_2_0_0_0 : Option Addr) (c_2_0_0_0 : Nat) (l_2_0_0_0 : List Int) (x_0_1_0_0 : Int) (x_1_1_0_0 : Int) (A_2_1_0_0 : Option Addr) (c_2_1_0_0 : Nat) (l_2_1_0_0 : List Int) (x_0_2_0_0 : Int) (x_1_2_0_0 : Int) (A_2_2_0_0 : Option Addr) (c_2_2_0_0 : Nat) (l_2_2_0_0 : List Int) (x_0_1 : Int) (x_0_1_1 : Int) (x_1_1_1 : Int) (x_2_1_1 : Int) (x_3_1_1 : Int) (x_0_2_1 : Int) (x_1_2_1 : Int) (x_3_1 : Int), vs = [.agg ⟨[.int .i64 x_0_0_0_0, .int .i64 x_1_0_0_0, .slice A_2_0_0_0 l_2_0_0_0.length c_2_0_0_0, .int .i64 x_0_1_0_0, .int .i64 x_1_1_0_0, .slice A_2_1_0_0 l_2_1_0_0.length c_2_1_0_0, .int .i64 x_0_2_0_0, .int .i64 x_1_2_0_0, .slice A_2_2_0_0 l_2_2_0_0.length c_2_2_0_0]⟩, .agg ⟨[.int .i64 x_0_1, .int .i64 x_0_1_1, .int .i64 x_1_1_1, .int .i64 x_2_1_1, .int .i64 x_3_1_1, .int .i64 x_0_2_1, .int .i64 x_1_2_1, .int .i64 x_3_1]⟩] ∧ (Lit.int .i64 x_0_0_0_0).wf = true ∧ (Lit.int .i64 x_1_0_0_0).wf = true ∧ l_2_0_0_0.length ≤ c_2_0_0_0 ∧ l_2_0_0_0.length * 1 ≤ 140737488351232 ∧ RdI M .u8 A_2_0_0_0 l_2_0_0_0 ∧ (∀ x ∈ l_2_0_0_0, (Lit.int .u8 x).wf = true) ∧ (Lit.int .i64 x_0_1_0_0).wf = true ∧ (Lit.int .i64 x_1_1_0_0).wf = true ∧ l_2_1_0_0.length ≤ c_2_1_0_0 ∧ l_2_1_0_0.length * 1 ≤ 140737488351232 ∧ RdI M .u8 A_2_1_0_0 l_2_1_0_0 ∧ (∀ x ∈ l_2_1_0_0, (Lit.int .u8 x).wf = true) ∧ (Lit.int .i64 x_0_2_0_0).wf = true ∧ (Lit.int .i64 x_1_2_0_0).wf = true ∧ l_2_2_0_0.length ≤ c_2_2_0_0 ∧ l_2_2_0_0.length * 1 ≤ 140737488351232 ∧ RdI M .u8 A_2_2_0_0 l_2_2_0_0 ∧ (∀ x ∈ l_2_2_0_0, (Lit.int .u8 x).wf = true) ∧ (Lit.int .i64 x_0_1).wf = true ∧ (Lit.int .i64 x_0_1_1).wf = true ∧ (Lit.int .i64 x_1_1_1).wf = true ∧ (Lit.int .i64 x_2_1_1).wf = true ∧ (Lit.int .i64 x_3_1_1).wf = true ∧ (Lit.int .i64 x_0_2_1).wf = true ∧ (Lit.int .i64 x_1_2_1).wf = true ∧ (Lit.int .i64 x_3_1).wf = true := by
  obtain ⟨v0, r0, rfl, h0, k0⟩ := args_cons h
  obtain ⟨acs0, rfl, g0⟩ := arg_agg (by kernel_rfl) h0
  obtain ⟨x_0_0_0_0, x_1_0_0_0, A_2_0_0_0, c_2_0_0_0, l_2_0_0_0, x_0_1_0_0, x_1_1_0_0, A_2_1_0_0, c_2_1_0_0, l_2_1_0_0, x_0_2_0_0, x_1_2_0_0, A_2_2_0_0, c_2_2_0_0, l_2_2_0_0, e0, p0_0, p0_1, p0_2, p0_3, p0_4, p0_5, p0_6, p0_7, p0_8, p0_9, p0_10, p0_11, p0_12, p0_13, p0_14, p0_15, p0_16, p0_17⟩ := Y27 (d := 3) g0
  subst e0
  obtain ⟨v1, r1, rfl, h1, k1⟩ := args_cons k0
  obtain ⟨acs1, rfl, g1⟩ := arg_agg (by kernel_rfl) h1
  obtain ⟨x_0_1, x_0_1_1, x_1_1_1, x_2_1_1, x_3_1_1, x_0_2_1, x_1_2_1, x_3_1, e1, p1_0, p1_1, p1_2, p1_3, p1_4, p1_5, p1_6, p1_7⟩ := Y33 (d := 5) g1
  subst e1
  obtain rfl := args_nil k1
  exact ⟨x_0_0_0_0, x_1_0_0_0, A_2_0_0_0, c_2_0_0_0, l_2_0_0_0, x_0_1_0_0, x_1_1_0_0, A_2_1_0_0, c_2_1_0_0, l_2_1_0_0, x_0_2_0_0, x_1_2_0_0, A_2_2_0_0, c_2_2_0_0, l_2_2_0_0, x_0_1, x_0_1_1, x_1_1_1, x_2_1_1, x_3_1_1, x_0_2_1, x_1_2_1, x_3_1, rfl, p0_0, p0_1, p0_2, p0_3, p0_4, p0_5, p0_6, p0_7, p0_8, p0_9, p0_10, p0_11, p0_12, p0_13, p0_14, p0_15, p0_16, p0_17, p1_0, p1_1, p1_2, p1_3, p1_4, p1_5, p1_6, p1_7⟩
theorem Arg.MotionPairs {M : Mem} {vs : List Value} (h : LaysArgs P M [22, 22, 3] vs) : ∃ (A_0 : Option Addr) (c_0 : Nat) (l_0 : List Int) (A_1 : Option Addr) (c_1 : Nat) (l_1 : List Int) (x_2 : Int), vs = [.slice A_0 l_0.length c_0, .slice A_1 l_1.length c_1, .int .i64 x_2] ∧ l_0.length ≤ c_0 ∧ l_0.length * 1 ≤ 140737488351232 ∧ RdI M .u8 A_0 l_0 ∧ (∀ x ∈ l_0, (Lit.int .u8 x).wf = true) ∧ l_1.length ≤ c_1 ∧ l_1.length * 1 ≤ 140737488351232 ∧ RdI M .u8 A_1 l_1 ∧ (∀ x ∈ l_1, (Lit.int .u8 x).wf = true) ∧ (Lit.int .i64 x_2).wf = true := by
  obtain ⟨v0, r0, rfl, h0, k0⟩ := args_cons h
  obtain ⟨A_0, c_0, l_0, e0, p0_0, p0_1, p0_2, p0_3⟩ := Y22 (d := 6) (arg_one (by kernel_rfl) h0)
  cases e0
  obtain ⟨v1, r1, rfl, h1, k1⟩ := args_cons k0
  obtain ⟨A_1, c_1, l_1, e1, p1_0, p1_1, p1_2, p1_3⟩ := Y22 (d := 6) (arg_one (by kernel_rfl) h1)
  cases e1
  obtain ⟨v2, r2, rfl, h2, k2⟩ := args_cons k1
  obtain ⟨x_2, e2, p2_0⟩ := Y3 (d := 7) (arg_one (by kernel_rfl) h2)
  cases e2
  obtain rfl := args_nil k2
  exact ⟨A_0, c_0, l_0, A_1, c_1, l_1, x_2, rfl, p0_0, p0_1, p0_2, p0_3, p1_0, p1_1, p1_2, p1_3, p2_0⟩
theorem Arg.MotionBlends {M : Mem} {vs : List Value} (h : LaysArgs P M [51] vs) : ∃ (A_0_0 : Option Addr) (c_0_0 : Nat) (l_0_0 : List Int) (x_1_0 : Int) (x_0_2_0 : Int) (x_1_2_0 : Int) (x_2_2_0 : Int) (x_3_2_0 : Int) (A_3_0 : Option Addr) (c_3_0 : Nat) (l_3_0 : List Int), vs = [.agg ⟨[.slice A_0_0 l_0_0.length c_0_0, .int .i64 x_1_0, .int .i64 x_0_2_0, .int .i64 x_1_2_0, .int .i64 x_2_2_0, .int .i64 x_3_2_0, .slice A_3_0 l_3_0.length c_3_0]⟩] ∧ l_0_0.length ≤ c_0_0 ∧ l_0_0.length * 1 ≤ 140737488351232 ∧ RdI M .u8 A_0_0 l_0_0 ∧ (∀ x ∈ l_0_0, (Lit.int .u8 x).wf = true) ∧ (Lit.int .i64 x_1_0).wf = true ∧ (Lit.int .i64 x_0_2_0).wf = true ∧ (Lit.int .i64 x_1_2_0).wf = true ∧ (Lit.int .i64 x_2_2_0).wf = true ∧ (Lit.int .i64 x_3_2_0).wf = true ∧ l_3_0.length ≤ c_3_0 ∧ l_3_0.length * 1 ≤ 140737488351232 ∧ RdI M .u8 A_3_0 l_3_0 ∧ (∀ x ∈ l_3_0, (Lit.int .u8 x).wf = true) := by
  obtain ⟨v0, r0, rfl, h0, k0⟩ := args_cons h
  obtain ⟨acs0, rfl, g0⟩ := arg_agg (by kernel_rfl) h0
  obtain ⟨A_0_0, c_0_0, l_0_0, x_1_0, x_0_2_0, x_1_2_0, x_2_2_0, x_3_2_0, A_3_0, c_3_0, l_3_0, e0, p0_0, p0_1, p0_2, p0_3, p0_4, p0_5, p0_6, p0_7, p0_8, p0_9, p0_10, p0_11, p0_12⟩ := Y51 (d := 5) g0
  subst e0
  obtain rfl := args_nil k0
  exact ⟨A_0_0, c_0_0, l_0_0, x_1_0, x_0_2_0, x_1_2_0, x_2_2_0, x_3_2_0, A_3_0, c_3_0, l_3_0, rfl, p0_0, p0_1, p0_2, p0_3, p0_4, p0_5, p0_6, p0_7, p0_8, p0_9, p0_10, p0_11, p0_12⟩
theorem Arg.MotionFurther {M : Mem} {vs : List Value} (h : LaysArgs P M [27, 33, 54] vs) : ∃ (x_0_0_0_0 : Int) (x_1_0_0_0 : Int) (A_2_0_0_0 : Option Addr) (c_2_0_0_0 : Nat) (l_2_0_0_0 : List Int) (x_0_1_0_0 : Int) (x_1_1_0_0 : Int) (A_2_1_0_0 : Option Addr) (c_2_1_0_0 : Nat) (l_2_1_0_0 : List Int) (x_0_2_0_0 : Int) (x_1_2_0_0 : Int) (A_2_2_0_0 : Option Addr) (c_2_2_0_0 : Nat) (l_2_2_0_0 : List Int) (x_0_1 : Int) (x_0_1_1 : Int) (x_1_1_1 : Int) (x_2_1_1 : Int) (x_3_1_1 : Int) (x_0_2_1 : Int) (x_1_2_1 : Int) (x_3_1 : Int) (x_0_2 : Int) (x_1_2 : Int), vs = [.agg ⟨[.int .i64 x_0_0_0_0, .int .i64 x_1_0_0_0, .slice A_2_0_0_0 l_2_0_0_0.length c_2_0_0_0, .int .i64 x_0_1_0_0, .int .i64 x_1_1_0_0, .slice A_2_1_0_0 l_2_1_0_0.length c_2_1_0_0, .int .i64 x_0_2_0_0, .int .i64 x_1_2_0_0, .slice A_2_2_0_0 l_2_2_0_0.length c_2_2_0_0]⟩, .agg ⟨[.int .i64 x_0_1, .int .i64 x_0_1_1, .int .i64 x_1_1_1, .int .i64 x_2_1_1, .int .i64 x_3_1_1, .int .i64 x_0_2_1, .int .i64 x_1_2_1, .int .i64 x_3_1]⟩, .agg ⟨[.int .i64 x_0_2, .int .i64 x_1_2]⟩] ∧ (Lit.int .i64 x_0_0_0_0).wf = true ∧ (Lit.int .i64 x_1_0_0_0).wf = true ∧ l_2_0_0_0.length ≤ c_2_0_0_0 ∧ l_2_0_0_0.length * 1 ≤ 140737488351232 ∧ RdI M .u8 A_2_0_0_0 l_2_0_0_0 ∧ (∀ x ∈ l_2_0_0_0, (Lit.int .u8 x).wf = true) ∧ (Lit.int .i64 x_0_1_0_0).wf = true ∧ (Lit.int .i64 x_1_1_0_0).wf = true ∧ l_2_1_0_0.length ≤ c_2_1_0_0 ∧ l_2_1_0_0.length * 1 ≤ 140737488351232 ∧ RdI M .u8 A_2_1_0_0 l_2_1_0_0 ∧ (∀ x ∈ l_2_1_0_0, (Lit.int .u8 x).wf = true) ∧ (Lit.int .i64 x_0_2_0_0).wf = true ∧ (Lit.int .i64 x_1_2_0_0).wf = true ∧ l_2_2_0_0.length ≤ c_2_2_0_0 ∧ l_2_2_0_0.length * 1 ≤ 140737488351232 ∧ RdI M .u8 A_2_2_0_0 l_2_2_0_0 ∧ (∀ x ∈ l_2_2_0_0, (Lit.int .u8 x).wf = true) ∧ (Lit.int .i64 x_0_1).wf = true ∧ (Lit.int .i64 x_0_1_1).wf = true ∧ (Lit.int .i64 x_1_1_1).wf = true ∧ (Lit.int .i64 x_2_1_1).wf = true ∧ (Lit.int .i64 x_3_1_1).wf = true ∧ (Lit.int .i64 x_0_2_1).wf = true ∧ (Lit.int .i64 x_1_2_1).wf = true ∧ (Lit.int .i64 x_3_1).wf = true ∧ (Lit.int .i64 x_0_2).wf = true ∧ (Lit.int .i64 x_1_2).wf = true := by
  obtain ⟨v0, r0, rfl, h0, k0⟩ := args_cons h
  obtain ⟨acs0, rfl, g0⟩ := arg_agg (by kernel_rfl) h0
  obtain ⟨x_0_0_0_0, x_1_0_0_0, A_2_0_0_0, c_2_0_0_0, l_2_0_0_0, x_0_1_0_0, x_1_1_0_0, A_2_1_0_0, c_2_1_0_0, l_2_1_0_0, x_0_2_0_0, x_1_2_0_0, A_2_2_0_0, c_2_2_0_0, l_2_2_0_0, e0, p0_0, p0_1, p0_2, p0_3, p0_4, p0_5, p0_6, p0_7, p0_8, p0_9, p0_10, p0_11, p0_12, p0_13, p0_14, p0_15, p0_16, p0_17⟩ := Y27 (d := 3) g0
  subst e0
  obtain ⟨v1, r1, rfl, h1, k1⟩ := args_cons k0
  obtain ⟨acs1, rfl, g1⟩ := arg_agg (by kernel_rfl) h1
  obtain ⟨x_0_1, x_0_1_1, x_1_1_1, x_2_1_1, x_3_1_1, x_0_2_1, x_1_2_1, x_3_1, e1, p1_0, p1_1, p1_2, p1_3, p1_4, p1_5, p1_6, p1_7⟩ := Y33 (d := 5) g1
  subst e1
  obtain ⟨v2, r2, rfl, h2, k2⟩ := args_cons k1
  obtain ⟨acs2, rfl, g2⟩ := arg_agg (by kernel_rfl) h2
  obtain ⟨x_0_2, x_1_2, e2, p2_0, p2_1⟩ := Y54 (d := 6) g2
  subst e2
  obtain rfl := args_nil k2
  exact ⟨x_0_0_0_0, x_1_0_0_0, A_2_0_0_0, c_2_0_0_0, l_2_0_0_0, x_0_1_0_0, x_1_1_0_0, A_2_1_0_0, c_2_1_0_0, l_2_1_0_0, x_0_2_0_0, x_1_2_0_0, A_2_2_0_0, c_2_2_0_0, l_2_2_0_0, x_0_1, x_0_1_1, x_1_1_1, x_2_1_1, x_3_1_1, x_0_2_1, x_1_2_1, x_3_1, x_0_2, x_1_2, rfl, p0_0, p0_1, p0_2, p0_3, p0_4, p0_5, p0_6, p0_7, p0_8, p0_9, p0_10, p0_11, p0_12, p0_13, p0_14, p0_15, p0_16, p0_17, p1_0, p1_1, p1_2, p1_3, p1_4, p1_5, p1_6, p1_7, p2_0, p2_1⟩
theorem Arg.MotionBetween {M : Mem} {vs : List Value} (h : LaysArgs P M [51, 4] vs) : ∃ (A_0_0 : Option Addr) (c_0_0 : Nat) (l_0_0 : List Int) (x_1_0 : Int) (x_0_2_0 : Int) (x_1_2_0 : Int) (x_2_2_0 : Int) (x_3_2_0 : Int) (A_3_0 : Option Addr) (c_3_0 : Nat) (l_3_0 : List Int) (b_1 : Bool), vs = [.agg ⟨[.slice A_0_0 l_0_0.length c_0_0, .int .i64 x_1_0, .int .i64 x_0_2_0, .int .i64 x_1_2_0, .int .i64 x_2_2_0, .int .i64 x_3_2_0, .slice A_3_0 l_3_0.length c_3_0]⟩, .bool b_1] ∧ l_0_0.length ≤ c_0_0 ∧ l_0_0.length * 1 ≤ 140737488351232 ∧ RdI M .u8 A_0_0 l_0_0 ∧ (∀ x ∈ l_0_0, (Lit.int .u8 x).wf = true) ∧ (Lit.int .i64 x_1_0).wf = true ∧ (Lit.int .i64 x_0_2_0).wf = true ∧ (Lit.int .i64 x_1_2_0).wf = true ∧ (Lit.int .i64 x_2_2_0).wf = true ∧ (Lit.int .i64 x_3_2_0).wf = true ∧ l_3_0.length ≤ c_3_0 ∧ l_3_0.length * 1 ≤ 140737488351232 ∧ RdI M .u8 A_3_0 l_3_0 ∧ (∀ x ∈ l_3_0, (Lit.int .u8 x).wf = true) := by
  obtain ⟨v0, r0, rfl, h0, k0⟩ := args_cons h
  obtain ⟨acs0, rfl, g0⟩ := arg_agg (by kernel_rfl) h0
  obtain ⟨A_0_0, c_0_0, l_0_0, x_1_0, x_0_2_0, x_1_2_0, x_2_2_0, x_3_2_0, A_3_0, c_3_0, l_3_0, e0, p0_0, p0_1, p0_2, p0_3, p0_4, p0_5, p0_6, p0_7, p0_8, p0_9, p0_10, p0_11, p0_12⟩ := Y51 (d := 5) g0
  subst e0
  obtain ⟨v1, r1, rfl, h1, k1⟩ := args_cons k0
  obtain ⟨b_1, e1⟩ := Y4 (d := 7) (arg_one (by kernel_rfl) h1)
  cases e1
  obtain rfl := args_nil k1
  exact ⟨A_0_0, c_0_0, l_0_0, x_1_0, x_0_2_0, x_1_2_0, x_2_2_0, x_3_2_0, A_3_0, c_3_0, l_3_0, b_1, rfl, p0_0, p0_1, p0_2, p0_3, p0_4, p0_5, p0_6, p0_7, p0_8, p0_9, p0_10, p0_11, p0_12⟩
theorem Arg.MotionTurned {M : Mem} {vs : List Value} (h : LaysArgs P M [51] vs) : ∃ (A_0_0 : Option Addr) (c_0_0 : Nat) (l_0_0 : List Int) (x_1_0 : Int) (x_0_2_0 : Int) (x_1_2_0 : Int) (x_2_2_0 : Int) (x_3_2_0 : Int) (A_3_0 : Option Addr) (c_3_0 : Nat) (l_3_0 : List Int), vs = [.agg ⟨[.slice A_0_0 l_0_0.length c_0_0, .int .i64 x_1_0, .int .i64 x_0_2_0, .int .i64 x_1_2_0, .int .i64 x_2_2_0, .int .i64 x_3_2_0, .slice A_3_0 l_3_0.length c_3_0]⟩] ∧ l_0_0.length ≤ c_0_0 ∧ l_0_0.length * 1 ≤ 140737488351232 ∧ RdI M .u8 A_0_0 l_0_0 ∧ (∀ x ∈ l_0_0, (Lit.int .u8 x).wf = true) ∧ (Lit.int .i64 x_1_0).wf = true ∧ (Lit.int .i64 x_0_2_0).wf = true ∧ (Lit.int .i64 x_1_2_0).wf = true ∧ (Lit.int .i64 x_2_2_0).wf = true ∧ (Lit.int .i64 x_3_2_0).wf = true ∧ l_3_0.length ≤ c_3_0 ∧ l_3_0.length * 1 ≤ 140737488351232 ∧ RdI M .u8 A_3_0 l_3_0 ∧ (∀ x ∈ l_3_0, (Lit.int .u8 x).wf = true) := by
  obtain ⟨v0, r0, rfl, h0, k0⟩ := args_cons h
  obtain ⟨acs0, rfl, g0⟩ := arg_agg (by kernel_rfl) h0
  obtain ⟨A_0_0, c_0_0, l_0_0, x_1_0, x_0_2_0, x_1_2_0, x_2_2_0, x_3_2_0, A_3_0, c_3_0, l_3_0, e0, p0_0, p0_1, p0_2, p0_3, p0_4, p0_5, p0_6, p0_7, p0_8, p0_9, p0_10, p0_11, p0_12⟩ := Y51 (d := 5) g0
  subst e0
  obtain rfl := args_nil k0
  exact ⟨A_0_0, c_0_0, l_0_0, x_1_0, x_0_2_0, x_1_2_0, x_2_2_0, x_3_2_0, A_3_0, c_3_0, l_3_0, rfl, p0_0, p0_1, p0_2, p0_3, p0_4, p0_5, p0_6, p0_7, p0_8, p0_9, p0_10, p0_11, p0_12⟩
theorem Arg.MotionKnown {M : Mem} {vs : List Value} (h : LaysArgs P M [] vs) : vs = [] := args_nil h
theorem Arg.MotionWhole {M : Mem} {vs : List Value} (h : LaysArgs P M [27, 33] vs) : ∃ (x_0_0_0_0 : Int) (x_1_0_0_0 : Int) (A_2_0_0_0 : Option Addr) (c_2_0_0_0 : Nat) (l_2_0_0_0 : List Int) (x_0_1_0_0 : Int) (x_1_1_0_0 : Int) (A_2_1_0_0 : Option Addr) (c_2_1_0_0 : Nat) (l_2_1_0_0 : List Int) (x_0_2_0_0 : Int) (x_1_2_0_0 : Int) (A_2_2_0_0 : Option Addr) (c_2_2_0_0 : Nat) (l_2_2_0_0 : List Int) (x_0_1 : Int) (x_0_1_1 : Int) (x_1_1_1 : Int) (x_2_1_1 : Int) (x_3_1_1 : Int) (x_0_2_1 : Int) (x_1_2_1 : Int) (x_3_1 : Int), vs = [.agg ⟨[.int .i64 x_0_0_0_0, .int .i64 x_1_0_0_0, .slice A_2_0_0_0 l_2_0_0_0.length c_2_0_0_0, .int .i64 x_0_1_0_0, .int .i64 x_1_1_0_0, .slice A_2_1_0_0 l_2_1_0_0.length c_2_1_0_0, .int .i64 x_0_2_0_0, .int .i64 x_1_2_0_0, .slice A_2_2_0_0 l_2_2_0_0.length c_2_2_0_0]⟩, .agg ⟨[.int .i64 x_0_1, .int .i64 x_0_1_1, .int .i64 x_1_1_1, .int .i64 x_2_1_1, .int .i64 x_3_1_1, .int .i64 x_0_2_1, .int .i64 x_1_2_1, .int .i64 x_3_1]⟩] ∧ (Lit.int .i64 x_0_0_0_0).wf = true ∧ (Lit.int .i64 x_1_0_0_0).wf = true ∧ l_2_0_0_0.length ≤ c_2_0_0_0 ∧ l_2_0_0_0.length * 1 ≤ 140737488351232 ∧ RdI M .u8 A_2_0_0_0 l_2_0_0_0 ∧ (∀ x ∈ l_2_0_0_0, (Lit.int .u8 x).wf = true) ∧ (Lit.int .i64 x_0_1_0_0).wf = true ∧ (Lit.int .i64 x_1_1_0_0).wf = true ∧ l_2_1_0_0.length ≤ c_2_1_0_0 ∧ l_2_1_0_0.length * 1 ≤ 140737488351232 ∧ RdI M .u8 A_2_1_0_0 l_2_1_0_0 ∧ (∀ x ∈ l_2_1_0_0, (Lit.int .u8 x).wf = true) ∧ (Lit.int .i64 x_0_2_0_0).wf = true ∧ (Lit.int .i64 x_1_2_0_0).wf = true ∧ l_2_2_0_0.length ≤ c_2_2_0_0 ∧ l_2_2_0_0.length * 1 ≤ 140737488351232 ∧ RdI M .u8 A_2_2_0_0 l_2_2_0_0 ∧ (∀ x ∈ l_2_2_0_0, (Lit.int .u8 x).wf = true) ∧ (Lit.int .i64 x_0_1).wf = true ∧ (Lit.int .i64 x_0_1_1).wf = true ∧ (Lit.int .i64 x_1_1_1).wf = true ∧ (Lit.int .i64 x_2_1_1).wf = true ∧ (Lit.int .i64 x_3_1_1).wf = true ∧ (Lit.int .i64 x_0_2_1).wf = true ∧ (Lit.int .i64 x_1_2_1).wf = true ∧ (Lit.int .i64 x_3_1).wf = true := by
  obtain ⟨v0, r0, rfl, h0, k0⟩ := args_cons h
  obtain ⟨acs0, rfl, g0⟩ := arg_agg (by kernel_rfl) h0
  obtain ⟨x_0_0_0_0, x_1_0_0_0, A_2_0_0_0, c_2_0_0_0, l_2_0_0_0, x_0_1_0_0, x_1_1_0_0, A_2_1_0_0, c_2_1_0_0, l_2_1_0_0, x_0_2_0_0, x_1_2_0_0, A_2_2_0_0, c_2_2_0_0, l_2_2_0_0, e0, p0_0, p0_1, p0_2, p0_3, p0_4, p0_5, p0_6, p0_7, p0_8, p0_9, p0_10, p0_11, p0_12, p0_13, p0_14, p0_15, p0_16, p0_17⟩ := Y27 (d := 3) g0
  subst e0
  obtain ⟨v1, r1, rfl, h1, k1⟩ := args_cons k0
  obtain ⟨acs1, rfl, g1⟩ := arg_agg (by kernel_rfl) h1
  obtain ⟨x_0_1, x_0_1_1, x_1_1_1, x_2_1_1, x_3_1_1, x_0_2_1, x_1_2_1, x_3_1, e1, p1_0, p1_1, p1_2, p1_3, p1_4, p1_5, p1_6, p1_7⟩ := Y33 (d := 5) g1
  subst e1
  obtain rfl := args_nil k1
  exact ⟨x_0_0_0_0, x_1_0_0_0, A_2_0_0_0, c_2_0_0_0, l_2_0_0_0, x_0_1_0_0, x_1_1_0_0, A_2_1_0_0, c_2_1_0_0, l_2_1_0_0, x_0_2_0_0, x_1_2_0_0, A_2_2_0_0, c_2_2_0_0, l_2_2_0_0, x_0_1, x_0_1_1, x_1_1_1, x_2_1_1, x_3_1_1, x_0_2_1, x_1_2_1, x_3_1, rfl, p0_0, p0_1, p0_2, p0_3, p0_4, p0_5, p0_6, p0_7, p0_8, p0_9, p0_10, p0_11, p0_12, p0_13, p0_14, p0_15, p0_16, p0_17, p1_0, p1_1, p1_2, p1_3, p1_4, p1_5, p1_6, p1_7⟩
end Go.Zt
