/- What the arguments of the laws are. -/
import Derived.Test.YtkmakjapgkfdnaaAb29
import Derived.Test.YtkmakjapgkfdnaaEq0
import Derived.KernelRfl
set_option maxRecDepth 100000
set_option linter.unusedVariables false
namespace Go.Zt
theorem cat2 {a a' b b' : List Value} (h : a = a') (k : b = b') : a ++ b = a' ++ b' := by rw [h, k]
theorem Y3 {M : Mem} {d : Nat} {cs : List Value} (h : Lays P M (d + 1) 3 cs) : ∃ (x : Int), cs = [.int .i64 x] ∧ (Lit.int .i64 x).wf = true := lays_int Go.Proofs.Try.underlying3 h
theorem Y22 {M : Mem} {d : Nat} {cs : List Value} (h : Lays P M (d + 2) 22 cs) : ∃ (A : Option Addr) (c : Nat) (l : List Int), cs = [.slice A l.length c] ∧ l.length ≤ c ∧ l.length * 1 ≤ 140737488351232 ∧ RdI M .u8 A l ∧ (∀ x ∈ l, (Lit.int .u8 x).wf = true) := lays_ints Go.Proofs.Try.underlying22 Go.Proofs.Try.underlying5 (by kernel_rfl) (by kernel_rfl) h
theorem Y24 {M : Mem} {d : Nat} {cs : List Value} (h : Lays P M (d + 3) 24 cs) : ∃ (x_0 : Int) (x_1 : Int) (A_2 : Option Addr) (c_2 : Nat) (l_2 : List Int), cs = [.int .i64 x_0, .int .i64 x_1, .slice A_2 l_2.length c_2] ∧ (Lit.int .i64 x_0).wf = true ∧ (Lit.int .i64 x_1).wf = true ∧ l_2.length ≤ c_2 ∧ l_2.length * 1 ≤ 140737488351232 ∧ RdI M .u8 A_2 l_2 ∧ (∀ x ∈ l_2, (Lit.int .u8 x).wf = true) := by
  obtain ⟨e, hf⟩ := lays_fields (g := fun _ => true) Go.Proofs.Try.underlying24 (by kernel_rfl) h
  obtain ⟨x_0, e0, p0_0⟩ := Y3 (d := d + 1) (hf _ (List.Mem.head _))
  obtain ⟨x_1, e1, p1_0⟩ := Y3 (d := d + 1) (hf _ (List.Mem.tail _ (List.Mem.head _)))
  obtain ⟨A_2, c_2, l_2, e2, p2_0, p2_1, p2_2, p2_3⟩ := Y22 (d := d + 0) (hf _ (List.Mem.tail _ (List.Mem.tail _ (List.Mem.head _))))
  exact ⟨x_0, x_1, A_2, c_2, l_2, e.trans (cat2 e0 (cat2 e1 (cat2 e2 (rfl)))), p0_0, p1_0, p2_0, p2_1, p2_2, p2_3⟩
theorem Y26 {M : Mem} {d : Nat} {cs : List Value} (h : Lays P M (d + 2) 26 cs) : ∃ (x_0 : Int) (x_1 : Int) (x_2 : Int) (x_3 : Int), cs = [.int .i64 x_0, .int .i64 x_1, .int .i64 x_2, .int .i64 x_3] ∧ (Lit.int .i64 x_0).wf = true ∧ (Lit.int .i64 x_1).wf = true ∧ (Lit.int .i64 x_2).wf = true ∧ (Lit.int .i64 x_3).wf = true := by
  obtain ⟨e, hf⟩ := lays_fields (g := fun _ => true) Go.Proofs.Try.underlying26 (by kernel_rfl) h
  obtain ⟨x_0, e0, p0_0⟩ := Y3 (d := d + 0) (hf _ (List.Mem.head _))
  obtain ⟨x_1, e1, p1_0⟩ := Y3 (d := d + 0) (hf _ (List.Mem.tail _ (List.Mem.head _)))
  obtain ⟨x_2, e2, p2_0⟩ := Y3 (d := d + 0) (hf _ (List.Mem.tail _ (List.Mem.tail _ (List.Mem.head _))))
  obtain ⟨x_3, e3, p3_0⟩ := Y3 (d := d + 0) (hf _ (List.Mem.tail _ (List.Mem.tail _ (List.Mem.tail _ (List.Mem.head _)))))
  exact ⟨x_0, x_1, x_2, x_3, e.trans (cat2 e0 (cat2 e1 (cat2 e2 (cat2 e3 (rfl))))), p0_0, p1_0, p2_0, p3_0⟩
theorem Y41 {M : Mem} {d : Nat} {cs : List Value} (h : Lays P M (d + 4) 41 cs) : ∃ (x_0_0 : Int) (x_1_0 : Int) (A_2_0 : Option Addr) (c_2_0 : Nat) (l_2_0 : List Int) (x_0_1 : Int) (x_1_1 : Int) (A_2_1 : Option Addr) (c_2_1 : Nat) (l_2_1 : List Int) (x_0_2 : Int) (x_1_2 : Int) (A_2_2 : Option Addr) (c_2_2 : Nat) (l_2_2 : List Int), cs = [.int .i64 x_0_0, .int .i64 x_1_0, .slice A_2_0 l_2_0.length c_2_0, .int .i64 x_0_1, .int .i64 x_1_1, .slice A_2_1 l_2_1.length c_2_1, .int .i64 x_0_2, .int .i64 x_1_2, .slice A_2_2 l_2_2.length c_2_2] ∧ (Lit.int .i64 x_0_0).wf = true ∧ (Lit.int .i64 x_1_0).wf = true ∧ l_2_0.length ≤ c_2_0 ∧ l_2_0.length * 1 ≤ 140737488351232 ∧ RdI M .u8 A_2_0 l_2_0 ∧ (∀ x ∈ l_2_0, (Lit.int .u8 x).wf = true) ∧ (Lit.int .i64 x_0_1).wf = true ∧ (Lit.int .i64 x_1_1).wf = true ∧ l_2_1.length ≤ c_2_1 ∧ l_2_1.length * 1 ≤ 140737488351232 ∧ RdI M .u8 A_2_1 l_2_1 ∧ (∀ x ∈ l_2_1, (Lit.int .u8 x).wf = true) ∧ (Lit.int .i64 x_0_2).wf = true ∧ (Lit.int .i64 x_1_2).wf = true ∧ l_2_2.length ≤ c_2_2 ∧ l_2_2.length * 1 ≤ 140737488351232 ∧ RdI M .u8 A_2_2 l_2_2 ∧ (∀ x ∈ l_2_2, (Lit.int .u8 x).wf = true) := by
  obtain ⟨e, hf⟩ := lays_items (n := 3) (z := 3) Go.Proofs.Try.underlying41 (by kernel_rfl) (by kernel_rfl) h
  obtain ⟨x_0_0, x_1_0, A_2_0, c_2_0, l_2_0, e0, p0_0, p0_1, p0_2, p0_3, p0_4, p0_5⟩ := Y24 (d := d + 0) (hf 0 (by decide))
  obtain ⟨x_0_1, x_1_1, A_2_1, c_2_1, l_2_1, e1, p1_0, p1_1, p1_2, p1_3, p1_4, p1_5⟩ := Y24 (d := d + 0) (hf 1 (by decide))
  obtain ⟨x_0_2, x_1_2, A_2_2, c_2_2, l_2_2, e2, p2_0, p2_1, p2_2, p2_3, p2_4, p2_5⟩ := Y24 (d := d + 0) (hf 2 (by decide))
  exact ⟨x_0_0, x_1_0, A_2_0, c_2_0, l_2_0, x_0_1, x_1_1, A_2_1, c_2_1, l_2_1, x_0_2, x_1_2, A_2_2, c_2_2, l_2_2, e.trans (cat2 e0 (cat2 e1 (cat2 e2 (rfl)))), p0_0, p0_1, p0_2, p0_3, p0_4, p0_5, p1_0, p1_1, p1_2, p1_3, p1_4, p1_5, p2_0, p2_1, p2_2, p2_3, p2_4, p2_5⟩
theorem Y43 {M : Mem} {d : Nat} {cs : List Value} (h : Lays P M (d + 5) 43 cs) : ∃ (x_0_0_0 : Int) (x_1_0_0 : Int) (A_2_0_0 : Option Addr) (c_2_0_0 : Nat) (l_2_0_0 : List Int) (x_0_1_0 : Int) (x_1_1_0 : Int) (A_2_1_0 : Option Addr) (c_2_1_0 : Nat) (l_2_1_0 : List Int) (x_0_2_0 : Int) (x_1_2_0 : Int) (A_2_2_0 : Option Addr) (c_2_2_0 : Nat) (l_2_2_0 : List Int), cs = [.int .i64 x_0_0_0, .int .i64 x_1_0_0, .slice A_2_0_0 l_2_0_0.length c_2_0_0, .int .i64 x_0_1_0, .int .i64 x_1_1_0, .slice A_2_1_0 l_2_1_0.length c_2_1_0, .int .i64 x_0_2_0, .int .i64 x_1_2_0, .slice A_2_2_0 l_2_2_0.length c_2_2_0] ∧ (Lit.int .i64 x_0_0_0).wf = true ∧ (Lit.int .i64 x_1_0_0).wf = true ∧ l_2_0_0.length ≤ c_2_0_0 ∧ l_2_0_0.length * 1 ≤ 140737488351232 ∧ RdI M .u8 A_2_0_0 l_2_0_0 ∧ (∀ x ∈ l_2_0_0, (Lit.int .u8 x).wf = true) ∧ (Lit.int .i64 x_0_1_0).wf = true ∧ (Lit.int .i64 x_1_1_0).wf = true ∧ l_2_1_0.length ≤ c_2_1_0 ∧ l_2_1_0.length * 1 ≤ 140737488351232 ∧ RdI M .u8 A_2_1_0 l_2_1_0 ∧ (∀ x ∈ l_2_1_0, (Lit.int .u8 x).wf = true) ∧ (Lit.int .i64 x_0_2_0).wf = true ∧ (Lit.int .i64 x_1_2_0).wf = true ∧ l_2_2_0.length ≤ c_2_2_0 ∧ l_2_2_0.length * 1 ≤ 140737488351232 ∧ RdI M .u8 A_2_2_0 l_2_2_0 ∧ (∀ x ∈ l_2_2_0, (Lit.int .u8 x).wf = true) := by
  obtain ⟨e, hf⟩ := lays_fields (g := fun _ => true) Go.Proofs.Try.underlying43 (by kernel_rfl) h
  obtain ⟨x_0_0_0, x_1_0_0, A_2_0_0, c_2_0_0, l_2_0_0, x_0_1_0, x_1_1_0, A_2_1_0, c_2_1_0, l_2_1_0, x_0_2_0, x_1_2_0, A_2_2_0, c_2_2_0, l_2_2_0, e0, p0_0, p0_1, p0_2, p0_3, p0_4, p0_5, p0_6, p0_7, p0_8, p0_9, p0_10, p0_11, p0_12, p0_13, p0_14, p0_15, p0_16, p0_17⟩ := Y41 (d := d + 0) (hf _ (List.Mem.head _))
  exact ⟨x_0_0_0, x_1_0_0, A_2_0_0, c_2_0_0, l_2_0_0, x_0_1_0, x_1_1_0, A_2_1_0, c_2_1_0, l_2_1_0, x_0_2_0, x_1_2_0, A_2_2_0, c_2_2_0, l_2_2_0, e.trans (cat2 e0 (rfl)), p0_0, p0_1, p0_2, p0_3, p0_4, p0_5, p0_6, p0_7, p0_8, p0_9, p0_10, p0_11, p0_12, p0_13, p0_14, p0_15, p0_16, p0_17⟩
theorem Y5 {M : Mem} {d : Nat} {cs : List Value} (h : Lays P M (d + 1) 5 cs) : ∃ (x : Int), cs = [.int .u8 x] ∧ (Lit.int .u8 x).wf = true := lays_int Go.Proofs.Try.underlying5 h
theorem Y61 {M : Mem} {d : Nat} {cs : List Value} (h : Lays P M (d + 2) 61 cs) : ∃ (x_0 : Int) (x_1 : Int), cs = [.int .i64 x_0, .int .i64 x_1] ∧ (Lit.int .i64 x_0).wf = true ∧ (Lit.int .i64 x_1).wf = true := by
  obtain ⟨e, hf⟩ := lays_items (n := 2) (z := 1) Go.Proofs.Try.underlying61 (by kernel_rfl) (by kernel_rfl) h
  obtain ⟨x_0, e0, p0_0⟩ := Y3 (d := d + 0) (hf 0 (by decide))
  obtain ⟨x_1, e1, p1_0⟩ := Y3 (d := d + 0) (hf 1 (by decide))
  exact ⟨x_0, x_1, e.trans (cat2 e0 (cat2 e1 (rfl))), p0_0, p1_0⟩
theorem Arg.PlaneCuts {M : Mem} {vs : List Value} (h : LaysArgs P M [24, 26, 22] vs) : ∃ (x_0_0 : Int) (x_1_0 : Int) (A_2_0 : Option Addr) (c_2_0 : Nat) (l_2_0 : List Int) (x_0_1 : Int) (x_1_1 : Int) (x_2_1 : Int) (x_3_1 : Int) (A_2 : Option Addr) (c_2 : Nat) (l_2 : List Int), vs = [.agg ⟨[.int .i64 x_0_0, .int .i64 x_1_0, .slice A_2_0 l_2_0.length c_2_0]⟩, .agg ⟨[.int .i64 x_0_1, .int .i64 x_1_1, .int .i64 x_2_1, .int .i64 x_3_1]⟩, .slice A_2 l_2.length c_2] ∧ (Lit.int .i64 x_0_0).wf = true ∧ (Lit.int .i64 x_1_0).wf = true ∧ l_2_0.length ≤ c_2_0 ∧ l_2_0.length * 1 ≤ 140737488351232 ∧ RdI M .u8 A_2_0 l_2_0 ∧ (∀ x ∈ l_2_0, (Lit.int .u8 x).wf = true) ∧ (Lit.int .i64 x_0_1).wf = true ∧ (Lit.int .i64 x_1_1).wf = true ∧ (Lit.int .i64 x_2_1).wf = true ∧ (Lit.int .i64 x_3_1).wf = true ∧ l_2.length ≤ c_2 ∧ l_2.length * 1 ≤ 140737488351232 ∧ RdI M .u8 A_2 l_2 ∧ (∀ x ∈ l_2, (Lit.int .u8 x).wf = true) := by
  obtain ⟨v0, r0, rfl, h0, k0⟩ := args_cons h
  obtain ⟨acs0, rfl, g0⟩ := arg_agg (by kernel_rfl) h0
  obtain ⟨x_0_0, x_1_0, A_2_0, c_2_0, l_2_0, e0, p0_0, p0_1, p0_2, p0_3, p0_4, p0_5⟩ := Y24 (d := 5) g0
  subst e0
  obtain ⟨v1, r1, rfl, h1, k1⟩ := args_cons k0
  obtain ⟨acs1, rfl, g1⟩ := arg_agg (by kernel_rfl) h1
  obtain ⟨x_0_1, x_1_1, x_2_1, x_3_1, e1, p1_0, p1_1, p1_2, p1_3⟩ := Y26 (d := 6) g1
  subst e1
  obtain ⟨v2, r2, rfl, h2, k2⟩ := args_cons k1
  obtain ⟨A_2, c_2, l_2, e2, p2_0, p2_1, p2_2, p2_3⟩ := Y22 (d := 6) (arg_one (by kernel_rfl) h2)
  cases e2
  obtain rfl := args_nil k2
  exact ⟨x_0_0, x_1_0, A_2_0, c_2_0, l_2_0, x_0_1, x_1_1, x_2_1, x_3_1, A_2, c_2, l_2, rfl, p0_0, p0_1, p0_2, p0_3, p0_4, p0_5, p1_0, p1_1, p1_2, p1_3, p2_0, p2_1, p2_2, p2_3⟩
theorem Arg.PlaneFrames {M : Mem} {vs : List Value} (h : LaysArgs P M [43, 3, 3] vs) : ∃ (x_0_0_0_0 : Int) (x_1_0_0_0 : Int) (A_2_0_0_0 : Option Addr) (c_2_0_0_0 : Nat) (l_2_0_0_0 : List Int) (x_0_1_0_0 : Int) (x_1_1_0_0 : Int) (A_2_1_0_0 : Option Addr) (c_2_1_0_0 : Nat) (l_2_1_0_0 : List Int) (x_0_2_0_0 : Int) (x_1_2_0_0 : Int) (A_2_2_0_0 : Option Addr) (c_2_2_0_0 : Nat) (l_2_2_0_0 : List Int) (x_1 : Int) (x_2 : Int), vs = [.agg ⟨[.int .i64 x_0_0_0_0, .int .i64 x_1_0_0_0, .slice A_2_0_0_0 l_2_0_0_0.length c_2_0_0_0, .int .i64 x_0_1_0_0, .int .i64 x_1_1_0_0, .slice A_2_1_0_0 l_2_1_0_0.length c_2_1_0_0, .int .i64 x_0_2_0_0, .int .i64 x_1_2_0_0, .slice A_2_2_0_0 l_2_2_0_0.length c_2_2_0_0]⟩, .int .i64 x_1, .int .i64 x_2] ∧ (Lit.int .i64 x_0_0_0_0).wf = true ∧ (Lit.int .i64 x_1_0_0_0).wf = true ∧ l_2_0_0_0.length ≤ c_2_0_0_0 ∧ l_2_0_0_0.length * 1 ≤ 140737488351232 ∧ RdI M .u8 A_2_0_0_0 l_2_0_0_0 ∧ (∀ x ∈ l_2_0_0_0, (Lit.int .u8 x).wf = true) ∧ (Lit.int .i64 x_0_1_0_0).wf = true ∧ (Lit.int .i64 x_1_1_0_0).wf = true ∧ l_2_1_0_0.length ≤ c_2_1_0_0 ∧ l_2_1_0_0.length * 1 ≤ 140737488351232 ∧ RdI M .u8 A_2_1_0_0 l_2_1_0_0 ∧ (∀ x ∈ l_2_1_0_0, (Lit.int .u8 x).wf = true) ∧ (Lit.int .i64 x_0_2_0_0).wf = true ∧ (Lit.int .i64 x_1_2_0_0).wf = true ∧ l_2_2_0_0.length ≤ c_2_2_0_0 ∧ l_2_2_0_0.length * 1 ≤ 140737488351232 ∧ RdI M .u8 A_2_2_0_0 l_2_2_0_0 ∧ (∀ x ∈ l_2_2_0_0, (Lit.int .u8 x).wf = true) ∧ (Lit.int .i64 x_1).wf = true ∧ (Lit.int .i64 x_2).wf = true := by
  obtain ⟨v0, r0, rfl, h0, k0⟩ := args_cons h
  obtain ⟨acs0, rfl, g0⟩ := arg_agg (by kernel_rfl) h0
  obtain ⟨x_0_0_0_0, x_1_0_0_0, A_2_0_0_0, c_2_0_0_0, l_2_0_0_0, x_0_1_0_0, x_1_1_0_0, A_2_1_0_0, c_2_1_0_0, l_2_1_0_0, x_0_2_0_0, x_1_2_0_0, A_2_2_0_0, c_2_2_0_0, l_2_2_0_0, e0, p0_0, p0_1, p0_2, p0_3, p0_4, p0_5, p0_6, p0_7, p0_8, p0_9, p0_10, p0_11, p0_12, p0_13, p0_14, p0_15, p0_16, p0_17⟩ := Y43 (d := 3) g0
  subst e0
  obtain ⟨v1, r1, rfl, h1, k1⟩ := args_cons k0
  obtain ⟨x_1, e1, p1_0⟩ := Y3 (d := 7) (arg_one (by kernel_rfl) h1)
  cases e1
  obtain ⟨v2, r2, rfl, h2, k2⟩ := args_cons k1
  obtain ⟨x_2, e2, p2_0⟩ := Y3 (d := 7) (arg_one (by kernel_rfl) h2)
  cases e2
  obtain rfl := args_nil k2
  exact ⟨x_0_0_0_0, x_1_0_0_0, A_2_0_0_0, c_2_0_0_0, l_2_0_0_0, x_0_1_0_0, x_1_1_0_0, A_2_1_0_0, c_2_1_0_0, l_2_1_0_0, x_0_2_0_0, x_1_2_0_0, A_2_2_0_0, c_2_2_0_0, l_2_2_0_0, x_1, x_2, rfl, p0_0, p0_1, p0_2, p0_3, p0_4, p0_5, p0_6, p0_7, p0_8, p0_9, p0_10, p0_11, p0_12, p0_13, p0_14, p0_15, p0_16, p0_17, p1_0, p2_0⟩
theorem Arg.PlaneLaid {M : Mem} {vs : List Value} (h : LaysArgs P M [24, 26, 3] vs) : ∃ (x_0_0 : Int) (x_1_0 : Int) (A_2_0 : Option Addr) (c_2_0 : Nat) (l_2_0 : List Int) (x_0_1 : Int) (x_1_1 : Int) (x_2_1 : Int) (x_3_1 : Int) (x_2 : Int), vs = [.agg ⟨[.int .i64 x_0_0, .int .i64 x_1_0, .slice A_2_0 l_2_0.length c_2_0]⟩, .agg ⟨[.int .i64 x_0_1, .int .i64 x_1_1, .int .i64 x_2_1, .int .i64 x_3_1]⟩, .int .i64 x_2] ∧ (Lit.int .i64 x_0_0).wf = true ∧ (Lit.int .i64 x_1_0).wf = true ∧ l_2_0.length ≤ c_2_0 ∧ l_2_0.length * 1 ≤ 140737488351232 ∧ RdI M .u8 A_2_0 l_2_0 ∧ (∀ x ∈ l_2_0, (Lit.int .u8 x).wf = true) ∧ (Lit.int .i64 x_0_1).wf = true ∧ (Lit.int .i64 x_1_1).wf = true ∧ (Lit.int .i64 x_2_1).wf = true ∧ (Lit.int .i64 x_3_1).wf = true ∧ (Lit.int .i64 x_2).wf = true := by
  obtain ⟨v0, r0, rfl, h0, k0⟩ := args_cons h
  obtain ⟨acs0, rfl, g0⟩ := arg_agg (by kernel_rfl) h0
  obtain ⟨x_0_0, x_1_0, A_2_0, c_2_0, l_2_0, e0, p0_0, p0_1, p0_2, p0_3, p0_4, p0_5⟩ := Y24 (d := 5) g0
  subst e0
  obtain ⟨v1, r1, rfl, h1, k1⟩ := args_cons k0
  obtain ⟨acs1, rfl, g1⟩ := arg_agg (by kernel_rfl) h1
  obtain ⟨x_0_1, x_1_1, x_2_1, x_3_1, e1, p1_0, p1_1, p1_2, p1_3⟩ := Y26 (d := 6) g1
  subst e1
  obtain ⟨v2, r2, rfl, h2, k2⟩ := args_cons k1
  obtain ⟨x_2, e2, p2_0⟩ := Y3 (d := 7) (arg_one (by kernel_rfl) h2)
  cases e2
  obtain rfl := args_nil k2
  exact ⟨x_0_0, x_1_0, A_2_0, c_2_0, l_2_0, x_0_1, x_1_1, x_2_1, x_3_1, x_2, rfl, p0_0, p0_1, p0_2, p0_3, p0_4, p0_5, p1_0, p1_1, p1_2, p1_3, p2_0⟩
theorem Arg.PlaneApart {M : Mem} {vs : List Value} (h : LaysArgs P M [24, 3, 5] vs) : ∃ (x_0_0 : Int) (x_1_0 : Int) (A_2_0 : Option Addr) (c_2_0 : Nat) (l_2_0 : List Int) (x_1 : Int) (x_2 : Int), vs = [.agg ⟨[.int .i64 x_0_0, .int .i64 x_1_0, .slice A_2_0 l_2_0.length c_2_0]⟩, .int .i64 x_1, .int .u8 x_2] ∧ (Lit.int .i64 x_0_0).wf = true ∧ (Lit.int .i64 x_1_0).wf = true ∧ l_2_0.length ≤ c_2_0 ∧ l_2_0.length * 1 ≤ 140737488351232 ∧ RdI M .u8 A_2_0 l_2_0 ∧ (∀ x ∈ l_2_0, (Lit.int .u8 x).wf = true) ∧ (Lit.int .i64 x_1).wf = true ∧ (Lit.int .u8 x_2).wf = true := by
  obtain ⟨v0, r0, rfl, h0, k0⟩ := args_cons h
  obtain ⟨acs0, rfl, g0⟩ := arg_agg (by kernel_rfl) h0
  obtain ⟨x_0_0, x_1_0, A_2_0, c_2_0, l_2_0, e0, p0_0, p0_1, p0_2, p0_3, p0_4, p0_5⟩ := Y24 (d := 5) g0
  subst e0
  obtain ⟨v1, r1, rfl, h1, k1⟩ := args_cons k0
  obtain ⟨x_1, e1, p1_0⟩ := Y3 (d := 7) (arg_one (by kernel_rfl) h1)
  cases e1
  obtain ⟨v2, r2, rfl, h2, k2⟩ := args_cons k1
  obtain ⟨x_2, e2, p2_0⟩ := Y5 (d := 7) (arg_one (by kernel_rfl) h2)
  cases e2
  obtain rfl := args_nil k2
  exact ⟨x_0_0, x_1_0, A_2_0, c_2_0, l_2_0, x_1, x_2, rfl, p0_0, p0_1, p0_2, p0_3, p0_4, p0_5, p1_0, p2_0⟩
theorem Arg.PlaneTells {M : Mem} {vs : List Value} (h : LaysArgs P M [24, 24, 61] vs) : ∃ (x_0_0 : Int) (x_1_0 : Int) (A_2_0 : Option Addr) (c_2_0 : Nat) (l_2_0 : List Int) (x_0_1 : Int) (x_1_1 : Int) (A_2_1 : Option Addr) (c_2_1 : Nat) (l_2_1 : List Int) (x_0_2 : Int) (x_1_2 : Int), vs = [.agg ⟨[.int .i64 x_0_0, .int .i64 x_1_0, .slice A_2_0 l_2_0.length c_2_0]⟩, .agg ⟨[.int .i64 x_0_1, .int .i64 x_1_1, .slice A_2_1 l_2_1.length c_2_1]⟩, .agg ⟨[.int .i64 x_0_2, .int .i64 x_1_2]⟩] ∧ (Lit.int .i64 x_0_0).wf = true ∧ (Lit.int .i64 x_1_0).wf = true ∧ l_2_0.length ≤ c_2_0 ∧ l_2_0.length * 1 ≤ 140737488351232 ∧ RdI M .u8 A_2_0 l_2_0 ∧ (∀ x ∈ l_2_0, (Lit.int .u8 x).wf = true) ∧ (Lit.int .i64 x_0_1).wf = true ∧ (Lit.int .i64 x_1_1).wf = true ∧ l_2_1.length ≤ c_2_1 ∧ l_2_1.length * 1 ≤ 140737488351232 ∧ RdI M .u8 A_2_1 l_2_1 ∧ (∀ x ∈ l_2_1, (Lit.int .u8 x).wf = true) ∧ (Lit.int .i64 x_0_2).wf = true ∧ (Lit.int .i64 x_1_2).wf = true := by
  obtain ⟨v0, r0, rfl, h0, k0⟩ := args_cons h
  obtain ⟨acs0, rfl, g0⟩ := arg_agg (by kernel_rfl) h0
  obtain ⟨x_0_0, x_1_0, A_2_0, c_2_0, l_2_0, e0, p0_0, p0_1, p0_2, p0_3, p0_4, p0_5⟩ := Y24 (d := 5) g0
  subst e0
  obtain ⟨v1, r1, rfl, h1, k1⟩ := args_cons k0
  obtain ⟨acs1, rfl, g1⟩ := arg_agg (by kernel_rfl) h1
  obtain ⟨x_0_1, x_1_1, A_2_1, c_2_1, l_2_1, e1, p1_0, p1_1, p1_2, p1_3, p1_4, p1_5⟩ := Y24 (d := 5) g1
  subst e1
  obtain ⟨v2, r2, rfl, h2, k2⟩ := args_cons k1
  obtain ⟨acs2, rfl, g2⟩ := arg_agg (by kernel_rfl) h2
  obtain ⟨x_0_2, x_1_2, e2, p2_0, p2_1⟩ := Y61 (d := 6) g2
  subst e2
  obtain rfl := args_nil k2
  exact ⟨x_0_0, x_1_0, A_2_0, c_2_0, l_2_0, x_0_1, x_1_1, A_2_1, c_2_1, l_2_1, x_0_2, x_1_2, rfl, p0_0, p0_1, p0_2, p0_3, p0_4, p0_5, p1_0, p1_1, p1_2, p1_3, p1_4, p1_5, p2_0, p2_1⟩
theorem Arg.PlaneBack {M : Mem} {vs : List Value} (h : LaysArgs P M [43, 3, 3] vs) : ∃ (x_0_0_0_0 : Int) (x_1_0_0_0 : Int) (A_2_0_0_0 : Option Addr) (c_2_0_0_0 : Nat) (l_2_0_0_0 : List Int) (x_0_1_0_0 : Int) (x_1_1_0_0 : Int) (A_2_1_0_0 : Option Addr) (c_2_1_0_0 : Nat) (l_2_1_0_0 : List Int) (x_0_2_0_0 : Int) (x_1_2_0_0 : Int) (A_2_2_0_0 : Option Addr) (c_2_2_0_0 : Nat) (l_2_2_0_0 : List Int) (x_1 : Int) (x_2 : Int), vs = [.agg ⟨[.int .i64 x_0_0_0_0, .int .i64 x_1_0_0_0, .slice A_2_0_0_0 l_2_0_0_0.length c_2_0_0_0, .int .i64 x_0_1_0_0, .int .i64 x_1_1_0_0, .slice A_2_1_0_0 l_2_1_0_0.length c_2_1_0_0, .int .i64 x_0_2_0_0, .int .i64 x_1_2_0_0, .slice A_2_2_0_0 l_2_2_0_0.length c_2_2_0_0]⟩, .int .i64 x_1, .int .i64 x_2] ∧ (Lit.int .i64 x_0_0_0_0).wf = true ∧ (Lit.int .i64 x_1_0_0_0).wf = true ∧ l_2_0_0_0.length ≤ c_2_0_0_0 ∧ l_2_0_0_0.length * 1 ≤ 140737488351232 ∧ RdI M .u8 A_2_0_0_0 l_2_0_0_0 ∧ (∀ x ∈ l_2_0_0_0, (Lit.int .u8 x).wf = true) ∧ (Lit.int .i64 x_0_1_0_0).wf = true ∧ (Lit.int .i64 x_1_1_0_0).wf = true ∧ l_2_1_0_0.length ≤ c_2_1_0_0 ∧ l_2_1_0_0.length * 1 ≤ 140737488351232 ∧ RdI M .u8 A_2_1_0_0 l_2_1_0_0 ∧ (∀ x ∈ l_2_1_0_0, (Lit.int .u8 x).wf = true) ∧ (Lit.int .i64 x_0_2_0_0).wf = true ∧ (Lit.int .i64 x_1_2_0_0).wf = true ∧ l_2_2_0_0.length ≤ c_2_2_0_0 ∧ l_2_2_0_0.length * 1 ≤ 140737488351232 ∧ RdI M .u8 A_2_2_0_0 l_2_2_0_0 ∧ (∀ x ∈ l_2_2_0_0, (Lit.int .u8 x).wf = true) ∧ (Lit.int .i64 x_1).wf = true ∧ (Lit.int .i64 x_2).wf = true := by
  obtain ⟨v0, r0, rfl, h0, k0⟩ := args_cons h
  obtain ⟨acs0, rfl, g0⟩ := arg_agg (by kernel_rfl) h0
  obtain ⟨x_0_0_0_0, x_1_0_0_0, A_2_0_0_0, c_2_0_0_0, l_2_0_0_0, x_0_1_0_0, x_1_1_0_0, A_2_1_0_0, c_2_1_0_0, l_2_1_0_0, x_0_2_0_0, x_1_2_0_0, A_2_2_0_0, c_2_2_0_0, l_2_2_0_0, e0, p0_0, p0_1, p0_2, p0_3, p0_4, p0_5, p0_6, p0_7, p0_8, p0_9, p0_10, p0_11, p0_12, p0_13, p0_14, p0_15, p0_16, p0_17⟩ := Y43 (d := 3) g0
  subst e0
  obtain ⟨v1, r1, rfl, h1, k1⟩ := args_cons k0
  obtain ⟨x_1, e1, p1_0⟩ := Y3 (d := 7) (arg_one (by kernel_rfl) h1)
  cases e1
  obtain ⟨v2, r2, rfl, h2, k2⟩ := args_cons k1
  obtain ⟨x_2, e2, p2_0⟩ := Y3 (d := 7) (arg_one (by kernel_rfl) h2)
  cases e2
  obtain rfl := args_nil k2
  exact ⟨x_0_0_0_0, x_1_0_0_0, A_2_0_0_0, c_2_0_0_0, l_2_0_0_0, x_0_1_0_0, x_1_1_0_0, A_2_1_0_0, c_2_1_0_0, l_2_1_0_0, x_0_2_0_0, x_1_2_0_0, A_2_2_0_0, c_2_2_0_0, l_2_2_0_0, x_1, x_2, rfl, p0_0, p0_1, p0_2, p0_3, p0_4, p0_5, p0_6, p0_7, p0_8, p0_9, p0_10, p0_11, p0_12, p0_13, p0_14, p0_15, p0_16, p0_17, p1_0, p2_0⟩
theorem Arg.PlaneKnown {M : Mem} {vs : List Value} (h : LaysArgs P M [] vs) : vs = [] := args_nil h
end Go.Zt
