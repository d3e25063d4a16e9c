/- What the arguments of the laws are. -/
import Derived.Test.YtijdfhanoikgfaaAb29
import Derived.Test.YtijdfhanoikgfaaEq0
import Derived.KernelRfl
set_option maxRecDepth 100000
set_option linter.unusedVariables false
namespace Go.Zt
theorem cat2 {a a' b b' : List Value} (h : a = a') (k : b = b') : a ++ b = a' ++ b' := by rw [h, k]
theorem Y3 {M : Mem} {d : Nat} {cs : List Value} (h : Lays P M (d + 1) 3 cs) : ∃ (x : Int), cs = [.int .i64 x] ∧ (Lit.int .i64 x).wf = true := lays_int Go.Proofs.Try.underlying3 h
theorem Y28 {M : Mem} {d : Nat} {cs : List Value} (h : Lays P M (d + 2) 28 cs) : ∃ (A : Option Addr) (c : Nat) (l : List Int), cs = [.slice A l.length c] ∧ l.length ≤ c ∧ l.length * 1 ≤ 140737488351232 ∧ RdI M .u8 A l ∧ (∀ x ∈ l, (Lit.int .u8 x).wf = true) := lays_ints Go.Proofs.Try.underlying28 Go.Proofs.Try.underlying5 (by kernel_rfl) (by kernel_rfl) h
theorem Y30 {M : Mem} {d : Nat} {cs : List Value} (h : Lays P M (d + 3) 30 cs) : ∃ (x_0 : Int) (x_1 : Int) (A_2 : Option Addr) (c_2 : Nat) (l_2 : List Int), cs = [.int .i64 x_0, .int .i64 x_1, .slice A_2 l_2.length c_2] ∧ (Lit.int .i64 x_0).wf = true ∧ (Lit.int .i64 x_1).wf = true ∧ l_2.length ≤ c_2 ∧ l_2.length * 1 ≤ 140737488351232 ∧ RdI M .u8 A_2 l_2 ∧ (∀ x ∈ l_2, (Lit.int .u8 x).wf = true) := by
  obtain ⟨e, hf⟩ := lays_fields (g := fun _ => true) Go.Proofs.Try.underlying30 (by kernel_rfl) h
  obtain ⟨x_0, e0, p0_0⟩ := Y3 (d := d + 1) (hf _ (List.Mem.head _))
  obtain ⟨x_1, e1, p1_0⟩ := Y3 (d := d + 1) (hf _ (List.Mem.tail _ (List.Mem.head _)))
  obtain ⟨A_2, c_2, l_2, e2, p2_0, p2_1, p2_2, p2_3⟩ := Y28 (d := d + 0) (hf _ (List.Mem.tail _ (List.Mem.tail _ (List.Mem.head _))))
  exact ⟨x_0, x_1, A_2, c_2, l_2, e.trans (cat2 e0 (cat2 e1 (cat2 e2 (rfl)))), p0_0, p1_0, p2_0, p2_1, p2_2, p2_3⟩
theorem Y32 {M : Mem} {d : Nat} {cs : List Value} (h : Lays P M (d + 2) 32 cs) : ∃ (x_0 : Int) (x_1 : Int) (x_2 : Int) (x_3 : Int) (x_4 : Int), cs = [.int .i64 x_0, .int .i64 x_1, .int .i64 x_2, .int .i64 x_3, .int .i64 x_4] ∧ (Lit.int .i64 x_0).wf = true ∧ (Lit.int .i64 x_1).wf = true ∧ (Lit.int .i64 x_2).wf = true ∧ (Lit.int .i64 x_3).wf = true ∧ (Lit.int .i64 x_4).wf = true := by
  obtain ⟨e, hf⟩ := lays_fields (g := fun _ => true) Go.Proofs.Try.underlying32 (by kernel_rfl) h
  obtain ⟨x_0, e0, p0_0⟩ := Y3 (d := d + 0) (hf _ (List.Mem.head _))
  obtain ⟨x_1, e1, p1_0⟩ := Y3 (d := d + 0) (hf _ (List.Mem.tail _ (List.Mem.head _)))
  obtain ⟨x_2, e2, p2_0⟩ := Y3 (d := d + 0) (hf _ (List.Mem.tail _ (List.Mem.tail _ (List.Mem.head _))))
  obtain ⟨x_3, e3, p3_0⟩ := Y3 (d := d + 0) (hf _ (List.Mem.tail _ (List.Mem.tail _ (List.Mem.tail _ (List.Mem.head _)))))
  obtain ⟨x_4, e4, p4_0⟩ := Y3 (d := d + 0) (hf _ (List.Mem.tail _ (List.Mem.tail _ (List.Mem.tail _ (List.Mem.tail _ (List.Mem.head _))))))
  exact ⟨x_0, x_1, x_2, x_3, x_4, e.trans (cat2 e0 (cat2 e1 (cat2 e2 (cat2 e3 (cat2 e4 (rfl)))))), p0_0, p1_0, p2_0, p3_0, p4_0⟩
theorem Y44 {M : Mem} {d : Nat} {cs : List Value} (h : Lays P M (d + 2) 44 cs) : ∃ (x_0 : Int) (x_1 : Int), cs = [.int .i64 x_0, .int .i64 x_1] ∧ (Lit.int .i64 x_0).wf = true ∧ (Lit.int .i64 x_1).wf = true := by
  obtain ⟨e, hf⟩ := lays_items (n := 2) (z := 1) Go.Proofs.Try.underlying44 (by kernel_rfl) (by kernel_rfl) h
  obtain ⟨x_0, e0, p0_0⟩ := Y3 (d := d + 0) (hf 0 (by decide))
  obtain ⟨x_1, e1, p1_0⟩ := Y3 (d := d + 0) (hf 1 (by decide))
  exact ⟨x_0, x_1, e.trans (cat2 e0 (cat2 e1 (rfl))), p0_0, p1_0⟩
theorem Y5 {M : Mem} {d : Nat} {cs : List Value} (h : Lays P M (d + 1) 5 cs) : ∃ (x : Int), cs = [.int .u8 x] ∧ (Lit.int .u8 x).wf = true := lays_int Go.Proofs.Try.underlying5 h
theorem Arg.SubpelTaps {M : Mem} {vs : List Value} (h : LaysArgs P M [3, 3] vs) : ∃ (x_0 : Int) (x_1 : Int), vs = [.int .i64 x_0, .int .i64 x_1] ∧ (Lit.int .i64 x_0).wf = true ∧ (Lit.int .i64 x_1).wf = true := by
  obtain ⟨v0, r0, rfl, h0, k0⟩ := args_cons h
  obtain ⟨x_0, e0, p0_0⟩ := Y3 (d := 7) (arg_one (by kernel_rfl) h0)
  cases e0
  obtain ⟨v1, r1, rfl, h1, k1⟩ := args_cons k0
  obtain ⟨x_1, e1, p1_0⟩ := Y3 (d := 7) (arg_one (by kernel_rfl) h1)
  cases e1
  obtain rfl := args_nil k1
  exact ⟨x_0, x_1, rfl, p0_0, p1_0⟩
theorem Arg.SubpelFetches {M : Mem} {vs : List Value} (h : LaysArgs P M [30, 32] vs) : ∃ (x_0_0 : Int) (x_1_0 : Int) (A_2_0 : Option Addr) (c_2_0 : Nat) (l_2_0 : List Int) (x_0_1 : Int) (x_1_1 : Int) (x_2_1 : Int) (x_3_1 : Int) (x_4_1 : Int), vs = [.agg ⟨[.int .i64 x_0_0, .int .i64 x_1_0, .slice A_2_0 l_2_0.length c_2_0]⟩, .agg ⟨[.int .i64 x_0_1, .int .i64 x_1_1, .int .i64 x_2_1, .int .i64 x_3_1, .int .i64 x_4_1]⟩] ∧ (Lit.int .i64 x_0_0).wf = true ∧ (Lit.int .i64 x_1_0).wf = true ∧ l_2_0.length ≤ c_2_0 ∧ l_2_0.length * 1 ≤ 140737488351232 ∧ RdI M .u8 A_2_0 l_2_0 ∧ (∀ x ∈ l_2_0, (Lit.int .u8 x).wf = true) ∧ (Lit.int .i64 x_0_1).wf = true ∧ (Lit.int .i64 x_1_1).wf = true ∧ (Lit.int .i64 x_2_1).wf = true ∧ (Lit.int .i64 x_3_1).wf = true ∧ (Lit.int .i64 x_4_1).wf = true := by
  obtain ⟨v0, r0, rfl, h0, k0⟩ := args_cons h
  obtain ⟨acs0, rfl, g0⟩ := arg_agg (by kernel_rfl) h0
  obtain ⟨x_0_0, x_1_0, A_2_0, c_2_0, l_2_0, e0, p0_0, p0_1, p0_2, p0_3, p0_4, p0_5⟩ := Y30 (d := 5) g0
  subst e0
  obtain ⟨v1, r1, rfl, h1, k1⟩ := args_cons k0
  obtain ⟨acs1, rfl, g1⟩ := arg_agg (by kernel_rfl) h1
  obtain ⟨x_0_1, x_1_1, x_2_1, x_3_1, x_4_1, e1, p1_0, p1_1, p1_2, p1_3, p1_4⟩ := Y32 (d := 6) g1
  subst e1
  obtain rfl := args_nil k1
  exact ⟨x_0_0, x_1_0, A_2_0, c_2_0, l_2_0, x_0_1, x_1_1, x_2_1, x_3_1, x_4_1, rfl, p0_0, p0_1, p0_2, p0_3, p0_4, p0_5, p1_0, p1_1, p1_2, p1_3, p1_4⟩
theorem Arg.SubpelKinds {M : Mem} {vs : List Value} (h : LaysArgs P M [30, 3, 3] vs) : ∃ (x_0_0 : Int) (x_1_0 : Int) (A_2_0 : Option Addr) (c_2_0 : Nat) (l_2_0 : List Int) (x_1 : Int) (x_2 : Int), vs = [.agg ⟨[.int .i64 x_0_0, .int .i64 x_1_0, .slice A_2_0 l_2_0.length c_2_0]⟩, .int .i64 x_1, .int .i64 x_2] ∧ (Lit.int .i64 x_0_0).wf = true ∧ (Lit.int .i64 x_1_0).wf = true ∧ l_2_0.length ≤ c_2_0 ∧ l_2_0.length * 1 ≤ 140737488351232 ∧ RdI M .u8 A_2_0 l_2_0 ∧ (∀ x ∈ l_2_0, (Lit.int .u8 x).wf = true) ∧ (Lit.int .i64 x_1).wf = true ∧ (Lit.int .i64 x_2).wf = true := by
  obtain ⟨v0, r0, rfl, h0, k0⟩ := args_cons h
  obtain ⟨acs0, rfl, g0⟩ := arg_agg (by kernel_rfl) h0
  obtain ⟨x_0_0, x_1_0, A_2_0, c_2_0, l_2_0, e0, p0_0, p0_1, p0_2, p0_3, p0_4, p0_5⟩ := Y30 (d := 5) g0
  subst e0
  obtain ⟨v1, r1, rfl, h1, k1⟩ := args_cons k0
  obtain ⟨x_1, e1, p1_0⟩ := Y3 (d := 7) (arg_one (by kernel_rfl) h1)
  cases e1
  obtain ⟨v2, r2, rfl, h2, k2⟩ := args_cons k1
  obtain ⟨x_2, e2, p2_0⟩ := Y3 (d := 7) (arg_one (by kernel_rfl) h2)
  cases e2
  obtain rfl := args_nil k2
  exact ⟨x_0_0, x_1_0, A_2_0, c_2_0, l_2_0, x_1, x_2, rfl, p0_0, p0_1, p0_2, p0_3, p0_4, p0_5, p1_0, p2_0⟩
theorem Arg.SubpelTurned {M : Mem} {vs : List Value} (h : LaysArgs P M [30, 32] vs) : ∃ (x_0_0 : Int) (x_1_0 : Int) (A_2_0 : Option Addr) (c_2_0 : Nat) (l_2_0 : List Int) (x_0_1 : Int) (x_1_1 : Int) (x_2_1 : Int) (x_3_1 : Int) (x_4_1 : Int), vs = [.agg ⟨[.int .i64 x_0_0, .int .i64 x_1_0, .slice A_2_0 l_2_0.length c_2_0]⟩, .agg ⟨[.int .i64 x_0_1, .int .i64 x_1_1, .int .i64 x_2_1, .int .i64 x_3_1, .int .i64 x_4_1]⟩] ∧ (Lit.int .i64 x_0_0).wf = true ∧ (Lit.int .i64 x_1_0).wf = true ∧ l_2_0.length ≤ c_2_0 ∧ l_2_0.length * 1 ≤ 140737488351232 ∧ RdI M .u8 A_2_0 l_2_0 ∧ (∀ x ∈ l_2_0, (Lit.int .u8 x).wf = true) ∧ (Lit.int .i64 x_0_1).wf = true ∧ (Lit.int .i64 x_1_1).wf = true ∧ (Lit.int .i64 x_2_1).wf = true ∧ (Lit.int .i64 x_3_1).wf = true ∧ (Lit.int .i64 x_4_1).wf = true := by
  obtain ⟨v0, r0, rfl, h0, k0⟩ := args_cons h
  obtain ⟨acs0, rfl, g0⟩ := arg_agg (by kernel_rfl) h0
  obtain ⟨x_0_0, x_1_0, A_2_0, c_2_0, l_2_0, e0, p0_0, p0_1, p0_2, p0_3, p0_4, p0_5⟩ := Y30 (d := 5) g0
  subst e0
  obtain ⟨v1, r1, rfl, h1, k1⟩ := args_cons k0
  obtain ⟨acs1, rfl, g1⟩ := arg_agg (by kernel_rfl) h1
  obtain ⟨x_0_1, x_1_1, x_2_1, x_3_1, x_4_1, e1, p1_0, p1_1, p1_2, p1_3, p1_4⟩ := Y32 (d := 6) g1
  subst e1
  obtain rfl := args_nil k1
  exact ⟨x_0_0, x_1_0, A_2_0, c_2_0, l_2_0, x_0_1, x_1_1, x_2_1, x_3_1, x_4_1, rfl, p0_0, p0_1, p0_2, p0_3, p0_4, p0_5, p1_0, p1_1, p1_2, p1_3, p1_4⟩
theorem Arg.SubpelParts {M : Mem} {vs : List Value} (h : LaysArgs P M [30, 32, 44] vs) : ∃ (x_0_0 : Int) (x_1_0 : Int) (A_2_0 : Option Addr) (c_2_0 : Nat) (l_2_0 : List Int) (x_0_1 : Int) (x_1_1 : Int) (x_2_1 : Int) (x_3_1 : Int) (x_4_1 : Int) (x_0_2 : Int) (x_1_2 : Int), vs = [.agg ⟨[.int .i64 x_0_0, .int .i64 x_1_0, .slice A_2_0 l_2_0.length c_2_0]⟩, .agg ⟨[.int .i64 x_0_1, .int .i64 x_1_1, .int .i64 x_2_1, .int .i64 x_3_1, .int .i64 x_4_1]⟩, .agg ⟨[.int .i64 x_0_2, .int .i64 x_1_2]⟩] ∧ (Lit.int .i64 x_0_0).wf = true ∧ (Lit.int .i64 x_1_0).wf = true ∧ l_2_0.length ≤ c_2_0 ∧ l_2_0.length * 1 ≤ 140737488351232 ∧ RdI M .u8 A_2_0 l_2_0 ∧ (∀ x ∈ l_2_0, (Lit.int .u8 x).wf = true) ∧ (Lit.int .i64 x_0_1).wf = true ∧ (Lit.int .i64 x_1_1).wf = true ∧ (Lit.int .i64 x_2_1).wf = true ∧ (Lit.int .i64 x_3_1).wf = true ∧ (Lit.int .i64 x_4_1).wf = true ∧ (Lit.int .i64 x_0_2).wf = true ∧ (Lit.int .i64 x_1_2).wf = true := by
  obtain ⟨v0, r0, rfl, h0, k0⟩ := args_cons h
  obtain ⟨acs0, rfl, g0⟩ := arg_agg (by kernel_rfl) h0
  obtain ⟨x_0_0, x_1_0, A_2_0, c_2_0, l_2_0, e0, p0_0, p0_1, p0_2, p0_3, p0_4, p0_5⟩ := Y30 (d := 5) g0
  subst e0
  obtain ⟨v1, r1, rfl, h1, k1⟩ := args_cons k0
  obtain ⟨acs1, rfl, g1⟩ := arg_agg (by kernel_rfl) h1
  obtain ⟨x_0_1, x_1_1, x_2_1, x_3_1, x_4_1, e1, p1_0, p1_1, p1_2, p1_3, p1_4⟩ := Y32 (d := 6) g1
  subst e1
  obtain ⟨v2, r2, rfl, h2, k2⟩ := args_cons k1
  obtain ⟨acs2, rfl, g2⟩ := arg_agg (by kernel_rfl) h2
  obtain ⟨x_0_2, x_1_2, e2, p2_0, p2_1⟩ := Y44 (d := 6) g2
  subst e2
  obtain rfl := args_nil k2
  exact ⟨x_0_0, x_1_0, A_2_0, c_2_0, l_2_0, x_0_1, x_1_1, x_2_1, x_3_1, x_4_1, x_0_2, x_1_2, rfl, p0_0, p0_1, p0_2, p0_3, p0_4, p0_5, p1_0, p1_1, p1_2, p1_3, p1_4, p2_0, p2_1⟩
theorem Arg.SubpelBetween {M : Mem} {vs : List Value} (h : LaysArgs P M [30, 32] vs) : ∃ (x_0_0 : Int) (x_1_0 : Int) (A_2_0 : Option Addr) (c_2_0 : Nat) (l_2_0 : List Int) (x_0_1 : Int) (x_1_1 : Int) (x_2_1 : Int) (x_3_1 : Int) (x_4_1 : Int), vs = [.agg ⟨[.int .i64 x_0_0, .int .i64 x_1_0, .slice A_2_0 l_2_0.length c_2_0]⟩, .agg ⟨[.int .i64 x_0_1, .int .i64 x_1_1, .int .i64 x_2_1, .int .i64 x_3_1, .int .i64 x_4_1]⟩] ∧ (Lit.int .i64 x_0_0).wf = true ∧ (Lit.int .i64 x_1_0).wf = true ∧ l_2_0.length ≤ c_2_0 ∧ l_2_0.length * 1 ≤ 140737488351232 ∧ RdI M .u8 A_2_0 l_2_0 ∧ (∀ x ∈ l_2_0, (Lit.int .u8 x).wf = true) ∧ (Lit.int .i64 x_0_1).wf = true ∧ (Lit.int .i64 x_1_1).wf = true ∧ (Lit.int .i64 x_2_1).wf = true ∧ (Lit.int .i64 x_3_1).wf = true ∧ (Lit.int .i64 x_4_1).wf = true := by
  obtain ⟨v0, r0, rfl, h0, k0⟩ := args_cons h
  obtain ⟨acs0, rfl, g0⟩ := arg_agg (by kernel_rfl) h0
  obtain ⟨x_0_0, x_1_0, A_2_0, c_2_0, l_2_0, e0, p0_0, p0_1, p0_2, p0_3, p0_4, p0_5⟩ := Y30 (d := 5) g0
  subst e0
  obtain ⟨v1, r1, rfl, h1, k1⟩ := args_cons k0
  obtain ⟨acs1, rfl, g1⟩ := arg_agg (by kernel_rfl) h1
  obtain ⟨x_0_1, x_1_1, x_2_1, x_3_1, x_4_1, e1, p1_0, p1_1, p1_2, p1_3, p1_4⟩ := Y32 (d := 6) g1
  subst e1
  obtain rfl := args_nil k1
  exact ⟨x_0_0, x_1_0, A_2_0, c_2_0, l_2_0, x_0_1, x_1_1, x_2_1, x_3_1, x_4_1, rfl, p0_0, p0_1, p0_2, p0_3, p0_4, p0_5, p1_0, p1_1, p1_2, p1_3, p1_4⟩
theorem Arg.SubpelKnown {M : Mem} {vs : List Value} (h : LaysArgs P M [] vs) : vs = [] := args_nil h
theorem Arg.SubpelWhole {M : Mem} {vs : List Value} (h : LaysArgs P M [30, 32] vs) : ∃ (x_0_0 : Int) (x_1_0 : Int) (A_2_0 : Option Addr) (c_2_0 : Nat) (l_2_0 : List Int) (x_0_1 : Int) (x_1_1 : Int) (x_2_1 : Int) (x_3_1 : Int) (x_4_1 : Int), vs = [.agg ⟨[.int .i64 x_0_0, .int .i64 x_1_0, .slice A_2_0 l_2_0.length c_2_0]⟩, .agg ⟨[.int .i64 x_0_1, .int .i64 x_1_1, .int .i64 x_2_1, .int .i64 x_3_1, .int .i64 x_4_1]⟩] ∧ (Lit.int .i64 x_0_0).wf = true ∧ (Lit.int .i64 x_1_0).wf = true ∧ l_2_0.length ≤ c_2_0 ∧ l_2_0.length * 1 ≤ 140737488351232 ∧ RdI M .u8 A_2_0 l_2_0 ∧ (∀ x ∈ l_2_0, (Lit.int .u8 x).wf = true) ∧ (Lit.int .i64 x_0_1).wf = true ∧ (Lit.int .i64 x_1_1).wf = true ∧ (Lit.int .i64 x_2_1).wf = true ∧ (Lit.int .i64 x_3_1).wf = true ∧ (Lit.int .i64 x_4_1).wf = true := by
  obtain ⟨v0, r0, rfl, h0, k0⟩ := args_cons h
  obtain ⟨acs0, rfl, g0⟩ := arg_agg (by kernel_rfl) h0
  obtain ⟨x_0_0, x_1_0, A_2_0, c_2_0, l_2_0, e0, p0_0, p0_1, p0_2, p0_3, p0_4, p0_5⟩ := Y30 (d := 5) g0
  subst e0
  obtain ⟨v1, r1, rfl, h1, k1⟩ := args_cons k0
  obtain ⟨acs1, rfl, g1⟩ := arg_agg (by kernel_rfl) h1
  obtain ⟨x_0_1, x_1_1, x_2_1, x_3_1, x_4_1, e1, p1_0, p1_1, p1_2, p1_3, p1_4⟩ := Y32 (d := 6) g1
  subst e1
  obtain rfl := args_nil k1
  exact ⟨x_0_0, x_1_0, A_2_0, c_2_0, l_2_0, x_0_1, x_1_1, x_2_1, x_3_1, x_4_1, rfl, p0_0, p0_1, p0_2, p0_3, p0_4, p0_5, p1_0, p1_1, p1_2, p1_3, p1_4⟩
theorem Arg.SubpelFlat {M : Mem} {vs : List Value} (h : LaysArgs P M [5, 44, 32] vs) : ∃ (x_0 : Int) (x_0_1 : Int) (x_1_1 : Int) (x_0_2 : Int) (x_1_2 : Int) (x_2_2 : Int) (x_3_2 : Int) (x_4_2 : Int), vs = [.int .u8 x_0, .agg ⟨[.int .i64 x_0_1, .int .i64 x_1_1]⟩, .agg ⟨[.int .i64 x_0_2, .int .i64 x_1_2, .int .i64 x_2_2, .int .i64 x_3_2, .int .i64 x_4_2]⟩] ∧ (Lit.int .u8 x_0).wf = true ∧ (Lit.int .i64 x_0_1).wf = true ∧ (Lit.int .i64 x_1_1).wf = true ∧ (Lit.int .i64 x_0_2).wf = true ∧ (Lit.int .i64 x_1_2).wf = true ∧ (Lit.int .i64 x_2_2).wf = true ∧ (Lit.int .i64 x_3_2).wf = true ∧ (Lit.int .i64 x_4_2).wf = true := by
  obtain ⟨v0, r0, rfl, h0, k0⟩ := args_cons h
  obtain ⟨x_0, e0, p0_0⟩ := Y5 (d := 7) (arg_one (by kernel_rfl) h0)
  cases e0
  obtain ⟨v1, r1, rfl, h1, k1⟩ := args_cons k0
  obtain ⟨acs1, rfl, g1⟩ := arg_agg (by kernel_rfl) h1
  obtain ⟨x_0_1, x_1_1, e1, p1_0, p1_1⟩ := Y44 (d := 6) g1
  subst e1
  obtain ⟨v2, r2, rfl, h2, k2⟩ := args_cons k1
  obtain ⟨acs2, rfl, g2⟩ := arg_agg (by kernel_rfl) h2
  obtain ⟨x_0_2, x_1_2, x_2_2, x_3_2, x_4_2, e2, p2_0, p2_1, p2_2, p2_3, p2_4⟩ := Y32 (d := 6) g2
  subst e2
  obtain rfl := args_nil k2
  exact ⟨x_0, x_0_1, x_1_1, x_0_2, x_1_2, x_2_2, x_3_2, x_4_2, rfl, p0_0, p1_0, p1_1, p2_0, p2_1, p2_2, p2_3, p2_4⟩
end Go.Zt
