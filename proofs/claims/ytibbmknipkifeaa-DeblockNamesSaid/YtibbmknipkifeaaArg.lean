/- What the arguments of the laws are. -/
import Derived.Test.YtibbmknipkifeaaAb29
import Derived.Test.YtibbmknipkifeaaEq0
import Derived.KernelRfl
set_option maxRecDepth 100000
set_option linter.unusedVariables false
namespace Go.Zt
theorem cat2 {a a' b b' : List Value} (h : a = a') (k : b = b') : a ++ b = a' ++ b' := by rw [h, k]
theorem Y22 {M : Mem} {d : Nat} {cs : List Value} (h : Lays P M (d + 2) 22 cs) : ∃ (A : Option Addr) (c : Nat) (l : List Int), cs = [.slice A l.length c] ∧ l.length ≤ c ∧ l.length * 1 ≤ 140737488351232 ∧ RdI M .u8 A l ∧ (∀ x ∈ l, (Lit.int .u8 x).wf = true) := lays_ints Go.Proofs.Try.underlying22 Go.Proofs.Try.underlying5 (by kernel_rfl) (by kernel_rfl) h
theorem Y3 {M : Mem} {d : Nat} {cs : List Value} (h : Lays P M (d + 1) 3 cs) : ∃ (x : Int), cs = [.int .i64 x] ∧ (Lit.int .i64 x).wf = true := lays_int Go.Proofs.Try.underlying3 h
theorem Y23 {M : Mem} {d : Nat} {cs : List Value} (h : Lays P M (d + 2) 23 cs) : ∃ (x_0 : Int) (x_1 : Int), cs = [.int .i64 x_0, .int .i64 x_1] ∧ (Lit.int .i64 x_0).wf = true ∧ (Lit.int .i64 x_1).wf = true := by
  obtain ⟨e, hf⟩ := lays_items (n := 2) (z := 1) Go.Proofs.Try.underlying23 (by kernel_rfl) (by kernel_rfl) h
  obtain ⟨x_0, e0, p0_0⟩ := Y3 (d := d + 0) (hf 0 (by decide))
  obtain ⟨x_1, e1, p1_0⟩ := Y3 (d := d + 0) (hf 1 (by decide))
  exact ⟨x_0, x_1, e.trans (cat2 e0 (cat2 e1 (rfl))), p0_0, p1_0⟩
theorem Y5 {M : Mem} {d : Nat} {cs : List Value} (h : Lays P M (d + 1) 5 cs) : ∃ (x : Int), cs = [.int .u8 x] ∧ (Lit.int .u8 x).wf = true := lays_int Go.Proofs.Try.underlying5 h
theorem Y31 {M : Mem} {d : Nat} {cs : List Value} (h : Lays P M (d + 2) 31 cs) : ∃ (x_0 : Int) (x_1 : Int) (x_2 : Int), cs = [.int .i64 x_0, .int .i64 x_1, .int .i64 x_2] ∧ (Lit.int .i64 x_0).wf = true ∧ (Lit.int .i64 x_1).wf = true ∧ (Lit.int .i64 x_2).wf = true := by
  obtain ⟨e, hf⟩ := lays_items (n := 3) (z := 1) Go.Proofs.Try.underlying31 (by kernel_rfl) (by kernel_rfl) h
  obtain ⟨x_0, e0, p0_0⟩ := Y3 (d := d + 0) (hf 0 (by decide))
  obtain ⟨x_1, e1, p1_0⟩ := Y3 (d := d + 0) (hf 1 (by decide))
  obtain ⟨x_2, e2, p2_0⟩ := Y3 (d := d + 0) (hf 2 (by decide))
  exact ⟨x_0, x_1, x_2, e.trans (cat2 e0 (cat2 e1 (cat2 e2 (rfl)))), p0_0, p1_0, p2_0⟩
theorem Y36 {M : Mem} {d : Nat} {cs : List Value} (h : Lays P M (d + 3) 36 cs) : ∃ (x_0 : Int) (x_1 : Int) (A_2 : Option Addr) (c_2 : Nat) (l_2 : List Int), cs = [.int .i64 x_0, .int .i64 x_1, .slice A_2 l_2.length c_2] ∧ (Lit.int .i64 x_0).wf = true ∧ (Lit.int .i64 x_1).wf = true ∧ l_2.length ≤ c_2 ∧ l_2.length * 1 ≤ 140737488351232 ∧ RdI M .u8 A_2 l_2 ∧ (∀ x ∈ l_2, (Lit.int .u8 x).wf = true) := by
  obtain ⟨e, hf⟩ := lays_fields (g := fun _ => true) Go.Proofs.Try.underlying36 (by kernel_rfl) h
  obtain ⟨x_0, e0, p0_0⟩ := Y3 (d := d + 1) (hf _ (List.Mem.head _))
  obtain ⟨x_1, e1, p1_0⟩ := Y3 (d := d + 1) (hf _ (List.Mem.tail _ (List.Mem.head _)))
  obtain ⟨A_2, c_2, l_2, e2, p2_0, p2_1, p2_2, p2_3⟩ := Y22 (d := d + 0) (hf _ (List.Mem.tail _ (List.Mem.tail _ (List.Mem.head _))))
  exact ⟨x_0, x_1, A_2, c_2, l_2, e.trans (cat2 e0 (cat2 e1 (cat2 e2 (rfl)))), p0_0, p1_0, p2_0, p2_1, p2_2, p2_3⟩
theorem Y32 {M : Mem} {d : Nat} {cs : List Value} (h : Lays P M (d + 2) 32 cs) : ∃ (A : Option Addr) (c : Nat) (l : List Int), cs = [.slice A l.length c] ∧ l.length ≤ c ∧ l.length * 8 ≤ 140737488351232 ∧ RdI M .i64 A l ∧ (∀ x ∈ l, (Lit.int .i64 x).wf = true) := lays_ints Go.Proofs.Try.underlying32 Go.Proofs.Try.underlying3 (by kernel_rfl) (by kernel_rfl) h
theorem Y37 {M : Mem} {d : Nat} {cs : List Value} (h : Lays P M (d + 2) 37 cs) : ∃ (A : Option Addr) (c : Nat) (l : List Bool), cs = [.slice A l.length c] ∧ l.length ≤ c ∧ l.length * 1 ≤ 140737488351232 ∧ RdB M A l := lays_bools Go.Proofs.Try.underlying37 Go.Proofs.Try.underlying4 (by kernel_rfl) (by kernel_rfl) h
theorem Y39 {M : Mem} {d : Nat} {cs : List Value} (h : Lays P M (d + 3) 39 cs) : ∃ (x_0 : Int) (x_1 : Int) (A_2 : Option Addr) (c_2 : Nat) (l_2 : List Int) (A_3 : Option Addr) (c_3 : Nat) (l_3 : List Int) (A_4 : Option Addr) (c_4 : Nat) (l_4 : List Bool), cs = [.int .i64 x_0, .int .i64 x_1, .slice A_2 l_2.length c_2, .slice A_3 l_3.length c_3, .slice A_4 l_4.length c_4] ∧ (Lit.int .i64 x_0).wf = true ∧ (Lit.int .i64 x_1).wf = true ∧ l_2.length ≤ c_2 ∧ l_2.length * 1 ≤ 140737488351232 ∧ RdI M .u8 A_2 l_2 ∧ (∀ x ∈ l_2, (Lit.int .u8 x).wf = true) ∧ l_3.length ≤ c_3 ∧ l_3.length * 8 ≤ 140737488351232 ∧ RdI M .i64 A_3 l_3 ∧ (∀ x ∈ l_3, (Lit.int .i64 x).wf = true) ∧ l_4.length ≤ c_4 ∧ l_4.length * 1 ≤ 140737488351232 ∧ RdB M A_4 l_4 := by
  obtain ⟨e, hf⟩ := lays_fields (g := fun _ => true) Go.Proofs.Try.underlying39 (by kernel_rfl) h
  obtain ⟨x_0, e0, p0_0⟩ := Y3 (d := d + 1) (hf _ (List.Mem.head _))
  obtain ⟨x_1, e1, p1_0⟩ := Y3 (d := d + 1) (hf _ (List.Mem.tail _ (List.Mem.head _)))
  obtain ⟨A_2, c_2, l_2, e2, p2_0, p2_1, p2_2, p2_3⟩ := Y22 (d := d + 0) (hf _ (List.Mem.tail _ (List.Mem.tail _ (List.Mem.head _))))
  obtain ⟨A_3, c_3, l_3, e3, p3_0, p3_1, p3_2, p3_3⟩ := Y32 (d := d + 0) (hf _ (List.Mem.tail _ (List.Mem.tail _ (List.Mem.tail _ (List.Mem.head _)))))
  obtain ⟨A_4, c_4, l_4, e4, p4_0, p4_1, p4_2⟩ := Y37 (d := d + 0) (hf _ (List.Mem.tail _ (List.Mem.tail _ (List.Mem.tail _ (List.Mem.tail _ (List.Mem.head _))))))
  exact ⟨x_0, x_1, A_2, c_2, l_2, A_3, c_3, l_3, A_4, c_4, l_4, e.trans (cat2 e0 (cat2 e1 (cat2 e2 (cat2 e3 (cat2 e4 (rfl)))))), p0_0, p1_0, p2_0, p2_1, p2_2, p2_3, p3_0, p3_1, p3_2, p3_3, p4_0, p4_1, p4_2⟩
theorem Y4 {M : Mem} {d : Nat} {cs : List Value} (h : Lays P M (d + 1) 4 cs) : ∃ (b : Bool), cs = [.bool b] := lays_bool Go.Proofs.Try.underlying4 h
theorem Y41 {M : Mem} {d : Nat} {cs : List Value} (h : Lays P M (d + 2) 41 cs) : ∃ (b_0 : Bool) (b_1 : Bool) (x_2 : Int) (x_3 : Int), cs = [.bool b_0, .bool b_1, .int .i64 x_2, .int .i64 x_3] ∧ (Lit.int .i64 x_2).wf = true ∧ (Lit.int .i64 x_3).wf = true := by
  obtain ⟨e, hf⟩ := lays_fields (g := fun _ => true) Go.Proofs.Try.underlying41 (by kernel_rfl) h
  obtain ⟨b_0, e0⟩ := Y4 (d := d + 0) (hf _ (List.Mem.head _))
  obtain ⟨b_1, e1⟩ := Y4 (d := d + 0) (hf _ (List.Mem.tail _ (List.Mem.head _)))
  obtain ⟨x_2, e2, p2_0⟩ := Y3 (d := d + 0) (hf _ (List.Mem.tail _ (List.Mem.tail _ (List.Mem.head _))))
  obtain ⟨x_3, e3, p3_0⟩ := Y3 (d := d + 0) (hf _ (List.Mem.tail _ (List.Mem.tail _ (List.Mem.tail _ (List.Mem.head _)))))
  exact ⟨b_0, b_1, x_2, x_3, e.trans (cat2 e0 (cat2 e1 (cat2 e2 (cat2 e3 (rfl))))), p2_0, p3_0⟩
theorem Arg.DeblockEdges {M : Mem} {vs : List Value} (h : LaysArgs P M [22, 3, 23] vs) : ∃ (A_0 : Option Addr) (c_0 : Nat) (l_0 : List Int) (x_1 : Int) (x_0_2 : Int) (x_1_2 : Int), vs = [.slice A_0 l_0.length c_0, .int .i64 x_1, .agg ⟨[.int .i64 x_0_2, .int .i64 x_1_2]⟩] ∧ l_0.length ≤ c_0 ∧ l_0.length * 1 ≤ 140737488351232 ∧ RdI M .u8 A_0 l_0 ∧ (∀ x ∈ l_0, (Lit.int .u8 x).wf = true) ∧ (Lit.int .i64 x_1).wf = true ∧ (Lit.int .i64 x_0_2).wf = true ∧ (Lit.int .i64 x_1_2).wf = true := by
  obtain ⟨v0, r0, rfl, h0, k0⟩ := args_cons h
  obtain ⟨A_0, c_0, l_0, e0, p0_0, p0_1, p0_2, p0_3⟩ := Y22 (d := 6) (arg_one (by kernel_rfl) h0)
  cases e0
  obtain ⟨v1, r1, rfl, h1, k1⟩ := args_cons k0
  obtain ⟨x_1, e1, p1_0⟩ := Y3 (d := 7) (arg_one (by kernel_rfl) h1)
  cases e1
  obtain ⟨v2, r2, rfl, h2, k2⟩ := args_cons k1
  obtain ⟨acs2, rfl, g2⟩ := arg_agg (by kernel_rfl) h2
  obtain ⟨x_0_2, x_1_2, e2, p2_0, p2_1⟩ := Y23 (d := 6) g2
  subst e2
  obtain rfl := args_nil k2
  exact ⟨A_0, c_0, l_0, x_1, x_0_2, x_1_2, rfl, p0_0, p0_1, p0_2, p0_3, p1_0, p2_0, p2_1⟩
theorem Arg.DeblockSteps {M : Mem} {vs : List Value} (h : LaysArgs P M [5, 5, 31] vs) : ∃ (x_0 : Int) (x_1 : Int) (x_0_2 : Int) (x_1_2 : Int) (x_2_2 : Int), vs = [.int .u8 x_0, .int .u8 x_1, .agg ⟨[.int .i64 x_0_2, .int .i64 x_1_2, .int .i64 x_2_2]⟩] ∧ (Lit.int .u8 x_0).wf = true ∧ (Lit.int .u8 x_1).wf = true ∧ (Lit.int .i64 x_0_2).wf = true ∧ (Lit.int .i64 x_1_2).wf = true ∧ (Lit.int .i64 x_2_2).wf = true := by
  obtain ⟨v0, r0, rfl, h0, k0⟩ := args_cons h
  obtain ⟨x_0, e0, p0_0⟩ := Y5 (d := 7) (arg_one (by kernel_rfl) h0)
  cases e0
  obtain ⟨v1, r1, rfl, h1, k1⟩ := args_cons k0
  obtain ⟨x_1, e1, p1_0⟩ := Y5 (d := 7) (arg_one (by kernel_rfl) h1)
  cases e1
  obtain ⟨v2, r2, rfl, h2, k2⟩ := args_cons k1
  obtain ⟨acs2, rfl, g2⟩ := arg_agg (by kernel_rfl) h2
  obtain ⟨x_0_2, x_1_2, x_2_2, e2, p2_0, p2_1, p2_2⟩ := Y31 (d := 6) g2
  subst e2
  obtain rfl := args_nil k2
  exact ⟨x_0, x_1, x_0_2, x_1_2, x_2_2, rfl, p0_0, p1_0, p2_0, p2_1, p2_2⟩
theorem Arg.DeblockPasses {M : Mem} {vs : List Value} (h : LaysArgs P M [36, 39, 41] vs) : ∃ (x_0_0 : Int) (x_1_0 : Int) (A_2_0 : Option Addr) (c_2_0 : Nat) (l_2_0 : List Int) (x_0_1 : Int) (x_1_1 : Int) (A_2_1 : Option Addr) (c_2_1 : Nat) (l_2_1 : List Int) (A_3_1 : Option Addr) (c_3_1 : Nat) (l_3_1 : List Int) (A_4_1 : Option Addr) (c_4_1 : Nat) (l_4_1 : List Bool) (b_0_2 : Bool) (b_1_2 : Bool) (x_2_2 : Int) (x_3_2 : Int), vs = [.agg ⟨[.int .i64 x_0_0, .int .i64 x_1_0, .slice A_2_0 l_2_0.length c_2_0]⟩, .agg ⟨[.int .i64 x_0_1, .int .i64 x_1_1, .slice A_2_1 l_2_1.length c_2_1, .slice A_3_1 l_3_1.length c_3_1, .slice A_4_1 l_4_1.length c_4_1]⟩, .agg ⟨[.bool b_0_2, .bool b_1_2, .int .i64 x_2_2, .int .i64 x_3_2]⟩] ∧ (Lit.int .i64 x_0_0).wf = true ∧ (Lit.int .i64 x_1_0).wf = true ∧ l_2_0.length ≤ c_2_0 ∧ l_2_0.length * 1 ≤ 140737488351232 ∧ RdI M .u8 A_2_0 l_2_0 ∧ (∀ x ∈ l_2_0, (Lit.int .u8 x).wf = true) ∧ (Lit.int .i64 x_0_1).wf = true ∧ (Lit.int .i64 x_1_1).wf = true ∧ l_2_1.length ≤ c_2_1 ∧ l_2_1.length * 1 ≤ 140737488351232 ∧ RdI M .u8 A_2_1 l_2_1 ∧ (∀ x ∈ l_2_1, (Lit.int .u8 x).wf = true) ∧ l_3_1.length ≤ c_3_1 ∧ l_3_1.length * 8 ≤ 140737488351232 ∧ RdI M .i64 A_3_1 l_3_1 ∧ (∀ x ∈ l_3_1, (Lit.int .i64 x).wf = true) ∧ l_4_1.length ≤ c_4_1 ∧ l_4_1.length * 1 ≤ 140737488351232 ∧ RdB M A_4_1 l_4_1 ∧ (Lit.int .i64 x_2_2).wf = true ∧ (Lit.int .i64 x_3_2).wf = true := by
  obtain ⟨v0, r0, rfl, h0, k0⟩ := args_cons h
  obtain ⟨acs0, rfl, g0⟩ := arg_agg (by kernel_rfl) h0
  obtain ⟨x_0_0, x_1_0, A_2_0, c_2_0, l_2_0, e0, p0_0, p0_1, p0_2, p0_3, p0_4, p0_5⟩ := Y36 (d := 5) g0
  subst e0
  obtain ⟨v1, r1, rfl, h1, k1⟩ := args_cons k0
  obtain ⟨acs1, rfl, g1⟩ := arg_agg (by kernel_rfl) h1
  obtain ⟨x_0_1, x_1_1, A_2_1, c_2_1, l_2_1, A_3_1, c_3_1, l_3_1, A_4_1, c_4_1, l_4_1, e1, p1_0, p1_1, p1_2, p1_3, p1_4, p1_5, p1_6, p1_7, p1_8, p1_9, p1_10, p1_11, p1_12⟩ := Y39 (d := 5) g1
  subst e1
  obtain ⟨v2, r2, rfl, h2, k2⟩ := args_cons k1
  obtain ⟨acs2, rfl, g2⟩ := arg_agg (by kernel_rfl) h2
  obtain ⟨b_0_2, b_1_2, x_2_2, x_3_2, e2, p2_0, p2_1⟩ := Y41 (d := 6) g2
  subst e2
  obtain rfl := args_nil k2
  exact ⟨x_0_0, x_1_0, A_2_0, c_2_0, l_2_0, x_0_1, x_1_1, A_2_1, c_2_1, l_2_1, A_3_1, c_3_1, l_3_1, A_4_1, c_4_1, l_4_1, b_0_2, b_1_2, x_2_2, x_3_2, rfl, p0_0, p0_1, p0_2, p0_3, p0_4, p0_5, p1_0, p1_1, p1_2, p1_3, p1_4, p1_5, p1_6, p1_7, p1_8, p1_9, p1_10, p1_11, p1_12, p2_0, p2_1⟩
theorem Arg.DeblockFar {M : Mem} {vs : List Value} (h : LaysArgs P M [23, 22, 41] vs) : ∃ (x_0_0 : Int) (x_1_0 : Int) (A_1 : Option Addr) (c_1 : Nat) (l_1 : List Int) (b_0_2 : Bool) (b_1_2 : Bool) (x_2_2 : Int) (x_3_2 : Int), vs = [.agg ⟨[.int .i64 x_0_0, .int .i64 x_1_0]⟩, .slice A_1 l_1.length c_1, .agg ⟨[.bool b_0_2, .bool b_1_2, .int .i64 x_2_2, .int .i64 x_3_2]⟩] ∧ (Lit.int .i64 x_0_0).wf = true ∧ (Lit.int .i64 x_1_0).wf = true ∧ l_1.length ≤ c_1 ∧ l_1.length * 1 ≤ 140737488351232 ∧ RdI M .u8 A_1 l_1 ∧ (∀ x ∈ l_1, (Lit.int .u8 x).wf = true) ∧ (Lit.int .i64 x_2_2).wf = true ∧ (Lit.int .i64 x_3_2).wf = true := by
  obtain ⟨v0, r0, rfl, h0, k0⟩ := args_cons h
  obtain ⟨acs0, rfl, g0⟩ := arg_agg (by kernel_rfl) h0
  obtain ⟨x_0_0, x_1_0, e0, p0_0, p0_1⟩ := Y23 (d := 6) g0
  subst e0
  obtain ⟨v1, r1, rfl, h1, k1⟩ := args_cons k0
  obtain ⟨A_1, c_1, l_1, e1, p1_0, p1_1, p1_2, p1_3⟩ := Y22 (d := 6) (arg_one (by kernel_rfl) h1)
  cases e1
  obtain ⟨v2, r2, rfl, h2, k2⟩ := args_cons k1
  obtain ⟨acs2, rfl, g2⟩ := arg_agg (by kernel_rfl) h2
  obtain ⟨b_0_2, b_1_2, x_2_2, x_3_2, e2, p2_0, p2_1⟩ := Y41 (d := 6) g2
  subst e2
  obtain rfl := args_nil k2
  exact ⟨x_0_0, x_1_0, A_1, c_1, l_1, b_0_2, b_1_2, x_2_2, x_3_2, rfl, p0_0, p0_1, p1_0, p1_1, p1_2, p1_3, p2_0, p2_1⟩
theorem Arg.DeblockTurned {M : Mem} {vs : List Value} (h : LaysArgs P M [23, 22, 41] vs) : ∃ (x_0_0 : Int) (x_1_0 : Int) (A_1 : Option Addr) (c_1 : Nat) (l_1 : List Int) (b_0_2 : Bool) (b_1_2 : Bool) (x_2_2 : Int) (x_3_2 : Int), vs = [.agg ⟨[.int .i64 x_0_0, .int .i64 x_1_0]⟩, .slice A_1 l_1.length c_1, .agg ⟨[.bool b_0_2, .bool b_1_2, .int .i64 x_2_2, .int .i64 x_3_2]⟩] ∧ (Lit.int .i64 x_0_0).wf = true ∧ (Lit.int .i64 x_1_0).wf = true ∧ l_1.length ≤ c_1 ∧ l_1.length * 1 ≤ 140737488351232 ∧ RdI M .u8 A_1 l_1 ∧ (∀ x ∈ l_1, (Lit.int .u8 x).wf = true) ∧ (Lit.int .i64 x_2_2).wf = true ∧ (Lit.int .i64 x_3_2).wf = true := by
  obtain ⟨v0, r0, rfl, h0, k0⟩ := args_cons h
  obtain ⟨acs0, rfl, g0⟩ := arg_agg (by kernel_rfl) h0
  obtain ⟨x_0_0, x_1_0, e0, p0_0, p0_1⟩ := Y23 (d := 6) g0
  subst e0
  obtain ⟨v1, r1, rfl, h1, k1⟩ := args_cons k0
  obtain ⟨A_1, c_1, l_1, e1, p1_0, p1_1, p1_2, p1_3⟩ := Y22 (d := 6) (arg_one (by kernel_rfl) h1)
  cases e1
  obtain ⟨v2, r2, rfl, h2, k2⟩ := args_cons k1
  obtain ⟨acs2, rfl, g2⟩ := arg_agg (by kernel_rfl) h2
  obtain ⟨b_0_2, b_1_2, x_2_2, x_3_2, e2, p2_0, p2_1⟩ := Y41 (d := 6) g2
  subst e2
  obtain rfl := args_nil k2
  exact ⟨x_0_0, x_1_0, A_1, c_1, l_1, b_0_2, b_1_2, x_2_2, x_3_2, rfl, p0_0, p0_1, p1_0, p1_1, p1_2, p1_3, p2_0, p2_1⟩
theorem Arg.DeblockNames {M : Mem} {vs : List Value} (h : LaysArgs P M [] vs) : vs = [] := args_nil h
theorem Arg.DeblockQuiet {M : Mem} {vs : List Value} (h : LaysArgs P M [23, 22, 41] vs) : ∃ (x_0_0 : Int) (x_1_0 : Int) (A_1 : Option Addr) (c_1 : Nat) (l_1 : List Int) (b_0_2 : Bool) (b_1_2 : Bool) (x_2_2 : Int) (x_3_2 : Int), vs = [.agg ⟨[.int .i64 x_0_0, .int .i64 x_1_0]⟩, .slice A_1 l_1.length c_1, .agg ⟨[.bool b_0_2, .bool b_1_2, .int .i64 x_2_2, .int .i64 x_3_2]⟩] ∧ (Lit.int .i64 x_0_0).wf = true ∧ (Lit.int .i64 x_1_0).wf = true ∧ l_1.length ≤ c_1 ∧ l_1.length * 1 ≤ 140737488351232 ∧ RdI M .u8 A_1 l_1 ∧ (∀ x ∈ l_1, (Lit.int .u8 x).wf = true) ∧ (Lit.int .i64 x_2_2).wf = true ∧ (Lit.int .i64 x_3_2).wf = true := by
  obtain ⟨v0, r0, rfl, h0, k0⟩ := args_cons h
  obtain ⟨acs0, rfl, g0⟩ := arg_agg (by kernel_rfl) h0
  obtain ⟨x_0_0, x_1_0, e0, p0_0, p0_1⟩ := Y23 (d := 6) g0
  subst e0
  obtain ⟨v1, r1, rfl, h1, k1⟩ := args_cons k0
  obtain ⟨A_1, c_1, l_1, e1, p1_0, p1_1, p1_2, p1_3⟩ := Y22 (d := 6) (arg_one (by kernel_rfl) h1)
  cases e1
  obtain ⟨v2, r2, rfl, h2, k2⟩ := args_cons k1
  obtain ⟨acs2, rfl, g2⟩ := arg_agg (by kernel_rfl) h2
  obtain ⟨b_0_2, b_1_2, x_2_2, x_3_2, e2, p2_0, p2_1⟩ := Y41 (d := 6) g2
  subst e2
  obtain rfl := args_nil k2
  exact ⟨x_0_0, x_1_0, A_1, c_1, l_1, b_0_2, b_1_2, x_2_2, x_3_2, rfl, p0_0, p0_1, p1_0, p1_1, p1_2, p1_3, p2_0, p2_1⟩
end Go.Zt
