/- What the arguments of the laws are. -/
import Derived.Test.YtfghnhhhlckafaaAb29
import Derived.Test.YtfghnhhhlckafaaEq0
import Derived.KernelRfl
set_option maxRecDepth 100000
set_option linter.unusedVariables false
namespace Go.Zt
theorem cat2 {a a' b b' : List Value} (h : a = a') (k : b = b') : a ++ b = a' ++ b' := by rw [h, k]
theorem Y4 {M : Mem} {d : Nat} {cs : List Value} (h : Lays P M (d + 1) 4 cs) : ∃ (b : Bool), cs = [.bool b] := lays_bool Go.Proofs.Try.underlying4 h
theorem Y3 {M : Mem} {d : Nat} {cs : List Value} (h : Lays P M (d + 1) 3 cs) : ∃ (x : Int), cs = [.int .i64 x] ∧ (Lit.int .i64 x).wf = true := lays_int Go.Proofs.Try.underlying3 h
theorem Y23 {M : Mem} {d : Nat} {cs : List Value} (h : Lays P M (d + 2) 23 cs) : ∃ (x_0 : Int) (x_1 : Int) (x_2 : Int), cs = [.int .i64 x_0, .int .i64 x_1, .int .i64 x_2] ∧ (Lit.int .i64 x_0).wf = true ∧ (Lit.int .i64 x_1).wf = true ∧ (Lit.int .i64 x_2).wf = true := by
  obtain ⟨e, hf⟩ := lays_items (n := 3) (z := 1) Go.Proofs.Try.underlying23 (by kernel_rfl) (by kernel_rfl) h
  obtain ⟨x_0, e0, p0_0⟩ := Y3 (d := d + 0) (hf 0 (by decide))
  obtain ⟨x_1, e1, p1_0⟩ := Y3 (d := d + 0) (hf 1 (by decide))
  obtain ⟨x_2, e2, p2_0⟩ := Y3 (d := d + 0) (hf 2 (by decide))
  exact ⟨x_0, x_1, x_2, e.trans (cat2 e0 (cat2 e1 (cat2 e2 (rfl)))), p0_0, p1_0, p2_0⟩
theorem Y25 {M : Mem} {d : Nat} {cs : List Value} (h : Lays P M (d + 3) 25 cs) : ∃ (b_0 : Bool) (x_0_1 : Int) (x_1_1 : Int) (x_2_1 : Int) (x_0_2 : Int) (x_1_2 : Int) (x_2_2 : Int), cs = [.bool b_0, .int .i64 x_0_1, .int .i64 x_1_1, .int .i64 x_2_1, .int .i64 x_0_2, .int .i64 x_1_2, .int .i64 x_2_2] ∧ (Lit.int .i64 x_0_1).wf = true ∧ (Lit.int .i64 x_1_1).wf = true ∧ (Lit.int .i64 x_2_1).wf = true ∧ (Lit.int .i64 x_0_2).wf = true ∧ (Lit.int .i64 x_1_2).wf = true ∧ (Lit.int .i64 x_2_2).wf = true := by
  obtain ⟨e, hf⟩ := lays_fields (g := fun _ => true) Go.Proofs.Try.underlying25 (by kernel_rfl) h
  obtain ⟨b_0, e0⟩ := Y4 (d := d + 1) (hf _ (List.Mem.head _))
  obtain ⟨x_0_1, x_1_1, x_2_1, e1, p1_0, p1_1, p1_2⟩ := Y23 (d := d + 0) (hf _ (List.Mem.tail _ (List.Mem.head _)))
  obtain ⟨x_0_2, x_1_2, x_2_2, e2, p2_0, p2_1, p2_2⟩ := Y23 (d := d + 0) (hf _ (List.Mem.tail _ (List.Mem.tail _ (List.Mem.head _))))
  exact ⟨b_0, x_0_1, x_1_1, x_2_1, x_0_2, x_1_2, x_2_2, e.trans (cat2 e0 (cat2 e1 (cat2 e2 (rfl)))), p1_0, p1_1, p1_2, p2_0, p2_1, p2_2⟩
theorem Y33 {M : Mem} {d : Nat} {cs : List Value} (h : Lays P M (d + 2) 33 cs) : ∃ (A : Option Addr) (c : Nat) (l : List Int), cs = [.slice A l.length c] ∧ l.length ≤ c ∧ l.length * 1 ≤ 140737488351232 ∧ RdI M .u8 A l ∧ (∀ x ∈ l, (Lit.int .u8 x).wf = true) := lays_ints Go.Proofs.Try.underlying33 Go.Proofs.Try.underlying5 (by kernel_rfl) (by kernel_rfl) h
theorem Y35 {M : Mem} {d : Nat} {cs : List Value} (h : Lays P M (d + 3) 35 cs) : ∃ (x_0 : Int) (x_1 : Int) (A_2 : Option Addr) (c_2 : Nat) (l_2 : List Int), cs = [.int .i64 x_0, .int .i64 x_1, .slice A_2 l_2.length c_2] ∧ (Lit.int .i64 x_0).wf = true ∧ (Lit.int .i64 x_1).wf = true ∧ l_2.length ≤ c_2 ∧ l_2.length * 1 ≤ 140737488351232 ∧ RdI M .u8 A_2 l_2 ∧ (∀ x ∈ l_2, (Lit.int .u8 x).wf = true) := by
  obtain ⟨e, hf⟩ := lays_fields (g := fun _ => true) Go.Proofs.Try.underlying35 (by kernel_rfl) h
  obtain ⟨x_0, e0, p0_0⟩ := Y3 (d := d + 1) (hf _ (List.Mem.head _))
  obtain ⟨x_1, e1, p1_0⟩ := Y3 (d := d + 1) (hf _ (List.Mem.tail _ (List.Mem.head _)))
  obtain ⟨A_2, c_2, l_2, e2, p2_0, p2_1, p2_2, p2_3⟩ := Y33 (d := d + 0) (hf _ (List.Mem.tail _ (List.Mem.tail _ (List.Mem.head _))))
  exact ⟨x_0, x_1, A_2, c_2, l_2, e.trans (cat2 e0 (cat2 e1 (cat2 e2 (rfl)))), p0_0, p1_0, p2_0, p2_1, p2_2, p2_3⟩
theorem Y37 {M : Mem} {d : Nat} {cs : List Value} (h : Lays P M (d + 4) 37 cs) : ∃ (x_0_0 : Int) (x_1_0 : Int) (A_2_0 : Option Addr) (c_2_0 : Nat) (l_2_0 : List Int) (x_0_1 : Int) (x_1_1 : Int) (A_2_1 : Option Addr) (c_2_1 : Nat) (l_2_1 : List Int), cs = [.int .i64 x_0_0, .int .i64 x_1_0, .slice A_2_0 l_2_0.length c_2_0, .int .i64 x_0_1, .int .i64 x_1_1, .slice A_2_1 l_2_1.length c_2_1] ∧ (Lit.int .i64 x_0_0).wf = true ∧ (Lit.int .i64 x_1_0).wf = true ∧ l_2_0.length ≤ c_2_0 ∧ l_2_0.length * 1 ≤ 140737488351232 ∧ RdI M .u8 A_2_0 l_2_0 ∧ (∀ x ∈ l_2_0, (Lit.int .u8 x).wf = true) ∧ (Lit.int .i64 x_0_1).wf = true ∧ (Lit.int .i64 x_1_1).wf = true ∧ l_2_1.length ≤ c_2_1 ∧ l_2_1.length * 1 ≤ 140737488351232 ∧ RdI M .u8 A_2_1 l_2_1 ∧ (∀ x ∈ l_2_1, (Lit.int .u8 x).wf = true) := by
  obtain ⟨e, hf⟩ := lays_fields (g := fun _ => true) Go.Proofs.Try.underlying37 (by kernel_rfl) h
  obtain ⟨x_0_0, x_1_0, A_2_0, c_2_0, l_2_0, e0, p0_0, p0_1, p0_2, p0_3, p0_4, p0_5⟩ := Y35 (d := d + 0) (hf _ (List.Mem.head _))
  obtain ⟨x_0_1, x_1_1, A_2_1, c_2_1, l_2_1, e1, p1_0, p1_1, p1_2, p1_3, p1_4, p1_5⟩ := Y35 (d := d + 0) (hf _ (List.Mem.tail _ (List.Mem.head _)))
  exact ⟨x_0_0, x_1_0, A_2_0, c_2_0, l_2_0, x_0_1, x_1_1, A_2_1, c_2_1, l_2_1, e.trans (cat2 e0 (cat2 e1 (rfl))), p0_0, p0_1, p0_2, p0_3, p0_4, p0_5, p1_0, p1_1, p1_2, p1_3, p1_4, p1_5⟩
theorem Y38 {M : Mem} {d : Nat} {cs : List Value} (h : Lays P M (d + 4) 38 cs) : ∃ (A : Option Addr) (n : Nat) (c : Nat) (v : List Value), cs = [.slice A n c] ∧ n ≤ c ∧ n * 56 ≤ 140737488351232 ∧ Rd M A n 7 v ∧ (∀ i, i < n → Lays P M (d + 3) 25 ((v.drop (i * 7)).take 7)) := lays_slice Go.Proofs.Try.underlying38 (by kernel_rfl) (by kernel_rfl) h
theorem Y22 {M : Mem} {d : Nat} {cs : List Value} (h : Lays P M (d + 2) 22 cs) : ∃ (x_0 : Int) (x_1 : Int) (x_2 : Int), cs = [.int .i64 x_0, .int .i64 x_1, .int .i64 x_2] ∧ (Lit.int .i64 x_0).wf = true ∧ (Lit.int .i64 x_1).wf = true ∧ (Lit.int .i64 x_2).wf = true := by
  obtain ⟨e, hf⟩ := lays_items (n := 3) (z := 1) Go.Proofs.Try.underlying22 (by kernel_rfl) (by kernel_rfl) h
  obtain ⟨x_0, e0, p0_0⟩ := Y3 (d := d + 0) (hf 0 (by decide))
  obtain ⟨x_1, e1, p1_0⟩ := Y3 (d := d + 0) (hf 1 (by decide))
  obtain ⟨x_2, e2, p2_0⟩ := Y3 (d := d + 0) (hf 2 (by decide))
  exact ⟨x_0, x_1, x_2, e.trans (cat2 e0 (cat2 e1 (cat2 e2 (rfl)))), p0_0, p1_0, p2_0⟩
theorem Y44 {M : Mem} {d : Nat} {cs : List Value} (h : Lays P M (d + 3) 44 cs) : ∃ (x_0_0 : Int) (x_1_0 : Int) (x_2_0 : Int) (x_0_1 : Int) (x_1_1 : Int) (x_2_1 : Int), cs = [.int .i64 x_0_0, .int .i64 x_1_0, .int .i64 x_2_0, .int .i64 x_0_1, .int .i64 x_1_1, .int .i64 x_2_1] ∧ (Lit.int .i64 x_0_0).wf = true ∧ (Lit.int .i64 x_1_0).wf = true ∧ (Lit.int .i64 x_2_0).wf = true ∧ (Lit.int .i64 x_0_1).wf = true ∧ (Lit.int .i64 x_1_1).wf = true ∧ (Lit.int .i64 x_2_1).wf = true := by
  obtain ⟨e, hf⟩ := lays_items (n := 2) (z := 3) Go.Proofs.Try.underlying44 (by kernel_rfl) (by kernel_rfl) h
  obtain ⟨x_0_0, x_1_0, x_2_0, e0, p0_0, p0_1, p0_2⟩ := Y23 (d := d + 0) (hf 0 (by decide))
  obtain ⟨x_0_1, x_1_1, x_2_1, e1, p1_0, p1_1, p1_2⟩ := Y23 (d := d + 0) (hf 1 (by decide))
  exact ⟨x_0_0, x_1_0, x_2_0, x_0_1, x_1_1, x_2_1, e.trans (cat2 e0 (cat2 e1 (rfl))), p0_0, p0_1, p0_2, p1_0, p1_1, p1_2⟩
theorem Y51 {M : Mem} {d : Nat} {cs : List Value} (h : Lays P M (d + 3) 51 cs) : ∃ (A : Option Addr) (n : Nat) (c : Nat) (v : List Value), cs = [.slice A n c] ∧ n ≤ c ∧ n * 24 ≤ 140737488351232 ∧ Rd M A n 3 v ∧ (∀ i, i < n → Lays P M (d + 2) 23 ((v.drop (i * 3)).take 3)) := lays_slice Go.Proofs.Try.underlying51 (by kernel_rfl) (by kernel_rfl) h
theorem Y52 {M : Mem} {d : Nat} {cs : List Value} (h : Lays P M (d + 2) 52 cs) : ∃ (A : Option Addr) (c : Nat) (l : List Bool), cs = [.slice A l.length c] ∧ l.length ≤ c ∧ l.length * 1 ≤ 140737488351232 ∧ RdB M A l := lays_bools Go.Proofs.Try.underlying52 Go.Proofs.Try.underlying4 (by kernel_rfl) (by kernel_rfl) h
theorem Y5 {M : Mem} {d : Nat} {cs : List Value} (h : Lays P M (d + 1) 5 cs) : ∃ (x : Int), cs = [.int .u8 x] ∧ (Lit.int .u8 x).wf = true := lays_int Go.Proofs.Try.underlying5 h
theorem Arg.WienerTaps {M : Mem} {vs : List Value} (h : LaysArgs P M [25] vs) : ∃ (b_0_0 : Bool) (x_0_1_0 : Int) (x_1_1_0 : Int) (x_2_1_0 : Int) (x_0_2_0 : Int) (x_1_2_0 : Int) (x_2_2_0 : Int), vs = [.agg ⟨[.bool b_0_0, .int .i64 x_0_1_0, .int .i64 x_1_1_0, .int .i64 x_2_1_0, .int .i64 x_0_2_0, .int .i64 x_1_2_0, .int .i64 x_2_2_0]⟩] ∧ (Lit.int .i64 x_0_1_0).wf = true ∧ (Lit.int .i64 x_1_1_0).wf = true ∧ (Lit.int .i64 x_2_1_0).wf = true ∧ (Lit.int .i64 x_0_2_0).wf = true ∧ (Lit.int .i64 x_1_2_0).wf = true ∧ (Lit.int .i64 x_2_2_0).wf = true := by
  obtain ⟨v0, r0, rfl, h0, k0⟩ := args_cons h
  obtain ⟨acs0, rfl, g0⟩ := arg_agg (by kernel_rfl) h0
  obtain ⟨b_0_0, x_0_1_0, x_1_1_0, x_2_1_0, x_0_2_0, x_1_2_0, x_2_2_0, e0, p0_0, p0_1, p0_2, p0_3, p0_4, p0_5⟩ := Y25 (d := 5) g0
  subst e0
  obtain rfl := args_nil k0
  exact ⟨b_0_0, x_0_1_0, x_1_1_0, x_2_1_0, x_0_2_0, x_1_2_0, x_2_2_0, rfl, p0_0, p0_1, p0_2, p0_3, p0_4, p0_5⟩
theorem Arg.WienerPlanes {M : Mem} {vs : List Value} (h : LaysArgs P M [37, 38, 3] vs) : ∃ (x_0_0_0 : Int) (x_1_0_0 : Int) (A_2_0_0 : Option Addr) (c_2_0_0 : Nat) (l_2_0_0 : List Int) (x_0_1_0 : Int) (x_1_1_0 : Int) (A_2_1_0 : Option Addr) (c_2_1_0 : Nat) (l_2_1_0 : List Int) (A_1 : Option Addr) (n_1 : Nat) (c_1 : Nat) (v_1 : List Value) (x_2 : Int), vs = [.agg ⟨[.int .i64 x_0_0_0, .int .i64 x_1_0_0, .slice A_2_0_0 l_2_0_0.length c_2_0_0, .int .i64 x_0_1_0, .int .i64 x_1_1_0, .slice A_2_1_0 l_2_1_0.length c_2_1_0]⟩, .slice A_1 n_1 c_1, .int .i64 x_2] ∧ (Lit.int .i64 x_0_0_0).wf = true ∧ (Lit.int .i64 x_1_0_0).wf = true ∧ l_2_0_0.length ≤ c_2_0_0 ∧ l_2_0_0.length * 1 ≤ 140737488351232 ∧ RdI M .u8 A_2_0_0 l_2_0_0 ∧ (∀ x ∈ l_2_0_0, (Lit.int .u8 x).wf = true) ∧ (Lit.int .i64 x_0_1_0).wf = true ∧ (Lit.int .i64 x_1_1_0).wf = true ∧ l_2_1_0.length ≤ c_2_1_0 ∧ l_2_1_0.length * 1 ≤ 140737488351232 ∧ RdI M .u8 A_2_1_0 l_2_1_0 ∧ (∀ x ∈ l_2_1_0, (Lit.int .u8 x).wf = true) ∧ n_1 ≤ c_1 ∧ n_1 * 56 ≤ 140737488351232 ∧ Rd M A_1 n_1 7 v_1 ∧ (∀ i, i < n_1 → Lays P M (4 + 3) 25 ((v_1.drop (i * 7)).take 7)) ∧ (Lit.int .i64 x_2).wf = true := by
  obtain ⟨v0, r0, rfl, h0, k0⟩ := args_cons h
  obtain ⟨acs0, rfl, g0⟩ := arg_agg (by kernel_rfl) h0
  obtain ⟨x_0_0_0, x_1_0_0, A_2_0_0, c_2_0_0, l_2_0_0, x_0_1_0, x_1_1_0, A_2_1_0, c_2_1_0, l_2_1_0, e0, p0_0, p0_1, p0_2, p0_3, p0_4, p0_5, p0_6, p0_7, p0_8, p0_9, p0_10, p0_11⟩ := Y37 (d := 4) g0
  subst e0
  obtain ⟨v1, r1, rfl, h1, k1⟩ := args_cons k0
  obtain ⟨A_1, n_1, c_1, v_1, e1, p1_0, p1_1, p1_2, p1_3⟩ := Y38 (d := 4) (arg_one (by kernel_rfl) h1)
  cases e1
  obtain ⟨v2, r2, rfl, h2, k2⟩ := args_cons k1
  obtain ⟨x_2, e2, p2_0⟩ := Y3 (d := 7) (arg_one (by kernel_rfl) h2)
  cases e2
  obtain rfl := args_nil k2
  exact ⟨x_0_0_0, x_1_0_0, A_2_0_0, c_2_0_0, l_2_0_0, x_0_1_0, x_1_1_0, A_2_1_0, c_2_1_0, l_2_1_0, A_1, n_1, c_1, v_1, x_2, rfl, p0_0, p0_1, p0_2, p0_3, p0_4, p0_5, p0_6, p0_7, p0_8, p0_9, p0_10, p0_11, p1_0, p1_1, p1_2, p1_3, p2_0⟩
theorem Arg.WienerNear {M : Mem} {vs : List Value} (h : LaysArgs P M [37, 22, 44] vs) : ∃ (x_0_0_0 : Int) (x_1_0_0 : Int) (A_2_0_0 : Option Addr) (c_2_0_0 : Nat) (l_2_0_0 : List Int) (x_0_1_0 : Int) (x_1_1_0 : Int) (A_2_1_0 : Option Addr) (c_2_1_0 : Nat) (l_2_1_0 : List Int) (x_0_1 : Int) (x_1_1 : Int) (x_2_1 : Int) (x_0_0_2 : Int) (x_1_0_2 : Int) (x_2_0_2 : Int) (x_0_1_2 : Int) (x_1_1_2 : Int) (x_2_1_2 : Int), vs = [.agg ⟨[.int .i64 x_0_0_0, .int .i64 x_1_0_0, .slice A_2_0_0 l_2_0_0.length c_2_0_0, .int .i64 x_0_1_0, .int .i64 x_1_1_0, .slice A_2_1_0 l_2_1_0.length c_2_1_0]⟩, .agg ⟨[.int .i64 x_0_1, .int .i64 x_1_1, .int .i64 x_2_1]⟩, .agg ⟨[.int .i64 x_0_0_2, .int .i64 x_1_0_2, .int .i64 x_2_0_2, .int .i64 x_0_1_2, .int .i64 x_1_1_2, .int .i64 x_2_1_2]⟩] ∧ (Lit.int .i64 x_0_0_0).wf = true ∧ (Lit.int .i64 x_1_0_0).wf = true ∧ l_2_0_0.length ≤ c_2_0_0 ∧ l_2_0_0.length * 1 ≤ 140737488351232 ∧ RdI M .u8 A_2_0_0 l_2_0_0 ∧ (∀ x ∈ l_2_0_0, (Lit.int .u8 x).wf = true) ∧ (Lit.int .i64 x_0_1_0).wf = true ∧ (Lit.int .i64 x_1_1_0).wf = true ∧ l_2_1_0.length ≤ c_2_1_0 ∧ l_2_1_0.length * 1 ≤ 140737488351232 ∧ RdI M .u8 A_2_1_0 l_2_1_0 ∧ (∀ x ∈ l_2_1_0, (Lit.int .u8 x).wf = true) ∧ (Lit.int .i64 x_0_1).wf = true ∧ (Lit.int .i64 x_1_1).wf = true ∧ (Lit.int .i64 x_2_1).wf = true ∧ (Lit.int .i64 x_0_0_2).wf = true ∧ (Lit.int .i64 x_1_0_2).wf = true ∧ (Lit.int .i64 x_2_0_2).wf = true ∧ (Lit.int .i64 x_0_1_2).wf = true ∧ (Lit.int .i64 x_1_1_2).wf = true ∧ (Lit.int .i64 x_2_1_2).wf = true := by
  obtain ⟨v0, r0, rfl, h0, k0⟩ := args_cons h
  obtain ⟨acs0, rfl, g0⟩ := arg_agg (by kernel_rfl) h0
  obtain ⟨x_0_0_0, x_1_0_0, A_2_0_0, c_2_0_0, l_2_0_0, x_0_1_0, x_1_1_0, A_2_1_0, c_2_1_0, l_2_1_0, e0, p0_0, p0_1, p0_2, p0_3, p0_4, p0_5, p0_6, p0_7, p0_8, p0_9, p0_10, p0_11⟩ := Y37 (d := 4) g0
  subst e0
  obtain ⟨v1, r1, rfl, h1, k1⟩ := args_cons k0
  obtain ⟨acs1, rfl, g1⟩ := arg_agg (by kernel_rfl) h1
  obtain ⟨x_0_1, x_1_1, x_2_1, e1, p1_0, p1_1, p1_2⟩ := Y22 (d := 6) g1
  subst e1
  obtain ⟨v2, r2, rfl, h2, k2⟩ := args_cons k1
  obtain ⟨acs2, rfl, g2⟩ := arg_agg (by kernel_rfl) h2
  obtain ⟨x_0_0_2, x_1_0_2, x_2_0_2, x_0_1_2, x_1_1_2, x_2_1_2, e2, p2_0, p2_1, p2_2, p2_3, p2_4, p2_5⟩ := Y44 (d := 5) g2
  subst e2
  obtain rfl := args_nil k2
  exact ⟨x_0_0_0, x_1_0_0, A_2_0_0, c_2_0_0, l_2_0_0, x_0_1_0, x_1_1_0, A_2_1_0, c_2_1_0, l_2_1_0, x_0_1, x_1_1, x_2_1, x_0_0_2, x_1_0_2, x_2_0_2, x_0_1_2, x_1_1_2, x_2_1_2, rfl, p0_0, p0_1, p0_2, p0_3, p0_4, p0_5, p0_6, p0_7, p0_8, p0_9, p0_10, p0_11, p1_0, p1_1, p1_2, p2_0, p2_1, p2_2, p2_3, p2_4, p2_5⟩
theorem Arg.WienerSquares {M : Mem} {vs : List Value} (h : LaysArgs P M [37, 51, 52] vs) : ∃ (x_0_0_0 : Int) (x_1_0_0 : Int) (A_2_0_0 : Option Addr) (c_2_0_0 : Nat) (l_2_0_0 : List Int) (x_0_1_0 : Int) (x_1_1_0 : Int) (A_2_1_0 : Option Addr) (c_2_1_0 : Nat) (l_2_1_0 : List Int) (A_1 : Option Addr) (n_1 : Nat) (c_1 : Nat) (v_1 : List Value) (A_2 : Option Addr) (c_2 : Nat) (l_2 : List Bool), vs = [.agg ⟨[.int .i64 x_0_0_0, .int .i64 x_1_0_0, .slice A_2_0_0 l_2_0_0.length c_2_0_0, .int .i64 x_0_1_0, .int .i64 x_1_1_0, .slice A_2_1_0 l_2_1_0.length c_2_1_0]⟩, .slice A_1 n_1 c_1, .slice A_2 l_2.length c_2] ∧ (Lit.int .i64 x_0_0_0).wf = true ∧ (Lit.int .i64 x_1_0_0).wf = true ∧ l_2_0_0.length ≤ c_2_0_0 ∧ l_2_0_0.length * 1 ≤ 140737488351232 ∧ RdI M .u8 A_2_0_0 l_2_0_0 ∧ (∀ x ∈ l_2_0_0, (Lit.int .u8 x).wf = true) ∧ (Lit.int .i64 x_0_1_0).wf = true ∧ (Lit.int .i64 x_1_1_0).wf = true ∧ l_2_1_0.length ≤ c_2_1_0 ∧ l_2_1_0.length * 1 ≤ 140737488351232 ∧ RdI M .u8 A_2_1_0 l_2_1_0 ∧ (∀ x ∈ l_2_1_0, (Lit.int .u8 x).wf = true) ∧ n_1 ≤ c_1 ∧ n_1 * 24 ≤ 140737488351232 ∧ Rd M A_1 n_1 3 v_1 ∧ (∀ i, i < n_1 → Lays P M (5 + 2) 23 ((v_1.drop (i * 3)).take 3)) ∧ l_2.length ≤ c_2 ∧ l_2.length * 1 ≤ 140737488351232 ∧ RdB M A_2 l_2 := by
  obtain ⟨v0, r0, rfl, h0, k0⟩ := args_cons h
  obtain ⟨acs0, rfl, g0⟩ := arg_agg (by kernel_rfl) h0
  obtain ⟨x_0_0_0, x_1_0_0, A_2_0_0, c_2_0_0, l_2_0_0, x_0_1_0, x_1_1_0, A_2_1_0, c_2_1_0, l_2_1_0, e0, p0_0, p0_1, p0_2, p0_3, p0_4, p0_5, p0_6, p0_7, p0_8, p0_9, p0_10, p0_11⟩ := Y37 (d := 4) g0
  subst e0
  obtain ⟨v1, r1, rfl, h1, k1⟩ := args_cons k0
  obtain ⟨A_1, n_1, c_1, v_1, e1, p1_0, p1_1, p1_2, p1_3⟩ := Y51 (d := 5) (arg_one (by kernel_rfl) h1)
  cases e1
  obtain ⟨v2, r2, rfl, h2, k2⟩ := args_cons k1
  obtain ⟨A_2, c_2, l_2, e2, p2_0, p2_1, p2_2⟩ := Y52 (d := 6) (arg_one (by kernel_rfl) h2)
  cases e2
  obtain rfl := args_nil k2
  exact ⟨x_0_0_0, x_1_0_0, A_2_0_0, c_2_0_0, l_2_0_0, x_0_1_0, x_1_1_0, A_2_1_0, c_2_1_0, l_2_1_0, A_1, n_1, c_1, v_1, A_2, c_2, l_2, rfl, p0_0, p0_1, p0_2, p0_3, p0_4, p0_5, p0_6, p0_7, p0_8, p0_9, p0_10, p0_11, p1_0, p1_1, p1_2, p1_3, p2_0, p2_1, p2_2⟩
theorem Arg.WienerNames {M : Mem} {vs : List Value} (h : LaysArgs P M [] vs) : vs = [] := args_nil h
theorem Arg.WienerStays {M : Mem} {vs : List Value} (h : LaysArgs P M [35, 5, 44] vs) : ∃ (x_0_0 : Int) (x_1_0 : Int) (A_2_0 : Option Addr) (c_2_0 : Nat) (l_2_0 : List Int) (x_1 : Int) (x_0_0_2 : Int) (x_1_0_2 : Int) (x_2_0_2 : Int) (x_0_1_2 : Int) (x_1_1_2 : Int) (x_2_1_2 : Int), vs = [.agg ⟨[.int .i64 x_0_0, .int .i64 x_1_0, .slice A_2_0 l_2_0.length c_2_0]⟩, .int .u8 x_1, .agg ⟨[.int .i64 x_0_0_2, .int .i64 x_1_0_2, .int .i64 x_2_0_2, .int .i64 x_0_1_2, .int .i64 x_1_1_2, .int .i64 x_2_1_2]⟩] ∧ (Lit.int .i64 x_0_0).wf = true ∧ (Lit.int .i64 x_1_0).wf = true ∧ l_2_0.length ≤ c_2_0 ∧ l_2_0.length * 1 ≤ 140737488351232 ∧ RdI M .u8 A_2_0 l_2_0 ∧ (∀ x ∈ l_2_0, (Lit.int .u8 x).wf = true) ∧ (Lit.int .u8 x_1).wf = true ∧ (Lit.int .i64 x_0_0_2).wf = true ∧ (Lit.int .i64 x_1_0_2).wf = true ∧ (Lit.int .i64 x_2_0_2).wf = true ∧ (Lit.int .i64 x_0_1_2).wf = true ∧ (Lit.int .i64 x_1_1_2).wf = true ∧ (Lit.int .i64 x_2_1_2).wf = true := by
  obtain ⟨v0, r0, rfl, h0, k0⟩ := args_cons h
  obtain ⟨acs0, rfl, g0⟩ := arg_agg (by kernel_rfl) h0
  obtain ⟨x_0_0, x_1_0, A_2_0, c_2_0, l_2_0, e0, p0_0, p0_1, p0_2, p0_3, p0_4, p0_5⟩ := Y35 (d := 5) g0
  subst e0
  obtain ⟨v1, r1, rfl, h1, k1⟩ := args_cons k0
  obtain ⟨x_1, e1, p1_0⟩ := Y5 (d := 7) (arg_one (by kernel_rfl) h1)
  cases e1
  obtain ⟨v2, r2, rfl, h2, k2⟩ := args_cons k1
  obtain ⟨acs2, rfl, g2⟩ := arg_agg (by kernel_rfl) h2
  obtain ⟨x_0_0_2, x_1_0_2, x_2_0_2, x_0_1_2, x_1_1_2, x_2_1_2, e2, p2_0, p2_1, p2_2, p2_3, p2_4, p2_5⟩ := Y44 (d := 5) g2
  subst e2
  obtain rfl := args_nil k2
  exact ⟨x_0_0, x_1_0, A_2_0, c_2_0, l_2_0, x_1, x_0_0_2, x_1_0_2, x_2_0_2, x_0_1_2, x_1_1_2, x_2_1_2, rfl, p0_0, p0_1, p0_2, p0_3, p0_4, p0_5, p1_0, p2_0, p2_1, p2_2, p2_3, p2_4, p2_5⟩
end Go.Zt
