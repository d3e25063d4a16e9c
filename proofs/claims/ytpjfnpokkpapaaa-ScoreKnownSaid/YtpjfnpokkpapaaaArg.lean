/- What the arguments of the laws are. -/
import Derived.Test.YtpjfnpokkpapaaaAb29
import Derived.Test.YtpjfnpokkpapaaaEq0
import Derived.KernelRfl
set_option maxRecDepth 100000
set_option linter.unusedVariables false
namespace Go.Zt
theorem cat2 {a a' b b' : List Value} (h : a = a') (k : b = b') : a ++ b = a' ++ b' := by rw [h, k]
theorem Y3 {M : Mem} {d : Nat} {cs : List Value} (h : Lays P M (d + 1) 3 cs) : ∃ (x : Int), cs = [.int .i64 x] ∧ (Lit.int .i64 x).wf = true := lays_int Go.Proofs.Try.underlying3 h
theorem Y22 {M : Mem} {d : Nat} {cs : List Value} (h : Lays P M (d + 2) 22 cs) : ∃ (A : Option Addr) (c : Nat) (l : List Int), cs = [.slice A l.length c] ∧ l.length ≤ c ∧ l.length * 1 ≤ 140737488351232 ∧ RdI M .u8 A l ∧ (∀ x ∈ l, (Lit.int .u8 x).wf = true) := lays_ints Go.Proofs.Try.underlying22 Go.Proofs.Try.underlying5 (by kernel_rfl) (by kernel_rfl) h
theorem Y24 {M : Mem} {d : Nat} {cs : List Value} (h : Lays P M (d + 3) 24 cs) : ∃ (x_0 : Int) (x_1 : Int) (A_2 : Option Addr) (c_2 : Nat) (l_2 : List Int), cs = [.int .i64 x_0, .int .i64 x_1, .slice A_2 l_2.length c_2] ∧ (Lit.int .i64 x_0).wf = true ∧ (Lit.int .i64 x_1).wf = true ∧ l_2.length ≤ c_2 ∧ l_2.length * 1 ≤ 140737488351232 ∧ RdI M .u8 A_2 l_2 ∧ (∀ x ∈ l_2, (Lit.int .u8 x).wf = true) := by
  obtain ⟨e, hf⟩ := lays_fields (g := fun _ => true) Go.Proofs.Try.underlying24 (by kernel_rfl) h
  obtain ⟨x_0, e0, p0_0⟩ := Y3 (d := d + 1) (hf _ (List.Mem.head _))
  obtain ⟨x_1, e1, p1_0⟩ := Y3 (d := d + 1) (hf _ (List.Mem.tail _ (List.Mem.head _)))
  obtain ⟨A_2, c_2, l_2, e2, p2_0, p2_1, p2_2, p2_3⟩ := Y22 (d := d + 0) (hf _ (List.Mem.tail _ (List.Mem.tail _ (List.Mem.head _))))
  exact ⟨x_0, x_1, A_2, c_2, l_2, e.trans (cat2 e0 (cat2 e1 (cat2 e2 (rfl)))), p0_0, p1_0, p2_0, p2_1, p2_2, p2_3⟩
theorem Y31 {M : Mem} {d : Nat} {cs : List Value} (h : Lays P M (d + 1) 31 cs) : ∃ (x : Int), cs = [.int .u64 x] ∧ (Lit.int .u64 x).wf = true := lays_int Go.Proofs.Try.underlying31 h
theorem Y27 {M : Mem} {d : Nat} {cs : List Value} (h : Lays P M (d + 1) 27 cs) : ∃ (y : Nat), cs = [.float .f64 y] ∧ (Lit.float .f64 y).wf = true := lays_float Go.Proofs.Try.underlying27 h
theorem Y34 {M : Mem} {d : Nat} {cs : List Value} (h : Lays P M (d + 2) 34 cs) : ∃ (A : Option Addr) (c : Nat) (l : List Nat), cs = [.slice A l.length c] ∧ l.length ≤ c ∧ l.length * 8 ≤ 140737488351232 ∧ RdF M .f64 A l ∧ (∀ x ∈ l, (Lit.float .f64 x).wf = true) := lays_floats Go.Proofs.Try.underlying34 Go.Proofs.Try.underlying27 (by kernel_rfl) (by kernel_rfl) h
theorem Y41 {M : Mem} {d : Nat} {cs : List Value} (h : Lays P M (d + 2) 41 cs) : ∃ (x_0 : Int) (x_1 : Int), cs = [.int .u64 x_0, .int .u64 x_1] ∧ (Lit.int .u64 x_0).wf = true ∧ (Lit.int .u64 x_1).wf = true := by
  obtain ⟨e, hf⟩ := lays_items (n := 2) (z := 1) Go.Proofs.Try.underlying41 (by kernel_rfl) (by kernel_rfl) h
  obtain ⟨x_0, e0, p0_0⟩ := Y31 (d := d + 0) (hf 0 (by decide))
  obtain ⟨x_1, e1, p1_0⟩ := Y31 (d := d + 0) (hf 1 (by decide))
  exact ⟨x_0, x_1, e.trans (cat2 e0 (cat2 e1 (rfl))), p0_0, p1_0⟩
theorem Y45 {M : Mem} {d : Nat} {cs : List Value} (h : Lays P M (d + 2) 45 cs) : ∃ (A : Option Addr) (c : Nat) (l : List Int), cs = [.slice A l.length c] ∧ l.length ≤ c ∧ l.length * 8 ≤ 140737488351232 ∧ RdI M .i64 A l ∧ (∀ x ∈ l, (Lit.int .i64 x).wf = true) := lays_ints Go.Proofs.Try.underlying45 Go.Proofs.Try.underlying3 (by kernel_rfl) (by kernel_rfl) h
theorem Y49 {M : Mem} {d : Nat} {cs : List Value} (h : Lays P M (d + 2) 49 cs) : ∃ (A : Option Addr) (c : Nat) (l : List Bool), cs = [.slice A l.length c] ∧ l.length ≤ c ∧ l.length * 1 ≤ 140737488351232 ∧ RdB M A l := lays_bools Go.Proofs.Try.underlying49 Go.Proofs.Try.underlying4 (by kernel_rfl) (by kernel_rfl) h
theorem Arg.ScoreRatios {M : Mem} {vs : List Value} (h : LaysArgs P M [24, 24] vs) : ∃ (x_0_0 : Int) (x_1_0 : Int) (A_2_0 : Option Addr) (c_2_0 : Nat) (l_2_0 : List Int) (x_0_1 : Int) (x_1_1 : Int) (A_2_1 : Option Addr) (c_2_1 : Nat) (l_2_1 : List Int), vs = [.agg ⟨[.int .i64 x_0_0, .int .i64 x_1_0, .slice A_2_0 l_2_0.length c_2_0]⟩, .agg ⟨[.int .i64 x_0_1, .int .i64 x_1_1, .slice A_2_1 l_2_1.length c_2_1]⟩] ∧ (Lit.int .i64 x_0_0).wf = true ∧ (Lit.int .i64 x_1_0).wf = true ∧ l_2_0.length ≤ c_2_0 ∧ l_2_0.length * 1 ≤ 140737488351232 ∧ RdI M .u8 A_2_0 l_2_0 ∧ (∀ x ∈ l_2_0, (Lit.int .u8 x).wf = true) ∧ (Lit.int .i64 x_0_1).wf = true ∧ (Lit.int .i64 x_1_1).wf = true ∧ l_2_1.length ≤ c_2_1 ∧ l_2_1.length * 1 ≤ 140737488351232 ∧ RdI M .u8 A_2_1 l_2_1 ∧ (∀ x ∈ l_2_1, (Lit.int .u8 x).wf = true) := by
  obtain ⟨v0, r0, rfl, h0, k0⟩ := args_cons h
  obtain ⟨acs0, rfl, g0⟩ := arg_agg (by kernel_rfl) h0
  obtain ⟨x_0_0, x_1_0, A_2_0, c_2_0, l_2_0, e0, p0_0, p0_1, p0_2, p0_3, p0_4, p0_5⟩ := Y24 (d := 5) g0
  subst e0
  obtain ⟨v1, r1, rfl, h1, k1⟩ := args_cons k0
  obtain ⟨acs1, rfl, g1⟩ := arg_agg (by kernel_rfl) h1
  obtain ⟨x_0_1, x_1_1, A_2_1, c_2_1, l_2_1, e1, p1_0, p1_1, p1_2, p1_3, p1_4, p1_5⟩ := Y24 (d := 5) g1
  subst e1
  obtain rfl := args_nil k1
  exact ⟨x_0_0, x_1_0, A_2_0, c_2_0, l_2_0, x_0_1, x_1_1, A_2_1, c_2_1, l_2_1, rfl, p0_0, p0_1, p0_2, p0_3, p0_4, p0_5, p1_0, p1_1, p1_2, p1_3, p1_4, p1_5⟩
theorem Arg.ScoreCosts {M : Mem} {vs : List Value} (h : LaysArgs P M [31, 31, 27] vs) : ∃ (x_0 : Int) (x_1 : Int) (y_2 : Nat), vs = [.int .u64 x_0, .int .u64 x_1, .float .f64 y_2] ∧ (Lit.int .u64 x_0).wf = true ∧ (Lit.int .u64 x_1).wf = true ∧ (Lit.float .f64 y_2).wf = true := by
  obtain ⟨v0, r0, rfl, h0, k0⟩ := args_cons h
  obtain ⟨x_0, e0, p0_0⟩ := Y31 (d := 7) (arg_one (by kernel_rfl) h0)
  cases e0
  obtain ⟨v1, r1, rfl, h1, k1⟩ := args_cons k0
  obtain ⟨x_1, e1, p1_0⟩ := Y31 (d := 7) (arg_one (by kernel_rfl) h1)
  cases e1
  obtain ⟨v2, r2, rfl, h2, k2⟩ := args_cons k1
  obtain ⟨y_2, e2, p2_0⟩ := Y27 (d := 7) (arg_one (by kernel_rfl) h2)
  cases e2
  obtain rfl := args_nil k2
  exact ⟨x_0, x_1, y_2, rfl, p0_0, p1_0, p2_0⟩
theorem Arg.ScoreLists {M : Mem} {vs : List Value} (h : LaysArgs P M [34] vs) : ∃ (A_0 : Option Addr) (c_0 : Nat) (l_0 : List Nat), vs = [.slice A_0 l_0.length c_0] ∧ l_0.length ≤ c_0 ∧ l_0.length * 8 ≤ 140737488351232 ∧ RdF M .f64 A_0 l_0 ∧ (∀ x ∈ l_0, (Lit.float .f64 x).wf = true) := by
  obtain ⟨v0, r0, rfl, h0, k0⟩ := args_cons h
  obtain ⟨A_0, c_0, l_0, e0, p0_0, p0_1, p0_2, p0_3⟩ := Y34 (d := 6) (arg_one (by kernel_rfl) h0)
  cases e0
  obtain rfl := args_nil k0
  exact ⟨A_0, c_0, l_0, rfl, p0_0, p0_1, p0_2, p0_3⟩
theorem Arg.ScoreDearer {M : Mem} {vs : List Value} (h : LaysArgs P M [41, 41, 27] vs) : ∃ (x_0_0 : Int) (x_1_0 : Int) (x_0_1 : Int) (x_1_1 : Int) (y_2 : Nat), vs = [.agg ⟨[.int .u64 x_0_0, .int .u64 x_1_0]⟩, .agg ⟨[.int .u64 x_0_1, .int .u64 x_1_1]⟩, .float .f64 y_2] ∧ (Lit.int .u64 x_0_0).wf = true ∧ (Lit.int .u64 x_1_0).wf = true ∧ (Lit.int .u64 x_0_1).wf = true ∧ (Lit.int .u64 x_1_1).wf = true ∧ (Lit.float .f64 y_2).wf = true := by
  obtain ⟨v0, r0, rfl, h0, k0⟩ := args_cons h
  obtain ⟨acs0, rfl, g0⟩ := arg_agg (by kernel_rfl) h0
  obtain ⟨x_0_0, x_1_0, e0, p0_0, p0_1⟩ := Y41 (d := 6) g0
  subst e0
  obtain ⟨v1, r1, rfl, h1, k1⟩ := args_cons k0
  obtain ⟨acs1, rfl, g1⟩ := arg_agg (by kernel_rfl) h1
  obtain ⟨x_0_1, x_1_1, e1, p1_0, p1_1⟩ := Y41 (d := 6) g1
  subst e1
  obtain ⟨v2, r2, rfl, h2, k2⟩ := args_cons k1
  obtain ⟨y_2, e2, p2_0⟩ := Y27 (d := 7) (arg_one (by kernel_rfl) h2)
  cases e2
  obtain rfl := args_nil k2
  exact ⟨x_0_0, x_1_0, x_0_1, x_1_1, y_2, rfl, p0_0, p0_1, p1_0, p1_1, p2_0⟩
theorem Arg.ScoreBest {M : Mem} {vs : List Value} (h : LaysArgs P M [34] vs) : ∃ (A_0 : Option Addr) (c_0 : Nat) (l_0 : List Nat), vs = [.slice A_0 l_0.length c_0] ∧ l_0.length ≤ c_0 ∧ l_0.length * 8 ≤ 140737488351232 ∧ RdF M .f64 A_0 l_0 ∧ (∀ x ∈ l_0, (Lit.float .f64 x).wf = true) := by
  obtain ⟨v0, r0, rfl, h0, k0⟩ := args_cons h
  obtain ⟨A_0, c_0, l_0, e0, p0_0, p0_1, p0_2, p0_3⟩ := Y34 (d := 6) (arg_one (by kernel_rfl) h0)
  cases e0
  obtain rfl := args_nil k0
  exact ⟨A_0, c_0, l_0, rfl, p0_0, p0_1, p0_2, p0_3⟩
theorem Arg.ScoreMiddle {M : Mem} {vs : List Value} (h : LaysArgs P M [45, 3] vs) : ∃ (A_0 : Option Addr) (c_0 : Nat) (l_0 : List Int) (x_1 : Int), vs = [.slice A_0 l_0.length c_0, .int .i64 x_1] ∧ l_0.length ≤ c_0 ∧ l_0.length * 8 ≤ 140737488351232 ∧ RdI M .i64 A_0 l_0 ∧ (∀ x ∈ l_0, (Lit.int .i64 x).wf = true) ∧ (Lit.int .i64 x_1).wf = true := by
  obtain ⟨v0, r0, rfl, h0, k0⟩ := args_cons h
  obtain ⟨A_0, c_0, l_0, e0, p0_0, p0_1, p0_2, p0_3⟩ := Y45 (d := 6) (arg_one (by kernel_rfl) h0)
  cases e0
  obtain ⟨v1, r1, rfl, h1, k1⟩ := args_cons k0
  obtain ⟨x_1, e1, p1_0⟩ := Y3 (d := 7) (arg_one (by kernel_rfl) h1)
  cases e1
  obtain rfl := args_nil k1
  exact ⟨A_0, c_0, l_0, x_1, rfl, p0_0, p0_1, p0_2, p0_3, p1_0⟩
theorem Arg.ScoreKnown {M : Mem} {vs : List Value} (h : LaysArgs P M [] vs) : vs = [] := args_nil h
theorem Arg.ScoreAlike {M : Mem} {vs : List Value} (h : LaysArgs P M [24, 24, 49] vs) : ∃ (x_0_0 : Int) (x_1_0 : Int) (A_2_0 : Option Addr) (c_2_0 : Nat) (l_2_0 : List Int) (x_0_1 : Int) (x_1_1 : Int) (A_2_1 : Option Addr) (c_2_1 : Nat) (l_2_1 : List Int) (A_2 : Option Addr) (c_2 : Nat) (l_2 : List Bool), vs = [.agg ⟨[.int .i64 x_0_0, .int .i64 x_1_0, .slice A_2_0 l_2_0.length c_2_0]⟩, .agg ⟨[.int .i64 x_0_1, .int .i64 x_1_1, .slice A_2_1 l_2_1.length c_2_1]⟩, .slice A_2 l_2.length c_2] ∧ (Lit.int .i64 x_0_0).wf = true ∧ (Lit.int .i64 x_1_0).wf = true ∧ l_2_0.length ≤ c_2_0 ∧ l_2_0.length * 1 ≤ 140737488351232 ∧ RdI M .u8 A_2_0 l_2_0 ∧ (∀ x ∈ l_2_0, (Lit.int .u8 x).wf = true) ∧ (Lit.int .i64 x_0_1).wf = true ∧ (Lit.int .i64 x_1_1).wf = true ∧ l_2_1.length ≤ c_2_1 ∧ l_2_1.length * 1 ≤ 140737488351232 ∧ RdI M .u8 A_2_1 l_2_1 ∧ (∀ x ∈ l_2_1, (Lit.int .u8 x).wf = true) ∧ l_2.length ≤ c_2 ∧ l_2.length * 1 ≤ 140737488351232 ∧ RdB M A_2 l_2 := by
  obtain ⟨v0, r0, rfl, h0, k0⟩ := args_cons h
  obtain ⟨acs0, rfl, g0⟩ := arg_agg (by kernel_rfl) h0
  obtain ⟨x_0_0, x_1_0, A_2_0, c_2_0, l_2_0, e0, p0_0, p0_1, p0_2, p0_3, p0_4, p0_5⟩ := Y24 (d := 5) g0
  subst e0
  obtain ⟨v1, r1, rfl, h1, k1⟩ := args_cons k0
  obtain ⟨acs1, rfl, g1⟩ := arg_agg (by kernel_rfl) h1
  obtain ⟨x_0_1, x_1_1, A_2_1, c_2_1, l_2_1, e1, p1_0, p1_1, p1_2, p1_3, p1_4, p1_5⟩ := Y24 (d := 5) g1
  subst e1
  obtain ⟨v2, r2, rfl, h2, k2⟩ := args_cons k1
  obtain ⟨A_2, c_2, l_2, e2, p2_0, p2_1, p2_2⟩ := Y49 (d := 6) (arg_one (by kernel_rfl) h2)
  cases e2
  obtain rfl := args_nil k2
  exact ⟨x_0_0, x_1_0, A_2_0, c_2_0, l_2_0, x_0_1, x_1_1, A_2_1, c_2_1, l_2_1, A_2, c_2, l_2, rfl, p0_0, p0_1, p0_2, p0_3, p0_4, p0_5, p1_0, p1_1, p1_2, p1_3, p1_4, p1_5, p2_0, p2_1, p2_2⟩
end Go.Zt
