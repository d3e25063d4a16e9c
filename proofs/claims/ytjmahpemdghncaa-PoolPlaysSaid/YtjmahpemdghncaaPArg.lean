/- What the law PoolPlays needs of the text Arg. -/
import Derived.Test.YtjmahpemdghncaaPAb29
import Derived.Test.YtjmahpemdghncaaPEq0
import Derived.KernelRfl
set_option maxRecDepth 100000
set_option linter.unusedVariables false
namespace Go.Zt
theorem cat2 {a a' b b' : List Value} (h : a = a') (k : b = b') : a ++ b = a' ++ b' := by rw [h, k]
theorem Y3 {M : Mem} {d : Nat} {cs : List Value} (h : Lays P M (d + 1) 3 cs) : ∃ (x : Int), cs = [.int .i64 x] ∧ (Lit.int .i64 x).wf = true := lays_int Go.Proofs.Try.underlying3 h
theorem Y54 {M : Mem} {d : Nat} {cs : List Value} (h : Lays P M (d + 2) 54 cs) : ∃ (x_0 : Int) (x_1 : Int) (x_2 : Int) (x_3 : Int) (x_4 : Int) (x_5 : Int) (x_6 : Int) (x_7 : Int), cs = [.int .i64 x_0, .int .i64 x_1, .int .i64 x_2, .int .i64 x_3, .int .i64 x_4, .int .i64 x_5, .int .i64 x_6, .int .i64 x_7] ∧ (Lit.int .i64 x_0).wf = true ∧ (Lit.int .i64 x_1).wf = true ∧ (Lit.int .i64 x_2).wf = true ∧ (Lit.int .i64 x_3).wf = true ∧ (Lit.int .i64 x_4).wf = true ∧ (Lit.int .i64 x_5).wf = true ∧ (Lit.int .i64 x_6).wf = true ∧ (Lit.int .i64 x_7).wf = true := by
  obtain ⟨e, hf⟩ := lays_fields (g := fun _ => true) Go.Proofs.Try.underlying54 (by kernel_rfl) h
  obtain ⟨x_0, e0, p0_0⟩ := Y3 (d := d + 0) (hf _ (List.Mem.head _))
  obtain ⟨x_1, e1, p1_0⟩ := Y3 (d := d + 0) (hf _ (List.Mem.tail _ (List.Mem.head _)))
  obtain ⟨x_2, e2, p2_0⟩ := Y3 (d := d + 0) (hf _ (List.Mem.tail _ (List.Mem.tail _ (List.Mem.head _))))
  obtain ⟨x_3, e3, p3_0⟩ := Y3 (d := d + 0) (hf _ (List.Mem.tail _ (List.Mem.tail _ (List.Mem.tail _ (List.Mem.head _)))))
  obtain ⟨x_4, e4, p4_0⟩ := Y3 (d := d + 0) (hf _ (List.Mem.tail _ (List.Mem.tail _ (List.Mem.tail _ (List.Mem.tail _ (List.Mem.head _))))))
  obtain ⟨x_5, e5, p5_0⟩ := Y3 (d := d + 0) (hf _ (List.Mem.tail _ (List.Mem.tail _ (List.Mem.tail _ (List.Mem.tail _ (List.Mem.tail _ (List.Mem.head _)))))))
  obtain ⟨x_6, e6, p6_0⟩ := Y3 (d := d + 0) (hf _ (List.Mem.tail _ (List.Mem.tail _ (List.Mem.tail _ (List.Mem.tail _ (List.Mem.tail _ (List.Mem.tail _ (List.Mem.head _))))))))
  obtain ⟨x_7, e7, p7_0⟩ := Y3 (d := d + 0) (hf _ (List.Mem.tail _ (List.Mem.tail _ (List.Mem.tail _ (List.Mem.tail _ (List.Mem.tail _ (List.Mem.tail _ (List.Mem.tail _ (List.Mem.head _)))))))))
  exact ⟨x_0, x_1, x_2, x_3, x_4, x_5, x_6, x_7, e.trans (cat2 e0 (cat2 e1 (cat2 e2 (cat2 e3 (cat2 e4 (cat2 e5 (cat2 e6 (cat2 e7 (rfl))))))))), p0_0, p1_0, p2_0, p3_0, p4_0, p5_0, p6_0, p7_0⟩
theorem Y50 {M : Mem} {d : Nat} {cs : List Value} (h : Lays P M (d + 3) 50 cs) : ∃ (A : Option Addr) (n : Nat) (c : Nat) (v : List Value), cs = [.slice A n c] ∧ n ≤ c ∧ n * 64 ≤ 140737488351232 ∧ Rd M A n 8 v ∧ (∀ i, i < n → Lays P M (d + 2) 54 ((v.drop (i * 8)).take 8)) := lays_slice Go.Proofs.Try.underlying50 (by kernel_rfl) (by kernel_rfl) h
theorem Arg.PoolPlays {M : Mem} {vs : List Value} (h : LaysArgs P M [50, 3] vs) : ∃ (A_0 : Option Addr) (n_0 : Nat) (c_0 : Nat) (v_0 : List Value) (x_1 : Int), vs = [.slice A_0 n_0 c_0, .int .i64 x_1] ∧ n_0 ≤ c_0 ∧ n_0 * 64 ≤ 140737488351232 ∧ Rd M A_0 n_0 8 v_0 ∧ (∀ i, i < n_0 → Lays P M (5 + 2) 54 ((v_0.drop (i * 8)).take 8)) ∧ (Lit.int .i64 x_1).wf = true := by
  obtain ⟨v0, r0, rfl, h0, k0⟩ := args_cons h
  obtain ⟨A_0, n_0, c_0, v_0, e0, p0_0, p0_1, p0_2, p0_3⟩ := Y50 (d := 5) (arg_one (by kernel_rfl) h0)
  cases e0
  obtain ⟨v1, r1, rfl, h1, k1⟩ := args_cons k0
  obtain ⟨x_1, e1, p1_0⟩ := Y3 (d := 7) (arg_one (by kernel_rfl) h1)
  cases e1
  obtain rfl := args_nil k1
  exact ⟨A_0, n_0, c_0, v_0, x_1, rfl, p0_0, p0_1, p0_2, p0_3, p1_0⟩
end Go.Zt
