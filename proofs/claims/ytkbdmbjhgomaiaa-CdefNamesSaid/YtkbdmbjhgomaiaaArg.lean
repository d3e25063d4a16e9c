/- What the arguments of the laws are. -/
import Derived.Test.YtkbdmbjhgomaiaaAb29
import Derived.Test.YtkbdmbjhgomaiaaEq0
import Derived.KernelRfl
set_option maxRecDepth 100000
set_option linter.unusedVariables false
namespace Go.Zt
theorem cat2 {a a' b b' : List Value} (h : a = a') (k : b = b') : a ++ b = a' ++ b' := by rw [h, k]
theorem Y22 {M : Mem} {d : Nat} {cs : List Value} (h : Lays P M (d + 2) 22 cs) : ∃ (A : Option Addr) (c : Nat) (l : List Int), cs = [.slice A l.length c] ∧ l.length ≤ c ∧ l.length * 1 ≤ 140737488351232 ∧ RdI M .u8 A l ∧ (∀ x ∈ l, (Lit.int .u8 x).wf = true) := lays_ints Go.Proofs.Try.underlying22 Go.Proofs.Try.underlying5 (by kernel_rfl) (by kernel_rfl) h
theorem Y3 {M : Mem} {d : Nat} {cs : List Value} (h : Lays P M (d + 1) 3 cs) : ∃ (x : Int), cs = [.int .i64 x] ∧ (Lit.int .i64 x).wf = true := lays_int Go.Proofs.Try.underlying3 h
theorem Y23 {M : Mem} {d : Nat} {cs : List Value} (h : Lays P M (d + 2) 23 cs) : ∃ (x_0 : Int) (x_1 : Int) (x_2 : Int), cs = [.int .i64 x_0, .int .i64 x_1, .int .i64 x_2] ∧ (Lit.int .i64 x_0).wf = true ∧ (Lit.int .i64 x_1).wf = true ∧ (Lit.int .i64 x_2).wf = true := by
  obtain ⟨e, hf⟩ := lays_items (n := 3) (z := 1) Go.Proofs.Try.underlying23 (by kernel_rfl) (by kernel_rfl) h
  obtain ⟨x_0, e0, p0_0⟩ := Y3 (d := d + 0) (hf 0 (by decide))
  obtain ⟨x_1, e1, p1_0⟩ := Y3 (d := d + 0) (hf 1 (by decide))
  obtain ⟨x_2, e2, p2_0⟩ := Y3 (d := d + 0) (hf 2 (by decide))
  exact ⟨x_0, x_1, x_2, e.trans (cat2 e0 (cat2 e1 (cat2 e2 (rfl)))), p0_0, p1_0, p2_0⟩
theorem Y33 {M : Mem} {d : Nat} {cs : List Value} (h : Lays P M (d + 3) 33 cs) : ∃ (x_0 : Int) (x_1 : Int) (A_2 : Option Addr) (c_2 : Nat) (l_2 : List Int), cs = [.int .i64 x_0, .int .i64 x_1, .slice A_2 l_2.length c_2] ∧ (Lit.int .i64 x_0).wf = true ∧ (Lit.int .i64 x_1).wf = true ∧ l_2.length ≤ c_2 ∧ l_2.length * 1 ≤ 140737488351232 ∧ RdI M .u8 A_2 l_2 ∧ (∀ x ∈ l_2, (Lit.int .u8 x).wf = true) := by
  obtain ⟨e, hf⟩ := lays_fields (g := fun _ => true) Go.Proofs.Try.underlying33 (by kernel_rfl) h
  obtain ⟨x_0, e0, p0_0⟩ := Y3 (d := d + 1) (hf _ (List.Mem.head _))
  obtain ⟨x_1, e1, p1_0⟩ := Y3 (d := d + 1) (hf _ (List.Mem.tail _ (List.Mem.head _)))
  obtain ⟨A_2, c_2, l_2, e2, p2_0, p2_1, p2_2, p2_3⟩ := Y22 (d := d + 0) (hf _ (List.Mem.tail _ (List.Mem.tail _ (List.Mem.head _))))
  exact ⟨x_0, x_1, A_2, c_2, l_2, e.trans (cat2 e0 (cat2 e1 (cat2 e2 (rfl)))), p0_0, p1_0, p2_0, p2_1, p2_2, p2_3⟩
theorem Y35 {M : Mem} {d : Nat} {cs : List Value} (h : Lays P M (d + 2) 35 cs) : ∃ (x_0 : Int) (x_1 : Int) (x_2 : Int) (x_3 : Int), cs = [.int .i64 x_0, .int .i64 x_1, .int .i64 x_2, .int .i64 x_3] ∧ (Lit.int .i64 x_0).wf = true ∧ (Lit.int .i64 x_1).wf = true ∧ (Lit.int .i64 x_2).wf = true ∧ (Lit.int .i64 x_3).wf = true := by
  obtain ⟨e, hf⟩ := lays_fields (g := fun _ => true) Go.Proofs.Try.underlying35 (by kernel_rfl) h
  obtain ⟨x_0, e0, p0_0⟩ := Y3 (d := d + 0) (hf _ (List.Mem.head _))
  obtain ⟨x_1, e1, p1_0⟩ := Y3 (d := d + 0) (hf _ (List.Mem.tail _ (List.Mem.head _)))
  obtain ⟨x_2, e2, p2_0⟩ := Y3 (d := d + 0) (hf _ (List.Mem.tail _ (List.Mem.tail _ (List.Mem.head _))))
  obtain ⟨x_3, e3, p3_0⟩ := Y3 (d := d + 0) (hf _ (List.Mem.tail _ (List.Mem.tail _ (List.Mem.tail _ (List.Mem.head _)))))
  exact ⟨x_0, x_1, x_2, x_3, e.trans (cat2 e0 (cat2 e1 (cat2 e2 (cat2 e3 (rfl))))), p0_0, p1_0, p2_0, p3_0⟩
theorem Y36 {M : Mem} {d : Nat} {cs : List Value} (h : Lays P M (d + 2) 36 cs) : ∃ (x_0 : Int) (x_1 : Int) (x_2 : Int) (x_3 : Int), cs = [.int .i64 x_0, .int .i64 x_1, .int .i64 x_2, .int .i64 x_3] ∧ (Lit.int .i64 x_0).wf = true ∧ (Lit.int .i64 x_1).wf = true ∧ (Lit.int .i64 x_2).wf = true ∧ (Lit.int .i64 x_3).wf = true := by
  obtain ⟨e, hf⟩ := lays_items (n := 4) (z := 1) Go.Proofs.Try.underlying36 (by kernel_rfl) (by kernel_rfl) h
  obtain ⟨x_0, e0, p0_0⟩ := Y3 (d := d + 0) (hf 0 (by decide))
  obtain ⟨x_1, e1, p1_0⟩ := Y3 (d := d + 0) (hf 1 (by decide))
  obtain ⟨x_2, e2, p2_0⟩ := Y3 (d := d + 0) (hf 2 (by decide))
  obtain ⟨x_3, e3, p3_0⟩ := Y3 (d := d + 0) (hf 3 (by decide))
  exact ⟨x_0, x_1, x_2, x_3, e.trans (cat2 e0 (cat2 e1 (cat2 e2 (cat2 e3 (rfl))))), p0_0, p1_0, p2_0, p3_0⟩
theorem Y5 {M : Mem} {d : Nat} {cs : List Value} (h : Lays P M (d + 1) 5 cs) : ∃ (x : Int), cs = [.int .u8 x] ∧ (Lit.int .u8 x).wf = true := lays_int Go.Proofs.Try.underlying5 h
theorem Y46 {M : Mem} {d : Nat} {cs : List Value} (h : Lays P M (d + 4) 46 cs) : ∃ (x_0_0 : Int) (x_1_0 : Int) (A_2_0 : Option Addr) (c_2_0 : Nat) (l_2_0 : List Int) (x_0_1 : Int) (x_1_1 : Int) (A_2_1 : Option Addr) (c_2_1 : Nat) (l_2_1 : List Int) (x_0_2 : Int) (x_1_2 : Int) (A_2_2 : Option Addr) (c_2_2 : Nat) (l_2_2 : List Int), cs = [.int .i64 x_0_0, .int .i64 x_1_0, .slice A_2_0 l_2_0.length c_2_0, .int .i64 x_0_1, .int .i64 x_1_1, .slice A_2_1 l_2_1.length c_2_1, .int .i64 x_0_2, .int .i64 x_1_2, .slice A_2_2 l_2_2.length c_2_2] ∧ (Lit.int .i64 x_0_0).wf = true ∧ (Lit.int .i64 x_1_0).wf = true ∧ l_2_0.length ≤ c_2_0 ∧ l_2_0.length * 1 ≤ 140737488351232 ∧ RdI M .u8 A_2_0 l_2_0 ∧ (∀ x ∈ l_2_0, (Lit.int .u8 x).wf = true) ∧ (Lit.int .i64 x_0_1).wf = true ∧ (Lit.int .i64 x_1_1).wf = true ∧ l_2_1.length ≤ c_2_1 ∧ l_2_1.length * 1 ≤ 140737488351232 ∧ RdI M .u8 A_2_1 l_2_1 ∧ (∀ x ∈ l_2_1, (Lit.int .u8 x).wf = true) ∧ (Lit.int .i64 x_0_2).wf = true ∧ (Lit.int .i64 x_1_2).wf = true ∧ l_2_2.length ≤ c_2_2 ∧ l_2_2.length * 1 ≤ 140737488351232 ∧ RdI M .u8 A_2_2 l_2_2 ∧ (∀ x ∈ l_2_2, (Lit.int .u8 x).wf = true) := by
  obtain ⟨e, hf⟩ := lays_items (n := 3) (z := 3) Go.Proofs.Try.underlying46 (by kernel_rfl) (by kernel_rfl) h
  obtain ⟨x_0_0, x_1_0, A_2_0, c_2_0, l_2_0, e0, p0_0, p0_1, p0_2, p0_3, p0_4, p0_5⟩ := Y33 (d := d + 0) (hf 0 (by decide))
  obtain ⟨x_0_1, x_1_1, A_2_1, c_2_1, l_2_1, e1, p1_0, p1_1, p1_2, p1_3, p1_4, p1_5⟩ := Y33 (d := d + 0) (hf 1 (by decide))
  obtain ⟨x_0_2, x_1_2, A_2_2, c_2_2, l_2_2, e2, p2_0, p2_1, p2_2, p2_3, p2_4, p2_5⟩ := Y33 (d := d + 0) (hf 2 (by decide))
  exact ⟨x_0_0, x_1_0, A_2_0, c_2_0, l_2_0, x_0_1, x_1_1, A_2_1, c_2_1, l_2_1, x_0_2, x_1_2, A_2_2, c_2_2, l_2_2, e.trans (cat2 e0 (cat2 e1 (cat2 e2 (rfl)))), p0_0, p0_1, p0_2, p0_3, p0_4, p0_5, p1_0, p1_1, p1_2, p1_3, p1_4, p1_5, p2_0, p2_1, p2_2, p2_3, p2_4, p2_5⟩
theorem Y48 {M : Mem} {d : Nat} {cs : List Value} (h : Lays P M (d + 5) 48 cs) : ∃ (x_0_0_0 : Int) (x_1_0_0 : Int) (A_2_0_0 : Option Addr) (c_2_0_0 : Nat) (l_2_0_0 : List Int) (x_0_1_0 : Int) (x_1_1_0 : Int) (A_2_1_0 : Option Addr) (c_2_1_0 : Nat) (l_2_1_0 : List Int) (x_0_2_0 : Int) (x_1_2_0 : Int) (A_2_2_0 : Option Addr) (c_2_2_0 : Nat) (l_2_2_0 : List Int), cs = [.int .i64 x_0_0_0, .int .i64 x_1_0_0, .slice A_2_0_0 l_2_0_0.length c_2_0_0, .int .i64 x_0_1_0, .int .i64 x_1_1_0, .slice A_2_1_0 l_2_1_0.length c_2_1_0, .int .i64 x_0_2_0, .int .i64 x_1_2_0, .slice A_2_2_0 l_2_2_0.length c_2_2_0] ∧ (Lit.int .i64 x_0_0_0).wf = true ∧ (Lit.int .i64 x_1_0_0).wf = true ∧ l_2_0_0.length ≤ c_2_0_0 ∧ l_2_0_0.length * 1 ≤ 140737488351232 ∧ RdI M .u8 A_2_0_0 l_2_0_0 ∧ (∀ x ∈ l_2_0_0, (Lit.int .u8 x).wf = true) ∧ (Lit.int .i64 x_0_1_0).wf = true ∧ (Lit.int .i64 x_1_1_0).wf = true ∧ l_2_1_0.length ≤ c_2_1_0 ∧ l_2_1_0.length * 1 ≤ 140737488351232 ∧ RdI M .u8 A_2_1_0 l_2_1_0 ∧ (∀ x ∈ l_2_1_0, (Lit.int .u8 x).wf = true) ∧ (Lit.int .i64 x_0_2_0).wf = true ∧ (Lit.int .i64 x_1_2_0).wf = true ∧ l_2_2_0.length ≤ c_2_2_0 ∧ l_2_2_0.length * 1 ≤ 140737488351232 ∧ RdI M .u8 A_2_2_0 l_2_2_0 ∧ (∀ x ∈ l_2_2_0, (Lit.int .u8 x).wf = true) := by
  obtain ⟨e, hf⟩ := lays_fields (g := fun _ => true) Go.Proofs.Try.underlying48 (by kernel_rfl) h
  obtain ⟨x_0_0_0, x_1_0_0, A_2_0_0, c_2_0_0, l_2_0_0, x_0_1_0, x_1_1_0, A_2_1_0, c_2_1_0, l_2_1_0, x_0_2_0, x_1_2_0, A_2_2_0, c_2_2_0, l_2_2_0, e0, p0_0, p0_1, p0_2, p0_3, p0_4, p0_5, p0_6, p0_7, p0_8, p0_9, p0_10, p0_11, p0_12, p0_13, p0_14, p0_15, p0_16, p0_17⟩ := Y46 (d := d + 0) (hf _ (List.Mem.head _))
  exact ⟨x_0_0_0, x_1_0_0, A_2_0_0, c_2_0_0, l_2_0_0, x_0_1_0, x_1_1_0, A_2_1_0, c_2_1_0, l_2_1_0, x_0_2_0, x_1_2_0, A_2_2_0, c_2_2_0, l_2_2_0, e.trans (cat2 e0 (rfl)), p0_0, p0_1, p0_2, p0_3, p0_4, p0_5, p0_6, p0_7, p0_8, p0_9, p0_10, p0_11, p0_12, p0_13, p0_14, p0_15, p0_16, p0_17⟩
theorem Y49 {M : Mem} {d : Nat} {cs : List Value} (h : Lays P M (d + 2) 49 cs) : ∃ (A : Option Addr) (c : Nat) (l : List Bool), cs = [.slice A l.length c] ∧ l.length ≤ c ∧ l.length * 1 ≤ 140737488351232 ∧ RdB M A l := lays_bools Go.Proofs.Try.underlying49 Go.Proofs.Try.underlying4 (by kernel_rfl) (by kernel_rfl) h
theorem Y50 {M : Mem} {d : Nat} {cs : List Value} (h : Lays P M (d + 2) 50 cs) : ∃ (A : Option Addr) (c : Nat) (l : List Int), cs = [.slice A l.length c] ∧ l.length ≤ c ∧ l.length * 8 ≤ 140737488351232 ∧ RdI M .i64 A l ∧ (∀ x ∈ l, (Lit.int .i64 x).wf = true) := lays_ints Go.Proofs.Try.underlying50 Go.Proofs.Try.underlying3 (by kernel_rfl) (by kernel_rfl) h
theorem Y52 {M : Mem} {d : Nat} {cs : List Value} (h : Lays P M (d + 3) 52 cs) : ∃ (A_0 : Option Addr) (c_0 : Nat) (l_0 : List Bool) (A_1 : Option Addr) (c_1 : Nat) (l_1 : List Int), cs = [.slice A_0 l_0.length c_0, .slice A_1 l_1.length c_1] ∧ l_0.length ≤ c_0 ∧ l_0.length * 1 ≤ 140737488351232 ∧ RdB M A_0 l_0 ∧ l_1.length ≤ c_1 ∧ l_1.length * 8 ≤ 140737488351232 ∧ RdI M .i64 A_1 l_1 ∧ (∀ x ∈ l_1, (Lit.int .i64 x).wf = true) := by
  obtain ⟨e, hf⟩ := lays_fields (g := fun _ => true) Go.Proofs.Try.underlying52 (by kernel_rfl) h
  obtain ⟨A_0, c_0, l_0, e0, p0_0, p0_1, p0_2⟩ := Y49 (d := d + 0) (hf _ (List.Mem.head _))
  obtain ⟨A_1, c_1, l_1, e1, p1_0, p1_1, p1_2, p1_3⟩ := Y50 (d := d + 0) (hf _ (List.Mem.tail _ (List.Mem.head _)))
  exact ⟨A_0, c_0, l_0, A_1, c_1, l_1, e.trans (cat2 e0 (cat2 e1 (rfl))), p0_0, p0_1, p0_2, p1_0, p1_1, p1_2, p1_3⟩
theorem Y4 {M : Mem} {d : Nat} {cs : List Value} (h : Lays P M (d + 1) 4 cs) : ∃ (b : Bool), cs = [.bool b] := lays_bool Go.Proofs.Try.underlying4 h
theorem Y53 {M : Mem} {d : Nat} {cs : List Value} (h : Lays P M (d + 2) 53 cs) : ∃ (x_0 : Int) (x_1 : Int) (x_2 : Int) (x_3 : Int) (x_4 : Int), cs = [.int .i64 x_0, .int .i64 x_1, .int .i64 x_2, .int .i64 x_3, .int .i64 x_4] ∧ (Lit.int .i64 x_0).wf = true ∧ (Lit.int .i64 x_1).wf = true ∧ (Lit.int .i64 x_2).wf = true ∧ (Lit.int .i64 x_3).wf = true ∧ (Lit.int .i64 x_4).wf = true := by
  obtain ⟨e, hf⟩ := lays_items (n := 5) (z := 1) Go.Proofs.Try.underlying53 (by kernel_rfl) (by kernel_rfl) h
  obtain ⟨x_0, e0, p0_0⟩ := Y3 (d := d + 0) (hf 0 (by decide))
  obtain ⟨x_1, e1, p1_0⟩ := Y3 (d := d + 0) (hf 1 (by decide))
  obtain ⟨x_2, e2, p2_0⟩ := Y3 (d := d + 0) (hf 2 (by decide))
  obtain ⟨x_3, e3, p3_0⟩ := Y3 (d := d + 0) (hf 3 (by decide))
  obtain ⟨x_4, e4, p4_0⟩ := Y3 (d := d + 0) (hf 4 (by decide))
  exact ⟨x_0, x_1, x_2, x_3, x_4, e.trans (cat2 e0 (cat2 e1 (cat2 e2 (cat2 e3 (cat2 e4 (rfl)))))), p0_0, p1_0, p2_0, p3_0, p4_0⟩
theorem Y71 {M : Mem} {d : Nat} {cs : List Value} (h : Lays P M (d + 2) 71 cs) : ∃ (x_0 : Int) (x_1 : Int) (x_2 : Int) (x_3 : Int), cs = [.int .i64 x_0, .int .i64 x_1, .int .i64 x_2, .int .i64 x_3] ∧ (Lit.int .i64 x_0).wf = true ∧ (Lit.int .i64 x_1).wf = true ∧ (Lit.int .i64 x_2).wf = true ∧ (Lit.int .i64 x_3).wf = true := by
  obtain ⟨e, hf⟩ := lays_fields (g := fun _ => true) Go.Proofs.Try.underlying71 (by kernel_rfl) h
  obtain ⟨x_0, e0, p0_0⟩ := Y3 (d := d + 0) (hf _ (List.Mem.head _))
  obtain ⟨x_1, e1, p1_0⟩ := Y3 (d := d + 0) (hf _ (List.Mem.tail _ (List.Mem.head _)))
  obtain ⟨x_2, e2, p2_0⟩ := Y3 (d := d + 0) (hf _ (List.Mem.tail _ (List.Mem.tail _ (List.Mem.head _))))
  obtain ⟨x_3, e3, p3_0⟩ := Y3 (d := d + 0) (hf _ (List.Mem.tail _ (List.Mem.tail _ (List.Mem.tail _ (List.Mem.head _)))))
  exact ⟨x_0, x_1, x_2, x_3, e.trans (cat2 e0 (cat2 e1 (cat2 e2 (cat2 e3 (rfl))))), p0_0, p1_0, p2_0, p3_0⟩
theorem Y54 {M : Mem} {d : Nat} {cs : List Value} (h : Lays P M (d + 3) 54 cs) : ∃ (A : Option Addr) (n : Nat) (c : Nat) (v : List Value), cs = [.slice A n c] ∧ n ≤ c ∧ n * 32 ≤ 140737488351232 ∧ Rd M A n 4 v ∧ (∀ i, i < n → Lays P M (d + 2) 71 ((v.drop (i * 4)).take 4)) := lays_slice Go.Proofs.Try.underlying54 (by kernel_rfl) (by kernel_rfl) h
theorem Y55 {M : Mem} {d : Nat} {cs : List Value} (h : Lays P M (d + 2) 55 cs) : ∃ (b_0 : Bool) (b_1 : Bool) (b_2 : Bool), cs = [.bool b_0, .bool b_1, .bool b_2] := by
  obtain ⟨e, hf⟩ := lays_items (n := 3) (z := 1) Go.Proofs.Try.underlying55 (by kernel_rfl) (by kernel_rfl) h
  obtain ⟨b_0, e0⟩ := Y4 (d := d + 0) (hf 0 (by decide))
  obtain ⟨b_1, e1⟩ := Y4 (d := d + 0) (hf 1 (by decide))
  obtain ⟨b_2, e2⟩ := Y4 (d := d + 0) (hf 2 (by decide))
  exact ⟨b_0, b_1, b_2, e.trans (cat2 e0 (cat2 e1 (cat2 e2 (rfl))))⟩
theorem Y57 {M : Mem} {d : Nat} {cs : List Value} (h : Lays P M (d + 4) 57 cs) : ∃ (b_0 : Bool) (x_1 : Int) (b_2 : Bool) (b_3 : Bool) (x_4 : Int) (x_0_5 : Int) (x_1_5 : Int) (x_2_5 : Int) (x_6 : Int) (x_7 : Int) (x_0_8 : Int) (x_1_8 : Int) (x_2_8 : Int) (x_3_8 : Int) (x_4_8 : Int) (x_9 : Int) (x_10 : Int) (b_11 : Bool) (x_0_12 : Int) (x_1_12 : Int) (x_2_12 : Int) (x_3_12 : Int) (x_13 : Int) (b_14 : Bool) (x_15 : Int) (x_16 : Int) (A_17 : Option Addr) (n_17 : Nat) (c_17 : Nat) (v_17 : List Value) (b_0_18 : Bool) (b_1_18 : Bool) (b_2_18 : Bool), cs = [.bool b_0, .int .i64 x_1, .bool b_2, .bool b_3, .int .i64 x_4, .int .i64 x_0_5, .int .i64 x_1_5, .int .i64 x_2_5, .int .i64 x_6, .int .i64 x_7, .int .i64 x_0_8, .int .i64 x_1_8, .int .i64 x_2_8, .int .i64 x_3_8, .int .i64 x_4_8, .int .i64 x_9, .int .i64 x_10, .bool b_11, .int .i64 x_0_12, .int .i64 x_1_12, .int .i64 x_2_12, .int .i64 x_3_12, .int .i64 x_13, .bool b_14, .int .i64 x_15, .int .i64 x_16, .slice A_17 n_17 c_17, .bool b_0_18, .bool b_1_18, .bool b_2_18] ∧ (Lit.int .i64 x_1).wf = true ∧ (Lit.int .i64 x_4).wf = true ∧ (Lit.int .i64 x_0_5).wf = true ∧ (Lit.int .i64 x_1_5).wf = true ∧ (Lit.int .i64 x_2_5).wf = true ∧ (Lit.int .i64 x_6).wf = true ∧ (Lit.int .i64 x_7).wf = true ∧ (Lit.int .i64 x_0_8).wf = true ∧ (Lit.int .i64 x_1_8).wf = true ∧ (Lit.int .i64 x_2_8).wf = true ∧ (Lit.int .i64 x_3_8).wf = true ∧ (Lit.int .i64 x_4_8).wf = true ∧ (Lit.int .i64 x_9).wf = true ∧ (Lit.int .i64 x_10).wf = true ∧ (Lit.int .i64 x_0_12).wf = true ∧ (Lit.int .i64 x_1_12).wf = true ∧ (Lit.int .i64 x_2_12).wf = true ∧ (Lit.int .i64 x_3_12).wf = true ∧ (Lit.int .i64 x_13).wf = true ∧ (Lit.int .i64 x_15).wf = true ∧ (Lit.int .i64 x_16).wf = true ∧ n_17 ≤ c_17 ∧ n_17 * 32 ≤ 140737488351232 ∧ Rd M A_17 n_17 4 v_17 ∧ (∀ i, i < n_17 → Lays P M (d + 2) 71 ((v_17.drop (i * 4)).take 4)) := by
  obtain ⟨e, hf⟩ := lays_fields (g := fun _ => true) Go.Proofs.Try.underlying57 (by kernel_rfl) h
  obtain ⟨b_0, e0⟩ := Y4 (d := d + 2) (hf _ (List.Mem.head _))
  obtain ⟨x_1, e1, p1_0⟩ := Y3 (d := d + 2) (hf _ (List.Mem.tail _ (List.Mem.head _)))
  obtain ⟨b_2, e2⟩ := Y4 (d := d + 2) (hf _ (List.Mem.tail _ (List.Mem.tail _ (List.Mem.head _))))
  obtain ⟨b_3, e3⟩ := Y4 (d := d + 2) (hf _ (List.Mem.tail _ (List.Mem.tail _ (List.Mem.tail _ (List.Mem.head _)))))
  obtain ⟨x_4, e4, p4_0⟩ := Y3 (d := d + 2) (hf _ (List.Mem.tail _ (List.Mem.tail _ (List.Mem.tail _ (List.Mem.tail _ (List.Mem.head _))))))
  obtain ⟨x_0_5, x_1_5, x_2_5, e5, p5_0, p5_1, p5_2⟩ := Y23 (d := d + 1) (hf _ (List.Mem.tail _ (List.Mem.tail _ (List.Mem.tail _ (List.Mem.tail _ (List.Mem.tail _ (List.Mem.head _)))))))
  obtain ⟨x_6, e6, p6_0⟩ := Y3 (d := d + 2) (hf _ (List.Mem.tail _ (List.Mem.tail _ (List.Mem.tail _ (List.Mem.tail _ (List.Mem.tail _ (List.Mem.tail _ (List.Mem.head _))))))))
  obtain ⟨x_7, e7, p7_0⟩ := Y3 (d := d + 2) (hf _ (List.Mem.tail _ (List.Mem.tail _ (List.Mem.tail _ (List.Mem.tail _ (List.Mem.tail _ (List.Mem.tail _ (List.Mem.tail _ (List.Mem.head _)))))))))
  obtain ⟨x_0_8, x_1_8, x_2_8, x_3_8, x_4_8, e8, p8_0, p8_1, p8_2, p8_3, p8_4⟩ := Y53 (d := d + 1) (hf _ (List.Mem.tail _ (List.Mem.tail _ (List.Mem.tail _ (List.Mem.tail _ (List.Mem.tail _ (List.Mem.tail _ (List.Mem.tail _ (List.Mem.tail _ (List.Mem.head _))))))))))
  obtain ⟨x_9, e9, p9_0⟩ := Y3 (d := d + 2) (hf _ (List.Mem.tail _ (List.Mem.tail _ (List.Mem.tail _ (List.Mem.tail _ (List.Mem.tail _ (List.Mem.tail _ (List.Mem.tail _ (List.Mem.tail _ (List.Mem.tail _ (List.Mem.head _)))))))))))
  obtain ⟨x_10, e10, p10_0⟩ := Y3 (d := d + 2) (hf _ (List.Mem.tail _ (List.Mem.tail _ (List.Mem.tail _ (List.Mem.tail _ (List.Mem.tail _ (List.Mem.tail _ (List.Mem.tail _ (List.Mem.tail _ (List.Mem.tail _ (List.Mem.tail _ (List.Mem.head _))))))))))))
  obtain ⟨b_11, e11⟩ := Y4 (d := d + 2) (hf _ (List.Mem.tail _ (List.Mem.tail _ (List.Mem.tail _ (List.Mem.tail _ (List.Mem.tail _ (List.Mem.tail _ (List.Mem.tail _ (List.Mem.tail _ (List.Mem.tail _ (List.Mem.tail _ (List.Mem.tail _ (List.Mem.head _)))))))))))))
  obtain ⟨x_0_12, x_1_12, x_2_12, x_3_12, e12, p12_0, p12_1, p12_2, p12_3⟩ := Y36 (d := d + 1) (hf _ (List.Mem.tail _ (List.Mem.tail _ (List.Mem.tail _ (List.Mem.tail _ (List.Mem.tail _ (List.Mem.tail _ (List.Mem.tail _ (List.Mem.tail _ (List.Mem.tail _ (List.Mem.tail _ (List.Mem.tail _ (List.Mem.tail _ (List.Mem.head _))))))))))))))
  obtain ⟨x_13, e13, p13_0⟩ := Y3 (d := d + 2) (hf _ (List.Mem.tail _ (List.Mem.tail _ (List.Mem.tail _ (List.Mem.tail _ (List.Mem.tail _ (List.Mem.tail _ (List.Mem.tail _ (List.Mem.tail _ (List.Mem.tail _ (List.Mem.tail _ (List.Mem.tail _ (List.Mem.tail _ (List.Mem.tail _ (List.Mem.head _)))))))))))))))
  obtain ⟨b_14, e14⟩ := Y4 (d := d + 2) (hf _ (List.Mem.tail _ (List.Mem.tail _ (List.Mem.tail _ (List.Mem.tail _ (List.Mem.tail _ (List.Mem.tail _ (List.Mem.tail _ (List.Mem.tail _ (List.Mem.tail _ (List.Mem.tail _ (List.Mem.tail _ (List.Mem.tail _ (List.Mem.tail _ (List.Mem.tail _ (List.Mem.head _))))))))))))))))
  obtain ⟨x_15, e15, p15_0⟩ := Y3 (d := d + 2) (hf _ (List.Mem.tail _ (List.Mem.tail _ (List.Mem.tail _ (List.Mem.tail _ (List.Mem.tail _ (List.Mem.tail _ (List.Mem.tail _ (List.Mem.tail _ (List.Mem.tail _ (List.Mem.tail _ (List.Mem.tail _ (List.Mem.tail _ (List.Mem.tail _ (List.Mem.tail _ (List.Mem.tail _ (List.Mem.head _)))))))))))))))))
  obtain ⟨x_16, e16, p16_0⟩ := Y3 (d := d + 2) (hf _ (List.Mem.tail _ (List.Mem.tail _ (List.Mem.tail _ (List.Mem.tail _ (List.Mem.tail _ (List.Mem.tail _ (List.Mem.tail _ (List.Mem.tail _ (List.Mem.tail _ (List.Mem.tail _ (List.Mem.tail _ (List.Mem.tail _ (List.Mem.tail _ (List.Mem.tail _ (List.Mem.tail _ (List.Mem.tail _ (List.Mem.head _))))))))))))))))))
  obtain ⟨A_17, n_17, c_17, v_17, e17, p17_0, p17_1, p17_2, p17_3⟩ := Y54 (d := d + 0) (hf _ (List.Mem.tail _ (List.Mem.tail _ (List.Mem.tail _ (List.Mem.tail _ (List.Mem.tail _ (List.Mem.tail _ (List.Mem.tail _ (List.Mem.tail _ (List.Mem.tail _ (List.Mem.tail _ (List.Mem.tail _ (List.Mem.tail _ (List.Mem.tail _ (List.Mem.tail _ (List.Mem.tail _ (List.Mem.tail _ (List.Mem.tail _ (List.Mem.head _)))))))))))))))))))
  obtain ⟨b_0_18, b_1_18, b_2_18, e18⟩ := Y55 (d := d + 1) (hf _ (List.Mem.tail _ (List.Mem.tail _ (List.Mem.tail _ (List.Mem.tail _ (List.Mem.tail _ (List.Mem.tail _ (List.Mem.tail _ (List.Mem.tail _ (List.Mem.tail _ (List.Mem.tail _ (List.Mem.tail _ (List.Mem.tail _ (List.Mem.tail _ (List.Mem.tail _ (List.Mem.tail _ (List.Mem.tail _ (List.Mem.tail _ (List.Mem.tail _ (List.Mem.head _))))))))))))))))))))
  exact ⟨b_0, x_1, b_2, b_3, x_4, x_0_5, x_1_5, x_2_5, x_6, x_7, x_0_8, x_1_8, x_2_8, x_3_8, x_4_8, x_9, x_10, b_11, x_0_12, x_1_12, x_2_12, x_3_12, x_13, b_14, x_15, x_16, A_17, n_17, c_17, v_17, b_0_18, b_1_18, b_2_18, e.trans (cat2 e0 (cat2 e1 (cat2 e2 (cat2 e3 (cat2 e4 (cat2 e5 (cat2 e6 (cat2 e7 (cat2 e8 (cat2 e9 (cat2 e10 (cat2 e11 (cat2 e12 (cat2 e13 (cat2 e14 (cat2 e15 (cat2 e16 (cat2 e17 (cat2 e18 (rfl)))))))))))))))))))), p1_0, p4_0, p5_0, p5_1, p5_2, p6_0, p7_0, p8_0, p8_1, p8_2, p8_3, p8_4, p9_0, p10_0, p12_0, p12_1, p12_2, p12_3, p13_0, p15_0, p16_0, p17_0, p17_1, p17_2, p17_3⟩
theorem Arg.CdefDirections {M : Mem} {vs : List Value} (h : LaysArgs P M [22, 23] vs) : ∃ (A_0 : Option Addr) (c_0 : Nat) (l_0 : List Int) (x_0_1 : Int) (x_1_1 : Int) (x_2_1 : Int), vs = [.slice A_0 l_0.length c_0, .agg ⟨[.int .i64 x_0_1, .int .i64 x_1_1, .int .i64 x_2_1]⟩] ∧ l_0.length ≤ c_0 ∧ l_0.length * 1 ≤ 140737488351232 ∧ RdI M .u8 A_0 l_0 ∧ (∀ x ∈ l_0, (Lit.int .u8 x).wf = true) ∧ (Lit.int .i64 x_0_1).wf = true ∧ (Lit.int .i64 x_1_1).wf = true ∧ (Lit.int .i64 x_2_1).wf = true := by
  obtain ⟨v0, r0, rfl, h0, k0⟩ := args_cons h
  obtain ⟨A_0, c_0, l_0, e0, p0_0, p0_1, p0_2, p0_3⟩ := Y22 (d := 6) (arg_one (by kernel_rfl) h0)
  cases e0
  obtain ⟨v1, r1, rfl, h1, k1⟩ := args_cons k0
  obtain ⟨acs1, rfl, g1⟩ := arg_agg (by kernel_rfl) h1
  obtain ⟨x_0_1, x_1_1, x_2_1, e1, p1_0, p1_1, p1_2⟩ := Y23 (d := 6) g1
  subst e1
  obtain rfl := args_nil k1
  exact ⟨A_0, c_0, l_0, x_0_1, x_1_1, x_2_1, rfl, p0_0, p0_1, p0_2, p0_3, p1_0, p1_1, p1_2⟩
theorem Arg.CdefBlocks {M : Mem} {vs : List Value} (h : LaysArgs P M [33, 35, 36] vs) : ∃ (x_0_0 : Int) (x_1_0 : Int) (A_2_0 : Option Addr) (c_2_0 : Nat) (l_2_0 : List Int) (x_0_1 : Int) (x_1_1 : Int) (x_2_1 : Int) (x_3_1 : Int) (x_0_2 : Int) (x_1_2 : Int) (x_2_2 : Int) (x_3_2 : Int), vs = [.agg ⟨[.int .i64 x_0_0, .int .i64 x_1_0, .slice A_2_0 l_2_0.length c_2_0]⟩, .agg ⟨[.int .i64 x_0_1, .int .i64 x_1_1, .int .i64 x_2_1, .int .i64 x_3_1]⟩, .agg ⟨[.int .i64 x_0_2, .int .i64 x_1_2, .int .i64 x_2_2, .int .i64 x_3_2]⟩] ∧ (Lit.int .i64 x_0_0).wf = true ∧ (Lit.int .i64 x_1_0).wf = true ∧ l_2_0.length ≤ c_2_0 ∧ l_2_0.length * 1 ≤ 140737488351232 ∧ RdI M .u8 A_2_0 l_2_0 ∧ (∀ x ∈ l_2_0, (Lit.int .u8 x).wf = true) ∧ (Lit.int .i64 x_0_1).wf = true ∧ (Lit.int .i64 x_1_1).wf = true ∧ (Lit.int .i64 x_2_1).wf = true ∧ (Lit.int .i64 x_3_1).wf = true ∧ (Lit.int .i64 x_0_2).wf = true ∧ (Lit.int .i64 x_1_2).wf = true ∧ (Lit.int .i64 x_2_2).wf = true ∧ (Lit.int .i64 x_3_2).wf = true := by
  obtain ⟨v0, r0, rfl, h0, k0⟩ := args_cons h
  obtain ⟨acs0, rfl, g0⟩ := arg_agg (by kernel_rfl) h0
  obtain ⟨x_0_0, x_1_0, A_2_0, c_2_0, l_2_0, e0, p0_0, p0_1, p0_2, p0_3, p0_4, p0_5⟩ := Y33 (d := 5) g0
  subst e0
  obtain ⟨v1, r1, rfl, h1, k1⟩ := args_cons k0
  obtain ⟨acs1, rfl, g1⟩ := arg_agg (by kernel_rfl) h1
  obtain ⟨x_0_1, x_1_1, x_2_1, x_3_1, e1, p1_0, p1_1, p1_2, p1_3⟩ := Y35 (d := 6) g1
  subst e1
  obtain ⟨v2, r2, rfl, h2, k2⟩ := args_cons k1
  obtain ⟨acs2, rfl, g2⟩ := arg_agg (by kernel_rfl) h2
  obtain ⟨x_0_2, x_1_2, x_2_2, x_3_2, e2, p2_0, p2_1, p2_2, p2_3⟩ := Y36 (d := 6) g2
  subst e2
  obtain rfl := args_nil k2
  exact ⟨x_0_0, x_1_0, A_2_0, c_2_0, l_2_0, x_0_1, x_1_1, x_2_1, x_3_1, x_0_2, x_1_2, x_2_2, x_3_2, rfl, p0_0, p0_1, p0_2, p0_3, p0_4, p0_5, p1_0, p1_1, p1_2, p1_3, p2_0, p2_1, p2_2, p2_3⟩
theorem Arg.CdefBetween {M : Mem} {vs : List Value} (h : LaysArgs P M [33, 35, 36] vs) : ∃ (x_0_0 : Int) (x_1_0 : Int) (A_2_0 : Option Addr) (c_2_0 : Nat) (l_2_0 : List Int) (x_0_1 : Int) (x_1_1 : Int) (x_2_1 : Int) (x_3_1 : Int) (x_0_2 : Int) (x_1_2 : Int) (x_2_2 : Int) (x_3_2 : Int), vs = [.agg ⟨[.int .i64 x_0_0, .int .i64 x_1_0, .slice A_2_0 l_2_0.length c_2_0]⟩, .agg ⟨[.int .i64 x_0_1, .int .i64 x_1_1, .int .i64 x_2_1, .int .i64 x_3_1]⟩, .agg ⟨[.int .i64 x_0_2, .int .i64 x_1_2, .int .i64 x_2_2, .int .i64 x_3_2]⟩] ∧ (Lit.int .i64 x_0_0).wf = true ∧ (Lit.int .i64 x_1_0).wf = true ∧ l_2_0.length ≤ c_2_0 ∧ l_2_0.length * 1 ≤ 140737488351232 ∧ RdI M .u8 A_2_0 l_2_0 ∧ (∀ x ∈ l_2_0, (Lit.int .u8 x).wf = true) ∧ (Lit.int .i64 x_0_1).wf = true ∧ (Lit.int .i64 x_1_1).wf = true ∧ (Lit.int .i64 x_2_1).wf = true ∧ (Lit.int .i64 x_3_1).wf = true ∧ (Lit.int .i64 x_0_2).wf = true ∧ (Lit.int .i64 x_1_2).wf = true ∧ (Lit.int .i64 x_2_2).wf = true ∧ (Lit.int .i64 x_3_2).wf = true := by
  obtain ⟨v0, r0, rfl, h0, k0⟩ := args_cons h
  obtain ⟨acs0, rfl, g0⟩ := arg_agg (by kernel_rfl) h0
  obtain ⟨x_0_0, x_1_0, A_2_0, c_2_0, l_2_0, e0, p0_0, p0_1, p0_2, p0_3, p0_4, p0_5⟩ := Y33 (d := 5) g0
  subst e0
  obtain ⟨v1, r1, rfl, h1, k1⟩ := args_cons k0
  obtain ⟨acs1, rfl, g1⟩ := arg_agg (by kernel_rfl) h1
  obtain ⟨x_0_1, x_1_1, x_2_1, x_3_1, e1, p1_0, p1_1, p1_2, p1_3⟩ := Y35 (d := 6) g1
  subst e1
  obtain ⟨v2, r2, rfl, h2, k2⟩ := args_cons k1
  obtain ⟨acs2, rfl, g2⟩ := arg_agg (by kernel_rfl) h2
  obtain ⟨x_0_2, x_1_2, x_2_2, x_3_2, e2, p2_0, p2_1, p2_2, p2_3⟩ := Y36 (d := 6) g2
  subst e2
  obtain rfl := args_nil k2
  exact ⟨x_0_0, x_1_0, A_2_0, c_2_0, l_2_0, x_0_1, x_1_1, x_2_1, x_3_1, x_0_2, x_1_2, x_2_2, x_3_2, rfl, p0_0, p0_1, p0_2, p0_3, p0_4, p0_5, p1_0, p1_1, p1_2, p1_3, p2_0, p2_1, p2_2, p2_3⟩
theorem Arg.CdefLimits {M : Mem} {vs : List Value} (h : LaysArgs P M [3, 3, 3] vs) : ∃ (x_0 : Int) (x_1 : Int) (x_2 : Int), vs = [.int .i64 x_0, .int .i64 x_1, .int .i64 x_2] ∧ (Lit.int .i64 x_0).wf = true ∧ (Lit.int .i64 x_1).wf = true ∧ (Lit.int .i64 x_2).wf = true := by
  obtain ⟨v0, r0, rfl, h0, k0⟩ := args_cons h
  obtain ⟨x_0, e0, p0_0⟩ := Y3 (d := 7) (arg_one (by kernel_rfl) h0)
  cases e0
  obtain ⟨v1, r1, rfl, h1, k1⟩ := args_cons k0
  obtain ⟨x_1, e1, p1_0⟩ := Y3 (d := 7) (arg_one (by kernel_rfl) h1)
  cases e1
  obtain ⟨v2, r2, rfl, h2, k2⟩ := args_cons k1
  obtain ⟨x_2, e2, p2_0⟩ := Y3 (d := 7) (arg_one (by kernel_rfl) h2)
  cases e2
  obtain rfl := args_nil k2
  exact ⟨x_0, x_1, x_2, rfl, p0_0, p1_0, p2_0⟩
theorem Arg.CdefStripes {M : Mem} {vs : List Value} (h : LaysArgs P M [5, 5] vs) : ∃ (x_0 : Int) (x_1 : Int), vs = [.int .u8 x_0, .int .u8 x_1] ∧ (Lit.int .u8 x_0).wf = true ∧ (Lit.int .u8 x_1).wf = true := by
  obtain ⟨v0, r0, rfl, h0, k0⟩ := args_cons h
  obtain ⟨x_0, e0, p0_0⟩ := Y5 (d := 7) (arg_one (by kernel_rfl) h0)
  cases e0
  obtain ⟨v1, r1, rfl, h1, k1⟩ := args_cons k0
  obtain ⟨x_1, e1, p1_0⟩ := Y5 (d := 7) (arg_one (by kernel_rfl) h1)
  cases e1
  obtain rfl := args_nil k1
  exact ⟨x_0, x_1, rfl, p0_0, p1_0⟩
theorem Arg.CdefFrames {M : Mem} {vs : List Value} (h : LaysArgs P M [48, 52, 57] vs) : ∃ (x_0_0_0_0 : Int) (x_1_0_0_0 : Int) (A_2_0_0_0 : Option Addr) (c_2_0_0_0 : Nat) (l_2_0_0_0 : List Int) (x_0_1_0_0 : Int) (x_1_1_0_0 : Int) (A_2_1_0_0 : Option Addr) (c_2_1_0_0 : Nat) (l_2_1_0_0 : List Int) (x_0_2_0_0 : Int) (x_1_2_0_0 : Int) (A_2_2_0_0 : Option Addr) (c_2_2_0_0 : Nat) (l_2_2_0_0 : List Int) (A_0_1 : Option Addr) (c_0_1 : Nat) (l_0_1 : List Bool) (A_1_1 : Option Addr) (c_1_1 : Nat) (l_1_1 : List Int) (b_0_2 : Bool) (x_1_2 : Int) (b_2_2 : Bool) (b_3_2 : Bool) (x_4_2 : Int) (x_0_5_2 : Int) (x_1_5_2 : Int) (x_2_5_2 : Int) (x_6_2 : Int) (x_7_2 : Int) (x_0_8_2 : Int) (x_1_8_2 : Int) (x_2_8_2 : Int) (x_3_8_2 : Int) (x_4_8_2 : Int) (x_9_2 : Int) (x_10_2 : Int) (b_11_2 : Bool) (x_0_12_2 : Int) (x_1_12_2 : Int) (x_2_12_2 : Int) (x_3_12_2 : Int) (x_13_2 : Int) (b_14_2 : Bool) (x_15_2 : Int) (x_16_2 : Int) (A_17_2 : Option Addr) (n_17_2 : Nat) (c_17_2 : Nat) (v_17_2 : List Value) (b_0_18_2 : Bool) (b_1_18_2 : Bool) (b_2_18_2 : Bool), vs = [.agg ⟨[.int .i64 x_0_0_0_0, .int .i64 x_1_0_0_0, .slice A_2_0_0_0 l_2_0_0_0.length c_2_0_0_0, .int .i64 x_0_1_0_0, .int .i64 x_1_1_0_0, .slice A_2_1_0_0 l_2_1_0_0.length c_2_1_0_0, .int .i64 x_0_2_0_0, .int .i64 x_1_2_0_0, .slice A_2_2_0_0 l_2_2_0_0.length c_2_2_0_0]⟩, .agg ⟨[.slice A_0_1 l_0_1.length c_0_1, .slice A_1_1 l_1_1.length c_1_1]⟩, .agg ⟨[.bool b_0_2, .int .i64 x_1_2, .bool b_2_2, .bool b_3_2, .int .i64 x_4_2, .int .i64 x_0_5_2, .int .i64 x_1_5_2, .int .i64 x_2_5_2, .int .i64 x_6_2, .int .i64 x_7_2, .int .i64 x_0_8_2, .int .i64 x_1_8_2, .int .i64 x_2_8_2, .int .i64 x_3_8_2, .int .i64 x_4_8_2, .int .i64 x_9_2, .int .i64 x_10_2, .bool b_11_2, .int .i64 x_0_12_2, .int .i64 x_1_12_2, .int .i64 x_2_12_2, .int .i64 x_3_12_2, .int .i64 x_13_2, .bool b_14_2, .int .i64 x_15_2, .int .i64 x_16_2, .slice A_17_2 n_17_2 c_17_2, .bool b_0_18_2, .bool b_1_18_2, .bool b_2_18_2]⟩] ∧ (Lit.int .i64 x_0_0_0_0).wf = true ∧ (Lit.int .i64 x_1_0_0_0).wf = true ∧ l_2_0_0_0.length ≤ c_2_0_0_0 ∧ l_2_0_0_0.length * 1 ≤ 140737488351232 ∧ RdI M .u8 A_2_0_0_0 l_2_0_0_0 ∧ (∀ x ∈ l_2_0_0_0, (Lit.int .u8 x).wf = true) ∧ (Lit.int .i64 x_0_1_0_0).wf = true ∧ (Lit.int .i64 x_1_1_0_0).wf = true ∧ l_2_1_0_0.length ≤ c_2_1_0_0 ∧ l_2_1_0_0.length * 1 ≤ 140737488351232 ∧ RdI M .u8 A_2_1_0_0 l_2_1_0_0 ∧ (∀ x ∈ l_2_1_0_0, (Lit.int .u8 x).wf = true) ∧ (Lit.int .i64 x_0_2_0_0).wf = true ∧ (Lit.int .i64 x_1_2_0_0).wf = true ∧ l_2_2_0_0.length ≤ c_2_2_0_0 ∧ l_2_2_0_0.length * 1 ≤ 140737488351232 ∧ RdI M .u8 A_2_2_0_0 l_2_2_0_0 ∧ (∀ x ∈ l_2_2_0_0, (Lit.int .u8 x).wf = true) ∧ l_0_1.length ≤ c_0_1 ∧ l_0_1.length * 1 ≤ 140737488351232 ∧ RdB M A_0_1 l_0_1 ∧ l_1_1.length ≤ c_1_1 ∧ l_1_1.length * 8 ≤ 140737488351232 ∧ RdI M .i64 A_1_1 l_1_1 ∧ (∀ x ∈ l_1_1, (Lit.int .i64 x).wf = true) ∧ (Lit.int .i64 x_1_2).wf = true ∧ (Lit.int .i64 x_4_2).wf = true ∧ (Lit.int .i64 x_0_5_2).wf = true ∧ (Lit.int .i64 x_1_5_2).wf = true ∧ (Lit.int .i64 x_2_5_2).wf = true ∧ (Lit.int .i64 x_6_2).wf = true ∧ (Lit.int .i64 x_7_2).wf = true ∧ (Lit.int .i64 x_0_8_2).wf = true ∧ (Lit.int .i64 x_1_8_2).wf = true ∧ (Lit.int .i64 x_2_8_2).wf = true ∧ (Lit.int .i64 x_3_8_2).wf = true ∧ (Lit.int .i64 x_4_8_2).wf = true ∧ (Lit.int .i64 x_9_2).wf = true ∧ (Lit.int .i64 x_10_2).wf = true ∧ (Lit.int .i64 x_0_12_2).wf = true ∧ (Lit.int .i64 x_1_12_2).wf = true ∧ (Lit.int .i64 x_2_12_2).wf = true ∧ (Lit.int .i64 x_3_12_2).wf = true ∧ (Lit.int .i64 x_13_2).wf = true ∧ (Lit.int .i64 x_15_2).wf = true ∧ (Lit.int .i64 x_16_2).wf = true ∧ n_17_2 ≤ c_17_2 ∧ n_17_2 * 32 ≤ 140737488351232 ∧ Rd M A_17_2 n_17_2 4 v_17_2 ∧ (∀ i, i < n_17_2 → Lays P M (4 + 2) 71 ((v_17_2.drop (i * 4)).take 4)) := by
  obtain ⟨v0, r0, rfl, h0, k0⟩ := args_cons h
  obtain ⟨acs0, rfl, g0⟩ := arg_agg (by kernel_rfl) h0
  obtain ⟨x_0_0_0_0, x_1_0_0_0, A_2_0_0_0, c_2_0_0_0, l_2_0_0_0, x_0_1_0_0, x_1_1_0_0, A_2_1_0_0, c_2_1_0_0, l_2_1_0_0, x_0_2_0_0, x_1_2_0_0, A_2_2_0_0, c_2_2_0_0, l_2_2_0_0, e0, p0_0, p0_1, p0_2, p0_3, p0_4, p0_5, p0_6, p0_7, p0_8, p0_9, p0_10, p0_11, p0_12, p0_13, p0_14, p0_15, p0_16, p0_17⟩ := Y48 (d := 3) g0
  subst e0
  obtain ⟨v1, r1, rfl, h1, k1⟩ := args_cons k0
  obtain ⟨acs1, rfl, g1⟩ := arg_agg (by kernel_rfl) h1
  obtain ⟨A_0_1, c_0_1, l_0_1, A_1_1, c_1_1, l_1_1, e1, p1_0, p1_1, p1_2, p1_3, p1_4, p1_5, p1_6⟩ := Y52 (d := 5) g1
  subst e1
  obtain ⟨v2, r2, rfl, h2, k2⟩ := args_cons k1
  obtain ⟨acs2, rfl, g2⟩ := arg_agg (by kernel_rfl) h2
  obtain ⟨b_0_2, x_1_2, b_2_2, b_3_2, x_4_2, x_0_5_2, x_1_5_2, x_2_5_2, x_6_2, x_7_2, x_0_8_2, x_1_8_2, x_2_8_2, x_3_8_2, x_4_8_2, x_9_2, x_10_2, b_11_2, x_0_12_2, x_1_12_2, x_2_12_2, x_3_12_2, x_13_2, b_14_2, x_15_2, x_16_2, A_17_2, n_17_2, c_17_2, v_17_2, b_0_18_2, b_1_18_2, b_2_18_2, e2, p2_0, p2_1, p2_2, p2_3, p2_4, p2_5, p2_6, p2_7, p2_8, p2_9, p2_10, p2_11, p2_12, p2_13, p2_14, p2_15, p2_16, p2_17, p2_18, p2_19, p2_20, p2_21, p2_22, p2_23, p2_24⟩ := Y57 (d := 4) g2
  subst e2
  obtain rfl := args_nil k2
  exact ⟨x_0_0_0_0, x_1_0_0_0, A_2_0_0_0, c_2_0_0_0, l_2_0_0_0, x_0_1_0_0, x_1_1_0_0, A_2_1_0_0, c_2_1_0_0, l_2_1_0_0, x_0_2_0_0, x_1_2_0_0, A_2_2_0_0, c_2_2_0_0, l_2_2_0_0, A_0_1, c_0_1, l_0_1, A_1_1, c_1_1, l_1_1, b_0_2, x_1_2, b_2_2, b_3_2, x_4_2, x_0_5_2, x_1_5_2, x_2_5_2, x_6_2, x_7_2, x_0_8_2, x_1_8_2, x_2_8_2, x_3_8_2, x_4_8_2, x_9_2, x_10_2, b_11_2, x_0_12_2, x_1_12_2, x_2_12_2, x_3_12_2, x_13_2, b_14_2, x_15_2, x_16_2, A_17_2, n_17_2, c_17_2, v_17_2, b_0_18_2, b_1_18_2, b_2_18_2, rfl, p0_0, p0_1, p0_2, p0_3, p0_4, p0_5, p0_6, p0_7, p0_8, p0_9, p0_10, p0_11, p0_12, p0_13, p0_14, p0_15, p0_16, p0_17, p1_0, p1_1, p1_2, p1_3, p1_4, p1_5, p1_6, p2_0, p2_1, p2_2, p2_3, p2_4, p2_5, p2_6, p2_7, p2_8, p2_9, p2_10, p2_11, p2_12, p2_13, p2_14, p2_15, p2_16, p2_17, p2_18, p2_19, p2_20, p2_21, p2_22, p2_23, p2_24⟩
theorem Arg.CdefStays {M : Mem} {vs : List Value} (h : LaysArgs P M [48, 52, 57] vs) : ∃ (x_0_0_0_0 : Int) (x_1_0_0_0 : Int) (A_2_0_0_0 : Option Addr) (c_2_0_0_0 : Nat) (l_2_0_0_0 : List Int) (x_0_1_0_0 : Int) (x_1_1_0_0 : Int) (A_2_1_0_0 : Option Addr) (c_2_1_0_0 : Nat) (l_2_1_0_0 : List Int) (x_0_2_0_0 : Int) (x_1_2_0_0 : Int) (A_2_2_0_0 : Option Addr) (c_2_2_0_0 : Nat) (l_2_2_0_0 : List Int) (A_0_1 : Option Addr) (c_0_1 : Nat) (l_0_1 : List Bool) (A_1_1 : Option Addr) (c_1_1 : Nat) (l_1_1 : List Int) (b_0_2 : Bool) (x_1_2 : Int) (b_2_2 : Bool) (b_3_2 : Bool) (x_4_2 : Int) (x_0_5_2 : Int) (x_1_5_2 : Int) (x_2_5_2 : Int) (x_6_2 : Int) (x_7_2 : Int) (x_0_8_2 : Int) (x_1_8_2 : Int) (x_2_8_2 : Int) (x_3_8_2 : Int) (x_4_8_2 : Int) (x_9_2 : Int) (x_10_2 : Int) (b_11_2 : Bool) (x_0_12_2 : Int) (x_1_12_2 : Int) (x_2_12_2 : Int) (x_3_12_2 : Int) (x_13_2 : Int) (b_14_2 : Bool) (x_15_2 : Int) (x_16_2 : Int) (A_17_2 : Option Addr) (n_17_2 : Nat) (c_17_2 : Nat) (v_17_2 : List Value) (b_0_18_2 : Bool) (b_1_18_2 : Bool) (b_2_18_2 : Bool), vs = [.agg ⟨[.int .i64 x_0_0_0_0, .int .i64 x_1_0_0_0, .slice A_2_0_0_0 l_2_0_0_0.length c_2_0_0_0, .int .i64 x_0_1_0_0, .int .i64 x_1_1_0_0, .slice A_2_1_0_0 l_2_1_0_0.length c_2_1_0_0, .int .i64 x_0_2_0_0, .int .i64 x_1_2_0_0, .slice A_2_2_0_0 l_2_2_0_0.length c_2_2_0_0]⟩, .agg ⟨[.slice A_0_1 l_0_1.length c_0_1, .slice A_1_1 l_1_1.length c_1_1]⟩, .agg ⟨[.bool b_0_2, .int .i64 x_1_2, .bool b_2_2, .bool b_3_2, .int .i64 x_4_2, .int .i64 x_0_5_2, .int .i64 x_1_5_2, .int .i64 x_2_5_2, .int .i64 x_6_2, .int .i64 x_7_2, .int .i64 x_0_8_2, .int .i64 x_1_8_2, .int .i64 x_2_8_2, .int .i64 x_3_8_2, .int .i64 x_4_8_2, .int .i64 x_9_2, .int .i64 x_10_2, .bool b_11_2, .int .i64 x_0_12_2, .int .i64 x_1_12_2, .int .i64 x_2_12_2, .int .i64 x_3_12_2, .int .i64 x_13_2, .bool b_14_2, .int .i64 x_15_2, .int .i64 x_16_2, .slice A_17_2 n_17_2 c_17_2, .bool b_0_18_2, .bool b_1_18_2, .bool b_2_18_2]⟩] ∧ (Lit.int .i64 x_0_0_0_0).wf = true ∧ (Lit.int .i64 x_1_0_0_0).wf = true ∧ l_2_0_0_0.length ≤ c_2_0_0_0 ∧ l_2_0_0_0.length * 1 ≤ 140737488351232 ∧ RdI M .u8 A_2_0_0_0 l_2_0_0_0 ∧ (∀ x ∈ l_2_0_0_0, (Lit.int .u8 x).wf = true) ∧ (Lit.int .i64 x_0_1_0_0).wf = true ∧ (Lit.int .i64 x_1_1_0_0).wf = true ∧ l_2_1_0_0.length ≤ c_2_1_0_0 ∧ l_2_1_0_0.length * 1 ≤ 140737488351232 ∧ RdI M .u8 A_2_1_0_0 l_2_1_0_0 ∧ (∀ x ∈ l_2_1_0_0, (Lit.int .u8 x).wf = true) ∧ (Lit.int .i64 x_0_2_0_0).wf = true ∧ (Lit.int .i64 x_1_2_0_0).wf = true ∧ l_2_2_0_0.length ≤ c_2_2_0_0 ∧ l_2_2_0_0.length * 1 ≤ 140737488351232 ∧ RdI M .u8 A_2_2_0_0 l_2_2_0_0 ∧ (∀ x ∈ l_2_2_0_0, (Lit.int .u8 x).wf = true) ∧ l_0_1.length ≤ c_0_1 ∧ l_0_1.length * 1 ≤ 140737488351232 ∧ RdB M A_0_1 l_0_1 ∧ l_1_1.length ≤ c_1_1 ∧ l_1_1.length * 8 ≤ 140737488351232 ∧ RdI M .i64 A_1_1 l_1_1 ∧ (∀ x ∈ l_1_1, (Lit.int .i64 x).wf = true) ∧ (Lit.int .i64 x_1_2).wf = true ∧ (Lit.int .i64 x_4_2).wf = true ∧ (Lit.int .i64 x_0_5_2).wf = true ∧ (Lit.int .i64 x_1_5_2).wf = true ∧ (Lit.int .i64 x_2_5_2).wf = true ∧ (Lit.int .i64 x_6_2).wf = true ∧ (Lit.int .i64 x_7_2).wf = true ∧ (Lit.int .i64 x_0_8_2).wf = true ∧ (Lit.int .i64 x_1_8_2).wf = true ∧ (Lit.int .i64 x_2_8_2).wf = true ∧ (Lit.int .i64 x_3_8_2).wf = true ∧ (Lit.int .i64 x_4_8_2).wf = true ∧ (Lit.int .i64 x_9_2).wf = true ∧ (Lit.int .i64 x_10_2).wf = true ∧ (Lit.int .i64 x_0_12_2).wf = true ∧ (Lit.int .i64 x_1_12_2).wf = true ∧ (Lit.int .i64 x_2_12_2).wf = true ∧ (Lit.int .i64 x_3_12_2).wf = true ∧ (Lit.int .i64 x_13_2).wf = true ∧ (Lit.int .i64 x_15_2).wf = true ∧ (Lit.int .i64 x_16_2).wf = true ∧ n_17_2 ≤ c_17_2 ∧ n_17_2 * 32 ≤ 140737488351232 ∧ Rd M A_17_2 n_17_2 4 v_17_2 ∧ (∀ i, i < n_17_2 → Lays P M (4 + 2) 71 ((v_17_2.drop (i * 4)).take 4)) := by
  obtain ⟨v0, r0, rfl, h0, k0⟩ := args_cons h
  obtain ⟨acs0, rfl, g0⟩ := arg_agg (by kernel_rfl) h0
  obtain ⟨x_0_0_0_0, x_1_0_0_0, A_2_0_0_0, c_2_0_0_0, l_2_0_0_0, x_0_1_0_0, x_1_1_0_0, A_2_1_0_0, c_2_1_0_0, l_2_1_0_0, x_0_2_0_0, x_1_2_0_0, A_2_2_0_0, c_2_2_0_0, l_2_2_0_0, e0, p0_0, p0_1, p0_2, p0_3, p0_4, p0_5, p0_6, p0_7, p0_8, p0_9, p0_10, p0_11, p0_12, p0_13, p0_14, p0_15, p0_16, p0_17⟩ := Y48 (d := 3) g0
  subst e0
  obtain ⟨v1, r1, rfl, h1, k1⟩ := args_cons k0
  obtain ⟨acs1, rfl, g1⟩ := arg_agg (by kernel_rfl) h1
  obtain ⟨A_0_1, c_0_1, l_0_1, A_1_1, c_1_1, l_1_1, e1, p1_0, p1_1, p1_2, p1_3, p1_4, p1_5, p1_6⟩ := Y52 (d := 5) g1
  subst e1
  obtain ⟨v2, r2, rfl, h2, k2⟩ := args_cons k1
  obtain ⟨acs2, rfl, g2⟩ := arg_agg (by kernel_rfl) h2
  obtain ⟨b_0_2, x_1_2, b_2_2, b_3_2, x_4_2, x_0_5_2, x_1_5_2, x_2_5_2, x_6_2, x_7_2, x_0_8_2, x_1_8_2, x_2_8_2, x_3_8_2, x_4_8_2, x_9_2, x_10_2, b_11_2, x_0_12_2, x_1_12_2, x_2_12_2, x_3_12_2, x_13_2, b_14_2, x_15_2, x_16_2, A_17_2, n_17_2, c_17_2, v_17_2, b_0_18_2, b_1_18_2, b_2_18_2, e2, p2_0, p2_1, p2_2, p2_3, p2_4, p2_5, p2_6, p2_7, p2_8, p2_9, p2_10, p2_11, p2_12, p2_13, p2_14, p2_15, p2_16, p2_17, p2_18, p2_19, p2_20, p2_21, p2_22, p2_23, p2_24⟩ := Y57 (d := 4) g2
  subst e2
  obtain rfl := args_nil k2
  exact ⟨x_0_0_0_0, x_1_0_0_0, A_2_0_0_0, c_2_0_0_0, l_2_0_0_0, x_0_1_0_0, x_1_1_0_0, A_2_1_0_0, c_2_1_0_0, l_2_1_0_0, x_0_2_0_0, x_1_2_0_0, A_2_2_0_0, c_2_2_0_0, l_2_2_0_0, A_0_1, c_0_1, l_0_1, A_1_1, c_1_1, l_1_1, b_0_2, x_1_2, b_2_2, b_3_2, x_4_2, x_0_5_2, x_1_5_2, x_2_5_2, x_6_2, x_7_2, x_0_8_2, x_1_8_2, x_2_8_2, x_3_8_2, x_4_8_2, x_9_2, x_10_2, b_11_2, x_0_12_2, x_1_12_2, x_2_12_2, x_3_12_2, x_13_2, b_14_2, x_15_2, x_16_2, A_17_2, n_17_2, c_17_2, v_17_2, b_0_18_2, b_1_18_2, b_2_18_2, rfl, p0_0, p0_1, p0_2, p0_3, p0_4, p0_5, p0_6, p0_7, p0_8, p0_9, p0_10, p0_11, p0_12, p0_13, p0_14, p0_15, p0_16, p0_17, p1_0, p1_1, p1_2, p1_3, p1_4, p1_5, p1_6, p2_0, p2_1, p2_2, p2_3, p2_4, p2_5, p2_6, p2_7, p2_8, p2_9, p2_10, p2_11, p2_12, p2_13, p2_14, p2_15, p2_16, p2_17, p2_18, p2_19, p2_20, p2_21, p2_22, p2_23, p2_24⟩
theorem Arg.CdefNames {M : Mem} {vs : List Value} (h : LaysArgs P M [] vs) : vs = [] := args_nil h
end Go.Zt
