/- What functions come to, from cut to cut. -/
import Derived.Test.YtkbdmbjhgomaiaaEq0
import Derived.KernelRfl
set_option maxRecDepth 100000
set_option maxHeartbeats 4000000
set_option linter.unusedVariables false
namespace Go.Zt
theorem zoetroperef23_block.entry (k lo : Nat) (x1 : Int) (x2 : Int) (A3 : Option Addr) (n4 : Nat) (c5 : Nat) (x6 : Int) (x7 : Int) (A8 : Option Addr) (n9 : Nat) (c10 : Nat) (x11 : Int) (x12 : Int) (A13 : Option Addr) (n14 : Nat) (c15 : Nat) (x16 : Int) (x17 : Int) (A18 : Option Addr) (n19 : Nat) (c20 : Nat) (x21 : Int) (x22 : Int) (A23 : Option Addr) (n24 : Nat) (c25 : Nat) (x26 : Int) (x27 : Int) (A28 : Option Addr) (n29 : Nat) (c30 : Nat) (x31 : Int) (x32 : Int) (x33 : Int) (x34 : Int) (x35 : Int) (x36 : Int) (x37 : Int) (M : Mem) : entry P T k lo F.zoetroperef23_block [.agg ⟨[.int .i64 x1, .int .i64 x2, .slice A3 n4 c5, .int .i64 x6, .int .i64 x7, .slice A8 n9 c10, .int .i64 x11, .int .i64 x12, .slice A13 n14 c15]⟩, .agg ⟨[.int .i64 x16, .int .i64 x17, .slice A18 n19 c20, .int .i64 x21, .int .i64 x22, .slice A23 n24 c25, .int .i64 x26, .int .i64 x27, .slice A28 n29 c30]⟩, .int .i64 x31, .int .i64 x32, .agg ⟨[.int .i64 x33, .int .i64 x34, .int .i64 x35, .int .i64 x36]⟩, .int .i64 x37] M =
 ob (acall P T k lo F.zoetroperef05_Cut [.agg ⟨[.int .i64 x1, .int .i64 x2, .slice A3 n4 c5]⟩, .agg ⟨[.int .i64 x31, .int .i64 x32, .int .i64 8, .int .i64 8]⟩] M) fun r43 =>
 ob (r43.1.tup? 2) fun l44 =>
 ob ((l44[0]?).bind Value.slc?) fun s45 =>
 ob ((l44[1]?).bind (Value.int? .i64)) fun x46 =>
 ob (acall P T k lo F.zoetroperef23_Direction [.slice s45.a s45.n s45.c] r43.2) fun r47 =>
 ob (r47.1.tup? 3) fun l48 =>
 ob ((l48[0]?).bind (Value.int? .i64)) fun x49 =>
 ob ((l48[1]?).bind (Value.int? .i64)) fun x50 =>
 ob ((l48[2]?).bind (Value.int? .i64)) fun x51 =>
 bb (decide (x50 > 0))
 (bb (decide (shrI .i64 x50 6 > 0))
 (ob (acall P T k lo F.zoetroperef00_Log [.int .i64 (shrI .i64 x50 6)] r47.2) fun r52 =>
 ob ((some r52.1).bind (Value.int? .i64)) fun x53 =>
 some (zoetroperef23_block.c2027 x31 x32 x37 x49 (minI x53 12) x1 x2 A3 n4 c5 x6 x7 A8 n9 c10 x11 x12 A13 n14 c15 x16 x17 A18 n19 c20 x21 x22 A23 n24 c25 x26 x27 A28 n29 c30 x33 x34 x35 x36 x31 x32 8 8 r52.2))
 (some (zoetroperef23_block.c2027 x31 x32 x37 x49 0 x1 x2 A3 n4 c5 x6 x7 A8 n9 c10 x11 x12 A13 n14 c15 x16 x17 A18 n19 c20 x21 x22 A23 n24 c25 x26 x27 A28 n29 c30 x33 x34 x35 x36 x31 x32 8 8 r47.2)))
 (some (zoetroperef23_block.c127 x31 x32 x37 x49 0 x1 x2 A3 n4 c5 x6 x7 A8 n9 c10 x11 x12 A13 n14 c15 x16 x17 A18 n19 c20 x21 x22 A23 n24 c25 x26 x27 A28 n29 c30 x33 x34 x35 x36 x31 x32 8 8 r47.2)) := by kernel_rfl
theorem zoetroperef23_block.p127 (k lo : Nat) (x1 : Int) (x2 : Int) (x3 : Int) (x4 : Int) (x5 : Int) (x6 : Int) (x7 : Int) (A8 : Option Addr) (n9 : Nat) (c10 : Nat) (x11 : Int) (x12 : Int) (A13 : Option Addr) (n14 : Nat) (c15 : Nat) (x16 : Int) (x17 : Int) (A18 : Option Addr) (n19 : Nat) (c20 : Nat) (x21 : Int) (x22 : Int) (A23 : Option Addr) (n24 : Nat) (c25 : Nat) (x26 : Int) (x27 : Int) (A28 : Option Addr) (n29 : Nat) (c30 : Nat) (x31 : Int) (x32 : Int) (A33 : Option Addr) (n34 : Nat) (c35 : Nat) (x36 : Int) (x37 : Int) (x38 : Int) (x39 : Int) (x40 : Int) (x41 : Int) (x42 : Int) (x43 : Int) (M : Mem) : piece P T k lo F.zoetroperef23_block 127 [.v (.int .i64 x1), .v (.int .i64 x2), .v (.int .i64 x3), .l 6 0, .l 7 0, .l 10 0, .l 12 0, .v (.int .i64 x4), .v (.int .i64 x5)] [[.int .i64 x6, .int .i64 x7, .slice A8 n9 c10, .int .i64 x11, .int .i64 x12, .slice A13 n14 c15, .int .i64 x16, .int .i64 x17, .slice A18 n19 c20], [.int .i64 x21, .int .i64 x22, .slice A23 n24 c25, .int .i64 x26, .int .i64 x27, .slice A28 n29 c30, .int .i64 x31, .int .i64 x32, .slice A33 n34 c35], [.int .i64 x36, .int .i64 x37, .int .i64 x38, .int .i64 x39], [.int .i64 x40, .int .i64 x41, .int .i64 x42, .int .i64 x43]] M =
 bb (x36 == 0)
 (some (zoetroperef23_block.c511 x1 x2 x3 x4 x5 0 x6 x7 A8 n9 c10 x11 x12 A13 n14 c15 x16 x17 A18 n19 c20 x21 x22 A23 n24 c25 x26 x27 A28 n29 c30 x31 x32 A33 n34 c35 x36 x37 x38 x39 x40 x41 x42 x43 M))
 (some (zoetroperef23_block.c511 x1 x2 x3 x4 x5 x4 x6 x7 A8 n9 c10 x11 x12 A13 n14 c15 x16 x17 A18 n19 c20 x21 x22 A23 n24 c25 x26 x27 A28 n29 c30 x31 x32 A33 n34 c35 x36 x37 x38 x39 x40 x41 x42 x43 M)) := by kernel_rfl
theorem zoetroperef23_block.p511 (k lo : Nat) (x1 : Int) (x2 : Int) (x3 : Int) (x4 : Int) (x5 : Int) (x6 : Int) (x7 : Int) (x8 : Int) (A9 : Option Addr) (n10 : Nat) (c11 : Nat) (x12 : Int) (x13 : Int) (A14 : Option Addr) (n15 : Nat) (c16 : Nat) (x17 : Int) (x18 : Int) (A19 : Option Addr) (n20 : Nat) (c21 : Nat) (x22 : Int) (x23 : Int) (A24 : Option Addr) (n25 : Nat) (c26 : Nat) (x27 : Int) (x28 : Int) (A29 : Option Addr) (n30 : Nat) (c31 : Nat) (x32 : Int) (x33 : Int) (A34 : Option Addr) (n35 : Nat) (c36 : Nat) (x37 : Int) (x38 : Int) (x39 : Int) (x40 : Int) (x41 : Int) (x42 : Int) (x43 : Int) (x44 : Int) (M : Mem) : piece P T k lo F.zoetroperef23_block 511 [.v (.int .i64 x1), .v (.int .i64 x2), .v (.int .i64 x3), .l 6 0, .l 7 0, .l 10 0, .l 12 0, .v (.int .i64 x4), .v (.int .i64 x5), .v (.int .i64 x6)] [[.int .i64 x7, .int .i64 x8, .slice A9 n10 c11, .int .i64 x12, .int .i64 x13, .slice A14 n15 c16, .int .i64 x17, .int .i64 x18, .slice A19 n20 c21], [.int .i64 x22, .int .i64 x23, .slice A24 n25 c26, .int .i64 x27, .int .i64 x28, .slice A29 n30 c31, .int .i64 x32, .int .i64 x33, .slice A34 n35 c36], [.int .i64 x37, .int .i64 x38, .int .i64 x39, .int .i64 x40], [.int .i64 x41, .int .i64 x42, .int .i64 x43, .int .i64 x44]] M =
 ob (acall P T k M.length F.zoetroperef23_sec [.int .i64 x38] M) fun r54 =>
 ob ((some r54.1).bind (Value.int? .i64)) fun x55 =>
 ob (acall P T k M.length F.zoetroperef23_Block [.agg ⟨[.int .i64 x7, .int .i64 x8, .slice A9 n10 c11]⟩, .agg ⟨[.int .i64 x41, .int .i64 x42, .int .i64 x43, .int .i64 x44]⟩, .int .i64 x6, .int .i64 x5, .int .i64 x55, .int .i64 x3] r54.2) fun r56 =>
 ob (r56.1.tup? 2) fun l57 =>
 ob ((l57[0]?).bind Value.slc?) fun s58 =>
 ob ((l57[1]?).bind (Value.int? .i64)) fun x59 =>
 ob (acall P T k lo F.zoetroperef23_lay [.agg ⟨[.int .i64 x22, .int .i64 x23, .slice A24 n25 c26]⟩, .agg ⟨[.int .i64 x41, .int .i64 x42, .int .i64 x43, .int .i64 x44]⟩, .slice s58.a s58.n s58.c] r56.2) fun r60 =>
 ob (r60.1.tup? 0) fun l61 =>
 bb (x39 == 0)
 (some (zoetroperef23_block.c8191 x1 x2 x3 0 x7 x8 A9 n10 c11 x12 x13 A14 n15 c16 x17 x18 A19 n20 c21 x22 x23 A24 n25 c26 x27 x28 A29 n30 c31 x32 x33 A34 n35 c36 x37 x38 x39 x40 r60.2))
 (some (zoetroperef23_block.c8191 x1 x2 x3 x4 x7 x8 A9 n10 c11 x12 x13 A14 n15 c16 x17 x18 A19 n20 c21 x22 x23 A24 n25 c26 x27 x28 A29 n30 c31 x32 x33 A34 n35 c36 x37 x38 x39 x40 r60.2)) := by kernel_rfl
theorem zoetroperef23_block.p2027 (k lo : Nat) (x1 : Int) (x2 : Int) (x3 : Int) (x4 : Int) (x5 : Int) (x6 : Int) (x7 : Int) (A8 : Option Addr) (n9 : Nat) (c10 : Nat) (x11 : Int) (x12 : Int) (A13 : Option Addr) (n14 : Nat) (c15 : Nat) (x16 : Int) (x17 : Int) (A18 : Option Addr) (n19 : Nat) (c20 : Nat) (x21 : Int) (x22 : Int) (A23 : Option Addr) (n24 : Nat) (c25 : Nat) (x26 : Int) (x27 : Int) (A28 : Option Addr) (n29 : Nat) (c30 : Nat) (x31 : Int) (x32 : Int) (A33 : Option Addr) (n34 : Nat) (c35 : Nat) (x36 : Int) (x37 : Int) (x38 : Int) (x39 : Int) (x40 : Int) (x41 : Int) (x42 : Int) (x43 : Int) (M : Mem) : piece P T k lo F.zoetroperef23_block 2027 [.v (.int .i64 x1), .v (.int .i64 x2), .v (.int .i64 x3), .l 6 0, .l 7 0, .l 10 0, .l 12 0, .v (.int .i64 x4), .v (.int .i64 x5)] [[.int .i64 x6, .int .i64 x7, .slice A8 n9 c10, .int .i64 x11, .int .i64 x12, .slice A13 n14 c15, .int .i64 x16, .int .i64 x17, .slice A18 n19 c20], [.int .i64 x21, .int .i64 x22, .slice A23 n24 c25, .int .i64 x26, .int .i64 x27, .slice A28 n29 c30, .int .i64 x31, .int .i64 x32, .slice A33 n34 c35], [.int .i64 x36, .int .i64 x37, .int .i64 x38, .int .i64 x39], [.int .i64 x40, .int .i64 x41, .int .i64 x42, .int .i64 x43]] M =
 some (zoetroperef23_block.c127 x1 x2 x3 x4 (shrI .i64 (IntKind.i64.wrap ((IntKind.i64.wrap (x36 * (IntKind.i64.wrap (4 + x5)))) + 8)) 4) x6 x7 A8 n9 c10 x11 x12 A13 n14 c15 x16 x17 A18 n19 c20 x21 x22 A23 n24 c25 x26 x27 A28 n29 c30 x31 x32 A33 n34 c35 x36 x37 x38 x39 x40 x41 x42 x43 M) := by kernel_rfl
theorem zoetroperef23_block.p8191 (k lo : Nat) (x1 : Int) (x2 : Int) (x3 : Int) (x4 : Int) (x5 : Int) (x6 : Int) (A7 : Option Addr) (n8 : Nat) (c9 : Nat) (x10 : Int) (x11 : Int) (A12 : Option Addr) (n13 : Nat) (c14 : Nat) (x15 : Int) (x16 : Int) (A17 : Option Addr) (n18 : Nat) (c19 : Nat) (x20 : Int) (x21 : Int) (A22 : Option Addr) (n23 : Nat) (c24 : Nat) (x25 : Int) (x26 : Int) (A27 : Option Addr) (n28 : Nat) (c29 : Nat) (x30 : Int) (x31 : Int) (A32 : Option Addr) (n33 : Nat) (c34 : Nat) (x35 : Int) (x36 : Int) (x37 : Int) (x38 : Int) (M : Mem) : piece P T k lo F.zoetroperef23_block 8191 [.v (.int .i64 x1), .v (.int .i64 x2), .v (.int .i64 x3), .l 6 0, .l 7 0, .l 10 0, .v (.int .i64 x4)] [[.int .i64 x5, .int .i64 x6, .slice A7 n8 c9, .int .i64 x10, .int .i64 x11, .slice A12 n13 c14, .int .i64 x15, .int .i64 x16, .slice A17 n18 c19], [.int .i64 x20, .int .i64 x21, .slice A22 n23 c24, .int .i64 x25, .int .i64 x26, .slice A27 n28 c29, .int .i64 x30, .int .i64 x31, .slice A32 n33 c34], [.int .i64 x35, .int .i64 x36, .int .i64 x37, .int .i64 x38]] M =
 some (zoetroperef23_block.c131068 x3 x4 1 x5 x6 A7 n8 c9 x10 x11 A12 n13 c14 x15 x16 A17 n18 c19 x20 x21 A22 n23 c24 x25 x26 A27 n28 c29 x30 x31 A32 n33 c34 x35 x36 x37 x38 (IntKind.i64.wrap (Int.tdiv x1 2)) (IntKind.i64.wrap (Int.tdiv x2 2)) 4 4 M) := by kernel_rfl
theorem zoetroperef23_block.p131068 (k lo : Nat) (x1 : Int) (x2 : Int) (x3 : Int) (x4 : Int) (x5 : Int) (A6 : Option Addr) (n7 : Nat) (c8 : Nat) (x9 : Int) (x10 : Int) (A11 : Option Addr) (n12 : Nat) (c13 : Nat) (x14 : Int) (x15 : Int) (A16 : Option Addr) (n17 : Nat) (c18 : Nat) (x19 : Int) (x20 : Int) (A21 : Option Addr) (n22 : Nat) (c23 : Nat) (x24 : Int) (x25 : Int) (A26 : Option Addr) (n27 : Nat) (c28 : Nat) (x29 : Int) (x30 : Int) (A31 : Option Addr) (n32 : Nat) (c33 : Nat) (x34 : Int) (x35 : Int) (x36 : Int) (x37 : Int) (x38 : Int) (x39 : Int) (x40 : Int) (x41 : Int) (M : Mem) : piece P T k lo F.zoetroperef23_block 131068 [.v (.int .i64 x1), .l 6 0, .l 7 0, .l 10 0, .v (.int .i64 x2), .l 23 0, .v (.int .i64 x3)] [[.int .i64 x4, .int .i64 x5, .slice A6 n7 c8, .int .i64 x9, .int .i64 x10, .slice A11 n12 c13, .int .i64 x14, .int .i64 x15, .slice A16 n17 c18], [.int .i64 x19, .int .i64 x20, .slice A21 n22 c23, .int .i64 x24, .int .i64 x25, .slice A26 n27 c28, .int .i64 x29, .int .i64 x30, .slice A31 n32 c33], [.int .i64 x34, .int .i64 x35, .int .i64 x36, .int .i64 x37], [.int .i64 x38, .int .i64 x39, .int .i64 x40, .int .i64 x41]] M =
 bb (decide (x3 < 3))
 (pb (0 ≤ x3 ∧ x3 < (3 : Int))
 (ob ((([.int .i64 x4, .int .i64 x5, .slice A6 n7 c8, .int .i64 x9, .int .i64 x10, .slice A11 n12 c13, .int .i64 x14, .int .i64 x15, .slice A16 n17 c18] : List Value)[0 + (x3.toNat * 3) + 0]?).bind (Value.int? .i64)) fun x62 =>
 ob ((([.int .i64 x4, .int .i64 x5, .slice A6 n7 c8, .int .i64 x9, .int .i64 x10, .slice A11 n12 c13, .int .i64 x14, .int .i64 x15, .slice A16 n17 c18] : List Value)[0 + (x3.toNat * 3) + 1]?).bind (Value.int? .i64)) fun x63 =>
 ob ((([.int .i64 x4, .int .i64 x5, .slice A6 n7 c8, .int .i64 x9, .int .i64 x10, .slice A11 n12 c13, .int .i64 x14, .int .i64 x15, .slice A16 n17 c18] : List Value)[0 + (x3.toNat * 3) + 2]?).bind Value.slc?) fun s64 =>
 ob (acall P T k M.length F.zoetroperef23_sec [.int .i64 x37] M) fun r65 =>
 ob ((some r65.1).bind (Value.int? .i64)) fun x66 =>
 ob (acall P T k M.length F.zoetroperef23_Block [.agg ⟨[.int .i64 x62, .int .i64 x63, .slice s64.a s64.n s64.c]⟩, .agg ⟨[.int .i64 x38, .int .i64 x39, .int .i64 x40, .int .i64 x41]⟩, .int .i64 x2, .int .i64 x36, .int .i64 x66, .int .i64 (IntKind.i64.wrap (x1 - 1))] r65.2) fun r67 =>
 ob (r67.1.tup? 2) fun l68 =>
 ob ((l68[0]?).bind Value.slc?) fun s69 =>
 ob ((l68[1]?).bind (Value.int? .i64)) fun x70 =>
 pb (0 ≤ x3 ∧ x3 < (3 : Int))
 (ob ((([.int .i64 x19, .int .i64 x20, .slice A21 n22 c23, .int .i64 x24, .int .i64 x25, .slice A26 n27 c28, .int .i64 x29, .int .i64 x30, .slice A31 n32 c33] : List Value)[0 + (x3.toNat * 3) + 0]?).bind (Value.int? .i64)) fun x71 =>
 ob ((([.int .i64 x19, .int .i64 x20, .slice A21 n22 c23, .int .i64 x24, .int .i64 x25, .slice A26 n27 c28, .int .i64 x29, .int .i64 x30, .slice A31 n32 c33] : List Value)[0 + (x3.toNat * 3) + 1]?).bind (Value.int? .i64)) fun x72 =>
 ob ((([.int .i64 x19, .int .i64 x20, .slice A21 n22 c23, .int .i64 x24, .int .i64 x25, .slice A26 n27 c28, .int .i64 x29, .int .i64 x30, .slice A31 n32 c33] : List Value)[0 + (x3.toNat * 3) + 2]?).bind Value.slc?) fun s73 =>
 ob (acall P T k lo F.zoetroperef23_lay [.agg ⟨[.int .i64 x71, .int .i64 x72, .slice s73.a s73.n s73.c]⟩, .agg ⟨[.int .i64 x38, .int .i64 x39, .int .i64 x40, .int .i64 x41]⟩, .slice s69.a s69.n s69.c] r67.2) fun r74 =>
 ob (r74.1.tup? 0) fun l75 =>
 some (zoetroperef23_block.c131068 x1 x2 (IntKind.i64.wrap (x3 + 1)) x4 x5 A6 n7 c8 x9 x10 A11 n12 c13 x14 x15 A16 n17 c18 x19 x20 A21 n22 c23 x24 x25 A26 n27 c28 x29 x30 A31 n32 c33 x34 x35 x36 x37 x38 x39 x40 x41 r74.2)) none) none)
 (some (.ret (.tuple ⟨[]⟩) M)) := by kernel_rfl
theorem zoetroperef05_Same.entry (k lo : Nat) (x1 : Int) (x2 : Int) (A3 : Option Addr) (n4 : Nat) (c5 : Nat) (x6 : Int) (x7 : Int) (A8 : Option Addr) (n9 : Nat) (c10 : Nat) (M : Mem) : entry P T k lo F.zoetroperef05_Same [.agg ⟨[.int .i64 x1, .int .i64 x2, .slice A3 n4 c5]⟩, .agg ⟨[.int .i64 x6, .int .i64 x7, .slice A8 n9 c10]⟩] M =
 bb (x1 == x6)
 (bb (x2 == x7)
 (ob (acall P T k lo F.zoetroperef00_EqBytes [.slice A3 n4 c5, .slice A8 n9 c10] M) fun r16 =>
 ob ((some r16.1).bind Value.bool?) fun b17 =>
 some (.ret (.bool b17) r16.2))
 (some (.ret (.bool false) M)))
 (some (.ret (.bool false) M)) := by kernel_rfl
theorem plane_within.entry (k lo : Nat) (x1 : Int) (x2 : Int) (A3 : Option Addr) (n4 : Nat) (c5 : Nat) (x6 : Int) (x7 : Int) (x8 : Int) (x9 : Int) (M : Mem) : entry P T k lo F.plane_within [.agg ⟨[.int .i64 x1, .int .i64 x2, .slice A3 n4 c5]⟩, .agg ⟨[.int .i64 x6, .int .i64 x7, .int .i64 x8, .int .i64 x9]⟩] M =
 ob (acall P T k lo F.plane_Check [.agg ⟨[.int .i64 x1, .int .i64 x2, .slice A3 n4 c5]⟩] M) fun r15 =>
 ob ((some r15.1).bind (Value.int? .i64)) fun x16 =>
 bb (x16 == 0)
 (bb (decide (x8 ≥ 1))
 (bb (decide (x9 ≥ 1))
 (bb (decide (x6 ≥ 0))
 (bb (decide (x7 ≥ 0))
 (bb (decide (x8 ≤ x1))
 (bb (decide (x9 ≤ x2))
 (bb (decide (x6 ≤ IntKind.i64.wrap (x1 - x8)))
 (some (.ret (.bool (decide (x7 ≤ IntKind.i64.wrap (x2 - x9)))) r15.2))
 (some (.ret (.bool false) r15.2)))
 (some (.ret (.bool false) r15.2)))
 (some (.ret (.bool false) r15.2)))
 (some (.ret (.bool false) r15.2)))
 (some (.ret (.bool false) r15.2)))
 (some (.ret (.bool false) r15.2)))
 (some (.ret (.bool false) r15.2)))
 (some (.ret (.bool false) r15.2)) := by kernel_rfl
theorem plane_row.entry (k lo : Nat) (x1 : Int) (x2 : Int) (A3 : Option Addr) (n4 : Nat) (c5 : Nat) (x6 : Int) (x7 : Int) (x8 : Int) (x9 : Int) (x10 : Int) (M : Mem) : entry P T k lo F.plane_row [.agg ⟨[.int .i64 x1, .int .i64 x2, .slice A3 n4 c5]⟩, .agg ⟨[.int .i64 x6, .int .i64 x7, .int .i64 x8, .int .i64 x9]⟩, .int .i64 x10] M =
 pb (0 ≤ IntKind.i64.wrap ((IntKind.i64.wrap ((IntKind.i64.wrap (x7 + x10)) * x1)) + x6) ∧ IntKind.i64.wrap ((IntKind.i64.wrap ((IntKind.i64.wrap (x7 + x10)) * x1)) + x6) ≤ IntKind.i64.wrap ((IntKind.i64.wrap ((IntKind.i64.wrap ((IntKind.i64.wrap (x7 + x10)) * x1)) + x6)) + x8) ∧ IntKind.i64.wrap ((IntKind.i64.wrap ((IntKind.i64.wrap ((IntKind.i64.wrap (x7 + x10)) * x1)) + x6)) + x8) ≤ IntKind.i64.wrap ((IntKind.i64.wrap ((IntKind.i64.wrap ((IntKind.i64.wrap (x7 + x10)) * x1)) + x6)) + x8) ∧ IntKind.i64.wrap ((IntKind.i64.wrap ((IntKind.i64.wrap ((IntKind.i64.wrap (x7 + x10)) * x1)) + x6)) + x8) ≤ (c5 : Int))
 (some (.ret (.slice (slAddr3 1 A3 ((IntKind.i64.wrap ((IntKind.i64.wrap ((IntKind.i64.wrap (x7 + x10)) * x1)) + x6)).toNat) ((IntKind.i64.wrap ((IntKind.i64.wrap ((IntKind.i64.wrap ((IntKind.i64.wrap (x7 + x10)) * x1)) + x6)) + x8)).toNat)) (((IntKind.i64.wrap ((IntKind.i64.wrap ((IntKind.i64.wrap ((IntKind.i64.wrap (x7 + x10)) * x1)) + x6)) + x8)).toNat) - ((IntKind.i64.wrap ((IntKind.i64.wrap ((IntKind.i64.wrap (x7 + x10)) * x1)) + x6)).toNat)) (((IntKind.i64.wrap ((IntKind.i64.wrap ((IntKind.i64.wrap ((IntKind.i64.wrap (x7 + x10)) * x1)) + x6)) + x8)).toNat) - ((IntKind.i64.wrap ((IntKind.i64.wrap ((IntKind.i64.wrap (x7 + x10)) * x1)) + x6)).toNat))) M)) none := by kernel_rfl
theorem plane_Same.entry (k lo : Nat) (x1 : Int) (x2 : Int) (A3 : Option Addr) (n4 : Nat) (c5 : Nat) (x6 : Int) (x7 : Int) (A8 : Option Addr) (n9 : Nat) (c10 : Nat) (M : Mem) : entry P T k lo F.plane_Same [.agg ⟨[.int .i64 x1, .int .i64 x2, .slice A3 n4 c5]⟩, .agg ⟨[.int .i64 x6, .int .i64 x7, .slice A8 n9 c10]⟩] M =
 bb (x1 == x6)
 (bb (x2 == x7)
 (ob (acall P T k lo F.slices_Equal__uint8_uint8 [.slice A3 n4 c5, .slice A8 n9 c10] M) fun r16 =>
 ob ((some r16.1).bind Value.bool?) fun b17 =>
 some (.ret (.bool b17) r16.2))
 (some (.ret (.bool false) M)))
 (some (.ret (.bool false) M)) := by kernel_rfl
theorem plane_sides.entry (k lo : Nat) (x1 : Int) (x2 : Int) (M : Mem) : entry P T k lo F.plane_sides [.int .i64 x1, .int .i64 x2] M =
 bb (andI .i64 x1 1 == 0)
 (bb (andI .i64 x2 1 == 0)
 (bb (decide ((minI x1 x2) ≥ 16))
 (some (.ret (.bool (decide ((maxI x1 x2) ≤ 256))) M))
 (some (.ret (.bool false) M)))
 (some (.ret (.bool false) M)))
 (some (.ret (.bool false) M)) := by kernel_rfl
theorem plane_New.entry (k lo : Nat) (x1 : Int) (x2 : Int) (x3 : Int) (M : Mem) : entry P T k lo F.plane_New [.int .i64 x1, .int .i64 x2, .int .u8 x3] M =
 ob (acall P T k lo F.plane_sizes [.int .i64 x1, .int .i64 x2] M) fun r9 =>
 ob ((some r9.1).bind Value.bool?) fun b10 =>
 bb (!b10)
 (some (.ret (.tuple ⟨[.agg ⟨[.int .i64 0, .int .i64 0, .slice none 0 0]⟩, .int .i64 2]⟩) r9.2))
 (ob (acall P T k lo F.slices_Repeat__uint8_uint8 [.slice (some ⟨r9.2.length, 0, none⟩) 1 1, .int .i64 (IntKind.i64.wrap (x1 * x2))] (r9.2 ++ [⟨.fx, [.int .u8 x3]⟩] : Mem)) fun r11 =>
 ob ((some r11.1).bind Value.slc?) fun s12 =>
 some (.ret (.tuple ⟨[.agg ⟨[.int .i64 x1, .int .i64 x2, .slice s12.a s12.n s12.c]⟩, .int .i64 0]⟩) r11.2)) := by kernel_rfl
theorem zoetroperef23_number.entry (k lo : Nat) (x1 : Int) (x2 : Int) (x3 : Int) (M : Mem) : entry P T k lo F.zoetroperef23_number [.int .i64 x1, .int .i64 x2, .int .i64 x3] M =
 bb (x1 == 0)
 (some (.ret (.int .i64 (IntKind.i64.wrap (x2 + x3))) M))
 (bb (x1 == 1)
 (some (.ret (.int .i64 (IntKind.i64.wrap (x2 + (IntKind.i64.wrap (Int.tdiv x3 2))))) M))
 (bb (x1 == 2)
 (some (.ret (.int .i64 x2) M))
 (bb (x1 == 3)
 (some (.ret (.int .i64 (IntKind.i64.wrap ((IntKind.i64.wrap (3 + x2)) - (IntKind.i64.wrap (Int.tdiv x3 2))))) M))
 (bb (x1 == 4)
 (some (.ret (.int .i64 (IntKind.i64.wrap ((IntKind.i64.wrap (7 + x2)) - x3))) M))
 (bb (x1 == 5)
 (some (.ret (.int .i64 (IntKind.i64.wrap ((IntKind.i64.wrap (3 - (IntKind.i64.wrap (Int.tdiv x2 2)))) + x3))) M))
 (bb (x1 == 6)
 (some (.ret (.int .i64 x3) M))
 (some (.ret (.int .i64 (IntKind.i64.wrap ((IntKind.i64.wrap (Int.tdiv x2 2)) + x3))) M)))))))) := by kernel_rfl
theorem math_bits_Len32.entry (k lo : Nat) (x1 : Int) (M : Mem) : entry P T k lo F.math_bits_Len32 [.int .u32 x1] M =
 bb (decide (x1 ≥ 65536))
 (some (math_bits_Len32.c7 (shrI .u32 x1 16) 16 M))
 (some (math_bits_Len32.c7 x1 0 M)) := by kernel_rfl
theorem math_bits_Len32.p7 (k lo : Nat) (x1 : Int) (x2 : Int) (M : Mem) : piece P T k lo F.math_bits_Len32 7 [.v (.int .u32 x1), .v (.int .i64 x2)] [] M =
 bb (decide (x1 ≥ 256))
 (some (math_bits_Len32.c15 (shrI .u32 x1 8) (IntKind.i64.wrap (x2 + 8)) M))
 (some (math_bits_Len32.c15 x1 x2 M)) := by kernel_rfl
theorem math_bits_Len32.p15 (k lo : Nat) (x1 : Int) (x2 : Int) (M : Mem) : piece P T k lo F.math_bits_Len32 15 [.v (.int .u32 x1), .v (.int .i64 x2)] [] M =
 pb (0 ≤ IntKind.u8.wrap x1 ∧ IntKind.u8.wrap x1 < ((⟨#[0, 1, 2, 2, 3, 3, 3, 3, 4, 4, 4, 4, 4, 4, 4, 4, 5, 5, 5, 5, 5, 5, 5, 5, 5, 5, 5, 5, 5, 5, 5, 5, 6, 6, 6, 6, 6, 6, 6, 6, 6, 6, 6, 6, 6, 6, 6, 6, 6, 6, 6, 6, 6, 6, 6, 6, 6, 6, 6, 6, 6, 6, 6, 6, 7, 7, 7, 7, 7, 7, 7, 7, 7, 7, 7, 7, 7, 7, 7, 7, 7, 7, 7, 7, 7, 7, 7, 7, 7, 7, 7, 7, 7, 7, 7, 7, 7, 7, 7, 7, 7, 7, 7, 7, 7, 7, 7, 7, 7, 7, 7, 7, 7, 7, 7, 7, 7, 7, 7, 7, 7, 7, 7, 7, 7, 7, 7, 7, 8, 8, 8, 8, 8, 8, 8, 8, 8, 8, 8, 8, 8, 8, 8, 8, 8, 8, 8, 8, 8, 8, 8, 8, 8, 8, 8, 8, 8, 8, 8, 8, 8, 8, 8, 8, 8, 8, 8, 8, 8, 8, 8, 8, 8, 8, 8, 8, 8, 8, 8, 8, 8, 8, 8, 8, 8, 8, 8, 8, 8, 8, 8, 8, 8, 8, 8, 8, 8, 8, 8, 8, 8, 8, 8, 8, 8, 8, 8, 8, 8, 8, 8, 8, 8, 8, 8, 8, 8, 8, 8, 8, 8, 8, 8, 8, 8, 8, 8, 8, 8, 8, 8, 8, 8, 8, 8, 8, 8, 8, 8, 8, 8, 8, 8, 8, 8, 8, 8, 8, 8, 8, 8, 8, 8, 8, 8, 8]⟩ : ByteArray).size : Int))
 (some (.ret (.int .i64 (IntKind.i64.wrap (x2 + (IntKind.i64.wrap (strAt (⟨#[0, 1, 2, 2, 3, 3, 3, 3, 4, 4, 4, 4, 4, 4, 4, 4, 5, 5, 5, 5, 5, 5, 5, 5, 5, 5, 5, 5, 5, 5, 5, 5, 6, 6, 6, 6, 6, 6, 6, 6, 6, 6, 6, 6, 6, 6, 6, 6, 6, 6, 6, 6, 6, 6, 6, 6, 6, 6, 6, 6, 6, 6, 6, 6, 7, 7, 7, 7, 7, 7, 7, 7, 7, 7, 7, 7, 7, 7, 7, 7, 7, 7, 7, 7, 7, 7, 7, 7, 7, 7, 7, 7, 7, 7, 7, 7, 7, 7, 7, 7, 7, 7, 7, 7, 7, 7, 7, 7, 7, 7, 7, 7, 7, 7, 7, 7, 7, 7, 7, 7, 7, 7, 7, 7, 7, 7, 7, 7, 8, 8, 8, 8, 8, 8, 8, 8, 8, 8, 8, 8, 8, 8, 8, 8, 8, 8, 8, 8, 8, 8, 8, 8, 8, 8, 8, 8, 8, 8, 8, 8, 8, 8, 8, 8, 8, 8, 8, 8, 8, 8, 8, 8, 8, 8, 8, 8, 8, 8, 8, 8, 8, 8, 8, 8, 8, 8, 8, 8, 8, 8, 8, 8, 8, 8, 8, 8, 8, 8, 8, 8, 8, 8, 8, 8, 8, 8, 8, 8, 8, 8, 8, 8, 8, 8, 8, 8, 8, 8, 8, 8, 8, 8, 8, 8, 8, 8, 8, 8, 8, 8, 8, 8, 8, 8, 8, 8, 8, 8, 8, 8, 8, 8, 8, 8, 8, 8, 8, 8, 8, 8, 8, 8, 8, 8, 8, 8]⟩ : ByteArray) (IntKind.u8.wrap x1).toNat))))) M)) none := by kernel_rfl
theorem math_bits_Len64.entry (k lo : Nat) (x1 : Int) (M : Mem) : entry P T k lo F.math_bits_Len64 [.int .u64 x1] M =
 bb (decide (x1 ≥ 4294967296))
 (some (math_bits_Len64.c7 (shrI .u64 x1 32) 32 M))
 (some (math_bits_Len64.c7 x1 0 M)) := by kernel_rfl
theorem math_bits_Len64.p7 (k lo : Nat) (x1 : Int) (x2 : Int) (M : Mem) : piece P T k lo F.math_bits_Len64 7 [.v (.int .u64 x1), .v (.int .i64 x2)] [] M =
 bb (decide (x1 ≥ 65536))
 (some (math_bits_Len64.c15 (shrI .u64 x1 16) (IntKind.i64.wrap (x2 + 16)) M))
 (some (math_bits_Len64.c15 x1 x2 M)) := by kernel_rfl
theorem math_bits_Len64.p15 (k lo : Nat) (x1 : Int) (x2 : Int) (M : Mem) : piece P T k lo F.math_bits_Len64 15 [.v (.int .u64 x1), .v (.int .i64 x2)] [] M =
 bb (decide (x1 ≥ 256))
 (some (math_bits_Len64.c31 (shrI .u64 x1 8) (IntKind.i64.wrap (x2 + 8)) M))
 (some (math_bits_Len64.c31 x1 x2 M)) := by kernel_rfl
theorem math_bits_Len64.p31 (k lo : Nat) (x1 : Int) (x2 : Int) (M : Mem) : piece P T k lo F.math_bits_Len64 31 [.v (.int .u64 x1), .v (.int .i64 x2)] [] M =
 pb (0 ≤ IntKind.u8.wrap x1 ∧ IntKind.u8.wrap x1 < ((⟨#[0, 1, 2, 2, 3, 3, 3, 3, 4, 4, 4, 4, 4, 4, 4, 4, 5, 5, 5, 5, 5, 5, 5, 5, 5, 5, 5, 5, 5, 5, 5, 5, 6, 6, 6, 6, 6, 6, 6, 6, 6, 6, 6, 6, 6, 6, 6, 6, 6, 6, 6, 6, 6, 6, 6, 6, 6, 6, 6, 6, 6, 6, 6, 6, 7, 7, 7, 7, 7, 7, 7, 7, 7, 7, 7, 7, 7, 7, 7, 7, 7, 7, 7, 7, 7, 7, 7, 7, 7, 7, 7, 7, 7, 7, 7, 7, 7, 7, 7, 7, 7, 7, 7, 7, 7, 7, 7, 7, 7, 7, 7, 7, 7, 7, 7, 7, 7, 7, 7, 7, 7, 7, 7, 7, 7, 7, 7, 7, 8, 8, 8, 8, 8, 8, 8, 8, 8, 8, 8, 8, 8, 8, 8, 8, 8, 8, 8, 8, 8, 8, 8, 8, 8, 8, 8, 8, 8, 8, 8, 8, 8, 8, 8, 8, 8, 8, 8, 8, 8, 8, 8, 8, 8, 8, 8, 8, 8, 8, 8, 8, 8, 8, 8, 8, 8, 8, 8, 8, 8, 8, 8, 8, 8, 8, 8, 8, 8, 8, 8, 8, 8, 8, 8, 8, 8, 8, 8, 8, 8, 8, 8, 8, 8, 8, 8, 8, 8, 8, 8, 8, 8, 8, 8, 8, 8, 8, 8, 8, 8, 8, 8, 8, 8, 8, 8, 8, 8, 8, 8, 8, 8, 8, 8, 8, 8, 8, 8, 8, 8, 8, 8, 8, 8, 8, 8, 8]⟩ : ByteArray).size : Int))
 (some (.ret (.int .i64 (IntKind.i64.wrap (x2 + (IntKind.i64.wrap (strAt (⟨#[0, 1, 2, 2, 3, 3, 3, 3, 4, 4, 4, 4, 4, 4, 4, 4, 5, 5, 5, 5, 5, 5, 5, 5, 5, 5, 5, 5, 5, 5, 5, 5, 6, 6, 6, 6, 6, 6, 6, 6, 6, 6, 6, 6, 6, 6, 6, 6, 6, 6, 6, 6, 6, 6, 6, 6, 6, 6, 6, 6, 6, 6, 6, 6, 7, 7, 7, 7, 7, 7, 7, 7, 7, 7, 7, 7, 7, 7, 7, 7, 7, 7, 7, 7, 7, 7, 7, 7, 7, 7, 7, 7, 7, 7, 7, 7, 7, 7, 7, 7, 7, 7, 7, 7, 7, 7, 7, 7, 7, 7, 7, 7, 7, 7, 7, 7, 7, 7, 7, 7, 7, 7, 7, 7, 7, 7, 7, 7, 8, 8, 8, 8, 8, 8, 8, 8, 8, 8, 8, 8, 8, 8, 8, 8, 8, 8, 8, 8, 8, 8, 8, 8, 8, 8, 8, 8, 8, 8, 8, 8, 8, 8, 8, 8, 8, 8, 8, 8, 8, 8, 8, 8, 8, 8, 8, 8, 8, 8, 8, 8, 8, 8, 8, 8, 8, 8, 8, 8, 8, 8, 8, 8, 8, 8, 8, 8, 8, 8, 8, 8, 8, 8, 8, 8, 8, 8, 8, 8, 8, 8, 8, 8, 8, 8, 8, 8, 8, 8, 8, 8, 8, 8, 8, 8, 8, 8, 8, 8, 8, 8, 8, 8, 8, 8, 8, 8, 8, 8, 8, 8, 8, 8, 8, 8, 8, 8, 8, 8, 8, 8, 8, 8, 8, 8, 8, 8]⟩ : ByteArray) (IntKind.u8.wrap x1).toNat))))) M)) none := by kernel_rfl
theorem cdef_along.entry (k lo : Nat) (M : Mem) : entry P T k lo F.cdef_along [] M =
 some (.ret (.agg ⟨[.int .i64 (-1), .int .i64 1, .int .i64 (-2), .int .i64 2, .int .i64 0, .int .i64 1, .int .i64 (-1), .int .i64 2, .int .i64 0, .int .i64 1, .int .i64 0, .int .i64 2, .int .i64 0, .int .i64 1, .int .i64 1, .int .i64 2, .int .i64 1, .int .i64 1, .int .i64 2, .int .i64 2, .int .i64 1, .int .i64 0, .int .i64 2, .int .i64 1, .int .i64 1, .int .i64 0, .int .i64 2, .int .i64 0, .int .i64 1, .int .i64 0, .int .i64 2, .int .i64 (-1)]⟩) M) := by kernel_rfl
theorem zoetroperef23_around_ask.entry (k lo : Nat) (a1 : Addr) (x2 : Int) (x3 : Int) (x4 : Int) (x5 : Int) (x6 : Int) (M : Mem) : entry P T k lo F.zoetroperef23_around_ask [.pointer (some a1), .agg ⟨[.int .i64 x2, .int .i64 x3]⟩, .int .i64 x4, .int .i64 x5, .int .i64 x6] M =
 ob ((M.ld (plus a1 2)).bind Value.slc?) fun s12 =>
 ob ((M.ld (plus a1 4)).bind (Value.int? .i64)) fun x13 =>
 ob ((M.ld a1).bind (Value.int? .i64)) fun x14 =>
 ob ((M.ld (plus a1 3)).bind (Value.int? .i64)) fun x15 =>
 pb (0 ≤ IntKind.i64.wrap ((IntKind.i64.wrap (x13 * x14)) + x15) ∧ IntKind.i64.wrap ((IntKind.i64.wrap (x13 * x14)) + x15) < (s12.n : Int))
 (ob s12.a fun a16 =>
 ob ((M.ld (plus a16 ((IntKind.i64.wrap ((IntKind.i64.wrap (x13 * x14)) + x15)).toNat))).bind (Value.int? .u8)) fun x17 =>
 some (zoetroperef23_around_ask.c60 a1 x4 x5 x6 (IntKind.i64.wrap x17) (-1) x2 x3 M)) none := by kernel_rfl
theorem zoetroperef23_around_ask.p60 (k lo : Nat) (a1 : Addr) (x2 : Int) (x3 : Int) (x4 : Int) (x5 : Int) (x6 : Int) (x7 : Int) (x8 : Int) (M : Mem) : piece P T k lo F.zoetroperef23_around_ask 60 [.v (.pointer (some a1)), .v (.int .i64 x2), .v (.int .i64 x3), .v (.int .i64 x4), .l 6 0, .v (.int .i64 x5), .v (.int .i64 x6)] [[.int .i64 x7, .int .i64 x8]] M =
 bb (decide (x6 ≤ 1))
 (ob ((M.ld (plus a1 4)).bind (Value.int? .i64)) fun x18 =>
 ob ((M.ld (plus a1 3)).bind (Value.int? .i64)) fun x19 =>
 bb (decide (IntKind.i64.wrap (x19 + (IntKind.i64.wrap (x6 * x8))) < 0))
 (some (zoetroperef23_around_ask.c243 a1 x2 x3 x4 x5 x6 x7 x8 M))
 (bb (decide (IntKind.i64.wrap (x18 + (IntKind.i64.wrap (x6 * x7))) < 0))
 (some (zoetroperef23_around_ask.c243 a1 x2 x3 x4 x5 x6 x7 x8 M))
 (ob ((M.ld a1).bind (Value.int? .i64)) fun x20 =>
 bb (decide (IntKind.i64.wrap (x19 + (IntKind.i64.wrap (x6 * x8))) ≥ x20))
 (some (zoetroperef23_around_ask.c243 a1 x2 x3 x4 x5 x6 x7 x8 M))
 (ob ((M.ld (plus a1 1)).bind (Value.int? .i64)) fun x21 =>
 bb (decide (IntKind.i64.wrap (x18 + (IntKind.i64.wrap (x6 * x7))) ≥ x21))
 (some (zoetroperef23_around_ask.c243 a1 x2 x3 x4 x5 x6 x7 x8 M))
 (ob ((M.ld (plus a1 2)).bind Value.slc?) fun s22 =>
 ob ((M.ld a1).bind (Value.int? .i64)) fun x23 =>
 pb (0 ≤ IntKind.i64.wrap ((IntKind.i64.wrap ((IntKind.i64.wrap (x18 + (IntKind.i64.wrap (x6 * x7)))) * x23)) + (IntKind.i64.wrap (x19 + (IntKind.i64.wrap (x6 * x8))))) ∧ IntKind.i64.wrap ((IntKind.i64.wrap ((IntKind.i64.wrap (x18 + (IntKind.i64.wrap (x6 * x7)))) * x23)) + (IntKind.i64.wrap (x19 + (IntKind.i64.wrap (x6 * x8))))) < (s22.n : Int))
 (ob s22.a fun a24 =>
 ob ((M.ld (plus a24 ((IntKind.i64.wrap ((IntKind.i64.wrap ((IntKind.i64.wrap (x18 + (IntKind.i64.wrap (x6 * x7)))) * x23)) + (IntKind.i64.wrap (x19 + (IntKind.i64.wrap (x6 * x8)))))).toNat))).bind (Value.int? .u8)) fun x25 =>
 ob ((if ((plus a1 5).block) < M.length then M.ld (plus a1 5) else none).bind (Value.int? .i64)) fun x26 =>
 ob (acall P T k M.length F.zoetroperef23_Limit [.int .i64 (IntKind.i64.wrap ((IntKind.i64.wrap x25) - x5)), .int .i64 x2, .int .i64 x3] M) fun r27 =>
 ob ((some r27.1).bind (Value.int? .i64)) fun x28 =>
 ob (r27.2.st lo (plus a1 5) [.int .i64 (IntKind.i64.wrap (x26 + (IntKind.i64.wrap (x4 * x28))))]) fun M29 =>
 ob ((M29.ld (plus a1 6)).bind (Value.int? .i64)) fun x30 =>
 ob (M29.st lo (plus a1 6) [.int .i64 (minI x30 (IntKind.i64.wrap x25))]) fun M31 =>
 ob ((M31.ld (plus a1 7)).bind (Value.int? .i64)) fun x32 =>
 ob (M31.st lo (plus a1 7) [.int .i64 (maxI x32 (IntKind.i64.wrap x25))]) fun M33 =>
 some (zoetroperef23_around_ask.c243 a1 x2 x3 x4 x5 x6 x7 x8 M33)) none)))))
 (some (.ret (.tuple ⟨[]⟩) M)) := by kernel_rfl
theorem zoetroperef23_around_ask.p243 (k lo : Nat) (a1 : Addr) (x2 : Int) (x3 : Int) (x4 : Int) (x5 : Int) (x6 : Int) (x7 : Int) (x8 : Int) (M : Mem) : piece P T k lo F.zoetroperef23_around_ask 243 [.v (.pointer (some a1)), .v (.int .i64 x2), .v (.int .i64 x3), .v (.int .i64 x4), .l 6 0, .v (.int .i64 x5), .v (.int .i64 x6)] [[.int .i64 x7, .int .i64 x8]] M =
 some (zoetroperef23_around_ask.c60 a1 x2 x3 x4 x5 (IntKind.i64.wrap (x6 + 2)) x7 x8 M) := by kernel_rfl
theorem zoetroperef23_steps.entry (k lo : Nat) (x1 : Int) (M : Mem) : entry P T k lo F.zoetroperef23_steps [.int .i64 x1] M =
 pb (0 ≤ Int.tmod x1 8 ∧ Int.tmod x1 8 < (8 : Int))
 (ob (((M ++ [⟨.fx, [.int .i64 (-1), .int .i64 1, .int .i64 (-2), .int .i64 2, .int .i64 0, .int .i64 1, .int .i64 (-1), .int .i64 2, .int .i64 0, .int .i64 1, .int .i64 0, .int .i64 2, .int .i64 0, .int .i64 1, .int .i64 1, .int .i64 2, .int .i64 1, .int .i64 1, .int .i64 2, .int .i64 2, .int .i64 1, .int .i64 0, .int .i64 2, .int .i64 1, .int .i64 1, .int .i64 0, .int .i64 2, .int .i64 0, .int .i64 1, .int .i64 0, .int .i64 2, .int .i64 (-1)]⟩] : Mem).ld (plus ⟨M.length, 0, none⟩ ((Int.tmod x1 8).toNat * 4))).bind (Value.int? .i64)) fun x7 =>
 ob (((M ++ [⟨.fx, [.int .i64 (-1), .int .i64 1, .int .i64 (-2), .int .i64 2, .int .i64 0, .int .i64 1, .int .i64 (-1), .int .i64 2, .int .i64 0, .int .i64 1, .int .i64 0, .int .i64 2, .int .i64 0, .int .i64 1, .int .i64 1, .int .i64 2, .int .i64 1, .int .i64 1, .int .i64 2, .int .i64 2, .int .i64 1, .int .i64 0, .int .i64 2, .int .i64 1, .int .i64 1, .int .i64 0, .int .i64 2, .int .i64 0, .int .i64 1, .int .i64 0, .int .i64 2, .int .i64 (-1)]⟩] : Mem).ld (plus (plus ⟨M.length, 0, none⟩ ((Int.tmod x1 8).toNat * 4)) 1)).bind (Value.int? .i64)) fun x8 =>
 ob (((M ++ [⟨.fx, [.int .i64 (-1), .int .i64 1, .int .i64 (-2), .int .i64 2, .int .i64 0, .int .i64 1, .int .i64 (-1), .int .i64 2, .int .i64 0, .int .i64 1, .int .i64 0, .int .i64 2, .int .i64 0, .int .i64 1, .int .i64 1, .int .i64 2, .int .i64 1, .int .i64 1, .int .i64 2, .int .i64 2, .int .i64 1, .int .i64 0, .int .i64 2, .int .i64 1, .int .i64 1, .int .i64 0, .int .i64 2, .int .i64 0, .int .i64 1, .int .i64 0, .int .i64 2, .int .i64 (-1)]⟩] : Mem).ld (plus (plus ⟨M.length, 0, none⟩ ((Int.tmod x1 8).toNat * 4)) 2)).bind (Value.int? .i64)) fun x9 =>
 ob (((M ++ [⟨.fx, [.int .i64 (-1), .int .i64 1, .int .i64 (-2), .int .i64 2, .int .i64 0, .int .i64 1, .int .i64 (-1), .int .i64 2, .int .i64 0, .int .i64 1, .int .i64 0, .int .i64 2, .int .i64 0, .int .i64 1, .int .i64 1, .int .i64 2, .int .i64 1, .int .i64 1, .int .i64 2, .int .i64 2, .int .i64 1, .int .i64 0, .int .i64 2, .int .i64 1, .int .i64 1, .int .i64 0, .int .i64 2, .int .i64 0, .int .i64 1, .int .i64 0, .int .i64 2, .int .i64 (-1)]⟩] : Mem).ld (plus (plus ⟨M.length, 0, none⟩ ((Int.tmod x1 8).toNat * 4)) 3)).bind (Value.int? .i64)) fun x10 =>
 some (.ret (.agg ⟨[.int .i64 x7, .int .i64 x8, .int .i64 x9, .int .i64 x10]⟩) (M ++ [⟨.fx, [.int .i64 (-1), .int .i64 1, .int .i64 (-2), .int .i64 2, .int .i64 0, .int .i64 1, .int .i64 (-1), .int .i64 2, .int .i64 0, .int .i64 1, .int .i64 0, .int .i64 2, .int .i64 0, .int .i64 1, .int .i64 1, .int .i64 2, .int .i64 1, .int .i64 1, .int .i64 2, .int .i64 2, .int .i64 1, .int .i64 0, .int .i64 2, .int .i64 1, .int .i64 1, .int .i64 0, .int .i64 2, .int .i64 0, .int .i64 1, .int .i64 0, .int .i64 2, .int .i64 (-1)]⟩] : Mem))) none := by kernel_rfl
theorem cdef_may_1.entry (k lo : Nat) (x1 : Int) (M : Mem) : entry P T k lo F.cdef_may_1 [.int .i64 x1] M =
 some (.ret (.int .i64 (IntKind.i64.wrap (Int.tdiv (IntKind.i64.wrap ((IntKind.i64.wrap (x1 + 64)) - 1)) 64))) M) := by kernel_rfl
theorem plane_Whole.entry (k lo : Nat) (x1 : Int) (x2 : Int) (A3 : Option Addr) (n4 : Nat) (c5 : Nat) (x6 : Int) (x7 : Int) (A8 : Option Addr) (n9 : Nat) (c10 : Nat) (x11 : Int) (x12 : Int) (A13 : Option Addr) (n14 : Nat) (c15 : Nat) (M : Mem) : entry P T k lo F.plane_Whole [.agg ⟨[.int .i64 x1, .int .i64 x2, .slice A3 n4 c5, .int .i64 x6, .int .i64 x7, .slice A8 n9 c10, .int .i64 x11, .int .i64 x12, .slice A13 n14 c15]⟩] M =
 some (plane_Whole.c116 x1 x2 x1 x2 A3 n4 c5 x6 x7 A8 n9 c10 x11 x12 A13 n14 c15 0 M) := by kernel_rfl
theorem plane_Whole.p116 (k lo : Nat) (x1 : Int) (x2 : Int) (x3 : Int) (x4 : Int) (A5 : Option Addr) (n6 : Nat) (c7 : Nat) (x8 : Int) (x9 : Int) (A10 : Option Addr) (n11 : Nat) (c12 : Nat) (x13 : Int) (x14 : Int) (A15 : Option Addr) (n16 : Nat) (c17 : Nat) (x18 : Int) (M : Mem) : piece P T k lo F.plane_Whole 116 [.v (.int .i64 x1), .v (.int .i64 x2), .v (.agg ⟨[.int .i64 x3, .int .i64 x4, .slice A5 n6 c7, .int .i64 x8, .int .i64 x9, .slice A10 n11 c12, .int .i64 x13, .int .i64 x14, .slice A15 n16 c17]⟩), .v (.int .i64 x18)] [] M =
 bb (decide (x18 < 3))
 (pb (0 ≤ x18 ∧ x18 < (3 : Int))
 (ob ((([.int .i64 x3, .int .i64 x4, .slice A5 n6 c7, .int .i64 x8, .int .i64 x9, .slice A10 n11 c12, .int .i64 x13, .int .i64 x14, .slice A15 n16 c17] : List Value)[x18.toNat * 3 + 0]?).bind (Value.int? .i64)) fun x21 =>
 ob ((([.int .i64 x3, .int .i64 x4, .slice A5 n6 c7, .int .i64 x8, .int .i64 x9, .slice A10 n11 c12, .int .i64 x13, .int .i64 x14, .slice A15 n16 c17] : List Value)[x18.toNat * 3 + 1]?).bind (Value.int? .i64)) fun x22 =>
 ob ((([.int .i64 x3, .int .i64 x4, .slice A5 n6 c7, .int .i64 x8, .int .i64 x9, .slice A10 n11 c12, .int .i64 x13, .int .i64 x14, .slice A15 n16 c17] : List Value)[x18.toNat * 3 + 2]?).bind Value.slc?) fun s23 =>
 ob (acall P T k lo F.plane_Check [.agg ⟨[.int .i64 x21, .int .i64 x22, .slice s23.a s23.n s23.c]⟩] M) fun r24 =>
 ob ((some r24.1).bind (Value.int? .i64)) fun x25 =>
 bb (x25 != 0)
 (some (.ret (.int .i64 2) r24.2))
 (ob (acall P T k lo F.plane_sides [.int .i64 x1, .int .i64 x2] r24.2) fun r26 =>
 ob ((some r26.1).bind Value.bool?) fun b27 =>
 bb (!b27)
 (some (.ret (.int .i64 2) r26.2))
 (pb ((minI x18 1) < 0) none
 (bb (x21 != shrI .i64 x1 ((minI x18 1).toNat))
 (some (.ret (.int .i64 2) r26.2))
 (pb ((minI x18 1) < 0) none
 (bb (x22 != shrI .i64 x2 ((minI x18 1).toNat))
 (some (.ret (.int .i64 2) r26.2))
 (some (plane_Whole.c116 x1 x2 x3 x4 A5 n6 c7 x8 x9 A10 n11 c12 x13 x14 A15 n16 c17 (IntKind.i64.wrap (x18 + 1)) r26.2)))))))) none)
 (some (.ret (.int .i64 0) M)) := by kernel_rfl
theorem slices_ContainsFunc__int_int.entry (k lo : Nat) (A1 : Option Addr) (n2 : Nat) (c3 : Nat) (v4 : Value) (M : Mem) : entry P T k lo F.slices_ContainsFunc__int_int [.slice A1 n2 c3, v4] M =
 ob (acall P T k lo F.slices_IndexFunc__int_int [.slice A1 n2 c3, v4] M) fun r10 =>
 ob ((some r10.1).bind (Value.int? .i64)) fun x11 =>
 some (.ret (.bool (decide (x11 ≥ 0))) r10.2) := by kernel_rfl
theorem cdef_may_2.entry (k lo : Nat) (x1 : Int) (a2 : Addr) (M : Mem) : entry P T k lo F.cdef_may_2 [.int .i64 x1, .pointer (some a2)] M =
 ob ((M.ld (plus a2 26)).bind Value.slc?) fun s8 =>
 ob (acall P T k lo F.cdef_within [.int .i64 x1, .int .i64 0, .int .i64 (IntKind.i64.wrap ((s8.n : Int) - 1))] M) fun r9 =>
 ob ((some r9.1).bind Value.bool?) fun b10 =>
 some (.ret (.bool (!b10)) r9.2) := by kernel_rfl
theorem zoetroperef05_Whole.entry (k lo : Nat) (x1 : Int) (x2 : Int) (A3 : Option Addr) (n4 : Nat) (c5 : Nat) (x6 : Int) (x7 : Int) (A8 : Option Addr) (n9 : Nat) (c10 : Nat) (x11 : Int) (x12 : Int) (A13 : Option Addr) (n14 : Nat) (c15 : Nat) (M : Mem) : entry P T k lo F.zoetroperef05_Whole [.agg ⟨[.int .i64 x1, .int .i64 x2, .slice A3 n4 c5, .int .i64 x6, .int .i64 x7, .slice A8 n9 c10, .int .i64 x11, .int .i64 x12, .slice A13 n14 c15]⟩] M =
 ob (acall P T k lo F.zoetroperef05_Check [.agg ⟨[.int .i64 x1, .int .i64 x2, .slice A3 n4 c5]⟩] M) fun r21 =>
 ob ((some r21.1).bind (Value.int? .i64)) fun x22 =>
 bb (x22 != 0)
 (some (.ret (.int .i64 2) r21.2))
 (ob (acall P T k lo F.zoetroperef05_side [.int .i64 x1] r21.2) fun r23 =>
 ob ((some r23.1).bind Value.bool?) fun b24 =>
 bb (!b24)
 (some (.ret (.int .i64 2) r23.2))
 (ob (acall P T k lo F.zoetroperef05_side [.int .i64 x2] r23.2) fun r25 =>
 ob ((some r25.1).bind Value.bool?) fun b26 =>
 bb (!b26)
 (some (.ret (.int .i64 2) r25.2))
 (some (zoetroperef05_Whole.c116 1 x1 x2 A3 n4 c5 x6 x7 A8 n9 c10 x11 x12 A13 n14 c15 r25.2)))) := by kernel_rfl
theorem zoetroperef05_Whole.p116 (k lo : Nat) (x1 : Int) (x2 : Int) (x3 : Int) (A4 : Option Addr) (n5 : Nat) (c6 : Nat) (x7 : Int) (x8 : Int) (A9 : Option Addr) (n10 : Nat) (c11 : Nat) (x12 : Int) (x13 : Int) (A14 : Option Addr) (n15 : Nat) (c16 : Nat) (M : Mem) : piece P T k lo F.zoetroperef05_Whole 116 [.l 1 0, .v (.int .i64 x1)] [[.int .i64 x2, .int .i64 x3, .slice A4 n5 c6, .int .i64 x7, .int .i64 x8, .slice A9 n10 c11, .int .i64 x12, .int .i64 x13, .slice A14 n15 c16]] M =
 bb (decide (x1 < 3))
 (pb (0 ≤ x1 ∧ x1 < (3 : Int))
 (ob ((([.int .i64 x2, .int .i64 x3, .slice A4 n5 c6, .int .i64 x7, .int .i64 x8, .slice A9 n10 c11, .int .i64 x12, .int .i64 x13, .slice A14 n15 c16] : List Value)[0 + (x1.toNat * 3) + 0]?).bind (Value.int? .i64)) fun x27 =>
 ob ((([.int .i64 x2, .int .i64 x3, .slice A4 n5 c6, .int .i64 x7, .int .i64 x8, .slice A9 n10 c11, .int .i64 x12, .int .i64 x13, .slice A14 n15 c16] : List Value)[0 + (x1.toNat * 3) + 1]?).bind (Value.int? .i64)) fun x28 =>
 ob ((([.int .i64 x2, .int .i64 x3, .slice A4 n5 c6, .int .i64 x7, .int .i64 x8, .slice A9 n10 c11, .int .i64 x12, .int .i64 x13, .slice A14 n15 c16] : List Value)[0 + (x1.toNat * 3) + 2]?).bind Value.slc?) fun s29 =>
 ob (acall P T k lo F.zoetroperef05_Check [.agg ⟨[.int .i64 x27, .int .i64 x28, .slice s29.a s29.n s29.c]⟩] M) fun r30 =>
 ob ((some r30.1).bind (Value.int? .i64)) fun x31 =>
 bb (x31 != 0)
 (some (.ret (.int .i64 2) r30.2))
 (pb (0 ≤ x1 ∧ x1 < (3 : Int))
 (ob ((([.int .i64 x2, .int .i64 x3, .slice A4 n5 c6, .int .i64 x7, .int .i64 x8, .slice A9 n10 c11, .int .i64 x12, .int .i64 x13, .slice A14 n15 c16] : List Value)[0 + (x1.toNat * 3) + 0 + 0]?).bind (Value.int? .i64)) fun x32 =>
 bb (x32 != IntKind.i64.wrap (Int.tdiv x2 2))
 (some (.ret (.int .i64 2) r30.2))
 (pb (0 ≤ x1 ∧ x1 < (3 : Int))
 (ob ((([.int .i64 x2, .int .i64 x3, .slice A4 n5 c6, .int .i64 x7, .int .i64 x8, .slice A9 n10 c11, .int .i64 x12, .int .i64 x13, .slice A14 n15 c16] : List Value)[0 + (x1.toNat * 3) + 1 + 0]?).bind (Value.int? .i64)) fun x33 =>
 bb (x33 != IntKind.i64.wrap (Int.tdiv x3 2))
 (some (.ret (.int .i64 2) r30.2))
 (some (zoetroperef05_Whole.c116 (IntKind.i64.wrap (x1 + 1)) x2 x3 A4 n5 c6 x7 x8 A9 n10 c11 x12 x13 A14 n15 c16 r30.2))) none)) none)) none)
 (some (.ret (.int .i64 0) M)) := by kernel_rfl
theorem zoetroperef23_strength.entry (k lo : Nat) (x1 : Int) (x2 : Int) (x3 : Int) (x4 : Int) (M : Mem) : entry P T k lo F.zoetroperef23_strength [.agg ⟨[.int .i64 x1, .int .i64 x2, .int .i64 x3, .int .i64 x4]⟩] M =
 bb (decide (x1 ≥ 0))
 (bb (decide (x1 ≤ 15))
 (bb (decide (x3 ≥ 0))
 (bb (decide (x3 ≤ 15))
 (bb (decide (x2 ≥ 0))
 (bb (decide (x2 ≤ 3))
 (bb (decide (x4 ≥ 0))
 (some (.ret (.bool (decide (x4 ≤ 3))) M))
 (some (.ret (.bool false) M)))
 (some (.ret (.bool false) M)))
 (some (.ret (.bool false) M)))
 (some (.ret (.bool false) M)))
 (some (.ret (.bool false) M)))
 (some (.ret (.bool false) M)))
 (some (.ret (.bool false) M)) := by kernel_rfl
theorem zoetroperef05_Cut.entry (k lo : Nat) (x1 : Int) (x2 : Int) (A3 : Option Addr) (n4 : Nat) (c5 : Nat) (x6 : Int) (x7 : Int) (x8 : Int) (x9 : Int) (M : Mem) : entry P T k lo F.zoetroperef05_Cut [.agg ⟨[.int .i64 x1, .int .i64 x2, .slice A3 n4 c5]⟩, .agg ⟨[.int .i64 x6, .int .i64 x7, .int .i64 x8, .int .i64 x9]⟩] M =
 ob (acall P T k lo F.zoetroperef05_Check [.agg ⟨[.int .i64 x1, .int .i64 x2, .slice A3 n4 c5]⟩] M) fun r15 =>
 ob ((some r15.1).bind (Value.int? .i64)) fun x16 =>
 bb (x16 != 0)
 (some (.ret (.tuple ⟨[.slice none 0 0, .int .i64 2]⟩) r15.2))
 (ob (acall P T k lo F.zoetroperef05_Within [.agg ⟨[.int .i64 x1, .int .i64 x2, .slice A3 n4 c5]⟩, .agg ⟨[.int .i64 x6, .int .i64 x7, .int .i64 x8, .int .i64 x9]⟩] r15.2) fun r17 =>
 ob ((some r17.1).bind Value.bool?) fun b18 =>
 bb (!b18)
 (some (.ret (.tuple ⟨[.slice none 0 0, .int .i64 2]⟩) r17.2))
 (some (zoetroperef05_Cut.c244 none 0 0 x7 x1 x2 A3 n4 c5 x6 x7 x8 x9 r17.2))) := by kernel_rfl
theorem zoetroperef05_Cut.p244 (k lo : Nat) (A1 : Option Addr) (n2 : Nat) (c3 : Nat) (x4 : Int) (x5 : Int) (x6 : Int) (A7 : Option Addr) (n8 : Nat) (c9 : Nat) (x10 : Int) (x11 : Int) (x12 : Int) (x13 : Int) (M : Mem) : piece P T k lo F.zoetroperef05_Cut 244 [.l 2 0, .l 3 0, .v (.slice A1 n2 c3), .v (.int .i64 x4)] [[.int .i64 x5, .int .i64 x6, .slice A7 n8 c9], [.int .i64 x10, .int .i64 x11, .int .i64 x12, .int .i64 x13]] M =
 bb (decide (x4 < IntKind.i64.wrap (x11 + x13)))
 (some (zoetroperef05_Cut.c15652 A1 n2 c3 x4 x10 x5 x6 A7 n8 c9 x10 x11 x12 x13 M))
 (some (.ret (.tuple ⟨[.slice A1 n2 c3, .int .i64 0]⟩) M)) := by kernel_rfl
theorem zoetroperef05_Cut.p15652 (k lo : Nat) (A1 : Option Addr) (n2 : Nat) (c3 : Nat) (x4 : Int) (x5 : Int) (x6 : Int) (x7 : Int) (A8 : Option Addr) (n9 : Nat) (c10 : Nat) (x11 : Int) (x12 : Int) (x13 : Int) (x14 : Int) (M : Mem) : piece P T k lo F.zoetroperef05_Cut 15652 [.l 2 0, .l 3 0, .v (.slice A1 n2 c3), .v (.int .i64 x4), .v (.int .i64 x5)] [[.int .i64 x6, .int .i64 x7, .slice A8 n9 c10], [.int .i64 x11, .int .i64 x12, .int .i64 x13, .int .i64 x14]] M =
 bb (decide (x5 < IntKind.i64.wrap (x11 + x13)))
 (pb (0 ≤ IntKind.i64.wrap ((IntKind.i64.wrap (x4 * x6)) + x5) ∧ IntKind.i64.wrap ((IntKind.i64.wrap (x4 * x6)) + x5) < (n9 : Int))
 (ob A8 fun a19 =>
 ob ((M.ld (plus a19 ((IntKind.i64.wrap ((IntKind.i64.wrap (x4 * x6)) + x5)).toNat))).bind (Value.int? .u8)) fun x20 =>
 ob (M.app lo 1 1 ⟨A1, n2, c3⟩ ([.int .u8 x20]) 1) fun r21 =>
 some (zoetroperef05_Cut.c15652 r21.1.a r21.1.n r21.1.c x4 (IntKind.i64.wrap (x5 + 1)) x6 x7 A8 n9 c10 x11 x12 x13 x14 r21.2)) none)
 (some (zoetroperef05_Cut.c244 A1 n2 c3 (IntKind.i64.wrap (x4 + 1)) x6 x7 A8 n9 c10 x11 x12 x13 x14 M)) := by kernel_rfl
theorem zoetroperef23_sec.entry (k lo : Nat) (x1 : Int) (M : Mem) : entry P T k lo F.zoetroperef23_sec [.int .i64 x1] M =
 bb (x1 == 3)
 (some (.ret (.int .i64 4) M))
 (some (.ret (.int .i64 x1) M)) := by kernel_rfl
theorem zoetroperef23_lay.entry (k lo : Nat) (x1 : Int) (x2 : Int) (A3 : Option Addr) (n4 : Nat) (c5 : Nat) (x6 : Int) (x7 : Int) (x8 : Int) (x9 : Int) (A10 : Option Addr) (n11 : Nat) (c12 : Nat) (M : Mem) : entry P T k lo F.zoetroperef23_lay [.agg ⟨[.int .i64 x1, .int .i64 x2, .slice A3 n4 c5]⟩, .agg ⟨[.int .i64 x6, .int .i64 x7, .int .i64 x8, .int .i64 x9]⟩, .slice A10 n11 c12] M =
 some (zoetroperef23_lay.c28 A10 n11 c12 0 x1 x2 A3 n4 c5 x6 x7 x8 x9 M) := by kernel_rfl
theorem zoetroperef23_lay.p28 (k lo : Nat) (A1 : Option Addr) (n2 : Nat) (c3 : Nat) (x4 : Int) (x5 : Int) (x6 : Int) (A7 : Option Addr) (n8 : Nat) (c9 : Nat) (x10 : Int) (x11 : Int) (x12 : Int) (x13 : Int) (M : Mem) : piece P T k lo F.zoetroperef23_lay 28 [.v (.slice A1 n2 c3), .l 3 0, .l 4 0, .v (.int .i64 x4)] [[.int .i64 x5, .int .i64 x6, .slice A7 n8 c9], [.int .i64 x10, .int .i64 x11, .int .i64 x12, .int .i64 x13]] M =
 bb (decide (x4 < (n2 : Int)))
 (pb (x12 = 0) none
 (pb (x12 = 0) none
 (pb (0 ≤ x4 ∧ x4 < (n2 : Int))
 (ob A1 fun a18 =>
 ob ((M.ld (plus a18 x4.toNat)).bind (Value.int? .u8)) fun x19 =>
 pb (0 ≤ IntKind.i64.wrap ((IntKind.i64.wrap ((IntKind.i64.wrap ((IntKind.i64.wrap (x11 + (IntKind.i64.wrap (Int.tdiv x4 x12)))) * x5)) + x10)) + (Int.tmod x4 x12)) ∧ IntKind.i64.wrap ((IntKind.i64.wrap ((IntKind.i64.wrap ((IntKind.i64.wrap (x11 + (IntKind.i64.wrap (Int.tdiv x4 x12)))) * x5)) + x10)) + (Int.tmod x4 x12)) < (n8 : Int))
 (ob A7 fun a20 =>
 ob (M.st lo (plus a20 ((IntKind.i64.wrap ((IntKind.i64.wrap ((IntKind.i64.wrap ((IntKind.i64.wrap (x11 + (IntKind.i64.wrap (Int.tdiv x4 x12)))) * x5)) + x10)) + (Int.tmod x4 x12))).toNat)) [.int .u8 x19]) fun M21 =>
 some (zoetroperef23_lay.c28 A1 n2 c3 (IntKind.i64.wrap (x4 + 1)) x5 x6 A7 n8 c9 x10 x11 x12 x13 M21)) none) none)))
 (some (.ret (.tuple ⟨[]⟩) M)) := by kernel_rfl
theorem slices_Equal__uint8_uint8.entry (k lo : Nat) (A1 : Option Addr) (n2 : Nat) (c3 : Nat) (A4 : Option Addr) (n5 : Nat) (c6 : Nat) (M : Mem) : entry P T k lo F.slices_Equal__uint8_uint8 [.slice A1 n2 c3, .slice A4 n5 c6] M =
 bb ((n2 : Int) != (n5 : Int))
 (some (.ret (.bool false) M))
 (some (slices_Equal__uint8_uint8.c116 A1 n2 c3 A4 n5 c6 (n2 : Int) 0 M)) := by kernel_rfl
theorem slices_Equal__uint8_uint8.p116 (k lo : Nat) (A1 : Option Addr) (n2 : Nat) (c3 : Nat) (A4 : Option Addr) (n5 : Nat) (c6 : Nat) (x7 : Int) (x8 : Int) (M : Mem) : piece P T k lo F.slices_Equal__uint8_uint8 116 [.v (.slice A1 n2 c3), .v (.slice A4 n5 c6), .v (.int .i64 x7), .v (.int .i64 x8)] [] M =
 bb (decide (x8 < x7))
 (pb (0 ≤ x8 ∧ x8 < (n2 : Int))
 (ob A1 fun a12 =>
 ob ((M.ld (plus a12 x8.toNat)).bind (Value.int? .u8)) fun x13 =>
 pb (0 ≤ x8 ∧ x8 < (n5 : Int))
 (ob A4 fun a14 =>
 ob ((M.ld (plus a14 x8.toNat)).bind (Value.int? .u8)) fun x15 =>
 bb (x13 != x15)
 (some (.ret (.bool false) M))
 (some (slices_Equal__uint8_uint8.c116 A1 n2 c3 A4 n5 c6 x7 (IntKind.i64.wrap (x8 + 1)) M))) none) none)
 (some (.ret (.bool true) M)) := by kernel_rfl
theorem slices_Repeat__uint8_uint8.entry (k lo : Nat) (A1 : Option Addr) (n2 : Nat) (c3 : Nat) (x4 : Int) (M : Mem) : entry P T k lo F.slices_Repeat__uint8_uint8 [.slice A1 n2 c3, .int .i64 x4] M =
 bb (decide (x4 < 0))
 (none)
 (some (slices_Repeat__uint8_uint8.c7 A1 n2 c3 x4 M)) := by kernel_rfl
theorem slices_Repeat__uint8_uint8.p7 (k lo : Nat) (A1 : Option Addr) (n2 : Nat) (c3 : Nat) (x4 : Int) (M : Mem) : piece P T k lo F.slices_Repeat__uint8_uint8 7 [.v (.slice A1 n2 c3), .v (.int .i64 x4)] [] M =
 ob (acall P T k lo F.math_bits_Mul [.int .u64 (IntKind.u64.wrap (n2 : Int)), .int .u64 (IntKind.u64.wrap x4)] M) fun r10 =>
 ob (r10.1.tup? 2) fun l11 =>
 ob ((l11[0]?).bind (Value.int? .u64)) fun x12 =>
 ob ((l11[1]?).bind (Value.int? .u64)) fun x13 =>
 bb (decide (x12 > 0))
 (none)
 (bb (decide (x13 > 9223372036854775807))
 (none)
 (some (slices_Repeat__uint8_uint8.c31 A1 n2 c3 x13 r10.2))) := by kernel_rfl
theorem slices_Repeat__uint8_uint8.p31 (k lo : Nat) (A1 : Option Addr) (n2 : Nat) (c3 : Nat) (x4 : Int) (M : Mem) : piece P T k lo F.slices_Repeat__uint8_uint8 31 [.v (.slice A1 n2 c3), .v (.int .u64 x4)] [] M =
 pb (0 ≤ IntKind.i64.wrap x4 ∧ room ((IntKind.i64.wrap x4).toNat) 1)
 (ob (Mem.src (M ++ [⟨.fx, zerosL [.int .u8 0] ((IntKind.i64.wrap x4).toNat)⟩] : Mem) A1 (Nat.min n2 ((IntKind.i64.wrap x4).toNat)) (Nat.min n2 ((IntKind.i64.wrap x4).toNat))) fun l14 =>
 pb (Nat.min n2 ((IntKind.i64.wrap x4).toNat) = 0) (some (slices_Repeat__uint8_uint8.c1016 (some ⟨M.length, 0, none⟩) ((IntKind.i64.wrap x4).toNat) ((IntKind.i64.wrap x4).toNat) 0 (M ++ [⟨.fx, zerosL [.int .u8 0] ((IntKind.i64.wrap x4).toNat)⟩] : Mem)))
 (ob ((M ++ [⟨.fx, zerosL [.int .u8 0] ((IntKind.i64.wrap x4).toNat)⟩] : Mem).st lo ⟨M.length, 0, none⟩ l14) fun M15 =>
 some (slices_Repeat__uint8_uint8.c1016 (some ⟨M.length, 0, none⟩) ((IntKind.i64.wrap x4).toNat) ((IntKind.i64.wrap x4).toNat) ((Nat.min n2 ((IntKind.i64.wrap x4).toNat) : Nat) : Int) M15))) none := by kernel_rfl
theorem slices_Repeat__uint8_uint8.p1016 (k lo : Nat) (A1 : Option Addr) (n2 : Nat) (c3 : Nat) (x4 : Int) (M : Mem) : piece P T k lo F.slices_Repeat__uint8_uint8 1016 [.v (.slice A1 n2 c3), .v (.int .i64 x4)] [] M =
 bb (decide (x4 < (n2 : Int)))
 (pb (0 ≤ x4 ∧ x4 ≤ (n2 : Int))
 (pb (0 ≤ (0 : Int) ∧ (0 : Int) ≤ x4 ∧ x4 ≤ (c3 : Int))
 (ob (Mem.src M (slAddr 1 A1 0 c3) (Nat.min (x4.toNat - 0) (n2 - x4.toNat)) (Nat.min (x4.toNat - 0) (n2 - x4.toNat))) fun l17 =>
 pb (Nat.min (x4.toNat - 0) (n2 - x4.toNat) = 0) (some (slices_Repeat__uint8_uint8.c1016 A1 n2 c3 (IntKind.i64.wrap (x4 + 0)) M))
 (ob (slAddr 1 A1 x4.toNat c3) fun a19 =>
 ob (M.st lo a19 l17) fun M18 =>
 some (slices_Repeat__uint8_uint8.c1016 A1 n2 c3 (IntKind.i64.wrap (x4 + ((Nat.min (x4.toNat - 0) (n2 - x4.toNat) : Nat) : Int))) M18))) none) none)
 (some (.ret (.slice A1 n2 c3) M)) := by kernel_rfl
theorem slices_IndexFunc__int_int.entry (k lo : Nat) (A1 : Option Addr) (n2 : Nat) (c3 : Nat) (v4 : Value) (M : Mem) : entry P T k lo F.slices_IndexFunc__int_int [.slice A1 n2 c3, v4] M =
 some (slices_IndexFunc__int_int.c52 A1 n2 c3 v4 (n2 : Int) 0 M) := by kernel_rfl
theorem slices_IndexFunc__int_int.p52 (k lo : Nat) (A1 : Option Addr) (n2 : Nat) (c3 : Nat) (v4 : Value) (x5 : Int) (x6 : Int) (M : Mem) : piece P T k lo F.slices_IndexFunc__int_int 52 [.v (.slice A1 n2 c3), .v v4, .v (.int .i64 x5), .v (.int .i64 x6)] [] M =
 bb (decide (x6 < x5))
 (pb (0 ≤ x6 ∧ x6 < (n2 : Int))
 (ob A1 fun a10 =>
 ob ((M.ld (plus a10 x6.toNat)).bind (Value.int? .i64)) fun x11 =>
 ob (Value.fun? v4) fun q13 =>
 ob (acall P T k lo q13.1 (q13.2.1 ++ [.int .i64 x11] ++ q13.2.2) M) fun r12 =>
 ob ((some r12.1).bind Value.bool?) fun b14 =>
 bb b14
 (some (.ret (.int .i64 x6) r12.2))
 (some (slices_IndexFunc__int_int.c52 A1 n2 c3 v4 x5 (IntKind.i64.wrap (x6 + 1)) r12.2))) none)
 (some (.ret (.int .i64 (-1)) M)) := by kernel_rfl
theorem zoetroperef05_side.entry (k lo : Nat) (x1 : Int) (M : Mem) : entry P T k lo F.zoetroperef05_side [.int .i64 x1] M =
 bb (Int.tmod x1 2 == 0)
 (bb (decide (x1 ≥ 16))
 (some (.ret (.bool (decide (x1 ≤ 256))) M))
 (some (.ret (.bool false) M)))
 (some (.ret (.bool false) M)) := by kernel_rfl
theorem math_bits_Mul.entry (k lo : Nat) (x1 : Int) (x2 : Int) (M : Mem) : entry P T k lo F.math_bits_Mul [.int .u64 x1, .int .u64 x2] M =
 ob (acall P T k lo F.math_bits_Mul64 [.int .u64 x1, .int .u64 x2] M) fun r8 =>
 ob (r8.1.tup? 2) fun l9 =>
 ob ((l9[0]?).bind (Value.int? .u64)) fun x10 =>
 ob ((l9[1]?).bind (Value.int? .u64)) fun x11 =>
 some (.ret (.tuple ⟨[.int .u64 x10, .int .u64 x11]⟩) r8.2) := by kernel_rfl
theorem math_bits_Mul32.entry (k lo : Nat) (x1 : Int) (x2 : Int) (M : Mem) : entry P T k lo F.math_bits_Mul32 [.int .u32 x1, .int .u32 x2] M =
 some (.ret (.tuple ⟨[.int .u32 (IntKind.u32.wrap (shrI .u64 (IntKind.u64.wrap ((IntKind.u64.wrap x1) * (IntKind.u64.wrap x2))) 32)), .int .u32 (IntKind.u32.wrap (IntKind.u64.wrap ((IntKind.u64.wrap x1) * (IntKind.u64.wrap x2))))]⟩) M) := by kernel_rfl
theorem math_bits_Mul64.entry (k lo : Nat) (x1 : Int) (x2 : Int) (M : Mem) : entry P T k lo F.math_bits_Mul64 [.int .u64 x1, .int .u64 x2] M =
 some (.ret (.tuple ⟨[.int .u64 (IntKind.u64.wrap ((IntKind.u64.wrap ((IntKind.u64.wrap ((shrI .u64 x1 32) * (shrI .u64 x2 32))) + (shrI .u64 (IntKind.u64.wrap ((IntKind.u64.wrap ((shrI .u64 x1 32) * (andI .u64 x2 4294967295))) + (shrI .u64 (IntKind.u64.wrap ((andI .u64 x1 4294967295) * (andI .u64 x2 4294967295))) 32))) 32))) + (shrI .u64 (IntKind.u64.wrap ((andI .u64 (IntKind.u64.wrap ((IntKind.u64.wrap ((shrI .u64 x1 32) * (andI .u64 x2 4294967295))) + (shrI .u64 (IntKind.u64.wrap ((andI .u64 x1 4294967295) * (andI .u64 x2 4294967295))) 32))) 4294967295) + (IntKind.u64.wrap ((andI .u64 x1 4294967295) * (shrI .u64 x2 32))))) 32))), .int .u64 (IntKind.u64.wrap (x1 * x2))]⟩) M) := by kernel_rfl
end Go.Zt
