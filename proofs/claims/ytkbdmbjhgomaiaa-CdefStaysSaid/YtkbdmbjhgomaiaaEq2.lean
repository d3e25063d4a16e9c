/- What functions come to, from cut to cut. -/
import Derived.Test.YtkbdmbjhgomaiaaEq0
import Derived.KernelRfl
set_option maxRecDepth 100000
set_option maxHeartbeats 4000000
set_option linter.unusedVariables false
namespace Go.Zt
theorem zoetroperef23_Frame.entry (k lo : Nat) (x1 : Int) (x2 : Int) (A3 : Option Addr) (n4 : Nat) (c5 : Nat) (x6 : Int) (x7 : Int) (A8 : Option Addr) (n9 : Nat) (c10 : Nat) (x11 : Int) (x12 : Int) (A13 : Option Addr) (n14 : Nat) (c15 : Nat) (A16 : Option Addr) (n17 : Nat) (c18 : Nat) (A19 : Option Addr) (n20 : Nat) (c21 : Nat) (b22 : Bool) (x23 : Int) (b24 : Bool) (b25 : Bool) (x26 : Int) (x27 : Int) (x28 : Int) (x29 : Int) (x30 : Int) (x31 : Int) (x32 : Int) (x33 : Int) (x34 : Int) (x35 : Int) (x36 : Int) (x37 : Int) (x38 : Int) (b39 : Bool) (x40 : Int) (x41 : Int) (x42 : Int) (x43 : Int) (x44 : Int) (b45 : Bool) (x46 : Int) (x47 : Int) (A48 : Option Addr) (n49 : Nat) (c50 : Nat) (b51 : Bool) (b52 : Bool) (b53 : Bool) (M : Mem) : entry P T k lo F.zoetroperef23_Frame [.agg ⟨[.int .i64 x1, .int .i64 x2, .slice A3 n4 c5, .int .i64 x6, .int .i64 x7, .slice A8 n9 c10, .int .i64 x11, .int .i64 x12, .slice A13 n14 c15]⟩, .slice A16 n17 c18, .slice A19 n20 c21, .agg ⟨[.bool b22, .int .i64 x23, .bool b24, .bool b25, .int .i64 x26, .int .i64 x27, .int .i64 x28, .int .i64 x29, .int .i64 x30, .int .i64 x31, .int .i64 x32, .int .i64 x33, .int .i64 x34, .int .i64 x35, .int .i64 x36, .int .i64 x37, .int .i64 x38, .bool b39, .int .i64 x40, .int .i64 x41, .int .i64 x42, .int .i64 x43, .int .i64 x44, .bool b45, .int .i64 x46, .int .i64 x47, .slice A48 n49 c50, .bool b51, .bool b52, .bool b53]⟩] M =
 ob (acall P T k lo F.zoetroperef23_may [.agg ⟨[.int .i64 x1, .int .i64 x2, .slice A3 n4 c5, .int .i64 x6, .int .i64 x7, .slice A8 n9 c10, .int .i64 x11, .int .i64 x12, .slice A13 n14 c15]⟩, .slice A16 n17 c18, .slice A19 n20 c21, .agg ⟨[.bool b22, .int .i64 x23, .bool b24, .bool b25, .int .i64 x26, .int .i64 x27, .int .i64 x28, .int .i64 x29, .int .i64 x30, .int .i64 x31, .int .i64 x32, .int .i64 x33, .int .i64 x34, .int .i64 x35, .int .i64 x36, .int .i64 x37, .int .i64 x38, .bool b39, .int .i64 x40, .int .i64 x41, .int .i64 x42, .int .i64 x43, .int .i64 x44, .bool b45, .int .i64 x46, .int .i64 x47, .slice A48 n49 c50, .bool b51, .bool b52, .bool b53]⟩] M) fun r59 =>
 ob ((some r59.1).bind Value.bool?) fun b60 =>
 bb (!b60)
 (some (.ret (.tuple ⟨[.agg ⟨[.int .i64 0, .int .i64 0, .slice none 0 0, .int .i64 0, .int .i64 0, .slice none 0 0, .int .i64 0, .int .i64 0, .slice none 0 0]⟩, .int .i64 2]⟩) r59.2))
 (ob (acall P T k lo F.zoetroperef05_CopyFrame [.agg ⟨[.int .i64 x1, .int .i64 x2, .slice A3 n4 c5, .int .i64 x6, .int .i64 x7, .slice A8 n9 c10, .int .i64 x11, .int .i64 x12, .slice A13 n14 c15]⟩] r59.2) fun r61 =>
 ob ((some r61.1).bind (Value.agg? 9)) fun l62 =>
 ob ((l62[0]?).bind (Value.int? .i64)) fun x63 =>
 ob ((l62[1]?).bind (Value.int? .i64)) fun x64 =>
 ob ((l62[2]?).bind Value.slc?) fun s65 =>
 ob ((l62[3]?).bind (Value.int? .i64)) fun x66 =>
 ob ((l62[4]?).bind (Value.int? .i64)) fun x67 =>
 ob ((l62[5]?).bind Value.slc?) fun s68 =>
 ob ((l62[6]?).bind (Value.int? .i64)) fun x69 =>
 ob ((l62[7]?).bind (Value.int? .i64)) fun x70 =>
 ob ((l62[8]?).bind Value.slc?) fun s71 =>
 bb (!b45)
 (some (.ret (.tuple ⟨[.agg ⟨[.int .i64 x63, .int .i64 x64, .slice s65.a s65.n s65.c, .int .i64 x66, .int .i64 x67, .slice s68.a s68.n s68.c, .int .i64 x69, .int .i64 x70, .slice s71.a s71.n s71.c]⟩, .int .i64 0]⟩) r61.2))
 (some (zoetroperef23_Frame.c1012 A16 n17 c18 A19 n20 c21 x1 x2 0 x1 x2 A3 n4 c5 x6 x7 A8 n9 c10 x11 x12 A13 n14 c15 b22 x23 b24 b25 x26 x27 x28 x29 x30 x31 x32 x33 x34 x35 x36 x37 x38 b39 x40 x41 x42 x43 x44 b45 x46 x47 A48 n49 c50 b51 b52 b53 0 0 none 0 0 0 0 none 0 0 0 0 none 0 0 x63 x64 s65.a s65.n s65.c x66 x67 s68.a s68.n s68.c x69 x70 s71.a s71.n s71.c r61.2))) := by kernel_rfl
theorem zoetroperef23_Frame.p1012 (k lo : Nat) (A1 : Option Addr) (n2 : Nat) (c3 : Nat) (A4 : Option Addr) (n5 : Nat) (c6 : Nat) (x7 : Int) (x8 : Int) (x9 : Int) (x10 : Int) (x11 : Int) (A12 : Option Addr) (n13 : Nat) (c14 : Nat) (x15 : Int) (x16 : Int) (A17 : Option Addr) (n18 : Nat) (c19 : Nat) (x20 : Int) (x21 : Int) (A22 : Option Addr) (n23 : Nat) (c24 : Nat) (b25 : Bool) (x26 : Int) (b27 : Bool) (b28 : Bool) (x29 : Int) (x30 : Int) (x31 : Int) (x32 : Int) (x33 : Int) (x34 : Int) (x35 : Int) (x36 : Int) (x37 : Int) (x38 : Int) (x39 : Int) (x40 : Int) (x41 : Int) (b42 : Bool) (x43 : Int) (x44 : Int) (x45 : Int) (x46 : Int) (x47 : Int) (b48 : Bool) (x49 : Int) (x50 : Int) (A51 : Option Addr) (n52 : Nat) (c53 : Nat) (b54 : Bool) (b55 : Bool) (b56 : Bool) (x57 : Int) (x58 : Int) (A59 : Option Addr) (n60 : Nat) (c61 : Nat) (x62 : Int) (x63 : Int) (A64 : Option Addr) (n65 : Nat) (c66 : Nat) (x67 : Int) (x68 : Int) (A69 : Option Addr) (n70 : Nat) (c71 : Nat) (x72 : Int) (x73 : Int) (A74 : Option Addr) (n75 : Nat) (c76 : Nat) (x77 : Int) (x78 : Int) (A79 : Option Addr) (n80 : Nat) (c81 : Nat) (x82 : Int) (x83 : Int) (A84 : Option Addr) (n85 : Nat) (c86 : Nat) (M : Mem) : piece P T k lo F.zoetroperef23_Frame 1012 [.v (.slice A1 n2 c3), .v (.slice A4 n5 c6), .l 4 0, .l 7 0, .l 8 0, .l 10 0, .v (.int .i64 x7), .v (.int .i64 x8), .v (.int .i64 x9)] [[.int .i64 x10, .int .i64 x11, .slice A12 n13 c14, .int .i64 x15, .int .i64 x16, .slice A17 n18 c19, .int .i64 x20, .int .i64 x21, .slice A22 n23 c24], [.bool b25, .int .i64 x26, .bool b27, .bool b28, .int .i64 x29, .int .i64 x30, .int .i64 x31, .int .i64 x32, .int .i64 x33, .int .i64 x34, .int .i64 x35, .int .i64 x36, .int .i64 x37, .int .i64 x38, .int .i64 x39, .int .i64 x40, .int .i64 x41, .bool b42, .int .i64 x43, .int .i64 x44, .int .i64 x45, .int .i64 x46, .int .i64 x47, .bool b48, .int .i64 x49, .int .i64 x50, .slice A51 n52 c53, .bool b54, .bool b55, .bool b56], [.int .i64 x57, .int .i64 x58, .slice A59 n60 c61, .int .i64 x62, .int .i64 x63, .slice A64 n65 c66, .int .i64 x67, .int .i64 x68, .slice A69 n70 c71], [.int .i64 x72, .int .i64 x73, .slice A74 n75 c76, .int .i64 x77, .int .i64 x78, .slice A79 n80 c81, .int .i64 x82, .int .i64 x83, .slice A84 n85 c86]] M =
 bb (decide (x9 < x8))
 (some (zoetroperef23_Frame.c64804 A1 n2 c3 A4 n5 c6 x7 x8 x9 0 x10 x11 A12 n13 c14 x15 x16 A17 n18 c19 x20 x21 A22 n23 c24 b25 x26 b27 b28 x29 x30 x31 x32 x33 x34 x35 x36 x37 x38 x39 x40 x41 b42 x43 x44 x45 x46 x47 b48 x49 x50 A51 n52 c53 b54 b55 b56 x57 x58 A59 n60 c61 x62 x63 A64 n65 c66 x67 x68 A69 n70 c71 x72 x73 A74 n75 c76 x77 x78 A79 n80 c81 x82 x83 A84 n85 c86 M))
 (some (.ret (.tuple ⟨[.agg ⟨[.int .i64 x72, .int .i64 x73, .slice A74 n75 c76, .int .i64 x77, .int .i64 x78, .slice A79 n80 c81, .int .i64 x82, .int .i64 x83, .slice A84 n85 c86]⟩, .int .i64 0]⟩) M)) := by kernel_rfl
theorem zoetroperef23_Frame.p64804 (k lo : Nat) (A1 : Option Addr) (n2 : Nat) (c3 : Nat) (A4 : Option Addr) (n5 : Nat) (c6 : Nat) (x7 : Int) (x8 : Int) (x9 : Int) (x10 : Int) (x11 : Int) (x12 : Int) (A13 : Option Addr) (n14 : Nat) (c15 : Nat) (x16 : Int) (x17 : Int) (A18 : Option Addr) (n19 : Nat) (c20 : Nat) (x21 : Int) (x22 : Int) (A23 : Option Addr) (n24 : Nat) (c25 : Nat) (b26 : Bool) (x27 : Int) (b28 : Bool) (b29 : Bool) (x30 : Int) (x31 : Int) (x32 : Int) (x33 : Int) (x34 : Int) (x35 : Int) (x36 : Int) (x37 : Int) (x38 : Int) (x39 : Int) (x40 : Int) (x41 : Int) (x42 : Int) (b43 : Bool) (x44 : Int) (x45 : Int) (x46 : Int) (x47 : Int) (x48 : Int) (b49 : Bool) (x50 : Int) (x51 : Int) (A52 : Option Addr) (n53 : Nat) (c54 : Nat) (b55 : Bool) (b56 : Bool) (b57 : Bool) (x58 : Int) (x59 : Int) (A60 : Option Addr) (n61 : Nat) (c62 : Nat) (x63 : Int) (x64 : Int) (A65 : Option Addr) (n66 : Nat) (c67 : Nat) (x68 : Int) (x69 : Int) (A70 : Option Addr) (n71 : Nat) (c72 : Nat) (x73 : Int) (x74 : Int) (A75 : Option Addr) (n76 : Nat) (c77 : Nat) (x78 : Int) (x79 : Int) (A80 : Option Addr) (n81 : Nat) (c82 : Nat) (x83 : Int) (x84 : Int) (A85 : Option Addr) (n86 : Nat) (c87 : Nat) (M : Mem) : piece P T k lo F.zoetroperef23_Frame 64804 [.v (.slice A1 n2 c3), .v (.slice A4 n5 c6), .l 4 0, .l 7 0, .l 8 0, .l 10 0, .v (.int .i64 x7), .v (.int .i64 x8), .v (.int .i64 x9), .v (.int .i64 x10)] [[.int .i64 x11, .int .i64 x12, .slice A13 n14 c15, .int .i64 x16, .int .i64 x17, .slice A18 n19 c20, .int .i64 x21, .int .i64 x22, .slice A23 n24 c25], [.bool b26, .int .i64 x27, .bool b28, .bool b29, .int .i64 x30, .int .i64 x31, .int .i64 x32, .int .i64 x33, .int .i64 x34, .int .i64 x35, .int .i64 x36, .int .i64 x37, .int .i64 x38, .int .i64 x39, .int .i64 x40, .int .i64 x41, .int .i64 x42, .bool b43, .int .i64 x44, .int .i64 x45, .int .i64 x46, .int .i64 x47, .int .i64 x48, .bool b49, .int .i64 x50, .int .i64 x51, .slice A52 n53 c54, .bool b55, .bool b56, .bool b57], [.int .i64 x58, .int .i64 x59, .slice A60 n61 c62, .int .i64 x63, .int .i64 x64, .slice A65 n66 c67, .int .i64 x68, .int .i64 x69, .slice A70 n71 c72], [.int .i64 x73, .int .i64 x74, .slice A75 n76 c77, .int .i64 x78, .int .i64 x79, .slice A80 n81 c82, .int .i64 x83, .int .i64 x84, .slice A85 n86 c87]] M =
 bb (decide (x10 < x7))
 (pb (0 ≤ IntKind.i64.wrap ((IntKind.i64.wrap ((IntKind.i64.wrap (Int.tdiv x9 8)) * (IntKind.i64.wrap (Int.tdiv x7 8)))) + (IntKind.i64.wrap (Int.tdiv x10 8))) ∧ IntKind.i64.wrap ((IntKind.i64.wrap ((IntKind.i64.wrap (Int.tdiv x9 8)) * (IntKind.i64.wrap (Int.tdiv x7 8)))) + (IntKind.i64.wrap (Int.tdiv x10 8))) < (n2 : Int))
 (ob A1 fun a88 =>
 ob ((M.ld (plus a88 ((IntKind.i64.wrap ((IntKind.i64.wrap ((IntKind.i64.wrap (Int.tdiv x9 8)) * (IntKind.i64.wrap (Int.tdiv x7 8)))) + (IntKind.i64.wrap (Int.tdiv x10 8)))).toNat))).bind Value.bool?) fun b89 =>
 bb (!b89)
 (pb (0 ≤ IntKind.i64.wrap ((IntKind.i64.wrap ((IntKind.i64.wrap (Int.tdiv x9 64)) * (IntKind.i64.wrap (Int.tdiv (IntKind.i64.wrap (x7 + 63)) 64)))) + (IntKind.i64.wrap (Int.tdiv x10 64))) ∧ IntKind.i64.wrap ((IntKind.i64.wrap ((IntKind.i64.wrap (Int.tdiv x9 64)) * (IntKind.i64.wrap (Int.tdiv (IntKind.i64.wrap (x7 + 63)) 64)))) + (IntKind.i64.wrap (Int.tdiv x10 64))) < (n5 : Int))
 (ob A4 fun a90 =>
 ob ((M.ld (plus a90 ((IntKind.i64.wrap ((IntKind.i64.wrap ((IntKind.i64.wrap (Int.tdiv x9 64)) * (IntKind.i64.wrap (Int.tdiv (IntKind.i64.wrap (x7 + 63)) 64)))) + (IntKind.i64.wrap (Int.tdiv x10 64)))).toNat))).bind (Value.int? .i64)) fun x91 =>
 pb (0 ≤ x91 ∧ x91 < (n53 : Int))
 (ob A52 fun a92 =>
 ob ((M.ld (plus a92 (x91.toNat * 4))).bind (Value.int? .i64)) fun x93 =>
 ob ((M.ld (plus (plus a92 (x91.toNat * 4)) 1)).bind (Value.int? .i64)) fun x94 =>
 ob ((M.ld (plus (plus a92 (x91.toNat * 4)) 2)).bind (Value.int? .i64)) fun x95 =>
 ob ((M.ld (plus (plus a92 (x91.toNat * 4)) 3)).bind (Value.int? .i64)) fun x96 =>
 ob (acall P T k lo F.zoetroperef23_block [.agg ⟨[.int .i64 x11, .int .i64 x12, .slice A13 n14 c15, .int .i64 x16, .int .i64 x17, .slice A18 n19 c20, .int .i64 x21, .int .i64 x22, .slice A23 n24 c25]⟩, .agg ⟨[.int .i64 x73, .int .i64 x74, .slice A75 n76 c77, .int .i64 x78, .int .i64 x79, .slice A80 n81 c82, .int .i64 x83, .int .i64 x84, .slice A85 n86 c87]⟩, .int .i64 x10, .int .i64 x9, .agg ⟨[.int .i64 x93, .int .i64 x94, .int .i64 x95, .int .i64 x96]⟩, .int .i64 x50] M) fun r97 =>
 ob (r97.1.tup? 0) fun l98 =>
 some (zoetroperef23_Frame.c259219 A1 n2 c3 A4 n5 c6 x7 x8 x9 x10 x11 x12 A13 n14 c15 x16 x17 A18 n19 c20 x21 x22 A23 n24 c25 b26 x27 b28 b29 x30 x31 x32 x33 x34 x35 x36 x37 x38 x39 x40 x41 x42 b43 x44 x45 x46 x47 x48 b49 x50 x51 A52 n53 c54 b55 b56 b57 x58 x59 A60 n61 c62 x63 x64 A65 n66 c67 x68 x69 A70 n71 c72 x73 x74 A75 n76 c77 x78 x79 A80 n81 c82 x83 x84 A85 n86 c87 r97.2)) none) none)
 (some (zoetroperef23_Frame.c259219 A1 n2 c3 A4 n5 c6 x7 x8 x9 x10 x11 x12 A13 n14 c15 x16 x17 A18 n19 c20 x21 x22 A23 n24 c25 b26 x27 b28 b29 x30 x31 x32 x33 x34 x35 x36 x37 x38 x39 x40 x41 x42 b43 x44 x45 x46 x47 x48 b49 x50 x51 A52 n53 c54 b55 b56 b57 x58 x59 A60 n61 c62 x63 x64 A65 n66 c67 x68 x69 A70 n71 c72 x73 x74 A75 n76 c77 x78 x79 A80 n81 c82 x83 x84 A85 n86 c87 M))) none)
 (some (zoetroperef23_Frame.c1012 A1 n2 c3 A4 n5 c6 x7 x8 (IntKind.i64.wrap (x9 + 8)) x11 x12 A13 n14 c15 x16 x17 A18 n19 c20 x21 x22 A23 n24 c25 b26 x27 b28 b29 x30 x31 x32 x33 x34 x35 x36 x37 x38 x39 x40 x41 x42 b43 x44 x45 x46 x47 x48 b49 x50 x51 A52 n53 c54 b55 b56 b57 x58 x59 A60 n61 c62 x63 x64 A65 n66 c67 x68 x69 A70 n71 c72 x73 x74 A75 n76 c77 x78 x79 A80 n81 c82 x83 x84 A85 n86 c87 M)) := by kernel_rfl
theorem zoetroperef23_Frame.p259219 (k lo : Nat) (A1 : Option Addr) (n2 : Nat) (c3 : Nat) (A4 : Option Addr) (n5 : Nat) (c6 : Nat) (x7 : Int) (x8 : Int) (x9 : Int) (x10 : Int) (x11 : Int) (x12 : Int) (A13 : Option Addr) (n14 : Nat) (c15 : Nat) (x16 : Int) (x17 : Int) (A18 : Option Addr) (n19 : Nat) (c20 : Nat) (x21 : Int) (x22 : Int) (A23 : Option Addr) (n24 : Nat) (c25 : Nat) (b26 : Bool) (x27 : Int) (b28 : Bool) (b29 : Bool) (x30 : Int) (x31 : Int) (x32 : Int) (x33 : Int) (x34 : Int) (x35 : Int) (x36 : Int) (x37 : Int) (x38 : Int) (x39 : Int) (x40 : Int) (x41 : Int) (x42 : Int) (b43 : Bool) (x44 : Int) (x45 : Int) (x46 : Int) (x47 : Int) (x48 : Int) (b49 : Bool) (x50 : Int) (x51 : Int) (A52 : Option Addr) (n53 : Nat) (c54 : Nat) (b55 : Bool) (b56 : Bool) (b57 : Bool) (x58 : Int) (x59 : Int) (A60 : Option Addr) (n61 : Nat) (c62 : Nat) (x63 : Int) (x64 : Int) (A65 : Option Addr) (n66 : Nat) (c67 : Nat) (x68 : Int) (x69 : Int) (A70 : Option Addr) (n71 : Nat) (c72 : Nat) (x73 : Int) (x74 : Int) (A75 : Option Addr) (n76 : Nat) (c77 : Nat) (x78 : Int) (x79 : Int) (A80 : Option Addr) (n81 : Nat) (c82 : Nat) (x83 : Int) (x84 : Int) (A85 : Option Addr) (n86 : Nat) (c87 : Nat) (M : Mem) : piece P T k lo F.zoetroperef23_Frame 259219 [.v (.slice A1 n2 c3), .v (.slice A4 n5 c6), .l 4 0, .l 7 0, .l 8 0, .l 10 0, .v (.int .i64 x7), .v (.int .i64 x8), .v (.int .i64 x9), .v (.int .i64 x10)] [[.int .i64 x11, .int .i64 x12, .slice A13 n14 c15, .int .i64 x16, .int .i64 x17, .slice A18 n19 c20, .int .i64 x21, .int .i64 x22, .slice A23 n24 c25], [.bool b26, .int .i64 x27, .bool b28, .bool b29, .int .i64 x30, .int .i64 x31, .int .i64 x32, .int .i64 x33, .int .i64 x34, .int .i64 x35, .int .i64 x36, .int .i64 x37, .int .i64 x38, .int .i64 x39, .int .i64 x40, .int .i64 x41, .int .i64 x42, .bool b43, .int .i64 x44, .int .i64 x45, .int .i64 x46, .int .i64 x47, .int .i64 x48, .bool b49, .int .i64 x50, .int .i64 x51, .slice A52 n53 c54, .bool b55, .bool b56, .bool b57], [.int .i64 x58, .int .i64 x59, .slice A60 n61 c62, .int .i64 x63, .int .i64 x64, .slice A65 n66 c67, .int .i64 x68, .int .i64 x69, .slice A70 n71 c72], [.int .i64 x73, .int .i64 x74, .slice A75 n76 c77, .int .i64 x78, .int .i64 x79, .slice A80 n81 c82, .int .i64 x83, .int .i64 x84, .slice A85 n86 c87]] M =
 some (zoetroperef23_Frame.c64804 A1 n2 c3 A4 n5 c6 x7 x8 x9 (IntKind.i64.wrap (x10 + 8)) x11 x12 A13 n14 c15 x16 x17 A18 n19 c20 x21 x22 A23 n24 c25 b26 x27 b28 b29 x30 x31 x32 x33 x34 x35 x36 x37 x38 x39 x40 x41 x42 b43 x44 x45 x46 x47 x48 b49 x50 x51 A52 n53 c54 b55 b56 b57 x58 x59 A60 n61 c62 x63 x64 A65 n66 c67 x68 x69 A70 n71 c72 x73 x74 A75 n76 c77 x78 x79 A80 n81 c82 x83 x84 A85 n86 c87 M) := by kernel_rfl
theorem zoetroperef05_SameFrame.entry (k lo : Nat) (x1 : Int) (x2 : Int) (A3 : Option Addr) (n4 : Nat) (c5 : Nat) (x6 : Int) (x7 : Int) (A8 : Option Addr) (n9 : Nat) (c10 : Nat) (x11 : Int) (x12 : Int) (A13 : Option Addr) (n14 : Nat) (c15 : Nat) (x16 : Int) (x17 : Int) (A18 : Option Addr) (n19 : Nat) (c20 : Nat) (x21 : Int) (x22 : Int) (A23 : Option Addr) (n24 : Nat) (c25 : Nat) (x26 : Int) (x27 : Int) (A28 : Option Addr) (n29 : Nat) (c30 : Nat) (M : Mem) : entry P T k lo F.zoetroperef05_SameFrame [.agg ⟨[.int .i64 x1, .int .i64 x2, .slice A3 n4 c5, .int .i64 x6, .int .i64 x7, .slice A8 n9 c10, .int .i64 x11, .int .i64 x12, .slice A13 n14 c15]⟩, .agg ⟨[.int .i64 x16, .int .i64 x17, .slice A18 n19 c20, .int .i64 x21, .int .i64 x22, .slice A23 n24 c25, .int .i64 x26, .int .i64 x27, .slice A28 n29 c30]⟩] M =
 ob (acall P T k lo F.zoetroperef05_Same [.agg ⟨[.int .i64 x1, .int .i64 x2, .slice A3 n4 c5]⟩, .agg ⟨[.int .i64 x16, .int .i64 x17, .slice A18 n19 c20]⟩] M) fun r36 =>
 ob ((some r36.1).bind Value.bool?) fun b37 =>
 bb b37
 (ob (acall P T k lo F.zoetroperef05_Same [.agg ⟨[.int .i64 x6, .int .i64 x7, .slice A8 n9 c10]⟩, .agg ⟨[.int .i64 x21, .int .i64 x22, .slice A23 n24 c25]⟩] r36.2) fun r38 =>
 ob ((some r38.1).bind Value.bool?) fun b39 =>
 bb b39
 (ob (acall P T k lo F.zoetroperef05_Same [.agg ⟨[.int .i64 x11, .int .i64 x12, .slice A13 n14 c15]⟩, .agg ⟨[.int .i64 x26, .int .i64 x27, .slice A28 n29 c30]⟩] r38.2) fun r40 =>
 ob ((some r40.1).bind Value.bool?) fun b41 =>
 some (.ret (.bool b41) r40.2))
 (some (.ret (.bool false) r38.2)))
 (some (.ret (.bool false) r36.2)) := by kernel_rfl
theorem plane_Cut.entry (k lo : Nat) (x1 : Int) (x2 : Int) (A3 : Option Addr) (n4 : Nat) (c5 : Nat) (x6 : Int) (x7 : Int) (x8 : Int) (x9 : Int) (M : Mem) : entry P T k lo F.plane_Cut [.agg ⟨[.int .i64 x1, .int .i64 x2, .slice A3 n4 c5]⟩, .agg ⟨[.int .i64 x6, .int .i64 x7, .int .i64 x8, .int .i64 x9]⟩] M =
 ob (acall P T k lo F.plane_within [.agg ⟨[.int .i64 x1, .int .i64 x2, .slice A3 n4 c5]⟩, .agg ⟨[.int .i64 x6, .int .i64 x7, .int .i64 x8, .int .i64 x9]⟩] M) fun r15 =>
 ob ((some r15.1).bind Value.bool?) fun b16 =>
 bb (!b16)
 (some (.ret (.tuple ⟨[.slice none 0 0, .int .i64 2]⟩) r15.2))
 (pb (0 ≤ IntKind.i64.wrap (x8 * x9) ∧ room ((IntKind.i64.wrap (x8 * x9)).toNat) 1)
 (some (plane_Cut.c244 (some ⟨r15.2.length, 0, some 0⟩) 0 0 x9 0 x1 x2 A3 n4 c5 x6 x7 x8 x9 (r15.2 ++ [⟨.op 1, []⟩] : Mem))) none) := by kernel_rfl
theorem plane_Cut.p244 (k lo : Nat) (A1 : Option Addr) (n2 : Nat) (c3 : Nat) (x4 : Int) (x5 : Int) (x6 : Int) (x7 : Int) (A8 : Option Addr) (n9 : Nat) (c10 : Nat) (x11 : Int) (x12 : Int) (x13 : Int) (x14 : Int) (M : Mem) : piece P T k lo F.plane_Cut 244 [.l 2 0, .l 3 0, .v (.slice A1 n2 c3), .v (.int .i64 x4), .v (.int .i64 x5)] [[.int .i64 x6, .int .i64 x7, .slice A8 n9 c10], [.int .i64 x11, .int .i64 x12, .int .i64 x13, .int .i64 x14]] M =
 bb (decide (x5 < x4))
 (ob (acall P T k lo F.plane_row [.agg ⟨[.int .i64 x6, .int .i64 x7, .slice A8 n9 c10]⟩, .agg ⟨[.int .i64 x11, .int .i64 x12, .int .i64 x13, .int .i64 x14]⟩, .int .i64 x5] M) fun r17 =>
 ob ((some r17.1).bind Value.slc?) fun s18 =>
 ob (Mem.src r17.2 s18.a s18.n s18.n) fun l19 =>
 ob (r17.2.app lo 1 1 ⟨A1, n2, c3⟩ l19 s18.n) fun r20 =>
 some (plane_Cut.c244 r20.1.a r20.1.n r20.1.c x4 (IntKind.i64.wrap (x5 + 1)) x6 x7 A8 n9 c10 x11 x12 x13 x14 r20.2))
 (some (.ret (.tuple ⟨[.slice A1 n2 c3, .int .i64 0]⟩) M)) := by kernel_rfl
theorem zoetropelaw23_alike.entry (k lo : Nat) (x1 : Int) (x2 : Int) (A3 : Option Addr) (n4 : Nat) (c5 : Nat) (x6 : Int) (x7 : Int) (A8 : Option Addr) (n9 : Nat) (c10 : Nat) (x11 : Int) (x12 : Int) (A13 : Option Addr) (n14 : Nat) (c15 : Nat) (x16 : Int) (x17 : Int) (A18 : Option Addr) (n19 : Nat) (c20 : Nat) (x21 : Int) (x22 : Int) (A23 : Option Addr) (n24 : Nat) (c25 : Nat) (x26 : Int) (x27 : Int) (A28 : Option Addr) (n29 : Nat) (c30 : Nat) (M : Mem) : entry P T k lo F.zoetropelaw23_alike [.agg ⟨[.int .i64 x1, .int .i64 x2, .slice A3 n4 c5, .int .i64 x6, .int .i64 x7, .slice A8 n9 c10, .int .i64 x11, .int .i64 x12, .slice A13 n14 c15]⟩, .agg ⟨[.int .i64 x16, .int .i64 x17, .slice A18 n19 c20, .int .i64 x21, .int .i64 x22, .slice A23 n24 c25, .int .i64 x26, .int .i64 x27, .slice A28 n29 c30]⟩] M =
 ob (acall P T k lo F.plane_Same [.agg ⟨[.int .i64 x1, .int .i64 x2, .slice A3 n4 c5]⟩, .agg ⟨[.int .i64 x16, .int .i64 x17, .slice A18 n19 c20]⟩] M) fun r36 =>
 ob ((some r36.1).bind Value.bool?) fun b37 =>
 bb b37
 (ob (acall P T k lo F.plane_Same [.agg ⟨[.int .i64 x6, .int .i64 x7, .slice A8 n9 c10]⟩, .agg ⟨[.int .i64 x21, .int .i64 x22, .slice A23 n24 c25]⟩] r36.2) fun r38 =>
 ob ((some r38.1).bind Value.bool?) fun b39 =>
 bb b39
 (ob (acall P T k lo F.plane_Same [.agg ⟨[.int .i64 x11, .int .i64 x12, .slice A13 n14 c15]⟩, .agg ⟨[.int .i64 x26, .int .i64 x27, .slice A28 n29 c30]⟩] r38.2) fun r40 =>
 ob ((some r40.1).bind Value.bool?) fun b41 =>
 some (.ret (.bool b41) r40.2))
 (some (.ret (.bool false) r38.2)))
 (some (.ret (.bool false) r36.2)) := by kernel_rfl
theorem zoetropelaw23_usual.entry (k lo : Nat) (M : Mem) : entry P T k lo F.zoetropelaw23_usual [] M =
 some (.ret (.agg ⟨[.int .i64 5, .int .i64 1, .slice (some ⟨M.length, 0, none⟩) 5 5]⟩) (M ++ [⟨.fx, [.int .u8 10, .int .u8 10, .int .u8 14, .int .u8 10, .int .u8 10]⟩] : Mem)) := by kernel_rfl
theorem plane_Frame.entry (k lo : Nat) (x1 : Int) (x2 : Int) (x3 : Int) (M : Mem) : entry P T k lo F.plane_Frame [.int .i64 x1, .int .i64 x2, .int .u8 x3] M =
 ob (acall P T k lo F.plane_sides [.int .i64 x1, .int .i64 x2] M) fun r9 =>
 ob ((some r9.1).bind Value.bool?) fun b10 =>
 bb (!b10)
 (some (.ret (.tuple ⟨[.agg ⟨[.int .i64 0, .int .i64 0, .slice none 0 0, .int .i64 0, .int .i64 0, .slice none 0 0, .int .i64 0, .int .i64 0, .slice none 0 0]⟩, .int .i64 2]⟩) r9.2))
 (some (plane_Frame.c244 x1 x2 x3 0 0 0 none 0 0 0 0 none 0 0 0 0 none 0 0 ([.int .i64 0, .int .i64 0, .slice none 0 0, .int .i64 0, .int .i64 0, .slice none 0 0, .int .i64 0, .int .i64 0, .slice none 0 0]) r9.2)) := by kernel_rfl
theorem plane_Frame.p244 (k lo : Nat) (x1 : Int) (x2 : Int) (x3 : Int) (x4 : Int) (x5 : Int) (x6 : Int) (A7 : Option Addr) (n8 : Nat) (c9 : Nat) (x10 : Int) (x11 : Int) (A12 : Option Addr) (n13 : Nat) (c14 : Nat) (x15 : Int) (x16 : Int) (A17 : Option Addr) (n18 : Nat) (c19 : Nat) (cs20 : List Value) (M : Mem) : piece P T k lo F.plane_Frame 244 [.v (.int .i64 x1), .v (.int .i64 x2), .v (.int .u8 x3), .l 6 0, .l 8 0, .v (.int .i64 x4)] [[.int .i64 x5, .int .i64 x6, .slice A7 n8 c9, .int .i64 x10, .int .i64 x11, .slice A12 n13 c14, .int .i64 x15, .int .i64 x16, .slice A17 n18 c19], cs20] M =
 bb (decide (x4 < 3))
 (ob (acall P T k lo F.plane_New [.int .i64 x1, .int .i64 x2, .int .u8 x3] M) fun r21 =>
 ob (r21.1.tup? 2) fun l22 =>
 ob ((l22[0]?).bind (Value.agg? 3)) fun l23 =>
 ob ((l23[0]?).bind (Value.int? .i64)) fun x24 =>
 ob ((l23[1]?).bind (Value.int? .i64)) fun x25 =>
 ob ((l23[2]?).bind Value.slc?) fun s26 =>
 ob ((l22[1]?).bind (Value.int? .i64)) fun x27 =>
 bb (x27 != 0)
 (some (.ret (.tuple ⟨[.agg ⟨[.int .i64 0, .int .i64 0, .slice none 0 0, .int .i64 0, .int .i64 0, .slice none 0 0, .int .i64 0, .int .i64 0, .slice none 0 0]⟩, .int .i64 x27]⟩) r21.2))
 (pb (0 ≤ x4 ∧ x4 < (3 : Int))
 (pb (0 + (x4.toNat * 3) + 3 ≤ cs20.length)
 (bb (x4 == 0)
 (some (plane_Frame.c1959 (IntKind.i64.wrap (Int.tdiv x1 2)) (IntKind.i64.wrap (Int.tdiv x2 2)) x3 x4 x5 x6 A7 n8 c9 x10 x11 A12 n13 c14 x15 x16 A17 n18 c19 (setL cs20 (0 + (x4.toNat * 3)) [.int .i64 x24, .int .i64 x25, .slice s26.a s26.n s26.c]) r21.2))
 (some (plane_Frame.c1959 x1 x2 x3 x4 x5 x6 A7 n8 c9 x10 x11 A12 n13 c14 x15 x16 A17 n18 c19 (setL cs20 (0 + (x4.toNat * 3)) [.int .i64 x24, .int .i64 x25, .slice s26.a s26.n s26.c]) r21.2))) none) none))
 (ob ((cs20[0]?).bind (Value.int? .i64)) fun x28 =>
 ob ((cs20[1]?).bind (Value.int? .i64)) fun x29 =>
 ob ((cs20[2]?).bind Value.slc?) fun s30 =>
 ob ((cs20[3]?).bind (Value.int? .i64)) fun x31 =>
 ob ((cs20[4]?).bind (Value.int? .i64)) fun x32 =>
 ob ((cs20[5]?).bind Value.slc?) fun s33 =>
 ob ((cs20[6]?).bind (Value.int? .i64)) fun x34 =>
 ob ((cs20[7]?).bind (Value.int? .i64)) fun x35 =>
 ob ((cs20[8]?).bind Value.slc?) fun s36 =>
 some (.ret (.tuple ⟨[.agg ⟨[.int .i64 x28, .int .i64 x29, .slice s30.a s30.n s30.c, .int .i64 x31, .int .i64 x32, .slice s33.a s33.n s33.c, .int .i64 x34, .int .i64 x35, .slice s36.a s36.n s36.c]⟩, .int .i64 0]⟩) M)) := by kernel_rfl
theorem plane_Frame.p1959 (k lo : Nat) (x1 : Int) (x2 : Int) (x3 : Int) (x4 : Int) (x5 : Int) (x6 : Int) (A7 : Option Addr) (n8 : Nat) (c9 : Nat) (x10 : Int) (x11 : Int) (A12 : Option Addr) (n13 : Nat) (c14 : Nat) (x15 : Int) (x16 : Int) (A17 : Option Addr) (n18 : Nat) (c19 : Nat) (cs20 : List Value) (M : Mem) : piece P T k lo F.plane_Frame 1959 [.v (.int .i64 x1), .v (.int .i64 x2), .v (.int .u8 x3), .l 6 0, .l 8 0, .v (.int .i64 x4)] [[.int .i64 x5, .int .i64 x6, .slice A7 n8 c9, .int .i64 x10, .int .i64 x11, .slice A12 n13 c14, .int .i64 x15, .int .i64 x16, .slice A17 n18 c19], cs20] M =
 some (plane_Frame.c244 x1 x2 x3 (IntKind.i64.wrap (x4 + 1)) x5 x6 A7 n8 c9 x10 x11 A12 n13 c14 x15 x16 A17 n18 c19 cs20 M) := by kernel_rfl
theorem cdef_lines.entry (k lo : Nat) (x1 : Int) (x2 : Int) (M : Mem) : entry P T k lo F.cdef_lines [.int .i64 x1, .int .i64 x2] M =
 some (.ret (.agg ⟨[.int .i64 (IntKind.i64.wrap (x1 + x2)), .int .i64 (IntKind.i64.wrap (x1 + (IntKind.i64.wrap (Int.tdiv x2 2)))), .int .i64 x1, .int .i64 (IntKind.i64.wrap ((IntKind.i64.wrap (3 + x1)) - (IntKind.i64.wrap (Int.tdiv x2 2)))), .int .i64 (IntKind.i64.wrap ((IntKind.i64.wrap (7 + x1)) - x2)), .int .i64 (IntKind.i64.wrap ((IntKind.i64.wrap (3 - (IntKind.i64.wrap (Int.tdiv x1 2)))) + x2)), .int .i64 x2, .int .i64 (IntKind.i64.wrap ((IntKind.i64.wrap (Int.tdiv x1 2)) + x2))]⟩) M) := by kernel_rfl
theorem zoetroperef23_weight.entry (k lo : Nat) (A1 : Option Addr) (n2 : Nat) (c3 : Nat) (x4 : Int) (M : Mem) : entry P T k lo F.zoetroperef23_weight [.slice A1 n2 c3, .int .i64 x4] M =
 pb (0 ≤ (16 : Int) ∧ room 16 8)
 (pb (0 ≤ (16 : Int) ∧ room 16 8)
 (some (zoetroperef23_weight.c244 A1 n2 c3 x4 (some ⟨M.length, 0, none⟩) 16 16 (some ⟨(M ++ [⟨.fx, zerosL [.int .i64 0] 16⟩] : Mem).length, 0, none⟩) 16 16 0 ((M ++ [⟨.fx, zerosL [.int .i64 0] 16⟩] : Mem) ++ [⟨.fx, zerosL [.int .i64 0] 16⟩] : Mem))) none) none := by kernel_rfl
theorem zoetroperef23_weight.p244 (k lo : Nat) (A1 : Option Addr) (n2 : Nat) (c3 : Nat) (x4 : Int) (A5 : Option Addr) (n6 : Nat) (c7 : Nat) (A8 : Option Addr) (n9 : Nat) (c10 : Nat) (x11 : Int) (M : Mem) : piece P T k lo F.zoetroperef23_weight 244 [.v (.slice A1 n2 c3), .v (.int .i64 x4), .v (.slice A5 n6 c7), .v (.slice A8 n9 c10), .v (.int .i64 x11)] [] M =
 bb (decide (x11 < 8))
 (some (zoetroperef23_weight.c15652 A1 n2 c3 x4 A5 n6 c7 A8 n9 c10 x11 0 M))
 (some (zoetroperef23_weight.c1012 A5 n6 c7 A8 n9 c10 0 0 M)) := by kernel_rfl
theorem zoetroperef23_weight.p1012 (k lo : Nat) (A1 : Option Addr) (n2 : Nat) (c3 : Nat) (A4 : Option Addr) (n5 : Nat) (c6 : Nat) (x7 : Int) (x8 : Int) (M : Mem) : piece P T k lo F.zoetroperef23_weight 1012 [.v (.slice A1 n2 c3), .v (.slice A4 n5 c6), .v (.int .i64 x7), .v (.int .i64 x8)] [] M =
 bb (decide (x8 < 16))
 (pb (0 ≤ x8 ∧ x8 < (n5 : Int))
 (ob A4 fun a12 =>
 ob ((M.ld (plus a12 x8.toNat)).bind (Value.int? .i64)) fun x13 =>
 bb (decide (x13 > 0))
 (pb (0 ≤ x8 ∧ x8 < (n2 : Int))
 (ob A1 fun a14 =>
 ob ((M.ld (plus a14 x8.toNat)).bind (Value.int? .i64)) fun x15 =>
 pb (0 ≤ x8 ∧ x8 < (n2 : Int))
 (ob A1 fun a16 =>
 ob ((M.ld (plus a16 x8.toNat)).bind (Value.int? .i64)) fun x17 =>
 pb (0 ≤ x8 ∧ x8 < (n5 : Int))
 (ob A4 fun a18 =>
 ob ((M.ld (plus a18 x8.toNat)).bind (Value.int? .i64)) fun x19 =>
 pb (x19 = 0) none
 (some (zoetroperef23_weight.c4051 A1 n2 c3 A4 n5 c6 (IntKind.i64.wrap (x7 + (IntKind.i64.wrap ((IntKind.i64.wrap (x15 * x17)) * (IntKind.i64.wrap (Int.tdiv 840 x19)))))) x8 M))) none) none) none)
 (some (zoetroperef23_weight.c4051 A1 n2 c3 A4 n5 c6 x7 x8 M))) none)
 (some (.ret (.int .i64 x7) M)) := by kernel_rfl
theorem zoetroperef23_weight.p4051 (k lo : Nat) (A1 : Option Addr) (n2 : Nat) (c3 : Nat) (A4 : Option Addr) (n5 : Nat) (c6 : Nat) (x7 : Int) (x8 : Int) (M : Mem) : piece P T k lo F.zoetroperef23_weight 4051 [.v (.slice A1 n2 c3), .v (.slice A4 n5 c6), .v (.int .i64 x7), .v (.int .i64 x8)] [] M =
 some (zoetroperef23_weight.c1012 A1 n2 c3 A4 n5 c6 x7 (IntKind.i64.wrap (x8 + 1)) M) := by kernel_rfl
theorem zoetroperef23_weight.p15652 (k lo : Nat) (A1 : Option Addr) (n2 : Nat) (c3 : Nat) (x4 : Int) (A5 : Option Addr) (n6 : Nat) (c7 : Nat) (A8 : Option Addr) (n9 : Nat) (c10 : Nat) (x11 : Int) (x12 : Int) (M : Mem) : piece P T k lo F.zoetroperef23_weight 15652 [.v (.slice A1 n2 c3), .v (.int .i64 x4), .v (.slice A5 n6 c7), .v (.slice A8 n9 c10), .v (.int .i64 x11), .v (.int .i64 x12)] [] M =
 bb (decide (x12 < 8))
 (ob (acall P T k lo F.zoetroperef23_number [.int .i64 x4, .int .i64 x11, .int .i64 x12] M) fun r20 =>
 ob ((some r20.1).bind (Value.int? .i64)) fun x21 =>
 pb (0 ≤ x21 ∧ x21 < (n6 : Int))
 (ob A5 fun a22 =>
 ob ((r20.2.ld (plus a22 x21.toNat)).bind (Value.int? .i64)) fun x23 =>
 pb (0 ≤ IntKind.i64.wrap ((IntKind.i64.wrap (8 * x11)) + x12) ∧ IntKind.i64.wrap ((IntKind.i64.wrap (8 * x11)) + x12) < (n2 : Int))
 (ob A1 fun a24 =>
 ob ((r20.2.ld (plus a24 ((IntKind.i64.wrap ((IntKind.i64.wrap (8 * x11)) + x12)).toNat))).bind (Value.int? .u8)) fun x25 =>
 pb (0 ≤ x21 ∧ x21 < (n6 : Int))
 (ob A5 fun a26 =>
 ob (r20.2.st lo (plus a26 x21.toNat) [.int .i64 (IntKind.i64.wrap ((IntKind.i64.wrap (x23 + (IntKind.i64.wrap x25))) - 128))]) fun M27 =>
 pb (0 ≤ x21 ∧ x21 < (n9 : Int))
 (ob A8 fun a28 =>
 ob ((M27.ld (plus a28 x21.toNat)).bind (Value.int? .i64)) fun x29 =>
 pb (0 ≤ x21 ∧ x21 < (n9 : Int))
 (ob A8 fun a30 =>
 ob (M27.st lo (plus a30 x21.toNat) [.int .i64 (IntKind.i64.wrap (x29 + 1))]) fun M31 =>
 some (zoetroperef23_weight.c15652 A1 n2 c3 x4 A5 n6 c7 A8 n9 c10 x11 (IntKind.i64.wrap (x12 + 1)) M31)) none) none) none) none) none)
 (some (zoetroperef23_weight.c244 A1 n2 c3 x4 A5 n6 c7 A8 n9 c10 (IntKind.i64.wrap (x11 + 1)) M)) := by kernel_rfl
theorem cdef_clip.entry (k lo : Nat) (x1 : Int) (x2 : Int) (x3 : Int) (M : Mem) : entry P T k lo F.cdef_clip [.int .i64 x1, .int .i64 x2, .int .i64 x3] M =
 some (.ret (.int .i64 (minI (maxI x1 x2) x3)) M) := by kernel_rfl
theorem math_bits_Len.entry (k lo : Nat) (x1 : Int) (M : Mem) : entry P T k lo F.math_bits_Len [.int .u64 x1] M =
 ob (acall P T k lo F.math_bits_Len64 [.int .u64 x1] M) fun r7 =>
 ob ((some r7.1).bind (Value.int? .i64)) fun x8 =>
 some (.ret (.int .i64 x8) r7.2) := by kernel_rfl
theorem zoetroperef00_Clip.entry (k lo : Nat) (x1 : Int) (x2 : Int) (x3 : Int) (M : Mem) : entry P T k lo F.zoetroperef00_Clip [.int .i64 x1, .int .i64 x2, .int .i64 x3] M =
 bb (decide (x1 < x2))
 (some (.ret (.int .i64 x2) M))
 (bb (decide (x1 > x3))
 (some (.ret (.int .i64 x3) M))
 (some (.ret (.int .i64 x1) M))) := by kernel_rfl
theorem zoetroperef00_Log.entry (k lo : Nat) (x1 : Int) (M : Mem) : entry P T k lo F.zoetroperef00_Log [.int .i64 x1] M =
 some (zoetroperef00_Log.c56 x1 0 M) := by kernel_rfl
theorem zoetroperef00_Log.p56 (k lo : Nat) (x1 : Int) (x2 : Int) (M : Mem) : piece P T k lo F.zoetroperef00_Log 56 [.v (.int .i64 x1), .v (.int .i64 x2)] [] M =
 bb (decide (x1 > 1))
 (some (zoetroperef00_Log.c56 (IntKind.i64.wrap (Int.tdiv x1 2)) (IntKind.i64.wrap (x2 + 1)) M))
 (some (.ret (.int .i64 x2) M)) := by kernel_rfl
theorem zoetroperef00_Abs.entry (k lo : Nat) (x1 : Int) (M : Mem) : entry P T k lo F.zoetroperef00_Abs [.int .i64 x1] M =
 bb (decide (x1 < 0))
 (some (.ret (.int .i64 (IntKind.i64.wrap (0 - x1))) M))
 (some (.ret (.int .i64 x1) M)) := by kernel_rfl
theorem cdef_within.entry (k lo : Nat) (x1 : Int) (x2 : Int) (x3 : Int) (M : Mem) : entry P T k lo F.cdef_within [.int .i64 x1, .int .i64 x2, .int .i64 x3] M =
 bb (decide (x1 ≥ x2))
 (some (.ret (.bool (decide (x1 ≤ x3))) M))
 (some (.ret (.bool false) M)) := by kernel_rfl
theorem cdef_taps.entry (k lo : Nat) (x1 : Int) (x2 : Int) (x3 : Int) (M : Mem) : entry P T k lo F.cdef_taps [.int .i64 x1, .int .i64 x2, .int .i64 x3] M =
 ob (acall P T k lo F.cdef_along [] M) fun r9 =>
 ob ((some r9.1).bind (Value.agg? 32)) fun l10 =>
 ob ((l10[0]?).bind (Value.int? .i64)) fun x11 =>
 ob ((l10[1]?).bind (Value.int? .i64)) fun x12 =>
 ob ((l10[2]?).bind (Value.int? .i64)) fun x13 =>
 ob ((l10[3]?).bind (Value.int? .i64)) fun x14 =>
 ob ((l10[4]?).bind (Value.int? .i64)) fun x15 =>
 ob ((l10[5]?).bind (Value.int? .i64)) fun x16 =>
 ob ((l10[6]?).bind (Value.int? .i64)) fun x17 =>
 ob ((l10[7]?).bind (Value.int? .i64)) fun x18 =>
 ob ((l10[8]?).bind (Value.int? .i64)) fun x19 =>
 ob ((l10[9]?).bind (Value.int? .i64)) fun x20 =>
 ob ((l10[10]?).bind (Value.int? .i64)) fun x21 =>
 ob ((l10[11]?).bind (Value.int? .i64)) fun x22 =>
 ob ((l10[12]?).bind (Value.int? .i64)) fun x23 =>
 ob ((l10[13]?).bind (Value.int? .i64)) fun x24 =>
 ob ((l10[14]?).bind (Value.int? .i64)) fun x25 =>
 ob ((l10[15]?).bind (Value.int? .i64)) fun x26 =>
 ob ((l10[16]?).bind (Value.int? .i64)) fun x27 =>
 ob ((l10[17]?).bind (Value.int? .i64)) fun x28 =>
 ob ((l10[18]?).bind (Value.int? .i64)) fun x29 =>
 ob ((l10[19]?).bind (Value.int? .i64)) fun x30 =>
 ob ((l10[20]?).bind (Value.int? .i64)) fun x31 =>
 ob ((l10[21]?).bind (Value.int? .i64)) fun x32 =>
 ob ((l10[22]?).bind (Value.int? .i64)) fun x33 =>
 ob ((l10[23]?).bind (Value.int? .i64)) fun x34 =>
 ob ((l10[24]?).bind (Value.int? .i64)) fun x35 =>
 ob ((l10[25]?).bind (Value.int? .i64)) fun x36 =>
 ob ((l10[26]?).bind (Value.int? .i64)) fun x37 =>
 ob ((l10[27]?).bind (Value.int? .i64)) fun x38 =>
 ob ((l10[28]?).bind (Value.int? .i64)) fun x39 =>
 ob ((l10[29]?).bind (Value.int? .i64)) fun x40 =>
 ob ((l10[30]?).bind (Value.int? .i64)) fun x41 =>
 ob ((l10[31]?).bind (Value.int? .i64)) fun x42 =>
 bb (Int.tmod x2 2 == 1)
 (some (cdef_taps.c31 x1 x2 x3 x11 x12 x13 x14 x15 x16 x17 x18 x19 x20 x21 x22 x23 x24 x25 x26 x27 x28 x29 x30 x31 x32 x33 x34 x35 x36 x37 x38 x39 x40 x41 x42 3 3 r9.2))
 (some (cdef_taps.c31 x1 x2 x3 x11 x12 x13 x14 x15 x16 x17 x18 x19 x20 x21 x22 x23 x24 x25 x26 x27 x28 x29 x30 x31 x32 x33 x34 x35 x36 x37 x38 x39 x40 x41 x42 4 2 r9.2)) := by kernel_rfl
theorem cdef_taps.p31 (k lo : Nat) (x1 : Int) (x2 : Int) (x3 : Int) (x4 : Int) (x5 : Int) (x6 : Int) (x7 : Int) (x8 : Int) (x9 : Int) (x10 : Int) (x11 : Int) (x12 : Int) (x13 : Int) (x14 : Int) (x15 : Int) (x16 : Int) (x17 : Int) (x18 : Int) (x19 : Int) (x20 : Int) (x21 : Int) (x22 : Int) (x23 : Int) (x24 : Int) (x25 : Int) (x26 : Int) (x27 : Int) (x28 : Int) (x29 : Int) (x30 : Int) (x31 : Int) (x32 : Int) (x33 : Int) (x34 : Int) (x35 : Int) (x36 : Int) (x37 : Int) (M : Mem) : piece P T k lo F.cdef_taps 31 [.v (.int .i64 x1), .v (.int .i64 x2), .v (.int .i64 x3), .l 7 0, .l 8 0] [[.int .i64 x4, .int .i64 x5, .int .i64 x6, .int .i64 x7, .int .i64 x8, .int .i64 x9, .int .i64 x10, .int .i64 x11, .int .i64 x12, .int .i64 x13, .int .i64 x14, .int .i64 x15, .int .i64 x16, .int .i64 x17, .int .i64 x18, .int .i64 x19, .int .i64 x20, .int .i64 x21, .int .i64 x22, .int .i64 x23, .int .i64 x24, .int .i64 x25, .int .i64 x26, .int .i64 x27, .int .i64 x28, .int .i64 x29, .int .i64 x30, .int .i64 x31, .int .i64 x32, .int .i64 x33, .int .i64 x34, .int .i64 x35], [.int .i64 x36, .int .i64 x37]] M =
 some (cdef_taps.c1012 x1 x2 x3 none 0 0 0 x4 x5 x6 x7 x8 x9 x10 x11 x12 x13 x14 x15 x16 x17 x18 x19 x20 x21 x22 x23 x24 x25 x26 x27 x28 x29 x30 x31 x32 x33 x34 x35 x36 x37 M) := by kernel_rfl
theorem cdef_taps.p1012 (k lo : Nat) (x1 : Int) (x2 : Int) (x3 : Int) (A4 : Option Addr) (n5 : Nat) (c6 : Nat) (x7 : Int) (x8 : Int) (x9 : Int) (x10 : Int) (x11 : Int) (x12 : Int) (x13 : Int) (x14 : Int) (x15 : Int) (x16 : Int) (x17 : Int) (x18 : Int) (x19 : Int) (x20 : Int) (x21 : Int) (x22 : Int) (x23 : Int) (x24 : Int) (x25 : Int) (x26 : Int) (x27 : Int) (x28 : Int) (x29 : Int) (x30 : Int) (x31 : Int) (x32 : Int) (x33 : Int) (x34 : Int) (x35 : Int) (x36 : Int) (x37 : Int) (x38 : Int) (x39 : Int) (x40 : Int) (x41 : Int) (M : Mem) : piece P T k lo F.cdef_taps 1012 [.v (.int .i64 x1), .v (.int .i64 x2), .v (.int .i64 x3), .l 7 0, .l 8 0, .v (.slice A4 n5 c6), .v (.int .i64 x7)] [[.int .i64 x8, .int .i64 x9, .int .i64 x10, .int .i64 x11, .int .i64 x12, .int .i64 x13, .int .i64 x14, .int .i64 x15, .int .i64 x16, .int .i64 x17, .int .i64 x18, .int .i64 x19, .int .i64 x20, .int .i64 x21, .int .i64 x22, .int .i64 x23, .int .i64 x24, .int .i64 x25, .int .i64 x26, .int .i64 x27, .int .i64 x28, .int .i64 x29, .int .i64 x30, .int .i64 x31, .int .i64 x32, .int .i64 x33, .int .i64 x34, .int .i64 x35, .int .i64 x36, .int .i64 x37, .int .i64 x38, .int .i64 x39], [.int .i64 x40, .int .i64 x41]] M =
 bb (decide (x7 < 2))
 (pb (0 ≤ x1 ∧ x1 < (8 : Int))
 (pb (0 ≤ x7 ∧ x7 < (2 : Int))
 (ob ((([.int .i64 x8, .int .i64 x9, .int .i64 x10, .int .i64 x11, .int .i64 x12, .int .i64 x13, .int .i64 x14, .int .i64 x15, .int .i64 x16, .int .i64 x17, .int .i64 x18, .int .i64 x19, .int .i64 x20, .int .i64 x21, .int .i64 x22, .int .i64 x23, .int .i64 x24, .int .i64 x25, .int .i64 x26, .int .i64 x27, .int .i64 x28, .int .i64 x29, .int .i64 x30, .int .i64 x31, .int .i64 x32, .int .i64 x33, .int .i64 x34, .int .i64 x35, .int .i64 x36, .int .i64 x37, .int .i64 x38, .int .i64 x39] : List Value)[0 + (x1.toNat * 4) + (x7.toNat * 2) + 0]?).bind (Value.int? .i64)) fun x43 =>
 ob ((([.int .i64 x8, .int .i64 x9, .int .i64 x10, .int .i64 x11, .int .i64 x12, .int .i64 x13, .int .i64 x14, .int .i64 x15, .int .i64 x16, .int .i64 x17, .int .i64 x18, .int .i64 x19, .int .i64 x20, .int .i64 x21, .int .i64 x22, .int .i64 x23, .int .i64 x24, .int .i64 x25, .int .i64 x26, .int .i64 x27, .int .i64 x28, .int .i64 x29, .int .i64 x30, .int .i64 x31, .int .i64 x32, .int .i64 x33, .int .i64 x34, .int .i64 x35, .int .i64 x36, .int .i64 x37, .int .i64 x38, .int .i64 x39] : List Value)[0 + (x1.toNat * 4) + (x7.toNat * 2) + 1]?).bind (Value.int? .i64)) fun x44 =>
 pb (0 ≤ x7 ∧ x7 < (2 : Int))
 (ob ((([.int .i64 x40, .int .i64 x41] : List Value)[0 + x7.toNat + 0]?).bind (Value.int? .i64)) fun x45 =>
 pb (0 ≤ Int.tmod (IntKind.i64.wrap (x1 + 2)) 8 ∧ Int.tmod (IntKind.i64.wrap (x1 + 2)) 8 < (8 : Int))
 (pb (0 ≤ x7 ∧ x7 < (2 : Int))
 (ob ((([.int .i64 x8, .int .i64 x9, .int .i64 x10, .int .i64 x11, .int .i64 x12, .int .i64 x13, .int .i64 x14, .int .i64 x15, .int .i64 x16, .int .i64 x17, .int .i64 x18, .int .i64 x19, .int .i64 x20, .int .i64 x21, .int .i64 x22, .int .i64 x23, .int .i64 x24, .int .i64 x25, .int .i64 x26, .int .i64 x27, .int .i64 x28, .int .i64 x29, .int .i64 x30, .int .i64 x31, .int .i64 x32, .int .i64 x33, .int .i64 x34, .int .i64 x35, .int .i64 x36, .int .i64 x37, .int .i64 x38, .int .i64 x39] : List Value)[0 + ((Int.tmod (IntKind.i64.wrap (x1 + 2)) 8).toNat * 4) + (x7.toNat * 2) + 0]?).bind (Value.int? .i64)) fun x46 =>
 ob ((([.int .i64 x8, .int .i64 x9, .int .i64 x10, .int .i64 x11, .int .i64 x12, .int .i64 x13, .int .i64 x14, .int .i64 x15, .int .i64 x16, .int .i64 x17, .int .i64 x18, .int .i64 x19, .int .i64 x20, .int .i64 x21, .int .i64 x22, .int .i64 x23, .int .i64 x24, .int .i64 x25, .int .i64 x26, .int .i64 x27, .int .i64 x28, .int .i64 x29, .int .i64 x30, .int .i64 x31, .int .i64 x32, .int .i64 x33, .int .i64 x34, .int .i64 x35, .int .i64 x36, .int .i64 x37, .int .i64 x38, .int .i64 x39] : List Value)[0 + ((Int.tmod (IntKind.i64.wrap (x1 + 2)) 8).toNat * 4) + (x7.toNat * 2) + 1]?).bind (Value.int? .i64)) fun x47 =>
 pb (0 ≤ Int.tmod (IntKind.i64.wrap ((IntKind.i64.wrap (x1 + 8)) - 2)) 8 ∧ Int.tmod (IntKind.i64.wrap ((IntKind.i64.wrap (x1 + 8)) - 2)) 8 < (8 : Int))
 (pb (0 ≤ x7 ∧ x7 < (2 : Int))
 (ob ((([.int .i64 x8, .int .i64 x9, .int .i64 x10, .int .i64 x11, .int .i64 x12, .int .i64 x13, .int .i64 x14, .int .i64 x15, .int .i64 x16, .int .i64 x17, .int .i64 x18, .int .i64 x19, .int .i64 x20, .int .i64 x21, .int .i64 x22, .int .i64 x23, .int .i64 x24, .int .i64 x25, .int .i64 x26, .int .i64 x27, .int .i64 x28, .int .i64 x29, .int .i64 x30, .int .i64 x31, .int .i64 x32, .int .i64 x33, .int .i64 x34, .int .i64 x35, .int .i64 x36, .int .i64 x37, .int .i64 x38, .int .i64 x39] : List Value)[0 + ((Int.tmod (IntKind.i64.wrap ((IntKind.i64.wrap (x1 + 8)) - 2)) 8).toNat * 4) + (x7.toNat * 2) + 0]?).bind (Value.int? .i64)) fun x48 =>
 ob ((([.int .i64 x8, .int .i64 x9, .int .i64 x10, .int .i64 x11, .int .i64 x12, .int .i64 x13, .int .i64 x14, .int .i64 x15, .int .i64 x16, .int .i64 x17, .int .i64 x18, .int .i64 x19, .int .i64 x20, .int .i64 x21, .int .i64 x22, .int .i64 x23, .int .i64 x24, .int .i64 x25, .int .i64 x26, .int .i64 x27, .int .i64 x28, .int .i64 x29, .int .i64 x30, .int .i64 x31, .int .i64 x32, .int .i64 x33, .int .i64 x34, .int .i64 x35, .int .i64 x36, .int .i64 x37, .int .i64 x38, .int .i64 x39] : List Value)[0 + ((Int.tmod (IntKind.i64.wrap ((IntKind.i64.wrap (x1 + 8)) - 2)) 8).toNat * 4) + (x7.toNat * 2) + 1]?).bind (Value.int? .i64)) fun x49 =>
 ob (M.app lo 4 32 ⟨A4, n5, c6⟩ ([.int .i64 x43, .int .i64 x44, .int .i64 x2, .int .i64 x45, .int .i64 x46, .int .i64 x47, .int .i64 x3, .int .i64 (IntKind.i64.wrap (2 - x7)), .int .i64 x48, .int .i64 x49, .int .i64 x3, .int .i64 (IntKind.i64.wrap (2 - x7))]) 3) fun r50 =>
 some (cdef_taps.c1012 x1 x2 x3 r50.1.a r50.1.n r50.1.c (IntKind.i64.wrap (x7 + 1)) x8 x9 x10 x11 x12 x13 x14 x15 x16 x17 x18 x19 x20 x21 x22 x23 x24 x25 x26 x27 x28 x29 x30 x31 x32 x33 x34 x35 x36 x37 x38 x39 x40 x41 r50.2)) none) none) none) none) none) none) none)
 (some (.ret (.slice A4 n5 c6) M)) := by kernel_rfl
theorem cdef_sample.entry (k lo : Nat) (x1 : Int) (x2 : Int) (A3 : Option Addr) (n4 : Nat) (c5 : Nat) (x6 : Int) (x7 : Int) (A8 : Option Addr) (n9 : Nat) (c10 : Nat) (x11 : Int) (M : Mem) : entry P T k lo F.cdef_sample [.agg ⟨[.int .i64 x1, .int .i64 x2, .slice A3 n4 c5]⟩, .int .i64 x6, .int .i64 x7, .slice A8 n9 c10, .int .i64 x11] M =
 pb (0 ≤ IntKind.i64.wrap ((IntKind.i64.wrap (x7 * x1)) + x6) ∧ IntKind.i64.wrap ((IntKind.i64.wrap (x7 * x1)) + x6) < (n4 : Int))
 (ob A3 fun a17 =>
 ob ((M.ld (plus a17 ((IntKind.i64.wrap ((IntKind.i64.wrap (x7 * x1)) + x6)).toNat))).bind (Value.int? .u8)) fun x18 =>
 some (cdef_sample.c244 x6 x7 x11 (IntKind.i64.wrap x18) 0 (IntKind.i64.wrap x18) (IntKind.i64.wrap x18) A8 n9 c10 (n9 : Int) 0 x1 x2 A3 n4 c5 M)) none := by kernel_rfl
theorem cdef_sample.p63 (k lo : Nat) (x1 : Int) (x2 : Int) (x3 : Int) (x4 : Int) (M : Mem) : piece P T k lo F.cdef_sample 63 [.v (.int .i64 x1), .v (.int .i64 x2), .v (.int .i64 x3), .v (.int .i64 x4)] [] M =
 ob (acall P T k lo F.cdef_clip [.int .i64 (IntKind.i64.wrap (x1 + (shrI .i64 (IntKind.i64.wrap (8 + x2)) 4))), .int .i64 x3, .int .i64 x4] M) fun r24 =>
 ob ((some r24.1).bind (Value.int? .i64)) fun x25 =>
 some (.ret (.int .u8 (IntKind.u8.wrap x25)) r24.2) := by kernel_rfl
theorem cdef_sample.p244 (k lo : Nat) (x1 : Int) (x2 : Int) (x3 : Int) (x4 : Int) (x5 : Int) (x6 : Int) (x7 : Int) (A8 : Option Addr) (n9 : Nat) (c10 : Nat) (x11 : Int) (x12 : Int) (x13 : Int) (x14 : Int) (A15 : Option Addr) (n16 : Nat) (c17 : Nat) (M : Mem) : piece P T k lo F.cdef_sample 244 [.v (.int .i64 x1), .v (.int .i64 x2), .v (.int .i64 x3), .l 5 0, .v (.int .i64 x4), .v (.int .i64 x5), .v (.int .i64 x6), .v (.int .i64 x7), .v (.slice A8 n9 c10), .v (.int .i64 x11), .v (.int .i64 x12)] [[.int .i64 x13, .int .i64 x14, .slice A15 n16 c17]] M =
 bb (decide (x12 < x11))
 (pb (0 ≤ x12 ∧ x12 < (n9 : Int))
 (ob A8 fun a19 =>
 ob ((M.ld (plus a19 (x12.toNat * 4))).bind (Value.int? .i64)) fun x20 =>
 ob ((M.ld (plus (plus a19 (x12.toNat * 4)) 1)).bind (Value.int? .i64)) fun x21 =>
 ob ((M.ld (plus (plus a19 (x12.toNat * 4)) 2)).bind (Value.int? .i64)) fun x22 =>
 ob ((M.ld (plus (plus a19 (x12.toNat * 4)) 3)).bind (Value.int? .i64)) fun x23 =>
 some (cdef_sample.c62668 x1 x2 x3 x4 x5 x6 x7 A8 n9 c10 x11 x12 1 (-1) 0 x13 x14 A15 n16 c17 x20 x21 x22 x23 M)) none)
 (bb (decide (x5 < 0))
 (some (cdef_sample.c63 x4 (IntKind.i64.wrap (x5 - 1)) x6 x7 M))
 (some (cdef_sample.c63 x4 x5 x6 x7 M))) := by kernel_rfl
theorem cdef_sample.p62668 (k lo : Nat) (x1 : Int) (x2 : Int) (x3 : Int) (x4 : Int) (x5 : Int) (x6 : Int) (x7 : Int) (A8 : Option Addr) (n9 : Nat) (c10 : Nat) (x11 : Int) (x12 : Int) (x13 : Int) (x14 : Int) (x15 : Int) (x16 : Int) (x17 : Int) (A18 : Option Addr) (n19 : Nat) (c20 : Nat) (x21 : Int) (x22 : Int) (x23 : Int) (x24 : Int) (M : Mem) : piece P T k lo F.cdef_sample 62668 [.v (.int .i64 x1), .v (.int .i64 x2), .v (.int .i64 x3), .l 5 0, .v (.int .i64 x4), .v (.int .i64 x5), .v (.int .i64 x6), .v (.int .i64 x7), .l 16 0, .v (.slice A8 n9 c10), .v (.int .i64 x11), .v (.int .i64 x12), .v (.agg ⟨[.int .i64 x13, .int .i64 x14]⟩), .v (.int .i64 x15)] [[.int .i64 x16, .int .i64 x17, .slice A18 n19 c20], [.int .i64 x21, .int .i64 x22, .int .i64 x23, .int .i64 x24]] M =
 bb (decide (x15 < 2))
 (pb (0 ≤ x15 ∧ x15 < (2 : Int))
 (ob ((([.int .i64 x13, .int .i64 x14] : List Value)[x15.toNat + 0]?).bind (Value.int? .i64)) fun x26 =>
 ob (acall P T k lo F.cdef_within [.int .i64 (IntKind.i64.wrap (x1 + (IntKind.i64.wrap (x26 * x22)))), .int .i64 0, .int .i64 (IntKind.i64.wrap (x16 - 1))] M) fun r27 =>
 ob ((some r27.1).bind Value.bool?) fun b28 =>
 bb (!b28)
 (some (cdef_sample.c501351 x1 x2 x3 x4 x5 x6 x7 A8 n9 c10 x11 x12 x13 x14 x15 x16 x17 A18 n19 c20 x21 x22 x23 x24 r27.2))
 (ob (acall P T k lo F.cdef_within [.int .i64 (IntKind.i64.wrap (x2 + (IntKind.i64.wrap (x26 * x21)))), .int .i64 0, .int .i64 (IntKind.i64.wrap (x17 - 1))] r27.2) fun r29 =>
 ob ((some r29.1).bind Value.bool?) fun b30 =>
 bb (!b30)
 (some (cdef_sample.c501351 x1 x2 x3 x4 x5 x6 x7 A8 n9 c10 x11 x12 x13 x14 x15 x16 x17 A18 n19 c20 x21 x22 x23 x24 r29.2))
 (pb (0 ≤ IntKind.i64.wrap ((IntKind.i64.wrap ((IntKind.i64.wrap (x2 + (IntKind.i64.wrap (x26 * x21)))) * x16)) + (IntKind.i64.wrap (x1 + (IntKind.i64.wrap (x26 * x22))))) ∧ IntKind.i64.wrap ((IntKind.i64.wrap ((IntKind.i64.wrap (x2 + (IntKind.i64.wrap (x26 * x21)))) * x16)) + (IntKind.i64.wrap (x1 + (IntKind.i64.wrap (x26 * x22))))) < (n19 : Int))
 (ob A18 fun a31 =>
 ob ((r29.2.ld (plus a31 ((IntKind.i64.wrap ((IntKind.i64.wrap ((IntKind.i64.wrap (x2 + (IntKind.i64.wrap (x26 * x21)))) * x16)) + (IntKind.i64.wrap (x1 + (IntKind.i64.wrap (x26 * x22)))))).toNat))).bind (Value.int? .u8)) fun x32 =>
 ob (acall P T k r29.2.length F.cdef_Limit [.int .i64 (IntKind.i64.wrap ((IntKind.i64.wrap x32) - x4)), .int .i64 x23, .int .i64 x3] r29.2) fun r33 =>
 ob ((some r33.1).bind (Value.int? .i64)) fun x34 =>
 some (cdef_sample.c501351 x1 x2 x3 x4 (IntKind.i64.wrap (x5 + (IntKind.i64.wrap (x24 * x34)))) (minI x6 (IntKind.i64.wrap x32)) (maxI x7 (IntKind.i64.wrap x32)) A8 n9 c10 x11 x12 x13 x14 x15 x16 x17 A18 n19 c20 x21 x22 x23 x24 r33.2)) none))) none)
 (some (cdef_sample.c244 x1 x2 x3 x4 x5 x6 x7 A8 n9 c10 x11 (IntKind.i64.wrap (x12 + 1)) x16 x17 A18 n19 c20 M)) := by kernel_rfl
theorem cdef_sample.p501351 (k lo : Nat) (x1 : Int) (x2 : Int) (x3 : Int) (x4 : Int) (x5 : Int) (x6 : Int) (x7 : Int) (A8 : Option Addr) (n9 : Nat) (c10 : Nat) (x11 : Int) (x12 : Int) (x13 : Int) (x14 : Int) (x15 : Int) (x16 : Int) (x17 : Int) (A18 : Option Addr) (n19 : Nat) (c20 : Nat) (x21 : Int) (x22 : Int) (x23 : Int) (x24 : Int) (M : Mem) : piece P T k lo F.cdef_sample 501351 [.v (.int .i64 x1), .v (.int .i64 x2), .v (.int .i64 x3), .l 5 0, .v (.int .i64 x4), .v (.int .i64 x5), .v (.int .i64 x6), .v (.int .i64 x7), .l 16 0, .v (.slice A8 n9 c10), .v (.int .i64 x11), .v (.int .i64 x12), .v (.agg ⟨[.int .i64 x13, .int .i64 x14]⟩), .v (.int .i64 x15)] [[.int .i64 x16, .int .i64 x17, .slice A18 n19 c20], [.int .i64 x21, .int .i64 x22, .int .i64 x23, .int .i64 x24]] M =
 some (cdef_sample.c62668 x1 x2 x3 x4 x5 x6 x7 A8 n9 c10 x11 x12 x13 x14 (IntKind.i64.wrap (x15 + 1)) x16 x17 A18 n19 c20 x21 x22 x23 x24 M) := by kernel_rfl
theorem zoetroperef05_Check.entry (k lo : Nat) (x1 : Int) (x2 : Int) (A3 : Option Addr) (n4 : Nat) (c5 : Nat) (M : Mem) : entry P T k lo F.zoetroperef05_Check [.agg ⟨[.int .i64 x1, .int .i64 x2, .slice A3 n4 c5]⟩] M =
 bb (decide (x1 < 1))
 (some (.ret (.int .i64 2) M))
 (bb (decide (x1 > 512))
 (some (.ret (.int .i64 2) M))
 (bb (decide (x2 < 1))
 (some (.ret (.int .i64 2) M))
 (bb (decide (x2 > 512))
 (some (.ret (.int .i64 2) M))
 (bb ((n4 : Int) != IntKind.i64.wrap (x1 * x2))
 (some (.ret (.int .i64 2) M))
 (some (.ret (.int .i64 0) M)))))) := by kernel_rfl
theorem zoetroperef05_Within.entry (k lo : Nat) (x1 : Int) (x2 : Int) (A3 : Option Addr) (n4 : Nat) (c5 : Nat) (x6 : Int) (x7 : Int) (x8 : Int) (x9 : Int) (M : Mem) : entry P T k lo F.zoetroperef05_Within [.agg ⟨[.int .i64 x1, .int .i64 x2, .slice A3 n4 c5]⟩, .agg ⟨[.int .i64 x6, .int .i64 x7, .int .i64 x8, .int .i64 x9]⟩] M =
 bb (decide (x8 ≥ 1))
 (bb (decide (x9 ≥ 1))
 (bb (decide (x6 ≥ 0))
 (bb (decide (x7 ≥ 0))
 (bb (decide (x8 ≤ x1))
 (bb (decide (x9 ≤ x2))
 (bb (decide (x6 ≤ IntKind.i64.wrap (x1 - x8)))
 (some (.ret (.bool (decide (x7 ≤ IntKind.i64.wrap (x2 - x9)))) M))
 (some (.ret (.bool false) M)))
 (some (.ret (.bool false) M)))
 (some (.ret (.bool false) M)))
 (some (.ret (.bool false) M)))
 (some (.ret (.bool false) M)))
 (some (.ret (.bool false) M)))
 (some (.ret (.bool false) M)) := by kernel_rfl
theorem zoetroperef23_sample.entry (k lo : Nat) (x1 : Int) (x2 : Int) (A3 : Option Addr) (n4 : Nat) (c5 : Nat) (x6 : Int) (x7 : Int) (x8 : Int) (x9 : Int) (x10 : Int) (x11 : Int) (M : Mem) : entry P T k lo F.zoetroperef23_sample [.agg ⟨[.int .i64 x1, .int .i64 x2, .slice A3 n4 c5]⟩, .int .i64 x6, .int .i64 x7, .agg ⟨[.int .i64 x8, .int .i64 x9, .int .i64 x10, .int .i64 x11]⟩] M =
 pb (0 ≤ IntKind.i64.wrap ((IntKind.i64.wrap (x7 * x1)) + x6) ∧ IntKind.i64.wrap ((IntKind.i64.wrap (x7 * x1)) + x6) < (n4 : Int))
 (ob A3 fun a17 =>
 ob ((M.ld (plus a17 ((IntKind.i64.wrap ((IntKind.i64.wrap (x7 * x1)) + x6)).toNat))).bind (Value.int? .u8)) fun x18 =>
 some (zoetroperef23_sample.c500 x8 x9 x10 x11 (IntKind.i64.wrap x18) ⟨M.length, 0, none⟩ 0 (M ++ [⟨.fx, [.int .i64 x1, .int .i64 x2, .slice A3 n4 c5, .int .i64 x6, .int .i64 x7, .int .i64 0, .int .i64 (IntKind.i64.wrap x18), .int .i64 (IntKind.i64.wrap x18)]⟩] : Mem))) none := by kernel_rfl
theorem zoetroperef23_sample.p255 (k lo : Nat) (x1 : Int) (a2 : Addr) (x3 : Int) (M : Mem) : piece P T k lo F.zoetroperef23_sample 255 [.v (.int .i64 x1), .v (.pointer (some a2)), .v (.int .i64 x3)] [] M =
 ob ((M.ld (plus a2 5)).bind (Value.int? .i64)) fun x20 =>
 ob ((M.ld (plus a2 6)).bind (Value.int? .i64)) fun x21 =>
 ob ((M.ld (plus a2 7)).bind (Value.int? .i64)) fun x22 =>
 ob (acall P T k lo F.zoetroperef00_Clip [.int .i64 (IntKind.i64.wrap (x1 + (shrI .i64 (IntKind.i64.wrap ((IntKind.i64.wrap (8 + x20)) - x3)) 4))), .int .i64 x21, .int .i64 x22] M) fun r23 =>
 ob ((some r23.1).bind (Value.int? .i64)) fun x24 =>
 some (.ret (.int .u8 (IntKind.u8.wrap x24)) r23.2) := by kernel_rfl
theorem zoetroperef23_sample.p500 (k lo : Nat) (x1 : Int) (x2 : Int) (x3 : Int) (x4 : Int) (x5 : Int) (a6 : Addr) (x7 : Int) (M : Mem) : piece P T k lo F.zoetroperef23_sample 500 [.v (.int .i64 x1), .v (.int .i64 x2), .v (.int .i64 x3), .v (.int .i64 x4), .v (.int .i64 x5), .v (.pointer (some a6)), .v (.int .i64 x7)] [] M =
 bb (decide (x7 < 2))
 (bb (Int.tmod x2 2 == 1)
 (some (zoetroperef23_sample.c16019 x1 x2 x3 x4 x5 a6 x7 3 M))
 (some (zoetroperef23_sample.c16019 x1 x2 x3 x4 x5 a6 x7 (IntKind.i64.wrap (4 - (IntKind.i64.wrap (2 * x7)))) M)))
 (ob ((M.ld (plus a6 5)).bind (Value.int? .i64)) fun x19 =>
 bb (decide (x19 < 0))
 (some (zoetroperef23_sample.c255 x5 a6 1 M))
 (some (zoetroperef23_sample.c255 x5 a6 0 M))) := by kernel_rfl
theorem zoetroperef23_sample.p16019 (k lo : Nat) (x1 : Int) (x2 : Int) (x3 : Int) (x4 : Int) (x5 : Int) (a6 : Addr) (x7 : Int) (x8 : Int) (M : Mem) : piece P T k lo F.zoetroperef23_sample 16019 [.v (.int .i64 x1), .v (.int .i64 x2), .v (.int .i64 x3), .v (.int .i64 x4), .v (.int .i64 x5), .v (.pointer (some a6)), .v (.int .i64 x7), .v (.int .i64 x8)] [] M =
 ob (acall P T k lo F.zoetroperef23_steps [.int .i64 x1] M) fun r25 =>
 ob ((some r25.1).bind (Value.agg? 4)) fun l26 =>
 ob ((l26[0]?).bind (Value.int? .i64)) fun x27 =>
 ob ((l26[1]?).bind (Value.int? .i64)) fun x28 =>
 ob ((l26[2]?).bind (Value.int? .i64)) fun x29 =>
 ob ((l26[3]?).bind (Value.int? .i64)) fun x30 =>
 pb (0 ≤ x7 ∧ x7 < (2 : Int))
 (ob ((([.int .i64 x27, .int .i64 x28, .int .i64 x29, .int .i64 x30] : List Value)[x7.toNat * 2 + 0]?).bind (Value.int? .i64)) fun x31 =>
 ob ((([.int .i64 x27, .int .i64 x28, .int .i64 x29, .int .i64 x30] : List Value)[x7.toNat * 2 + 1]?).bind (Value.int? .i64)) fun x32 =>
 ob (acall P T k lo F.zoetroperef23_around_ask [.pointer (some a6), .agg ⟨[.int .i64 x31, .int .i64 x32]⟩, .int .i64 x2, .int .i64 x4, .int .i64 x8] r25.2) fun r33 =>
 ob (r33.1.tup? 0) fun l34 =>
 ob (acall P T k lo F.zoetroperef23_steps [.int .i64 (IntKind.i64.wrap (x1 + 6))] r33.2) fun r35 =>
 ob ((some r35.1).bind (Value.agg? 4)) fun l36 =>
 ob ((l36[0]?).bind (Value.int? .i64)) fun x37 =>
 ob ((l36[1]?).bind (Value.int? .i64)) fun x38 =>
 ob ((l36[2]?).bind (Value.int? .i64)) fun x39 =>
 ob ((l36[3]?).bind (Value.int? .i64)) fun x40 =>
 pb (0 ≤ x7 ∧ x7 < (2 : Int))
 (ob ((([.int .i64 x37, .int .i64 x38, .int .i64 x39, .int .i64 x40] : List Value)[x7.toNat * 2 + 0]?).bind (Value.int? .i64)) fun x41 =>
 ob ((([.int .i64 x37, .int .i64 x38, .int .i64 x39, .int .i64 x40] : List Value)[x7.toNat * 2 + 1]?).bind (Value.int? .i64)) fun x42 =>
 ob (acall P T k lo F.zoetroperef23_around_ask [.pointer (some a6), .agg ⟨[.int .i64 x41, .int .i64 x42]⟩, .int .i64 x3, .int .i64 x4, .int .i64 (IntKind.i64.wrap (2 - x7))] r35.2) fun r43 =>
 ob (r43.1.tup? 0) fun l44 =>
 ob (acall P T k lo F.zoetroperef23_steps [.int .i64 (IntKind.i64.wrap (x1 + 2))] r43.2) fun r45 =>
 ob ((some r45.1).bind (Value.agg? 4)) fun l46 =>
 ob ((l46[0]?).bind (Value.int? .i64)) fun x47 =>
 ob ((l46[1]?).bind (Value.int? .i64)) fun x48 =>
 ob ((l46[2]?).bind (Value.int? .i64)) fun x49 =>
 ob ((l46[3]?).bind (Value.int? .i64)) fun x50 =>
 pb (0 ≤ x7 ∧ x7 < (2 : Int))
 (ob ((([.int .i64 x47, .int .i64 x48, .int .i64 x49, .int .i64 x50] : List Value)[x7.toNat * 2 + 0]?).bind (Value.int? .i64)) fun x51 =>
 ob ((([.int .i64 x47, .int .i64 x48, .int .i64 x49, .int .i64 x50] : List Value)[x7.toNat * 2 + 1]?).bind (Value.int? .i64)) fun x52 =>
 ob (acall P T k lo F.zoetroperef23_around_ask [.pointer (some a6), .agg ⟨[.int .i64 x51, .int .i64 x52]⟩, .int .i64 x3, .int .i64 x4, .int .i64 (IntKind.i64.wrap (2 - x7))] r45.2) fun r53 =>
 ob (r53.1.tup? 0) fun l54 =>
 some (zoetroperef23_sample.c500 x1 x2 x3 x4 x5 a6 (IntKind.i64.wrap (x7 + 1)) r53.2)) none) none) none := by kernel_rfl
theorem plane_sizes.entry (k lo : Nat) (x1 : Int) (x2 : Int) (M : Mem) : entry P T k lo F.plane_sizes [.int .i64 x1, .int .i64 x2] M =
 bb (decide (x1 ≥ 1))
 (bb (decide (x1 ≤ 512))
 (bb (decide (x2 ≥ 1))
 (some (.ret (.bool (decide (x2 ≤ 512))) M))
 (some (.ret (.bool false) M)))
 (some (.ret (.bool false) M)))
 (some (.ret (.bool false) M)) := by kernel_rfl
theorem cdef_may.entry (k lo : Nat) (x1 : Int) (x2 : Int) (A3 : Option Addr) (n4 : Nat) (c5 : Nat) (x6 : Int) (x7 : Int) (A8 : Option Addr) (n9 : Nat) (c10 : Nat) (x11 : Int) (x12 : Int) (A13 : Option Addr) (n14 : Nat) (c15 : Nat) (A16 : Option Addr) (n17 : Nat) (c18 : Nat) (A19 : Option Addr) (n20 : Nat) (c21 : Nat) (b22 : Bool) (x23 : Int) (b24 : Bool) (b25 : Bool) (x26 : Int) (x27 : Int) (x28 : Int) (x29 : Int) (x30 : Int) (x31 : Int) (x32 : Int) (x33 : Int) (x34 : Int) (x35 : Int) (x36 : Int) (x37 : Int) (x38 : Int) (b39 : Bool) (x40 : Int) (x41 : Int) (x42 : Int) (x43 : Int) (x44 : Int) (b45 : Bool) (x46 : Int) (x47 : Int) (A48 : Option Addr) (n49 : Nat) (c50 : Nat) (b51 : Bool) (b52 : Bool) (b53 : Bool) (M : Mem) : entry P T k lo F.cdef_may [.agg ⟨[.int .i64 x1, .int .i64 x2, .slice A3 n4 c5, .int .i64 x6, .int .i64 x7, .slice A8 n9 c10, .int .i64 x11, .int .i64 x12, .slice A13 n14 c15]⟩, .slice A16 n17 c18, .slice A19 n20 c21, .agg ⟨[.bool b22, .int .i64 x23, .bool b24, .bool b25, .int .i64 x26, .int .i64 x27, .int .i64 x28, .int .i64 x29, .int .i64 x30, .int .i64 x31, .int .i64 x32, .int .i64 x33, .int .i64 x34, .int .i64 x35, .int .i64 x36, .int .i64 x37, .int .i64 x38, .bool b39, .int .i64 x40, .int .i64 x41, .int .i64 x42, .int .i64 x43, .int .i64 x44, .bool b45, .int .i64 x46, .int .i64 x47, .slice A48 n49 c50, .bool b51, .bool b52, .bool b53]⟩] M =
 ob (acall P T k lo F.plane_Whole [.agg ⟨[.int .i64 x1, .int .i64 x2, .slice A3 n4 c5, .int .i64 x6, .int .i64 x7, .slice A8 n9 c10, .int .i64 x11, .int .i64 x12, .slice A13 n14 c15]⟩] (M ++ [⟨.fx, [.bool b22, .int .i64 x23, .bool b24, .bool b25, .int .i64 x26, .int .i64 x27, .int .i64 x28, .int .i64 x29, .int .i64 x30, .int .i64 x31, .int .i64 x32, .int .i64 x33, .int .i64 x34, .int .i64 x35, .int .i64 x36, .int .i64 x37, .int .i64 x38, .bool b39, .int .i64 x40, .int .i64 x41, .int .i64 x42, .int .i64 x43, .int .i64 x44, .bool b45, .int .i64 x46, .int .i64 x47, .slice A48 n49 c50, .bool b51, .bool b52, .bool b53]⟩] : Mem)) fun r59 =>
 ob ((some r59.1).bind (Value.int? .i64)) fun x60 =>
 bb (x60 != 0)
 (some (.ret (.bool false) r59.2))
 (bb (Int.tmod x1 8 != 0)
 (some (.ret (.bool false) r59.2))
 (bb (Int.tmod x2 8 != 0)
 (some (.ret (.bool false) r59.2))
 (bb ((n17 : Int) != IntKind.i64.wrap ((IntKind.i64.wrap (Int.tdiv x1 8)) * (IntKind.i64.wrap (Int.tdiv x2 8))))
 (some (.ret (.bool false) r59.2))
 (ob (acall P T k lo F.cdef_may_1 [.int .i64 x1] r59.2) fun r61 =>
 ob ((some r61.1).bind (Value.int? .i64)) fun x62 =>
 ob (acall P T k lo F.cdef_may_1 [.int .i64 x2] r61.2) fun r63 =>
 ob ((some r63.1).bind (Value.int? .i64)) fun x64 =>
 bb ((n20 : Int) != IntKind.i64.wrap (x62 * x64))
 (some (.ret (.bool false) r63.2))
 (ob ((r63.2.ld (plus ⟨M.length, 0, none⟩ 23)).bind Value.bool?) fun b65 =>
 bb (!b65)
 (some (.ret (.bool true) r63.2))
 (ob ((r63.2.ld (plus ⟨M.length, 0, none⟩ 24)).bind (Value.int? .i64)) fun x66 =>
 ob (acall P T k lo F.cdef_within [.int .i64 x66, .int .i64 3, .int .i64 6] r63.2) fun r67 =>
 ob ((some r67.1).bind Value.bool?) fun b68 =>
 bb (!b68)
 (some (.ret (.bool false) r67.2))
 (ob ((r67.2.ld (plus ⟨M.length, 0, none⟩ 26)).bind Value.slc?) fun s69 =>
 ob (acall P T k lo F.cdef_within [.int .i64 (s69.n : Int), .int .i64 1, .int .i64 8] r67.2) fun r70 =>
 ob ((some r70.1).bind Value.bool?) fun b71 =>
 bb (!b71)
 (some (.ret (.bool false) r70.2))
 (ob ((r70.2.ld (plus ⟨M.length, 0, none⟩ 26)).bind Value.slc?) fun s72 =>
 some (cdef_may.c500 A19 n20 c21 ⟨M.length, 0, none⟩ s72.a s72.n s72.c (s72.n : Int) 0 r70.2))))))))) := by kernel_rfl
theorem cdef_may.p500 (k lo : Nat) (A1 : Option Addr) (n2 : Nat) (c3 : Nat) (a4 : Addr) (A5 : Option Addr) (n6 : Nat) (c7 : Nat) (x8 : Int) (x9 : Int) (M : Mem) : piece P T k lo F.cdef_may 500 [.v (.slice A1 n2 c3), .v (.pointer (some a4)), .v (.slice A5 n6 c7), .v (.int .i64 x8), .v (.int .i64 x9)] [] M =
 bb (decide (x9 < x8))
 (pb (0 ≤ x9 ∧ x9 < (n6 : Int))
 (ob A5 fun a73 =>
 ob ((M.ld (plus a73 (x9.toNat * 4))).bind (Value.int? .i64)) fun x74 =>
 ob ((M.ld (plus (plus a73 (x9.toNat * 4)) 1)).bind (Value.int? .i64)) fun x75 =>
 ob ((M.ld (plus (plus a73 (x9.toNat * 4)) 2)).bind (Value.int? .i64)) fun x76 =>
 ob ((M.ld (plus (plus a73 (x9.toNat * 4)) 3)).bind (Value.int? .i64)) fun x77 =>
 ob (acall P T k lo F.cdef_within [.int .i64 x74, .int .i64 0, .int .i64 15] M) fun r78 =>
 ob ((some r78.1).bind Value.bool?) fun b79 =>
 bb (!b79)
 (some (.ret (.bool false) r78.2))
 (ob (acall P T k lo F.cdef_within [.int .i64 x76, .int .i64 0, .int .i64 15] r78.2) fun r80 =>
 ob ((some r80.1).bind Value.bool?) fun b81 =>
 bb (!b81)
 (some (.ret (.bool false) r80.2))
 (ob (acall P T k lo F.cdef_within [.int .i64 x75, .int .i64 0, .int .i64 3] r80.2) fun r82 =>
 ob ((some r82.1).bind Value.bool?) fun b83 =>
 bb (!b83)
 (some (.ret (.bool false) r82.2))
 (ob (acall P T k lo F.cdef_within [.int .i64 x77, .int .i64 0, .int .i64 3] r82.2) fun r84 =>
 ob ((some r84.1).bind Value.bool?) fun b85 =>
 bb (!b85)
 (some (.ret (.bool false) r84.2))
 (some (cdef_may.c500 A1 n2 c3 a4 A5 n6 c7 x8 (IntKind.i64.wrap (x9 + 1)) r84.2)))))) none)
 (ob (acall P T k lo F.slices_ContainsFunc__int_int [.slice A1 n2 c3, .func (.func F.cdef_may_2) ⟨[]⟩ ⟨[.pointer (some a4)]⟩] M) fun r86 =>
 ob ((some r86.1).bind Value.bool?) fun b87 =>
 some (.ret (.bool (!b87)) r86.2)) := by kernel_rfl
theorem slices_Clone__uint8_uint8.entry (k lo : Nat) (A1 : Option Addr) (n2 : Nat) (c3 : Nat) (M : Mem) : entry P T k lo F.slices_Clone__uint8_uint8 [.slice A1 n2 c3] M =
 bb A1.isNone
 (some (.ret (.slice none 0 0) M))
 (ob (Mem.src (M ++ [⟨.fx, []⟩] : Mem) A1 n2 n2) fun l9 =>
 ob ((M ++ [⟨.fx, []⟩] : Mem).app lo 1 1 ⟨some ⟨M.length, 0, none⟩, 0, 0⟩ l9 n2) fun r10 =>
 some (.ret (.slice r10.1.a r10.1.n r10.1.c) r10.2)) := by kernel_rfl
theorem cdef_primary.entry (k lo : Nat) (x1 : Int) (x2 : Int) (M : Mem) : entry P T k lo F.cdef_primary [.int .i64 x1, .int .i64 x2] M =
 bb (x2 == 0)
 (some (.ret (.int .i64 0) M))
 (bb (shrI .i64 x2 6 == 0)
 (some (.ret (.int .i64 (shrI .i64 (IntKind.i64.wrap ((IntKind.i64.wrap (4 * x1)) + 8)) 4)) M))
 (ob (acall P T k lo F.math_bits_Len [.int .u64 (IntKind.u64.wrap (shrI .i64 x2 6))] M) fun r8 =>
 ob ((some r8.1).bind (Value.int? .i64)) fun x9 =>
 some (.ret (.int .i64 (shrI .i64 (IntKind.i64.wrap ((IntKind.i64.wrap (x1 * (IntKind.i64.wrap (4 + (minI (IntKind.i64.wrap (x9 - 1)) 12))))) + 8)) 4)) r8.2))) := by kernel_rfl
theorem cdef_second.entry (k lo : Nat) (x1 : Int) (M : Mem) : entry P T k lo F.cdef_second [.int .i64 x1] M =
 bb (x1 == 3)
 (some (.ret (.int .i64 4) M))
 (some (.ret (.int .i64 x1) M)) := by kernel_rfl
theorem zoetroperef23_may.entry (k lo : Nat) (x1 : Int) (x2 : Int) (A3 : Option Addr) (n4 : Nat) (c5 : Nat) (x6 : Int) (x7 : Int) (A8 : Option Addr) (n9 : Nat) (c10 : Nat) (x11 : Int) (x12 : Int) (A13 : Option Addr) (n14 : Nat) (c15 : Nat) (A16 : Option Addr) (n17 : Nat) (c18 : Nat) (A19 : Option Addr) (n20 : Nat) (c21 : Nat) (b22 : Bool) (x23 : Int) (b24 : Bool) (b25 : Bool) (x26 : Int) (x27 : Int) (x28 : Int) (x29 : Int) (x30 : Int) (x31 : Int) (x32 : Int) (x33 : Int) (x34 : Int) (x35 : Int) (x36 : Int) (x37 : Int) (x38 : Int) (b39 : Bool) (x40 : Int) (x41 : Int) (x42 : Int) (x43 : Int) (x44 : Int) (b45 : Bool) (x46 : Int) (x47 : Int) (A48 : Option Addr) (n49 : Nat) (c50 : Nat) (b51 : Bool) (b52 : Bool) (b53 : Bool) (M : Mem) : entry P T k lo F.zoetroperef23_may [.agg ⟨[.int .i64 x1, .int .i64 x2, .slice A3 n4 c5, .int .i64 x6, .int .i64 x7, .slice A8 n9 c10, .int .i64 x11, .int .i64 x12, .slice A13 n14 c15]⟩, .slice A16 n17 c18, .slice A19 n20 c21, .agg ⟨[.bool b22, .int .i64 x23, .bool b24, .bool b25, .int .i64 x26, .int .i64 x27, .int .i64 x28, .int .i64 x29, .int .i64 x30, .int .i64 x31, .int .i64 x32, .int .i64 x33, .int .i64 x34, .int .i64 x35, .int .i64 x36, .int .i64 x37, .int .i64 x38, .bool b39, .int .i64 x40, .int .i64 x41, .int .i64 x42, .int .i64 x43, .int .i64 x44, .bool b45, .int .i64 x46, .int .i64 x47, .slice A48 n49 c50, .bool b51, .bool b52, .bool b53]⟩] M =
 ob (acall P T k lo F.zoetroperef05_Whole [.agg ⟨[.int .i64 x1, .int .i64 x2, .slice A3 n4 c5, .int .i64 x6, .int .i64 x7, .slice A8 n9 c10, .int .i64 x11, .int .i64 x12, .slice A13 n14 c15]⟩] M) fun r59 =>
 ob ((some r59.1).bind (Value.int? .i64)) fun x60 =>
 bb (x60 != 0)
 (some (.ret (.bool false) r59.2))
 (bb (Int.tmod x1 8 != 0)
 (some (.ret (.bool false) r59.2))
 (bb (Int.tmod x2 8 != 0)
 (some (.ret (.bool false) r59.2))
 (bb ((n17 : Int) != IntKind.i64.wrap ((IntKind.i64.wrap (Int.tdiv x1 8)) * (IntKind.i64.wrap (Int.tdiv x2 8))))
 (some (.ret (.bool false) r59.2))
 (bb ((n20 : Int) != IntKind.i64.wrap ((IntKind.i64.wrap (Int.tdiv (IntKind.i64.wrap (x1 + 63)) 64)) * (IntKind.i64.wrap (Int.tdiv (IntKind.i64.wrap (x2 + 63)) 64))))
 (some (.ret (.bool false) r59.2))
 (bb (!b45)
 (some (.ret (.bool true) r59.2))
 (bb (decide (x46 < 3))
 (some (.ret (.bool false) r59.2))
 (bb (decide (x46 > 6))
 (some (.ret (.bool false) r59.2))
 (bb (decide ((n49 : Int) < 1))
 (some (.ret (.bool false) r59.2))
 (bb (decide ((n49 : Int) > 8))
 (some (.ret (.bool false) r59.2))
 (some (zoetroperef23_may.c2036 A19 n20 c21 0 b22 x23 b24 b25 x26 x27 x28 x29 x30 x31 x32 x33 x34 x35 x36 x37 x38 b39 x40 x41 x42 x43 x44 b45 x46 x47 A48 n49 c50 b51 b52 b53 r59.2))))))))))) := by kernel_rfl
theorem zoetroperef23_may.p2036 (k lo : Nat) (A1 : Option Addr) (n2 : Nat) (c3 : Nat) (x4 : Int) (b5 : Bool) (x6 : Int) (b7 : Bool) (b8 : Bool) (x9 : Int) (x10 : Int) (x11 : Int) (x12 : Int) (x13 : Int) (x14 : Int) (x15 : Int) (x16 : Int) (x17 : Int) (x18 : Int) (x19 : Int) (x20 : Int) (x21 : Int) (b22 : Bool) (x23 : Int) (x24 : Int) (x25 : Int) (x26 : Int) (x27 : Int) (b28 : Bool) (x29 : Int) (x30 : Int) (A31 : Option Addr) (n32 : Nat) (c33 : Nat) (b34 : Bool) (b35 : Bool) (b36 : Bool) (M : Mem) : piece P T k lo F.zoetroperef23_may 2036 [.v (.slice A1 n2 c3), .l 7 0, .v (.int .i64 x4)] [[.bool b5, .int .i64 x6, .bool b7, .bool b8, .int .i64 x9, .int .i64 x10, .int .i64 x11, .int .i64 x12, .int .i64 x13, .int .i64 x14, .int .i64 x15, .int .i64 x16, .int .i64 x17, .int .i64 x18, .int .i64 x19, .int .i64 x20, .int .i64 x21, .bool b22, .int .i64 x23, .int .i64 x24, .int .i64 x25, .int .i64 x26, .int .i64 x27, .bool b28, .int .i64 x29, .int .i64 x30, .slice A31 n32 c33, .bool b34, .bool b35, .bool b36]] M =
 bb (decide (x4 < (n32 : Int)))
 (pb (0 ≤ x4 ∧ x4 < (n32 : Int))
 (ob A31 fun a61 =>
 ob ((M.ld (plus a61 (x4.toNat * 4))).bind (Value.int? .i64)) fun x62 =>
 ob ((M.ld (plus (plus a61 (x4.toNat * 4)) 1)).bind (Value.int? .i64)) fun x63 =>
 ob ((M.ld (plus (plus a61 (x4.toNat * 4)) 2)).bind (Value.int? .i64)) fun x64 =>
 ob ((M.ld (plus (plus a61 (x4.toNat * 4)) 3)).bind (Value.int? .i64)) fun x65 =>
 ob (acall P T k lo F.zoetroperef23_strength [.agg ⟨[.int .i64 x62, .int .i64 x63, .int .i64 x64, .int .i64 x65]⟩] M) fun r66 =>
 ob ((some r66.1).bind Value.bool?) fun b67 =>
 bb (!b67)
 (some (.ret (.bool false) r66.2))
 (some (zoetroperef23_may.c2036 A1 n2 c3 (IntKind.i64.wrap (x4 + 1)) b5 x6 b7 b8 x9 x10 x11 x12 x13 x14 x15 x16 x17 x18 x19 x20 x21 b22 x23 x24 x25 x26 x27 b28 x29 x30 A31 n32 c33 b34 b35 b36 r66.2))) none)
 (some (zoetroperef23_may.c4084 A1 n2 c3 0 b5 x6 b7 b8 x9 x10 x11 x12 x13 x14 x15 x16 x17 x18 x19 x20 x21 b22 x23 x24 x25 x26 x27 b28 x29 x30 A31 n32 c33 b34 b35 b36 M)) := by kernel_rfl
theorem zoetroperef23_may.p4084 (k lo : Nat) (A1 : Option Addr) (n2 : Nat) (c3 : Nat) (x4 : Int) (b5 : Bool) (x6 : Int) (b7 : Bool) (b8 : Bool) (x9 : Int) (x10 : Int) (x11 : Int) (x12 : Int) (x13 : Int) (x14 : Int) (x15 : Int) (x16 : Int) (x17 : Int) (x18 : Int) (x19 : Int) (x20 : Int) (x21 : Int) (b22 : Bool) (x23 : Int) (x24 : Int) (x25 : Int) (x26 : Int) (x27 : Int) (b28 : Bool) (x29 : Int) (x30 : Int) (A31 : Option Addr) (n32 : Nat) (c33 : Nat) (b34 : Bool) (b35 : Bool) (b36 : Bool) (M : Mem) : piece P T k lo F.zoetroperef23_may 4084 [.v (.slice A1 n2 c3), .l 7 0, .v (.int .i64 x4)] [[.bool b5, .int .i64 x6, .bool b7, .bool b8, .int .i64 x9, .int .i64 x10, .int .i64 x11, .int .i64 x12, .int .i64 x13, .int .i64 x14, .int .i64 x15, .int .i64 x16, .int .i64 x17, .int .i64 x18, .int .i64 x19, .int .i64 x20, .int .i64 x21, .bool b22, .int .i64 x23, .int .i64 x24, .int .i64 x25, .int .i64 x26, .int .i64 x27, .bool b28, .int .i64 x29, .int .i64 x30, .slice A31 n32 c33, .bool b34, .bool b35, .bool b36]] M =
 bb (decide (x4 < (n2 : Int)))
 (pb (0 ≤ x4 ∧ x4 < (n2 : Int))
 (ob A1 fun a68 =>
 ob ((M.ld (plus a68 x4.toNat)).bind (Value.int? .i64)) fun x69 =>
 bb (decide (x69 < 0))
 (some (.ret (.bool false) M))
 (pb (0 ≤ x4 ∧ x4 < (n2 : Int))
 (ob A1 fun a70 =>
 ob ((M.ld (plus a70 x4.toNat)).bind (Value.int? .i64)) fun x71 =>
 bb (decide (x71 ≥ (n32 : Int)))
 (some (.ret (.bool false) M))
 (some (zoetroperef23_may.c4084 A1 n2 c3 (IntKind.i64.wrap (x4 + 1)) b5 x6 b7 b8 x9 x10 x11 x12 x13 x14 x15 x16 x17 x18 x19 x20 x21 b22 x23 x24 x25 x26 x27 b28 x29 x30 A31 n32 c33 b34 b35 b36 M))) none)) none)
 (some (.ret (.bool true) M)) := by kernel_rfl
theorem zoetroperef23_block.entry (k lo : Nat) (x1 : Int) (x2 : Int) (A3 : Option Addr) (n4 : Nat) (c5 : Nat) (x6 : Int) (x7 : Int) (A8 : Option Addr) (n9 : Nat) (c10 : Nat) (x11 : Int) (x12 : Int) (A13 : Option Addr) (n14 : Nat) (c15 : Nat) (x16 : Int) (x17 : Int) (A18 : Option Addr) (n19 : Nat) (c20 : Nat) (x21 : Int) (x22 : Int) (A23 : Option Addr) (n24 : Nat) (c25 : Nat) (x26 : Int) (x27 : Int) (A28 : Option Addr) (n29 : Nat) (c30 : Nat) (x31 : Int) (x32 : Int) (x33 : Int) (x34 : Int) (x35 : Int) (x36 : Int) (x37 : Int) (M : Mem) : entry P T k lo F.zoetroperef23_block [.agg ⟨[.int .i64 x1, .int .i64 x2, .slice A3 n4 c5, .int .i64 x6, .int .i64 x7, .slice A8 n9 c10, .int .i64 x11, .int .i64 x12, .slice A13 n14 c15]⟩, .agg ⟨[.int .i64 x16, .int .i64 x17, .slice A18 n19 c20, .int .i64 x21, .int .i64 x22, .slice A23 n24 c25, .int .i64 x26, .int .i64 x27, .slice A28 n29 c30]⟩, .int .i64 x31, .int .i64 x32, .agg ⟨[.int .i64 x33, .int .i64 x34, .int .i64 x35, .int .i64 x36]⟩, .int .i64 x37] M =
 ob (acall P T k lo F.zoetroperef05_Cut [.agg ⟨[.int .i64 x1, .int .i64 x2, .slice A3 n4 c5]⟩, .agg ⟨[.int .i64 x31, .int .i64 x32, .int .i64 8, .int .i64 8]⟩] M) fun r43 =>
 ob (r43.1.tup? 2) fun l44 =>
 ob ((l44[0]?).bind Value.slc?) fun s45 =>
 ob ((l44[1]?).bind (Value.int? .i64)) fun x46 =>
 ob (acall P T k lo F.zoetroperef23_Direction [.slice s45.a s45.n s45.c] r43.2) fun r47 =>
 ob (r47.1.tup? 3) fun l48 =>
 ob ((l48[0]?).bind (Value.int? .i64)) fun x49 =>
 ob ((l48[1]?).bind (Value.int? .i64)) fun x50 =>
 ob ((l48[2]?).bind (Value.int? .i64)) fun x51 =>
 bb (decide (x50 > 0))
 (bb (decide (shrI .i64 x50 6 > 0))
 (ob (acall P T k lo F.zoetroperef00_Log [.int .i64 (shrI .i64 x50 6)] r47.2) fun r52 =>
 ob ((some r52.1).bind (Value.int? .i64)) fun x53 =>
 some (zoetroperef23_block.c2027 x31 x32 x37 x49 (minI x53 12) x1 x2 A3 n4 c5 x6 x7 A8 n9 c10 x11 x12 A13 n14 c15 x16 x17 A18 n19 c20 x21 x22 A23 n24 c25 x26 x27 A28 n29 c30 x33 x34 x35 x36 x31 x32 8 8 r52.2))
 (some (zoetroperef23_block.c2027 x31 x32 x37 x49 0 x1 x2 A3 n4 c5 x6 x7 A8 n9 c10 x11 x12 A13 n14 c15 x16 x17 A18 n19 c20 x21 x22 A23 n24 c25 x26 x27 A28 n29 c30 x33 x34 x35 x36 x31 x32 8 8 r47.2)))
 (some (zoetroperef23_block.c127 x31 x32 x37 x49 0 x1 x2 A3 n4 c5 x6 x7 A8 n9 c10 x11 x12 A13 n14 c15 x16 x17 A18 n19 c20 x21 x22 A23 n24 c25 x26 x27 A28 n29 c30 x33 x34 x35 x36 x31 x32 8 8 r47.2)) := by kernel_rfl
theorem zoetroperef23_block.p127 (k lo : Nat) (x1 : Int) (x2 : Int) (x3 : Int) (x4 : Int) (x5 : Int) (x6 : Int) (x7 : Int) (A8 : Option Addr) (n9 : Nat) (c10 : Nat) (x11 : Int) (x12 : Int) (A13 : Option Addr) (n14 : Nat) (c15 : Nat) (x16 : Int) (x17 : Int) (A18 : Option Addr) (n19 : Nat) (c20 : Nat) (x21 : Int) (x22 : Int) (A23 : Option Addr) (n24 : Nat) (c25 : Nat) (x26 : Int) (x27 : Int) (A28 : Option Addr) (n29 : Nat) (c30 : Nat) (x31 : Int) (x32 : Int) (A33 : Option Addr) (n34 : Nat) (c35 : Nat) (x36 : Int) (x37 : Int) (x38 : Int) (x39 : Int) (x40 : Int) (x41 : Int) (x42 : Int) (x43 : Int) (M : Mem) : piece P T k lo F.zoetroperef23_block 127 [.v (.int .i64 x1), .v (.int .i64 x2), .v (.int .i64 x3), .l 6 0, .l 7 0, .l 10 0, .l 12 0, .v (.int .i64 x4), .v (.int .i64 x5)] [[.int .i64 x6, .int .i64 x7, .slice A8 n9 c10, .int .i64 x11, .int .i64 x12, .slice A13 n14 c15, .int .i64 x16, .int .i64 x17, .slice A18 n19 c20], [.int .i64 x21, .int .i64 x22, .slice A23 n24 c25, .int .i64 x26, .int .i64 x27, .slice A28 n29 c30, .int .i64 x31, .int .i64 x32, .slice A33 n34 c35], [.int .i64 x36, .int .i64 x37, .int .i64 x38, .int .i64 x39], [.int .i64 x40, .int .i64 x41, .int .i64 x42, .int .i64 x43]] M =
 bb (x36 == 0)
 (some (zoetroperef23_block.c511 x1 x2 x3 x4 x5 0 x6 x7 A8 n9 c10 x11 x12 A13 n14 c15 x16 x17 A18 n19 c20 x21 x22 A23 n24 c25 x26 x27 A28 n29 c30 x31 x32 A33 n34 c35 x36 x37 x38 x39 x40 x41 x42 x43 M))
 (some (zoetroperef23_block.c511 x1 x2 x3 x4 x5 x4 x6 x7 A8 n9 c10 x11 x12 A13 n14 c15 x16 x17 A18 n19 c20 x21 x22 A23 n24 c25 x26 x27 A28 n29 c30 x31 x32 A33 n34 c35 x36 x37 x38 x39 x40 x41 x42 x43 M)) := by kernel_rfl
theorem zoetroperef23_block.p511 (k lo : Nat) (x1 : Int) (x2 : Int) (x3 : Int) (x4 : Int) (x5 : Int) (x6 : Int) (x7 : Int) (x8 : Int) (A9 : Option Addr) (n10 : Nat) (c11 : Nat) (x12 : Int) (x13 : Int) (A14 : Option Addr) (n15 : Nat) (c16 : Nat) (x17 : Int) (x18 : Int) (A19 : Option Addr) (n20 : Nat) (c21 : Nat) (x22 : Int) (x23 : Int) (A24 : Option Addr) (n25 : Nat) (c26 : Nat) (x27 : Int) (x28 : Int) (A29 : Option Addr) (n30 : Nat) (c31 : Nat) (x32 : Int) (x33 : Int) (A34 : Option Addr) (n35 : Nat) (c36 : Nat) (x37 : Int) (x38 : Int) (x39 : Int) (x40 : Int) (x41 : Int) (x42 : Int) (x43 : Int) (x44 : Int) (M : Mem) : piece P T k lo F.zoetroperef23_block 511 [.v (.int .i64 x1), .v (.int .i64 x2), .v (.int .i64 x3), .l 6 0, .l 7 0, .l 10 0, .l 12 0, .v (.int .i64 x4), .v (.int .i64 x5), .v (.int .i64 x6)] [[.int .i64 x7, .int .i64 x8, .slice A9 n10 c11, .int .i64 x12, .int .i64 x13, .slice A14 n15 c16, .int .i64 x17, .int .i64 x18, .slice A19 n20 c21], [.int .i64 x22, .int .i64 x23, .slice A24 n25 c26, .int .i64 x27, .int .i64 x28, .slice A29 n30 c31, .int .i64 x32, .int .i64 x33, .slice A34 n35 c36], [.int .i64 x37, .int .i64 x38, .int .i64 x39, .int .i64 x40], [.int .i64 x41, .int .i64 x42, .int .i64 x43, .int .i64 x44]] M =
 ob (acall P T k M.length F.zoetroperef23_sec [.int .i64 x38] M) fun r54 =>
 ob ((some r54.1).bind (Value.int? .i64)) fun x55 =>
 ob (acall P T k M.length F.zoetroperef23_Block [.agg ⟨[.int .i64 x7, .int .i64 x8, .slice A9 n10 c11]⟩, .agg ⟨[.int .i64 x41, .int .i64 x42, .int .i64 x43, .int .i64 x44]⟩, .int .i64 x6, .int .i64 x5, .int .i64 x55, .int .i64 x3] r54.2) fun r56 =>
 ob (r56.1.tup? 2) fun l57 =>
 ob ((l57[0]?).bind Value.slc?) fun s58 =>
 ob ((l57[1]?).bind (Value.int? .i64)) fun x59 =>
 ob (acall P T k lo F.zoetroperef23_lay [.agg ⟨[.int .i64 x22, .int .i64 x23, .slice A24 n25 c26]⟩, .agg ⟨[.int .i64 x41, .int .i64 x42, .int .i64 x43, .int .i64 x44]⟩, .slice s58.a s58.n s58.c] r56.2) fun r60 =>
 ob (r60.1.tup? 0) fun l61 =>
 bb (x39 == 0)
 (some (zoetroperef23_block.c8191 x1 x2 x3 0 x7 x8 A9 n10 c11 x12 x13 A14 n15 c16 x17 x18 A19 n20 c21 x22 x23 A24 n25 c26 x27 x28 A29 n30 c31 x32 x33 A34 n35 c36 x37 x38 x39 x40 r60.2))
 (some (zoetroperef23_block.c8191 x1 x2 x3 x4 x7 x8 A9 n10 c11 x12 x13 A14 n15 c16 x17 x18 A19 n20 c21 x22 x23 A24 n25 c26 x27 x28 A29 n30 c31 x32 x33 A34 n35 c36 x37 x38 x39 x40 r60.2)) := by kernel_rfl
theorem zoetroperef23_block.p2027 (k lo : Nat) (x1 : Int) (x2 : Int) (x3 : Int) (x4 : Int) (x5 : Int) (x6 : Int) (x7 : Int) (A8 : Option Addr) (n9 : Nat) (c10 : Nat) (x11 : Int) (x12 : Int) (A13 : Option Addr) (n14 : Nat) (c15 : Nat) (x16 : Int) (x17 : Int) (A18 : Option Addr) (n19 : Nat) (c20 : Nat) (x21 : Int) (x22 : Int) (A23 : Option Addr) (n24 : Nat) (c25 : Nat) (x26 : Int) (x27 : Int) (A28 : Option Addr) (n29 : Nat) (c30 : Nat) (x31 : Int) (x32 : Int) (A33 : Option Addr) (n34 : Nat) (c35 : Nat) (x36 : Int) (x37 : Int) (x38 : Int) (x39 : Int) (x40 : Int) (x41 : Int) (x42 : Int) (x43 : Int) (M : Mem) : piece P T k lo F.zoetroperef23_block 2027 [.v (.int .i64 x1), .v (.int .i64 x2), .v (.int .i64 x3), .l 6 0, .l 7 0, .l 10 0, .l 12 0, .v (.int .i64 x4), .v (.int .i64 x5)] [[.int .i64 x6, .int .i64 x7, .slice A8 n9 c10, .int .i64 x11, .int .i64 x12, .slice A13 n14 c15, .int .i64 x16, .int .i64 x17, .slice A18 n19 c20], [.int .i64 x21, .int .i64 x22, .slice A23 n24 c25, .int .i64 x26, .int .i64 x27, .slice A28 n29 c30, .int .i64 x31, .int .i64 x32, .slice A33 n34 c35], [.int .i64 x36, .int .i64 x37, .int .i64 x38, .int .i64 x39], [.int .i64 x40, .int .i64 x41, .int .i64 x42, .int .i64 x43]] M =
 some (zoetroperef23_block.c127 x1 x2 x3 x4 (shrI .i64 (IntKind.i64.wrap ((IntKind.i64.wrap (x36 * (IntKind.i64.wrap (4 + x5)))) + 8)) 4) x6 x7 A8 n9 c10 x11 x12 A13 n14 c15 x16 x17 A18 n19 c20 x21 x22 A23 n24 c25 x26 x27 A28 n29 c30 x31 x32 A33 n34 c35 x36 x37 x38 x39 x40 x41 x42 x43 M) := by kernel_rfl
theorem zoetroperef23_block.p8191 (k lo : Nat) (x1 : Int) (x2 : Int) (x3 : Int) (x4 : Int) (x5 : Int) (x6 : Int) (A7 : Option Addr) (n8 : Nat) (c9 : Nat) (x10 : Int) (x11 : Int) (A12 : Option Addr) (n13 : Nat) (c14 : Nat) (x15 : Int) (x16 : Int) (A17 : Option Addr) (n18 : Nat) (c19 : Nat) (x20 : Int) (x21 : Int) (A22 : Option Addr) (n23 : Nat) (c24 : Nat) (x25 : Int) (x26 : Int) (A27 : Option Addr) (n28 : Nat) (c29 : Nat) (x30 : Int) (x31 : Int) (A32 : Option Addr) (n33 : Nat) (c34 : Nat) (x35 : Int) (x36 : Int) (x37 : Int) (x38 : Int) (M : Mem) : piece P T k lo F.zoetroperef23_block 8191 [.v (.int .i64 x1), .v (.int .i64 x2), .v (.int .i64 x3), .l 6 0, .l 7 0, .l 10 0, .v (.int .i64 x4)] [[.int .i64 x5, .int .i64 x6, .slice A7 n8 c9, .int .i64 x10, .int .i64 x11, .slice A12 n13 c14, .int .i64 x15, .int .i64 x16, .slice A17 n18 c19], [.int .i64 x20, .int .i64 x21, .slice A22 n23 c24, .int .i64 x25, .int .i64 x26, .slice A27 n28 c29, .int .i64 x30, .int .i64 x31, .slice A32 n33 c34], [.int .i64 x35, .int .i64 x36, .int .i64 x37, .int .i64 x38]] M =
 some (zoetroperef23_block.c131068 x3 x4 1 x5 x6 A7 n8 c9 x10 x11 A12 n13 c14 x15 x16 A17 n18 c19 x20 x21 A22 n23 c24 x25 x26 A27 n28 c29 x30 x31 A32 n33 c34 x35 x36 x37 x38 (IntKind.i64.wrap (Int.tdiv x1 2)) (IntKind.i64.wrap (Int.tdiv x2 2)) 4 4 M) := by kernel_rfl
theorem zoetroperef23_block.p131068 (k lo : Nat) (x1 : Int) (x2 : Int) (x3 : Int) (x4 : Int) (x5 : Int) (A6 : Option Addr) (n7 : Nat) (c8 : Nat) (x9 : Int) (x10 : Int) (A11 : Option Addr) (n12 : Nat) (c13 : Nat) (x14 : Int) (x15 : Int) (A16 : Option Addr) (n17 : Nat) (c18 : Nat) (x19 : Int) (x20 : Int) (A21 : Option Addr) (n22 : Nat) (c23 : Nat) (x24 : Int) (x25 : Int) (A26 : Option Addr) (n27 : Nat) (c28 : Nat) (x29 : Int) (x30 : Int) (A31 : Option Addr) (n32 : Nat) (c33 : Nat) (x34 : Int) (x35 : Int) (x36 : Int) (x37 : Int) (x38 : Int) (x39 : Int) (x40 : Int) (x41 : Int) (M : Mem) : piece P T k lo F.zoetroperef23_block 131068 [.v (.int .i64 x1), .l 6 0, .l 7 0, .l 10 0, .v (.int .i64 x2), .l 23 0, .v (.int .i64 x3)] [[.int .i64 x4, .int .i64 x5, .slice A6 n7 c8, .int .i64 x9, .int .i64 x10, .slice A11 n12 c13, .int .i64 x14, .int .i64 x15, .slice A16 n17 c18], [.int .i64 x19, .int .i64 x20, .slice A21 n22 c23, .int .i64 x24, .int .i64 x25, .slice A26 n27 c28, .int .i64 x29, .int .i64 x30, .slice A31 n32 c33], [.int .i64 x34, .int .i64 x35, .int .i64 x36, .int .i64 x37], [.int .i64 x38, .int .i64 x39, .int .i64 x40, .int .i64 x41]] M =
 bb (decide (x3 < 3))
 (pb (0 ≤ x3 ∧ x3 < (3 : Int))
 (ob ((([.int .i64 x4, .int .i64 x5, .slice A6 n7 c8, .int .i64 x9, .int .i64 x10, .slice A11 n12 c13, .int .i64 x14, .int .i64 x15, .slice A16 n17 c18] : List Value)[0 + (x3.toNat * 3) + 0]?).bind (Value.int? .i64)) fun x62 =>
 ob ((([.int .i64 x4, .int .i64 x5, .slice A6 n7 c8, .int .i64 x9, .int .i64 x10, .slice A11 n12 c13, .int .i64 x14, .int .i64 x15, .slice A16 n17 c18] : List Value)[0 + (x3.toNat * 3) + 1]?).bind (Value.int? .i64)) fun x63 =>
 ob ((([.int .i64 x4, .int .i64 x5, .slice A6 n7 c8, .int .i64 x9, .int .i64 x10, .slice A11 n12 c13, .int .i64 x14, .int .i64 x15, .slice A16 n17 c18] : List Value)[0 + (x3.toNat * 3) + 2]?).bind Value.slc?) fun s64 =>
 ob (acall P T k M.length F.zoetroperef23_sec [.int .i64 x37] M) fun r65 =>
 ob ((some r65.1).bind (Value.int? .i64)) fun x66 =>
 ob (acall P T k M.length F.zoetroperef23_Block [.agg ⟨[.int .i64 x62, .int .i64 x63, .slice s64.a s64.n s64.c]⟩, .agg ⟨[.int .i64 x38, .int .i64 x39, .int .i64 x40, .int .i64 x41]⟩, .int .i64 x2, .int .i64 x36, .int .i64 x66, .int .i64 (IntKind.i64.wrap (x1 - 1))] r65.2) fun r67 =>
 ob (r67.1.tup? 2) fun l68 =>
 ob ((l68[0]?).bind Value.slc?) fun s69 =>
 ob ((l68[1]?).bind (Value.int? .i64)) fun x70 =>
 pb (0 ≤ x3 ∧ x3 < (3 : Int))
 (ob ((([.int .i64 x19, .int .i64 x20, .slice A21 n22 c23, .int .i64 x24, .int .i64 x25, .slice A26 n27 c28, .int .i64 x29, .int .i64 x30, .slice A31 n32 c33] : List Value)[0 + (x3.toNat * 3) + 0]?).bind (Value.int? .i64)) fun x71 =>
 ob ((([.int .i64 x19, .int .i64 x20, .slice A21 n22 c23, .int .i64 x24, .int .i64 x25, .slice A26 n27 c28, .int .i64 x29, .int .i64 x30, .slice A31 n32 c33] : List Value)[0 + (x3.toNat * 3) + 1]?).bind (Value.int? .i64)) fun x72 =>
 ob ((([.int .i64 x19, .int .i64 x20, .slice A21 n22 c23, .int .i64 x24, .int .i64 x25, .slice A26 n27 c28, .int .i64 x29, .int .i64 x30, .slice A31 n32 c33] : List Value)[0 + (x3.toNat * 3) + 2]?).bind Value.slc?) fun s73 =>
 ob (acall P T k lo F.zoetroperef23_lay [.agg ⟨[.int .i64 x71, .int .i64 x72, .slice s73.a s73.n s73.c]⟩, .agg ⟨[.int .i64 x38, .int .i64 x39, .int .i64 x40, .int .i64 x41]⟩, .slice s69.a s69.n s69.c] r67.2) fun r74 =>
 ob (r74.1.tup? 0) fun l75 =>
 some (zoetroperef23_block.c131068 x1 x2 (IntKind.i64.wrap (x3 + 1)) x4 x5 A6 n7 c8 x9 x10 A11 n12 c13 x14 x15 A16 n17 c18 x19 x20 A21 n22 c23 x24 x25 A26 n27 c28 x29 x30 A31 n32 c33 x34 x35 x36 x37 x38 x39 x40 x41 r74.2)) none) none)
 (some (.ret (.tuple ⟨[]⟩) M)) := by kernel_rfl
theorem zoetroperef05_Same.entry (k lo : Nat) (x1 : Int) (x2 : Int) (A3 : Option Addr) (n4 : Nat) (c5 : Nat) (x6 : Int) (x7 : Int) (A8 : Option Addr) (n9 : Nat) (c10 : Nat) (M : Mem) : entry P T k lo F.zoetroperef05_Same [.agg ⟨[.int .i64 x1, .int .i64 x2, .slice A3 n4 c5]⟩, .agg ⟨[.int .i64 x6, .int .i64 x7, .slice A8 n9 c10]⟩] M =
 bb (x1 == x6)
 (bb (x2 == x7)
 (ob (acall P T k lo F.zoetroperef00_EqBytes [.slice A3 n4 c5, .slice A8 n9 c10] M) fun r16 =>
 ob ((some r16.1).bind Value.bool?) fun b17 =>
 some (.ret (.bool b17) r16.2))
 (some (.ret (.bool false) M)))
 (some (.ret (.bool false) M)) := by kernel_rfl
theorem plane_within.entry (k lo : Nat) (x1 : Int) (x2 : Int) (A3 : Option Addr) (n4 : Nat) (c5 : Nat) (x6 : Int) (x7 : Int) (x8 : Int) (x9 : Int) (M : Mem) : entry P T k lo F.plane_within [.agg ⟨[.int .i64 x1, .int .i64 x2, .slice A3 n4 c5]⟩, .agg ⟨[.int .i64 x6, .int .i64 x7, .int .i64 x8, .int .i64 x9]⟩] M =
 ob (acall P T k lo F.plane_Check [.agg ⟨[.int .i64 x1, .int .i64 x2, .slice A3 n4 c5]⟩] M) fun r15 =>
 ob ((some r15.1).bind (Value.int? .i64)) fun x16 =>
 bb (x16 == 0)
 (bb (decide (x8 ≥ 1))
 (bb (decide (x9 ≥ 1))
 (bb (decide (x6 ≥ 0))
 (bb (decide (x7 ≥ 0))
 (bb (decide (x8 ≤ x1))
 (bb (decide (x9 ≤ x2))
 (bb (decide (x6 ≤ IntKind.i64.wrap (x1 - x8)))
 (some (.ret (.bool (decide (x7 ≤ IntKind.i64.wrap (x2 - x9)))) r15.2))
 (some (.ret (.bool false) r15.2)))
 (some (.ret (.bool false) r15.2)))
 (some (.ret (.bool false) r15.2)))
 (some (.ret (.bool false) r15.2)))
 (some (.ret (.bool false) r15.2)))
 (some (.ret (.bool false) r15.2)))
 (some (.ret (.bool false) r15.2)))
 (some (.ret (.bool false) r15.2)) := by kernel_rfl
theorem plane_row.entry (k lo : Nat) (x1 : Int) (x2 : Int) (A3 : Option Addr) (n4 : Nat) (c5 : Nat) (x6 : Int) (x7 : Int) (x8 : Int) (x9 : Int) (x10 : Int) (M : Mem) : entry P T k lo F.plane_row [.agg ⟨[.int .i64 x1, .int .i64 x2, .slice A3 n4 c5]⟩, .agg ⟨[.int .i64 x6, .int .i64 x7, .int .i64 x8, .int .i64 x9]⟩, .int .i64 x10] M =
 pb (0 ≤ IntKind.i64.wrap ((IntKind.i64.wrap ((IntKind.i64.wrap (x7 + x10)) * x1)) + x6) ∧ IntKind.i64.wrap ((IntKind.i64.wrap ((IntKind.i64.wrap (x7 + x10)) * x1)) + x6) ≤ IntKind.i64.wrap ((IntKind.i64.wrap ((IntKind.i64.wrap ((IntKind.i64.wrap (x7 + x10)) * x1)) + x6)) + x8) ∧ IntKind.i64.wrap ((IntKind.i64.wrap ((IntKind.i64.wrap ((IntKind.i64.wrap (x7 + x10)) * x1)) + x6)) + x8) ≤ IntKind.i64.wrap ((IntKind.i64.wrap ((IntKind.i64.wrap ((IntKind.i64.wrap (x7 + x10)) * x1)) + x6)) + x8) ∧ IntKind.i64.wrap ((IntKind.i64.wrap ((IntKind.i64.wrap ((IntKind.i64.wrap (x7 + x10)) * x1)) + x6)) + x8) ≤ (c5 : Int))
 (some (.ret (.slice (slAddr3 1 A3 ((IntKind.i64.wrap ((IntKind.i64.wrap ((IntKind.i64.wrap (x7 + x10)) * x1)) + x6)).toNat) ((IntKind.i64.wrap ((IntKind.i64.wrap ((IntKind.i64.wrap ((IntKind.i64.wrap (x7 + x10)) * x1)) + x6)) + x8)).toNat)) (((IntKind.i64.wrap ((IntKind.i64.wrap ((IntKind.i64.wrap ((IntKind.i64.wrap (x7 + x10)) * x1)) + x6)) + x8)).toNat) - ((IntKind.i64.wrap ((IntKind.i64.wrap ((IntKind.i64.wrap (x7 + x10)) * x1)) + x6)).toNat)) (((IntKind.i64.wrap ((IntKind.i64.wrap ((IntKind.i64.wrap ((IntKind.i64.wrap (x7 + x10)) * x1)) + x6)) + x8)).toNat) - ((IntKind.i64.wrap ((IntKind.i64.wrap ((IntKind.i64.wrap (x7 + x10)) * x1)) + x6)).toNat))) M)) none := by kernel_rfl
theorem plane_Same.entry (k lo : Nat) (x1 : Int) (x2 : Int) (A3 : Option Addr) (n4 : Nat) (c5 : Nat) (x6 : Int) (x7 : Int) (A8 : Option Addr) (n9 : Nat) (c10 : Nat) (M : Mem) : entry P T k lo F.plane_Same [.agg ⟨[.int .i64 x1, .int .i64 x2, .slice A3 n4 c5]⟩, .agg ⟨[.int .i64 x6, .int .i64 x7, .slice A8 n9 c10]⟩] M =
 bb (x1 == x6)
 (bb (x2 == x7)
 (ob (acall P T k lo F.slices_Equal__uint8_uint8 [.slice A3 n4 c5, .slice A8 n9 c10] M) fun r16 =>
 ob ((some r16.1).bind Value.bool?) fun b17 =>
 some (.ret (.bool b17) r16.2))
 (some (.ret (.bool false) M)))
 (some (.ret (.bool false) M)) := by kernel_rfl
theorem plane_sides.entry (k lo : Nat) (x1 : Int) (x2 : Int) (M : Mem) : entry P T k lo F.plane_sides [.int .i64 x1, .int .i64 x2] M =
 bb (andI .i64 x1 1 == 0)
 (bb (andI .i64 x2 1 == 0)
 (bb (decide ((minI x1 x2) ≥ 16))
 (some (.ret (.bool (decide ((maxI x1 x2) ≤ 256))) M))
 (some (.ret (.bool false) M)))
 (some (.ret (.bool false) M)))
 (some (.ret (.bool false) M)) := by kernel_rfl
theorem plane_New.entry (k lo : Nat) (x1 : Int) (x2 : Int) (x3 : Int) (M : Mem) : entry P T k lo F.plane_New [.int .i64 x1, .int .i64 x2, .int .u8 x3] M =
 ob (acall P T k lo F.plane_sizes [.int .i64 x1, .int .i64 x2] M) fun r9 =>
 ob ((some r9.1).bind Value.bool?) fun b10 =>
 bb (!b10)
 (some (.ret (.tuple ⟨[.agg ⟨[.int .i64 0, .int .i64 0, .slice none 0 0]⟩, .int .i64 2]⟩) r9.2))
 (ob (acall P T k lo F.slices_Repeat__uint8_uint8 [.slice (some ⟨r9.2.length, 0, none⟩) 1 1, .int .i64 (IntKind.i64.wrap (x1 * x2))] (r9.2 ++ [⟨.fx, [.int .u8 x3]⟩] : Mem)) fun r11 =>
 ob ((some r11.1).bind Value.slc?) fun s12 =>
 some (.ret (.tuple ⟨[.agg ⟨[.int .i64 x1, .int .i64 x2, .slice s12.a s12.n s12.c]⟩, .int .i64 0]⟩) r11.2)) := by kernel_rfl
theorem zoetroperef23_number.entry (k lo : Nat) (x1 : Int) (x2 : Int) (x3 : Int) (M : Mem) : entry P T k lo F.zoetroperef23_number [.int .i64 x1, .int .i64 x2, .int .i64 x3] M =
 bb (x1 == 0)
 (some (.ret (.int .i64 (IntKind.i64.wrap (x2 + x3))) M))
 (bb (x1 == 1)
 (some (.ret (.int .i64 (IntKind.i64.wrap (x2 + (IntKind.i64.wrap (Int.tdiv x3 2))))) M))
 (bb (x1 == 2)
 (some (.ret (.int .i64 x2) M))
 (bb (x1 == 3)
 (some (.ret (.int .i64 (IntKind.i64.wrap ((IntKind.i64.wrap (3 + x2)) - (IntKind.i64.wrap (Int.tdiv x3 2))))) M))
 (bb (x1 == 4)
 (some (.ret (.int .i64 (IntKind.i64.wrap ((IntKind.i64.wrap (7 + x2)) - x3))) M))
 (bb (x1 == 5)
 (some (.ret (.int .i64 (IntKind.i64.wrap ((IntKind.i64.wrap (3 - (IntKind.i64.wrap (Int.tdiv x2 2)))) + x3))) M))
 (bb (x1 == 6)
 (some (.ret (.int .i64 x3) M))
 (some (.ret (.int .i64 (IntKind.i64.wrap ((IntKind.i64.wrap (Int.tdiv x2 2)) + x3))) M)))))))) := by kernel_rfl
theorem math_bits_Len32.entry (k lo : Nat) (x1 : Int) (M : Mem) : entry P T k lo F.math_bits_Len32 [.int .u32 x1] M =
 bb (decide (x1 ≥ 65536))
 (some (math_bits_Len32.c7 (shrI .u32 x1 16) 16 M))
 (some (math_bits_Len32.c7 x1 0 M)) := by kernel_rfl
theorem math_bits_Len32.p7 (k lo : Nat) (x1 : Int) (x2 : Int) (M : Mem) : piece P T k lo F.math_bits_Len32 7 [.v (.int .u32 x1), .v (.int .i64 x2)] [] M =
 bb (decide (x1 ≥ 256))
 (some (math_bits_Len32.c15 (shrI .u32 x1 8) (IntKind.i64.wrap (x2 + 8)) M))
 (some (math_bits_Len32.c15 x1 x2 M)) := by kernel_rfl
theorem math_bits_Len32.p15 (k lo : Nat) (x1 : Int) (x2 : Int) (M : Mem) : piece P T k lo F.math_bits_Len32 15 [.v (.int .u32 x1), .v (.int .i64 x2)] [] M =
 pb (0 ≤ IntKind.u8.wrap x1 ∧ IntKind.u8.wrap x1 < ((⟨#[0, 1, 2, 2, 3, 3, 3, 3, 4, 4, 4, 4, 4, 4, 4, 4, 5, 5, 5, 5, 5, 5, 5, 5, 5, 5, 5, 5, 5, 5, 5, 5, 6, 6, 6, 6, 6, 6, 6, 6, 6, 6, 6, 6, 6, 6, 6, 6, 6, 6, 6, 6, 6, 6, 6, 6, 6, 6, 6, 6, 6, 6, 6, 6, 7, 7, 7, 7, 7, 7, 7, 7, 7, 7, 7, 7, 7, 7, 7, 7, 7, 7, 7, 7, 7, 7, 7, 7, 7, 7, 7, 7, 7, 7, 7, 7, 7, 7, 7, 7, 7, 7, 7, 7, 7, 7, 7, 7, 7, 7, 7, 7, 7, 7, 7, 7, 7, 7, 7, 7, 7, 7, 7, 7, 7, 7, 7, 7, 8, 8, 8, 8, 8, 8, 8, 8, 8, 8, 8, 8, 8, 8, 8, 8, 8, 8, 8, 8, 8, 8, 8, 8, 8, 8, 8, 8, 8, 8, 8, 8, 8, 8, 8, 8, 8, 8, 8, 8, 8, 8, 8, 8, 8, 8, 8, 8, 8, 8, 8, 8, 8, 8, 8, 8, 8, 8, 8, 8, 8, 8, 8, 8, 8, 8, 8, 8, 8, 8, 8, 8, 8, 8, 8, 8, 8, 8, 8, 8, 8, 8, 8, 8, 8, 8, 8, 8, 8, 8, 8, 8, 8, 8, 8, 8, 8, 8, 8, 8, 8, 8, 8, 8, 8, 8, 8, 8, 8, 8, 8, 8, 8, 8, 8, 8, 8, 8, 8, 8, 8, 8, 8, 8, 8, 8, 8, 8]⟩ : ByteArray).size : Int))
 (some (.ret (.int .i64 (IntKind.i64.wrap (x2 + (IntKind.i64.wrap (strAt (⟨#[0, 1, 2, 2, 3, 3, 3, 3, 4, 4, 4, 4, 4, 4, 4, 4, 5, 5, 5, 5, 5, 5, 5, 5, 5, 5, 5, 5, 5, 5, 5, 5, 6, 6, 6, 6, 6, 6, 6, 6, 6, 6, 6, 6, 6, 6, 6, 6, 6, 6, 6, 6, 6, 6, 6, 6, 6, 6, 6, 6, 6, 6, 6, 6, 7, 7, 7, 7, 7, 7, 7, 7, 7, 7, 7, 7, 7, 7, 7, 7, 7, 7, 7, 7, 7, 7, 7, 7, 7, 7, 7, 7, 7, 7, 7, 7, 7, 7, 7, 7, 7, 7, 7, 7, 7, 7, 7, 7, 7, 7, 7, 7, 7, 7, 7, 7, 7, 7, 7, 7, 7, 7, 7, 7, 7, 7, 7, 7, 8, 8, 8, 8, 8, 8, 8, 8, 8, 8, 8, 8, 8, 8, 8, 8, 8, 8, 8, 8, 8, 8, 8, 8, 8, 8, 8, 8, 8, 8, 8, 8, 8, 8, 8, 8, 8, 8, 8, 8, 8, 8, 8, 8, 8, 8, 8, 8, 8, 8, 8, 8, 8, 8, 8, 8, 8, 8, 8, 8, 8, 8, 8, 8, 8, 8, 8, 8, 8, 8, 8, 8, 8, 8, 8, 8, 8, 8, 8, 8, 8, 8, 8, 8, 8, 8, 8, 8, 8, 8, 8, 8, 8, 8, 8, 8, 8, 8, 8, 8, 8, 8, 8, 8, 8, 8, 8, 8, 8, 8, 8, 8, 8, 8, 8, 8, 8, 8, 8, 8, 8, 8, 8, 8, 8, 8, 8, 8]⟩ : ByteArray) (IntKind.u8.wrap x1).toNat))))) M)) none := by kernel_rfl
theorem math_bits_Len64.entry (k lo : Nat) (x1 : Int) (M : Mem) : entry P T k lo F.math_bits_Len64 [.int .u64 x1] M =
 bb (decide (x1 ≥ 4294967296))
 (some (math_bits_Len64.c7 (shrI .u64 x1 32) 32 M))
 (some (math_bits_Len64.c7 x1 0 M)) := by kernel_rfl
theorem math_bits_Len64.p7 (k lo : Nat) (x1 : Int) (x2 : Int) (M : Mem) : piece P T k lo F.math_bits_Len64 7 [.v (.int .u64 x1), .v (.int .i64 x2)] [] M =
 bb (decide (x1 ≥ 65536))
 (some (math_bits_Len64.c15 (shrI .u64 x1 16) (IntKind.i64.wrap (x2 + 16)) M))
 (some (math_bits_Len64.c15 x1 x2 M)) := by kernel_rfl
theorem math_bits_Len64.p15 (k lo : Nat) (x1 : Int) (x2 : Int) (M : Mem) : piece P T k lo F.math_bits_Len64 15 [.v (.int .u64 x1), .v (.int .i64 x2)] [] M =
 bb (decide (x1 ≥ 256))
 (some (math_bits_Len64.c31 (shrI .u64 x1 8) (IntKind.i64.wrap (x2 + 8)) M))
 (some (math_bits_Len64.c31 x1 x2 M)) := by kernel_rfl
theorem math_bits_Len64.p31 (k lo : Nat) (x1 : Int) (x2 : Int) (M : Mem) : piece P T k lo F.math_bits_Len64 31 [.v (.int .u64 x1), .v (.int .i64 x2)] [] M =
 pb (0 ≤ IntKind.u8.wrap x1 ∧ IntKind.u8.wrap x1 < ((⟨#[0, 1, 2, 2, 3, 3, 3, 3, 4, 4, 4, 4, 4, 4, 4, 4, 5, 5, 5, 5, 5, 5, 5, 5, 5, 5, 5, 5, 5, 5, 5, 5, 6, 6, 6, 6, 6, 6, 6, 6, 6, 6, 6, 6, 6, 6, 6, 6, 6, 6, 6, 6, 6, 6, 6, 6, 6, 6, 6, 6, 6, 6, 6, 6, 7, 7, 7, 7, 7, 7, 7, 7, 7, 7, 7, 7, 7, 7, 7, 7, 7, 7, 7, 7, 7, 7, 7, 7, 7, 7, 7, 7, 7, 7, 7, 7, 7, 7, 7, 7, 7, 7, 7, 7, 7, 7, 7, 7, 7, 7, 7, 7, 7, 7, 7, 7, 7, 7, 7, 7, 7, 7, 7, 7, 7, 7, 7, 7, 8, 8, 8, 8, 8, 8, 8, 8, 8, 8, 8, 8, 8, 8, 8, 8, 8, 8, 8, 8, 8, 8, 8, 8, 8, 8, 8, 8, 8, 8, 8, 8, 8, 8, 8, 8, 8, 8, 8, 8, 8, 8, 8, 8, 8, 8, 8, 8, 8, 8, 8, 8, 8, 8, 8, 8, 8, 8, 8, 8, 8, 8, 8, 8, 8, 8, 8, 8, 8, 8, 8, 8, 8, 8, 8, 8, 8, 8, 8, 8, 8, 8, 8, 8, 8, 8, 8, 8, 8, 8, 8, 8, 8, 8, 8, 8, 8, 8, 8, 8, 8, 8, 8, 8, 8, 8, 8, 8, 8, 8, 8, 8, 8, 8, 8, 8, 8, 8, 8, 8, 8, 8, 8, 8, 8, 8, 8, 8]⟩ : ByteArray).size : Int))
 (some (.ret (.int .i64 (IntKind.i64.wrap (x2 + (IntKind.i64.wrap (strAt (⟨#[0, 1, 2, 2, 3, 3, 3, 3, 4, 4, 4, 4, 4, 4, 4, 4, 5, 5, 5, 5, 5, 5, 5, 5, 5, 5, 5, 5, 5, 5, 5, 5, 6, 6, 6, 6, 6, 6, 6, 6, 6, 6, 6, 6, 6, 6, 6, 6, 6, 6, 6, 6, 6, 6, 6, 6, 6, 6, 6, 6, 6, 6, 6, 6, 7, 7, 7, 7, 7, 7, 7, 7, 7, 7, 7, 7, 7, 7, 7, 7, 7, 7, 7, 7, 7, 7, 7, 7, 7, 7, 7, 7, 7, 7, 7, 7, 7, 7, 7, 7, 7, 7, 7, 7, 7, 7, 7, 7, 7, 7, 7, 7, 7, 7, 7, 7, 7, 7, 7, 7, 7, 7, 7, 7, 7, 7, 7, 7, 8, 8, 8, 8, 8, 8, 8, 8, 8, 8, 8, 8, 8, 8, 8, 8, 8, 8, 8, 8, 8, 8, 8, 8, 8, 8, 8, 8, 8, 8, 8, 8, 8, 8, 8, 8, 8, 8, 8, 8, 8, 8, 8, 8, 8, 8, 8, 8, 8, 8, 8, 8, 8, 8, 8, 8, 8, 8, 8, 8, 8, 8, 8, 8, 8, 8, 8, 8, 8, 8, 8, 8, 8, 8, 8, 8, 8, 8, 8, 8, 8, 8, 8, 8, 8, 8, 8, 8, 8, 8, 8, 8, 8, 8, 8, 8, 8, 8, 8, 8, 8, 8, 8, 8, 8, 8, 8, 8, 8, 8, 8, 8, 8, 8, 8, 8, 8, 8, 8, 8, 8, 8, 8, 8, 8, 8, 8, 8]⟩ : ByteArray) (IntKind.u8.wrap x1).toNat))))) M)) none := by kernel_rfl
theorem cdef_along.entry (k lo : Nat) (M : Mem) : entry P T k lo F.cdef_along [] M =
 some (.ret (.agg ⟨[.int .i64 (-1), .int .i64 1, .int .i64 (-2), .int .i64 2, .int .i64 0, .int .i64 1, .int .i64 (-1), .int .i64 2, .int .i64 0, .int .i64 1, .int .i64 0, .int .i64 2, .int .i64 0, .int .i64 1, .int .i64 1, .int .i64 2, .int .i64 1, .int .i64 1, .int .i64 2, .int .i64 2, .int .i64 1, .int .i64 0, .int .i64 2, .int .i64 1, .int .i64 1, .int .i64 0, .int .i64 2, .int .i64 0, .int .i64 1, .int .i64 0, .int .i64 2, .int .i64 (-1)]⟩) M) := by kernel_rfl
theorem zoetroperef23_around_ask.entry (k lo : Nat) (a1 : Addr) (x2 : Int) (x3 : Int) (x4 : Int) (x5 : Int) (x6 : Int) (M : Mem) : entry P T k lo F.zoetroperef23_around_ask [.pointer (some a1), .agg ⟨[.int .i64 x2, .int .i64 x3]⟩, .int .i64 x4, .int .i64 x5, .int .i64 x6] M =
 ob ((M.ld (plus a1 2)).bind Value.slc?) fun s12 =>
 ob ((M.ld (plus a1 4)).bind (Value.int? .i64)) fun x13 =>
 ob ((M.ld a1).bind (Value.int? .i64)) fun x14 =>
 ob ((M.ld (plus a1 3)).bind (Value.int? .i64)) fun x15 =>
 pb (0 ≤ IntKind.i64.wrap ((IntKind.i64.wrap (x13 * x14)) + x15) ∧ IntKind.i64.wrap ((IntKind.i64.wrap (x13 * x14)) + x15) < (s12.n : Int))
 (ob s12.a fun a16 =>
 ob ((M.ld (plus a16 ((IntKind.i64.wrap ((IntKind.i64.wrap (x13 * x14)) + x15)).toNat))).bind (Value.int? .u8)) fun x17 =>
 some (zoetroperef23_around_ask.c60 a1 x4 x5 x6 (IntKind.i64.wrap x17) (-1) x2 x3 M)) none := by kernel_rfl
theorem zoetroperef23_around_ask.p60 (k lo : Nat) (a1 : Addr) (x2 : Int) (x3 : Int) (x4 : Int) (x5 : Int) (x6 : Int) (x7 : Int) (x8 : Int) (M : Mem) : piece P T k lo F.zoetroperef23_around_ask 60 [.v (.pointer (some a1)), .v (.int .i64 x2), .v (.int .i64 x3), .v (.int .i64 x4), .l 6 0, .v (.int .i64 x5), .v (.int .i64 x6)] [[.int .i64 x7, .int .i64 x8]] M =
 bb (decide (x6 ≤ 1))
 (ob ((M.ld (plus a1 4)).bind (Value.int? .i64)) fun x18 =>
 ob ((M.ld (plus a1 3)).bind (Value.int? .i64)) fun x19 =>
 bb (decide (IntKind.i64.wrap (x19 + (IntKind.i64.wrap (x6 * x8))) < 0))
 (some (zoetroperef23_around_ask.c243 a1 x2 x3 x4 x5 x6 x7 x8 M))
 (bb (decide (IntKind.i64.wrap (x18 + (IntKind.i64.wrap (x6 * x7))) < 0))
 (some (zoetroperef23_around_ask.c243 a1 x2 x3 x4 x5 x6 x7 x8 M))
 (ob ((M.ld a1).bind (Value.int? .i64)) fun x20 =>
 bb (decide (IntKind.i64.wrap (x19 + (IntKind.i64.wrap (x6 * x8))) ≥ x20))
 (some (zoetroperef23_around_ask.c243 a1 x2 x3 x4 x5 x6 x7 x8 M))
 (ob ((M.ld (plus a1 1)).bind (Value.int? .i64)) fun x21 =>
 bb (decide (IntKind.i64.wrap (x18 + (IntKind.i64.wrap (x6 * x7))) ≥ x21))
 (some (zoetroperef23_around_ask.c243 a1 x2 x3 x4 x5 x6 x7 x8 M))
 (ob ((M.ld (plus a1 2)).bind Value.slc?) fun s22 =>
 ob ((M.ld a1).bind (Value.int? .i64)) fun x23 =>
 pb (0 ≤ IntKind.i64.wrap ((IntKind.i64.wrap ((IntKind.i64.wrap (x18 + (IntKind.i64.wrap (x6 * x7)))) * x23)) + (IntKind.i64.wrap (x19 + (IntKind.i64.wrap (x6 * x8))))) ∧ IntKind.i64.wrap ((IntKind.i64.wrap ((IntKind.i64.wrap (x18 + (IntKind.i64.wrap (x6 * x7)))) * x23)) + (IntKind.i64.wrap (x19 + (IntKind.i64.wrap (x6 * x8))))) < (s22.n : Int))
 (ob s22.a fun a24 =>
 ob ((M.ld (plus a24 ((IntKind.i64.wrap ((IntKind.i64.wrap ((IntKind.i64.wrap (x18 + (IntKind.i64.wrap (x6 * x7)))) * x23)) + (IntKind.i64.wrap (x19 + (IntKind.i64.wrap (x6 * x8)))))).toNat))).bind (Value.int? .u8)) fun x25 =>
 ob ((if ((plus a1 5).block) < M.length then M.ld (plus a1 5) else none).bind (Value.int? .i64)) fun x26 =>
 ob (acall P T k M.length F.zoetroperef23_Limit [.int .i64 (IntKind.i64.wrap ((IntKind.i64.wrap x25) - x5)), .int .i64 x2, .int .i64 x3] M) fun r27 =>
 ob ((some r27.1).bind (Value.int? .i64)) fun x28 =>
 ob (r27.2.st lo (plus a1 5) [.int .i64 (IntKind.i64.wrap (x26 + (IntKind.i64.wrap (x4 * x28))))]) fun M29 =>
 ob ((M29.ld (plus a1 6)).bind (Value.int? .i64)) fun x30 =>
 ob (M29.st lo (plus a1 6) [.int .i64 (minI x30 (IntKind.i64.wrap x25))]) fun M31 =>
 ob ((M31.ld (plus a1 7)).bind (Value.int? .i64)) fun x32 =>
 ob (M31.st lo (plus a1 7) [.int .i64 (maxI x32 (IntKind.i64.wrap x25))]) fun M33 =>
 some (zoetroperef23_around_ask.c243 a1 x2 x3 x4 x5 x6 x7 x8 M33)) none)))))
 (some (.ret (.tuple ⟨[]⟩) M)) := by kernel_rfl
theorem zoetroperef23_around_ask.p243 (k lo : Nat) (a1 : Addr) (x2 : Int) (x3 : Int) (x4 : Int) (x5 : Int) (x6 : Int) (x7 : Int) (x8 : Int) (M : Mem) : piece P T k lo F.zoetroperef23_around_ask 243 [.v (.pointer (some a1)), .v (.int .i64 x2), .v (.int .i64 x3), .v (.int .i64 x4), .l 6 0, .v (.int .i64 x5), .v (.int .i64 x6)] [[.int .i64 x7, .int .i64 x8]] M =
 some (zoetroperef23_around_ask.c60 a1 x2 x3 x4 x5 (IntKind.i64.wrap (x6 + 2)) x7 x8 M) := by kernel_rfl
theorem zoetroperef23_steps.entry (k lo : Nat) (x1 : Int) (M : Mem) : entry P T k lo F.zoetroperef23_steps [.int .i64 x1] M =
 pb (0 ≤ Int.tmod x1 8 ∧ Int.tmod x1 8 < (8 : Int))
 (ob (((M ++ [⟨.fx, [.int .i64 (-1), .int .i64 1, .int .i64 (-2), .int .i64 2, .int .i64 0, .int .i64 1, .int .i64 (-1), .int .i64 2, .int .i64 0, .int .i64 1, .int .i64 0, .int .i64 2, .int .i64 0, .int .i64 1, .int .i64 1, .int .i64 2, .int .i64 1, .int .i64 1, .int .i64 2, .int .i64 2, .int .i64 1, .int .i64 0, .int .i64 2, .int .i64 1, .int .i64 1, .int .i64 0, .int .i64 2, .int .i64 0, .int .i64 1, .int .i64 0, .int .i64 2, .int .i64 (-1)]⟩] : Mem).ld (plus ⟨M.length, 0, none⟩ ((Int.tmod x1 8).toNat * 4))).bind (Value.int? .i64)) fun x7 =>
 ob (((M ++ [⟨.fx, [.int .i64 (-1), .int .i64 1, .int .i64 (-2), .int .i64 2, .int .i64 0, .int .i64 1, .int .i64 (-1), .int .i64 2, .int .i64 0, .int .i64 1, .int .i64 0, .int .i64 2, .int .i64 0, .int .i64 1, .int .i64 1, .int .i64 2, .int .i64 1, .int .i64 1, .int .i64 2, .int .i64 2, .int .i64 1, .int .i64 0, .int .i64 2, .int .i64 1, .int .i64 1, .int .i64 0, .int .i64 2, .int .i64 0, .int .i64 1, .int .i64 0, .int .i64 2, .int .i64 (-1)]⟩] : Mem).ld (plus (plus ⟨M.length, 0, none⟩ ((Int.tmod x1 8).toNat * 4)) 1)).bind (Value.int? .i64)) fun x8 =>
 ob (((M ++ [⟨.fx, [.int .i64 (-1), .int .i64 1, .int .i64 (-2), .int .i64 2, .int .i64 0, .int .i64 1, .int .i64 (-1), .int .i64 2, .int .i64 0, .int .i64 1, .int .i64 0, .int .i64 2, .int .i64 0, .int .i64 1, .int .i64 1, .int .i64 2, .int .i64 1, .int .i64 1, .int .i64 2, .int .i64 2, .int .i64 1, .int .i64 0, .int .i64 2, .int .i64 1, .int .i64 1, .int .i64 0, .int .i64 2, .int .i64 0, .int .i64 1, .int .i64 0, .int .i64 2, .int .i64 (-1)]⟩] : Mem).ld (plus (plus ⟨M.length, 0, none⟩ ((Int.tmod x1 8).toNat * 4)) 2)).bind (Value.int? .i64)) fun x9 =>
 ob (((M ++ [⟨.fx, [.int .i64 (-1), .int .i64 1, .int .i64 (-2), .int .i64 2, .int .i64 0, .int .i64 1, .int .i64 (-1), .int .i64 2, .int .i64 0, .int .i64 1, .int .i64 0, .int .i64 2, .int .i64 0, .int .i64 1, .int .i64 1, .int .i64 2, .int .i64 1, .int .i64 1, .int .i64 2, .int .i64 2, .int .i64 1, .int .i64 0, .int .i64 2, .int .i64 1, .int .i64 1, .int .i64 0, .int .i64 2, .int .i64 0, .int .i64 1, .int .i64 0, .int .i64 2, .int .i64 (-1)]⟩] : Mem).ld (plus (plus ⟨M.length, 0, none⟩ ((Int.tmod x1 8).toNat * 4)) 3)).bind (Value.int? .i64)) fun x10 =>
 some (.ret (.agg ⟨[.int .i64 x7, .int .i64 x8, .int .i64 x9, .int .i64 x10]⟩) (M ++ [⟨.fx, [.int .i64 (-1), .int .i64 1, .int .i64 (-2), .int .i64 2, .int .i64 0, .int .i64 1, .int .i64 (-1), .int .i64 2, .int .i64 0, .int .i64 1, .int .i64 0, .int .i64 2, .int .i64 0, .int .i64 1, .int .i64 1, .int .i64 2, .int .i64 1, .int .i64 1, .int .i64 2, .int .i64 2, .int .i64 1, .int .i64 0, .int .i64 2, .int .i64 1, .int .i64 1, .int .i64 0, .int .i64 2, .int .i64 0, .int .i64 1, .int .i64 0, .int .i64 2, .int .i64 (-1)]⟩] : Mem))) none := by kernel_rfl
theorem cdef_may_1.entry (k lo : Nat) (x1 : Int) (M : Mem) : entry P T k lo F.cdef_may_1 [.int .i64 x1] M =
 some (.ret (.int .i64 (IntKind.i64.wrap (Int.tdiv (IntKind.i64.wrap ((IntKind.i64.wrap (x1 + 64)) - 1)) 64))) M) := by kernel_rfl
theorem plane_Whole.entry (k lo : Nat) (x1 : Int) (x2 : Int) (A3 : Option Addr) (n4 : Nat) (c5 : Nat) (x6 : Int) (x7 : Int) (A8 : Option Addr) (n9 : Nat) (c10 : Nat) (x11 : Int) (x12 : Int) (A13 : Option Addr) (n14 : Nat) (c15 : Nat) (M : Mem) : entry P T k lo F.plane_Whole [.agg ⟨[.int .i64 x1, .int .i64 x2, .slice A3 n4 c5, .int .i64 x6, .int .i64 x7, .slice A8 n9 c10, .int .i64 x11, .int .i64 x12, .slice A13 n14 c15]⟩] M =
 some (plane_Whole.c116 x1 x2 x1 x2 A3 n4 c5 x6 x7 A8 n9 c10 x11 x12 A13 n14 c15 0 M) := by kernel_rfl
theorem plane_Whole.p116 (k lo : Nat) (x1 : Int) (x2 : Int) (x3 : Int) (x4 : Int) (A5 : Option Addr) (n6 : Nat) (c7 : Nat) (x8 : Int) (x9 : Int) (A10 : Option Addr) (n11 : Nat) (c12 : Nat) (x13 : Int) (x14 : Int) (A15 : Option Addr) (n16 : Nat) (c17 : Nat) (x18 : Int) (M : Mem) : piece P T k lo F.plane_Whole 116 [.v (.int .i64 x1), .v (.int .i64 x2), .v (.agg ⟨[.int .i64 x3, .int .i64 x4, .slice A5 n6 c7, .int .i64 x8, .int .i64 x9, .slice A10 n11 c12, .int .i64 x13, .int .i64 x14, .slice A15 n16 c17]⟩), .v (.int .i64 x18)] [] M =
 bb (decide (x18 < 3))
 (pb (0 ≤ x18 ∧ x18 < (3 : Int))
 (ob ((([.int .i64 x3, .int .i64 x4, .slice A5 n6 c7, .int .i64 x8, .int .i64 x9, .slice A10 n11 c12, .int .i64 x13, .int .i64 x14, .slice A15 n16 c17] : List Value)[x18.toNat * 3 + 0]?).bind (Value.int? .i64)) fun x21 =>
 ob ((([.int .i64 x3, .int .i64 x4, .slice A5 n6 c7, .int .i64 x8, .int .i64 x9, .slice A10 n11 c12, .int .i64 x13, .int .i64 x14, .slice A15 n16 c17] : List Value)[x18.toNat * 3 + 1]?).bind (Value.int? .i64)) fun x22 =>
 ob ((([.int .i64 x3, .int .i64 x4, .slice A5 n6 c7, .int .i64 x8, .int .i64 x9, .slice A10 n11 c12, .int .i64 x13, .int .i64 x14, .slice A15 n16 c17] : List Value)[x18.toNat * 3 + 2]?).bind Value.slc?) fun s23 =>
 ob (acall P T k lo F.plane_Check [.agg ⟨[.int .i64 x21, .int .i64 x22, .slice s23.a s23.n s23.c]⟩] M) fun r24 =>
 ob ((some r24.1).bind (Value.int? .i64)) fun x25 =>
 bb (x25 != 0)
 (some (.ret (.int .i64 2) r24.2))
 (ob (acall P T k lo F.plane_sides [.int .i64 x1, .int .i64 x2] r24.2) fun r26 =>
 ob ((some r26.1).bind Value.bool?) fun b27 =>
 bb (!b27)
 (some (.ret (.int .i64 2) r26.2))
 (pb ((minI x18 1) < 0) none
 (bb (x21 != shrI .i64 x1 ((minI x18 1).toNat))
 (some (.ret (.int .i64 2) r26.2))
 (pb ((minI x18 1) < 0) none
 (bb (x22 != shrI .i64 x2 ((minI x18 1).toNat))
 (some (.ret (.int .i64 2) r26.2))
 (some (plane_Whole.c116 x1 x2 x3 x4 A5 n6 c7 x8 x9 A10 n11 c12 x13 x14 A15 n16 c17 (IntKind.i64.wrap (x18 + 1)) r26.2)))))))) none)
 (some (.ret (.int .i64 0) M)) := by kernel_rfl
theorem slices_ContainsFunc__int_int.entry (k lo : Nat) (A1 : Option Addr) (n2 : Nat) (c3 : Nat) (v4 : Value) (M : Mem) : entry P T k lo F.slices_ContainsFunc__int_int [.slice A1 n2 c3, v4] M =
 ob (acall P T k lo F.slices_IndexFunc__int_int [.slice A1 n2 c3, v4] M) fun r10 =>
 ob ((some r10.1).bind (Value.int? .i64)) fun x11 =>
 some (.ret (.bool (decide (x11 ≥ 0))) r10.2) := by kernel_rfl
theorem cdef_may_2.entry (k lo : Nat) (x1 : Int) (a2 : Addr) (M : Mem) : entry P T k lo F.cdef_may_2 [.int .i64 x1, .pointer (some a2)] M =
 ob ((M.ld (plus a2 26)).bind Value.slc?) fun s8 =>
 ob (acall P T k lo F.cdef_within [.int .i64 x1, .int .i64 0, .int .i64 (IntKind.i64.wrap ((s8.n : Int) - 1))] M) fun r9 =>
 ob ((some r9.1).bind Value.bool?) fun b10 =>
 some (.ret (.bool (!b10)) r9.2) := by kernel_rfl
theorem zoetroperef05_Whole.entry (k lo : Nat) (x1 : Int) (x2 : Int) (A3 : Option Addr) (n4 : Nat) (c5 : Nat) (x6 : Int) (x7 : Int) (A8 : Option Addr) (n9 : Nat) (c10 : Nat) (x11 : Int) (x12 : Int) (A13 : Option Addr) (n14 : Nat) (c15 : Nat) (M : Mem) : entry P T k lo F.zoetroperef05_Whole [.agg ⟨[.int .i64 x1, .int .i64 x2, .slice A3 n4 c5, .int .i64 x6, .int .i64 x7, .slice A8 n9 c10, .int .i64 x11, .int .i64 x12, .slice A13 n14 c15]⟩] M =
 ob (acall P T k lo F.zoetroperef05_Check [.agg ⟨[.int .i64 x1, .int .i64 x2, .slice A3 n4 c5]⟩] M) fun r21 =>
 ob ((some r21.1).bind (Value.int? .i64)) fun x22 =>
 bb (x22 != 0)
 (some (.ret (.int .i64 2) r21.2))
 (ob (acall P T k lo F.zoetroperef05_side [.int .i64 x1] r21.2) fun r23 =>
 ob ((some r23.1).bind Value.bool?) fun b24 =>
 bb (!b24)
 (some (.ret (.int .i64 2) r23.2))
 (ob (acall P T k lo F.zoetroperef05_side [.int .i64 x2] r23.2) fun r25 =>
 ob ((some r25.1).bind Value.bool?) fun b26 =>
 bb (!b26)
 (some (.ret (.int .i64 2) r25.2))
 (some (zoetroperef05_Whole.c116 1 x1 x2 A3 n4 c5 x6 x7 A8 n9 c10 x11 x12 A13 n14 c15 r25.2)))) := by kernel_rfl
theorem zoetroperef05_Whole.p116 (k lo : Nat) (x1 : Int) (x2 : Int) (x3 : Int) (A4 : Option Addr) (n5 : Nat) (c6 : Nat) (x7 : Int) (x8 : Int) (A9 : Option Addr) (n10 : Nat) (c11 : Nat) (x12 : Int) (x13 : Int) (A14 : Option Addr) (n15 : Nat) (c16 : Nat) (M : Mem) : piece P T k lo F.zoetroperef05_Whole 116 [.l 1 0, .v (.int .i64 x1)] [[.int .i64 x2, .int .i64 x3, .slice A4 n5 c6, .int .i64 x7, .int .i64 x8, .slice A9 n10 c11, .int .i64 x12, .int .i64 x13, .slice A14 n15 c16]] M =
 bb (decide (x1 < 3))
 (pb (0 ≤ x1 ∧ x1 < (3 : Int))
 (ob ((([.int .i64 x2, .int .i64 x3, .slice A4 n5 c6, .int .i64 x7, .int .i64 x8, .slice A9 n10 c11, .int .i64 x12, .int .i64 x13, .slice A14 n15 c16] : List Value)[0 + (x1.toNat * 3) + 0]?).bind (Value.int? .i64)) fun x27 =>
 ob ((([.int .i64 x2, .int .i64 x3, .slice A4 n5 c6, .int .i64 x7, .int .i64 x8, .slice A9 n10 c11, .int .i64 x12, .int .i64 x13, .slice A14 n15 c16] : List Value)[0 + (x1.toNat * 3) + 1]?).bind (Value.int? .i64)) fun x28 =>
 ob ((([.int .i64 x2, .int .i64 x3, .slice A4 n5 c6, .int .i64 x7, .int .i64 x8, .slice A9 n10 c11, .int .i64 x12, .int .i64 x13, .slice A14 n15 c16] : List Value)[0 + (x1.toNat * 3) + 2]?).bind Value.slc?) fun s29 =>
 ob (acall P T k lo F.zoetroperef05_Check [.agg ⟨[.int .i64 x27, .int .i64 x28, .slice s29.a s29.n s29.c]⟩] M) fun r30 =>
 ob ((some r30.1).bind (Value.int? .i64)) fun x31 =>
 bb (x31 != 0)
 (some (.ret (.int .i64 2) r30.2))
 (pb (0 ≤ x1 ∧ x1 < (3 : Int))
 (ob ((([.int .i64 x2, .int .i64 x3, .slice A4 n5 c6, .int .i64 x7, .int .i64 x8, .slice A9 n10 c11, .int .i64 x12, .int .i64 x13, .slice A14 n15 c16] : List Value)[0 + (x1.toNat * 3) + 0 + 0]?).bind (Value.int? .i64)) fun x32 =>
 bb (x32 != IntKind.i64.wrap (Int.tdiv x2 2))
 (some (.ret (.int .i64 2) r30.2))
 (pb (0 ≤ x1 ∧ x1 < (3 : Int))
 (ob ((([.int .i64 x2, .int .i64 x3, .slice A4 n5 c6, .int .i64 x7, .int .i64 x8, .slice A9 n10 c11, .int .i64 x12, .int .i64 x13, .slice A14 n15 c16] : List Value)[0 + (x1.toNat * 3) + 1 + 0]?).bind (Value.int? .i64)) fun x33 =>
 bb (x33 != IntKind.i64.wrap (Int.tdiv x3 2))
 (some (.ret (.int .i64 2) r30.2))
 (some (zoetroperef05_Whole.c116 (IntKind.i64.wrap (x1 + 1)) x2 x3 A4 n5 c6 x7 x8 A9 n10 c11 x12 x13 A14 n15 c16 r30.2))) none)) none)) none)
 (some (.ret (.int .i64 0) M)) := by kernel_rfl
theorem zoetroperef23_strength.entry (k lo : Nat) (x1 : Int) (x2 : Int) (x3 : Int) (x4 : Int) (M : Mem) : entry P T k lo F.zoetroperef23_strength [.agg ⟨[.int .i64 x1, .int .i64 x2, .int .i64 x3, .int .i64 x4]⟩] M =
 bb (decide (x1 ≥ 0))
 (bb (decide (x1 ≤ 15))
 (bb (decide (x3 ≥ 0))
 (bb (decide (x3 ≤ 15))
 (bb (decide (x2 ≥ 0))
 (bb (decide (x2 ≤ 3))
 (bb (decide (x4 ≥ 0))
 (some (.ret (.bool (decide (x4 ≤ 3))) M))
 (some (.ret (.bool false) M)))
 (some (.ret (.bool false) M)))
 (some (.ret (.bool false) M)))
 (some (.ret (.bool false) M)))
 (some (.ret (.bool false) M)))
 (some (.ret (.bool false) M)))
 (some (.ret (.bool false) M)) := by kernel_rfl
theorem zoetroperef05_Cut.entry (k lo : Nat) (x1 : Int) (x2 : Int) (A3 : Option Addr) (n4 : Nat) (c5 : Nat) (x6 : Int) (x7 : Int) (x8 : Int) (x9 : Int) (M : Mem) : entry P T k lo F.zoetroperef05_Cut [.agg ⟨[.int .i64 x1, .int .i64 x2, .slice A3 n4 c5]⟩, .agg ⟨[.int .i64 x6, .int .i64 x7, .int .i64 x8, .int .i64 x9]⟩] M =
 ob (acall P T k lo F.zoetroperef05_Check [.agg ⟨[.int .i64 x1, .int .i64 x2, .slice A3 n4 c5]⟩] M) fun r15 =>
 ob ((some r15.1).bind (Value.int? .i64)) fun x16 =>
 bb (x16 != 0)
 (some (.ret (.tuple ⟨[.slice none 0 0, .int .i64 2]⟩) r15.2))
 (ob (acall P T k lo F.zoetroperef05_Within [.agg ⟨[.int .i64 x1, .int .i64 x2, .slice A3 n4 c5]⟩, .agg ⟨[.int .i64 x6, .int .i64 x7, .int .i64 x8, .int .i64 x9]⟩] r15.2) fun r17 =>
 ob ((some r17.1).bind Value.bool?) fun b18 =>
 bb (!b18)
 (some (.ret (.tuple ⟨[.slice none 0 0, .int .i64 2]⟩) r17.2))
 (some (zoetroperef05_Cut.c244 none 0 0 x7 x1 x2 A3 n4 c5 x6 x7 x8 x9 r17.2))) := by kernel_rfl
theorem zoetroperef05_Cut.p244 (k lo : Nat) (A1 : Option Addr) (n2 : Nat) (c3 : Nat) (x4 : Int) (x5 : Int) (x6 : Int) (A7 : Option Addr) (n8 : Nat) (c9 : Nat) (x10 : Int) (x11 : Int) (x12 : Int) (x13 : Int) (M : Mem) : piece P T k lo F.zoetroperef05_Cut 244 [.l 2 0, .l 3 0, .v (.slice A1 n2 c3), .v (.int .i64 x4)] [[.int .i64 x5, .int .i64 x6, .slice A7 n8 c9], [.int .i64 x10, .int .i64 x11, .int .i64 x12, .int .i64 x13]] M =
 bb (decide (x4 < IntKind.i64.wrap (x11 + x13)))
 (some (zoetroperef05_Cut.c15652 A1 n2 c3 x4 x10 x5 x6 A7 n8 c9 x10 x11 x12 x13 M))
 (some (.ret (.tuple ⟨[.slice A1 n2 c3, .int .i64 0]⟩) M)) := by kernel_rfl
theorem zoetroperef05_Cut.p15652 (k lo : Nat) (A1 : Option Addr) (n2 : Nat) (c3 : Nat) (x4 : Int) (x5 : Int) (x6 : Int) (x7 : Int) (A8 : Option Addr) (n9 : Nat) (c10 : Nat) (x11 : Int) (x12 : Int) (x13 : Int) (x14 : Int) (M : Mem) : piece P T k lo F.zoetroperef05_Cut 15652 [.l 2 0, .l 3 0, .v (.slice A1 n2 c3), .v (.int .i64 x4), .v (.int .i64 x5)] [[.int .i64 x6, .int .i64 x7, .slice A8 n9 c10], [.int .i64 x11, .int .i64 x12, .int .i64 x13, .int .i64 x14]] M =
 bb (decide (x5 < IntKind.i64.wrap (x11 + x13)))
 (pb (0 ≤ IntKind.i64.wrap ((IntKind.i64.wrap (x4 * x6)) + x5) ∧ IntKind.i64.wrap ((IntKind.i64.wrap (x4 * x6)) + x5) < (n9 : Int))
 (ob A8 fun a19 =>
 ob ((M.ld (plus a19 ((IntKind.i64.wrap ((IntKind.i64.wrap (x4 * x6)) + x5)).toNat))).bind (Value.int? .u8)) fun x20 =>
 ob (M.app lo 1 1 ⟨A1, n2, c3⟩ ([.int .u8 x20]) 1) fun r21 =>
 some (zoetroperef05_Cut.c15652 r21.1.a r21.1.n r21.1.c x4 (IntKind.i64.wrap (x5 + 1)) x6 x7 A8 n9 c10 x11 x12 x13 x14 r21.2)) none)
 (some (zoetroperef05_Cut.c244 A1 n2 c3 (IntKind.i64.wrap (x4 + 1)) x6 x7 A8 n9 c10 x11 x12 x13 x14 M)) := by kernel_rfl
theorem zoetroperef23_sec.entry (k lo : Nat) (x1 : Int) (M : Mem) : entry P T k lo F.zoetroperef23_sec [.int .i64 x1] M =
 bb (x1 == 3)
 (some (.ret (.int .i64 4) M))
 (some (.ret (.int .i64 x1) M)) := by kernel_rfl
theorem zoetroperef23_lay.entry (k lo : Nat) (x1 : Int) (x2 : Int) (A3 : Option Addr) (n4 : Nat) (c5 : Nat) (x6 : Int) (x7 : Int) (x8 : Int) (x9 : Int) (A10 : Option Addr) (n11 : Nat) (c12 : Nat) (M : Mem) : entry P T k lo F.zoetroperef23_lay [.agg ⟨[.int .i64 x1, .int .i64 x2, .slice A3 n4 c5]⟩, .agg ⟨[.int .i64 x6, .int .i64 x7, .int .i64 x8, .int .i64 x9]⟩, .slice A10 n11 c12] M =
 some (zoetroperef23_lay.c28 A10 n11 c12 0 x1 x2 A3 n4 c5 x6 x7 x8 x9 M) := by kernel_rfl
theorem zoetroperef23_lay.p28 (k lo : Nat) (A1 : Option Addr) (n2 : Nat) (c3 : Nat) (x4 : Int) (x5 : Int) (x6 : Int) (A7 : Option Addr) (n8 : Nat) (c9 : Nat) (x10 : Int) (x11 : Int) (x12 : Int) (x13 : Int) (M : Mem) : piece P T k lo F.zoetroperef23_lay 28 [.v (.slice A1 n2 c3), .l 3 0, .l 4 0, .v (.int .i64 x4)] [[.int .i64 x5, .int .i64 x6, .slice A7 n8 c9], [.int .i64 x10, .int .i64 x11, .int .i64 x12, .int .i64 x13]] M =
 bb (decide (x4 < (n2 : Int)))
 (pb (x12 = 0) none
 (pb (x12 = 0) none
 (pb (0 ≤ x4 ∧ x4 < (n2 : Int))
 (ob A1 fun a18 =>
 ob ((M.ld (plus a18 x4.toNat)).bind (Value.int? .u8)) fun x19 =>
 pb (0 ≤ IntKind.i64.wrap ((IntKind.i64.wrap ((IntKind.i64.wrap ((IntKind.i64.wrap (x11 + (IntKind.i64.wrap (Int.tdiv x4 x12)))) * x5)) + x10)) + (Int.tmod x4 x12)) ∧ IntKind.i64.wrap ((IntKind.i64.wrap ((IntKind.i64.wrap ((IntKind.i64.wrap (x11 + (IntKind.i64.wrap (Int.tdiv x4 x12)))) * x5)) + x10)) + (Int.tmod x4 x12)) < (n8 : Int))
 (ob A7 fun a20 =>
 ob (M.st lo (plus a20 ((IntKind.i64.wrap ((IntKind.i64.wrap ((IntKind.i64.wrap ((IntKind.i64.wrap (x11 + (IntKind.i64.wrap (Int.tdiv x4 x12)))) * x5)) + x10)) + (Int.tmod x4 x12))).toNat)) [.int .u8 x19]) fun M21 =>
 some (zoetroperef23_lay.c28 A1 n2 c3 (IntKind.i64.wrap (x4 + 1)) x5 x6 A7 n8 c9 x10 x11 x12 x13 M21)) none) none)))
 (some (.ret (.tuple ⟨[]⟩) M)) := by kernel_rfl
theorem slices_Equal__uint8_uint8.entry (k lo : Nat) (A1 : Option Addr) (n2 : Nat) (c3 : Nat) (A4 : Option Addr) (n5 : Nat) (c6 : Nat) (M : Mem) : entry P T k lo F.slices_Equal__uint8_uint8 [.slice A1 n2 c3, .slice A4 n5 c6] M =
 bb ((n2 : Int) != (n5 : Int))
 (some (.ret (.bool false) M))
 (some (slices_Equal__uint8_uint8.c116 A1 n2 c3 A4 n5 c6 (n2 : Int) 0 M)) := by kernel_rfl
theorem slices_Equal__uint8_uint8.p116 (k lo : Nat) (A1 : Option Addr) (n2 : Nat) (c3 : Nat) (A4 : Option Addr) (n5 : Nat) (c6 : Nat) (x7 : Int) (x8 : Int) (M : Mem) : piece P T k lo F.slices_Equal__uint8_uint8 116 [.v (.slice A1 n2 c3), .v (.slice A4 n5 c6), .v (.int .i64 x7), .v (.int .i64 x8)] [] M =
 bb (decide (x8 < x7))
 (pb (0 ≤ x8 ∧ x8 < (n2 : Int))
 (ob A1 fun a12 =>
 ob ((M.ld (plus a12 x8.toNat)).bind (Value.int? .u8)) fun x13 =>
 pb (0 ≤ x8 ∧ x8 < (n5 : Int))
 (ob A4 fun a14 =>
 ob ((M.ld (plus a14 x8.toNat)).bind (Value.int? .u8)) fun x15 =>
 bb (x13 != x15)
 (some (.ret (.bool false) M))
 (some (slices_Equal__uint8_uint8.c116 A1 n2 c3 A4 n5 c6 x7 (IntKind.i64.wrap (x8 + 1)) M))) none) none)
 (some (.ret (.bool true) M)) := by kernel_rfl
theorem slices_Repeat__uint8_uint8.entry (k lo : Nat) (A1 : Option Addr) (n2 : Nat) (c3 : Nat) (x4 : Int) (M : Mem) : entry P T k lo F.slices_Repeat__uint8_uint8 [.slice A1 n2 c3, .int .i64 x4] M =
 bb (decide (x4 < 0))
 (none)
 (some (slices_Repeat__uint8_uint8.c7 A1 n2 c3 x4 M)) := by kernel_rfl
theorem slices_Repeat__uint8_uint8.p7 (k lo : Nat) (A1 : Option Addr) (n2 : Nat) (c3 : Nat) (x4 : Int) (M : Mem) : piece P T k lo F.slices_Repeat__uint8_uint8 7 [.v (.slice A1 n2 c3), .v (.int .i64 x4)] [] M =
 ob (acall P T k lo F.math_bits_Mul [.int .u64 (IntKind.u64.wrap (n2 : Int)), .int .u64 (IntKind.u64.wrap x4)] M) fun r10 =>
 ob (r10.1.tup? 2) fun l11 =>
 ob ((l11[0]?).bind (Value.int? .u64)) fun x12 =>
 ob ((l11[1]?).bind (Value.int? .u64)) fun x13 =>
 bb (decide (x12 > 0))
 (none)
 (bb (decide (x13 > 9223372036854775807))
 (none)
 (some (slices_Repeat__uint8_uint8.c31 A1 n2 c3 x13 r10.2))) := by kernel_rfl
theorem slices_Repeat__uint8_uint8.p31 (k lo : Nat) (A1 : Option Addr) (n2 : Nat) (c3 : Nat) (x4 : Int) (M : Mem) : piece P T k lo F.slices_Repeat__uint8_uint8 31 [.v (.slice A1 n2 c3), .v (.int .u64 x4)] [] M =
 pb (0 ≤ IntKind.i64.wrap x4 ∧ room ((IntKind.i64.wrap x4).toNat) 1)
 (ob (Mem.src (M ++ [⟨.fx, zerosL [.int .u8 0] ((IntKind.i64.wrap x4).toNat)⟩] : Mem) A1 (Nat.min n2 ((IntKind.i64.wrap x4).toNat)) (Nat.min n2 ((IntKind.i64.wrap x4).toNat))) fun l14 =>
 pb (Nat.min n2 ((IntKind.i64.wrap x4).toNat) = 0) (some (slices_Repeat__uint8_uint8.c1016 (some ⟨M.length, 0, none⟩) ((IntKind.i64.wrap x4).toNat) ((IntKind.i64.wrap x4).toNat) 0 (M ++ [⟨.fx, zerosL [.int .u8 0] ((IntKind.i64.wrap x4).toNat)⟩] : Mem)))
 (ob ((M ++ [⟨.fx, zerosL [.int .u8 0] ((IntKind.i64.wrap x4).toNat)⟩] : Mem).st lo ⟨M.length, 0, none⟩ l14) fun M15 =>
 some (slices_Repeat__uint8_uint8.c1016 (some ⟨M.length, 0, none⟩) ((IntKind.i64.wrap x4).toNat) ((IntKind.i64.wrap x4).toNat) ((Nat.min n2 ((IntKind.i64.wrap x4).toNat) : Nat) : Int) M15))) none := by kernel_rfl
theorem slices_Repeat__uint8_uint8.p1016 (k lo : Nat) (A1 : Option Addr) (n2 : Nat) (c3 : Nat) (x4 : Int) (M : Mem) : piece P T k lo F.slices_Repeat__uint8_uint8 1016 [.v (.slice A1 n2 c3), .v (.int .i64 x4)] [] M =
 bb (decide (x4 < (n2 : Int)))
 (pb (0 ≤ x4 ∧ x4 ≤ (n2 : Int))
 (pb (0 ≤ (0 : Int) ∧ (0 : Int) ≤ x4 ∧ x4 ≤ (c3 : Int))
 (ob (Mem.src M (slAddr 1 A1 0 c3) (Nat.min (x4.toNat - 0) (n2 - x4.toNat)) (Nat.min (x4.toNat - 0) (n2 - x4.toNat))) fun l17 =>
 pb (Nat.min (x4.toNat - 0) (n2 - x4.toNat) = 0) (some (slices_Repeat__uint8_uint8.c1016 A1 n2 c3 (IntKind.i64.wrap (x4 + 0)) M))
 (ob (slAddr 1 A1 x4.toNat c3) fun a19 =>
 ob (M.st lo a19 l17) fun M18 =>
 some (slices_Repeat__uint8_uint8.c1016 A1 n2 c3 (IntKind.i64.wrap (x4 + ((Nat.min (x4.toNat - 0) (n2 - x4.toNat) : Nat) : Int))) M18))) none) none)
 (some (.ret (.slice A1 n2 c3) M)) := by kernel_rfl
theorem slices_IndexFunc__int_int.entry (k lo : Nat) (A1 : Option Addr) (n2 : Nat) (c3 : Nat) (v4 : Value) (M : Mem) : entry P T k lo F.slices_IndexFunc__int_int [.slice A1 n2 c3, v4] M =
 some (slices_IndexFunc__int_int.c52 A1 n2 c3 v4 (n2 : Int) 0 M) := by kernel_rfl
theorem slices_IndexFunc__int_int.p52 (k lo : Nat) (A1 : Option Addr) (n2 : Nat) (c3 : Nat) (v4 : Value) (x5 : Int) (x6 : Int) (M : Mem) : piece P T k lo F.slices_IndexFunc__int_int 52 [.v (.slice A1 n2 c3), .v v4, .v (.int .i64 x5), .v (.int .i64 x6)] [] M =
 bb (decide (x6 < x5))
 (pb (0 ≤ x6 ∧ x6 < (n2 : Int))
 (ob A1 fun a10 =>
 ob ((M.ld (plus a10 x6.toNat)).bind (Value.int? .i64)) fun x11 =>
 ob (Value.fun? v4) fun q13 =>
 ob (acall P T k lo q13.1 (q13.2.1 ++ [.int .i64 x11] ++ q13.2.2) M) fun r12 =>
 ob ((some r12.1).bind Value.bool?) fun b14 =>
 bb b14
 (some (.ret (.int .i64 x6) r12.2))
 (some (slices_IndexFunc__int_int.c52 A1 n2 c3 v4 x5 (IntKind.i64.wrap (x6 + 1)) r12.2))) none)
 (some (.ret (.int .i64 (-1)) M)) := by kernel_rfl
theorem zoetroperef05_side.entry (k lo : Nat) (x1 : Int) (M : Mem) : entry P T k lo F.zoetroperef05_side [.int .i64 x1] M =
 bb (Int.tmod x1 2 == 0)
 (bb (decide (x1 ≥ 16))
 (some (.ret (.bool (decide (x1 ≤ 256))) M))
 (some (.ret (.bool false) M)))
 (some (.ret (.bool false) M)) := by kernel_rfl
theorem math_bits_Mul.entry (k lo : Nat) (x1 : Int) (x2 : Int) (M : Mem) : entry P T k lo F.math_bits_Mul [.int .u64 x1, .int .u64 x2] M =
 ob (acall P T k lo F.math_bits_Mul64 [.int .u64 x1, .int .u64 x2] M) fun r8 =>
 ob (r8.1.tup? 2) fun l9 =>
 ob ((l9[0]?).bind (Value.int? .u64)) fun x10 =>
 ob ((l9[1]?).bind (Value.int? .u64)) fun x11 =>
 some (.ret (.tuple ⟨[.int .u64 x10, .int .u64 x11]⟩) r8.2) := by kernel_rfl
theorem math_bits_Mul32.entry (k lo : Nat) (x1 : Int) (x2 : Int) (M : Mem) : entry P T k lo F.math_bits_Mul32 [.int .u32 x1, .int .u32 x2] M =
 some (.ret (.tuple ⟨[.int .u32 (IntKind.u32.wrap (shrI .u64 (IntKind.u64.wrap ((IntKind.u64.wrap x1) * (IntKind.u64.wrap x2))) 32)), .int .u32 (IntKind.u32.wrap (IntKind.u64.wrap ((IntKind.u64.wrap x1) * (IntKind.u64.wrap x2))))]⟩) M) := by kernel_rfl
theorem math_bits_Mul64.entry (k lo : Nat) (x1 : Int) (x2 : Int) (M : Mem) : entry P T k lo F.math_bits_Mul64 [.int .u64 x1, .int .u64 x2] M =
 some (.ret (.tuple ⟨[.int .u64 (IntKind.u64.wrap ((IntKind.u64.wrap ((IntKind.u64.wrap ((shrI .u64 x1 32) * (shrI .u64 x2 32))) + (shrI .u64 (IntKind.u64.wrap ((IntKind.u64.wrap ((shrI .u64 x1 32) * (andI .u64 x2 4294967295))) + (shrI .u64 (IntKind.u64.wrap ((andI .u64 x1 4294967295) * (andI .u64 x2 4294967295))) 32))) 32))) + (shrI .u64 (IntKind.u64.wrap ((andI .u64 (IntKind.u64.wrap ((IntKind.u64.wrap ((shrI .u64 x1 32) * (andI .u64 x2 4294967295))) + (shrI .u64 (IntKind.u64.wrap ((andI .u64 x1 4294967295) * (andI .u64 x2 4294967295))) 32))) 4294967295) + (IntKind.u64.wrap ((andI .u64 x1 4294967295) * (shrI .u64 x2 32))))) 32))), .int .u64 (IntKind.u64.wrap (x1 * x2))]⟩) M) := by kernel_rfl
end Go.Zt
