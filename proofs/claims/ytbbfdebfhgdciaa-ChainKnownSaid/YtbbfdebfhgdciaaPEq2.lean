/- What the law ChainKnown needs of the text Eq2. -/
import Derived.Test.YtbbfdebfhgdciaaPEq0
import Derived.KernelRfl
set_option maxRecDepth 100000
set_option maxHeartbeats 4000000
set_option linter.unusedVariables false
namespace Go.Zt
theorem zoetropelaw25_ChainKnown.entry (k lo : Nat) (M : Mem) : entry P T k lo F.zoetropelaw25_ChainKnown [] M =
 ob (acall P T k lo F.plane_Frame [.int .i64 16, .int .i64 16, .int .u8 7] M) fun r6 =>
 ob (r6.1.tup? 2) fun l7 =>
 ob ((l7[0]?).bind (Value.agg? 9)) fun l8 =>
 ob ((l8[0]?).bind (Value.int? .i64)) fun x9 =>
 ob ((l8[1]?).bind (Value.int? .i64)) fun x10 =>
 ob ((l8[2]?).bind Value.slc?) fun s11 =>
 ob ((l8[3]?).bind (Value.int? .i64)) fun x12 =>
 ob ((l8[4]?).bind (Value.int? .i64)) fun x13 =>
 ob ((l8[5]?).bind Value.slc?) fun s14 =>
 ob ((l8[6]?).bind (Value.int? .i64)) fun x15 =>
 ob ((l8[7]?).bind (Value.int? .i64)) fun x16 =>
 ob ((l8[8]?).bind Value.slc?) fun s17 =>
 ob ((l7[1]?).bind (Value.int? .i64)) fun x18 =>
 some (zoetropelaw25_ChainKnown.c7 x18 x9 x10 s11.a s11.n s11.c x12 x13 s14.a s14.n s14.c x15 x16 s17.a s17.n s17.c r6.2) := by kernel_rfl
theorem zoetropelaw25_ChainKnown.p7 (k lo : Nat) (x1 : Int) (x2 : Int) (x3 : Int) (A4 : Option Addr) (n5 : Nat) (c6 : Nat) (x7 : Int) (x8 : Int) (A9 : Option Addr) (n10 : Nat) (c11 : Nat) (x12 : Int) (x13 : Int) (A14 : Option Addr) (n15 : Nat) (c16 : Nat) (M : Mem) : piece P T k lo F.zoetropelaw25_ChainKnown 7 [.l 1 0, .v (.int .i64 x1)] [[.int .i64 x2, .int .i64 x3, .slice A4 n5 c6, .int .i64 x7, .int .i64 x8, .slice A9 n10 c11, .int .i64 x12, .int .i64 x13, .slice A14 n15 c16]] M =
 ob (acall P T k lo F.plane_Frame [.int .i64 18, .int .i64 16, .int .u8 7] M) fun r19 =>
 ob (r19.1.tup? 2) fun l20 =>
 ob ((l20[0]?).bind (Value.agg? 9)) fun l21 =>
 ob ((l21[0]?).bind (Value.int? .i64)) fun x22 =>
 ob ((l21[1]?).bind (Value.int? .i64)) fun x23 =>
 ob ((l21[2]?).bind Value.slc?) fun s24 =>
 ob ((l21[3]?).bind (Value.int? .i64)) fun x25 =>
 ob ((l21[4]?).bind (Value.int? .i64)) fun x26 =>
 ob ((l21[5]?).bind Value.slc?) fun s27 =>
 ob ((l21[6]?).bind (Value.int? .i64)) fun x28 =>
 ob ((l21[7]?).bind (Value.int? .i64)) fun x29 =>
 ob ((l21[8]?).bind Value.slc?) fun s30 =>
 ob ((l20[1]?).bind (Value.int? .i64)) fun x31 =>
 some (zoetropelaw25_ChainKnown.c15 x1 x31 x2 x3 A4 n5 c6 x7 x8 A9 n10 c11 x12 x13 A14 n15 c16 x22 x23 s24.a s24.n s24.c x25 x26 s27.a s27.n s27.c x28 x29 s30.a s30.n s30.c r19.2) := by kernel_rfl
theorem zoetropelaw25_ChainKnown.p15 (k lo : Nat) (x1 : Int) (x2 : Int) (x3 : Int) (x4 : Int) (A5 : Option Addr) (n6 : Nat) (c7 : Nat) (x8 : Int) (x9 : Int) (A10 : Option Addr) (n11 : Nat) (c12 : Nat) (x13 : Int) (x14 : Int) (A15 : Option Addr) (n16 : Nat) (c17 : Nat) (x18 : Int) (x19 : Int) (A20 : Option Addr) (n21 : Nat) (c22 : Nat) (x23 : Int) (x24 : Int) (A25 : Option Addr) (n26 : Nat) (c27 : Nat) (x28 : Int) (x29 : Int) (A30 : Option Addr) (n31 : Nat) (c32 : Nat) (M : Mem) : piece P T k lo F.zoetropelaw25_ChainKnown 15 [.l 1 0, .v (.int .i64 x1), .l 3 0, .v (.int .i64 x2)] [[.int .i64 x3, .int .i64 x4, .slice A5 n6 c7, .int .i64 x8, .int .i64 x9, .slice A10 n11 c12, .int .i64 x13, .int .i64 x14, .slice A15 n16 c17], [.int .i64 x18, .int .i64 x19, .slice A20 n21 c22, .int .i64 x23, .int .i64 x24, .slice A25 n26 c27, .int .i64 x28, .int .i64 x29, .slice A30 n31 c32]] M =
 ob (acall P T k lo F.chain_Run [.agg ⟨[.int .i64 x3, .int .i64 x4, .slice A5 n6 c7, .int .i64 x8, .int .i64 x9, .slice A10 n11 c12, .int .i64 x13, .int .i64 x14, .slice A15 n16 c17]⟩, .agg ⟨[.bool false, .int .i64 0, .bool false, .bool false, .int .i64 0, .int .i64 0, .int .i64 0, .int .i64 0, .int .i64 0, .int .i64 0, .int .i64 0, .int .i64 0, .int .i64 0, .int .i64 0, .int .i64 0, .int .i64 0, .int .i64 0, .bool false, .int .i64 0, .int .i64 0, .int .i64 0, .int .i64 0, .int .i64 0, .bool false, .int .i64 0, .int .i64 0, .slice none 0 0, .bool false, .bool false, .bool false]⟩, .agg ⟨[.int .i64 0, .int .i64 0, .slice none 0 0, .slice none 0 0, .slice none 0 0, .int .i64 0, .int .i64 0, .slice none 0 0, .slice none 0 0, .slice none 0 0, .int .i64 0, .int .i64 0, .slice none 0 0, .slice none 0 0, .slice none 0 0, .slice none 0 0, .slice none 0 0, .slice none 0 0, .slice none 0 0, .slice none 0 0]⟩] M) fun r33 =>
 ob (r33.1.tup? 2) fun l34 =>
 ob ((l34[0]?).bind (Value.agg? 9)) fun l35 =>
 ob ((l35[0]?).bind (Value.int? .i64)) fun x36 =>
 ob ((l35[1]?).bind (Value.int? .i64)) fun x37 =>
 ob ((l35[2]?).bind Value.slc?) fun s38 =>
 ob ((l35[3]?).bind (Value.int? .i64)) fun x39 =>
 ob ((l35[4]?).bind (Value.int? .i64)) fun x40 =>
 ob ((l35[5]?).bind Value.slc?) fun s41 =>
 ob ((l35[6]?).bind (Value.int? .i64)) fun x42 =>
 ob ((l35[7]?).bind (Value.int? .i64)) fun x43 =>
 ob ((l35[8]?).bind Value.slc?) fun s44 =>
 ob ((l34[1]?).bind (Value.int? .i64)) fun x45 =>
 some (zoetropelaw25_ChainKnown.c31 x1 x2 x45 x3 x4 A5 n6 c7 x8 x9 A10 n11 c12 x13 x14 A15 n16 c17 x18 x19 A20 n21 c22 x23 x24 A25 n26 c27 x28 x29 A30 n31 c32 x36 x37 s38.a s38.n s38.c x39 x40 s41.a s41.n s41.c x42 x43 s44.a s44.n s44.c r33.2) := by kernel_rfl
theorem zoetropelaw25_ChainKnown.p31 (k lo : Nat) (x1 : Int) (x2 : Int) (x3 : Int) (x4 : Int) (x5 : Int) (A6 : Option Addr) (n7 : Nat) (c8 : Nat) (x9 : Int) (x10 : Int) (A11 : Option Addr) (n12 : Nat) (c13 : Nat) (x14 : Int) (x15 : Int) (A16 : Option Addr) (n17 : Nat) (c18 : Nat) (x19 : Int) (x20 : Int) (A21 : Option Addr) (n22 : Nat) (c23 : Nat) (x24 : Int) (x25 : Int) (A26 : Option Addr) (n27 : Nat) (c28 : Nat) (x29 : Int) (x30 : Int) (A31 : Option Addr) (n32 : Nat) (c33 : Nat) (x34 : Int) (x35 : Int) (A36 : Option Addr) (n37 : Nat) (c38 : Nat) (x39 : Int) (x40 : Int) (A41 : Option Addr) (n42 : Nat) (c43 : Nat) (x44 : Int) (x45 : Int) (A46 : Option Addr) (n47 : Nat) (c48 : Nat) (M : Mem) : piece P T k lo F.zoetropelaw25_ChainKnown 31 [.l 1 0, .v (.int .i64 x1), .l 3 0, .v (.int .i64 x2), .l 5 0, .v (.int .i64 x3)] [[.int .i64 x4, .int .i64 x5, .slice A6 n7 c8, .int .i64 x9, .int .i64 x10, .slice A11 n12 c13, .int .i64 x14, .int .i64 x15, .slice A16 n17 c18], [.int .i64 x19, .int .i64 x20, .slice A21 n22 c23, .int .i64 x24, .int .i64 x25, .slice A26 n27 c28, .int .i64 x29, .int .i64 x30, .slice A31 n32 c33], [.int .i64 x34, .int .i64 x35, .slice A36 n37 c38, .int .i64 x39, .int .i64 x40, .slice A41 n42 c43, .int .i64 x44, .int .i64 x45, .slice A46 n47 c48]] M =
 ob (acall P T k lo F.chain_Run [.agg ⟨[.int .i64 x4, .int .i64 x5, .slice A6 n7 c8, .int .i64 x9, .int .i64 x10, .slice A11 n12 c13, .int .i64 x14, .int .i64 x15, .slice A16 n17 c18]⟩, .agg ⟨[.bool false, .int .i64 0, .bool false, .bool false, .int .i64 0, .int .i64 0, .int .i64 0, .int .i64 0, .int .i64 0, .int .i64 1, .int .i64 0, .int .i64 0, .int .i64 0, .int .i64 0, .int .i64 0, .int .i64 0, .int .i64 0, .bool false, .int .i64 0, .int .i64 0, .int .i64 0, .int .i64 0, .int .i64 0, .bool false, .int .i64 0, .int .i64 0, .slice none 0 0, .bool false, .bool false, .bool false]⟩, .agg ⟨[.int .i64 0, .int .i64 0, .slice none 0 0, .slice none 0 0, .slice none 0 0, .int .i64 0, .int .i64 0, .slice none 0 0, .slice none 0 0, .slice none 0 0, .int .i64 0, .int .i64 0, .slice none 0 0, .slice none 0 0, .slice none 0 0, .slice none 0 0, .slice none 0 0, .slice none 0 0, .slice none 0 0, .slice none 0 0]⟩] M) fun r49 =>
 ob (r49.1.tup? 2) fun l50 =>
 ob ((l50[0]?).bind (Value.agg? 9)) fun l51 =>
 ob ((l51[0]?).bind (Value.int? .i64)) fun x52 =>
 ob ((l51[1]?).bind (Value.int? .i64)) fun x53 =>
 ob ((l51[2]?).bind Value.slc?) fun s54 =>
 ob ((l51[3]?).bind (Value.int? .i64)) fun x55 =>
 ob ((l51[4]?).bind (Value.int? .i64)) fun x56 =>
 ob ((l51[5]?).bind Value.slc?) fun s57 =>
 ob ((l51[6]?).bind (Value.int? .i64)) fun x58 =>
 ob ((l51[7]?).bind (Value.int? .i64)) fun x59 =>
 ob ((l51[8]?).bind Value.slc?) fun s60 =>
 ob ((l50[1]?).bind (Value.int? .i64)) fun x61 =>
 some (zoetropelaw25_ChainKnown.c63 x1 x2 x3 x61 x4 x5 A6 n7 c8 x9 x10 A11 n12 c13 x14 x15 A16 n17 c18 x19 x20 A21 n22 c23 x24 x25 A26 n27 c28 x29 x30 A31 n32 c33 x34 x35 A36 n37 c38 x39 x40 A41 n42 c43 x44 x45 A46 n47 c48 r49.2) := by kernel_rfl
theorem zoetropelaw25_ChainKnown.p63 (k lo : Nat) (x1 : Int) (x2 : Int) (x3 : Int) (x4 : Int) (x5 : Int) (x6 : Int) (A7 : Option Addr) (n8 : Nat) (c9 : Nat) (x10 : Int) (x11 : Int) (A12 : Option Addr) (n13 : Nat) (c14 : Nat) (x15 : Int) (x16 : Int) (A17 : Option Addr) (n18 : Nat) (c19 : Nat) (x20 : Int) (x21 : Int) (A22 : Option Addr) (n23 : Nat) (c24 : Nat) (x25 : Int) (x26 : Int) (A27 : Option Addr) (n28 : Nat) (c29 : Nat) (x30 : Int) (x31 : Int) (A32 : Option Addr) (n33 : Nat) (c34 : Nat) (x35 : Int) (x36 : Int) (A37 : Option Addr) (n38 : Nat) (c39 : Nat) (x40 : Int) (x41 : Int) (A42 : Option Addr) (n43 : Nat) (c44 : Nat) (x45 : Int) (x46 : Int) (A47 : Option Addr) (n48 : Nat) (c49 : Nat) (M : Mem) : piece P T k lo F.zoetropelaw25_ChainKnown 63 [.l 1 0, .v (.int .i64 x1), .l 3 0, .v (.int .i64 x2), .l 5 0, .v (.int .i64 x3), .v (.int .i64 x4)] [[.int .i64 x5, .int .i64 x6, .slice A7 n8 c9, .int .i64 x10, .int .i64 x11, .slice A12 n13 c14, .int .i64 x15, .int .i64 x16, .slice A17 n18 c19], [.int .i64 x20, .int .i64 x21, .slice A22 n23 c24, .int .i64 x25, .int .i64 x26, .slice A27 n28 c29, .int .i64 x30, .int .i64 x31, .slice A32 n33 c34], [.int .i64 x35, .int .i64 x36, .slice A37 n38 c39, .int .i64 x40, .int .i64 x41, .slice A42 n43 c44, .int .i64 x45, .int .i64 x46, .slice A47 n48 c49]] M =
 ob (acall P T k lo F.chain_Run [.agg ⟨[.int .i64 x20, .int .i64 x21, .slice A22 n23 c24, .int .i64 x25, .int .i64 x26, .slice A27 n28 c29, .int .i64 x30, .int .i64 x31, .slice A32 n33 c34]⟩, .agg ⟨[.bool false, .int .i64 0, .bool false, .bool false, .int .i64 0, .int .i64 0, .int .i64 0, .int .i64 0, .int .i64 0, .int .i64 0, .int .i64 0, .int .i64 0, .int .i64 0, .int .i64 0, .int .i64 0, .int .i64 0, .int .i64 0, .bool false, .int .i64 0, .int .i64 0, .int .i64 0, .int .i64 0, .int .i64 0, .bool false, .int .i64 0, .int .i64 0, .slice none 0 0, .bool false, .bool false, .bool false]⟩, .agg ⟨[.int .i64 0, .int .i64 0, .slice none 0 0, .slice none 0 0, .slice none 0 0, .int .i64 0, .int .i64 0, .slice none 0 0, .slice none 0 0, .slice none 0 0, .int .i64 0, .int .i64 0, .slice none 0 0, .slice none 0 0, .slice none 0 0, .slice none 0 0, .slice none 0 0, .slice none 0 0, .slice none 0 0, .slice none 0 0]⟩] M) fun r62 =>
 ob (r62.1.tup? 2) fun l63 =>
 ob ((l63[0]?).bind (Value.agg? 9)) fun l64 =>
 ob ((l64[0]?).bind (Value.int? .i64)) fun x65 =>
 ob ((l64[1]?).bind (Value.int? .i64)) fun x66 =>
 ob ((l64[2]?).bind Value.slc?) fun s67 =>
 ob ((l64[3]?).bind (Value.int? .i64)) fun x68 =>
 ob ((l64[4]?).bind (Value.int? .i64)) fun x69 =>
 ob ((l64[5]?).bind Value.slc?) fun s70 =>
 ob ((l64[6]?).bind (Value.int? .i64)) fun x71 =>
 ob ((l64[7]?).bind (Value.int? .i64)) fun x72 =>
 ob ((l64[8]?).bind Value.slc?) fun s73 =>
 ob ((l63[1]?).bind (Value.int? .i64)) fun x74 =>
 some (zoetropelaw25_ChainKnown.c127 x1 x2 x3 x4 x74 x5 x6 A7 n8 c9 x10 x11 A12 n13 c14 x15 x16 A17 n18 c19 x35 x36 A37 n38 c39 x40 x41 A42 n43 c44 x45 x46 A47 n48 c49 r62.2) := by kernel_rfl
theorem zoetropelaw25_ChainKnown.p127 (k lo : Nat) (x1 : Int) (x2 : Int) (x3 : Int) (x4 : Int) (x5 : Int) (x6 : Int) (x7 : Int) (A8 : Option Addr) (n9 : Nat) (c10 : Nat) (x11 : Int) (x12 : Int) (A13 : Option Addr) (n14 : Nat) (c15 : Nat) (x16 : Int) (x17 : Int) (A18 : Option Addr) (n19 : Nat) (c20 : Nat) (x21 : Int) (x22 : Int) (A23 : Option Addr) (n24 : Nat) (c25 : Nat) (x26 : Int) (x27 : Int) (A28 : Option Addr) (n29 : Nat) (c30 : Nat) (x31 : Int) (x32 : Int) (A33 : Option Addr) (n34 : Nat) (c35 : Nat) (M : Mem) : piece P T k lo F.zoetropelaw25_ChainKnown 127 [.l 1 0, .v (.int .i64 x1), .v (.int .i64 x2), .l 5 0, .v (.int .i64 x3), .v (.int .i64 x4), .v (.int .i64 x5)] [[.int .i64 x6, .int .i64 x7, .slice A8 n9 c10, .int .i64 x11, .int .i64 x12, .slice A13 n14 c15, .int .i64 x16, .int .i64 x17, .slice A18 n19 c20], [.int .i64 x21, .int .i64 x22, .slice A23 n24 c25, .int .i64 x26, .int .i64 x27, .slice A28 n29 c30, .int .i64 x31, .int .i64 x32, .slice A33 n34 c35]] M =
 ob (acall P T k lo F.chain_Run [.agg ⟨[.int .i64 0, .int .i64 0, .slice none 0 0, .int .i64 0, .int .i64 0, .slice none 0 0, .int .i64 0, .int .i64 0, .slice none 0 0]⟩, .agg ⟨[.bool false, .int .i64 0, .bool false, .bool false, .int .i64 0, .int .i64 0, .int .i64 0, .int .i64 0, .int .i64 0, .int .i64 0, .int .i64 0, .int .i64 0, .int .i64 0, .int .i64 0, .int .i64 0, .int .i64 0, .int .i64 0, .bool false, .int .i64 0, .int .i64 0, .int .i64 0, .int .i64 0, .int .i64 0, .bool false, .int .i64 0, .int .i64 0, .slice none 0 0, .bool false, .bool false, .bool false]⟩, .agg ⟨[.int .i64 0, .int .i64 0, .slice none 0 0, .slice none 0 0, .slice none 0 0, .int .i64 0, .int .i64 0, .slice none 0 0, .slice none 0 0, .slice none 0 0, .int .i64 0, .int .i64 0, .slice none 0 0, .slice none 0 0, .slice none 0 0, .slice none 0 0, .slice none 0 0, .slice none 0 0, .slice none 0 0, .slice none 0 0]⟩] M) fun r75 =>
 ob (r75.1.tup? 2) fun l76 =>
 ob ((l76[0]?).bind (Value.agg? 9)) fun l77 =>
 ob ((l77[0]?).bind (Value.int? .i64)) fun x78 =>
 ob ((l77[1]?).bind (Value.int? .i64)) fun x79 =>
 ob ((l77[2]?).bind Value.slc?) fun s80 =>
 ob ((l77[3]?).bind (Value.int? .i64)) fun x81 =>
 ob ((l77[4]?).bind (Value.int? .i64)) fun x82 =>
 ob ((l77[5]?).bind Value.slc?) fun s83 =>
 ob ((l77[6]?).bind (Value.int? .i64)) fun x84 =>
 ob ((l77[7]?).bind (Value.int? .i64)) fun x85 =>
 ob ((l77[8]?).bind Value.slc?) fun s86 =>
 ob ((l76[1]?).bind (Value.int? .i64)) fun x87 =>
 some (zoetropelaw25_ChainKnown.c255 x1 x2 x3 x4 x5 x87 x6 x7 A8 n9 c10 x11 x12 A13 n14 c15 x16 x17 A18 n19 c20 x21 x22 A23 n24 c25 x26 x27 A28 n29 c30 x31 x32 A33 n34 c35 r75.2) := by kernel_rfl
theorem zoetropelaw25_ChainKnown.p255 (k lo : Nat) (x1 : Int) (x2 : Int) (x3 : Int) (x4 : Int) (x5 : Int) (x6 : Int) (x7 : Int) (x8 : Int) (A9 : Option Addr) (n10 : Nat) (c11 : Nat) (x12 : Int) (x13 : Int) (A14 : Option Addr) (n15 : Nat) (c16 : Nat) (x17 : Int) (x18 : Int) (A19 : Option Addr) (n20 : Nat) (c21 : Nat) (x22 : Int) (x23 : Int) (A24 : Option Addr) (n25 : Nat) (c26 : Nat) (x27 : Int) (x28 : Int) (A29 : Option Addr) (n30 : Nat) (c31 : Nat) (x32 : Int) (x33 : Int) (A34 : Option Addr) (n35 : Nat) (c36 : Nat) (M : Mem) : piece P T k lo F.zoetropelaw25_ChainKnown 255 [.l 1 0, .v (.int .i64 x1), .v (.int .i64 x2), .l 5 0, .v (.int .i64 x3), .v (.int .i64 x4), .v (.int .i64 x5), .v (.int .i64 x6)] [[.int .i64 x7, .int .i64 x8, .slice A9 n10 c11, .int .i64 x12, .int .i64 x13, .slice A14 n15 c16, .int .i64 x17, .int .i64 x18, .slice A19 n20 c21], [.int .i64 x22, .int .i64 x23, .slice A24 n25 c26, .int .i64 x27, .int .i64 x28, .slice A29 n30 c31, .int .i64 x32, .int .i64 x33, .slice A34 n35 c36]] M =
 ob (acall P T k lo F.plane_Frame [.int .i64 16, .int .i64 18, .int .u8 7] M) fun r88 =>
 ob (r88.1.tup? 2) fun l89 =>
 ob ((l89[0]?).bind (Value.agg? 9)) fun l90 =>
 ob ((l90[0]?).bind (Value.int? .i64)) fun x91 =>
 ob ((l90[1]?).bind (Value.int? .i64)) fun x92 =>
 ob ((l90[2]?).bind Value.slc?) fun s93 =>
 ob ((l90[3]?).bind (Value.int? .i64)) fun x94 =>
 ob ((l90[4]?).bind (Value.int? .i64)) fun x95 =>
 ob ((l90[5]?).bind Value.slc?) fun s96 =>
 ob ((l90[6]?).bind (Value.int? .i64)) fun x97 =>
 ob ((l90[7]?).bind (Value.int? .i64)) fun x98 =>
 ob ((l90[8]?).bind Value.slc?) fun s99 =>
 ob ((l89[1]?).bind (Value.int? .i64)) fun x100 =>
 some (zoetropelaw25_ChainKnown.c511 x1 x2 x3 x4 x5 x6 x100 x7 x8 A9 n10 c11 x12 x13 A14 n15 c16 x17 x18 A19 n20 c21 x22 x23 A24 n25 c26 x27 x28 A29 n30 c31 x32 x33 A34 n35 c36 x91 x92 s93.a s93.n s93.c x94 x95 s96.a s96.n s96.c x97 x98 s99.a s99.n s99.c r88.2) := by kernel_rfl
theorem zoetropelaw25_ChainKnown.p511 (k lo : Nat) (x1 : Int) (x2 : Int) (x3 : Int) (x4 : Int) (x5 : Int) (x6 : Int) (x7 : Int) (x8 : Int) (x9 : Int) (A10 : Option Addr) (n11 : Nat) (c12 : Nat) (x13 : Int) (x14 : Int) (A15 : Option Addr) (n16 : Nat) (c17 : Nat) (x18 : Int) (x19 : Int) (A20 : Option Addr) (n21 : Nat) (c22 : Nat) (x23 : Int) (x24 : Int) (A25 : Option Addr) (n26 : Nat) (c27 : Nat) (x28 : Int) (x29 : Int) (A30 : Option Addr) (n31 : Nat) (c32 : Nat) (x33 : Int) (x34 : Int) (A35 : Option Addr) (n36 : Nat) (c37 : Nat) (x38 : Int) (x39 : Int) (A40 : Option Addr) (n41 : Nat) (c42 : Nat) (x43 : Int) (x44 : Int) (A45 : Option Addr) (n46 : Nat) (c47 : Nat) (x48 : Int) (x49 : Int) (A50 : Option Addr) (n51 : Nat) (c52 : Nat) (M : Mem) : piece P T k lo F.zoetropelaw25_ChainKnown 511 [.l 1 0, .v (.int .i64 x1), .v (.int .i64 x2), .l 5 0, .v (.int .i64 x3), .v (.int .i64 x4), .v (.int .i64 x5), .v (.int .i64 x6), .l 13 0, .v (.int .i64 x7)] [[.int .i64 x8, .int .i64 x9, .slice A10 n11 c12, .int .i64 x13, .int .i64 x14, .slice A15 n16 c17, .int .i64 x18, .int .i64 x19, .slice A20 n21 c22], [.int .i64 x23, .int .i64 x24, .slice A25 n26 c27, .int .i64 x28, .int .i64 x29, .slice A30 n31 c32, .int .i64 x33, .int .i64 x34, .slice A35 n36 c37], [.int .i64 x38, .int .i64 x39, .slice A40 n41 c42, .int .i64 x43, .int .i64 x44, .slice A45 n46 c47, .int .i64 x48, .int .i64 x49, .slice A50 n51 c52]] M =
 ob (acall P T k lo F.chain_Run [.agg ⟨[.int .i64 x38, .int .i64 x39, .slice A40 n41 c42, .int .i64 x43, .int .i64 x44, .slice A45 n46 c47, .int .i64 x48, .int .i64 x49, .slice A50 n51 c52]⟩, .agg ⟨[.bool false, .int .i64 0, .bool false, .bool false, .int .i64 0, .int .i64 0, .int .i64 0, .int .i64 0, .int .i64 0, .int .i64 0, .int .i64 0, .int .i64 0, .int .i64 0, .int .i64 0, .int .i64 0, .int .i64 0, .int .i64 0, .bool false, .int .i64 0, .int .i64 0, .int .i64 0, .int .i64 0, .int .i64 0, .bool false, .int .i64 0, .int .i64 0, .slice none 0 0, .bool false, .bool false, .bool false]⟩, .agg ⟨[.int .i64 0, .int .i64 0, .slice none 0 0, .slice none 0 0, .slice none 0 0, .int .i64 0, .int .i64 0, .slice none 0 0, .slice none 0 0, .slice none 0 0, .int .i64 0, .int .i64 0, .slice none 0 0, .slice none 0 0, .slice none 0 0, .slice none 0 0, .slice none 0 0, .slice none 0 0, .slice none 0 0, .slice none 0 0]⟩] M) fun r101 =>
 ob (r101.1.tup? 2) fun l102 =>
 ob ((l102[0]?).bind (Value.agg? 9)) fun l103 =>
 ob ((l103[0]?).bind (Value.int? .i64)) fun x104 =>
 ob ((l103[1]?).bind (Value.int? .i64)) fun x105 =>
 ob ((l103[2]?).bind Value.slc?) fun s106 =>
 ob ((l103[3]?).bind (Value.int? .i64)) fun x107 =>
 ob ((l103[4]?).bind (Value.int? .i64)) fun x108 =>
 ob ((l103[5]?).bind Value.slc?) fun s109 =>
 ob ((l103[6]?).bind (Value.int? .i64)) fun x110 =>
 ob ((l103[7]?).bind (Value.int? .i64)) fun x111 =>
 ob ((l103[8]?).bind Value.slc?) fun s112 =>
 ob ((l102[1]?).bind (Value.int? .i64)) fun x113 =>
 some (zoetropelaw25_ChainKnown.c1023 x1 x2 x3 x4 x5 x6 x7 x113 x8 x9 A10 n11 c12 x13 x14 A15 n16 c17 x18 x19 A20 n21 c22 x23 x24 A25 n26 c27 x28 x29 A30 n31 c32 x33 x34 A35 n36 c37 r101.2) := by kernel_rfl
theorem zoetropelaw25_ChainKnown.p1023 (k lo : Nat) (x1 : Int) (x2 : Int) (x3 : Int) (x4 : Int) (x5 : Int) (x6 : Int) (x7 : Int) (x8 : Int) (x9 : Int) (x10 : Int) (A11 : Option Addr) (n12 : Nat) (c13 : Nat) (x14 : Int) (x15 : Int) (A16 : Option Addr) (n17 : Nat) (c18 : Nat) (x19 : Int) (x20 : Int) (A21 : Option Addr) (n22 : Nat) (c23 : Nat) (x24 : Int) (x25 : Int) (A26 : Option Addr) (n27 : Nat) (c28 : Nat) (x29 : Int) (x30 : Int) (A31 : Option Addr) (n32 : Nat) (c33 : Nat) (x34 : Int) (x35 : Int) (A36 : Option Addr) (n37 : Nat) (c38 : Nat) (M : Mem) : piece P T k lo F.zoetropelaw25_ChainKnown 1023 [.l 1 0, .v (.int .i64 x1), .v (.int .i64 x2), .l 5 0, .v (.int .i64 x3), .v (.int .i64 x4), .v (.int .i64 x5), .v (.int .i64 x6), .v (.int .i64 x7), .v (.int .i64 x8)] [[.int .i64 x9, .int .i64 x10, .slice A11 n12 c13, .int .i64 x14, .int .i64 x15, .slice A16 n17 c18, .int .i64 x19, .int .i64 x20, .slice A21 n22 c23], [.int .i64 x24, .int .i64 x25, .slice A26 n27 c28, .int .i64 x29, .int .i64 x30, .slice A31 n32 c33, .int .i64 x34, .int .i64 x35, .slice A36 n37 c38]] M =
 bb (x7 != 0)
 (some (zoetropelaw25_ChainKnown.c4093 x1 x2 x3 x4 x5 x6 true x9 x10 A11 n12 c13 x14 x15 A16 n17 c18 x19 x20 A21 n22 c23 x24 x25 A26 n27 c28 x29 x30 A31 n32 c33 x34 x35 A36 n37 c38 M))
 (some (zoetropelaw25_ChainKnown.c4093 x1 x2 x3 x4 x5 x6 (x8 != 2) x9 x10 A11 n12 c13 x14 x15 A16 n17 c18 x19 x20 A21 n22 c23 x24 x25 A26 n27 c28 x29 x30 A31 n32 c33 x34 x35 A36 n37 c38 M)) := by kernel_rfl
theorem zoetropelaw25_ChainKnown.p2047 (k lo : Nat) (x1 : Int) (x2 : Int) (x3 : Int) (x4 : Int) (x5 : Int) (x6 : Int) (x7 : Int) (x8 : Int) (A9 : Option Addr) (n10 : Nat) (c11 : Nat) (x12 : Int) (x13 : Int) (A14 : Option Addr) (n15 : Nat) (c16 : Nat) (x17 : Int) (x18 : Int) (A19 : Option Addr) (n20 : Nat) (c21 : Nat) (x22 : Int) (x23 : Int) (A24 : Option Addr) (n25 : Nat) (c26 : Nat) (x27 : Int) (x28 : Int) (A29 : Option Addr) (n30 : Nat) (c31 : Nat) (x32 : Int) (x33 : Int) (A34 : Option Addr) (n35 : Nat) (c36 : Nat) (M : Mem) : piece P T k lo F.zoetropelaw25_ChainKnown 2047 [.l 1 0, .v (.int .i64 x1), .v (.int .i64 x2), .l 5 0, .v (.int .i64 x3), .v (.int .i64 x4), .v (.int .i64 x5), .v (.int .i64 x6)] [[.int .i64 x7, .int .i64 x8, .slice A9 n10 c11, .int .i64 x12, .int .i64 x13, .slice A14 n15 c16, .int .i64 x17, .int .i64 x18, .slice A19 n20 c21], [.int .i64 x22, .int .i64 x23, .slice A24 n25 c26, .int .i64 x27, .int .i64 x28, .slice A29 n30 c31, .int .i64 x32, .int .i64 x33, .slice A34 n35 c36]] M =
 ob (acall P T k M.length F.zoetropelaw25_bare [.int .i64 16, .int .i64 16, .int .u8 4] M) fun r114 =>
 ob ((some r114.1).bind (Value.agg? 20)) fun l115 =>
 ob ((l115[0]?).bind (Value.int? .i64)) fun x116 =>
 ob ((l115[1]?).bind (Value.int? .i64)) fun x117 =>
 ob ((l115[2]?).bind Value.slc?) fun s118 =>
 ob ((l115[3]?).bind Value.slc?) fun s119 =>
 ob ((l115[4]?).bind Value.slc?) fun s120 =>
 ob ((l115[5]?).bind (Value.int? .i64)) fun x121 =>
 ob ((l115[6]?).bind (Value.int? .i64)) fun x122 =>
 ob ((l115[7]?).bind Value.slc?) fun s123 =>
 ob ((l115[8]?).bind Value.slc?) fun s124 =>
 ob ((l115[9]?).bind Value.slc?) fun s125 =>
 ob ((l115[10]?).bind (Value.int? .i64)) fun x126 =>
 ob ((l115[11]?).bind (Value.int? .i64)) fun x127 =>
 ob ((l115[12]?).bind Value.slc?) fun s128 =>
 ob ((l115[13]?).bind Value.slc?) fun s129 =>
 ob ((l115[14]?).bind Value.slc?) fun s130 =>
 ob ((l115[15]?).bind Value.slc?) fun s131 =>
 ob ((l115[16]?).bind Value.slc?) fun s132 =>
 ob ((l115[17]?).bind Value.slc?) fun s133 =>
 ob ((l115[18]?).bind Value.slc?) fun s134 =>
 ob ((l115[19]?).bind Value.slc?) fun s135 =>
 ob (acall P T k lo F.chain_Run [.agg ⟨[.int .i64 x7, .int .i64 x8, .slice A9 n10 c11, .int .i64 x12, .int .i64 x13, .slice A14 n15 c16, .int .i64 x17, .int .i64 x18, .slice A19 n20 c21]⟩, .agg ⟨[.bool false, .int .i64 0, .bool false, .bool false, .int .i64 0, .int .i64 0, .int .i64 0, .int .i64 0, .int .i64 0, .int .i64 1, .int .i64 0, .int .i64 0, .int .i64 0, .int .i64 0, .int .i64 0, .int .i64 0, .int .i64 0, .bool false, .int .i64 63, .int .i64 63, .int .i64 63, .int .i64 63, .int .i64 0, .bool false, .int .i64 0, .int .i64 0, .slice none 0 0, .bool false, .bool false, .bool false]⟩, .agg ⟨[.int .i64 x116, .int .i64 x117, .slice s118.a s118.n s118.c, .slice s119.a s119.n s119.c, .slice s120.a s120.n s120.c, .int .i64 x121, .int .i64 x122, .slice s123.a s123.n s123.c, .slice s124.a s124.n s124.c, .slice s125.a s125.n s125.c, .int .i64 x126, .int .i64 x127, .slice s128.a s128.n s128.c, .slice s129.a s129.n s129.c, .slice s130.a s130.n s130.c, .slice s131.a s131.n s131.c, .slice s132.a s132.n s132.c, .slice s133.a s133.n s133.c, .slice s134.a s134.n s134.c, .slice s135.a s135.n s135.c]⟩] r114.2) fun r136 =>
 ob (r136.1.tup? 2) fun l137 =>
 ob ((l137[0]?).bind (Value.agg? 9)) fun l138 =>
 ob ((l138[0]?).bind (Value.int? .i64)) fun x139 =>
 ob ((l138[1]?).bind (Value.int? .i64)) fun x140 =>
 ob ((l138[2]?).bind Value.slc?) fun s141 =>
 ob ((l138[3]?).bind (Value.int? .i64)) fun x142 =>
 ob ((l138[4]?).bind (Value.int? .i64)) fun x143 =>
 ob ((l138[5]?).bind Value.slc?) fun s144 =>
 ob ((l138[6]?).bind (Value.int? .i64)) fun x145 =>
 ob ((l138[7]?).bind (Value.int? .i64)) fun x146 =>
 ob ((l138[8]?).bind Value.slc?) fun s147 =>
 ob ((l137[1]?).bind (Value.int? .i64)) fun x148 =>
 some (zoetropelaw25_ChainKnown.c4095 x1 x2 x3 x4 x5 x6 x148 x7 x8 A9 n10 c11 x12 x13 A14 n15 c16 x17 x18 A19 n20 c21 x22 x23 A24 n25 c26 x27 x28 A29 n30 c31 x32 x33 A34 n35 c36 x139 x140 s141.a s141.n s141.c x142 x143 s144.a s144.n s144.c x145 x146 s147.a s147.n s147.c r136.2) := by kernel_rfl
theorem zoetropelaw25_ChainKnown.p4093 (k lo : Nat) (x1 : Int) (x2 : Int) (x3 : Int) (x4 : Int) (x5 : Int) (x6 : Int) (b7 : Bool) (x8 : Int) (x9 : Int) (A10 : Option Addr) (n11 : Nat) (c12 : Nat) (x13 : Int) (x14 : Int) (A15 : Option Addr) (n16 : Nat) (c17 : Nat) (x18 : Int) (x19 : Int) (A20 : Option Addr) (n21 : Nat) (c22 : Nat) (x23 : Int) (x24 : Int) (A25 : Option Addr) (n26 : Nat) (c27 : Nat) (x28 : Int) (x29 : Int) (A30 : Option Addr) (n31 : Nat) (c32 : Nat) (x33 : Int) (x34 : Int) (A35 : Option Addr) (n36 : Nat) (c37 : Nat) (M : Mem) : piece P T k lo F.zoetropelaw25_ChainKnown 4093 [.l 1 0, .v (.int .i64 x1), .v (.int .i64 x2), .l 5 0, .v (.int .i64 x3), .v (.int .i64 x4), .v (.int .i64 x5), .v (.int .i64 x6), .v (.bool b7)] [[.int .i64 x8, .int .i64 x9, .slice A10 n11 c12, .int .i64 x13, .int .i64 x14, .slice A15 n16 c17, .int .i64 x18, .int .i64 x19, .slice A20 n21 c22], [.int .i64 x23, .int .i64 x24, .slice A25 n26 c27, .int .i64 x28, .int .i64 x29, .slice A30 n31 c32, .int .i64 x33, .int .i64 x34, .slice A35 n36 c37]] M =
 bb b7
 (some (.ret (.bool false) M))
 (some (zoetropelaw25_ChainKnown.c2047 x1 x2 x3 x4 x5 x6 x8 x9 A10 n11 c12 x13 x14 A15 n16 c17 x18 x19 A20 n21 c22 x23 x24 A25 n26 c27 x28 x29 A30 n31 c32 x33 x34 A35 n36 c37 M)) := by kernel_rfl
theorem zoetropelaw25_ChainKnown.p4095 (k lo : Nat) (x1 : Int) (x2 : Int) (x3 : Int) (x4 : Int) (x5 : Int) (x6 : Int) (x7 : Int) (x8 : Int) (x9 : Int) (A10 : Option Addr) (n11 : Nat) (c12 : Nat) (x13 : Int) (x14 : Int) (A15 : Option Addr) (n16 : Nat) (c17 : Nat) (x18 : Int) (x19 : Int) (A20 : Option Addr) (n21 : Nat) (c22 : Nat) (x23 : Int) (x24 : Int) (A25 : Option Addr) (n26 : Nat) (c27 : Nat) (x28 : Int) (x29 : Int) (A30 : Option Addr) (n31 : Nat) (c32 : Nat) (x33 : Int) (x34 : Int) (A35 : Option Addr) (n36 : Nat) (c37 : Nat) (x38 : Int) (x39 : Int) (A40 : Option Addr) (n41 : Nat) (c42 : Nat) (x43 : Int) (x44 : Int) (A45 : Option Addr) (n46 : Nat) (c47 : Nat) (x48 : Int) (x49 : Int) (A50 : Option Addr) (n51 : Nat) (c52 : Nat) (M : Mem) : piece P T k lo F.zoetropelaw25_ChainKnown 4095 [.l 1 0, .v (.int .i64 x1), .v (.int .i64 x2), .l 5 0, .v (.int .i64 x3), .v (.int .i64 x4), .v (.int .i64 x5), .v (.int .i64 x6), .l 17 0, .v (.int .i64 x7)] [[.int .i64 x8, .int .i64 x9, .slice A10 n11 c12, .int .i64 x13, .int .i64 x14, .slice A15 n16 c17, .int .i64 x18, .int .i64 x19, .slice A20 n21 c22], [.int .i64 x23, .int .i64 x24, .slice A25 n26 c27, .int .i64 x28, .int .i64 x29, .slice A30 n31 c32, .int .i64 x33, .int .i64 x34, .slice A35 n36 c37], [.int .i64 x38, .int .i64 x39, .slice A40 n41 c42, .int .i64 x43, .int .i64 x44, .slice A45 n46 c47, .int .i64 x48, .int .i64 x49, .slice A50 n51 c52]] M =
 bb (x1 == 0)
 (bb (x2 == 0)
 (bb (x3 == 0)
 (bb (x4 == 2)
 (bb (x5 == 2)
 (bb (x6 == 2)
 (bb (x7 == 0)
 (ob (acall P T k lo F.zoetropelaw25_same [.agg ⟨[.int .i64 x23, .int .i64 x24, .slice A25 n26 c27, .int .i64 x28, .int .i64 x29, .slice A30 n31 c32, .int .i64 x33, .int .i64 x34, .slice A35 n36 c37]⟩, .agg ⟨[.int .i64 x8, .int .i64 x9, .slice A10 n11 c12, .int .i64 x13, .int .i64 x14, .slice A15 n16 c17, .int .i64 x18, .int .i64 x19, .slice A20 n21 c22]⟩] M) fun r149 =>
 ob ((some r149.1).bind Value.bool?) fun b150 =>
 bb b150
 (ob (acall P T k lo F.zoetropelaw25_same [.agg ⟨[.int .i64 x38, .int .i64 x39, .slice A40 n41 c42, .int .i64 x43, .int .i64 x44, .slice A45 n46 c47, .int .i64 x48, .int .i64 x49, .slice A50 n51 c52]⟩, .agg ⟨[.int .i64 x8, .int .i64 x9, .slice A10 n11 c12, .int .i64 x13, .int .i64 x14, .slice A15 n16 c17, .int .i64 x18, .int .i64 x19, .slice A20 n21 c22]⟩] r149.2) fun r151 =>
 ob ((some r151.1).bind Value.bool?) fun b152 =>
 some (zoetropelaw25_ChainKnown.c8191 b152 x8 x9 A10 n11 c12 x13 x14 A15 n16 c17 x18 x19 A20 n21 c22 r151.2))
 (some (zoetropelaw25_ChainKnown.c8191 false x8 x9 A10 n11 c12 x13 x14 A15 n16 c17 x18 x19 A20 n21 c22 r149.2)))
 (some (zoetropelaw25_ChainKnown.c8191 false x8 x9 A10 n11 c12 x13 x14 A15 n16 c17 x18 x19 A20 n21 c22 M)))
 (some (zoetropelaw25_ChainKnown.c8191 false x8 x9 A10 n11 c12 x13 x14 A15 n16 c17 x18 x19 A20 n21 c22 M)))
 (some (zoetropelaw25_ChainKnown.c8191 false x8 x9 A10 n11 c12 x13 x14 A15 n16 c17 x18 x19 A20 n21 c22 M)))
 (some (zoetropelaw25_ChainKnown.c8191 false x8 x9 A10 n11 c12 x13 x14 A15 n16 c17 x18 x19 A20 n21 c22 M)))
 (some (zoetropelaw25_ChainKnown.c8191 false x8 x9 A10 n11 c12 x13 x14 A15 n16 c17 x18 x19 A20 n21 c22 M)))
 (some (zoetropelaw25_ChainKnown.c8191 false x8 x9 A10 n11 c12 x13 x14 A15 n16 c17 x18 x19 A20 n21 c22 M)))
 (some (zoetropelaw25_ChainKnown.c8191 false x8 x9 A10 n11 c12 x13 x14 A15 n16 c17 x18 x19 A20 n21 c22 M)) := by kernel_rfl
theorem zoetropelaw25_ChainKnown.p8191 (k lo : Nat) (b1 : Bool) (x2 : Int) (x3 : Int) (A4 : Option Addr) (n5 : Nat) (c6 : Nat) (x7 : Int) (x8 : Int) (A9 : Option Addr) (n10 : Nat) (c11 : Nat) (x12 : Int) (x13 : Int) (A14 : Option Addr) (n15 : Nat) (c16 : Nat) (M : Mem) : piece P T k lo F.zoetropelaw25_ChainKnown 8191 [.l 1 0, .v (.bool b1)] [[.int .i64 x2, .int .i64 x3, .slice A4 n5 c6, .int .i64 x7, .int .i64 x8, .slice A9 n10 c11, .int .i64 x12, .int .i64 x13, .slice A14 n15 c16]] M =
 ob (acall P T k lo F.zoetropelaw25_step [] M) fun r153 =>
 ob ((some r153.1).bind (Value.agg? 9)) fun l154 =>
 ob ((l154[0]?).bind (Value.int? .i64)) fun x155 =>
 ob ((l154[1]?).bind (Value.int? .i64)) fun x156 =>
 ob ((l154[2]?).bind Value.slc?) fun s157 =>
 ob ((l154[3]?).bind (Value.int? .i64)) fun x158 =>
 ob ((l154[4]?).bind (Value.int? .i64)) fun x159 =>
 ob ((l154[5]?).bind Value.slc?) fun s160 =>
 ob ((l154[6]?).bind (Value.int? .i64)) fun x161 =>
 ob ((l154[7]?).bind (Value.int? .i64)) fun x162 =>
 ob ((l154[8]?).bind Value.slc?) fun s163 =>
 ob (acall P T k lo F.zoetropelaw25_bare [.int .i64 16, .int .i64 16, .int .u8 8] r153.2) fun r164 =>
 ob ((some r164.1).bind (Value.agg? 20)) fun l165 =>
 ob ((l165[0]?).bind (Value.int? .i64)) fun x166 =>
 ob ((l165[1]?).bind (Value.int? .i64)) fun x167 =>
 ob ((l165[2]?).bind Value.slc?) fun s168 =>
 ob ((l165[3]?).bind Value.slc?) fun s169 =>
 ob ((l165[4]?).bind Value.slc?) fun s170 =>
 ob ((l165[5]?).bind (Value.int? .i64)) fun x171 =>
 ob ((l165[6]?).bind (Value.int? .i64)) fun x172 =>
 ob ((l165[7]?).bind Value.slc?) fun s173 =>
 ob ((l165[8]?).bind Value.slc?) fun s174 =>
 ob ((l165[9]?).bind Value.slc?) fun s175 =>
 ob ((l165[10]?).bind (Value.int? .i64)) fun x176 =>
 ob ((l165[11]?).bind (Value.int? .i64)) fun x177 =>
 ob ((l165[12]?).bind Value.slc?) fun s178 =>
 ob ((l165[13]?).bind Value.slc?) fun s179 =>
 ob ((l165[14]?).bind Value.slc?) fun s180 =>
 ob ((l165[15]?).bind Value.slc?) fun s181 =>
 ob ((l165[16]?).bind Value.slc?) fun s182 =>
 ob ((l165[17]?).bind Value.slc?) fun s183 =>
 ob ((l165[18]?).bind Value.slc?) fun s184 =>
 ob ((l165[19]?).bind Value.slc?) fun s185 =>
 ob (acall P T k lo F.chain_Run [.agg ⟨[.int .i64 x155, .int .i64 x156, .slice s157.a s157.n s157.c, .int .i64 x158, .int .i64 x159, .slice s160.a s160.n s160.c, .int .i64 x161, .int .i64 x162, .slice s163.a s163.n s163.c]⟩, .agg ⟨[.bool false, .int .i64 0, .bool false, .bool false, .int .i64 0, .int .i64 0, .int .i64 0, .int .i64 0, .int .i64 0, .int .i64 1, .int .i64 0, .int .i64 0, .int .i64 0, .int .i64 0, .int .i64 0, .int .i64 0, .int .i64 0, .bool false, .int .i64 32, .int .i64 0, .int .i64 0, .int .i64 0, .int .i64 0, .bool false, .int .i64 0, .int .i64 0, .slice none 0 0, .bool false, .bool false, .bool false]⟩, .agg ⟨[.int .i64 x166, .int .i64 x167, .slice s168.a s168.n s168.c, .slice s169.a s169.n s169.c, .slice s170.a s170.n s170.c, .int .i64 x171, .int .i64 x172, .slice s173.a s173.n s173.c, .slice s174.a s174.n s174.c, .slice s175.a s175.n s175.c, .int .i64 x176, .int .i64 x177, .slice s178.a s178.n s178.c, .slice s179.a s179.n s179.c, .slice s180.a s180.n s180.c, .slice s181.a s181.n s181.c, .slice s182.a s182.n s182.c, .slice s183.a s183.n s183.c, .slice s184.a s184.n s184.c, .slice s185.a s185.n s185.c]⟩] r164.2) fun r186 =>
 ob (r186.1.tup? 2) fun l187 =>
 ob ((l187[0]?).bind (Value.agg? 9)) fun l188 =>
 ob ((l188[0]?).bind (Value.int? .i64)) fun x189 =>
 ob ((l188[1]?).bind (Value.int? .i64)) fun x190 =>
 ob ((l188[2]?).bind Value.slc?) fun s191 =>
 ob ((l188[3]?).bind (Value.int? .i64)) fun x192 =>
 ob ((l188[4]?).bind (Value.int? .i64)) fun x193 =>
 ob ((l188[5]?).bind Value.slc?) fun s194 =>
 ob ((l188[6]?).bind (Value.int? .i64)) fun x195 =>
 ob ((l188[7]?).bind (Value.int? .i64)) fun x196 =>
 ob ((l188[8]?).bind Value.slc?) fun s197 =>
 ob ((l187[1]?).bind (Value.int? .i64)) fun x198 =>
 some (zoetropelaw25_ChainKnown.c16383 b1 x198 x2 x3 A4 n5 c6 x7 x8 A9 n10 c11 x12 x13 A14 n15 c16 x189 x190 s191.a s191.n s191.c x192 x193 s194.a s194.n s194.c x195 x196 s197.a s197.n s197.c r186.2) := by kernel_rfl
theorem zoetropelaw25_ChainKnown.p16383 (k lo : Nat) (b1 : Bool) (x2 : Int) (x3 : Int) (x4 : Int) (A5 : Option Addr) (n6 : Nat) (c7 : Nat) (x8 : Int) (x9 : Int) (A10 : Option Addr) (n11 : Nat) (c12 : Nat) (x13 : Int) (x14 : Int) (A15 : Option Addr) (n16 : Nat) (c17 : Nat) (x18 : Int) (x19 : Int) (A20 : Option Addr) (n21 : Nat) (c22 : Nat) (x23 : Int) (x24 : Int) (A25 : Option Addr) (n26 : Nat) (c27 : Nat) (x28 : Int) (x29 : Int) (A30 : Option Addr) (n31 : Nat) (c32 : Nat) (M : Mem) : piece P T k lo F.zoetropelaw25_ChainKnown 16383 [.l 1 0, .v (.bool b1), .l 20 0, .v (.int .i64 x2)] [[.int .i64 x3, .int .i64 x4, .slice A5 n6 c7, .int .i64 x8, .int .i64 x9, .slice A10 n11 c12, .int .i64 x13, .int .i64 x14, .slice A15 n16 c17], [.int .i64 x18, .int .i64 x19, .slice A20 n21 c22, .int .i64 x23, .int .i64 x24, .slice A25 n26 c27, .int .i64 x28, .int .i64 x29, .slice A30 n31 c32]] M =
 ob (acall P T k lo F.zoetropelaw25_step [] M) fun r199 =>
 ob ((some r199.1).bind (Value.agg? 9)) fun l200 =>
 ob ((l200[0]?).bind (Value.int? .i64)) fun x201 =>
 ob ((l200[1]?).bind (Value.int? .i64)) fun x202 =>
 ob ((l200[2]?).bind Value.slc?) fun s203 =>
 ob ((l200[3]?).bind (Value.int? .i64)) fun x204 =>
 ob ((l200[4]?).bind (Value.int? .i64)) fun x205 =>
 ob ((l200[5]?).bind Value.slc?) fun s206 =>
 ob ((l200[6]?).bind (Value.int? .i64)) fun x207 =>
 ob ((l200[7]?).bind (Value.int? .i64)) fun x208 =>
 ob ((l200[8]?).bind Value.slc?) fun s209 =>
 ob (acall P T k lo F.zoetropelaw25_bare [.int .i64 16, .int .i64 16, .int .u8 8] r199.2) fun r210 =>
 ob ((some r210.1).bind (Value.agg? 20)) fun l211 =>
 ob ((l211[0]?).bind (Value.int? .i64)) fun x212 =>
 ob ((l211[1]?).bind (Value.int? .i64)) fun x213 =>
 ob ((l211[2]?).bind Value.slc?) fun s214 =>
 ob ((l211[3]?).bind Value.slc?) fun s215 =>
 ob ((l211[4]?).bind Value.slc?) fun s216 =>
 ob ((l211[5]?).bind (Value.int? .i64)) fun x217 =>
 ob ((l211[6]?).bind (Value.int? .i64)) fun x218 =>
 ob ((l211[7]?).bind Value.slc?) fun s219 =>
 ob ((l211[8]?).bind Value.slc?) fun s220 =>
 ob ((l211[9]?).bind Value.slc?) fun s221 =>
 ob ((l211[10]?).bind (Value.int? .i64)) fun x222 =>
 ob ((l211[11]?).bind (Value.int? .i64)) fun x223 =>
 ob ((l211[12]?).bind Value.slc?) fun s224 =>
 ob ((l211[13]?).bind Value.slc?) fun s225 =>
 ob ((l211[14]?).bind Value.slc?) fun s226 =>
 ob ((l211[15]?).bind Value.slc?) fun s227 =>
 ob ((l211[16]?).bind Value.slc?) fun s228 =>
 ob ((l211[17]?).bind Value.slc?) fun s229 =>
 ob ((l211[18]?).bind Value.slc?) fun s230 =>
 ob ((l211[19]?).bind Value.slc?) fun s231 =>
 ob (acall P T k lo F.chain_Run [.agg ⟨[.int .i64 x201, .int .i64 x202, .slice s203.a s203.n s203.c, .int .i64 x204, .int .i64 x205, .slice s206.a s206.n s206.c, .int .i64 x207, .int .i64 x208, .slice s209.a s209.n s209.c]⟩, .agg ⟨[.bool false, .int .i64 0, .bool false, .bool false, .int .i64 0, .int .i64 0, .int .i64 0, .int .i64 0, .int .i64 0, .int .i64 1, .int .i64 0, .int .i64 0, .int .i64 0, .int .i64 0, .int .i64 0, .int .i64 0, .int .i64 0, .bool false, .int .i64 0, .int .i64 32, .int .i64 32, .int .i64 32, .int .i64 0, .bool false, .int .i64 0, .int .i64 0, .slice none 0 0, .bool false, .bool false, .bool false]⟩, .agg ⟨[.int .i64 x212, .int .i64 x213, .slice s214.a s214.n s214.c, .slice s215.a s215.n s215.c, .slice s216.a s216.n s216.c, .int .i64 x217, .int .i64 x218, .slice s219.a s219.n s219.c, .slice s220.a s220.n s220.c, .slice s221.a s221.n s221.c, .int .i64 x222, .int .i64 x223, .slice s224.a s224.n s224.c, .slice s225.a s225.n s225.c, .slice s226.a s226.n s226.c, .slice s227.a s227.n s227.c, .slice s228.a s228.n s228.c, .slice s229.a s229.n s229.c, .slice s230.a s230.n s230.c, .slice s231.a s231.n s231.c]⟩] r210.2) fun r232 =>
 ob (r232.1.tup? 2) fun l233 =>
 ob ((l233[0]?).bind (Value.agg? 9)) fun l234 =>
 ob ((l234[0]?).bind (Value.int? .i64)) fun x235 =>
 ob ((l234[1]?).bind (Value.int? .i64)) fun x236 =>
 ob ((l234[2]?).bind Value.slc?) fun s237 =>
 ob ((l234[3]?).bind (Value.int? .i64)) fun x238 =>
 ob ((l234[4]?).bind (Value.int? .i64)) fun x239 =>
 ob ((l234[5]?).bind Value.slc?) fun s240 =>
 ob ((l234[6]?).bind (Value.int? .i64)) fun x241 =>
 ob ((l234[7]?).bind (Value.int? .i64)) fun x242 =>
 ob ((l234[8]?).bind Value.slc?) fun s243 =>
 ob ((l233[1]?).bind (Value.int? .i64)) fun x244 =>
 some (zoetropelaw25_ChainKnown.c32767 b1 x2 x244 x3 x4 A5 n6 c7 x8 x9 A10 n11 c12 x13 x14 A15 n16 c17 x18 x19 A20 n21 c22 x23 x24 A25 n26 c27 x28 x29 A30 n31 c32 x235 x236 s237.a s237.n s237.c x238 x239 s240.a s240.n s240.c x241 x242 s243.a s243.n s243.c r232.2) := by kernel_rfl
theorem zoetropelaw25_ChainKnown.p32767 (k lo : Nat) (b1 : Bool) (x2 : Int) (x3 : Int) (x4 : Int) (x5 : Int) (A6 : Option Addr) (n7 : Nat) (c8 : Nat) (x9 : Int) (x10 : Int) (A11 : Option Addr) (n12 : Nat) (c13 : Nat) (x14 : Int) (x15 : Int) (A16 : Option Addr) (n17 : Nat) (c18 : Nat) (x19 : Int) (x20 : Int) (A21 : Option Addr) (n22 : Nat) (c23 : Nat) (x24 : Int) (x25 : Int) (A26 : Option Addr) (n27 : Nat) (c28 : Nat) (x29 : Int) (x30 : Int) (A31 : Option Addr) (n32 : Nat) (c33 : Nat) (x34 : Int) (x35 : Int) (A36 : Option Addr) (n37 : Nat) (c38 : Nat) (x39 : Int) (x40 : Int) (A41 : Option Addr) (n42 : Nat) (c43 : Nat) (x44 : Int) (x45 : Int) (A46 : Option Addr) (n47 : Nat) (c48 : Nat) (M : Mem) : piece P T k lo F.zoetropelaw25_ChainKnown 32767 [.l 1 0, .v (.bool b1), .l 20 0, .v (.int .i64 x2), .l 22 0, .v (.int .i64 x3)] [[.int .i64 x4, .int .i64 x5, .slice A6 n7 c8, .int .i64 x9, .int .i64 x10, .slice A11 n12 c13, .int .i64 x14, .int .i64 x15, .slice A16 n17 c18], [.int .i64 x19, .int .i64 x20, .slice A21 n22 c23, .int .i64 x24, .int .i64 x25, .slice A26 n27 c28, .int .i64 x29, .int .i64 x30, .slice A31 n32 c33], [.int .i64 x34, .int .i64 x35, .slice A36 n37 c38, .int .i64 x39, .int .i64 x40, .slice A41 n42 c43, .int .i64 x44, .int .i64 x45, .slice A46 n47 c48]] M =
 bb (x2 != 0)
 (some (zoetropelaw25_ChainKnown.c131069 b1 true x4 x5 A6 n7 c8 x9 x10 A11 n12 c13 x14 x15 A16 n17 c18 M))
 (bb (x3 != 0)
 (some (zoetropelaw25_ChainKnown.c131069 b1 true x4 x5 A6 n7 c8 x9 x10 A11 n12 c13 x14 x15 A16 n17 c18 M))
 (ob (acall P T k M.length F.zoetropelaw25_step [] M) fun r245 =>
 ob ((some r245.1).bind (Value.agg? 9)) fun l246 =>
 ob ((l246[0]?).bind (Value.int? .i64)) fun x247 =>
 ob ((l246[1]?).bind (Value.int? .i64)) fun x248 =>
 ob ((l246[2]?).bind Value.slc?) fun s249 =>
 ob ((l246[3]?).bind (Value.int? .i64)) fun x250 =>
 ob ((l246[4]?).bind (Value.int? .i64)) fun x251 =>
 ob ((l246[5]?).bind Value.slc?) fun s252 =>
 ob ((l246[6]?).bind (Value.int? .i64)) fun x253 =>
 ob ((l246[7]?).bind (Value.int? .i64)) fun x254 =>
 ob ((l246[8]?).bind Value.slc?) fun s255 =>
 ob (acall P T k lo F.zoetropelaw25_same [.agg ⟨[.int .i64 x34, .int .i64 x35, .slice A36 n37 c38, .int .i64 x39, .int .i64 x40, .slice A41 n42 c43, .int .i64 x44, .int .i64 x45, .slice A46 n47 c48]⟩, .agg ⟨[.int .i64 x247, .int .i64 x248, .slice s249.a s249.n s249.c, .int .i64 x250, .int .i64 x251, .slice s252.a s252.n s252.c, .int .i64 x253, .int .i64 x254, .slice s255.a s255.n s255.c]⟩] r245.2) fun r256 =>
 ob ((some r256.1).bind Value.bool?) fun b257 =>
 bb (!b257)
 (some (zoetropelaw25_ChainKnown.c131069 b1 true x4 x5 A6 n7 c8 x9 x10 A11 n12 c13 x14 x15 A16 n17 c18 r256.2))
 (bb ((n22 : Int) != 256)
 (some (zoetropelaw25_ChainKnown.c131069 b1 true x4 x5 A6 n7 c8 x9 x10 A11 n12 c13 x14 x15 A16 n17 c18 r256.2))
 (pb (0 ≤ (32 : Int) ∧ (32 : Int) ≤ 48 ∧ (48 : Int) ≤ (c23 : Int))
 (ob (acall P T k lo F.zoetroperef00_EqBytes [.slice (slAddr 1 A21 32 c23) 16 (c23 - 32), .slice (some ⟨r256.2.length, 0, none⟩) 16 16] (r256.2 ++ [⟨.fx, [.int .u8 100, .int .u8 100, .int .u8 100, .int .u8 100, .int .u8 100, .int .u8 101, .int .u8 101, .int .u8 102, .int .u8 103, .int .u8 103, .int .u8 104, .int .u8 104, .int .u8 104, .int .u8 104, .int .u8 104, .int .u8 104]⟩] : Mem)) fun r258 =>
 ob ((some r258.1).bind Value.bool?) fun b259 =>
 some (zoetropelaw25_ChainKnown.c131069 b1 (!b259) x4 x5 A6 n7 c8 x9 x10 A11 n12 c13 x14 x15 A16 n17 c18 r258.2)) none)))) := by kernel_rfl
theorem zoetropelaw25_ChainKnown.p65535 (k lo : Nat) (b1 : Bool) (x2 : Int) (x3 : Int) (A4 : Option Addr) (n5 : Nat) (c6 : Nat) (x7 : Int) (x8 : Int) (A9 : Option Addr) (n10 : Nat) (c11 : Nat) (x12 : Int) (x13 : Int) (A14 : Option Addr) (n15 : Nat) (c16 : Nat) (M : Mem) : piece P T k lo F.zoetropelaw25_ChainKnown 65535 [.l 1 0, .v (.bool b1)] [[.int .i64 x2, .int .i64 x3, .slice A4 n5 c6, .int .i64 x7, .int .i64 x8, .slice A9 n10 c11, .int .i64 x12, .int .i64 x13, .slice A14 n15 c16]] M =
 ob (acall P T k lo F.zoetropelaw25_bare [.int .i64 16, .int .i64 16, .int .u8 8] M) fun r260 =>
 ob ((some r260.1).bind (Value.agg? 20)) fun l261 =>
 ob ((l261[0]?).bind (Value.int? .i64)) fun x262 =>
 ob ((l261[1]?).bind (Value.int? .i64)) fun x263 =>
 ob ((l261[2]?).bind Value.slc?) fun s264 =>
 ob ((l261[3]?).bind Value.slc?) fun s265 =>
 ob ((l261[4]?).bind Value.slc?) fun s266 =>
 ob ((l261[5]?).bind (Value.int? .i64)) fun x267 =>
 ob ((l261[6]?).bind (Value.int? .i64)) fun x268 =>
 ob ((l261[7]?).bind Value.slc?) fun s269 =>
 ob ((l261[8]?).bind Value.slc?) fun s270 =>
 ob ((l261[9]?).bind Value.slc?) fun s271 =>
 ob ((l261[10]?).bind (Value.int? .i64)) fun x272 =>
 ob ((l261[11]?).bind (Value.int? .i64)) fun x273 =>
 ob ((l261[12]?).bind Value.slc?) fun s274 =>
 ob ((l261[13]?).bind Value.slc?) fun s275 =>
 ob ((l261[14]?).bind Value.slc?) fun s276 =>
 ob ((l261[15]?).bind Value.slc?) fun s277 =>
 ob ((l261[16]?).bind Value.slc?) fun s278 =>
 ob ((l261[17]?).bind Value.slc?) fun s279 =>
 ob ((l261[18]?).bind Value.slc?) fun s280 =>
 ob ((l261[19]?).bind Value.slc?) fun s281 =>
 some (zoetropelaw25_ChainKnown.c131071 b1 x2 x3 A4 n5 c6 x7 x8 A9 n10 c11 x12 x13 A14 n15 c16 x262 x263 s264.a s264.n s264.c s265.a s265.n s265.c s266.a s266.n s266.c x267 x268 s269.a s269.n s269.c s270.a s270.n s270.c s271.a s271.n s271.c x272 x273 s274.a s274.n s274.c s275.a s275.n s275.c s276.a s276.n s276.c s277.a s277.n s277.c s278.a s278.n s278.c s279.a s279.n s279.c s280.a s280.n s280.c s281.a s281.n s281.c r260.2) := by kernel_rfl
theorem zoetropelaw25_ChainKnown.p131069 (k lo : Nat) (b1 : Bool) (b2 : Bool) (x3 : Int) (x4 : Int) (A5 : Option Addr) (n6 : Nat) (c7 : Nat) (x8 : Int) (x9 : Int) (A10 : Option Addr) (n11 : Nat) (c12 : Nat) (x13 : Int) (x14 : Int) (A15 : Option Addr) (n16 : Nat) (c17 : Nat) (M : Mem) : piece P T k lo F.zoetropelaw25_ChainKnown 131069 [.l 1 0, .v (.bool b1), .v (.bool b2)] [[.int .i64 x3, .int .i64 x4, .slice A5 n6 c7, .int .i64 x8, .int .i64 x9, .slice A10 n11 c12, .int .i64 x13, .int .i64 x14, .slice A15 n16 c17]] M =
 bb b2
 (some (.ret (.bool false) M))
 (some (zoetropelaw25_ChainKnown.c65535 b1 x3 x4 A5 n6 c7 x8 x9 A10 n11 c12 x13 x14 A15 n16 c17 M)) := by kernel_rfl
theorem zoetropelaw25_ChainKnown.p131071 (k lo : Nat) (b1 : Bool) (x2 : Int) (x3 : Int) (A4 : Option Addr) (n5 : Nat) (c6 : Nat) (x7 : Int) (x8 : Int) (A9 : Option Addr) (n10 : Nat) (c11 : Nat) (x12 : Int) (x13 : Int) (A14 : Option Addr) (n15 : Nat) (c16 : Nat) (x17 : Int) (x18 : Int) (A19 : Option Addr) (n20 : Nat) (c21 : Nat) (A22 : Option Addr) (n23 : Nat) (c24 : Nat) (A25 : Option Addr) (n26 : Nat) (c27 : Nat) (x28 : Int) (x29 : Int) (A30 : Option Addr) (n31 : Nat) (c32 : Nat) (A33 : Option Addr) (n34 : Nat) (c35 : Nat) (A36 : Option Addr) (n37 : Nat) (c38 : Nat) (x39 : Int) (x40 : Int) (A41 : Option Addr) (n42 : Nat) (c43 : Nat) (A44 : Option Addr) (n45 : Nat) (c46 : Nat) (A47 : Option Addr) (n48 : Nat) (c49 : Nat) (A50 : Option Addr) (n51 : Nat) (c52 : Nat) (A53 : Option Addr) (n54 : Nat) (c55 : Nat) (A56 : Option Addr) (n57 : Nat) (c58 : Nat) (A59 : Option Addr) (n60 : Nat) (c61 : Nat) (A62 : Option Addr) (n63 : Nat) (c64 : Nat) (M : Mem) : piece P T k lo F.zoetropelaw25_ChainKnown 131071 [.l 1 0, .v (.bool b1), .l 24 0] [[.int .i64 x2, .int .i64 x3, .slice A4 n5 c6, .int .i64 x7, .int .i64 x8, .slice A9 n10 c11, .int .i64 x12, .int .i64 x13, .slice A14 n15 c16], [.int .i64 x17, .int .i64 x18, .slice A19 n20 c21, .slice A22 n23 c24, .slice A25 n26 c27, .int .i64 x28, .int .i64 x29, .slice A30 n31 c32, .slice A33 n34 c35, .slice A36 n37 c38, .int .i64 x39, .int .i64 x40, .slice A41 n42 c43, .slice A44 n45 c46, .slice A47 n48 c49, .slice A50 n51 c52, .slice A53 n54 c55, .slice A56 n57 c58, .slice A59 n60 c61, .slice A62 n63 c64]] M =
 some (zoetropelaw25_ChainKnown.c262143 b1 x2 x3 A4 n5 c6 x7 x8 A9 n10 c11 x12 x13 A14 n15 c16 x17 x18 A19 n20 c21 A22 n23 c24 A25 n26 c27 x28 x29 A30 n31 c32 A33 n34 c35 A36 n37 c38 x39 x40 A41 n42 c43 A44 n45 c46 A47 n48 c49 A50 n51 c52 A53 n54 c55 A56 n57 c58 (some ⟨M.length, 0, none⟩) 2 2 A62 n63 c64 (M ++ [⟨.fx, [.bool false, .int .i64 0, .int .i64 0, .int .i64 0, .int .i64 0, .int .i64 0, .int .i64 0, .bool false, .int .i64 0, .int .i64 0, .int .i64 0, .int .i64 0, .int .i64 0, .int .i64 0]⟩] : Mem)) := by kernel_rfl
theorem zoetropelaw25_ChainKnown.p262143 (k lo : Nat) (b1 : Bool) (x2 : Int) (x3 : Int) (A4 : Option Addr) (n5 : Nat) (c6 : Nat) (x7 : Int) (x8 : Int) (A9 : Option Addr) (n10 : Nat) (c11 : Nat) (x12 : Int) (x13 : Int) (A14 : Option Addr) (n15 : Nat) (c16 : Nat) (x17 : Int) (x18 : Int) (A19 : Option Addr) (n20 : Nat) (c21 : Nat) (A22 : Option Addr) (n23 : Nat) (c24 : Nat) (A25 : Option Addr) (n26 : Nat) (c27 : Nat) (x28 : Int) (x29 : Int) (A30 : Option Addr) (n31 : Nat) (c32 : Nat) (A33 : Option Addr) (n34 : Nat) (c35 : Nat) (A36 : Option Addr) (n37 : Nat) (c38 : Nat) (x39 : Int) (x40 : Int) (A41 : Option Addr) (n42 : Nat) (c43 : Nat) (A44 : Option Addr) (n45 : Nat) (c46 : Nat) (A47 : Option Addr) (n48 : Nat) (c49 : Nat) (A50 : Option Addr) (n51 : Nat) (c52 : Nat) (A53 : Option Addr) (n54 : Nat) (c55 : Nat) (A56 : Option Addr) (n57 : Nat) (c58 : Nat) (A59 : Option Addr) (n60 : Nat) (c61 : Nat) (A62 : Option Addr) (n63 : Nat) (c64 : Nat) (M : Mem) : piece P T k lo F.zoetropelaw25_ChainKnown 262143 [.l 1 0, .v (.bool b1), .l 24 0] [[.int .i64 x2, .int .i64 x3, .slice A4 n5 c6, .int .i64 x7, .int .i64 x8, .slice A9 n10 c11, .int .i64 x12, .int .i64 x13, .slice A14 n15 c16], [.int .i64 x17, .int .i64 x18, .slice A19 n20 c21, .slice A22 n23 c24, .slice A25 n26 c27, .int .i64 x28, .int .i64 x29, .slice A30 n31 c32, .slice A33 n34 c35, .slice A36 n37 c38, .int .i64 x39, .int .i64 x40, .slice A41 n42 c43, .slice A44 n45 c46, .slice A47 n48 c49, .slice A50 n51 c52, .slice A53 n54 c55, .slice A56 n57 c58, .slice A59 n60 c61, .slice A62 n63 c64]] M =
 ob (acall P T k lo F.chain_Run [.agg ⟨[.int .i64 x2, .int .i64 x3, .slice A4 n5 c6, .int .i64 x7, .int .i64 x8, .slice A9 n10 c11, .int .i64 x12, .int .i64 x13, .slice A14 n15 c16]⟩, .agg ⟨[.bool false, .int .i64 0, .bool false, .bool false, .int .i64 0, .int .i64 0, .int .i64 0, .int .i64 0, .int .i64 0, .int .i64 1, .int .i64 0, .int .i64 0, .int .i64 0, .int .i64 0, .int .i64 0, .int .i64 0, .int .i64 0, .bool false, .int .i64 0, .int .i64 0, .int .i64 0, .int .i64 0, .int .i64 0, .bool false, .int .i64 0, .int .i64 0, .slice none 0 0, .bool false, .bool false, .bool false]⟩, .agg ⟨[.int .i64 x17, .int .i64 x18, .slice A19 n20 c21, .slice A22 n23 c24, .slice A25 n26 c27, .int .i64 x28, .int .i64 x29, .slice A30 n31 c32, .slice A33 n34 c35, .slice A36 n37 c38, .int .i64 x39, .int .i64 x40, .slice A41 n42 c43, .slice A44 n45 c46, .slice A47 n48 c49, .slice A50 n51 c52, .slice A53 n54 c55, .slice A56 n57 c58, .slice A59 n60 c61, .slice A62 n63 c64]⟩] M) fun r282 =>
 ob (r282.1.tup? 2) fun l283 =>
 ob ((l283[0]?).bind (Value.agg? 9)) fun l284 =>
 ob ((l284[0]?).bind (Value.int? .i64)) fun x285 =>
 ob ((l284[1]?).bind (Value.int? .i64)) fun x286 =>
 ob ((l284[2]?).bind Value.slc?) fun s287 =>
 ob ((l284[3]?).bind (Value.int? .i64)) fun x288 =>
 ob ((l284[4]?).bind (Value.int? .i64)) fun x289 =>
 ob ((l284[5]?).bind Value.slc?) fun s290 =>
 ob ((l284[6]?).bind (Value.int? .i64)) fun x291 =>
 ob ((l284[7]?).bind (Value.int? .i64)) fun x292 =>
 ob ((l284[8]?).bind Value.slc?) fun s293 =>
 ob ((l283[1]?).bind (Value.int? .i64)) fun x294 =>
 some (zoetropelaw25_ChainKnown.c524287 b1 x294 x2 x3 A4 n5 c6 x7 x8 A9 n10 c11 x12 x13 A14 n15 c16 x17 x18 A19 n20 c21 A22 n23 c24 A25 n26 c27 x28 x29 A30 n31 c32 A33 n34 c35 A36 n37 c38 x39 x40 A41 n42 c43 A44 n45 c46 A47 n48 c49 A50 n51 c52 A53 n54 c55 A56 n57 c58 A59 n60 c61 A62 n63 c64 r282.2) := by kernel_rfl
theorem zoetropelaw25_ChainKnown.p524287 (k lo : Nat) (b1 : Bool) (x2 : Int) (x3 : Int) (x4 : Int) (A5 : Option Addr) (n6 : Nat) (c7 : Nat) (x8 : Int) (x9 : Int) (A10 : Option Addr) (n11 : Nat) (c12 : Nat) (x13 : Int) (x14 : Int) (A15 : Option Addr) (n16 : Nat) (c17 : Nat) (x18 : Int) (x19 : Int) (A20 : Option Addr) (n21 : Nat) (c22 : Nat) (A23 : Option Addr) (n24 : Nat) (c25 : Nat) (A26 : Option Addr) (n27 : Nat) (c28 : Nat) (x29 : Int) (x30 : Int) (A31 : Option Addr) (n32 : Nat) (c33 : Nat) (A34 : Option Addr) (n35 : Nat) (c36 : Nat) (A37 : Option Addr) (n38 : Nat) (c39 : Nat) (x40 : Int) (x41 : Int) (A42 : Option Addr) (n43 : Nat) (c44 : Nat) (A45 : Option Addr) (n46 : Nat) (c47 : Nat) (A48 : Option Addr) (n49 : Nat) (c50 : Nat) (A51 : Option Addr) (n52 : Nat) (c53 : Nat) (A54 : Option Addr) (n55 : Nat) (c56 : Nat) (A57 : Option Addr) (n58 : Nat) (c59 : Nat) (A60 : Option Addr) (n61 : Nat) (c62 : Nat) (A63 : Option Addr) (n64 : Nat) (c65 : Nat) (M : Mem) : piece P T k lo F.zoetropelaw25_ChainKnown 524287 [.l 1 0, .v (.bool b1), .l 24 0, .v (.int .i64 x2)] [[.int .i64 x3, .int .i64 x4, .slice A5 n6 c7, .int .i64 x8, .int .i64 x9, .slice A10 n11 c12, .int .i64 x13, .int .i64 x14, .slice A15 n16 c17], [.int .i64 x18, .int .i64 x19, .slice A20 n21 c22, .slice A23 n24 c25, .slice A26 n27 c28, .int .i64 x29, .int .i64 x30, .slice A31 n32 c33, .slice A34 n35 c36, .slice A37 n38 c39, .int .i64 x40, .int .i64 x41, .slice A42 n43 c44, .slice A45 n46 c47, .slice A48 n49 c50, .slice A51 n52 c53, .slice A54 n55 c56, .slice A57 n58 c59, .slice A60 n61 c62, .slice A63 n64 c65]] M =
 ob (acall P T k lo F.chain_Run [.agg ⟨[.int .i64 x3, .int .i64 x4, .slice A5 n6 c7, .int .i64 x8, .int .i64 x9, .slice A10 n11 c12, .int .i64 x13, .int .i64 x14, .slice A15 n16 c17]⟩, .agg ⟨[.bool false, .int .i64 0, .bool false, .bool false, .int .i64 0, .int .i64 0, .int .i64 0, .int .i64 0, .int .i64 0, .int .i64 1, .int .i64 0, .int .i64 0, .int .i64 0, .int .i64 0, .int .i64 0, .int .i64 0, .int .i64 0, .bool false, .int .i64 0, .int .i64 0, .int .i64 0, .int .i64 0, .int .i64 0, .bool false, .int .i64 0, .int .i64 0, .slice none 0 0, .bool false, .bool true, .bool false]⟩, .agg ⟨[.int .i64 x18, .int .i64 x19, .slice A20 n21 c22, .slice A23 n24 c25, .slice A26 n27 c28, .int .i64 x29, .int .i64 x30, .slice A31 n32 c33, .slice A34 n35 c36, .slice A37 n38 c39, .int .i64 x40, .int .i64 x41, .slice A42 n43 c44, .slice A45 n46 c47, .slice A48 n49 c50, .slice A51 n52 c53, .slice A54 n55 c56, .slice A57 n58 c59, .slice A60 n61 c62, .slice A63 n64 c65]⟩] M) fun r295 =>
 ob (r295.1.tup? 2) fun l296 =>
 ob ((l296[0]?).bind (Value.agg? 9)) fun l297 =>
 ob ((l297[0]?).bind (Value.int? .i64)) fun x298 =>
 ob ((l297[1]?).bind (Value.int? .i64)) fun x299 =>
 ob ((l297[2]?).bind Value.slc?) fun s300 =>
 ob ((l297[3]?).bind (Value.int? .i64)) fun x301 =>
 ob ((l297[4]?).bind (Value.int? .i64)) fun x302 =>
 ob ((l297[5]?).bind Value.slc?) fun s303 =>
 ob ((l297[6]?).bind (Value.int? .i64)) fun x304 =>
 ob ((l297[7]?).bind (Value.int? .i64)) fun x305 =>
 ob ((l297[8]?).bind Value.slc?) fun s306 =>
 ob ((l296[1]?).bind (Value.int? .i64)) fun x307 =>
 some (zoetropelaw25_ChainKnown.c1048575 b1 x2 x307 x3 x4 A5 n6 c7 x8 x9 A10 n11 c12 x13 x14 A15 n16 c17 r295.2) := by kernel_rfl
theorem zoetropelaw25_ChainKnown.p1048575 (k lo : Nat) (b1 : Bool) (x2 : Int) (x3 : Int) (x4 : Int) (x5 : Int) (A6 : Option Addr) (n7 : Nat) (c8 : Nat) (x9 : Int) (x10 : Int) (A11 : Option Addr) (n12 : Nat) (c13 : Nat) (x14 : Int) (x15 : Int) (A16 : Option Addr) (n17 : Nat) (c18 : Nat) (M : Mem) : piece P T k lo F.zoetropelaw25_ChainKnown 1048575 [.l 1 0, .v (.bool b1), .v (.int .i64 x2), .v (.int .i64 x3)] [[.int .i64 x4, .int .i64 x5, .slice A6 n7 c8, .int .i64 x9, .int .i64 x10, .slice A11 n12 c13, .int .i64 x14, .int .i64 x15, .slice A16 n17 c18]] M =
 ob (acall P T k M.length F.zoetropelaw25_bare [.int .i64 16, .int .i64 16, .int .u8 8] M) fun r308 =>
 ob ((some r308.1).bind (Value.agg? 20)) fun l309 =>
 ob ((l309[0]?).bind (Value.int? .i64)) fun x310 =>
 ob ((l309[1]?).bind (Value.int? .i64)) fun x311 =>
 ob ((l309[2]?).bind Value.slc?) fun s312 =>
 ob ((l309[3]?).bind Value.slc?) fun s313 =>
 ob ((l309[4]?).bind Value.slc?) fun s314 =>
 ob ((l309[5]?).bind (Value.int? .i64)) fun x315 =>
 ob ((l309[6]?).bind (Value.int? .i64)) fun x316 =>
 ob ((l309[7]?).bind Value.slc?) fun s317 =>
 ob ((l309[8]?).bind Value.slc?) fun s318 =>
 ob ((l309[9]?).bind Value.slc?) fun s319 =>
 ob ((l309[10]?).bind (Value.int? .i64)) fun x320 =>
 ob ((l309[11]?).bind (Value.int? .i64)) fun x321 =>
 ob ((l309[12]?).bind Value.slc?) fun s322 =>
 ob ((l309[13]?).bind Value.slc?) fun s323 =>
 ob ((l309[14]?).bind Value.slc?) fun s324 =>
 ob ((l309[15]?).bind Value.slc?) fun s325 =>
 ob ((l309[16]?).bind Value.slc?) fun s326 =>
 ob ((l309[17]?).bind Value.slc?) fun s327 =>
 ob ((l309[18]?).bind Value.slc?) fun s328 =>
 ob ((l309[19]?).bind Value.slc?) fun s329 =>
 ob (acall P T k lo F.chain_Run [.agg ⟨[.int .i64 x4, .int .i64 x5, .slice A6 n7 c8, .int .i64 x9, .int .i64 x10, .slice A11 n12 c13, .int .i64 x14, .int .i64 x15, .slice A16 n17 c18]⟩, .agg ⟨[.bool false, .int .i64 0, .bool false, .bool false, .int .i64 0, .int .i64 0, .int .i64 0, .int .i64 0, .int .i64 0, .int .i64 1, .int .i64 0, .int .i64 0, .int .i64 0, .int .i64 0, .int .i64 0, .int .i64 0, .int .i64 0, .bool false, .int .i64 0, .int .i64 0, .int .i64 0, .int .i64 64, .int .i64 0, .bool false, .int .i64 0, .int .i64 0, .slice none 0 0, .bool false, .bool false, .bool false]⟩, .agg ⟨[.int .i64 x310, .int .i64 x311, .slice s312.a s312.n s312.c, .slice s313.a s313.n s313.c, .slice s314.a s314.n s314.c, .int .i64 x315, .int .i64 x316, .slice s317.a s317.n s317.c, .slice s318.a s318.n s318.c, .slice s319.a s319.n s319.c, .int .i64 x320, .int .i64 x321, .slice s322.a s322.n s322.c, .slice s323.a s323.n s323.c, .slice s324.a s324.n s324.c, .slice s325.a s325.n s325.c, .slice s326.a s326.n s326.c, .slice s327.a s327.n s327.c, .slice s328.a s328.n s328.c, .slice s329.a s329.n s329.c]⟩] r308.2) fun r330 =>
 ob (r330.1.tup? 2) fun l331 =>
 ob ((l331[0]?).bind (Value.agg? 9)) fun l332 =>
 ob ((l332[0]?).bind (Value.int? .i64)) fun x333 =>
 ob ((l332[1]?).bind (Value.int? .i64)) fun x334 =>
 ob ((l332[2]?).bind Value.slc?) fun s335 =>
 ob ((l332[3]?).bind (Value.int? .i64)) fun x336 =>
 ob ((l332[4]?).bind (Value.int? .i64)) fun x337 =>
 ob ((l332[5]?).bind Value.slc?) fun s338 =>
 ob ((l332[6]?).bind (Value.int? .i64)) fun x339 =>
 ob ((l332[7]?).bind (Value.int? .i64)) fun x340 =>
 ob ((l332[8]?).bind Value.slc?) fun s341 =>
 ob ((l331[1]?).bind (Value.int? .i64)) fun x342 =>
 some (zoetropelaw25_ChainKnown.c2097151 b1 x2 x3 x342 x4 x5 A6 n7 c8 x9 x10 A11 n12 c13 x14 x15 A16 n17 c18 r330.2) := by kernel_rfl
theorem zoetropelaw25_ChainKnown.p2097151 (k lo : Nat) (b1 : Bool) (x2 : Int) (x3 : Int) (x4 : Int) (x5 : Int) (x6 : Int) (A7 : Option Addr) (n8 : Nat) (c9 : Nat) (x10 : Int) (x11 : Int) (A12 : Option Addr) (n13 : Nat) (c14 : Nat) (x15 : Int) (x16 : Int) (A17 : Option Addr) (n18 : Nat) (c19 : Nat) (M : Mem) : piece P T k lo F.zoetropelaw25_ChainKnown 2097151 [.l 1 0, .v (.bool b1), .v (.int .i64 x2), .v (.int .i64 x3), .v (.int .i64 x4)] [[.int .i64 x5, .int .i64 x6, .slice A7 n8 c9, .int .i64 x10, .int .i64 x11, .slice A12 n13 c14, .int .i64 x15, .int .i64 x16, .slice A17 n18 c19]] M =
 ob (acall P T k M.length F.zoetropelaw25_bare [.int .i64 16, .int .i64 16, .int .u8 8] M) fun r343 =>
 ob ((some r343.1).bind (Value.agg? 20)) fun l344 =>
 ob ((l344[0]?).bind (Value.int? .i64)) fun x345 =>
 ob ((l344[1]?).bind (Value.int? .i64)) fun x346 =>
 ob ((l344[2]?).bind Value.slc?) fun s347 =>
 ob ((l344[3]?).bind Value.slc?) fun s348 =>
 ob ((l344[4]?).bind Value.slc?) fun s349 =>
 ob ((l344[5]?).bind (Value.int? .i64)) fun x350 =>
 ob ((l344[6]?).bind (Value.int? .i64)) fun x351 =>
 ob ((l344[7]?).bind Value.slc?) fun s352 =>
 ob ((l344[8]?).bind Value.slc?) fun s353 =>
 ob ((l344[9]?).bind Value.slc?) fun s354 =>
 ob ((l344[10]?).bind (Value.int? .i64)) fun x355 =>
 ob ((l344[11]?).bind (Value.int? .i64)) fun x356 =>
 ob ((l344[12]?).bind Value.slc?) fun s357 =>
 ob ((l344[13]?).bind Value.slc?) fun s358 =>
 ob ((l344[14]?).bind Value.slc?) fun s359 =>
 ob ((l344[15]?).bind Value.slc?) fun s360 =>
 ob ((l344[16]?).bind Value.slc?) fun s361 =>
 ob ((l344[17]?).bind Value.slc?) fun s362 =>
 ob ((l344[18]?).bind Value.slc?) fun s363 =>
 ob ((l344[19]?).bind Value.slc?) fun s364 =>
 ob (acall P T k lo F.chain_Run [.agg ⟨[.int .i64 x5, .int .i64 x6, .slice A7 n8 c9, .int .i64 x10, .int .i64 x11, .slice A12 n13 c14, .int .i64 x15, .int .i64 x16, .slice A17 n18 c19]⟩, .agg ⟨[.bool false, .int .i64 0, .bool false, .bool false, .int .i64 0, .int .i64 0, .int .i64 0, .int .i64 0, .int .i64 0, .int .i64 1, .int .i64 0, .int .i64 0, .int .i64 0, .int .i64 0, .int .i64 0, .int .i64 0, .int .i64 0, .bool false, .int .i64 0, .int .i64 0, .int .i64 0, .int .i64 0, .int .i64 8, .bool false, .int .i64 0, .int .i64 0, .slice none 0 0, .bool false, .bool false, .bool false]⟩, .agg ⟨[.int .i64 x345, .int .i64 x346, .slice s347.a s347.n s347.c, .slice s348.a s348.n s348.c, .slice s349.a s349.n s349.c, .int .i64 x350, .int .i64 x351, .slice s352.a s352.n s352.c, .slice s353.a s353.n s353.c, .slice s354.a s354.n s354.c, .int .i64 x355, .int .i64 x356, .slice s357.a s357.n s357.c, .slice s358.a s358.n s358.c, .slice s359.a s359.n s359.c, .slice s360.a s360.n s360.c, .slice s361.a s361.n s361.c, .slice s362.a s362.n s362.c, .slice s363.a s363.n s363.c, .slice s364.a s364.n s364.c]⟩] r343.2) fun r365 =>
 ob (r365.1.tup? 2) fun l366 =>
 ob ((l366[0]?).bind (Value.agg? 9)) fun l367 =>
 ob ((l367[0]?).bind (Value.int? .i64)) fun x368 =>
 ob ((l367[1]?).bind (Value.int? .i64)) fun x369 =>
 ob ((l367[2]?).bind Value.slc?) fun s370 =>
 ob ((l367[3]?).bind (Value.int? .i64)) fun x371 =>
 ob ((l367[4]?).bind (Value.int? .i64)) fun x372 =>
 ob ((l367[5]?).bind Value.slc?) fun s373 =>
 ob ((l367[6]?).bind (Value.int? .i64)) fun x374 =>
 ob ((l367[7]?).bind (Value.int? .i64)) fun x375 =>
 ob ((l367[8]?).bind Value.slc?) fun s376 =>
 ob ((l366[1]?).bind (Value.int? .i64)) fun x377 =>
 some (zoetropelaw25_ChainKnown.c4194303 b1 x2 x3 x4 x377 x5 x6 A7 n8 c9 x10 x11 A12 n13 c14 x15 x16 A17 n18 c19 r365.2) := by kernel_rfl
theorem zoetropelaw25_ChainKnown.p4194303 (k lo : Nat) (b1 : Bool) (x2 : Int) (x3 : Int) (x4 : Int) (x5 : Int) (x6 : Int) (x7 : Int) (A8 : Option Addr) (n9 : Nat) (c10 : Nat) (x11 : Int) (x12 : Int) (A13 : Option Addr) (n14 : Nat) (c15 : Nat) (x16 : Int) (x17 : Int) (A18 : Option Addr) (n19 : Nat) (c20 : Nat) (M : Mem) : piece P T k lo F.zoetropelaw25_ChainKnown 4194303 [.l 1 0, .v (.bool b1), .v (.int .i64 x2), .v (.int .i64 x3), .v (.int .i64 x4), .v (.int .i64 x5)] [[.int .i64 x6, .int .i64 x7, .slice A8 n9 c10, .int .i64 x11, .int .i64 x12, .slice A13 n14 c15, .int .i64 x16, .int .i64 x17, .slice A18 n19 c20]] M =
 ob (acall P T k lo F.chain_Run [.agg ⟨[.int .i64 x6, .int .i64 x7, .slice A8 n9 c10, .int .i64 x11, .int .i64 x12, .slice A13 n14 c15, .int .i64 x16, .int .i64 x17, .slice A18 n19 c20]⟩, .agg ⟨[.bool false, .int .i64 0, .bool false, .bool false, .int .i64 0, .int .i64 0, .int .i64 0, .int .i64 0, .int .i64 0, .int .i64 0, .int .i64 0, .int .i64 0, .int .i64 0, .int .i64 0, .int .i64 1, .int .i64 0, .int .i64 0, .bool false, .int .i64 0, .int .i64 0, .int .i64 0, .int .i64 0, .int .i64 0, .bool false, .int .i64 0, .int .i64 0, .slice none 0 0, .bool false, .bool false, .bool false]⟩, .agg ⟨[.int .i64 0, .int .i64 0, .slice none 0 0, .slice none 0 0, .slice none 0 0, .int .i64 0, .int .i64 0, .slice none 0 0, .slice none 0 0, .slice none 0 0, .int .i64 0, .int .i64 0, .slice none 0 0, .slice none 0 0, .slice none 0 0, .slice none 0 0, .slice none 0 0, .slice none 0 0, .slice none 0 0, .slice none 0 0]⟩] M) fun r378 =>
 ob (r378.1.tup? 2) fun l379 =>
 ob ((l379[0]?).bind (Value.agg? 9)) fun l380 =>
 ob ((l380[0]?).bind (Value.int? .i64)) fun x381 =>
 ob ((l380[1]?).bind (Value.int? .i64)) fun x382 =>
 ob ((l380[2]?).bind Value.slc?) fun s383 =>
 ob ((l380[3]?).bind (Value.int? .i64)) fun x384 =>
 ob ((l380[4]?).bind (Value.int? .i64)) fun x385 =>
 ob ((l380[5]?).bind Value.slc?) fun s386 =>
 ob ((l380[6]?).bind (Value.int? .i64)) fun x387 =>
 ob ((l380[7]?).bind (Value.int? .i64)) fun x388 =>
 ob ((l380[8]?).bind Value.slc?) fun s389 =>
 ob ((l379[1]?).bind (Value.int? .i64)) fun x390 =>
 some (zoetropelaw25_ChainKnown.c8388607 b1 x2 x3 x4 x5 x390 r378.2) := by kernel_rfl
theorem zoetropelaw25_ChainKnown.p8388607 (k lo : Nat) (b1 : Bool) (x2 : Int) (x3 : Int) (x4 : Int) (x5 : Int) (x6 : Int) (M : Mem) : piece P T k lo F.zoetropelaw25_ChainKnown 8388607 [.v (.bool b1), .v (.int .i64 x2), .v (.int .i64 x3), .v (.int .i64 x4), .v (.int .i64 x5), .v (.int .i64 x6)] [] M =
 ob (acall P T k lo F.zoetropelaw25_works [] M) fun r391 =>
 ob ((some r391.1).bind Value.bool?) fun b392 =>
 bb b392
 (bb b1
 (bb (x2 == 0)
 (bb (x3 == 2)
 (bb (x4 == 2)
 (bb (x5 == 2)
 (some (zoetropelaw25_ChainKnown.c16777215 (x6 == 2) r391.2))
 (some (zoetropelaw25_ChainKnown.c16777215 false r391.2)))
 (some (zoetropelaw25_ChainKnown.c16777215 false r391.2)))
 (some (zoetropelaw25_ChainKnown.c16777215 false r391.2)))
 (some (zoetropelaw25_ChainKnown.c16777215 false r391.2)))
 (some (zoetropelaw25_ChainKnown.c16777215 false r391.2)))
 (some (zoetropelaw25_ChainKnown.c16777215 false r391.2)) := by kernel_rfl
theorem zoetropelaw25_ChainKnown.p16777215 (k lo : Nat) (b1 : Bool) (M : Mem) : piece P T k lo F.zoetropelaw25_ChainKnown 16777215 [.v (.bool b1)] [] M =
 some (.ret (.bool b1) M) := by kernel_rfl
theorem zoetropelaw25_works.entry (k lo : Nat) (M : Mem) : entry P T k lo F.zoetropelaw25_works [] M =
 ob (acall P T k lo F.zoetropelaw25_step [] M) fun r6 =>
 ob ((some r6.1).bind (Value.agg? 9)) fun l7 =>
 ob ((l7[0]?).bind (Value.int? .i64)) fun x8 =>
 ob ((l7[1]?).bind (Value.int? .i64)) fun x9 =>
 ob ((l7[2]?).bind Value.slc?) fun s10 =>
 ob ((l7[3]?).bind (Value.int? .i64)) fun x11 =>
 ob ((l7[4]?).bind (Value.int? .i64)) fun x12 =>
 ob ((l7[5]?).bind Value.slc?) fun s13 =>
 ob ((l7[6]?).bind (Value.int? .i64)) fun x14 =>
 ob ((l7[7]?).bind (Value.int? .i64)) fun x15 =>
 ob ((l7[8]?).bind Value.slc?) fun s16 =>
 ob (acall P T k lo F.zoetropelaw25_bare [.int .i64 16, .int .i64 16, .int .u8 8] r6.2) fun r17 =>
 ob ((some r17.1).bind (Value.agg? 20)) fun l18 =>
 ob ((l18[0]?).bind (Value.int? .i64)) fun x19 =>
 ob ((l18[1]?).bind (Value.int? .i64)) fun x20 =>
 ob ((l18[2]?).bind Value.slc?) fun s21 =>
 ob ((l18[3]?).bind Value.slc?) fun s22 =>
 ob ((l18[4]?).bind Value.slc?) fun s23 =>
 ob ((l18[5]?).bind (Value.int? .i64)) fun x24 =>
 ob ((l18[6]?).bind (Value.int? .i64)) fun x25 =>
 ob ((l18[7]?).bind Value.slc?) fun s26 =>
 ob ((l18[8]?).bind Value.slc?) fun s27 =>
 ob ((l18[9]?).bind Value.slc?) fun s28 =>
 ob ((l18[10]?).bind (Value.int? .i64)) fun x29 =>
 ob ((l18[11]?).bind (Value.int? .i64)) fun x30 =>
 ob ((l18[12]?).bind Value.slc?) fun s31 =>
 ob ((l18[13]?).bind Value.slc?) fun s32 =>
 ob ((l18[14]?).bind Value.slc?) fun s33 =>
 ob ((l18[15]?).bind Value.slc?) fun s34 =>
 ob ((l18[16]?).bind Value.slc?) fun s35 =>
 ob ((l18[17]?).bind Value.slc?) fun s36 =>
 ob ((l18[18]?).bind Value.slc?) fun s37 =>
 ob ((l18[19]?).bind Value.slc?) fun s38 =>
 ob (acall P T k lo F.chain_Run [.agg ⟨[.int .i64 x8, .int .i64 x9, .slice s10.a s10.n s10.c, .int .i64 x11, .int .i64 x12, .slice s13.a s13.n s13.c, .int .i64 x14, .int .i64 x15, .slice s16.a s16.n s16.c]⟩, .agg ⟨[.bool false, .int .i64 0, .bool false, .bool false, .int .i64 0, .int .i64 0, .int .i64 0, .int .i64 0, .int .i64 0, .int .i64 1, .int .i64 0, .int .i64 0, .int .i64 0, .int .i64 0, .int .i64 0, .int .i64 0, .int .i64 0, .bool false, .int .i64 32, .int .i64 0, .int .i64 0, .int .i64 0, .int .i64 0, .bool false, .int .i64 0, .int .i64 0, .slice none 0 0, .bool false, .bool false, .bool false]⟩, .agg ⟨[.int .i64 x19, .int .i64 x20, .slice s21.a s21.n s21.c, .slice s22.a s22.n s22.c, .slice s23.a s23.n s23.c, .int .i64 x24, .int .i64 x25, .slice s26.a s26.n s26.c, .slice s27.a s27.n s27.c, .slice s28.a s28.n s28.c, .int .i64 x29, .int .i64 x30, .slice s31.a s31.n s31.c, .slice s32.a s32.n s32.c, .slice s33.a s33.n s33.c, .slice s34.a s34.n s34.c, .slice s35.a s35.n s35.c, .slice s36.a s36.n s36.c, .slice s37.a s37.n s37.c, .slice s38.a s38.n s38.c]⟩] r17.2) fun r39 =>
 ob (r39.1.tup? 2) fun l40 =>
 ob ((l40[0]?).bind (Value.agg? 9)) fun l41 =>
 ob ((l41[0]?).bind (Value.int? .i64)) fun x42 =>
 ob ((l41[1]?).bind (Value.int? .i64)) fun x43 =>
 ob ((l41[2]?).bind Value.slc?) fun s44 =>
 ob ((l41[3]?).bind (Value.int? .i64)) fun x45 =>
 ob ((l41[4]?).bind (Value.int? .i64)) fun x46 =>
 ob ((l41[5]?).bind Value.slc?) fun s47 =>
 ob ((l41[6]?).bind (Value.int? .i64)) fun x48 =>
 ob ((l41[7]?).bind (Value.int? .i64)) fun x49 =>
 ob ((l41[8]?).bind Value.slc?) fun s50 =>
 ob ((l40[1]?).bind (Value.int? .i64)) fun x51 =>
 bb (x51 != 0)
 (some (.ret (.bool false) r39.2))
 (bb ((s44.n : Int) != 256)
 (some (.ret (.bool false) r39.2))
 (pb (0 ≤ (80 : Int) ∧ (80 : Int) < (s44.n : Int))
 (ob s44.a fun a52 =>
 ob ((r39.2.ld (plus a52 80)).bind (Value.int? .u8)) fun x53 =>
 bb (x53 == 100)
 (pb (0 ≤ (95 : Int) ∧ (95 : Int) < (s44.n : Int))
 (ob s44.a fun a54 =>
 ob ((r39.2.ld (plus a54 95)).bind (Value.int? .u8)) fun x55 =>
 bb (x55 == 104)
 (pb (0 ≤ (87 : Int) ∧ (87 : Int) < (s44.n : Int))
 (ob s44.a fun a56 =>
 ob ((r39.2.ld (plus a56 87)).bind (Value.int? .u8)) fun x57 =>
 bb (decide (x57 > 100))
 (pb (0 ≤ (88 : Int) ∧ (88 : Int) < (s44.n : Int))
 (ob s44.a fun a58 =>
 ob ((r39.2.ld (plus a58 88)).bind (Value.int? .u8)) fun x59 =>
 bb (decide (x59 < 104))
 (pb (0 ≤ (0 : Int) ∧ (0 : Int) < (s47.n : Int))
 (ob s47.a fun a60 =>
 ob ((r39.2.ld a60).bind (Value.int? .u8)) fun x61 =>
 some (.ret (.bool (x61 == 50)) r39.2)) none)
 (some (.ret (.bool false) r39.2))) none)
 (some (.ret (.bool false) r39.2))) none)
 (some (.ret (.bool false) r39.2))) none)
 (some (.ret (.bool false) r39.2))) none)) := by kernel_rfl
theorem chain_Run.entry (k lo : Nat) (x1 : Int) (x2 : Int) (A3 : Option Addr) (n4 : Nat) (c5 : Nat) (x6 : Int) (x7 : Int) (A8 : Option Addr) (n9 : Nat) (c10 : Nat) (x11 : Int) (x12 : Int) (A13 : Option Addr) (n14 : Nat) (c15 : Nat) (b16 : Bool) (x17 : Int) (b18 : Bool) (b19 : Bool) (x20 : Int) (x21 : Int) (x22 : Int) (x23 : Int) (x24 : Int) (x25 : Int) (x26 : Int) (x27 : Int) (x28 : Int) (x29 : Int) (x30 : Int) (x31 : Int) (x32 : Int) (b33 : Bool) (x34 : Int) (x35 : Int) (x36 : Int) (x37 : Int) (x38 : Int) (b39 : Bool) (x40 : Int) (x41 : Int) (A42 : Option Addr) (n43 : Nat) (c44 : Nat) (b45 : Bool) (b46 : Bool) (b47 : Bool) (x48 : Int) (x49 : Int) (A50 : Option Addr) (n51 : Nat) (c52 : Nat) (A53 : Option Addr) (n54 : Nat) (c55 : Nat) (A56 : Option Addr) (n57 : Nat) (c58 : Nat) (x59 : Int) (x60 : Int) (A61 : Option Addr) (n62 : Nat) (c63 : Nat) (A64 : Option Addr) (n65 : Nat) (c66 : Nat) (A67 : Option Addr) (n68 : Nat) (c69 : Nat) (x70 : Int) (x71 : Int) (A72 : Option Addr) (n73 : Nat) (c74 : Nat) (A75 : Option Addr) (n76 : Nat) (c77 : Nat) (A78 : Option Addr) (n79 : Nat) (c80 : Nat) (A81 : Option Addr) (n82 : Nat) (c83 : Nat) (A84 : Option Addr) (n85 : Nat) (c86 : Nat) (A87 : Option Addr) (n88 : Nat) (c89 : Nat) (A90 : Option Addr) (n91 : Nat) (c92 : Nat) (A93 : Option Addr) (n94 : Nat) (c95 : Nat) (M : Mem) : entry P T k lo F.chain_Run [.agg ⟨[.int .i64 x1, .int .i64 x2, .slice A3 n4 c5, .int .i64 x6, .int .i64 x7, .slice A8 n9 c10, .int .i64 x11, .int .i64 x12, .slice A13 n14 c15]⟩, .agg ⟨[.bool b16, .int .i64 x17, .bool b18, .bool b19, .int .i64 x20, .int .i64 x21, .int .i64 x22, .int .i64 x23, .int .i64 x24, .int .i64 x25, .int .i64 x26, .int .i64 x27, .int .i64 x28, .int .i64 x29, .int .i64 x30, .int .i64 x31, .int .i64 x32, .bool b33, .int .i64 x34, .int .i64 x35, .int .i64 x36, .int .i64 x37, .int .i64 x38, .bool b39, .int .i64 x40, .int .i64 x41, .slice A42 n43 c44, .bool b45, .bool b46, .bool b47]⟩, .agg ⟨[.int .i64 x48, .int .i64 x49, .slice A50 n51 c52, .slice A53 n54 c55, .slice A56 n57 c58, .int .i64 x59, .int .i64 x60, .slice A61 n62 c63, .slice A64 n65 c66, .slice A67 n68 c69, .int .i64 x70, .int .i64 x71, .slice A72 n73 c74, .slice A75 n76 c77, .slice A78 n79 c80, .slice A81 n82 c83, .slice A84 n85 c86, .slice A87 n88 c89, .slice A90 n91 c92, .slice A93 n94 c95]⟩] M =
 ob (acall P T k lo F.plane_Whole [.agg ⟨[.int .i64 x1, .int .i64 x2, .slice A3 n4 c5, .int .i64 x6, .int .i64 x7, .slice A8 n9 c10, .int .i64 x11, .int .i64 x12, .slice A13 n14 c15]⟩] M) fun r101 =>
 ob ((some r101.1).bind (Value.int? .i64)) fun x102 =>
 bb (x102 != 0)
 (some (.ret (.tuple ⟨[.agg ⟨[.int .i64 0, .int .i64 0, .slice none 0 0, .int .i64 0, .int .i64 0, .slice none 0 0, .int .i64 0, .int .i64 0, .slice none 0 0]⟩, .int .i64 2]⟩) r101.2))
 (bb (Int.tmod x1 8 != 0)
 (some (.ret (.tuple ⟨[.agg ⟨[.int .i64 0, .int .i64 0, .slice none 0 0, .int .i64 0, .int .i64 0, .slice none 0 0, .int .i64 0, .int .i64 0, .slice none 0 0]⟩, .int .i64 2]⟩) r101.2))
 (bb (Int.tmod x2 8 != 0)
 (some (.ret (.tuple ⟨[.agg ⟨[.int .i64 0, .int .i64 0, .slice none 0 0, .int .i64 0, .int .i64 0, .slice none 0 0, .int .i64 0, .int .i64 0, .slice none 0 0]⟩, .int .i64 2]⟩) r101.2))
 (ob (acall P T k r101.2.length F.chain_copied [.agg ⟨[.int .i64 x1, .int .i64 x2, .slice A3 n4 c5, .int .i64 x6, .int .i64 x7, .slice A8 n9 c10, .int .i64 x11, .int .i64 x12, .slice A13 n14 c15]⟩] r101.2) fun r103 =>
 ob ((some r103.1).bind (Value.agg? 9)) fun l104 =>
 ob ((l104[0]?).bind (Value.int? .i64)) fun x105 =>
 ob ((l104[1]?).bind (Value.int? .i64)) fun x106 =>
 ob ((l104[2]?).bind Value.slc?) fun s107 =>
 ob ((l104[3]?).bind (Value.int? .i64)) fun x108 =>
 ob ((l104[4]?).bind (Value.int? .i64)) fun x109 =>
 ob ((l104[5]?).bind Value.slc?) fun s110 =>
 ob ((l104[6]?).bind (Value.int? .i64)) fun x111 =>
 ob ((l104[7]?).bind (Value.int? .i64)) fun x112 =>
 ob ((l104[8]?).bind Value.slc?) fun s113 =>
 ob (acall P T k lo F.quant_Lossless [.agg ⟨[.bool b16, .int .i64 x17, .bool b18, .bool b19, .int .i64 x20, .int .i64 x21, .int .i64 x22, .int .i64 x23, .int .i64 x24, .int .i64 x25, .int .i64 x26, .int .i64 x27, .int .i64 x28, .int .i64 x29, .int .i64 x30, .int .i64 x31, .int .i64 x32, .bool b33, .int .i64 x34, .int .i64 x35, .int .i64 x36, .int .i64 x37, .int .i64 x38, .bool b39, .int .i64 x40, .int .i64 x41, .slice A42 n43 c44, .bool b45, .bool b46, .bool b47]⟩] (r103.2 ++ [⟨.fx, [.int .i64 x105, .int .i64 x106, .slice s107.a s107.n s107.c, .int .i64 x108, .int .i64 x109, .slice s110.a s110.n s110.c, .int .i64 x111, .int .i64 x112, .slice s113.a s113.n s113.c, .int .i64 0, .int .i64 0, .slice none 0 0, .int .i64 0, .int .i64 0, .slice none 0 0, .int .i64 0, .int .i64 0, .slice none 0 0, .bool b16, .int .i64 x17, .bool b18, .bool b19, .int .i64 x20, .int .i64 x21, .int .i64 x22, .int .i64 x23, .int .i64 x24, .int .i64 x25, .int .i64 x26, .int .i64 x27, .int .i64 x28, .int .i64 x29, .int .i64 x30, .int .i64 x31, .int .i64 x32, .bool b33, .int .i64 x34, .int .i64 x35, .int .i64 x36, .int .i64 x37, .int .i64 x38, .bool b39, .int .i64 x40, .int .i64 x41, .slice A42 n43 c44, .bool b45, .bool b46, .bool b47, .int .i64 x48, .int .i64 x49, .slice A50 n51 c52, .slice A53 n54 c55, .slice A56 n57 c58, .int .i64 x59, .int .i64 x60, .slice A61 n62 c63, .slice A64 n65 c66, .slice A67 n68 c69, .int .i64 x70, .int .i64 x71, .slice A72 n73 c74, .slice A75 n76 c77, .slice A78 n79 c80, .slice A81 n82 c83, .slice A84 n85 c86, .slice A87 n88 c89, .slice A90 n91 c92, .slice A93 n94 c95]⟩] : Mem)) fun r114 =>
 ob ((some r114.1).bind Value.bool?) fun b115 =>
 bb b115
 (ob ((r114.2.ld ⟨r103.2.length, 0, none⟩).bind (Value.int? .i64)) fun x116 =>
 ob ((r114.2.ld (plus ⟨r103.2.length, 0, none⟩ 1)).bind (Value.int? .i64)) fun x117 =>
 ob ((r114.2.ld (plus ⟨r103.2.length, 0, none⟩ 2)).bind Value.slc?) fun s118 =>
 ob ((r114.2.ld (plus ⟨r103.2.length, 0, none⟩ 3)).bind (Value.int? .i64)) fun x119 =>
 ob ((r114.2.ld (plus ⟨r103.2.length, 0, none⟩ 4)).bind (Value.int? .i64)) fun x120 =>
 ob ((r114.2.ld (plus ⟨r103.2.length, 0, none⟩ 5)).bind Value.slc?) fun s121 =>
 ob ((r114.2.ld (plus ⟨r103.2.length, 0, none⟩ 6)).bind (Value.int? .i64)) fun x122 =>
 ob ((r114.2.ld (plus ⟨r103.2.length, 0, none⟩ 7)).bind (Value.int? .i64)) fun x123 =>
 ob ((r114.2.ld (plus ⟨r103.2.length, 0, none⟩ 8)).bind Value.slc?) fun s124 =>
 some (.ret (.tuple ⟨[.agg ⟨[.int .i64 x116, .int .i64 x117, .slice s118.a s118.n s118.c, .int .i64 x119, .int .i64 x120, .slice s121.a s121.n s121.c, .int .i64 x122, .int .i64 x123, .slice s124.a s124.n s124.c]⟩, .int .i64 0]⟩) r114.2))
 (some (chain_Run.c500 ⟨r103.2.length, 0, none⟩ (some ⟨r114.2.length, 0, none⟩) 3 3 3 0 0 0 none 0 0 0 0 none 0 0 0 0 none 0 0 (r114.2 ++ [⟨.fx, [.func (.func F.chain_run_passes) ⟨[.pointer (some ⟨r103.2.length, 0, none⟩)]⟩ ⟨[]⟩, .func (.func F.chain_run_directions) ⟨[.pointer (some ⟨r103.2.length, 0, none⟩)]⟩ ⟨[]⟩, .func (.func F.chain_run_restoration) ⟨[.pointer (some ⟨r103.2.length, 0, none⟩)]⟩ ⟨[]⟩]⟩] : Mem)))))) := by kernel_rfl
theorem chain_Run.p500 (k lo : Nat) (a1 : Addr) (A2 : Option Addr) (n3 : Nat) (c4 : Nat) (x5 : Int) (x6 : Int) (x7 : Int) (x8 : Int) (A9 : Option Addr) (n10 : Nat) (c11 : Nat) (x12 : Int) (x13 : Int) (A14 : Option Addr) (n15 : Nat) (c16 : Nat) (x17 : Int) (x18 : Int) (A19 : Option Addr) (n20 : Nat) (c21 : Nat) (M : Mem) : piece P T k lo F.chain_Run 500 [.l 6 0, .v (.pointer (some a1)), .v (.slice A2 n3 c4), .v (.int .i64 x5), .v (.int .i64 x6)] [[.int .i64 x7, .int .i64 x8, .slice A9 n10 c11, .int .i64 x12, .int .i64 x13, .slice A14 n15 c16, .int .i64 x17, .int .i64 x18, .slice A19 n20 c21]] M =
 bb (decide (x6 < x5))
 (pb (0 ≤ x6 ∧ x6 < (n3 : Int))
 (ob A2 fun a125 =>
 ob ((M.ld (plus a125 x6.toNat)).bind Value.one?) fun v126 =>
 ob (Value.fun? v126) fun q128 =>
 ob (acall P T k lo q128.1 (q128.2.1 ++ [] ++ q128.2.2) M) fun r127 =>
 ob ((some r127.1).bind (Value.int? .i64)) fun x129 =>
 bb (x129 != 0)
 (some (.ret (.tuple ⟨[.agg ⟨[.int .i64 0, .int .i64 0, .slice none 0 0, .int .i64 0, .int .i64 0, .slice none 0 0, .int .i64 0, .int .i64 0, .slice none 0 0]⟩, .int .i64 2]⟩) r127.2))
 (some (chain_Run.c500 a1 A2 n3 c4 x5 (IntKind.i64.wrap (x6 + 1)) x7 x8 A9 n10 c11 x12 x13 A14 n15 c16 x17 x18 A19 n20 c21 r127.2))) none)
 (ob ((M.ld a1).bind (Value.int? .i64)) fun x130 =>
 ob ((M.ld (plus a1 1)).bind (Value.int? .i64)) fun x131 =>
 ob ((M.ld (plus a1 2)).bind Value.slc?) fun s132 =>
 ob ((M.ld (plus a1 3)).bind (Value.int? .i64)) fun x133 =>
 ob ((M.ld (plus a1 4)).bind (Value.int? .i64)) fun x134 =>
 ob ((M.ld (plus a1 5)).bind Value.slc?) fun s135 =>
 ob ((M.ld (plus a1 6)).bind (Value.int? .i64)) fun x136 =>
 ob ((M.ld (plus a1 7)).bind (Value.int? .i64)) fun x137 =>
 ob ((M.ld (plus a1 8)).bind Value.slc?) fun s138 =>
 some (.ret (.tuple ⟨[.agg ⟨[.int .i64 x130, .int .i64 x131, .slice s132.a s132.n s132.c, .int .i64 x133, .int .i64 x134, .slice s135.a s135.n s135.c, .int .i64 x136, .int .i64 x137, .slice s138.a s138.n s138.c]⟩, .int .i64 0]⟩) M)) := by kernel_rfl
theorem plane_Whole.entry (k lo : Nat) (x1 : Int) (x2 : Int) (A3 : Option Addr) (n4 : Nat) (c5 : Nat) (x6 : Int) (x7 : Int) (A8 : Option Addr) (n9 : Nat) (c10 : Nat) (x11 : Int) (x12 : Int) (A13 : Option Addr) (n14 : Nat) (c15 : Nat) (M : Mem) : entry P T k lo F.plane_Whole [.agg ⟨[.int .i64 x1, .int .i64 x2, .slice A3 n4 c5, .int .i64 x6, .int .i64 x7, .slice A8 n9 c10, .int .i64 x11, .int .i64 x12, .slice A13 n14 c15]⟩] M =
 some (plane_Whole.c116 x1 x2 x1 x2 A3 n4 c5 x6 x7 A8 n9 c10 x11 x12 A13 n14 c15 0 M) := by kernel_rfl
theorem plane_Whole.p116 (k lo : Nat) (x1 : Int) (x2 : Int) (x3 : Int) (x4 : Int) (A5 : Option Addr) (n6 : Nat) (c7 : Nat) (x8 : Int) (x9 : Int) (A10 : Option Addr) (n11 : Nat) (c12 : Nat) (x13 : Int) (x14 : Int) (A15 : Option Addr) (n16 : Nat) (c17 : Nat) (x18 : Int) (M : Mem) : piece P T k lo F.plane_Whole 116 [.v (.int .i64 x1), .v (.int .i64 x2), .v (.agg ⟨[.int .i64 x3, .int .i64 x4, .slice A5 n6 c7, .int .i64 x8, .int .i64 x9, .slice A10 n11 c12, .int .i64 x13, .int .i64 x14, .slice A15 n16 c17]⟩), .v (.int .i64 x18)] [] M =
 bb (decide (x18 < 3))
 (pb (0 ≤ x18 ∧ x18 < (3 : Int))
 (ob ((([.int .i64 x3, .int .i64 x4, .slice A5 n6 c7, .int .i64 x8, .int .i64 x9, .slice A10 n11 c12, .int .i64 x13, .int .i64 x14, .slice A15 n16 c17] : List Value)[x18.toNat * 3 + 0]?).bind (Value.int? .i64)) fun x21 =>
 ob ((([.int .i64 x3, .int .i64 x4, .slice A5 n6 c7, .int .i64 x8, .int .i64 x9, .slice A10 n11 c12, .int .i64 x13, .int .i64 x14, .slice A15 n16 c17] : List Value)[x18.toNat * 3 + 1]?).bind (Value.int? .i64)) fun x22 =>
 ob ((([.int .i64 x3, .int .i64 x4, .slice A5 n6 c7, .int .i64 x8, .int .i64 x9, .slice A10 n11 c12, .int .i64 x13, .int .i64 x14, .slice A15 n16 c17] : List Value)[x18.toNat * 3 + 2]?).bind Value.slc?) fun s23 =>
 ob (acall P T k lo F.plane_Check [.agg ⟨[.int .i64 x21, .int .i64 x22, .slice s23.a s23.n s23.c]⟩] M) fun r24 =>
 ob ((some r24.1).bind (Value.int? .i64)) fun x25 =>
 bb (x25 != 0)
 (some (.ret (.int .i64 2) r24.2))
 (ob (acall P T k lo F.plane_sides [.int .i64 x1, .int .i64 x2] r24.2) fun r26 =>
 ob ((some r26.1).bind Value.bool?) fun b27 =>
 bb (!b27)
 (some (.ret (.int .i64 2) r26.2))
 (pb ((minI x18 1) < 0) none
 (bb (x21 != shrI .i64 x1 ((minI x18 1).toNat))
 (some (.ret (.int .i64 2) r26.2))
 (pb ((minI x18 1) < 0) none
 (bb (x22 != shrI .i64 x2 ((minI x18 1).toNat))
 (some (.ret (.int .i64 2) r26.2))
 (some (plane_Whole.c116 x1 x2 x3 x4 A5 n6 c7 x8 x9 A10 n11 c12 x13 x14 A15 n16 c17 (IntKind.i64.wrap (x18 + 1)) r26.2)))))))) none)
 (some (.ret (.int .i64 0) M)) := by kernel_rfl
theorem quant_Lossless.entry (k lo : Nat) (b1 : Bool) (x2 : Int) (b3 : Bool) (b4 : Bool) (x5 : Int) (x6 : Int) (x7 : Int) (x8 : Int) (x9 : Int) (x10 : Int) (x11 : Int) (x12 : Int) (x13 : Int) (x14 : Int) (x15 : Int) (x16 : Int) (x17 : Int) (b18 : Bool) (x19 : Int) (x20 : Int) (x21 : Int) (x22 : Int) (x23 : Int) (b24 : Bool) (x25 : Int) (x26 : Int) (A27 : Option Addr) (n28 : Nat) (c29 : Nat) (b30 : Bool) (b31 : Bool) (b32 : Bool) (M : Mem) : entry P T k lo F.quant_Lossless [.agg ⟨[.bool b1, .int .i64 x2, .bool b3, .bool b4, .int .i64 x5, .int .i64 x6, .int .i64 x7, .int .i64 x8, .int .i64 x9, .int .i64 x10, .int .i64 x11, .int .i64 x12, .int .i64 x13, .int .i64 x14, .int .i64 x15, .int .i64 x16, .int .i64 x17, .bool b18, .int .i64 x19, .int .i64 x20, .int .i64 x21, .int .i64 x22, .int .i64 x23, .bool b24, .int .i64 x25, .int .i64 x26, .slice A27 n28 c29, .bool b30, .bool b31, .bool b32]⟩] M =
 bb (x10 == 0)
 (ob (Program.keyLits P 9 29 [.int .i64 x11, .int .i64 x12, .int .i64 x13, .int .i64 x14, .int .i64 x15]) fun q38 => ob (Program.keyLits P 9 29 [.int .i64 0, .int .i64 0, .int .i64 0, .int .i64 0, .int .i64 0]) fun q39 =>
 some (.ret (.bool (sameLits q38 q39)) M))
 (some (.ret (.bool false) M)) := by kernel_rfl
theorem zoetropelaw25_same.entry (k lo : Nat) (x1 : Int) (x2 : Int) (A3 : Option Addr) (n4 : Nat) (c5 : Nat) (x6 : Int) (x7 : Int) (A8 : Option Addr) (n9 : Nat) (c10 : Nat) (x11 : Int) (x12 : Int) (A13 : Option Addr) (n14 : Nat) (c15 : Nat) (x16 : Int) (x17 : Int) (A18 : Option Addr) (n19 : Nat) (c20 : Nat) (x21 : Int) (x22 : Int) (A23 : Option Addr) (n24 : Nat) (c25 : Nat) (x26 : Int) (x27 : Int) (A28 : Option Addr) (n29 : Nat) (c30 : Nat) (M : Mem) : entry P T k lo F.zoetropelaw25_same [.agg ⟨[.int .i64 x1, .int .i64 x2, .slice A3 n4 c5, .int .i64 x6, .int .i64 x7, .slice A8 n9 c10, .int .i64 x11, .int .i64 x12, .slice A13 n14 c15]⟩, .agg ⟨[.int .i64 x16, .int .i64 x17, .slice A18 n19 c20, .int .i64 x21, .int .i64 x22, .slice A23 n24 c25, .int .i64 x26, .int .i64 x27, .slice A28 n29 c30]⟩] M =
 ob (acall P T k lo F.plane_Same [.agg ⟨[.int .i64 x1, .int .i64 x2, .slice A3 n4 c5]⟩, .agg ⟨[.int .i64 x16, .int .i64 x17, .slice A18 n19 c20]⟩] M) fun r36 =>
 ob ((some r36.1).bind Value.bool?) fun b37 =>
 bb b37
 (ob (acall P T k lo F.plane_Same [.agg ⟨[.int .i64 x6, .int .i64 x7, .slice A8 n9 c10]⟩, .agg ⟨[.int .i64 x21, .int .i64 x22, .slice A23 n24 c25]⟩] r36.2) fun r38 =>
 ob ((some r38.1).bind Value.bool?) fun b39 =>
 bb b39
 (ob (acall P T k lo F.plane_Same [.agg ⟨[.int .i64 x11, .int .i64 x12, .slice A13 n14 c15]⟩, .agg ⟨[.int .i64 x26, .int .i64 x27, .slice A28 n29 c30]⟩] r38.2) fun r40 =>
 ob ((some r40.1).bind Value.bool?) fun b41 =>
 some (.ret (.bool b41) r40.2))
 (some (.ret (.bool false) r38.2)))
 (some (.ret (.bool false) r36.2)) := by kernel_rfl
end Go.Zt
