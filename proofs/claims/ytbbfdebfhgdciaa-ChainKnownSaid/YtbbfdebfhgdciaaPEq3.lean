/- What the law ChainKnown needs of the text Eq3. -/
import Derived.Test.YtbbfdebfhgdciaaPEq0
import Derived.KernelRfl
set_option maxRecDepth 100000
set_option maxHeartbeats 4000000
set_option linter.unusedVariables false
namespace Go.Zt
theorem cdef_Frame.entry (k lo : Nat) (x1 : Int) (x2 : Int) (A3 : Option Addr) (n4 : Nat) (c5 : Nat) (x6 : Int) (x7 : Int) (A8 : Option Addr) (n9 : Nat) (c10 : Nat) (x11 : Int) (x12 : Int) (A13 : Option Addr) (n14 : Nat) (c15 : Nat) (A16 : Option Addr) (n17 : Nat) (c18 : Nat) (A19 : Option Addr) (n20 : Nat) (c21 : Nat) (b22 : Bool) (x23 : Int) (b24 : Bool) (b25 : Bool) (x26 : Int) (x27 : Int) (x28 : Int) (x29 : Int) (x30 : Int) (x31 : Int) (x32 : Int) (x33 : Int) (x34 : Int) (x35 : Int) (x36 : Int) (x37 : Int) (x38 : Int) (b39 : Bool) (x40 : Int) (x41 : Int) (x42 : Int) (x43 : Int) (x44 : Int) (b45 : Bool) (x46 : Int) (x47 : Int) (A48 : Option Addr) (n49 : Nat) (c50 : Nat) (b51 : Bool) (b52 : Bool) (b53 : Bool) (M : Mem) : entry P T k lo F.cdef_Frame [.agg ⟨[.int .i64 x1, .int .i64 x2, .slice A3 n4 c5, .int .i64 x6, .int .i64 x7, .slice A8 n9 c10, .int .i64 x11, .int .i64 x12, .slice A13 n14 c15]⟩, .slice A16 n17 c18, .slice A19 n20 c21, .agg ⟨[.bool b22, .int .i64 x23, .bool b24, .bool b25, .int .i64 x26, .int .i64 x27, .int .i64 x28, .int .i64 x29, .int .i64 x30, .int .i64 x31, .int .i64 x32, .int .i64 x33, .int .i64 x34, .int .i64 x35, .int .i64 x36, .int .i64 x37, .int .i64 x38, .bool b39, .int .i64 x40, .int .i64 x41, .int .i64 x42, .int .i64 x43, .int .i64 x44, .bool b45, .int .i64 x46, .int .i64 x47, .slice A48 n49 c50, .bool b51, .bool b52, .bool b53]⟩] M =
 ob (acall P T k lo F.cdef_may [.agg ⟨[.int .i64 x1, .int .i64 x2, .slice A3 n4 c5, .int .i64 x6, .int .i64 x7, .slice A8 n9 c10, .int .i64 x11, .int .i64 x12, .slice A13 n14 c15]⟩, .slice A16 n17 c18, .slice A19 n20 c21, .agg ⟨[.bool b22, .int .i64 x23, .bool b24, .bool b25, .int .i64 x26, .int .i64 x27, .int .i64 x28, .int .i64 x29, .int .i64 x30, .int .i64 x31, .int .i64 x32, .int .i64 x33, .int .i64 x34, .int .i64 x35, .int .i64 x36, .int .i64 x37, .int .i64 x38, .bool b39, .int .i64 x40, .int .i64 x41, .int .i64 x42, .int .i64 x43, .int .i64 x44, .bool b45, .int .i64 x46, .int .i64 x47, .slice A48 n49 c50, .bool b51, .bool b52, .bool b53]⟩] M) fun r59 =>
 ob ((some r59.1).bind Value.bool?) fun b60 =>
 bb (!b60)
 (some (.ret (.tuple ⟨[.agg ⟨[.int .i64 0, .int .i64 0, .slice none 0 0, .int .i64 0, .int .i64 0, .slice none 0 0, .int .i64 0, .int .i64 0, .slice none 0 0]⟩, .int .i64 2]⟩) r59.2))
 (some (cdef_Frame.c244 A16 n17 c18 A19 n20 c21 0 x1 x2 A3 n4 c5 x6 x7 A8 n9 c10 x11 x12 A13 n14 c15 b22 x23 b24 b25 x26 x27 x28 x29 x30 x31 x32 x33 x34 x35 x36 x37 x38 b39 x40 x41 x42 x43 x44 b45 x46 x47 A48 n49 c50 b51 b52 b53 0 0 none 0 0 0 0 none 0 0 0 0 none 0 0 ([.int .i64 x1, .int .i64 x2, .slice A3 n4 c5, .int .i64 x6, .int .i64 x7, .slice A8 n9 c10, .int .i64 x11, .int .i64 x12, .slice A13 n14 c15]) r59.2)) := by kernel_rfl
theorem cdef_Frame.p244 (k lo : Nat) (A1 : Option Addr) (n2 : Nat) (c3 : Nat) (A4 : Option Addr) (n5 : Nat) (c6 : Nat) (x7 : Int) (x8 : Int) (x9 : Int) (A10 : Option Addr) (n11 : Nat) (c12 : Nat) (x13 : Int) (x14 : Int) (A15 : Option Addr) (n16 : Nat) (c17 : Nat) (x18 : Int) (x19 : Int) (A20 : Option Addr) (n21 : Nat) (c22 : Nat) (b23 : Bool) (x24 : Int) (b25 : Bool) (b26 : Bool) (x27 : Int) (x28 : Int) (x29 : Int) (x30 : Int) (x31 : Int) (x32 : Int) (x33 : Int) (x34 : Int) (x35 : Int) (x36 : Int) (x37 : Int) (x38 : Int) (x39 : Int) (b40 : Bool) (x41 : Int) (x42 : Int) (x43 : Int) (x44 : Int) (x45 : Int) (b46 : Bool) (x47 : Int) (x48 : Int) (A49 : Option Addr) (n50 : Nat) (c51 : Nat) (b52 : Bool) (b53 : Bool) (b54 : Bool) (x55 : Int) (x56 : Int) (A57 : Option Addr) (n58 : Nat) (c59 : Nat) (x60 : Int) (x61 : Int) (A62 : Option Addr) (n63 : Nat) (c64 : Nat) (x65 : Int) (x66 : Int) (A67 : Option Addr) (n68 : Nat) (c69 : Nat) (cs70 : List Value) (M : Mem) : piece P T k lo F.cdef_Frame 244 [.v (.slice A1 n2 c3), .v (.slice A4 n5 c6), .l 4 0, .l 7 0, .l 8 0, .l 10 0, .v (.int .i64 x7)] [[.int .i64 x8, .int .i64 x9, .slice A10 n11 c12, .int .i64 x13, .int .i64 x14, .slice A15 n16 c17, .int .i64 x18, .int .i64 x19, .slice A20 n21 c22], [.bool b23, .int .i64 x24, .bool b25, .bool b26, .int .i64 x27, .int .i64 x28, .int .i64 x29, .int .i64 x30, .int .i64 x31, .int .i64 x32, .int .i64 x33, .int .i64 x34, .int .i64 x35, .int .i64 x36, .int .i64 x37, .int .i64 x38, .int .i64 x39, .bool b40, .int .i64 x41, .int .i64 x42, .int .i64 x43, .int .i64 x44, .int .i64 x45, .bool b46, .int .i64 x47, .int .i64 x48, .slice A49 n50 c51, .bool b52, .bool b53, .bool b54], [.int .i64 x55, .int .i64 x56, .slice A57 n58 c59, .int .i64 x60, .int .i64 x61, .slice A62 n63 c64, .int .i64 x65, .int .i64 x66, .slice A67 n68 c69], cs70] M =
 bb (decide (x7 < 3))
 (pb (0 ≤ x7 ∧ x7 < (3 : Int))
 (ob ((([.int .i64 x8, .int .i64 x9, .slice A10 n11 c12, .int .i64 x13, .int .i64 x14, .slice A15 n16 c17, .int .i64 x18, .int .i64 x19, .slice A20 n21 c22] : List Value)[0 + (x7.toNat * 3) + 2 + 0]?).bind Value.slc?) fun s71 =>
 ob (acall P T k lo F.slices_Clone__uint8_uint8 [.slice s71.a s71.n s71.c] M) fun r72 =>
 ob ((some r72.1).bind Value.slc?) fun s73 =>
 pb (0 ≤ x7 ∧ x7 < (3 : Int))
 (pb (0 + (x7.toNat * 3) + 2 + 1 ≤ cs70.length)
 (some (cdef_Frame.c244 A1 n2 c3 A4 n5 c6 (IntKind.i64.wrap (x7 + 1)) x8 x9 A10 n11 c12 x13 x14 A15 n16 c17 x18 x19 A20 n21 c22 b23 x24 b25 b26 x27 x28 x29 x30 x31 x32 x33 x34 x35 x36 x37 x38 x39 b40 x41 x42 x43 x44 x45 b46 x47 x48 A49 n50 c51 b52 b53 b54 x55 x56 A57 n58 c59 x60 x61 A62 n63 c64 x65 x66 A67 n68 c69 (setL cs70 (0 + (x7.toNat * 3) + 2) [.slice s73.a s73.n s73.c]) r72.2)) none) none) none)
 (bb (!b46)
 (ob ((cs70[0]?).bind (Value.int? .i64)) fun x74 =>
 ob ((cs70[1]?).bind (Value.int? .i64)) fun x75 =>
 ob ((cs70[2]?).bind Value.slc?) fun s76 =>
 ob ((cs70[3]?).bind (Value.int? .i64)) fun x77 =>
 ob ((cs70[4]?).bind (Value.int? .i64)) fun x78 =>
 ob ((cs70[5]?).bind Value.slc?) fun s79 =>
 ob ((cs70[6]?).bind (Value.int? .i64)) fun x80 =>
 ob ((cs70[7]?).bind (Value.int? .i64)) fun x81 =>
 ob ((cs70[8]?).bind Value.slc?) fun s82 =>
 some (.ret (.tuple ⟨[.agg ⟨[.int .i64 x74, .int .i64 x75, .slice s76.a s76.n s76.c, .int .i64 x77, .int .i64 x78, .slice s79.a s79.n s79.c, .int .i64 x80, .int .i64 x81, .slice s82.a s82.n s82.c]⟩, .int .i64 0]⟩) M))
 (some (cdef_Frame.c2036 A4 n5 c6 (IntKind.i64.wrap (Int.tdiv x8 8)) A1 n2 c3 (n2 : Int) 0 x8 x9 A10 n11 c12 x13 x14 A15 n16 c17 x18 x19 A20 n21 c22 b23 x24 b25 b26 x27 x28 x29 x30 x31 x32 x33 x34 x35 x36 x37 x38 x39 b40 x41 x42 x43 x44 x45 b46 x47 x48 A49 n50 c51 b52 b53 b54 x55 x56 A57 n58 c59 x60 x61 A62 n63 c64 x65 x66 A67 n68 c69 cs70 M))) := by kernel_rfl
theorem cdef_Frame.p2036 (k lo : Nat) (A1 : Option Addr) (n2 : Nat) (c3 : Nat) (x4 : Int) (A5 : Option Addr) (n6 : Nat) (c7 : Nat) (x8 : Int) (x9 : Int) (x10 : Int) (x11 : Int) (A12 : Option Addr) (n13 : Nat) (c14 : Nat) (x15 : Int) (x16 : Int) (A17 : Option Addr) (n18 : Nat) (c19 : Nat) (x20 : Int) (x21 : Int) (A22 : Option Addr) (n23 : Nat) (c24 : Nat) (b25 : Bool) (x26 : Int) (b27 : Bool) (b28 : Bool) (x29 : Int) (x30 : Int) (x31 : Int) (x32 : Int) (x33 : Int) (x34 : Int) (x35 : Int) (x36 : Int) (x37 : Int) (x38 : Int) (x39 : Int) (x40 : Int) (x41 : Int) (b42 : Bool) (x43 : Int) (x44 : Int) (x45 : Int) (x46 : Int) (x47 : Int) (b48 : Bool) (x49 : Int) (x50 : Int) (A51 : Option Addr) (n52 : Nat) (c53 : Nat) (b54 : Bool) (b55 : Bool) (b56 : Bool) (x57 : Int) (x58 : Int) (A59 : Option Addr) (n60 : Nat) (c61 : Nat) (x62 : Int) (x63 : Int) (A64 : Option Addr) (n65 : Nat) (c66 : Nat) (x67 : Int) (x68 : Int) (A69 : Option Addr) (n70 : Nat) (c71 : Nat) (cs72 : List Value) (M : Mem) : piece P T k lo F.cdef_Frame 2036 [.v (.slice A1 n2 c3), .l 4 0, .l 7 0, .l 8 0, .l 10 0, .v (.int .i64 x4), .v (.slice A5 n6 c7), .v (.int .i64 x8), .v (.int .i64 x9)] [[.int .i64 x10, .int .i64 x11, .slice A12 n13 c14, .int .i64 x15, .int .i64 x16, .slice A17 n18 c19, .int .i64 x20, .int .i64 x21, .slice A22 n23 c24], [.bool b25, .int .i64 x26, .bool b27, .bool b28, .int .i64 x29, .int .i64 x30, .int .i64 x31, .int .i64 x32, .int .i64 x33, .int .i64 x34, .int .i64 x35, .int .i64 x36, .int .i64 x37, .int .i64 x38, .int .i64 x39, .int .i64 x40, .int .i64 x41, .bool b42, .int .i64 x43, .int .i64 x44, .int .i64 x45, .int .i64 x46, .int .i64 x47, .bool b48, .int .i64 x49, .int .i64 x50, .slice A51 n52 c53, .bool b54, .bool b55, .bool b56], [.int .i64 x57, .int .i64 x58, .slice A59 n60 c61, .int .i64 x62, .int .i64 x63, .slice A64 n65 c66, .int .i64 x67, .int .i64 x68, .slice A69 n70 c71], cs72] M =
 bb (decide (x9 < x8))
 (pb (0 ≤ x9 ∧ x9 < (n6 : Int))
 (ob A5 fun a83 =>
 ob ((M.ld (plus a83 x9.toNat)).bind Value.bool?) fun b84 =>
 bb b84
 (some (cdef_Frame.c16295 A1 n2 c3 x4 A5 n6 c7 x8 x9 x10 x11 A12 n13 c14 x15 x16 A17 n18 c19 x20 x21 A22 n23 c24 b25 x26 b27 b28 x29 x30 x31 x32 x33 x34 x35 x36 x37 x38 x39 x40 x41 b42 x43 x44 x45 x46 x47 b48 x49 x50 A51 n52 c53 b54 b55 b56 x57 x58 A59 n60 c61 x62 x63 A64 n65 c66 x67 x68 A69 n70 c71 cs72 M))
 (pb (x4 = 0) none
 (pb (x4 = 0) none
 (pb (0 ≤ IntKind.i64.wrap ((IntKind.i64.wrap ((IntKind.i64.wrap (Int.tdiv (IntKind.i64.wrap (8 * (IntKind.i64.wrap (Int.tdiv x9 x4)))) 64)) * (IntKind.i64.wrap (Int.tdiv (IntKind.i64.wrap ((IntKind.i64.wrap (x10 + 64)) - 1)) 64)))) + (IntKind.i64.wrap (Int.tdiv (IntKind.i64.wrap (8 * (Int.tmod x9 x4))) 64))) ∧ IntKind.i64.wrap ((IntKind.i64.wrap ((IntKind.i64.wrap (Int.tdiv (IntKind.i64.wrap (8 * (IntKind.i64.wrap (Int.tdiv x9 x4)))) 64)) * (IntKind.i64.wrap (Int.tdiv (IntKind.i64.wrap ((IntKind.i64.wrap (x10 + 64)) - 1)) 64)))) + (IntKind.i64.wrap (Int.tdiv (IntKind.i64.wrap (8 * (Int.tmod x9 x4))) 64))) < (n2 : Int))
 (ob A1 fun a85 =>
 ob ((M.ld (plus a85 ((IntKind.i64.wrap ((IntKind.i64.wrap ((IntKind.i64.wrap (Int.tdiv (IntKind.i64.wrap (8 * (IntKind.i64.wrap (Int.tdiv x9 x4)))) 64)) * (IntKind.i64.wrap (Int.tdiv (IntKind.i64.wrap ((IntKind.i64.wrap (x10 + 64)) - 1)) 64)))) + (IntKind.i64.wrap (Int.tdiv (IntKind.i64.wrap (8 * (Int.tmod x9 x4))) 64)))).toNat))).bind (Value.int? .i64)) fun x86 =>
 pb (0 ≤ x86 ∧ x86 < (n52 : Int))
 (ob A51 fun a87 =>
 ob ((M.ld (plus a87 (x86.toNat * 4))).bind (Value.int? .i64)) fun x88 =>
 ob ((M.ld (plus (plus a87 (x86.toNat * 4)) 1)).bind (Value.int? .i64)) fun x89 =>
 ob ((M.ld (plus (plus a87 (x86.toNat * 4)) 2)).bind (Value.int? .i64)) fun x90 =>
 ob ((M.ld (plus (plus a87 (x86.toNat * 4)) 3)).bind (Value.int? .i64)) fun x91 =>
 ob (acall P T k lo F.plane_Cut [.agg ⟨[.int .i64 x10, .int .i64 x11, .slice A12 n13 c14]⟩, .agg ⟨[.int .i64 (IntKind.i64.wrap (8 * (Int.tmod x9 x4))), .int .i64 (IntKind.i64.wrap (8 * (IntKind.i64.wrap (Int.tdiv x9 x4)))), .int .i64 8, .int .i64 8]⟩] M) fun r92 =>
 ob (r92.1.tup? 2) fun l93 =>
 ob ((l93[0]?).bind Value.slc?) fun s94 =>
 ob ((l93[1]?).bind (Value.int? .i64)) fun x95 =>
 bb (x95 != 0)
 (some (.ret (.tuple ⟨[.agg ⟨[.int .i64 0, .int .i64 0, .slice none 0 0, .int .i64 0, .int .i64 0, .slice none 0 0, .int .i64 0, .int .i64 0, .slice none 0 0]⟩, .int .i64 x95]⟩) r92.2))
 (ob (acall P T k lo F.cdef_Direction [.slice s94.a s94.n s94.c] r92.2) fun r96 =>
 ob (r96.1.tup? 3) fun l97 =>
 ob ((l97[0]?).bind (Value.int? .i64)) fun x98 =>
 ob ((l97[1]?).bind (Value.int? .i64)) fun x99 =>
 ob ((l97[2]?).bind (Value.int? .i64)) fun x100 =>
 some (cdef_Frame.c33371132 A1 n2 c3 x4 (IntKind.i64.wrap (8 * (Int.tmod x9 x4))) (IntKind.i64.wrap (8 * (IntKind.i64.wrap (Int.tdiv x9 x4)))) x98 x99 A5 n6 c7 x8 x9 0 x10 x11 A12 n13 c14 x15 x16 A17 n18 c19 x20 x21 A22 n23 c24 b25 x26 b27 b28 x29 x30 x31 x32 x33 x34 x35 x36 x37 x38 x39 x40 x41 b42 x43 x44 x45 x46 x47 b48 x49 x50 A51 n52 c53 b54 b55 b56 x57 x58 A59 n60 c61 x62 x63 A64 n65 c66 x67 x68 A69 n70 c71 cs72 x88 x89 x90 x91 r96.2))) none) none)))) none)
 (ob ((cs72[0]?).bind (Value.int? .i64)) fun x101 =>
 ob ((cs72[1]?).bind (Value.int? .i64)) fun x102 =>
 ob ((cs72[2]?).bind Value.slc?) fun s103 =>
 ob ((cs72[3]?).bind (Value.int? .i64)) fun x104 =>
 ob ((cs72[4]?).bind (Value.int? .i64)) fun x105 =>
 ob ((cs72[5]?).bind Value.slc?) fun s106 =>
 ob ((cs72[6]?).bind (Value.int? .i64)) fun x107 =>
 ob ((cs72[7]?).bind (Value.int? .i64)) fun x108 =>
 ob ((cs72[8]?).bind Value.slc?) fun s109 =>
 some (.ret (.tuple ⟨[.agg ⟨[.int .i64 x101, .int .i64 x102, .slice s103.a s103.n s103.c, .int .i64 x104, .int .i64 x105, .slice s106.a s106.n s106.c, .int .i64 x107, .int .i64 x108, .slice s109.a s109.n s109.c]⟩, .int .i64 0]⟩) M)) := by kernel_rfl
theorem cdef_Frame.p16295 (k lo : Nat) (A1 : Option Addr) (n2 : Nat) (c3 : Nat) (x4 : Int) (A5 : Option Addr) (n6 : Nat) (c7 : Nat) (x8 : Int) (x9 : Int) (x10 : Int) (x11 : Int) (A12 : Option Addr) (n13 : Nat) (c14 : Nat) (x15 : Int) (x16 : Int) (A17 : Option Addr) (n18 : Nat) (c19 : Nat) (x20 : Int) (x21 : Int) (A22 : Option Addr) (n23 : Nat) (c24 : Nat) (b25 : Bool) (x26 : Int) (b27 : Bool) (b28 : Bool) (x29 : Int) (x30 : Int) (x31 : Int) (x32 : Int) (x33 : Int) (x34 : Int) (x35 : Int) (x36 : Int) (x37 : Int) (x38 : Int) (x39 : Int) (x40 : Int) (x41 : Int) (b42 : Bool) (x43 : Int) (x44 : Int) (x45 : Int) (x46 : Int) (x47 : Int) (b48 : Bool) (x49 : Int) (x50 : Int) (A51 : Option Addr) (n52 : Nat) (c53 : Nat) (b54 : Bool) (b55 : Bool) (b56 : Bool) (x57 : Int) (x58 : Int) (A59 : Option Addr) (n60 : Nat) (c61 : Nat) (x62 : Int) (x63 : Int) (A64 : Option Addr) (n65 : Nat) (c66 : Nat) (x67 : Int) (x68 : Int) (A69 : Option Addr) (n70 : Nat) (c71 : Nat) (cs72 : List Value) (M : Mem) : piece P T k lo F.cdef_Frame 16295 [.v (.slice A1 n2 c3), .l 4 0, .l 7 0, .l 8 0, .l 10 0, .v (.int .i64 x4), .v (.slice A5 n6 c7), .v (.int .i64 x8), .v (.int .i64 x9)] [[.int .i64 x10, .int .i64 x11, .slice A12 n13 c14, .int .i64 x15, .int .i64 x16, .slice A17 n18 c19, .int .i64 x20, .int .i64 x21, .slice A22 n23 c24], [.bool b25, .int .i64 x26, .bool b27, .bool b28, .int .i64 x29, .int .i64 x30, .int .i64 x31, .int .i64 x32, .int .i64 x33, .int .i64 x34, .int .i64 x35, .int .i64 x36, .int .i64 x37, .int .i64 x38, .int .i64 x39, .int .i64 x40, .int .i64 x41, .bool b42, .int .i64 x43, .int .i64 x44, .int .i64 x45, .int .i64 x46, .int .i64 x47, .bool b48, .int .i64 x49, .int .i64 x50, .slice A51 n52 c53, .bool b54, .bool b55, .bool b56], [.int .i64 x57, .int .i64 x58, .slice A59 n60 c61, .int .i64 x62, .int .i64 x63, .slice A64 n65 c66, .int .i64 x67, .int .i64 x68, .slice A69 n70 c71], cs72] M =
 some (cdef_Frame.c2036 A1 n2 c3 x4 A5 n6 c7 x8 (IntKind.i64.wrap (x9 + 1)) x10 x11 A12 n13 c14 x15 x16 A17 n18 c19 x20 x21 A22 n23 c24 b25 x26 b27 b28 x29 x30 x31 x32 x33 x34 x35 x36 x37 x38 x39 x40 x41 b42 x43 x44 x45 x46 x47 b48 x49 x50 A51 n52 c53 b54 b55 b56 x57 x58 A59 n60 c61 x62 x63 A64 n65 c66 x67 x68 A69 n70 c71 cs72 M) := by kernel_rfl
theorem cdef_Frame.p33371132 (k lo : Nat) (A1 : Option Addr) (n2 : Nat) (c3 : Nat) (x4 : Int) (x5 : Int) (x6 : Int) (x7 : Int) (x8 : Int) (A9 : Option Addr) (n10 : Nat) (c11 : Nat) (x12 : Int) (x13 : Int) (x14 : Int) (x15 : Int) (x16 : Int) (A17 : Option Addr) (n18 : Nat) (c19 : Nat) (x20 : Int) (x21 : Int) (A22 : Option Addr) (n23 : Nat) (c24 : Nat) (x25 : Int) (x26 : Int) (A27 : Option Addr) (n28 : Nat) (c29 : Nat) (b30 : Bool) (x31 : Int) (b32 : Bool) (b33 : Bool) (x34 : Int) (x35 : Int) (x36 : Int) (x37 : Int) (x38 : Int) (x39 : Int) (x40 : Int) (x41 : Int) (x42 : Int) (x43 : Int) (x44 : Int) (x45 : Int) (x46 : Int) (b47 : Bool) (x48 : Int) (x49 : Int) (x50 : Int) (x51 : Int) (x52 : Int) (b53 : Bool) (x54 : Int) (x55 : Int) (A56 : Option Addr) (n57 : Nat) (c58 : Nat) (b59 : Bool) (b60 : Bool) (b61 : Bool) (x62 : Int) (x63 : Int) (A64 : Option Addr) (n65 : Nat) (c66 : Nat) (x67 : Int) (x68 : Int) (A69 : Option Addr) (n70 : Nat) (c71 : Nat) (x72 : Int) (x73 : Int) (A74 : Option Addr) (n75 : Nat) (c76 : Nat) (cs77 : List Value) (x78 : Int) (x79 : Int) (x80 : Int) (x81 : Int) (M : Mem) : piece P T k lo F.cdef_Frame 33371132 [.v (.slice A1 n2 c3), .l 4 0, .l 7 0, .l 8 0, .l 10 0, .v (.int .i64 x4), .v (.int .i64 x5), .v (.int .i64 x6), .l 17 0, .v (.int .i64 x7), .v (.int .i64 x8), .v (.slice A9 n10 c11), .v (.int .i64 x12), .v (.int .i64 x13), .v (.int .i64 x14)] [[.int .i64 x15, .int .i64 x16, .slice A17 n18 c19, .int .i64 x20, .int .i64 x21, .slice A22 n23 c24, .int .i64 x25, .int .i64 x26, .slice A27 n28 c29], [.bool b30, .int .i64 x31, .bool b32, .bool b33, .int .i64 x34, .int .i64 x35, .int .i64 x36, .int .i64 x37, .int .i64 x38, .int .i64 x39, .int .i64 x40, .int .i64 x41, .int .i64 x42, .int .i64 x43, .int .i64 x44, .int .i64 x45, .int .i64 x46, .bool b47, .int .i64 x48, .int .i64 x49, .int .i64 x50, .int .i64 x51, .int .i64 x52, .bool b53, .int .i64 x54, .int .i64 x55, .slice A56 n57 c58, .bool b59, .bool b60, .bool b61], [.int .i64 x62, .int .i64 x63, .slice A64 n65 c66, .int .i64 x67, .int .i64 x68, .slice A69 n70 c71, .int .i64 x72, .int .i64 x73, .slice A74 n75 c76], cs77, [.int .i64 x78, .int .i64 x79, .int .i64 x80, .int .i64 x81]] M =
 bb (decide (x14 < 3))
 (ob (acall P T k M.length F.cdef_primary [.int .i64 x78, .int .i64 x8] M) fun r110 =>
 ob ((some r110.1).bind (Value.int? .i64)) fun x111 =>
 bb (decide (x14 > 0))
 (some (cdef_Frame.c4271504999 A1 n2 c3 x4 x5 x6 x7 x8 x14 x80 x80 x81 (IntKind.i64.wrap (x54 - 1)) A9 n10 c11 x12 x13 x14 x15 x16 A17 n18 c19 x20 x21 A22 n23 c24 x25 x26 A27 n28 c29 b30 x31 b32 b33 x34 x35 x36 x37 x38 x39 x40 x41 x42 x43 x44 x45 x46 b47 x48 x49 x50 x51 x52 b53 x54 x55 A56 n57 c58 b59 b60 b61 x62 x63 A64 n65 c66 x67 x68 A69 n70 c71 x72 x73 A74 n75 c76 cs77 x78 x79 x80 x81 (IntKind.i64.wrap (Int.tdiv x5 2)) (IntKind.i64.wrap (Int.tdiv x6 2)) 4 4 r110.2))
 (some (cdef_Frame.c4271504999 A1 n2 c3 x4 x5 x6 x7 x8 x14 x111 x78 x79 x54 A9 n10 c11 x12 x13 x14 x15 x16 A17 n18 c19 x20 x21 A22 n23 c24 x25 x26 A27 n28 c29 b30 x31 b32 b33 x34 x35 x36 x37 x38 x39 x40 x41 x42 x43 x44 x45 x46 b47 x48 x49 x50 x51 x52 b53 x54 x55 A56 n57 c58 b59 b60 b61 x62 x63 A64 n65 c66 x67 x68 A69 n70 c71 x72 x73 A74 n75 c76 cs77 x78 x79 x80 x81 x5 x6 8 8 r110.2)))
 (some (cdef_Frame.c16295 A1 n2 c3 x4 A9 n10 c11 x12 x13 x15 x16 A17 n18 c19 x20 x21 A22 n23 c24 x25 x26 A27 n28 c29 b30 x31 b32 b33 x34 x35 x36 x37 x38 x39 x40 x41 x42 x43 x44 x45 x46 b47 x48 x49 x50 x51 x52 b53 x54 x55 A56 n57 c58 b59 b60 b61 x62 x63 A64 n65 c66 x67 x68 A69 n70 c71 x72 x73 A74 n75 c76 cs77 M)) := by kernel_rfl
theorem cdef_Frame.p4271504999 (k lo : Nat) (A1 : Option Addr) (n2 : Nat) (c3 : Nat) (x4 : Int) (x5 : Int) (x6 : Int) (x7 : Int) (x8 : Int) (x9 : Int) (x10 : Int) (x11 : Int) (x12 : Int) (x13 : Int) (A14 : Option Addr) (n15 : Nat) (c16 : Nat) (x17 : Int) (x18 : Int) (x19 : Int) (x20 : Int) (x21 : Int) (A22 : Option Addr) (n23 : Nat) (c24 : Nat) (x25 : Int) (x26 : Int) (A27 : Option Addr) (n28 : Nat) (c29 : Nat) (x30 : Int) (x31 : Int) (A32 : Option Addr) (n33 : Nat) (c34 : Nat) (b35 : Bool) (x36 : Int) (b37 : Bool) (b38 : Bool) (x39 : Int) (x40 : Int) (x41 : Int) (x42 : Int) (x43 : Int) (x44 : Int) (x45 : Int) (x46 : Int) (x47 : Int) (x48 : Int) (x49 : Int) (x50 : Int) (x51 : Int) (b52 : Bool) (x53 : Int) (x54 : Int) (x55 : Int) (x56 : Int) (x57 : Int) (b58 : Bool) (x59 : Int) (x60 : Int) (A61 : Option Addr) (n62 : Nat) (c63 : Nat) (b64 : Bool) (b65 : Bool) (b66 : Bool) (x67 : Int) (x68 : Int) (A69 : Option Addr) (n70 : Nat) (c71 : Nat) (x72 : Int) (x73 : Int) (A74 : Option Addr) (n75 : Nat) (c76 : Nat) (x77 : Int) (x78 : Int) (A79 : Option Addr) (n80 : Nat) (c81 : Nat) (cs82 : List Value) (x83 : Int) (x84 : Int) (x85 : Int) (x86 : Int) (x87 : Int) (x88 : Int) (x89 : Int) (x90 : Int) (M : Mem) : piece P T k lo F.cdef_Frame 4271504999 [.v (.slice A1 n2 c3), .l 4 0, .l 7 0, .l 8 0, .l 10 0, .v (.int .i64 x4), .v (.int .i64 x5), .v (.int .i64 x6), .l 17 0, .v (.int .i64 x7), .v (.int .i64 x8), .v (.int .i64 x9), .l 24 0, .v (.int .i64 x10), .v (.int .i64 x11), .v (.int .i64 x12), .v (.int .i64 x13), .v (.slice A14 n15 c16), .v (.int .i64 x17), .v (.int .i64 x18), .v (.int .i64 x19)] [[.int .i64 x20, .int .i64 x21, .slice A22 n23 c24, .int .i64 x25, .int .i64 x26, .slice A27 n28 c29, .int .i64 x30, .int .i64 x31, .slice A32 n33 c34], [.bool b35, .int .i64 x36, .bool b37, .bool b38, .int .i64 x39, .int .i64 x40, .int .i64 x41, .int .i64 x42, .int .i64 x43, .int .i64 x44, .int .i64 x45, .int .i64 x46, .int .i64 x47, .int .i64 x48, .int .i64 x49, .int .i64 x50, .int .i64 x51, .bool b52, .int .i64 x53, .int .i64 x54, .int .i64 x55, .int .i64 x56, .int .i64 x57, .bool b58, .int .i64 x59, .int .i64 x60, .slice A61 n62 c63, .bool b64, .bool b65, .bool b66], [.int .i64 x67, .int .i64 x68, .slice A69 n70 c71, .int .i64 x72, .int .i64 x73, .slice A74 n75 c76, .int .i64 x77, .int .i64 x78, .slice A79 n80 c81], cs82, [.int .i64 x83, .int .i64 x84, .int .i64 x85, .int .i64 x86], [.int .i64 x87, .int .i64 x88, .int .i64 x89, .int .i64 x90]] M =
 bb (x11 == 0)
 (some (cdef_Frame.c17086019999 A1 n2 c3 x4 x5 x6 x7 x8 x9 x10 x12 x13 0 A14 n15 c16 x17 x18 x19 x20 x21 A22 n23 c24 x25 x26 A27 n28 c29 x30 x31 A32 n33 c34 b35 x36 b37 b38 x39 x40 x41 x42 x43 x44 x45 x46 x47 x48 x49 x50 x51 b52 x53 x54 x55 x56 x57 b58 x59 x60 A61 n62 c63 b64 b65 b66 x67 x68 A69 n70 c71 x72 x73 A74 n75 c76 x77 x78 A79 n80 c81 cs82 x83 x84 x85 x86 x87 x88 x89 x90 M))
 (some (cdef_Frame.c17086019999 A1 n2 c3 x4 x5 x6 x7 x8 x9 x10 x12 x13 x7 A14 n15 c16 x17 x18 x19 x20 x21 A22 n23 c24 x25 x26 A27 n28 c29 x30 x31 A32 n33 c34 b35 x36 b37 b38 x39 x40 x41 x42 x43 x44 x45 x46 x47 x48 x49 x50 x51 b52 x53 x54 x55 x56 x57 b58 x59 x60 A61 n62 c63 b64 b65 b66 x67 x68 A69 n70 c71 x72 x73 A74 n75 c76 x77 x78 A79 n80 c81 cs82 x83 x84 x85 x86 x87 x88 x89 x90 M)) := by kernel_rfl
theorem cdef_Frame.p17086019999 (k lo : Nat) (A1 : Option Addr) (n2 : Nat) (c3 : Nat) (x4 : Int) (x5 : Int) (x6 : Int) (x7 : Int) (x8 : Int) (x9 : Int) (x10 : Int) (x11 : Int) (x12 : Int) (x13 : Int) (A14 : Option Addr) (n15 : Nat) (c16 : Nat) (x17 : Int) (x18 : Int) (x19 : Int) (x20 : Int) (x21 : Int) (A22 : Option Addr) (n23 : Nat) (c24 : Nat) (x25 : Int) (x26 : Int) (A27 : Option Addr) (n28 : Nat) (c29 : Nat) (x30 : Int) (x31 : Int) (A32 : Option Addr) (n33 : Nat) (c34 : Nat) (b35 : Bool) (x36 : Int) (b37 : Bool) (b38 : Bool) (x39 : Int) (x40 : Int) (x41 : Int) (x42 : Int) (x43 : Int) (x44 : Int) (x45 : Int) (x46 : Int) (x47 : Int) (x48 : Int) (x49 : Int) (x50 : Int) (x51 : Int) (b52 : Bool) (x53 : Int) (x54 : Int) (x55 : Int) (x56 : Int) (x57 : Int) (b58 : Bool) (x59 : Int) (x60 : Int) (A61 : Option Addr) (n62 : Nat) (c63 : Nat) (b64 : Bool) (b65 : Bool) (b66 : Bool) (x67 : Int) (x68 : Int) (A69 : Option Addr) (n70 : Nat) (c71 : Nat) (x72 : Int) (x73 : Int) (A74 : Option Addr) (n75 : Nat) (c76 : Nat) (x77 : Int) (x78 : Int) (A79 : Option Addr) (n80 : Nat) (c81 : Nat) (cs82 : List Value) (x83 : Int) (x84 : Int) (x85 : Int) (x86 : Int) (x87 : Int) (x88 : Int) (x89 : Int) (x90 : Int) (M : Mem) : piece P T k lo F.cdef_Frame 17086019999 [.v (.slice A1 n2 c3), .l 4 0, .l 7 0, .l 8 0, .l 10 0, .v (.int .i64 x4), .v (.int .i64 x5), .v (.int .i64 x6), .l 17 0, .v (.int .i64 x7), .v (.int .i64 x8), .v (.int .i64 x9), .l 24 0, .v (.int .i64 x10), .v (.int .i64 x11), .v (.int .i64 x12), .v (.int .i64 x13), .v (.slice A14 n15 c16), .v (.int .i64 x17), .v (.int .i64 x18), .v (.int .i64 x19)] [[.int .i64 x20, .int .i64 x21, .slice A22 n23 c24, .int .i64 x25, .int .i64 x26, .slice A27 n28 c29, .int .i64 x30, .int .i64 x31, .slice A32 n33 c34], [.bool b35, .int .i64 x36, .bool b37, .bool b38, .int .i64 x39, .int .i64 x40, .int .i64 x41, .int .i64 x42, .int .i64 x43, .int .i64 x44, .int .i64 x45, .int .i64 x46, .int .i64 x47, .int .i64 x48, .int .i64 x49, .int .i64 x50, .int .i64 x51, .bool b52, .int .i64 x53, .int .i64 x54, .int .i64 x55, .int .i64 x56, .int .i64 x57, .bool b58, .int .i64 x59, .int .i64 x60, .slice A61 n62 c63, .bool b64, .bool b65, .bool b66], [.int .i64 x67, .int .i64 x68, .slice A69 n70 c71, .int .i64 x72, .int .i64 x73, .slice A74 n75 c76, .int .i64 x77, .int .i64 x78, .slice A79 n80 c81], cs82, [.int .i64 x83, .int .i64 x84, .int .i64 x85, .int .i64 x86], [.int .i64 x87, .int .i64 x88, .int .i64 x89, .int .i64 x90]] M =
 pb (0 ≤ x9 ∧ x9 < (3 : Int))
 (ob ((([.int .i64 x20, .int .i64 x21, .slice A22 n23 c24, .int .i64 x25, .int .i64 x26, .slice A27 n28 c29, .int .i64 x30, .int .i64 x31, .slice A32 n33 c34] : List Value)[0 + (x9.toNat * 3) + 0]?).bind (Value.int? .i64)) fun x112 =>
 ob ((([.int .i64 x20, .int .i64 x21, .slice A22 n23 c24, .int .i64 x25, .int .i64 x26, .slice A27 n28 c29, .int .i64 x30, .int .i64 x31, .slice A32 n33 c34] : List Value)[0 + (x9.toNat * 3) + 1]?).bind (Value.int? .i64)) fun x113 =>
 ob ((([.int .i64 x20, .int .i64 x21, .slice A22 n23 c24, .int .i64 x25, .int .i64 x26, .slice A27 n28 c29, .int .i64 x30, .int .i64 x31, .slice A32 n33 c34] : List Value)[0 + (x9.toNat * 3) + 2]?).bind Value.slc?) fun s114 =>
 ob (acall P T k M.length F.cdef_second [.int .i64 x11] M) fun r115 =>
 ob ((some r115.1).bind (Value.int? .i64)) fun x116 =>
 ob (acall P T k lo F.cdef_Block [.agg ⟨[.int .i64 x112, .int .i64 x113, .slice s114.a s114.n s114.c]⟩, .agg ⟨[.int .i64 x87, .int .i64 x88, .int .i64 x89, .int .i64 x90]⟩, .int .i64 x13, .int .i64 x10, .int .i64 x116, .int .i64 x12] r115.2) fun r117 =>
 ob (r117.1.tup? 2) fun l118 =>
 ob ((l118[0]?).bind Value.slc?) fun s119 =>
 ob ((l118[1]?).bind (Value.int? .i64)) fun x120 =>
 bb (x120 != 0)
 (some (.ret (.tuple ⟨[.agg ⟨[.int .i64 0, .int .i64 0, .slice none 0 0, .int .i64 0, .int .i64 0, .slice none 0 0, .int .i64 0, .int .i64 0, .slice none 0 0]⟩, .int .i64 x120]⟩) r117.2))
 (some (cdef_Frame.c546752639996 A1 n2 c3 x4 x5 x6 x7 x8 x9 s119.a s119.n s119.c A14 n15 c16 x17 x18 x19 x90 0 x20 x21 A22 n23 c24 x25 x26 A27 n28 c29 x30 x31 A32 n33 c34 b35 x36 b37 b38 x39 x40 x41 x42 x43 x44 x45 x46 x47 x48 x49 x50 x51 b52 x53 x54 x55 x56 x57 b58 x59 x60 A61 n62 c63 b64 b65 b66 x67 x68 A69 n70 c71 x72 x73 A74 n75 c76 x77 x78 A79 n80 c81 cs82 x83 x84 x85 x86 x87 x88 x89 x90 r117.2))) none := by kernel_rfl
theorem cdef_Frame.p546752639996 (k lo : Nat) (A1 : Option Addr) (n2 : Nat) (c3 : Nat) (x4 : Int) (x5 : Int) (x6 : Int) (x7 : Int) (x8 : Int) (x9 : Int) (A10 : Option Addr) (n11 : Nat) (c12 : Nat) (A13 : Option Addr) (n14 : Nat) (c15 : Nat) (x16 : Int) (x17 : Int) (x18 : Int) (x19 : Int) (x20 : Int) (x21 : Int) (x22 : Int) (A23 : Option Addr) (n24 : Nat) (c25 : Nat) (x26 : Int) (x27 : Int) (A28 : Option Addr) (n29 : Nat) (c30 : Nat) (x31 : Int) (x32 : Int) (A33 : Option Addr) (n34 : Nat) (c35 : Nat) (b36 : Bool) (x37 : Int) (b38 : Bool) (b39 : Bool) (x40 : Int) (x41 : Int) (x42 : Int) (x43 : Int) (x44 : Int) (x45 : Int) (x46 : Int) (x47 : Int) (x48 : Int) (x49 : Int) (x50 : Int) (x51 : Int) (x52 : Int) (b53 : Bool) (x54 : Int) (x55 : Int) (x56 : Int) (x57 : Int) (x58 : Int) (b59 : Bool) (x60 : Int) (x61 : Int) (A62 : Option Addr) (n63 : Nat) (c64 : Nat) (b65 : Bool) (b66 : Bool) (b67 : Bool) (x68 : Int) (x69 : Int) (A70 : Option Addr) (n71 : Nat) (c72 : Nat) (x73 : Int) (x74 : Int) (A75 : Option Addr) (n76 : Nat) (c77 : Nat) (x78 : Int) (x79 : Int) (A80 : Option Addr) (n81 : Nat) (c82 : Nat) (cs83 : List Value) (x84 : Int) (x85 : Int) (x86 : Int) (x87 : Int) (x88 : Int) (x89 : Int) (x90 : Int) (x91 : Int) (M : Mem) : piece P T k lo F.cdef_Frame 546752639996 [.v (.slice A1 n2 c3), .l 4 0, .l 7 0, .l 8 0, .l 10 0, .v (.int .i64 x4), .v (.int .i64 x5), .v (.int .i64 x6), .l 17 0, .v (.int .i64 x7), .v (.int .i64 x8), .v (.int .i64 x9), .l 24 0, .v (.slice A10 n11 c12), .v (.slice A13 n14 c15), .v (.int .i64 x16), .v (.int .i64 x17), .v (.int .i64 x18), .v (.int .i64 x19), .v (.int .i64 x20)] [[.int .i64 x21, .int .i64 x22, .slice A23 n24 c25, .int .i64 x26, .int .i64 x27, .slice A28 n29 c30, .int .i64 x31, .int .i64 x32, .slice A33 n34 c35], [.bool b36, .int .i64 x37, .bool b38, .bool b39, .int .i64 x40, .int .i64 x41, .int .i64 x42, .int .i64 x43, .int .i64 x44, .int .i64 x45, .int .i64 x46, .int .i64 x47, .int .i64 x48, .int .i64 x49, .int .i64 x50, .int .i64 x51, .int .i64 x52, .bool b53, .int .i64 x54, .int .i64 x55, .int .i64 x56, .int .i64 x57, .int .i64 x58, .bool b59, .int .i64 x60, .int .i64 x61, .slice A62 n63 c64, .bool b65, .bool b66, .bool b67], [.int .i64 x68, .int .i64 x69, .slice A70 n71 c72, .int .i64 x73, .int .i64 x74, .slice A75 n76 c77, .int .i64 x78, .int .i64 x79, .slice A80 n81 c82], cs83, [.int .i64 x84, .int .i64 x85, .int .i64 x86, .int .i64 x87], [.int .i64 x88, .int .i64 x89, .int .i64 x90, .int .i64 x91]] M =
 bb (decide (x20 < x19))
 (pb (0 ≤ x9 ∧ x9 < (3 : Int))
 (ob ((cs83[0 + (x9.toNat * 3) + 2 + 0]?).bind Value.slc?) fun s121 =>
 pb (0 ≤ x9 ∧ x9 < (3 : Int))
 (ob ((cs83[0 + (x9.toNat * 3) + 0 + 0]?).bind (Value.int? .i64)) fun x122 =>
 pb (0 ≤ IntKind.i64.wrap ((IntKind.i64.wrap ((IntKind.i64.wrap (x89 + x20)) * x122)) + x88) ∧ IntKind.i64.wrap ((IntKind.i64.wrap ((IntKind.i64.wrap (x89 + x20)) * x122)) + x88) ≤ (s121.n : Int))
 (pb (0 ≤ IntKind.i64.wrap (x20 * x90) ∧ IntKind.i64.wrap (x20 * x90) ≤ IntKind.i64.wrap ((IntKind.i64.wrap (x20 + 1)) * x90) ∧ IntKind.i64.wrap ((IntKind.i64.wrap (x20 + 1)) * x90) ≤ (c12 : Int))
 (ob (Mem.src M (slAddr 1 A10 ((IntKind.i64.wrap (x20 * x90)).toNat) c12) (Nat.min (((IntKind.i64.wrap ((IntKind.i64.wrap (x20 + 1)) * x90)).toNat) - ((IntKind.i64.wrap (x20 * x90)).toNat)) (s121.n - ((IntKind.i64.wrap ((IntKind.i64.wrap ((IntKind.i64.wrap (x89 + x20)) * x122)) + x88)).toNat))) (Nat.min (((IntKind.i64.wrap ((IntKind.i64.wrap (x20 + 1)) * x90)).toNat) - ((IntKind.i64.wrap (x20 * x90)).toNat)) (s121.n - ((IntKind.i64.wrap ((IntKind.i64.wrap ((IntKind.i64.wrap (x89 + x20)) * x122)) + x88)).toNat)))) fun l123 =>
 pb (Nat.min (((IntKind.i64.wrap ((IntKind.i64.wrap (x20 + 1)) * x90)).toNat) - ((IntKind.i64.wrap (x20 * x90)).toNat)) (s121.n - ((IntKind.i64.wrap ((IntKind.i64.wrap ((IntKind.i64.wrap (x89 + x20)) * x122)) + x88)).toNat)) = 0) (some (cdef_Frame.c546752639996 A1 n2 c3 x4 x5 x6 x7 x8 x9 A10 n11 c12 A13 n14 c15 x16 x17 x18 x19 (IntKind.i64.wrap (x20 + 1)) x21 x22 A23 n24 c25 x26 x27 A28 n29 c30 x31 x32 A33 n34 c35 b36 x37 b38 b39 x40 x41 x42 x43 x44 x45 x46 x47 x48 x49 x50 x51 x52 b53 x54 x55 x56 x57 x58 b59 x60 x61 A62 n63 c64 b65 b66 b67 x68 x69 A70 n71 c72 x73 x74 A75 n76 c77 x78 x79 A80 n81 c82 cs83 x84 x85 x86 x87 x88 x89 x90 x91 M))
 (ob (slAddr 1 s121.a ((IntKind.i64.wrap ((IntKind.i64.wrap ((IntKind.i64.wrap (x89 + x20)) * x122)) + x88)).toNat) s121.c) fun a125 =>
 ob (M.st lo a125 l123) fun M124 =>
 some (cdef_Frame.c546752639996 A1 n2 c3 x4 x5 x6 x7 x8 x9 A10 n11 c12 A13 n14 c15 x16 x17 x18 x19 (IntKind.i64.wrap (x20 + 1)) x21 x22 A23 n24 c25 x26 x27 A28 n29 c30 x31 x32 A33 n34 c35 b36 x37 b38 b39 x40 x41 x42 x43 x44 x45 x46 x47 x48 x49 x50 x51 x52 b53 x54 x55 x56 x57 x58 b59 x60 x61 A62 n63 c64 b65 b66 b67 x68 x69 A70 n71 c72 x73 x74 A75 n76 c77 x78 x79 A80 n81 c82 cs83 x84 x85 x86 x87 x88 x89 x90 x91 M124))) none) none) none) none)
 (some (cdef_Frame.c33371132 A1 n2 c3 x4 x5 x6 x7 x8 A13 n14 c15 x16 x17 (IntKind.i64.wrap (x18 + 1)) x21 x22 A23 n24 c25 x26 x27 A28 n29 c30 x31 x32 A33 n34 c35 b36 x37 b38 b39 x40 x41 x42 x43 x44 x45 x46 x47 x48 x49 x50 x51 x52 b53 x54 x55 x56 x57 x58 b59 x60 x61 A62 n63 c64 b65 b66 b67 x68 x69 A70 n71 c72 x73 x74 A75 n76 c77 x78 x79 A80 n81 c82 cs83 x84 x85 x86 x87 M)) := by kernel_rfl
theorem wiener_Plane.entry (k lo : Nat) (x1 : Int) (x2 : Int) (A3 : Option Addr) (n4 : Nat) (c5 : Nat) (x6 : Int) (x7 : Int) (A8 : Option Addr) (n9 : Nat) (c10 : Nat) (A11 : Option Addr) (n12 : Nat) (c13 : Nat) (x14 : Int) (M : Mem) : entry P T k lo F.wiener_Plane [.agg ⟨[.int .i64 x1, .int .i64 x2, .slice A3 n4 c5]⟩, .agg ⟨[.int .i64 x6, .int .i64 x7, .slice A8 n9 c10]⟩, .slice A11 n12 c13, .int .i64 x14] M =
 ob (acall P T k lo F.plane_Check [.agg ⟨[.int .i64 x1, .int .i64 x2, .slice A3 n4 c5]⟩] M) fun r20 =>
 ob ((some r20.1).bind (Value.int? .i64)) fun x21 =>
 bb (x21 != 0)
 (some (.ret (.tuple ⟨[.agg ⟨[.int .i64 0, .int .i64 0, .slice none 0 0]⟩, .int .i64 2]⟩) r20.2))
 (ob (acall P T k lo F.plane_Check [.agg ⟨[.int .i64 x6, .int .i64 x7, .slice A8 n9 c10]⟩] r20.2) fun r22 =>
 ob ((some r22.1).bind (Value.int? .i64)) fun x23 =>
 bb (x23 != 0)
 (some (.ret (.tuple ⟨[.agg ⟨[.int .i64 0, .int .i64 0, .slice none 0 0]⟩, .int .i64 2]⟩) r22.2))
 (bb (x1 != x6)
 (some (.ret (.tuple ⟨[.agg ⟨[.int .i64 0, .int .i64 0, .slice none 0 0]⟩, .int .i64 2]⟩) r22.2))
 (bb (x2 != x7)
 (some (.ret (.tuple ⟨[.agg ⟨[.int .i64 0, .int .i64 0, .slice none 0 0]⟩, .int .i64 2]⟩) r22.2))
 (bb (x14 != 64)
 (bb (x14 != 32)
 (some (.ret (.tuple ⟨[.agg ⟨[.int .i64 0, .int .i64 0, .slice none 0 0]⟩, .int .i64 2]⟩) r22.2))
 (pb (x14 = 0) none
 (pb (x14 = 0) none
 (bb ((n12 : Int) != IntKind.i64.wrap ((IntKind.i64.wrap (Int.tdiv (IntKind.i64.wrap ((IntKind.i64.wrap (x1 + x14)) - 1)) x14)) * (IntKind.i64.wrap (Int.tdiv (IntKind.i64.wrap ((IntKind.i64.wrap (x2 + x14)) - 1)) x14))))
 (some (.ret (.tuple ⟨[.agg ⟨[.int .i64 0, .int .i64 0, .slice none 0 0]⟩, .int .i64 2]⟩) r22.2))
 (ob (acall P T k lo F.slices_ContainsFunc__api_Unit_api_Unit [.slice A11 n12 c13, .func (.func F.wiener_Plane_1) ⟨[]⟩ ⟨[]⟩] r22.2) fun r24 =>
 ob ((some r24.1).bind Value.bool?) fun b25 =>
 bb b25
 (some (.ret (.tuple ⟨[.agg ⟨[.int .i64 0, .int .i64 0, .slice none 0 0]⟩, .int .i64 2]⟩) r24.2))
 (ob (acall P T k r24.2.length F.slices_Clone__uint8_uint8 [.slice A3 n4 c5] r24.2) fun r26 =>
 ob ((some r26.1).bind Value.slc?) fun s27 =>
 pb (0 ≤ x14 ∧ room x14.toNat 8)
 (some (wiener_Plane.c7156 A11 n12 c13 x14 (IntKind.i64.wrap (Int.tdiv (IntKind.i64.wrap ((IntKind.i64.wrap (x1 + x14)) - 1)) x14)) (some ⟨r26.2.length, 0, none⟩) x14.toNat x14.toNat x2 0 x1 x2 A3 n4 c5 x6 x7 A8 n9 c10 0 0 none 0 0 x1 x2 s27.a s27.n s27.c (r26.2 ++ [⟨.fx, zerosL [.int .i64 0] x14.toNat⟩] : Mem))) none))))))
 (pb (x14 = 0) none
 (pb (x14 = 0) none
 (bb ((n12 : Int) != IntKind.i64.wrap ((IntKind.i64.wrap (Int.tdiv (IntKind.i64.wrap ((IntKind.i64.wrap (x1 + x14)) - 1)) x14)) * (IntKind.i64.wrap (Int.tdiv (IntKind.i64.wrap ((IntKind.i64.wrap (x2 + x14)) - 1)) x14))))
 (some (.ret (.tuple ⟨[.agg ⟨[.int .i64 0, .int .i64 0, .slice none 0 0]⟩, .int .i64 2]⟩) r22.2))
 (ob (acall P T k lo F.slices_ContainsFunc__api_Unit_api_Unit [.slice A11 n12 c13, .func (.func F.wiener_Plane_1) ⟨[]⟩ ⟨[]⟩] r22.2) fun r28 =>
 ob ((some r28.1).bind Value.bool?) fun b29 =>
 bb b29
 (some (.ret (.tuple ⟨[.agg ⟨[.int .i64 0, .int .i64 0, .slice none 0 0]⟩, .int .i64 2]⟩) r28.2))
 (ob (acall P T k r28.2.length F.slices_Clone__uint8_uint8 [.slice A3 n4 c5] r28.2) fun r30 =>
 ob ((some r30.1).bind Value.slc?) fun s31 =>
 pb (0 ≤ x14 ∧ room x14.toNat 8)
 (some (wiener_Plane.c7156 A11 n12 c13 x14 (IntKind.i64.wrap (Int.tdiv (IntKind.i64.wrap ((IntKind.i64.wrap (x1 + x14)) - 1)) x14)) (some ⟨r30.2.length, 0, none⟩) x14.toNat x14.toNat x2 0 x1 x2 A3 n4 c5 x6 x7 A8 n9 c10 0 0 none 0 0 x1 x2 s31.a s31.n s31.c (r30.2 ++ [⟨.fx, zerosL [.int .i64 0] x14.toNat⟩] : Mem))) none))))))))) := by kernel_rfl
theorem wiener_Plane.p7156 (k lo : Nat) (A1 : Option Addr) (n2 : Nat) (c3 : Nat) (x4 : Int) (x5 : Int) (A6 : Option Addr) (n7 : Nat) (c8 : Nat) (x9 : Int) (x10 : Int) (x11 : Int) (x12 : Int) (A13 : Option Addr) (n14 : Nat) (c15 : Nat) (x16 : Int) (x17 : Int) (A18 : Option Addr) (n19 : Nat) (c20 : Nat) (x21 : Int) (x22 : Int) (A23 : Option Addr) (n24 : Nat) (c25 : Nat) (x26 : Int) (x27 : Int) (A28 : Option Addr) (n29 : Nat) (c30 : Nat) (M : Mem) : piece P T k lo F.wiener_Plane 7156 [.v (.slice A1 n2 c3), .v (.int .i64 x4), .l 4 0, .l 5 0, .l 8 0, .v (.int .i64 x5), .l 11 0, .v (.slice A6 n7 c8), .v (.int .i64 x9), .v (.int .i64 x10)] [[.int .i64 x11, .int .i64 x12, .slice A13 n14 c15], [.int .i64 x16, .int .i64 x17, .slice A18 n19 c20], [.int .i64 x21, .int .i64 x22, .slice A23 n24 c25], [.int .i64 x26, .int .i64 x27, .slice A28 n29 c30]] M =
 bb (decide (x10 < x9))
 (ob (acall P T k lo F.wiener_stripeOf [.int .i64 x10, .int .i64 x4] M) fun r32 =>
 ob ((some r32.1).bind (Value.agg? 2)) fun l33 =>
 ob ((l33[0]?).bind (Value.int? .i64)) fun x34 =>
 ob ((l33[1]?).bind (Value.int? .i64)) fun x35 =>
 some (wiener_Plane.c3664284 A1 n2 c3 x4 x5 A6 n7 c8 x10 x9 x10 x5 0 x11 x12 A13 n14 c15 x16 x17 A18 n19 c20 x21 x22 A23 n24 c25 x26 x27 A28 n29 c30 x34 x35 r32.2))
 (some (.ret (.tuple ⟨[.agg ⟨[.int .i64 x26, .int .i64 x27, .slice A28 n29 c30]⟩, .int .i64 0]⟩) M)) := by kernel_rfl
theorem wiener_Plane.p57255 (k lo : Nat) (A1 : Option Addr) (n2 : Nat) (c3 : Nat) (x4 : Int) (x5 : Int) (A6 : Option Addr) (n7 : Nat) (c8 : Nat) (x9 : Int) (x10 : Int) (x11 : Int) (x12 : Int) (A13 : Option Addr) (n14 : Nat) (c15 : Nat) (x16 : Int) (x17 : Int) (A18 : Option Addr) (n19 : Nat) (c20 : Nat) (x21 : Int) (x22 : Int) (A23 : Option Addr) (n24 : Nat) (c25 : Nat) (x26 : Int) (x27 : Int) (A28 : Option Addr) (n29 : Nat) (c30 : Nat) (M : Mem) : piece P T k lo F.wiener_Plane 57255 [.v (.slice A1 n2 c3), .v (.int .i64 x4), .l 4 0, .l 5 0, .l 8 0, .v (.int .i64 x5), .l 11 0, .v (.slice A6 n7 c8), .v (.int .i64 x9), .v (.int .i64 x10)] [[.int .i64 x11, .int .i64 x12, .slice A13 n14 c15], [.int .i64 x16, .int .i64 x17, .slice A18 n19 c20], [.int .i64 x21, .int .i64 x22, .slice A23 n24 c25], [.int .i64 x26, .int .i64 x27, .slice A28 n29 c30]] M =
 some (wiener_Plane.c7156 A1 n2 c3 x4 x5 A6 n7 c8 x9 (IntKind.i64.wrap (x10 + 1)) x11 x12 A13 n14 c15 x16 x17 A18 n19 c20 x21 x22 A23 n24 c25 x26 x27 A28 n29 c30 M) := by kernel_rfl
theorem wiener_Plane.p3664284 (k lo : Nat) (A1 : Option Addr) (n2 : Nat) (c3 : Nat) (x4 : Int) (x5 : Int) (A6 : Option Addr) (n7 : Nat) (c8 : Nat) (x9 : Int) (x10 : Int) (x11 : Int) (x12 : Int) (x13 : Int) (x14 : Int) (x15 : Int) (A16 : Option Addr) (n17 : Nat) (c18 : Nat) (x19 : Int) (x20 : Int) (A21 : Option Addr) (n22 : Nat) (c23 : Nat) (x24 : Int) (x25 : Int) (A26 : Option Addr) (n27 : Nat) (c28 : Nat) (x29 : Int) (x30 : Int) (A31 : Option Addr) (n32 : Nat) (c33 : Nat) (x34 : Int) (x35 : Int) (M : Mem) : piece P T k lo F.wiener_Plane 3664284 [.v (.slice A1 n2 c3), .v (.int .i64 x4), .l 4 0, .l 5 0, .l 8 0, .v (.int .i64 x5), .l 11 0, .v (.slice A6 n7 c8), .v (.int .i64 x9), .l 14 0, .v (.int .i64 x10), .v (.int .i64 x11), .v (.int .i64 x12), .v (.int .i64 x13)] [[.int .i64 x14, .int .i64 x15, .slice A16 n17 c18], [.int .i64 x19, .int .i64 x20, .slice A21 n22 c23], [.int .i64 x24, .int .i64 x25, .slice A26 n27 c28], [.int .i64 x29, .int .i64 x30, .slice A31 n32 c33], [.int .i64 x34, .int .i64 x35]] M =
 bb (decide (x13 < x12))
 (pb (x4 = 0) none
 (pb (0 ≤ IntKind.i64.wrap ((IntKind.i64.wrap ((IntKind.i64.wrap (Int.tdiv x9 x4)) * x5)) + x13) ∧ IntKind.i64.wrap ((IntKind.i64.wrap ((IntKind.i64.wrap (Int.tdiv x9 x4)) * x5)) + x13) < (n2 : Int))
 (ob A1 fun a36 =>
 ob ((M.ld (plus a36 ((IntKind.i64.wrap ((IntKind.i64.wrap ((IntKind.i64.wrap (Int.tdiv x9 x4)) * x5)) + x13)).toNat * 7))).bind Value.bool?) fun b37 =>
 ob ((M.ld (plus (plus a36 ((IntKind.i64.wrap ((IntKind.i64.wrap ((IntKind.i64.wrap (Int.tdiv x9 x4)) * x5)) + x13)).toNat * 7)) 1)).bind (Value.int? .i64)) fun x38 =>
 ob ((M.ld (plus (plus a36 ((IntKind.i64.wrap ((IntKind.i64.wrap ((IntKind.i64.wrap (Int.tdiv x9 x4)) * x5)) + x13)).toNat * 7)) 2)).bind (Value.int? .i64)) fun x39 =>
 ob ((M.ld (plus (plus a36 ((IntKind.i64.wrap ((IntKind.i64.wrap ((IntKind.i64.wrap (Int.tdiv x9 x4)) * x5)) + x13)).toNat * 7)) 3)).bind (Value.int? .i64)) fun x40 =>
 ob ((M.ld (plus (plus a36 ((IntKind.i64.wrap ((IntKind.i64.wrap ((IntKind.i64.wrap (Int.tdiv x9 x4)) * x5)) + x13)).toNat * 7)) 4)).bind (Value.int? .i64)) fun x41 =>
 ob ((M.ld (plus (plus a36 ((IntKind.i64.wrap ((IntKind.i64.wrap ((IntKind.i64.wrap (Int.tdiv x9 x4)) * x5)) + x13)).toNat * 7)) 5)).bind (Value.int? .i64)) fun x42 =>
 ob ((M.ld (plus (plus a36 ((IntKind.i64.wrap ((IntKind.i64.wrap ((IntKind.i64.wrap (Int.tdiv x9 x4)) * x5)) + x13)).toNat * 7)) 6)).bind (Value.int? .i64)) fun x43 =>
 bb (!b37)
 (bb (x13 == IntKind.i64.wrap (x5 - 1))
 (some (wiener_Plane.c57255 A1 n2 c3 x4 x5 A6 n7 c8 x10 x11 x14 x15 A16 n17 c18 x19 x20 A21 n22 c23 x24 x25 A26 n27 c28 x29 x30 A31 n32 c33 M))
 (some (wiener_Plane.c29314279 A1 n2 c3 x4 x5 A6 n7 c8 x9 x10 x11 x12 x13 x14 x15 A16 n17 c18 x19 x20 A21 n22 c23 x24 x25 A26 n27 c28 x29 x30 A31 n32 c33 x34 x35 M)))
 (ob (acall P T k lo F.wiener_Seven [.agg ⟨[.int .i64 x38, .int .i64 x39, .int .i64 x40]⟩] M) fun r44 =>
 ob (r44.1.tup? 2) fun l45 =>
 ob ((l45[0]?).bind (Value.agg? 7)) fun l46 =>
 ob ((l46[0]?).bind (Value.int? .i64)) fun x47 =>
 ob ((l46[1]?).bind (Value.int? .i64)) fun x48 =>
 ob ((l46[2]?).bind (Value.int? .i64)) fun x49 =>
 ob ((l46[3]?).bind (Value.int? .i64)) fun x50 =>
 ob ((l46[4]?).bind (Value.int? .i64)) fun x51 =>
 ob ((l46[5]?).bind (Value.int? .i64)) fun x52 =>
 ob ((l46[6]?).bind (Value.int? .i64)) fun x53 =>
 ob ((l45[1]?).bind (Value.int? .i64)) fun x54 =>
 ob (acall P T k lo F.wiener_Seven [.agg ⟨[.int .i64 x41, .int .i64 x42, .int .i64 x43]⟩] r44.2) fun r55 =>
 ob (r55.1.tup? 2) fun l56 =>
 ob ((l56[0]?).bind (Value.agg? 7)) fun l57 =>
 ob ((l57[0]?).bind (Value.int? .i64)) fun x58 =>
 ob ((l57[1]?).bind (Value.int? .i64)) fun x59 =>
 ob ((l57[2]?).bind (Value.int? .i64)) fun x60 =>
 ob ((l57[3]?).bind (Value.int? .i64)) fun x61 =>
 ob ((l57[4]?).bind (Value.int? .i64)) fun x62 =>
 ob ((l57[5]?).bind (Value.int? .i64)) fun x63 =>
 ob ((l57[6]?).bind (Value.int? .i64)) fun x64 =>
 ob ((l56[1]?).bind (Value.int? .i64)) fun x65 =>
 pb (0 ≤ (0 : Int) ∧ (0 : Int) ≤ IntKind.i64.wrap ((minI (IntKind.i64.wrap ((IntKind.i64.wrap (x13 + 1)) * x4)) x14) - (IntKind.i64.wrap (x13 * x4))) ∧ IntKind.i64.wrap ((minI (IntKind.i64.wrap ((IntKind.i64.wrap (x13 + 1)) * x4)) x14) - (IntKind.i64.wrap (x13 * x4))) ≤ (c8 : Int))
 (pb (((IntKind.i64.wrap ((minI (IntKind.i64.wrap ((IntKind.i64.wrap (x13 + 1)) * x4)) x14) - (IntKind.i64.wrap (x13 * x4)))).toNat) - 0 = 0) (some (wiener_Plane.c240142569460 A1 n2 c3 x4 x5 A6 n7 c8 x9 (IntKind.i64.wrap (x13 * x4)) (minI (IntKind.i64.wrap ((IntKind.i64.wrap (x13 + 1)) * x4)) x14) (slAddr 1 A6 0 c8) (((IntKind.i64.wrap ((minI (IntKind.i64.wrap ((IntKind.i64.wrap (x13 + 1)) * x4)) x14) - (IntKind.i64.wrap (x13 * x4)))).toNat) - 0) (c8 - 0) x10 x11 x12 x13 x47 x48 x49 x50 x51 x52 x53 0 x14 x15 A16 n17 c18 x19 x20 A21 n22 c23 x24 x25 A26 n27 c28 x29 x30 A31 n32 c33 x34 x35 x58 x59 x60 x61 x62 x63 x64 r55.2))
 (ob (slAddr 1 A6 0 c8) fun a67 =>
 ob (r55.2.st lo a67 (zerosL [.int .i64 0] (((IntKind.i64.wrap ((minI (IntKind.i64.wrap ((IntKind.i64.wrap (x13 + 1)) * x4)) x14) - (IntKind.i64.wrap (x13 * x4)))).toNat) - 0))) fun M66 =>
 some (wiener_Plane.c240142569460 A1 n2 c3 x4 x5 A6 n7 c8 x9 (IntKind.i64.wrap (x13 * x4)) (minI (IntKind.i64.wrap ((IntKind.i64.wrap (x13 + 1)) * x4)) x14) (slAddr 1 A6 0 c8) (((IntKind.i64.wrap ((minI (IntKind.i64.wrap ((IntKind.i64.wrap (x13 + 1)) * x4)) x14) - (IntKind.i64.wrap (x13 * x4)))).toNat) - 0) (c8 - 0) x10 x11 x12 x13 x47 x48 x49 x50 x51 x52 x53 0 x14 x15 A16 n17 c18 x19 x20 A21 n22 c23 x24 x25 A26 n27 c28 x29 x30 A31 n32 c33 x34 x35 x58 x59 x60 x61 x62 x63 x64 M66))) none)) none))
 (some (wiener_Plane.c57255 A1 n2 c3 x4 x5 A6 n7 c8 x10 x11 x14 x15 A16 n17 c18 x19 x20 A21 n22 c23 x24 x25 A26 n27 c28 x29 x30 A31 n32 c33 M)) := by kernel_rfl
theorem wiener_Plane.p29314279 (k lo : Nat) (A1 : Option Addr) (n2 : Nat) (c3 : Nat) (x4 : Int) (x5 : Int) (A6 : Option Addr) (n7 : Nat) (c8 : Nat) (x9 : Int) (x10 : Int) (x11 : Int) (x12 : Int) (x13 : Int) (x14 : Int) (x15 : Int) (A16 : Option Addr) (n17 : Nat) (c18 : Nat) (x19 : Int) (x20 : Int) (A21 : Option Addr) (n22 : Nat) (c23 : Nat) (x24 : Int) (x25 : Int) (A26 : Option Addr) (n27 : Nat) (c28 : Nat) (x29 : Int) (x30 : Int) (A31 : Option Addr) (n32 : Nat) (c33 : Nat) (x34 : Int) (x35 : Int) (M : Mem) : piece P T k lo F.wiener_Plane 29314279 [.v (.slice A1 n2 c3), .v (.int .i64 x4), .l 4 0, .l 5 0, .l 8 0, .v (.int .i64 x5), .l 11 0, .v (.slice A6 n7 c8), .v (.int .i64 x9), .l 14 0, .v (.int .i64 x10), .v (.int .i64 x11), .v (.int .i64 x12), .v (.int .i64 x13)] [[.int .i64 x14, .int .i64 x15, .slice A16 n17 c18], [.int .i64 x19, .int .i64 x20, .slice A21 n22 c23], [.int .i64 x24, .int .i64 x25, .slice A26 n27 c28], [.int .i64 x29, .int .i64 x30, .slice A31 n32 c33], [.int .i64 x34, .int .i64 x35]] M =
 some (wiener_Plane.c3664284 A1 n2 c3 x4 x5 A6 n7 c8 x9 x10 x11 x12 (IntKind.i64.wrap (x13 + 1)) x14 x15 A16 n17 c18 x19 x20 A21 n22 c23 x24 x25 A26 n27 c28 x29 x30 A31 n32 c33 x34 x35 M) := by kernel_rfl
theorem wiener_Plane.p240142569460 (k lo : Nat) (A1 : Option Addr) (n2 : Nat) (c3 : Nat) (x4 : Int) (x5 : Int) (A6 : Option Addr) (n7 : Nat) (c8 : Nat) (x9 : Int) (x10 : Int) (x11 : Int) (A12 : Option Addr) (n13 : Nat) (c14 : Nat) (x15 : Int) (x16 : Int) (x17 : Int) (x18 : Int) (x19 : Int) (x20 : Int) (x21 : Int) (x22 : Int) (x23 : Int) (x24 : Int) (x25 : Int) (x26 : Int) (x27 : Int) (x28 : Int) (A29 : Option Addr) (n30 : Nat) (c31 : Nat) (x32 : Int) (x33 : Int) (A34 : Option Addr) (n35 : Nat) (c36 : Nat) (x37 : Int) (x38 : Int) (A39 : Option Addr) (n40 : Nat) (c41 : Nat) (x42 : Int) (x43 : Int) (A44 : Option Addr) (n45 : Nat) (c46 : Nat) (x47 : Int) (x48 : Int) (x49 : Int) (x50 : Int) (x51 : Int) (x52 : Int) (x53 : Int) (x54 : Int) (x55 : Int) (M : Mem) : piece P T k lo F.wiener_Plane 240142569460 [.v (.slice A1 n2 c3), .v (.int .i64 x4), .l 4 0, .l 5 0, .l 8 0, .v (.int .i64 x5), .l 11 0, .v (.slice A6 n7 c8), .v (.int .i64 x9), .l 14 0, .l 19 0, .v (.int .i64 x10), .v (.int .i64 x11), .v (.slice A12 n13 c14), .v (.int .i64 x15), .v (.int .i64 x16), .v (.int .i64 x17), .v (.int .i64 x18), .v (.agg ⟨[.int .i64 x19, .int .i64 x20, .int .i64 x21, .int .i64 x22, .int .i64 x23, .int .i64 x24, .int .i64 x25]⟩), .v (.int .i64 x26)] [[.int .i64 x27, .int .i64 x28, .slice A29 n30 c31], [.int .i64 x32, .int .i64 x33, .slice A34 n35 c36], [.int .i64 x37, .int .i64 x38, .slice A39 n40 c41], [.int .i64 x42, .int .i64 x43, .slice A44 n45 c46], [.int .i64 x47, .int .i64 x48], [.int .i64 x49, .int .i64 x50, .int .i64 x51, .int .i64 x52, .int .i64 x53, .int .i64 x54, .int .i64 x55]] M =
 bb (decide (x26 < 7))
 (pb (0 ≤ x26 ∧ x26 < (7 : Int))
 (ob ((([.int .i64 x19, .int .i64 x20, .int .i64 x21, .int .i64 x22, .int .i64 x23, .int .i64 x24, .int .i64 x25] : List Value)[x26.toNat + 0]?).bind (Value.int? .i64)) fun x68 =>
 ob (acall P T k M.length F.wiener_clip [.int .i64 (IntKind.i64.wrap ((IntKind.i64.wrap (x9 + x26)) - 3)), .int .i64 0, .int .i64 (IntKind.i64.wrap (x28 - 1))] M) fun r69 =>
 ob ((some r69.1).bind (Value.int? .i64)) fun x70 =>
 ob (acall P T k M.length F.wiener_clip [.int .i64 x70, .int .i64 (IntKind.i64.wrap (x47 - 2)), .int .i64 (IntKind.i64.wrap (x48 + 1))] r69.2) fun r71 =>
 ob ((some r71.1).bind (Value.int? .i64)) fun x72 =>
 ob (acall P T k lo F.wiener_within [.int .i64 x72, .int .i64 x47, .int .i64 (IntKind.i64.wrap (x48 - 1))] r71.2) fun r73 =>
 ob ((some r73.1).bind Value.bool?) fun b74 =>
 bb (!b74)
 (some (wiener_Plane.c30738248890983 A1 n2 c3 x4 x5 A6 n7 c8 x9 x10 x11 A12 n13 c14 x68 x72 x15 x16 x17 x18 x19 x20 x21 x22 x23 x24 x25 x26 x27 x28 A29 n30 c31 x32 x33 A34 n35 c36 x37 x38 A39 n40 c41 x42 x43 A44 n45 c46 x47 x48 x49 x50 x51 x52 x53 x54 x55 x32 x33 A34 n35 c36 r73.2))
 (some (wiener_Plane.c30738248890983 A1 n2 c3 x4 x5 A6 n7 c8 x9 x10 x11 A12 n13 c14 x68 x72 x15 x16 x17 x18 x19 x20 x21 x22 x23 x24 x25 x26 x27 x28 A29 n30 c31 x32 x33 A34 n35 c36 x37 x38 A39 n40 c41 x42 x43 A44 n45 c46 x47 x48 x49 x50 x51 x52 x53 x54 x55 x27 x28 A29 n30 c31 r73.2))) none)
 (some (wiener_Plane.c240142569468 A1 n2 c3 x4 x5 A6 n7 c8 x9 x10 x15 x16 x17 x18 A12 n13 c14 (n13 : Int) 0 x27 x28 A29 n30 c31 x32 x33 A34 n35 c36 x37 x38 A39 n40 c41 x42 x43 A44 n45 c46 x47 x48 M)) := by kernel_rfl
theorem wiener_Plane.p240142569468 (k lo : Nat) (A1 : Option Addr) (n2 : Nat) (c3 : Nat) (x4 : Int) (x5 : Int) (A6 : Option Addr) (n7 : Nat) (c8 : Nat) (x9 : Int) (x10 : Int) (x11 : Int) (x12 : Int) (x13 : Int) (x14 : Int) (A15 : Option Addr) (n16 : Nat) (c17 : Nat) (x18 : Int) (x19 : Int) (x20 : Int) (x21 : Int) (A22 : Option Addr) (n23 : Nat) (c24 : Nat) (x25 : Int) (x26 : Int) (A27 : Option Addr) (n28 : Nat) (c29 : Nat) (x30 : Int) (x31 : Int) (A32 : Option Addr) (n33 : Nat) (c34 : Nat) (x35 : Int) (x36 : Int) (A37 : Option Addr) (n38 : Nat) (c39 : Nat) (x40 : Int) (x41 : Int) (M : Mem) : piece P T k lo F.wiener_Plane 240142569468 [.v (.slice A1 n2 c3), .v (.int .i64 x4), .l 4 0, .l 5 0, .l 8 0, .v (.int .i64 x5), .l 11 0, .v (.slice A6 n7 c8), .v (.int .i64 x9), .l 14 0, .v (.int .i64 x10), .v (.int .i64 x11), .v (.int .i64 x12), .v (.int .i64 x13), .v (.int .i64 x14), .v (.slice A15 n16 c17), .v (.int .i64 x18), .v (.int .i64 x19)] [[.int .i64 x20, .int .i64 x21, .slice A22 n23 c24], [.int .i64 x25, .int .i64 x26, .slice A27 n28 c29], [.int .i64 x30, .int .i64 x31, .slice A32 n33 c34], [.int .i64 x35, .int .i64 x36, .slice A37 n38 c39], [.int .i64 x40, .int .i64 x41]] M =
 bb (decide (x19 < x18))
 (pb (0 ≤ x19 ∧ x19 < (n16 : Int))
 (ob A15 fun a75 =>
 ob ((M.ld (plus a75 x19.toNat)).bind (Value.int? .i64)) fun x76 =>
 ob (acall P T k M.length F.wiener_round [.int .i64 x76, .int .i64 11] M) fun r77 =>
 ob ((some r77.1).bind (Value.int? .i64)) fun x78 =>
 ob (acall P T k M.length F.wiener_clip [.int .i64 x78, .int .i64 0, .int .i64 255] r77.2) fun r79 =>
 ob ((some r79.1).bind (Value.int? .i64)) fun x80 =>
 pb (0 ≤ IntKind.i64.wrap ((IntKind.i64.wrap ((IntKind.i64.wrap (x9 * x20)) + x10)) + x19) ∧ IntKind.i64.wrap ((IntKind.i64.wrap ((IntKind.i64.wrap (x9 * x20)) + x10)) + x19) < (n38 : Int))
 (ob A37 fun a81 =>
 ob (r79.2.st lo (plus a81 ((IntKind.i64.wrap ((IntKind.i64.wrap ((IntKind.i64.wrap (x9 * x20)) + x10)) + x19)).toNat)) [.int .u8 (IntKind.u8.wrap x80)]) fun M82 =>
 some (wiener_Plane.c240142569468 A1 n2 c3 x4 x5 A6 n7 c8 x9 x10 x11 x12 x13 x14 A15 n16 c17 x18 (IntKind.i64.wrap (x19 + 1)) x20 x21 A22 n23 c24 x25 x26 A27 n28 c29 x30 x31 A32 n33 c34 x35 x36 A37 n38 c39 x40 x41 M82)) none) none)
 (some (wiener_Plane.c29314279 A1 n2 c3 x4 x5 A6 n7 c8 x9 x11 x12 x13 x14 x20 x21 A22 n23 c24 x25 x26 A27 n28 c29 x30 x31 A32 n33 c34 x35 x36 A37 n38 c39 x40 x41 M)) := by kernel_rfl
theorem wiener_Plane.p30738248890983 (k lo : Nat) (A1 : Option Addr) (n2 : Nat) (c3 : Nat) (x4 : Int) (x5 : Int) (A6 : Option Addr) (n7 : Nat) (c8 : Nat) (x9 : Int) (x10 : Int) (x11 : Int) (A12 : Option Addr) (n13 : Nat) (c14 : Nat) (x15 : Int) (x16 : Int) (x17 : Int) (x18 : Int) (x19 : Int) (x20 : Int) (x21 : Int) (x22 : Int) (x23 : Int) (x24 : Int) (x25 : Int) (x26 : Int) (x27 : Int) (x28 : Int) (x29 : Int) (x30 : Int) (A31 : Option Addr) (n32 : Nat) (c33 : Nat) (x34 : Int) (x35 : Int) (A36 : Option Addr) (n37 : Nat) (c38 : Nat) (x39 : Int) (x40 : Int) (A41 : Option Addr) (n42 : Nat) (c43 : Nat) (x44 : Int) (x45 : Int) (A46 : Option Addr) (n47 : Nat) (c48 : Nat) (x49 : Int) (x50 : Int) (x51 : Int) (x52 : Int) (x53 : Int) (x54 : Int) (x55 : Int) (x56 : Int) (x57 : Int) (x58 : Int) (x59 : Int) (A60 : Option Addr) (n61 : Nat) (c62 : Nat) (M : Mem) : piece P T k lo F.wiener_Plane 30738248890983 [.v (.slice A1 n2 c3), .v (.int .i64 x4), .l 4 0, .l 5 0, .l 8 0, .v (.int .i64 x5), .l 11 0, .v (.slice A6 n7 c8), .v (.int .i64 x9), .l 14 0, .l 19 0, .v (.int .i64 x10), .v (.int .i64 x11), .v (.slice A12 n13 c14), .v (.int .i64 x15), .v (.int .i64 x16), .l 27 0, .v (.int .i64 x17), .v (.int .i64 x18), .v (.int .i64 x19), .v (.int .i64 x20), .v (.agg ⟨[.int .i64 x21, .int .i64 x22, .int .i64 x23, .int .i64 x24, .int .i64 x25, .int .i64 x26, .int .i64 x27]⟩), .v (.int .i64 x28)] [[.int .i64 x29, .int .i64 x30, .slice A31 n32 c33], [.int .i64 x34, .int .i64 x35, .slice A36 n37 c38], [.int .i64 x39, .int .i64 x40, .slice A41 n42 c43], [.int .i64 x44, .int .i64 x45, .slice A46 n47 c48], [.int .i64 x49, .int .i64 x50], [.int .i64 x51, .int .i64 x52, .int .i64 x53, .int .i64 x54, .int .i64 x55, .int .i64 x56, .int .i64 x57], [.int .i64 x58, .int .i64 x59, .slice A60 n61 c62]] M =
 ob (acall P T k lo F.wiener_across [.agg ⟨[.int .i64 x58, .int .i64 x59, .slice A60 n61 c62]⟩, .int .i64 x16, .agg ⟨[.int .i64 x51, .int .i64 x52, .int .i64 x53, .int .i64 x54, .int .i64 x55, .int .i64 x56, .int .i64 x57]⟩, .int .i64 x10, .int .i64 x11] M) fun r83 =>
 ob ((some r83.1).bind Value.slc?) fun s84 =>
 some (wiener_Plane.c245905991127868 A1 n2 c3 x4 x5 A6 n7 c8 x9 x10 x11 A12 n13 c14 x15 x17 x18 x19 x20 x21 x22 x23 x24 x25 x26 x27 x28 s84.a s84.n s84.c (s84.n : Int) 0 x29 x30 A31 n32 c33 x34 x35 A36 n37 c38 x39 x40 A41 n42 c43 x44 x45 A46 n47 c48 x49 x50 x51 x52 x53 x54 x55 x56 x57 r83.2) := by kernel_rfl
theorem wiener_Plane.p245905991127868 (k lo : Nat) (A1 : Option Addr) (n2 : Nat) (c3 : Nat) (x4 : Int) (x5 : Int) (A6 : Option Addr) (n7 : Nat) (c8 : Nat) (x9 : Int) (x10 : Int) (x11 : Int) (A12 : Option Addr) (n13 : Nat) (c14 : Nat) (x15 : Int) (x16 : Int) (x17 : Int) (x18 : Int) (x19 : Int) (x20 : Int) (x21 : Int) (x22 : Int) (x23 : Int) (x24 : Int) (x25 : Int) (x26 : Int) (x27 : Int) (A28 : Option Addr) (n29 : Nat) (c30 : Nat) (x31 : Int) (x32 : Int) (x33 : Int) (x34 : Int) (A35 : Option Addr) (n36 : Nat) (c37 : Nat) (x38 : Int) (x39 : Int) (A40 : Option Addr) (n41 : Nat) (c42 : Nat) (x43 : Int) (x44 : Int) (A45 : Option Addr) (n46 : Nat) (c47 : Nat) (x48 : Int) (x49 : Int) (A50 : Option Addr) (n51 : Nat) (c52 : Nat) (x53 : Int) (x54 : Int) (x55 : Int) (x56 : Int) (x57 : Int) (x58 : Int) (x59 : Int) (x60 : Int) (x61 : Int) (M : Mem) : piece P T k lo F.wiener_Plane 245905991127868 [.v (.slice A1 n2 c3), .v (.int .i64 x4), .l 4 0, .l 5 0, .l 8 0, .v (.int .i64 x5), .l 11 0, .v (.slice A6 n7 c8), .v (.int .i64 x9), .l 14 0, .l 19 0, .v (.int .i64 x10), .v (.int .i64 x11), .v (.slice A12 n13 c14), .v (.int .i64 x15), .v (.int .i64 x16), .v (.int .i64 x17), .v (.int .i64 x18), .v (.int .i64 x19), .v (.agg ⟨[.int .i64 x20, .int .i64 x21, .int .i64 x22, .int .i64 x23, .int .i64 x24, .int .i64 x25, .int .i64 x26]⟩), .v (.int .i64 x27), .v (.slice A28 n29 c30), .v (.int .i64 x31), .v (.int .i64 x32)] [[.int .i64 x33, .int .i64 x34, .slice A35 n36 c37], [.int .i64 x38, .int .i64 x39, .slice A40 n41 c42], [.int .i64 x43, .int .i64 x44, .slice A45 n46 c47], [.int .i64 x48, .int .i64 x49, .slice A50 n51 c52], [.int .i64 x53, .int .i64 x54], [.int .i64 x55, .int .i64 x56, .int .i64 x57, .int .i64 x58, .int .i64 x59, .int .i64 x60, .int .i64 x61]] M =
 bb (decide (x32 < x31))
 (pb (0 ≤ x32 ∧ x32 < (n29 : Int))
 (ob A28 fun a85 =>
 ob ((M.ld (plus a85 x32.toNat)).bind (Value.int? .i64)) fun x86 =>
 pb (0 ≤ x32 ∧ x32 < (n13 : Int))
 (ob A12 fun a87 =>
 ob ((M.ld (plus a87 x32.toNat)).bind (Value.int? .i64)) fun x88 =>
 pb (0 ≤ x32 ∧ x32 < (n13 : Int))
 (ob A12 fun a89 =>
 ob (M.st lo (plus a89 x32.toNat) [.int .i64 (IntKind.i64.wrap (x88 + (IntKind.i64.wrap (x15 * x86))))]) fun M90 =>
 some (wiener_Plane.c245905991127868 A1 n2 c3 x4 x5 A6 n7 c8 x9 x10 x11 A12 n13 c14 x15 x16 x17 x18 x19 x20 x21 x22 x23 x24 x25 x26 x27 A28 n29 c30 x31 (IntKind.i64.wrap (x32 + 1)) x33 x34 A35 n36 c37 x38 x39 A40 n41 c42 x43 x44 A45 n46 c47 x48 x49 A50 n51 c52 x53 x54 x55 x56 x57 x58 x59 x60 x61 M90)) none) none) none)
 (some (wiener_Plane.c240142569460 A1 n2 c3 x4 x5 A6 n7 c8 x9 x10 x11 A12 n13 c14 x16 x17 x18 x19 x20 x21 x22 x23 x24 x25 x26 (IntKind.i64.wrap (x27 + 1)) x33 x34 A35 n36 c37 x38 x39 A40 n41 c42 x43 x44 A45 n46 c47 x48 x49 A50 n51 c52 x53 x54 x55 x56 x57 x58 x59 x60 x61 M)) := by kernel_rfl
theorem plane_New.entry (k lo : Nat) (x1 : Int) (x2 : Int) (x3 : Int) (M : Mem) : entry P T k lo F.plane_New [.int .i64 x1, .int .i64 x2, .int .u8 x3] M =
 ob (acall P T k lo F.plane_sizes [.int .i64 x1, .int .i64 x2] M) fun r9 =>
 ob ((some r9.1).bind Value.bool?) fun b10 =>
 bb (!b10)
 (some (.ret (.tuple ⟨[.agg ⟨[.int .i64 0, .int .i64 0, .slice none 0 0]⟩, .int .i64 2]⟩) r9.2))
 (ob (acall P T k lo F.slices_Repeat__uint8_uint8 [.slice (some ⟨r9.2.length, 0, none⟩) 1 1, .int .i64 (IntKind.i64.wrap (x1 * x2))] (r9.2 ++ [⟨.fx, [.int .u8 x3]⟩] : Mem)) fun r11 =>
 ob ((some r11.1).bind Value.slc?) fun s12 =>
 some (.ret (.tuple ⟨[.agg ⟨[.int .i64 x1, .int .i64 x2, .slice s12.a s12.n s12.c]⟩, .int .i64 0]⟩) r11.2)) := by kernel_rfl
theorem plane_Same.entry (k lo : Nat) (x1 : Int) (x2 : Int) (A3 : Option Addr) (n4 : Nat) (c5 : Nat) (x6 : Int) (x7 : Int) (A8 : Option Addr) (n9 : Nat) (c10 : Nat) (M : Mem) : entry P T k lo F.plane_Same [.agg ⟨[.int .i64 x1, .int .i64 x2, .slice A3 n4 c5]⟩, .agg ⟨[.int .i64 x6, .int .i64 x7, .slice A8 n9 c10]⟩] M =
 bb (x1 == x6)
 (bb (x2 == x7)
 (ob (acall P T k lo F.slices_Equal__uint8_uint8 [.slice A3 n4 c5, .slice A8 n9 c10] M) fun r16 =>
 ob ((some r16.1).bind Value.bool?) fun b17 =>
 some (.ret (.bool b17) r16.2))
 (some (.ret (.bool false) M)))
 (some (.ret (.bool false) M)) := by kernel_rfl
theorem plane_Frame.entry (k lo : Nat) (x1 : Int) (x2 : Int) (x3 : Int) (M : Mem) : entry P T k lo F.plane_Frame [.int .i64 x1, .int .i64 x2, .int .u8 x3] M =
 ob (acall P T k lo F.plane_sides [.int .i64 x1, .int .i64 x2] M) fun r9 =>
 ob ((some r9.1).bind Value.bool?) fun b10 =>
 bb (!b10)
 (some (.ret (.tuple ⟨[.agg ⟨[.int .i64 0, .int .i64 0, .slice none 0 0, .int .i64 0, .int .i64 0, .slice none 0 0, .int .i64 0, .int .i64 0, .slice none 0 0]⟩, .int .i64 2]⟩) r9.2))
 (some (plane_Frame.c244 x1 x2 x3 0 0 0 none 0 0 0 0 none 0 0 0 0 none 0 0 ([.int .i64 0, .int .i64 0, .slice none 0 0, .int .i64 0, .int .i64 0, .slice none 0 0, .int .i64 0, .int .i64 0, .slice none 0 0]) r9.2)) := by kernel_rfl
theorem plane_Frame.p244 (k lo : Nat) (x1 : Int) (x2 : Int) (x3 : Int) (x4 : Int) (x5 : Int) (x6 : Int) (A7 : Option Addr) (n8 : Nat) (c9 : Nat) (x10 : Int) (x11 : Int) (A12 : Option Addr) (n13 : Nat) (c14 : Nat) (x15 : Int) (x16 : Int) (A17 : Option Addr) (n18 : Nat) (c19 : Nat) (cs20 : List Value) (M : Mem) : piece P T k lo F.plane_Frame 244 [.v (.int .i64 x1), .v (.int .i64 x2), .v (.int .u8 x3), .l 6 0, .l 8 0, .v (.int .i64 x4)] [[.int .i64 x5, .int .i64 x6, .slice A7 n8 c9, .int .i64 x10, .int .i64 x11, .slice A12 n13 c14, .int .i64 x15, .int .i64 x16, .slice A17 n18 c19], cs20] M =
 bb (decide (x4 < 3))
 (ob (acall P T k lo F.plane_New [.int .i64 x1, .int .i64 x2, .int .u8 x3] M) fun r21 =>
 ob (r21.1.tup? 2) fun l22 =>
 ob ((l22[0]?).bind (Value.agg? 3)) fun l23 =>
 ob ((l23[0]?).bind (Value.int? .i64)) fun x24 =>
 ob ((l23[1]?).bind (Value.int? .i64)) fun x25 =>
 ob ((l23[2]?).bind Value.slc?) fun s26 =>
 ob ((l22[1]?).bind (Value.int? .i64)) fun x27 =>
 bb (x27 != 0)
 (some (.ret (.tuple ⟨[.agg ⟨[.int .i64 0, .int .i64 0, .slice none 0 0, .int .i64 0, .int .i64 0, .slice none 0 0, .int .i64 0, .int .i64 0, .slice none 0 0]⟩, .int .i64 x27]⟩) r21.2))
 (pb (0 ≤ x4 ∧ x4 < (3 : Int))
 (pb (0 + (x4.toNat * 3) + 3 ≤ cs20.length)
 (bb (x4 == 0)
 (some (plane_Frame.c1959 (IntKind.i64.wrap (Int.tdiv x1 2)) (IntKind.i64.wrap (Int.tdiv x2 2)) x3 x4 x5 x6 A7 n8 c9 x10 x11 A12 n13 c14 x15 x16 A17 n18 c19 (setL cs20 (0 + (x4.toNat * 3)) [.int .i64 x24, .int .i64 x25, .slice s26.a s26.n s26.c]) r21.2))
 (some (plane_Frame.c1959 x1 x2 x3 x4 x5 x6 A7 n8 c9 x10 x11 A12 n13 c14 x15 x16 A17 n18 c19 (setL cs20 (0 + (x4.toNat * 3)) [.int .i64 x24, .int .i64 x25, .slice s26.a s26.n s26.c]) r21.2))) none) none))
 (ob ((cs20[0]?).bind (Value.int? .i64)) fun x28 =>
 ob ((cs20[1]?).bind (Value.int? .i64)) fun x29 =>
 ob ((cs20[2]?).bind Value.slc?) fun s30 =>
 ob ((cs20[3]?).bind (Value.int? .i64)) fun x31 =>
 ob ((cs20[4]?).bind (Value.int? .i64)) fun x32 =>
 ob ((cs20[5]?).bind Value.slc?) fun s33 =>
 ob ((cs20[6]?).bind (Value.int? .i64)) fun x34 =>
 ob ((cs20[7]?).bind (Value.int? .i64)) fun x35 =>
 ob ((cs20[8]?).bind Value.slc?) fun s36 =>
 some (.ret (.tuple ⟨[.agg ⟨[.int .i64 x28, .int .i64 x29, .slice s30.a s30.n s30.c, .int .i64 x31, .int .i64 x32, .slice s33.a s33.n s33.c, .int .i64 x34, .int .i64 x35, .slice s36.a s36.n s36.c]⟩, .int .i64 0]⟩) M)) := by kernel_rfl
theorem plane_Frame.p1959 (k lo : Nat) (x1 : Int) (x2 : Int) (x3 : Int) (x4 : Int) (x5 : Int) (x6 : Int) (A7 : Option Addr) (n8 : Nat) (c9 : Nat) (x10 : Int) (x11 : Int) (A12 : Option Addr) (n13 : Nat) (c14 : Nat) (x15 : Int) (x16 : Int) (A17 : Option Addr) (n18 : Nat) (c19 : Nat) (cs20 : List Value) (M : Mem) : piece P T k lo F.plane_Frame 1959 [.v (.int .i64 x1), .v (.int .i64 x2), .v (.int .u8 x3), .l 6 0, .l 8 0, .v (.int .i64 x4)] [[.int .i64 x5, .int .i64 x6, .slice A7 n8 c9, .int .i64 x10, .int .i64 x11, .slice A12 n13 c14, .int .i64 x15, .int .i64 x16, .slice A17 n18 c19], cs20] M =
 some (plane_Frame.c244 x1 x2 x3 (IntKind.i64.wrap (x4 + 1)) x5 x6 A7 n8 c9 x10 x11 A12 n13 c14 x15 x16 A17 n18 c19 cs20 M) := by kernel_rfl
theorem zoetropelaw25_bare.entry (k lo : Nat) (x1 : Int) (x2 : Int) (x3 : Int) (M : Mem) : entry P T k lo F.zoetropelaw25_bare [.int .i64 x1, .int .i64 x2, .int .u8 x3] M =
 ob (acall P T k lo F.zoetropelaw25_cells [.int .i64 (IntKind.i64.wrap (Int.tdiv x1 4)), .int .i64 (IntKind.i64.wrap (Int.tdiv x2 4)), .int .u8 x3] M) fun r9 =>
 ob ((some r9.1).bind (Value.agg? 5)) fun l10 =>
 ob ((l10[0]?).bind (Value.int? .i64)) fun x11 =>
 ob ((l10[1]?).bind (Value.int? .i64)) fun x12 =>
 ob ((l10[2]?).bind Value.slc?) fun s13 =>
 ob ((l10[3]?).bind Value.slc?) fun s14 =>
 ob ((l10[4]?).bind Value.slc?) fun s15 =>
 ob (acall P T k lo F.zoetropelaw25_cells [.int .i64 (IntKind.i64.wrap (Int.tdiv x1 8)), .int .i64 (IntKind.i64.wrap (Int.tdiv x2 8)), .int .u8 x3] r9.2) fun r16 =>
 ob ((some r16.1).bind (Value.agg? 5)) fun l17 =>
 ob ((l17[0]?).bind (Value.int? .i64)) fun x18 =>
 ob ((l17[1]?).bind (Value.int? .i64)) fun x19 =>
 ob ((l17[2]?).bind Value.slc?) fun s20 =>
 ob ((l17[3]?).bind Value.slc?) fun s21 =>
 ob ((l17[4]?).bind Value.slc?) fun s22 =>
 ob (acall P T k lo F.zoetropelaw25_cells [.int .i64 (IntKind.i64.wrap (Int.tdiv x1 8)), .int .i64 (IntKind.i64.wrap (Int.tdiv x2 8)), .int .u8 x3] r16.2) fun r23 =>
 ob ((some r23.1).bind (Value.agg? 5)) fun l24 =>
 ob ((l24[0]?).bind (Value.int? .i64)) fun x25 =>
 ob ((l24[1]?).bind (Value.int? .i64)) fun x26 =>
 ob ((l24[2]?).bind Value.slc?) fun s27 =>
 ob ((l24[3]?).bind Value.slc?) fun s28 =>
 ob ((l24[4]?).bind Value.slc?) fun s29 =>
 pb (0 ≤ IntKind.i64.wrap ((IntKind.i64.wrap (Int.tdiv x1 8)) * (IntKind.i64.wrap (Int.tdiv x2 8))) ∧ room ((IntKind.i64.wrap ((IntKind.i64.wrap (Int.tdiv x1 8)) * (IntKind.i64.wrap (Int.tdiv x2 8)))).toNat) 1)
 (pb (0 ≤ IntKind.i64.wrap ((IntKind.i64.wrap (Int.tdiv (IntKind.i64.wrap (x1 + 63)) 64)) * (IntKind.i64.wrap (Int.tdiv (IntKind.i64.wrap (x2 + 63)) 64))) ∧ room ((IntKind.i64.wrap ((IntKind.i64.wrap (Int.tdiv (IntKind.i64.wrap (x1 + 63)) 64)) * (IntKind.i64.wrap (Int.tdiv (IntKind.i64.wrap (x2 + 63)) 64)))).toNat) 8)
 (some (.ret (.agg ⟨[.int .i64 x11, .int .i64 x12, .slice s13.a s13.n s13.c, .slice s14.a s14.n s14.c, .slice s15.a s15.n s15.c, .int .i64 x18, .int .i64 x19, .slice s20.a s20.n s20.c, .slice s21.a s21.n s21.c, .slice s22.a s22.n s22.c, .int .i64 x25, .int .i64 x26, .slice s27.a s27.n s27.c, .slice s28.a s28.n s28.c, .slice s29.a s29.n s29.c, .slice (some ⟨r23.2.length, 0, none⟩) ((IntKind.i64.wrap ((IntKind.i64.wrap (Int.tdiv x1 8)) * (IntKind.i64.wrap (Int.tdiv x2 8)))).toNat) ((IntKind.i64.wrap ((IntKind.i64.wrap (Int.tdiv x1 8)) * (IntKind.i64.wrap (Int.tdiv x2 8)))).toNat), .slice (some ⟨(r23.2 ++ [⟨.fx, zerosL [.bool false] ((IntKind.i64.wrap ((IntKind.i64.wrap (Int.tdiv x1 8)) * (IntKind.i64.wrap (Int.tdiv x2 8)))).toNat)⟩] : Mem).length, 0, none⟩) ((IntKind.i64.wrap ((IntKind.i64.wrap (Int.tdiv (IntKind.i64.wrap (x1 + 63)) 64)) * (IntKind.i64.wrap (Int.tdiv (IntKind.i64.wrap (x2 + 63)) 64)))).toNat) ((IntKind.i64.wrap ((IntKind.i64.wrap (Int.tdiv (IntKind.i64.wrap (x1 + 63)) 64)) * (IntKind.i64.wrap (Int.tdiv (IntKind.i64.wrap (x2 + 63)) 64)))).toNat), .slice none 0 0, .slice none 0 0, .slice none 0 0]⟩) ((r23.2 ++ [⟨.fx, zerosL [.bool false] ((IntKind.i64.wrap ((IntKind.i64.wrap (Int.tdiv x1 8)) * (IntKind.i64.wrap (Int.tdiv x2 8)))).toNat)⟩] : Mem) ++ [⟨.fx, zerosL [.int .i64 0] ((IntKind.i64.wrap ((IntKind.i64.wrap (Int.tdiv (IntKind.i64.wrap (x1 + 63)) 64)) * (IntKind.i64.wrap (Int.tdiv (IntKind.i64.wrap (x2 + 63)) 64)))).toNat)⟩] : Mem))) none) none := by kernel_rfl
theorem zoetropelaw25_step.entry (k lo : Nat) (M : Mem) : entry P T k lo F.zoetropelaw25_step [] M =
 ob (acall P T k lo F.plane_Frame [.int .i64 16, .int .i64 16, .int .u8 50] M) fun r6 =>
 ob (r6.1.tup? 2) fun l7 =>
 ob ((l7[0]?).bind (Value.agg? 9)) fun l8 =>
 ob ((l8[0]?).bind (Value.int? .i64)) fun x9 =>
 ob ((l8[1]?).bind (Value.int? .i64)) fun x10 =>
 ob ((l8[2]?).bind Value.slc?) fun s11 =>
 ob ((l8[3]?).bind (Value.int? .i64)) fun x12 =>
 ob ((l8[4]?).bind (Value.int? .i64)) fun x13 =>
 ob ((l8[5]?).bind Value.slc?) fun s14 =>
 ob ((l8[6]?).bind (Value.int? .i64)) fun x15 =>
 ob ((l8[7]?).bind (Value.int? .i64)) fun x16 =>
 ob ((l8[8]?).bind Value.slc?) fun s17 =>
 ob ((l7[1]?).bind (Value.int? .i64)) fun x18 =>
 pb (0 ≤ (256 : Int) ∧ room 256 1)
 (some (zoetropelaw25_step.c244 (some ⟨r6.2.length, 0, none⟩) 256 256 0 0 0 none 0 0 0 0 none 0 0 0 0 none 0 0 x9 x10 s11.a s11.n s11.c x12 x13 s14.a s14.n s14.c x15 x16 s17.a s17.n s17.c (r6.2 ++ [⟨.fx, zerosL [.int .u8 0] 256⟩] : Mem))) none := by kernel_rfl
theorem zoetropelaw25_step.p244 (k lo : Nat) (A1 : Option Addr) (n2 : Nat) (c3 : Nat) (x4 : Int) (x5 : Int) (x6 : Int) (A7 : Option Addr) (n8 : Nat) (c9 : Nat) (x10 : Int) (x11 : Int) (A12 : Option Addr) (n13 : Nat) (c14 : Nat) (x15 : Int) (x16 : Int) (A17 : Option Addr) (n18 : Nat) (c19 : Nat) (x20 : Int) (x21 : Int) (A22 : Option Addr) (n23 : Nat) (c24 : Nat) (x25 : Int) (x26 : Int) (A27 : Option Addr) (n28 : Nat) (c29 : Nat) (x30 : Int) (x31 : Int) (A32 : Option Addr) (n33 : Nat) (c34 : Nat) (M : Mem) : piece P T k lo F.zoetropelaw25_step 244 [.l 0 0, .l 1 0, .v (.slice A1 n2 c3), .v (.int .i64 x4)] [[.int .i64 x5, .int .i64 x6, .slice A7 n8 c9, .int .i64 x10, .int .i64 x11, .slice A12 n13 c14, .int .i64 x15, .int .i64 x16, .slice A17 n18 c19], [.int .i64 x20, .int .i64 x21, .slice A22 n23 c24, .int .i64 x25, .int .i64 x26, .slice A27 n28 c29, .int .i64 x30, .int .i64 x31, .slice A32 n33 c34]] M =
 bb (decide (x4 < 256))
 (pb (0 ≤ x4 ∧ x4 < (n2 : Int))
 (ob A1 fun a35 =>
 ob (M.st lo (plus a35 x4.toNat) [.int .u8 100]) fun M36 =>
 bb (decide (Int.tmod x4 16 > 7))
 (pb (0 ≤ x4 ∧ x4 < (n2 : Int))
 (ob A1 fun a37 =>
 ob (M36.st lo (plus a37 x4.toNat) [.int .u8 104]) fun M38 =>
 some (zoetropelaw25_step.c979 A1 n2 c3 x4 x5 x6 A7 n8 c9 x10 x11 A12 n13 c14 x15 x16 A17 n18 c19 x20 x21 A22 n23 c24 x25 x26 A27 n28 c29 x30 x31 A32 n33 c34 M38)) none)
 (some (zoetropelaw25_step.c979 A1 n2 c3 x4 x5 x6 A7 n8 c9 x10 x11 A12 n13 c14 x15 x16 A17 n18 c19 x20 x21 A22 n23 c24 x25 x26 A27 n28 c29 x30 x31 A32 n33 c34 M36))) none)
 (some (.ret (.agg ⟨[.int .i64 16, .int .i64 16, .slice A1 n2 c3, .int .i64 x25, .int .i64 x26, .slice A27 n28 c29, .int .i64 x30, .int .i64 x31, .slice A32 n33 c34]⟩) M)) := by kernel_rfl
theorem zoetropelaw25_step.p979 (k lo : Nat) (A1 : Option Addr) (n2 : Nat) (c3 : Nat) (x4 : Int) (x5 : Int) (x6 : Int) (A7 : Option Addr) (n8 : Nat) (c9 : Nat) (x10 : Int) (x11 : Int) (A12 : Option Addr) (n13 : Nat) (c14 : Nat) (x15 : Int) (x16 : Int) (A17 : Option Addr) (n18 : Nat) (c19 : Nat) (x20 : Int) (x21 : Int) (A22 : Option Addr) (n23 : Nat) (c24 : Nat) (x25 : Int) (x26 : Int) (A27 : Option Addr) (n28 : Nat) (c29 : Nat) (x30 : Int) (x31 : Int) (A32 : Option Addr) (n33 : Nat) (c34 : Nat) (M : Mem) : piece P T k lo F.zoetropelaw25_step 979 [.l 0 0, .l 1 0, .v (.slice A1 n2 c3), .v (.int .i64 x4)] [[.int .i64 x5, .int .i64 x6, .slice A7 n8 c9, .int .i64 x10, .int .i64 x11, .slice A12 n13 c14, .int .i64 x15, .int .i64 x16, .slice A17 n18 c19], [.int .i64 x20, .int .i64 x21, .slice A22 n23 c24, .int .i64 x25, .int .i64 x26, .slice A27 n28 c29, .int .i64 x30, .int .i64 x31, .slice A32 n33 c34]] M =
 some (zoetropelaw25_step.c244 A1 n2 c3 (IntKind.i64.wrap (x4 + 1)) x5 x6 A7 n8 c9 x10 x11 A12 n13 c14 x15 x16 A17 n18 c19 x20 x21 A22 n23 c24 x25 x26 A27 n28 c29 x30 x31 A32 n33 c34 M) := by kernel_rfl
theorem zoetroperef00_EqBytes.entry (k lo : Nat) (A1 : Option Addr) (n2 : Nat) (c3 : Nat) (A4 : Option Addr) (n5 : Nat) (c6 : Nat) (M : Mem) : entry P T k lo F.zoetroperef00_EqBytes [.slice A1 n2 c3, .slice A4 n5 c6] M =
 bb ((n2 : Int) != (n5 : Int))
 (some (.ret (.bool false) M))
 (some (zoetroperef00_EqBytes.c116 A1 n2 c3 A4 n5 c6 0 M)) := by kernel_rfl
theorem zoetroperef00_EqBytes.p116 (k lo : Nat) (A1 : Option Addr) (n2 : Nat) (c3 : Nat) (A4 : Option Addr) (n5 : Nat) (c6 : Nat) (x7 : Int) (M : Mem) : piece P T k lo F.zoetroperef00_EqBytes 116 [.v (.slice A1 n2 c3), .v (.slice A4 n5 c6), .v (.int .i64 x7)] [] M =
 bb (decide (x7 < (n2 : Int)))
 (pb (0 ≤ x7 ∧ x7 < (n2 : Int))
 (ob A1 fun a12 =>
 ob ((M.ld (plus a12 x7.toNat)).bind (Value.int? .u8)) fun x13 =>
 pb (0 ≤ x7 ∧ x7 < (n5 : Int))
 (ob A4 fun a14 =>
 ob ((M.ld (plus a14 x7.toNat)).bind (Value.int? .u8)) fun x15 =>
 bb (x13 != x15)
 (some (.ret (.bool false) M))
 (some (zoetroperef00_EqBytes.c116 A1 n2 c3 A4 n5 c6 (IntKind.i64.wrap (x7 + 1)) M))) none) none)
 (some (.ret (.bool true) M)) := by kernel_rfl
theorem chain_copied.entry (k lo : Nat) (x1 : Int) (x2 : Int) (A3 : Option Addr) (n4 : Nat) (c5 : Nat) (x6 : Int) (x7 : Int) (A8 : Option Addr) (n9 : Nat) (c10 : Nat) (x11 : Int) (x12 : Int) (A13 : Option Addr) (n14 : Nat) (c15 : Nat) (M : Mem) : entry P T k lo F.chain_copied [.agg ⟨[.int .i64 x1, .int .i64 x2, .slice A3 n4 c5, .int .i64 x6, .int .i64 x7, .slice A8 n9 c10, .int .i64 x11, .int .i64 x12, .slice A13 n14 c15]⟩] M =
 some (chain_copied.c52 0 ([.int .i64 x1, .int .i64 x2, .slice A3 n4 c5, .int .i64 x6, .int .i64 x7, .slice A8 n9 c10, .int .i64 x11, .int .i64 x12, .slice A13 n14 c15]) 0 0 none 0 0 0 0 none 0 0 0 0 none 0 0 M) := by kernel_rfl
theorem chain_copied.p52 (k lo : Nat) (x1 : Int) (cs2 : List Value) (x3 : Int) (x4 : Int) (A5 : Option Addr) (n6 : Nat) (c7 : Nat) (x8 : Int) (x9 : Int) (A10 : Option Addr) (n11 : Nat) (c12 : Nat) (x13 : Int) (x14 : Int) (A15 : Option Addr) (n16 : Nat) (c17 : Nat) (M : Mem) : piece P T k lo F.chain_copied 52 [.l 1 0, .l 2 0, .v (.int .i64 x1)] [cs2, [.int .i64 x3, .int .i64 x4, .slice A5 n6 c7, .int .i64 x8, .int .i64 x9, .slice A10 n11 c12, .int .i64 x13, .int .i64 x14, .slice A15 n16 c17]] M =
 bb (decide (x1 < 3))
 (pb (0 ≤ x1 ∧ x1 < (3 : Int))
 (ob ((cs2[0 + (x1.toNat * 3) + 2 + 0]?).bind Value.slc?) fun s21 =>
 ob (acall P T k lo F.slices_Clone__uint8_uint8 [.slice s21.a s21.n s21.c] M) fun r22 =>
 ob ((some r22.1).bind Value.slc?) fun s23 =>
 pb (0 ≤ x1 ∧ x1 < (3 : Int))
 (pb (0 + (x1.toNat * 3) + 2 + 1 ≤ cs2.length)
 (some (chain_copied.c52 (IntKind.i64.wrap (x1 + 1)) (setL cs2 (0 + (x1.toNat * 3) + 2) [.slice s23.a s23.n s23.c]) x3 x4 A5 n6 c7 x8 x9 A10 n11 c12 x13 x14 A15 n16 c17 r22.2)) none) none) none)
 (ob ((cs2[0]?).bind (Value.int? .i64)) fun x24 =>
 ob ((cs2[1]?).bind (Value.int? .i64)) fun x25 =>
 ob ((cs2[2]?).bind Value.slc?) fun s26 =>
 ob ((cs2[3]?).bind (Value.int? .i64)) fun x27 =>
 ob ((cs2[4]?).bind (Value.int? .i64)) fun x28 =>
 ob ((cs2[5]?).bind Value.slc?) fun s29 =>
 ob ((cs2[6]?).bind (Value.int? .i64)) fun x30 =>
 ob ((cs2[7]?).bind (Value.int? .i64)) fun x31 =>
 ob ((cs2[8]?).bind Value.slc?) fun s32 =>
 some (.ret (.agg ⟨[.int .i64 x24, .int .i64 x25, .slice s26.a s26.n s26.c, .int .i64 x27, .int .i64 x28, .slice s29.a s29.n s29.c, .int .i64 x30, .int .i64 x31, .slice s32.a s32.n s32.c]⟩) M)) := by kernel_rfl
theorem chain_run_passes.entry (k lo : Nat) (a1 : Addr) (M : Mem) : entry P T k lo F.chain_run_passes [.pointer (some a1)] M =
 ob ((M.ld (plus (plus a1 18) 18)).bind (Value.int? .i64)) fun x7 =>
 ob ((M.ld (plus (plus (plus a1 18) 18) 1)).bind (Value.int? .i64)) fun x8 =>
 ob ((M.ld (plus (plus (plus a1 18) 18) 2)).bind (Value.int? .i64)) fun x9 =>
 ob ((M.ld (plus (plus (plus a1 18) 18) 3)).bind (Value.int? .i64)) fun x10 =>
 ob ((M.ld a1).bind (Value.int? .i64)) fun x11 =>
 ob ((M.ld (plus a1 1)).bind (Value.int? .i64)) fun x12 =>
 ob ((M.ld (plus a1 2)).bind Value.slc?) fun s13 =>
 ob ((M.ld (plus a1 3)).bind (Value.int? .i64)) fun x14 =>
 ob ((M.ld (plus a1 4)).bind (Value.int? .i64)) fun x15 =>
 ob ((M.ld (plus a1 5)).bind Value.slc?) fun s16 =>
 ob ((M.ld (plus a1 6)).bind (Value.int? .i64)) fun x17 =>
 ob ((M.ld (plus a1 7)).bind (Value.int? .i64)) fun x18 =>
 ob ((M.ld (plus a1 8)).bind Value.slc?) fun s19 =>
 some (chain_run_passes.c244 a1 x11 x12 s13.a s13.n s13.c x14 x15 s16.a s16.n s16.c x17 x18 s19.a s19.n s19.c 0 x7 x8 x9 x9 x10 x10 M) := by kernel_rfl
theorem chain_run_passes.p244 (k lo : Nat) (a1 : Addr) (x2 : Int) (x3 : Int) (A4 : Option Addr) (n5 : Nat) (c6 : Nat) (x7 : Int) (x8 : Int) (A9 : Option Addr) (n10 : Nat) (c11 : Nat) (x12 : Int) (x13 : Int) (A14 : Option Addr) (n15 : Nat) (c16 : Nat) (x17 : Int) (x18 : Int) (x19 : Int) (x20 : Int) (x21 : Int) (x22 : Int) (x23 : Int) (M : Mem) : piece P T k lo F.chain_run_passes 244 [.v (.pointer (some a1)), .l 4 0, .v (.agg ⟨[.int .i64 x2, .int .i64 x3, .slice A4 n5 c6, .int .i64 x7, .int .i64 x8, .slice A9 n10 c11, .int .i64 x12, .int .i64 x13, .slice A14 n15 c16]⟩), .v (.int .i64 x17)] [[.int .i64 x18, .int .i64 x19, .int .i64 x20, .int .i64 x21, .int .i64 x22, .int .i64 x23]] M =
 bb (decide (x17 < 3))
 (pb (0 ≤ x17 ∧ x17 < (3 : Int))
 (ob ((([.int .i64 x2, .int .i64 x3, .slice A4 n5 c6, .int .i64 x7, .int .i64 x8, .slice A9 n10 c11, .int .i64 x12, .int .i64 x13, .slice A14 n15 c16] : List Value)[x17.toNat * 3 + 0]?).bind (Value.int? .i64)) fun x24 =>
 ob ((([.int .i64 x2, .int .i64 x3, .slice A4 n5 c6, .int .i64 x7, .int .i64 x8, .slice A9 n10 c11, .int .i64 x12, .int .i64 x13, .slice A14 n15 c16] : List Value)[x17.toNat * 3 + 1]?).bind (Value.int? .i64)) fun x25 =>
 ob ((([.int .i64 x2, .int .i64 x3, .slice A4 n5 c6, .int .i64 x7, .int .i64 x8, .slice A9 n10 c11, .int .i64 x12, .int .i64 x13, .slice A14 n15 c16] : List Value)[x17.toNat * 3 + 2]?).bind Value.slc?) fun s26 =>
 some (chain_run_passes.c125332 a1 x17 x2 x3 A4 n5 c6 x7 x8 A9 n10 c11 x12 x13 A14 n15 c16 x17 (some ⟨M.length, 0, none⟩) 2 2 2 0 x18 x19 x20 x21 x22 x23 x24 x25 s26.a s26.n s26.c (M ++ [⟨.fx, [.bool true, .bool false]⟩] : Mem))) none)
 (ob ((M.ld a1).bind (Value.int? .i64)) fun x27 =>
 ob ((M.ld (plus a1 1)).bind (Value.int? .i64)) fun x28 =>
 ob ((M.ld (plus a1 2)).bind Value.slc?) fun s29 =>
 ob ((M.ld (plus a1 3)).bind (Value.int? .i64)) fun x30 =>
 ob ((M.ld (plus a1 4)).bind (Value.int? .i64)) fun x31 =>
 ob ((M.ld (plus a1 5)).bind Value.slc?) fun s32 =>
 ob ((M.ld (plus a1 6)).bind (Value.int? .i64)) fun x33 =>
 ob ((M.ld (plus a1 7)).bind (Value.int? .i64)) fun x34 =>
 ob ((M.ld (plus a1 8)).bind Value.slc?) fun s35 =>
 ob (M.st lo (plus a1 9) [.int .i64 x27, .int .i64 x28, .slice s29.a s29.n s29.c, .int .i64 x30, .int .i64 x31, .slice s32.a s32.n s32.c, .int .i64 x33, .int .i64 x34, .slice s35.a s35.n s35.c]) fun M36 =>
 some (.ret (.int .i64 0) M36)) := by kernel_rfl
theorem chain_run_passes.p125332 (k lo : Nat) (a1 : Addr) (x2 : Int) (x3 : Int) (x4 : Int) (A5 : Option Addr) (n6 : Nat) (c7 : Nat) (x8 : Int) (x9 : Int) (A10 : Option Addr) (n11 : Nat) (c12 : Nat) (x13 : Int) (x14 : Int) (A15 : Option Addr) (n16 : Nat) (c17 : Nat) (x18 : Int) (A19 : Option Addr) (n20 : Nat) (c21 : Nat) (x22 : Int) (x23 : Int) (x24 : Int) (x25 : Int) (x26 : Int) (x27 : Int) (x28 : Int) (x29 : Int) (x30 : Int) (x31 : Int) (A32 : Option Addr) (n33 : Nat) (c34 : Nat) (M : Mem) : piece P T k lo F.chain_run_passes 125332 [.v (.pointer (some a1)), .l 4 0, .v (.int .i64 x2), .l 6 0, .v (.agg ⟨[.int .i64 x3, .int .i64 x4, .slice A5 n6 c7, .int .i64 x8, .int .i64 x9, .slice A10 n11 c12, .int .i64 x13, .int .i64 x14, .slice A15 n16 c17]⟩), .v (.int .i64 x18), .v (.slice A19 n20 c21), .v (.int .i64 x22), .v (.int .i64 x23)] [[.int .i64 x24, .int .i64 x25, .int .i64 x26, .int .i64 x27, .int .i64 x28, .int .i64 x29], [.int .i64 x30, .int .i64 x31, .slice A32 n33 c34]] M =
 bb (decide (x23 < x22))
 (pb (0 ≤ x23 ∧ x23 < (n20 : Int))
 (ob A19 fun a37 =>
 ob ((M.ld (plus a37 x23.toNat)).bind Value.bool?) fun b38 =>
 pb (0 ≤ x2 ∧ x2 < (3 : Int))
 (ob ((M.ld (plus (plus a1 48) (x2.toNat * 5))).bind (Value.int? .i64)) fun x39 =>
 ob ((M.ld (plus (plus (plus a1 48) (x2.toNat * 5)) 1)).bind (Value.int? .i64)) fun x40 =>
 ob ((M.ld (plus (plus (plus a1 48) (x2.toNat * 5)) 2)).bind Value.slc?) fun s41 =>
 ob ((M.ld (plus (plus (plus a1 48) (x2.toNat * 5)) 3)).bind Value.slc?) fun s42 =>
 ob ((M.ld (plus (plus (plus a1 48) (x2.toNat * 5)) 4)).bind Value.slc?) fun s43 =>
 pb (0 ≤ x2 ∧ x2 < (3 : Int))
 (pb (0 ≤ x23 ∧ x23 < (2 : Int))
 (ob ((([.int .i64 x24, .int .i64 x25, .int .i64 x26, .int .i64 x27, .int .i64 x28, .int .i64 x29] : List Value)[0 + (x2.toNat * 2) + x23.toNat + 0]?).bind (Value.int? .i64)) fun x44 =>
 ob ((M.ld (plus (plus a1 18) 22)).bind (Value.int? .i64)) fun x45 =>
 ob (acall P T k lo F.deblock_Pass [.agg ⟨[.int .i64 x30, .int .i64 x31, .slice A32 n33 c34]⟩, .agg ⟨[.int .i64 x39, .int .i64 x40, .slice s41.a s41.n s41.c, .slice s42.a s42.n s42.c, .slice s43.a s43.n s43.c]⟩, .bool b38, .bool (decide (x2 > 0)), .int .i64 x44, .int .i64 x45] M) fun r46 =>
 ob (r46.1.tup? 2) fun l47 =>
 ob ((l47[0]?).bind (Value.agg? 3)) fun l48 =>
 ob ((l48[0]?).bind (Value.int? .i64)) fun x49 =>
 ob ((l48[1]?).bind (Value.int? .i64)) fun x50 =>
 ob ((l48[2]?).bind Value.slc?) fun s51 =>
 ob ((l47[1]?).bind (Value.int? .i64)) fun x52 =>
 bb (x52 != 0)
 (some (.ret (.int .i64 x52) r46.2))
 (some (chain_run_passes.c125332 a1 x2 x3 x4 A5 n6 c7 x8 x9 A10 n11 c12 x13 x14 A15 n16 c17 x18 A19 n20 c21 x22 (IntKind.i64.wrap (x23 + 1)) x24 x25 x26 x27 x28 x29 x49 x50 s51.a s51.n s51.c r46.2))) none) none) none) none)
 (pb (0 ≤ x2 ∧ x2 < (3 : Int))
 (ob (M.st lo (plus a1 (x2.toNat * 3)) [.int .i64 x30, .int .i64 x31, .slice A32 n33 c34]) fun M53 =>
 some (chain_run_passes.c244 a1 x3 x4 A5 n6 c7 x8 x9 A10 n11 c12 x13 x14 A15 n16 c17 (IntKind.i64.wrap (x18 + 1)) x24 x25 x26 x27 x28 x29 M53)) none) := by kernel_rfl
theorem chain_run_directions.entry (k lo : Nat) (a1 : Addr) (M : Mem) : entry P T k lo F.chain_run_directions [.pointer (some a1)] M =
 ob ((M.ld a1).bind (Value.int? .i64)) fun x7 =>
 ob ((M.ld (plus a1 1)).bind (Value.int? .i64)) fun x8 =>
 ob ((M.ld (plus a1 2)).bind Value.slc?) fun s9 =>
 ob ((M.ld (plus a1 3)).bind (Value.int? .i64)) fun x10 =>
 ob ((M.ld (plus a1 4)).bind (Value.int? .i64)) fun x11 =>
 ob ((M.ld (plus a1 5)).bind Value.slc?) fun s12 =>
 ob ((M.ld (plus a1 6)).bind (Value.int? .i64)) fun x13 =>
 ob ((M.ld (plus a1 7)).bind (Value.int? .i64)) fun x14 =>
 ob ((M.ld (plus a1 8)).bind Value.slc?) fun s15 =>
 ob ((M.ld (plus (plus a1 48) 15)).bind Value.slc?) fun s16 =>
 ob ((M.ld (plus (plus a1 48) 16)).bind Value.slc?) fun s17 =>
 ob ((M.ld (plus a1 18)).bind Value.bool?) fun b18 =>
 ob ((M.ld (plus (plus a1 18) 1)).bind (Value.int? .i64)) fun x19 =>
 ob ((M.ld (plus (plus a1 18) 2)).bind Value.bool?) fun b20 =>
 ob ((M.ld (plus (plus a1 18) 3)).bind Value.bool?) fun b21 =>
 ob ((M.ld (plus (plus a1 18) 4)).bind (Value.int? .i64)) fun x22 =>
 ob ((M.ld (plus (plus a1 18) 5)).bind (Value.int? .i64)) fun x23 =>
 ob ((M.ld (plus (plus a1 18) 6)).bind (Value.int? .i64)) fun x24 =>
 ob ((M.ld (plus (plus a1 18) 7)).bind (Value.int? .i64)) fun x25 =>
 ob ((M.ld (plus (plus a1 18) 8)).bind (Value.int? .i64)) fun x26 =>
 ob ((M.ld (plus (plus a1 18) 9)).bind (Value.int? .i64)) fun x27 =>
 ob ((M.ld (plus (plus a1 18) 10)).bind (Value.int? .i64)) fun x28 =>
 ob ((M.ld (plus (plus a1 18) 11)).bind (Value.int? .i64)) fun x29 =>
 ob ((M.ld (plus (plus a1 18) 12)).bind (Value.int? .i64)) fun x30 =>
 ob ((M.ld (plus (plus a1 18) 13)).bind (Value.int? .i64)) fun x31 =>
 ob ((M.ld (plus (plus a1 18) 14)).bind (Value.int? .i64)) fun x32 =>
 ob ((M.ld (plus (plus a1 18) 15)).bind (Value.int? .i64)) fun x33 =>
 ob ((M.ld (plus (plus a1 18) 16)).bind (Value.int? .i64)) fun x34 =>
 ob ((M.ld (plus (plus a1 18) 17)).bind Value.bool?) fun b35 =>
 ob ((M.ld (plus (plus a1 18) 18)).bind (Value.int? .i64)) fun x36 =>
 ob ((M.ld (plus (plus a1 18) 19)).bind (Value.int? .i64)) fun x37 =>
 ob ((M.ld (plus (plus a1 18) 20)).bind (Value.int? .i64)) fun x38 =>
 ob ((M.ld (plus (plus a1 18) 21)).bind (Value.int? .i64)) fun x39 =>
 ob ((M.ld (plus (plus a1 18) 22)).bind (Value.int? .i64)) fun x40 =>
 ob ((M.ld (plus (plus a1 18) 23)).bind Value.bool?) fun b41 =>
 ob ((M.ld (plus (plus a1 18) 24)).bind (Value.int? .i64)) fun x42 =>
 ob ((M.ld (plus (plus a1 18) 25)).bind (Value.int? .i64)) fun x43 =>
 ob ((M.ld (plus (plus a1 18) 26)).bind Value.slc?) fun s44 =>
 ob ((M.ld (plus (plus a1 18) 27)).bind Value.bool?) fun b45 =>
 ob ((M.ld (plus (plus a1 18) 28)).bind Value.bool?) fun b46 =>
 ob ((M.ld (plus (plus a1 18) 29)).bind Value.bool?) fun b47 =>
 ob (acall P T k lo F.cdef_Frame [.agg ⟨[.int .i64 x7, .int .i64 x8, .slice s9.a s9.n s9.c, .int .i64 x10, .int .i64 x11, .slice s12.a s12.n s12.c, .int .i64 x13, .int .i64 x14, .slice s15.a s15.n s15.c]⟩, .slice s16.a s16.n s16.c, .slice s17.a s17.n s17.c, .agg ⟨[.bool b18, .int .i64 x19, .bool b20, .bool b21, .int .i64 x22, .int .i64 x23, .int .i64 x24, .int .i64 x25, .int .i64 x26, .int .i64 x27, .int .i64 x28, .int .i64 x29, .int .i64 x30, .int .i64 x31, .int .i64 x32, .int .i64 x33, .int .i64 x34, .bool b35, .int .i64 x36, .int .i64 x37, .int .i64 x38, .int .i64 x39, .int .i64 x40, .bool b41, .int .i64 x42, .int .i64 x43, .slice s44.a s44.n s44.c, .bool b45, .bool b46, .bool b47]⟩] M) fun r48 =>
 ob (r48.1.tup? 2) fun l49 =>
 ob ((l49[0]?).bind (Value.agg? 9)) fun l50 =>
 ob ((l50[0]?).bind (Value.int? .i64)) fun x51 =>
 ob ((l50[1]?).bind (Value.int? .i64)) fun x52 =>
 ob ((l50[2]?).bind Value.slc?) fun s53 =>
 ob ((l50[3]?).bind (Value.int? .i64)) fun x54 =>
 ob ((l50[4]?).bind (Value.int? .i64)) fun x55 =>
 ob ((l50[5]?).bind Value.slc?) fun s56 =>
 ob ((l50[6]?).bind (Value.int? .i64)) fun x57 =>
 ob ((l50[7]?).bind (Value.int? .i64)) fun x58 =>
 ob ((l50[8]?).bind Value.slc?) fun s59 =>
 ob ((l49[1]?).bind (Value.int? .i64)) fun x60 =>
 bb (x60 == 0)
 (ob (r48.2.st lo a1 [.int .i64 x51, .int .i64 x52, .slice s53.a s53.n s53.c, .int .i64 x54, .int .i64 x55, .slice s56.a s56.n s56.c, .int .i64 x57, .int .i64 x58, .slice s59.a s59.n s59.c]) fun M61 =>
 some (chain_run_directions.c15 x60 M61))
 (some (chain_run_directions.c15 x60 r48.2)) := by kernel_rfl
theorem chain_run_directions.p15 (k lo : Nat) (x1 : Int) (M : Mem) : piece P T k lo F.chain_run_directions 15 [.v (.int .i64 x1)] [] M =
 some (.ret (.int .i64 x1) M) := by kernel_rfl
theorem chain_run_restoration.entry (k lo : Nat) (a1 : Addr) (M : Mem) : entry P T k lo F.chain_run_restoration [.pointer (some a1)] M =
 ob ((M.ld a1).bind (Value.int? .i64)) fun x7 =>
 ob ((M.ld (plus a1 1)).bind (Value.int? .i64)) fun x8 =>
 ob ((M.ld (plus a1 2)).bind Value.slc?) fun s9 =>
 ob ((M.ld (plus a1 3)).bind (Value.int? .i64)) fun x10 =>
 ob ((M.ld (plus a1 4)).bind (Value.int? .i64)) fun x11 =>
 ob ((M.ld (plus a1 5)).bind Value.slc?) fun s12 =>
 ob ((M.ld (plus a1 6)).bind (Value.int? .i64)) fun x13 =>
 ob ((M.ld (plus a1 7)).bind (Value.int? .i64)) fun x14 =>
 ob ((M.ld (plus a1 8)).bind Value.slc?) fun s15 =>
 some (chain_run_restoration.c116 a1 64 x7 x8 s9.a s9.n s9.c x10 x11 s12.a s12.n s12.c x13 x14 s15.a s15.n s15.c 0 M) := by kernel_rfl
theorem chain_run_restoration.p116 (k lo : Nat) (a1 : Addr) (x2 : Int) (x3 : Int) (x4 : Int) (A5 : Option Addr) (n6 : Nat) (c7 : Nat) (x8 : Int) (x9 : Int) (A10 : Option Addr) (n11 : Nat) (c12 : Nat) (x13 : Int) (x14 : Int) (A15 : Option Addr) (n16 : Nat) (c17 : Nat) (x18 : Int) (M : Mem) : piece P T k lo F.chain_run_restoration 116 [.v (.pointer (some a1)), .v (.int .i64 x2), .v (.agg ⟨[.int .i64 x3, .int .i64 x4, .slice A5 n6 c7, .int .i64 x8, .int .i64 x9, .slice A10 n11 c12, .int .i64 x13, .int .i64 x14, .slice A15 n16 c17]⟩), .v (.int .i64 x18)] [] M =
 bb (decide (x18 < 3))
 (pb (0 ≤ x18 ∧ x18 < (3 : Int))
 (ob ((([.int .i64 x3, .int .i64 x4, .slice A5 n6 c7, .int .i64 x8, .int .i64 x9, .slice A10 n11 c12, .int .i64 x13, .int .i64 x14, .slice A15 n16 c17] : List Value)[x18.toNat * 3 + 0]?).bind (Value.int? .i64)) fun x19 =>
 ob ((([.int .i64 x3, .int .i64 x4, .slice A5 n6 c7, .int .i64 x8, .int .i64 x9, .slice A10 n11 c12, .int .i64 x13, .int .i64 x14, .slice A15 n16 c17] : List Value)[x18.toNat * 3 + 1]?).bind (Value.int? .i64)) fun x20 =>
 ob ((([.int .i64 x3, .int .i64 x4, .slice A5 n6 c7, .int .i64 x8, .int .i64 x9, .slice A10 n11 c12, .int .i64 x13, .int .i64 x14, .slice A15 n16 c17] : List Value)[x18.toNat * 3 + 2]?).bind Value.slc?) fun s21 =>
 pb (0 ≤ x18 ∧ x18 < (3 : Int))
 (ob ((M.ld (plus (plus (plus a1 18) 27) x18.toNat)).bind Value.bool?) fun b22 =>
 bb b22
 (pb (0 ≤ x18 ∧ x18 < (3 : Int))
 (ob ((M.ld (plus (plus a1 9) (x18.toNat * 3))).bind (Value.int? .i64)) fun x23 =>
 ob ((M.ld (plus (plus (plus a1 9) (x18.toNat * 3)) 1)).bind (Value.int? .i64)) fun x24 =>
 ob ((M.ld (plus (plus (plus a1 9) (x18.toNat * 3)) 2)).bind Value.slc?) fun s25 =>
 pb (0 ≤ x18 ∧ x18 < (3 : Int))
 (ob ((M.ld (plus (plus (plus a1 48) 17) x18.toNat)).bind Value.slc?) fun s26 =>
 ob (acall P T k lo F.wiener_Plane [.agg ⟨[.int .i64 x19, .int .i64 x20, .slice s21.a s21.n s21.c]⟩, .agg ⟨[.int .i64 x23, .int .i64 x24, .slice s25.a s25.n s25.c]⟩, .slice s26.a s26.n s26.c, .int .i64 x2] M) fun r27 =>
 ob (r27.1.tup? 2) fun l28 =>
 ob ((l28[0]?).bind (Value.agg? 3)) fun l29 =>
 ob ((l29[0]?).bind (Value.int? .i64)) fun x30 =>
 ob ((l29[1]?).bind (Value.int? .i64)) fun x31 =>
 ob ((l29[2]?).bind Value.slc?) fun s32 =>
 ob ((l28[1]?).bind (Value.int? .i64)) fun x33 =>
 bb (x33 != 0)
 (some (.ret (.int .i64 x33) r27.2))
 (pb (0 ≤ x18 ∧ x18 < (3 : Int))
 (ob (r27.2.st lo (plus a1 (x18.toNat * 3)) [.int .i64 x30, .int .i64 x31, .slice s32.a s32.n s32.c]) fun M34 =>
 some (chain_run_restoration.c7475 a1 x3 x4 A5 n6 c7 x8 x9 A10 n11 c12 x13 x14 A15 n16 c17 x18 M34)) none)) none) none)
 (some (chain_run_restoration.c7475 a1 x3 x4 A5 n6 c7 x8 x9 A10 n11 c12 x13 x14 A15 n16 c17 x18 M))) none) none)
 (some (.ret (.int .i64 0) M)) := by kernel_rfl
theorem chain_run_restoration.p7475 (k lo : Nat) (a1 : Addr) (x2 : Int) (x3 : Int) (A4 : Option Addr) (n5 : Nat) (c6 : Nat) (x7 : Int) (x8 : Int) (A9 : Option Addr) (n10 : Nat) (c11 : Nat) (x12 : Int) (x13 : Int) (A14 : Option Addr) (n15 : Nat) (c16 : Nat) (x17 : Int) (M : Mem) : piece P T k lo F.chain_run_restoration 7475 [.v (.pointer (some a1)), .v (.agg ⟨[.int .i64 x2, .int .i64 x3, .slice A4 n5 c6, .int .i64 x7, .int .i64 x8, .slice A9 n10 c11, .int .i64 x12, .int .i64 x13, .slice A14 n15 c16]⟩), .v (.int .i64 x17)] [] M =
 some (chain_run_restoration.c116 a1 32 x2 x3 A4 n5 c6 x7 x8 A9 n10 c11 x12 x13 A14 n15 c16 (IntKind.i64.wrap (x17 + 1)) M) := by kernel_rfl
theorem plane_Check.entry (k lo : Nat) (x1 : Int) (x2 : Int) (A3 : Option Addr) (n4 : Nat) (c5 : Nat) (M : Mem) : entry P T k lo F.plane_Check [.agg ⟨[.int .i64 x1, .int .i64 x2, .slice A3 n4 c5]⟩] M =
 ob (acall P T k lo F.plane_sizes [.int .i64 x1, .int .i64 x2] M) fun r11 =>
 ob ((some r11.1).bind Value.bool?) fun b12 =>
 bb (!b12)
 (some (.ret (.int .i64 2) r11.2))
 (bb ((n4 : Int) != IntKind.i64.wrap (x1 * x2))
 (some (.ret (.int .i64 2) r11.2))
 (some (.ret (.int .i64 0) r11.2))) := by kernel_rfl
theorem plane_sides.entry (k lo : Nat) (x1 : Int) (x2 : Int) (M : Mem) : entry P T k lo F.plane_sides [.int .i64 x1, .int .i64 x2] M =
 bb (andI .i64 x1 1 == 0)
 (bb (andI .i64 x2 1 == 0)
 (bb (decide ((minI x1 x2) ≥ 16))
 (some (.ret (.bool (decide ((maxI x1 x2) ≤ 256))) M))
 (some (.ret (.bool false) M)))
 (some (.ret (.bool false) M)))
 (some (.ret (.bool false) M)) := by kernel_rfl
theorem deblock_Pass.entry (k lo : Nat) (x1 : Int) (x2 : Int) (A3 : Option Addr) (n4 : Nat) (c5 : Nat) (x6 : Int) (x7 : Int) (A8 : Option Addr) (n9 : Nat) (c10 : Nat) (A11 : Option Addr) (n12 : Nat) (c13 : Nat) (A14 : Option Addr) (n15 : Nat) (c16 : Nat) (b17 : Bool) (b18 : Bool) (x19 : Int) (x20 : Int) (M : Mem) : entry P T k lo F.deblock_Pass [.agg ⟨[.int .i64 x1, .int .i64 x2, .slice A3 n4 c5]⟩, .agg ⟨[.int .i64 x6, .int .i64 x7, .slice A8 n9 c10, .slice A11 n12 c13, .slice A14 n15 c16]⟩, .bool b17, .bool b18, .int .i64 x19, .int .i64 x20] M =
 ob (acall P T k lo F.deblock_may [.agg ⟨[.int .i64 x1, .int .i64 x2, .slice A3 n4 c5]⟩, .agg ⟨[.int .i64 x6, .int .i64 x7, .slice A8 n9 c10, .slice A11 n12 c13, .slice A14 n15 c16]⟩] M) fun r26 =>
 ob ((some r26.1).bind Value.bool?) fun b27 =>
 bb (!b27)
 (some (.ret (.tuple ⟨[.agg ⟨[.int .i64 0, .int .i64 0, .slice none 0 0]⟩, .int .i64 2]⟩) r26.2))
 (ob (acall P T k lo F.deblock_within [.int .i64 x19, .int .i64 0, .int .i64 63] r26.2) fun r28 =>
 ob ((some r28.1).bind Value.bool?) fun b29 =>
 bb (!b29)
 (some (.ret (.tuple ⟨[.agg ⟨[.int .i64 0, .int .i64 0, .slice none 0 0]⟩, .int .i64 2]⟩) r28.2))
 (ob (acall P T k lo F.deblock_within [.int .i64 x20, .int .i64 0, .int .i64 7] r28.2) fun r30 =>
 ob ((some r30.1).bind Value.bool?) fun b31 =>
 bb (!b31)
 (some (.ret (.tuple ⟨[.agg ⟨[.int .i64 0, .int .i64 0, .slice none 0 0]⟩, .int .i64 2]⟩) r30.2))
 (ob (acall P T k lo F.slices_Clone__uint8_uint8 [.slice A3 n4 c5] r30.2) fun r32 =>
 ob ((some r32.1).bind Value.slc?) fun s33 =>
 bb (x19 == 0)
 (some (.ret (.tuple ⟨[.agg ⟨[.int .i64 x1, .int .i64 x2, .slice s33.a s33.n s33.c]⟩, .int .i64 0]⟩) r32.2))
 (ob (acall P T k lo F.deblock_boundsOf [.int .i64 x19, .int .i64 x20] r32.2) fun r34 =>
 ob ((some r34.1).bind (Value.agg? 3)) fun l35 =>
 ob ((l35[0]?).bind (Value.int? .i64)) fun x36 =>
 ob ((l35[1]?).bind (Value.int? .i64)) fun x37 =>
 ob ((l35[2]?).bind (Value.int? .i64)) fun x38 =>
 bb (!b17)
 (some (deblock_Pass.c255 b17 b18 x1 1 x6 x2 x1 x2 s33.a s33.n s33.c x6 x7 A8 n9 c10 A11 n12 c13 A14 n15 c16 0 0 none 0 0 x36 x37 x38 r34.2))
 (some (deblock_Pass.c255 b17 b18 1 x1 1 x1 x1 x2 s33.a s33.n s33.c x6 x7 A8 n9 c10 A11 n12 c13 A14 n15 c16 0 0 none 0 0 x36 x37 x38 r34.2)))))) := by kernel_rfl
theorem deblock_Pass.p255 (k lo : Nat) (b1 : Bool) (b2 : Bool) (x3 : Int) (x4 : Int) (x5 : Int) (x6 : Int) (x7 : Int) (x8 : Int) (A9 : Option Addr) (n10 : Nat) (c11 : Nat) (x12 : Int) (x13 : Int) (A14 : Option Addr) (n15 : Nat) (c16 : Nat) (A17 : Option Addr) (n18 : Nat) (c19 : Nat) (A20 : Option Addr) (n21 : Nat) (c22 : Nat) (x23 : Int) (x24 : Int) (A25 : Option Addr) (n26 : Nat) (c27 : Nat) (x28 : Int) (x29 : Int) (x30 : Int) (M : Mem) : piece P T k lo F.deblock_Pass 255 [.v (.bool b1), .v (.bool b2), .l 6 0, .l 7 0, .l 12 0, .l 14 0, .v (.int .i64 x3), .v (.int .i64 x4), .v (.int .i64 x5), .v (.int .i64 x6)] [[.int .i64 x7, .int .i64 x8, .slice A9 n10 c11], [.int .i64 x12, .int .i64 x13, .slice A14 n15 c16, .slice A17 n18 c19, .slice A20 n21 c22], [.int .i64 x23, .int .i64 x24, .slice A25 n26 c27], [.int .i64 x28, .int .i64 x29, .int .i64 x30]] M =
 some (deblock_Pass.c4084 b1 b2 x3 x4 x5 x6 A14 n15 c16 (n15 : Int) 0 x7 x8 A9 n10 c11 x12 x13 A14 n15 c16 A17 n18 c19 A20 n21 c22 x23 x24 A25 n26 c27 x28 x29 x30 M) := by kernel_rfl
theorem deblock_Pass.p4084 (k lo : Nat) (b1 : Bool) (b2 : Bool) (x3 : Int) (x4 : Int) (x5 : Int) (x6 : Int) (A7 : Option Addr) (n8 : Nat) (c9 : Nat) (x10 : Int) (x11 : Int) (x12 : Int) (x13 : Int) (A14 : Option Addr) (n15 : Nat) (c16 : Nat) (x17 : Int) (x18 : Int) (A19 : Option Addr) (n20 : Nat) (c21 : Nat) (A22 : Option Addr) (n23 : Nat) (c24 : Nat) (A25 : Option Addr) (n26 : Nat) (c27 : Nat) (x28 : Int) (x29 : Int) (A30 : Option Addr) (n31 : Nat) (c32 : Nat) (x33 : Int) (x34 : Int) (x35 : Int) (M : Mem) : piece P T k lo F.deblock_Pass 4084 [.v (.bool b1), .v (.bool b2), .l 6 0, .l 7 0, .l 12 0, .l 14 0, .v (.int .i64 x3), .v (.int .i64 x4), .v (.int .i64 x5), .v (.int .i64 x6), .v (.slice A7 n8 c9), .v (.int .i64 x10), .v (.int .i64 x11)] [[.int .i64 x12, .int .i64 x13, .slice A14 n15 c16], [.int .i64 x17, .int .i64 x18, .slice A19 n20 c21, .slice A22 n23 c24, .slice A25 n26 c27], [.int .i64 x28, .int .i64 x29, .slice A30 n31 c32], [.int .i64 x33, .int .i64 x34, .int .i64 x35]] M =
 bb (decide (x11 < x10))
 (pb (0 ≤ x11 ∧ x11 < (n8 : Int))
 (ob A7 fun a39 =>
 ob ((M.ld (plus a39 x11.toNat)).bind (Value.int? .u8)) fun x40 =>
 pb (x17 = 0) none
 (pb (x17 = 0) none
 (bb (!b1)
 (some (deblock_Pass.c1045711 b1 b2 x3 x4 x5 x6 x11 x40 (IntKind.i64.wrap (4 * (Int.tmod x11 x17))) (IntKind.i64.wrap (4 * (IntKind.i64.wrap (Int.tdiv x11 x17)))) (IntKind.i64.wrap (4 * (IntKind.i64.wrap (Int.tdiv x11 x17)))) A7 n8 c9 x10 x11 x12 x13 A14 n15 c16 x17 x18 A19 n20 c21 A22 n23 c24 A25 n26 c27 x28 x29 A30 n31 c32 x33 x34 x35 M))
 (some (deblock_Pass.c1045711 b1 b2 x3 x4 x5 x6 x11 x40 (IntKind.i64.wrap (4 * (Int.tmod x11 x17))) (IntKind.i64.wrap (4 * (IntKind.i64.wrap (Int.tdiv x11 x17)))) (IntKind.i64.wrap (4 * (Int.tmod x11 x17))) A7 n8 c9 x10 x11 x12 x13 A14 n15 c16 x17 x18 A19 n20 c21 A22 n23 c24 A25 n26 c27 x28 x29 A30 n31 c32 x33 x34 x35 M))))) none)
 (some (.ret (.tuple ⟨[.agg ⟨[.int .i64 x12, .int .i64 x13, .slice A14 n15 c16]⟩, .int .i64 0]⟩) M)) := by kernel_rfl
theorem deblock_Pass.p32679 (k lo : Nat) (b1 : Bool) (b2 : Bool) (x3 : Int) (x4 : Int) (x5 : Int) (x6 : Int) (A7 : Option Addr) (n8 : Nat) (c9 : Nat) (x10 : Int) (x11 : Int) (x12 : Int) (x13 : Int) (A14 : Option Addr) (n15 : Nat) (c16 : Nat) (x17 : Int) (x18 : Int) (A19 : Option Addr) (n20 : Nat) (c21 : Nat) (A22 : Option Addr) (n23 : Nat) (c24 : Nat) (A25 : Option Addr) (n26 : Nat) (c27 : Nat) (x28 : Int) (x29 : Int) (A30 : Option Addr) (n31 : Nat) (c32 : Nat) (x33 : Int) (x34 : Int) (x35 : Int) (M : Mem) : piece P T k lo F.deblock_Pass 32679 [.v (.bool b1), .v (.bool b2), .l 6 0, .l 7 0, .l 12 0, .l 14 0, .v (.int .i64 x3), .v (.int .i64 x4), .v (.int .i64 x5), .v (.int .i64 x6), .v (.slice A7 n8 c9), .v (.int .i64 x10), .v (.int .i64 x11)] [[.int .i64 x12, .int .i64 x13, .slice A14 n15 c16], [.int .i64 x17, .int .i64 x18, .slice A19 n20 c21, .slice A22 n23 c24, .slice A25 n26 c27], [.int .i64 x28, .int .i64 x29, .slice A30 n31 c32], [.int .i64 x33, .int .i64 x34, .int .i64 x35]] M =
 some (deblock_Pass.c4084 b1 b2 x3 x4 x5 x6 A7 n8 c9 x10 (IntKind.i64.wrap (x11 + 1)) x12 x13 A14 n15 c16 x17 x18 A19 n20 c21 A22 n23 c24 A25 n26 c27 x28 x29 A30 n31 c32 x33 x34 x35 M) := by kernel_rfl
theorem deblock_Pass.p1045711 (k lo : Nat) (b1 : Bool) (b2 : Bool) (x3 : Int) (x4 : Int) (x5 : Int) (x6 : Int) (x7 : Int) (x8 : Int) (x9 : Int) (x10 : Int) (x11 : Int) (A12 : Option Addr) (n13 : Nat) (c14 : Nat) (x15 : Int) (x16 : Int) (x17 : Int) (x18 : Int) (A19 : Option Addr) (n20 : Nat) (c21 : Nat) (x22 : Int) (x23 : Int) (A24 : Option Addr) (n25 : Nat) (c26 : Nat) (A27 : Option Addr) (n28 : Nat) (c29 : Nat) (A30 : Option Addr) (n31 : Nat) (c32 : Nat) (x33 : Int) (x34 : Int) (A35 : Option Addr) (n36 : Nat) (c37 : Nat) (x38 : Int) (x39 : Int) (x40 : Int) (M : Mem) : piece P T k lo F.deblock_Pass 1045711 [.v (.bool b1), .v (.bool b2), .l 6 0, .l 7 0, .l 12 0, .l 14 0, .v (.int .i64 x3), .v (.int .i64 x4), .v (.int .i64 x5), .v (.int .i64 x6), .v (.int .i64 x7), .v (.int .u8 x8), .v (.int .i64 x9), .v (.int .i64 x10), .v (.int .i64 x11), .v (.slice A12 n13 c14), .v (.int .i64 x15), .v (.int .i64 x16)] [[.int .i64 x17, .int .i64 x18, .slice A19 n20 c21], [.int .i64 x22, .int .i64 x23, .slice A24 n25 c26, .slice A27 n28 c29, .slice A30 n31 c32], [.int .i64 x33, .int .i64 x34, .slice A35 n36 c37], [.int .i64 x38, .int .i64 x39, .int .i64 x40]] M =
 bb (x11 == 0)
 (some (deblock_Pass.c32679 b1 b2 x3 x4 x5 x6 A12 n13 c14 x15 x16 x17 x18 A19 n20 c21 x22 x23 A24 n25 c26 A27 n28 c29 A30 n31 c32 x33 x34 A35 n36 c37 x38 x39 x40 M))
 (pb (IntKind.i64.wrap x8 = 0) none
 (bb (Int.tmod x11 (IntKind.i64.wrap x8) != 0)
 (some (deblock_Pass.c32679 b1 b2 x3 x4 x5 x6 A12 n13 c14 x15 x16 x17 x18 A19 n20 c21 x22 x23 A24 n25 c26 A27 n28 c29 A30 n31 c32 x33 x34 A35 n36 c37 x38 x39 x40 M))
 (pb (0 ≤ x7 ∧ x7 < (n28 : Int))
 (ob A27 fun a41 =>
 ob ((M.ld (plus a41 x7.toNat)).bind (Value.int? .i64)) fun x42 =>
 pb (0 ≤ IntKind.i64.wrap (x7 - x5) ∧ IntKind.i64.wrap (x7 - x5) < (n28 : Int))
 (ob A27 fun a43 =>
 ob ((M.ld (plus a43 ((IntKind.i64.wrap (x7 - x5)).toNat))).bind (Value.int? .i64)) fun x44 =>
 bb (x42 == x44)
 (pb (0 ≤ x7 ∧ x7 < (n31 : Int))
 (ob A30 fun a45 =>
 ob ((M.ld (plus a45 x7.toNat)).bind Value.bool?) fun b46 =>
 bb b46
 (pb (0 ≤ IntKind.i64.wrap (x7 - x5) ∧ IntKind.i64.wrap (x7 - x5) < (n31 : Int))
 (ob A30 fun a47 =>
 ob ((M.ld (plus a47 ((IntKind.i64.wrap (x7 - x5)).toNat))).bind Value.bool?) fun b48 =>
 bb b48
 (some (deblock_Pass.c32679 b1 b2 x3 x4 x5 x6 A12 n13 c14 x15 x16 x17 x18 A19 n20 c21 x22 x23 A24 n25 c26 A27 n28 c29 A30 n31 c32 x33 x34 A35 n36 c37 x38 x39 x40 M))
 (pb (0 ≤ IntKind.i64.wrap (x7 - x5) ∧ IntKind.i64.wrap (x7 - x5) < (n25 : Int))
 (ob A24 fun a49 =>
 ob ((M.ld (plus a49 ((IntKind.i64.wrap (x7 - x5)).toNat))).bind (Value.int? .u8)) fun x50 =>
 ob (acall P T k lo F.deblock_reachTaps [.int .i64 (minI (minI (minI (IntKind.i64.wrap x8) (IntKind.i64.wrap x50)) x11) (IntKind.i64.wrap (x6 - x11))), .bool b2] M) fun r51 =>
 ob ((some r51.1).bind (Value.int? .i64)) fun x52 =>
 some (deblock_Pass.c33462780 b1 b2 x3 x4 x5 x6 x9 x10 x52 A12 n13 c14 x15 x16 0 x17 x18 A19 n20 c21 x22 x23 A24 n25 c26 A27 n28 c29 A30 n31 c32 x33 x34 A35 n36 c37 x38 x39 x40 r51.2)) none)) none)
 (pb (0 ≤ IntKind.i64.wrap (x7 - x5) ∧ IntKind.i64.wrap (x7 - x5) < (n25 : Int))
 (ob A24 fun a53 =>
 ob ((M.ld (plus a53 ((IntKind.i64.wrap (x7 - x5)).toNat))).bind (Value.int? .u8)) fun x54 =>
 ob (acall P T k lo F.deblock_reachTaps [.int .i64 (minI (minI (minI (IntKind.i64.wrap x8) (IntKind.i64.wrap x54)) x11) (IntKind.i64.wrap (x6 - x11))), .bool b2] M) fun r55 =>
 ob ((some r55.1).bind (Value.int? .i64)) fun x56 =>
 some (deblock_Pass.c33462780 b1 b2 x3 x4 x5 x6 x9 x10 x56 A12 n13 c14 x15 x16 0 x17 x18 A19 n20 c21 x22 x23 A24 n25 c26 A27 n28 c29 A30 n31 c32 x33 x34 A35 n36 c37 x38 x39 x40 r55.2)) none)) none)
 (pb (0 ≤ IntKind.i64.wrap (x7 - x5) ∧ IntKind.i64.wrap (x7 - x5) < (n25 : Int))
 (ob A24 fun a57 =>
 ob ((M.ld (plus a57 ((IntKind.i64.wrap (x7 - x5)).toNat))).bind (Value.int? .u8)) fun x58 =>
 ob (acall P T k lo F.deblock_reachTaps [.int .i64 (minI (minI (minI (IntKind.i64.wrap x8) (IntKind.i64.wrap x58)) x11) (IntKind.i64.wrap (x6 - x11))), .bool b2] M) fun r59 =>
 ob ((some r59.1).bind (Value.int? .i64)) fun x60 =>
 some (deblock_Pass.c33462780 b1 b2 x3 x4 x5 x6 x9 x10 x60 A12 n13 c14 x15 x16 0 x17 x18 A19 n20 c21 x22 x23 A24 n25 c26 A27 n28 c29 A30 n31 c32 x33 x34 A35 n36 c37 x38 x39 x40 r59.2)) none)) none) none))) := by kernel_rfl
theorem deblock_Pass.p33462780 (k lo : Nat) (b1 : Bool) (b2 : Bool) (x3 : Int) (x4 : Int) (x5 : Int) (x6 : Int) (x7 : Int) (x8 : Int) (x9 : Int) (A10 : Option Addr) (n11 : Nat) (c12 : Nat) (x13 : Int) (x14 : Int) (x15 : Int) (x16 : Int) (x17 : Int) (A18 : Option Addr) (n19 : Nat) (c20 : Nat) (x21 : Int) (x22 : Int) (A23 : Option Addr) (n24 : Nat) (c25 : Nat) (A26 : Option Addr) (n27 : Nat) (c28 : Nat) (A29 : Option Addr) (n30 : Nat) (c31 : Nat) (x32 : Int) (x33 : Int) (A34 : Option Addr) (n35 : Nat) (c36 : Nat) (x37 : Int) (x38 : Int) (x39 : Int) (M : Mem) : piece P T k lo F.deblock_Pass 33462780 [.v (.bool b1), .v (.bool b2), .l 6 0, .l 7 0, .l 12 0, .l 14 0, .v (.int .i64 x3), .v (.int .i64 x4), .v (.int .i64 x5), .v (.int .i64 x6), .v (.int .i64 x7), .v (.int .i64 x8), .v (.int .i64 x9), .v (.slice A10 n11 c12), .v (.int .i64 x13), .v (.int .i64 x14), .v (.int .i64 x15)] [[.int .i64 x16, .int .i64 x17, .slice A18 n19 c20], [.int .i64 x21, .int .i64 x22, .slice A23 n24 c25, .slice A26 n27 c28, .slice A29 n30 c31], [.int .i64 x32, .int .i64 x33, .slice A34 n35 c36], [.int .i64 x37, .int .i64 x38, .int .i64 x39]] M =
 bb (decide (x15 < 4))
 (pb (0 ≤ x9 ∧ room x9.toNat 1)
 (some (deblock_Pass.c68531775092 b1 b2 x3 x4 x5 x6 x7 x8 x9 (IntKind.i64.wrap ((IntKind.i64.wrap ((IntKind.i64.wrap ((IntKind.i64.wrap (x8 * x16)) + x7)) + (IntKind.i64.wrap (x15 * x4)))) - (IntKind.i64.wrap ((IntKind.i64.wrap (Int.tdiv x9 2)) * x3)))) A10 n11 c12 x13 x14 x15 (x9.toNat : Int) 0 x16 x17 A18 n19 c20 x21 x22 A23 n24 c25 A26 n27 c28 A29 n30 c31 x32 x33 A34 n35 c36 x37 x38 x39 (some ⟨M.length, 0, none⟩) x9.toNat x9.toNat (IntKind.i64.wrap (Int.tdiv x9 2)) (M ++ [⟨.fx, zerosL [.int .u8 0] x9.toNat⟩] : Mem))) none)
 (some (deblock_Pass.c32679 b1 b2 x3 x4 x5 x6 A10 n11 c12 x13 x14 x16 x17 A18 n19 c20 x21 x22 A23 n24 c25 A26 n27 c28 A29 n30 c31 x32 x33 A34 n35 c36 x37 x38 x39 M)) := by kernel_rfl
theorem deblock_Pass.p68531775092 (k lo : Nat) (b1 : Bool) (b2 : Bool) (x3 : Int) (x4 : Int) (x5 : Int) (x6 : Int) (x7 : Int) (x8 : Int) (x9 : Int) (x10 : Int) (A11 : Option Addr) (n12 : Nat) (c13 : Nat) (x14 : Int) (x15 : Int) (x16 : Int) (x17 : Int) (x18 : Int) (x19 : Int) (x20 : Int) (A21 : Option Addr) (n22 : Nat) (c23 : Nat) (x24 : Int) (x25 : Int) (A26 : Option Addr) (n27 : Nat) (c28 : Nat) (A29 : Option Addr) (n30 : Nat) (c31 : Nat) (A32 : Option Addr) (n33 : Nat) (c34 : Nat) (x35 : Int) (x36 : Int) (A37 : Option Addr) (n38 : Nat) (c39 : Nat) (x40 : Int) (x41 : Int) (x42 : Int) (A43 : Option Addr) (n44 : Nat) (c45 : Nat) (x46 : Int) (M : Mem) : piece P T k lo F.deblock_Pass 68531775092 [.v (.bool b1), .v (.bool b2), .l 6 0, .l 7 0, .l 12 0, .l 14 0, .v (.int .i64 x3), .v (.int .i64 x4), .v (.int .i64 x5), .v (.int .i64 x6), .v (.int .i64 x7), .v (.int .i64 x8), .v (.int .i64 x9), .v (.int .i64 x10), .l 27 0, .v (.slice A11 n12 c13), .v (.int .i64 x14), .v (.int .i64 x15), .v (.int .i64 x16), .v (.int .i64 x17), .v (.int .i64 x18)] [[.int .i64 x19, .int .i64 x20, .slice A21 n22 c23], [.int .i64 x24, .int .i64 x25, .slice A26 n27 c28, .slice A29 n30 c31, .slice A32 n33 c34], [.int .i64 x35, .int .i64 x36, .slice A37 n38 c39], [.int .i64 x40, .int .i64 x41, .int .i64 x42], [.slice A43 n44 c45, .int .i64 x46]] M =
 bb (decide (x18 < x17))
 (pb (0 ≤ IntKind.i64.wrap (x10 + (IntKind.i64.wrap (x18 * x3))) ∧ IntKind.i64.wrap (x10 + (IntKind.i64.wrap (x18 * x3))) < (n22 : Int))
 (ob A21 fun a61 =>
 ob ((M.ld (plus a61 ((IntKind.i64.wrap (x10 + (IntKind.i64.wrap (x18 * x3)))).toNat))).bind (Value.int? .u8)) fun x62 =>
 pb (0 ≤ x18 ∧ x18 < (n44 : Int))
 (ob A43 fun a63 =>
 ob (M.st lo (plus a63 x18.toNat) [.int .u8 x62]) fun M64 =>
 some (deblock_Pass.c68531775092 b1 b2 x3 x4 x5 x6 x7 x8 x9 x10 A11 n12 c13 x14 x15 x16 x17 (IntKind.i64.wrap (x18 + 1)) x19 x20 A21 n22 c23 x24 x25 A26 n27 c28 A29 n30 c31 A32 n33 c34 x35 x36 A37 n38 c39 x40 x41 x42 A43 n44 c45 x46 M64)) none) none)
 (ob (acall P T k lo F.deblock_line_filter [.agg ⟨[.slice A43 n44 c45, .int .i64 x46]⟩, .agg ⟨[.int .i64 x40, .int .i64 x41, .int .i64 x42]⟩] M) fun r65 =>
 ob ((some r65.1).bind Value.slc?) fun s66 =>
 some (deblock_Pass.c68531775100 b1 b2 x3 x4 x5 x6 x7 x8 x9 x10 A11 n12 c13 x14 x15 x16 s66.a s66.n s66.c (s66.n : Int) 0 x19 x20 A21 n22 c23 x24 x25 A26 n27 c28 A29 n30 c31 A32 n33 c34 x35 x36 A37 n38 c39 x40 x41 x42 r65.2)) := by kernel_rfl
theorem deblock_Pass.p68531775100 (k lo : Nat) (b1 : Bool) (b2 : Bool) (x3 : Int) (x4 : Int) (x5 : Int) (x6 : Int) (x7 : Int) (x8 : Int) (x9 : Int) (x10 : Int) (A11 : Option Addr) (n12 : Nat) (c13 : Nat) (x14 : Int) (x15 : Int) (x16 : Int) (A17 : Option Addr) (n18 : Nat) (c19 : Nat) (x20 : Int) (x21 : Int) (x22 : Int) (x23 : Int) (A24 : Option Addr) (n25 : Nat) (c26 : Nat) (x27 : Int) (x28 : Int) (A29 : Option Addr) (n30 : Nat) (c31 : Nat) (A32 : Option Addr) (n33 : Nat) (c34 : Nat) (A35 : Option Addr) (n36 : Nat) (c37 : Nat) (x38 : Int) (x39 : Int) (A40 : Option Addr) (n41 : Nat) (c42 : Nat) (x43 : Int) (x44 : Int) (x45 : Int) (M : Mem) : piece P T k lo F.deblock_Pass 68531775100 [.v (.bool b1), .v (.bool b2), .l 6 0, .l 7 0, .l 12 0, .l 14 0, .v (.int .i64 x3), .v (.int .i64 x4), .v (.int .i64 x5), .v (.int .i64 x6), .v (.int .i64 x7), .v (.int .i64 x8), .v (.int .i64 x9), .v (.int .i64 x10), .v (.slice A11 n12 c13), .v (.int .i64 x14), .v (.int .i64 x15), .v (.int .i64 x16), .v (.slice A17 n18 c19), .v (.int .i64 x20), .v (.int .i64 x21)] [[.int .i64 x22, .int .i64 x23, .slice A24 n25 c26], [.int .i64 x27, .int .i64 x28, .slice A29 n30 c31, .slice A32 n33 c34, .slice A35 n36 c37], [.int .i64 x38, .int .i64 x39, .slice A40 n41 c42], [.int .i64 x43, .int .i64 x44, .int .i64 x45]] M =
 bb (decide (x21 < x20))
 (pb (0 ≤ x21 ∧ x21 < (n18 : Int))
 (ob A17 fun a67 =>
 ob ((M.ld (plus a67 x21.toNat)).bind (Value.int? .u8)) fun x68 =>
 pb (0 ≤ IntKind.i64.wrap (x10 + (IntKind.i64.wrap (x21 * x3))) ∧ IntKind.i64.wrap (x10 + (IntKind.i64.wrap (x21 * x3))) < (n25 : Int))
 (ob A24 fun a69 =>
 ob (M.st lo (plus a69 ((IntKind.i64.wrap (x10 + (IntKind.i64.wrap (x21 * x3)))).toNat)) [.int .u8 x68]) fun M70 =>
 some (deblock_Pass.c68531775100 b1 b2 x3 x4 x5 x6 x7 x8 x9 x10 A11 n12 c13 x14 x15 x16 A17 n18 c19 x20 (IntKind.i64.wrap (x21 + 1)) x22 x23 A24 n25 c26 x27 x28 A29 n30 c31 A32 n33 c34 A35 n36 c37 x38 x39 A40 n41 c42 x43 x44 x45 M70)) none) none)
 (some (deblock_Pass.c33462780 b1 b2 x3 x4 x5 x6 x7 x8 x9 A11 n12 c13 x14 x15 (IntKind.i64.wrap (x16 + 1)) x22 x23 A24 n25 c26 x27 x28 A29 n30 c31 A32 n33 c34 A35 n36 c37 x38 x39 A40 n41 c42 x43 x44 x45 M)) := by kernel_rfl
theorem cdef_may.entry (k lo : Nat) (x1 : Int) (x2 : Int) (A3 : Option Addr) (n4 : Nat) (c5 : Nat) (x6 : Int) (x7 : Int) (A8 : Option Addr) (n9 : Nat) (c10 : Nat) (x11 : Int) (x12 : Int) (A13 : Option Addr) (n14 : Nat) (c15 : Nat) (A16 : Option Addr) (n17 : Nat) (c18 : Nat) (A19 : Option Addr) (n20 : Nat) (c21 : Nat) (b22 : Bool) (x23 : Int) (b24 : Bool) (b25 : Bool) (x26 : Int) (x27 : Int) (x28 : Int) (x29 : Int) (x30 : Int) (x31 : Int) (x32 : Int) (x33 : Int) (x34 : Int) (x35 : Int) (x36 : Int) (x37 : Int) (x38 : Int) (b39 : Bool) (x40 : Int) (x41 : Int) (x42 : Int) (x43 : Int) (x44 : Int) (b45 : Bool) (x46 : Int) (x47 : Int) (A48 : Option Addr) (n49 : Nat) (c50 : Nat) (b51 : Bool) (b52 : Bool) (b53 : Bool) (M : Mem) : entry P T k lo F.cdef_may [.agg ⟨[.int .i64 x1, .int .i64 x2, .slice A3 n4 c5, .int .i64 x6, .int .i64 x7, .slice A8 n9 c10, .int .i64 x11, .int .i64 x12, .slice A13 n14 c15]⟩, .slice A16 n17 c18, .slice A19 n20 c21, .agg ⟨[.bool b22, .int .i64 x23, .bool b24, .bool b25, .int .i64 x26, .int .i64 x27, .int .i64 x28, .int .i64 x29, .int .i64 x30, .int .i64 x31, .int .i64 x32, .int .i64 x33, .int .i64 x34, .int .i64 x35, .int .i64 x36, .int .i64 x37, .int .i64 x38, .bool b39, .int .i64 x40, .int .i64 x41, .int .i64 x42, .int .i64 x43, .int .i64 x44, .bool b45, .int .i64 x46, .int .i64 x47, .slice A48 n49 c50, .bool b51, .bool b52, .bool b53]⟩] M =
 ob (acall P T k lo F.plane_Whole [.agg ⟨[.int .i64 x1, .int .i64 x2, .slice A3 n4 c5, .int .i64 x6, .int .i64 x7, .slice A8 n9 c10, .int .i64 x11, .int .i64 x12, .slice A13 n14 c15]⟩] (M ++ [⟨.fx, [.bool b22, .int .i64 x23, .bool b24, .bool b25, .int .i64 x26, .int .i64 x27, .int .i64 x28, .int .i64 x29, .int .i64 x30, .int .i64 x31, .int .i64 x32, .int .i64 x33, .int .i64 x34, .int .i64 x35, .int .i64 x36, .int .i64 x37, .int .i64 x38, .bool b39, .int .i64 x40, .int .i64 x41, .int .i64 x42, .int .i64 x43, .int .i64 x44, .bool b45, .int .i64 x46, .int .i64 x47, .slice A48 n49 c50, .bool b51, .bool b52, .bool b53]⟩] : Mem)) fun r59 =>
 ob ((some r59.1).bind (Value.int? .i64)) fun x60 =>
 bb (x60 != 0)
 (some (.ret (.bool false) r59.2))
 (bb (Int.tmod x1 8 != 0)
 (some (.ret (.bool false) r59.2))
 (bb (Int.tmod x2 8 != 0)
 (some (.ret (.bool false) r59.2))
 (bb ((n17 : Int) != IntKind.i64.wrap ((IntKind.i64.wrap (Int.tdiv x1 8)) * (IntKind.i64.wrap (Int.tdiv x2 8))))
 (some (.ret (.bool false) r59.2))
 (ob (acall P T k lo F.cdef_may_1 [.int .i64 x1] r59.2) fun r61 =>
 ob ((some r61.1).bind (Value.int? .i64)) fun x62 =>
 ob (acall P T k lo F.cdef_may_1 [.int .i64 x2] r61.2) fun r63 =>
 ob ((some r63.1).bind (Value.int? .i64)) fun x64 =>
 bb ((n20 : Int) != IntKind.i64.wrap (x62 * x64))
 (some (.ret (.bool false) r63.2))
 (ob ((r63.2.ld (plus ⟨M.length, 0, none⟩ 23)).bind Value.bool?) fun b65 =>
 bb (!b65)
 (some (.ret (.bool true) r63.2))
 (ob ((r63.2.ld (plus ⟨M.length, 0, none⟩ 24)).bind (Value.int? .i64)) fun x66 =>
 ob (acall P T k lo F.cdef_within [.int .i64 x66, .int .i64 3, .int .i64 6] r63.2) fun r67 =>
 ob ((some r67.1).bind Value.bool?) fun b68 =>
 bb (!b68)
 (some (.ret (.bool false) r67.2))
 (ob ((r67.2.ld (plus ⟨M.length, 0, none⟩ 26)).bind Value.slc?) fun s69 =>
 ob (acall P T k lo F.cdef_within [.int .i64 (s69.n : Int), .int .i64 1, .int .i64 8] r67.2) fun r70 =>
 ob ((some r70.1).bind Value.bool?) fun b71 =>
 bb (!b71)
 (some (.ret (.bool false) r70.2))
 (ob ((r70.2.ld (plus ⟨M.length, 0, none⟩ 26)).bind Value.slc?) fun s72 =>
 some (cdef_may.c500 A19 n20 c21 ⟨M.length, 0, none⟩ s72.a s72.n s72.c (s72.n : Int) 0 r70.2))))))))) := by kernel_rfl
theorem cdef_may.p500 (k lo : Nat) (A1 : Option Addr) (n2 : Nat) (c3 : Nat) (a4 : Addr) (A5 : Option Addr) (n6 : Nat) (c7 : Nat) (x8 : Int) (x9 : Int) (M : Mem) : piece P T k lo F.cdef_may 500 [.v (.slice A1 n2 c3), .v (.pointer (some a4)), .v (.slice A5 n6 c7), .v (.int .i64 x8), .v (.int .i64 x9)] [] M =
 bb (decide (x9 < x8))
 (pb (0 ≤ x9 ∧ x9 < (n6 : Int))
 (ob A5 fun a73 =>
 ob ((M.ld (plus a73 (x9.toNat * 4))).bind (Value.int? .i64)) fun x74 =>
 ob ((M.ld (plus (plus a73 (x9.toNat * 4)) 1)).bind (Value.int? .i64)) fun x75 =>
 ob ((M.ld (plus (plus a73 (x9.toNat * 4)) 2)).bind (Value.int? .i64)) fun x76 =>
 ob ((M.ld (plus (plus a73 (x9.toNat * 4)) 3)).bind (Value.int? .i64)) fun x77 =>
 ob (acall P T k lo F.cdef_within [.int .i64 x74, .int .i64 0, .int .i64 15] M) fun r78 =>
 ob ((some r78.1).bind Value.bool?) fun b79 =>
 bb (!b79)
 (some (.ret (.bool false) r78.2))
 (ob (acall P T k lo F.cdef_within [.int .i64 x76, .int .i64 0, .int .i64 15] r78.2) fun r80 =>
 ob ((some r80.1).bind Value.bool?) fun b81 =>
 bb (!b81)
 (some (.ret (.bool false) r80.2))
 (ob (acall P T k lo F.cdef_within [.int .i64 x75, .int .i64 0, .int .i64 3] r80.2) fun r82 =>
 ob ((some r82.1).bind Value.bool?) fun b83 =>
 bb (!b83)
 (some (.ret (.bool false) r82.2))
 (ob (acall P T k lo F.cdef_within [.int .i64 x77, .int .i64 0, .int .i64 3] r82.2) fun r84 =>
 ob ((some r84.1).bind Value.bool?) fun b85 =>
 bb (!b85)
 (some (.ret (.bool false) r84.2))
 (some (cdef_may.c500 A1 n2 c3 a4 A5 n6 c7 x8 (IntKind.i64.wrap (x9 + 1)) r84.2)))))) none)
 (ob (acall P T k lo F.slices_ContainsFunc__int_int [.slice A1 n2 c3, .func (.func F.cdef_may_2) ⟨[]⟩ ⟨[.pointer (some a4)]⟩] M) fun r86 =>
 ob ((some r86.1).bind Value.bool?) fun b87 =>
 some (.ret (.bool (!b87)) r86.2)) := by kernel_rfl
theorem slices_Clone__uint8_uint8.entry (k lo : Nat) (A1 : Option Addr) (n2 : Nat) (c3 : Nat) (M : Mem) : entry P T k lo F.slices_Clone__uint8_uint8 [.slice A1 n2 c3] M =
 bb A1.isNone
 (some (.ret (.slice none 0 0) M))
 (ob (Mem.src (M ++ [⟨.fx, []⟩] : Mem) A1 n2 n2) fun l9 =>
 ob ((M ++ [⟨.fx, []⟩] : Mem).app lo 1 1 ⟨some ⟨M.length, 0, none⟩, 0, 0⟩ l9 n2) fun r10 =>
 some (.ret (.slice r10.1.a r10.1.n r10.1.c) r10.2)) := by kernel_rfl
theorem plane_Cut.entry (k lo : Nat) (x1 : Int) (x2 : Int) (A3 : Option Addr) (n4 : Nat) (c5 : Nat) (x6 : Int) (x7 : Int) (x8 : Int) (x9 : Int) (M : Mem) : entry P T k lo F.plane_Cut [.agg ⟨[.int .i64 x1, .int .i64 x2, .slice A3 n4 c5]⟩, .agg ⟨[.int .i64 x6, .int .i64 x7, .int .i64 x8, .int .i64 x9]⟩] M =
 ob (acall P T k lo F.plane_within [.agg ⟨[.int .i64 x1, .int .i64 x2, .slice A3 n4 c5]⟩, .agg ⟨[.int .i64 x6, .int .i64 x7, .int .i64 x8, .int .i64 x9]⟩] M) fun r15 =>
 ob ((some r15.1).bind Value.bool?) fun b16 =>
 bb (!b16)
 (some (.ret (.tuple ⟨[.slice none 0 0, .int .i64 2]⟩) r15.2))
 (pb (0 ≤ IntKind.i64.wrap (x8 * x9) ∧ room ((IntKind.i64.wrap (x8 * x9)).toNat) 1)
 (some (plane_Cut.c244 (some ⟨r15.2.length, 0, some 0⟩) 0 0 x9 0 x1 x2 A3 n4 c5 x6 x7 x8 x9 (r15.2 ++ [⟨.op 1, []⟩] : Mem))) none) := by kernel_rfl
theorem plane_Cut.p244 (k lo : Nat) (A1 : Option Addr) (n2 : Nat) (c3 : Nat) (x4 : Int) (x5 : Int) (x6 : Int) (x7 : Int) (A8 : Option Addr) (n9 : Nat) (c10 : Nat) (x11 : Int) (x12 : Int) (x13 : Int) (x14 : Int) (M : Mem) : piece P T k lo F.plane_Cut 244 [.l 2 0, .l 3 0, .v (.slice A1 n2 c3), .v (.int .i64 x4), .v (.int .i64 x5)] [[.int .i64 x6, .int .i64 x7, .slice A8 n9 c10], [.int .i64 x11, .int .i64 x12, .int .i64 x13, .int .i64 x14]] M =
 bb (decide (x5 < x4))
 (ob (acall P T k lo F.plane_row [.agg ⟨[.int .i64 x6, .int .i64 x7, .slice A8 n9 c10]⟩, .agg ⟨[.int .i64 x11, .int .i64 x12, .int .i64 x13, .int .i64 x14]⟩, .int .i64 x5] M) fun r17 =>
 ob ((some r17.1).bind Value.slc?) fun s18 =>
 ob (Mem.src r17.2 s18.a s18.n s18.n) fun l19 =>
 ob (r17.2.app lo 1 1 ⟨A1, n2, c3⟩ l19 s18.n) fun r20 =>
 some (plane_Cut.c244 r20.1.a r20.1.n r20.1.c x4 (IntKind.i64.wrap (x5 + 1)) x6 x7 A8 n9 c10 x11 x12 x13 x14 r20.2))
 (some (.ret (.tuple ⟨[.slice A1 n2 c3, .int .i64 0]⟩) M)) := by kernel_rfl
end Go.Zt
