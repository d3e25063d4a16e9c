/- What the law ChainKnown needs of the text Eq4. -/
import Derived.Test.YtbbfdebfhgdciaaPEq0
import Derived.KernelRfl
set_option maxRecDepth 100000
set_option maxHeartbeats 4000000
set_option linter.unusedVariables false
namespace Go.Zt
theorem cdef_Direction.entry (k lo : Nat) (A1 : Option Addr) (n2 : Nat) (c3 : Nat) (M : Mem) : entry P T k lo F.cdef_Direction [.slice A1 n2 c3] M =
 bb ((n2 : Int) != 64)
 (some (.ret (.tuple ⟨[.int .i64 0, .int .i64 0, .int .i64 2]⟩) M))
 (some (cdef_Direction.c244 0 A1 n2 c3 (n2 : Int) 0 ([.int .i64 0, .int .i64 0, .int .i64 0, .int .i64 0, .int .i64 0, .int .i64 0, .int .i64 0, .int .i64 0, .int .i64 0, .int .i64 0, .int .i64 0, .int .i64 0, .int .i64 0, .int .i64 0, .int .i64 0, .int .i64 0, .int .i64 0, .int .i64 0, .int .i64 0, .int .i64 0, .int .i64 0, .int .i64 0, .int .i64 0, .int .i64 0, .int .i64 0, .int .i64 0, .int .i64 0, .int .i64 0, .int .i64 0, .int .i64 0, .int .i64 0, .int .i64 0, .int .i64 0, .int .i64 0, .int .i64 0, .int .i64 0, .int .i64 0, .int .i64 0, .int .i64 0, .int .i64 0, .int .i64 0, .int .i64 0, .int .i64 0, .int .i64 0, .int .i64 0, .int .i64 0, .int .i64 0, .int .i64 0, .int .i64 0, .int .i64 0, .int .i64 0, .int .i64 0, .int .i64 0, .int .i64 0, .int .i64 0, .int .i64 0, .int .i64 0, .int .i64 0, .int .i64 0, .int .i64 0, .int .i64 0, .int .i64 0, .int .i64 0, .int .i64 0, .int .i64 0, .int .i64 0, .int .i64 0, .int .i64 0, .int .i64 0, .int .i64 0, .int .i64 0, .int .i64 0, .int .i64 0, .int .i64 0, .int .i64 0, .int .i64 0, .int .i64 0, .int .i64 0, .int .i64 0, .int .i64 0, .int .i64 0, .int .i64 0, .int .i64 0, .int .i64 0, .int .i64 0, .int .i64 0, .int .i64 0, .int .i64 0, .int .i64 0, .int .i64 0, .int .i64 0, .int .i64 0, .int .i64 0, .int .i64 0, .int .i64 0, .int .i64 0, .int .i64 0, .int .i64 0, .int .i64 0, .int .i64 0, .int .i64 0, .int .i64 0, .int .i64 0, .int .i64 0, .int .i64 0, .int .i64 0, .int .i64 0, .int .i64 0, .int .i64 0, .int .i64 0, .int .i64 0, .int .i64 0, .int .i64 0, .int .i64 0, .int .i64 0, .int .i64 0, .int .i64 0, .int .i64 0, .int .i64 0, .int .i64 0, .int .i64 0, .int .i64 0, .int .i64 0, .int .i64 0, .int .i64 0, .int .i64 0, .int .i64 0, .int .i64 0]) ([.int .i64 0, .int .i64 0, .int .i64 0, .int .i64 0, .int .i64 0, .int .i64 0, .int .i64 0, .int .i64 0, .int .i64 0, .int .i64 0, .int .i64 0, .int .i64 0, .int .i64 0, .int .i64 0, .int .i64 0, .int .i64 0, .int .i64 0, .int .i64 0, .int .i64 0, .int .i64 0, .int .i64 0, .int .i64 0, .int .i64 0, .int .i64 0, .int .i64 0, .int .i64 0, .int .i64 0, .int .i64 0, .int .i64 0, .int .i64 0, .int .i64 0, .int .i64 0, .int .i64 0, .int .i64 0, .int .i64 0, .int .i64 0, .int .i64 0, .int .i64 0, .int .i64 0, .int .i64 0, .int .i64 0, .int .i64 0, .int .i64 0, .int .i64 0, .int .i64 0, .int .i64 0, .int .i64 0, .int .i64 0, .int .i64 0, .int .i64 0, .int .i64 0, .int .i64 0, .int .i64 0, .int .i64 0, .int .i64 0, .int .i64 0, .int .i64 0, .int .i64 0, .int .i64 0, .int .i64 0, .int .i64 0, .int .i64 0, .int .i64 0, .int .i64 0, .int .i64 0, .int .i64 0, .int .i64 0, .int .i64 0, .int .i64 0, .int .i64 0, .int .i64 0, .int .i64 0, .int .i64 0, .int .i64 0, .int .i64 0, .int .i64 0, .int .i64 0, .int .i64 0, .int .i64 0, .int .i64 0, .int .i64 0, .int .i64 0, .int .i64 0, .int .i64 0, .int .i64 0, .int .i64 0, .int .i64 0, .int .i64 0, .int .i64 0, .int .i64 0, .int .i64 0, .int .i64 0, .int .i64 0, .int .i64 0, .int .i64 0, .int .i64 0, .int .i64 0, .int .i64 0, .int .i64 0, .int .i64 0, .int .i64 0, .int .i64 0, .int .i64 0, .int .i64 0, .int .i64 0, .int .i64 0, .int .i64 0, .int .i64 0, .int .i64 0, .int .i64 0, .int .i64 0, .int .i64 0, .int .i64 0, .int .i64 0, .int .i64 0, .int .i64 0, .int .i64 0, .int .i64 0, .int .i64 0, .int .i64 0, .int .i64 0, .int .i64 0, .int .i64 0, .int .i64 0, .int .i64 0, .int .i64 0, .int .i64 0, .int .i64 0]) M)) := by kernel_rfl
theorem cdef_Direction.p244 (k lo : Nat) (x1 : Int) (A2 : Option Addr) (n3 : Nat) (c4 : Nat) (x5 : Int) (x6 : Int) (cs7 : List Value) (cs8 : List Value) (M : Mem) : piece P T k lo F.cdef_Direction 244 [.v (.int .i64 x1), .l 5 0, .l 6 0, .v (.slice A2 n3 c4), .v (.int .i64 x5), .v (.int .i64 x6)] [cs7, cs8] M =
 bb (decide (x6 < x5))
 (pb (0 ≤ x6 ∧ x6 < (n3 : Int))
 (ob A2 fun a9 =>
 ob ((M.ld (plus a9 x6.toNat)).bind (Value.int? .u8)) fun x10 =>
 ob (acall P T k lo F.cdef_lines [.int .i64 (IntKind.i64.wrap (Int.tdiv x6 8)), .int .i64 (Int.tmod x6 8)] M) fun r11 =>
 ob ((some r11.1).bind (Value.agg? 8)) fun l12 =>
 ob ((l12[0]?).bind (Value.int? .i64)) fun x13 =>
 ob ((l12[1]?).bind (Value.int? .i64)) fun x14 =>
 ob ((l12[2]?).bind (Value.int? .i64)) fun x15 =>
 ob ((l12[3]?).bind (Value.int? .i64)) fun x16 =>
 ob ((l12[4]?).bind (Value.int? .i64)) fun x17 =>
 ob ((l12[5]?).bind (Value.int? .i64)) fun x18 =>
 ob ((l12[6]?).bind (Value.int? .i64)) fun x19 =>
 ob ((l12[7]?).bind (Value.int? .i64)) fun x20 =>
 some (cdef_Direction.c62668 x1 x10 A2 n3 c4 x5 x6 x13 x14 x15 x16 x17 x18 x19 x20 0 cs7 cs8 r11.2)) none)
 (some (cdef_Direction.c1012 x1 0 cs7 cs8 ([.int .i64 0, .int .i64 0, .int .i64 0, .int .i64 0, .int .i64 0, .int .i64 0, .int .i64 0, .int .i64 0]) M)) := by kernel_rfl
theorem cdef_Direction.p1012 (k lo : Nat) (x1 : Int) (x2 : Int) (cs3 : List Value) (cs4 : List Value) (cs5 : List Value) (M : Mem) : piece P T k lo F.cdef_Direction 1012 [.v (.int .i64 x1), .l 5 0, .l 6 0, .l 11 0, .v (.int .i64 x2)] [cs3, cs4, cs5] M =
 bb (decide (x2 < 8))
 (pb (0 ≤ x2 ∧ x2 < (8 : Int))
 (ob ((cs4[0 + (x2.toNat * 16) + 0]?).bind (Value.int? .i64)) fun x21 =>
 ob ((cs4[0 + (x2.toNat * 16) + 1]?).bind (Value.int? .i64)) fun x22 =>
 ob ((cs4[0 + (x2.toNat * 16) + 2]?).bind (Value.int? .i64)) fun x23 =>
 ob ((cs4[0 + (x2.toNat * 16) + 3]?).bind (Value.int? .i64)) fun x24 =>
 ob ((cs4[0 + (x2.toNat * 16) + 4]?).bind (Value.int? .i64)) fun x25 =>
 ob ((cs4[0 + (x2.toNat * 16) + 5]?).bind (Value.int? .i64)) fun x26 =>
 ob ((cs4[0 + (x2.toNat * 16) + 6]?).bind (Value.int? .i64)) fun x27 =>
 ob ((cs4[0 + (x2.toNat * 16) + 7]?).bind (Value.int? .i64)) fun x28 =>
 ob ((cs4[0 + (x2.toNat * 16) + 8]?).bind (Value.int? .i64)) fun x29 =>
 ob ((cs4[0 + (x2.toNat * 16) + 9]?).bind (Value.int? .i64)) fun x30 =>
 ob ((cs4[0 + (x2.toNat * 16) + 10]?).bind (Value.int? .i64)) fun x31 =>
 ob ((cs4[0 + (x2.toNat * 16) + 11]?).bind (Value.int? .i64)) fun x32 =>
 ob ((cs4[0 + (x2.toNat * 16) + 12]?).bind (Value.int? .i64)) fun x33 =>
 ob ((cs4[0 + (x2.toNat * 16) + 13]?).bind (Value.int? .i64)) fun x34 =>
 ob ((cs4[0 + (x2.toNat * 16) + 14]?).bind (Value.int? .i64)) fun x35 =>
 ob ((cs4[0 + (x2.toNat * 16) + 15]?).bind (Value.int? .i64)) fun x36 =>
 some (cdef_Direction.c2074196 x1 x2 x2 x21 x22 x23 x24 x25 x26 x27 x28 x29 x30 x31 x32 x33 x34 x35 x36 0 cs3 cs4 cs5 M)) none)
 (pb (0 ≤ x1 ∧ x1 < (8 : Int))
 (ob ((cs5[0 + x1.toNat + 0]?).bind (Value.int? .i64)) fun x37 =>
 pb (0 ≤ Int.tmod (IntKind.i64.wrap (x1 + 4)) 8 ∧ Int.tmod (IntKind.i64.wrap (x1 + 4)) 8 < (8 : Int))
 (ob ((cs5[0 + ((Int.tmod (IntKind.i64.wrap (x1 + 4)) 8).toNat) + 0]?).bind (Value.int? .i64)) fun x38 =>
 some (.ret (.tuple ⟨[.int .i64 x1, .int .i64 (shrI .i64 (IntKind.i64.wrap (x37 - x38)) 10), .int .i64 0]⟩) M)) none) none) := by kernel_rfl
theorem cdef_Direction.p8103 (k lo : Nat) (x1 : Int) (x2 : Int) (cs3 : List Value) (cs4 : List Value) (cs5 : List Value) (M : Mem) : piece P T k lo F.cdef_Direction 8103 [.v (.int .i64 x1), .l 5 0, .l 6 0, .l 11 0, .v (.int .i64 x2)] [cs3, cs4, cs5] M =
 some (cdef_Direction.c1012 x1 (IntKind.i64.wrap (x2 + 1)) cs3 cs4 cs5 M) := by kernel_rfl
theorem cdef_Direction.p62668 (k lo : Nat) (x1 : Int) (x2 : Int) (A3 : Option Addr) (n4 : Nat) (c5 : Nat) (x6 : Int) (x7 : Int) (x8 : Int) (x9 : Int) (x10 : Int) (x11 : Int) (x12 : Int) (x13 : Int) (x14 : Int) (x15 : Int) (x16 : Int) (cs17 : List Value) (cs18 : List Value) (M : Mem) : piece P T k lo F.cdef_Direction 62668 [.v (.int .i64 x1), .l 5 0, .l 6 0, .v (.int .u8 x2), .v (.slice A3 n4 c5), .v (.int .i64 x6), .v (.int .i64 x7), .v (.agg ⟨[.int .i64 x8, .int .i64 x9, .int .i64 x10, .int .i64 x11, .int .i64 x12, .int .i64 x13, .int .i64 x14, .int .i64 x15]⟩), .v (.int .i64 x16)] [cs17, cs18] M =
 bb (decide (x16 < 8))
 (pb (0 ≤ x16 ∧ x16 < (8 : Int))
 (ob ((([.int .i64 x8, .int .i64 x9, .int .i64 x10, .int .i64 x11, .int .i64 x12, .int .i64 x13, .int .i64 x14, .int .i64 x15] : List Value)[x16.toNat + 0]?).bind (Value.int? .i64)) fun x39 =>
 pb (0 ≤ x16 ∧ x16 < (8 : Int))
 (pb (0 ≤ x39 ∧ x39 < (16 : Int))
 (ob ((cs17[0 + (x16.toNat * 16) + x39.toNat + 0]?).bind (Value.int? .i64)) fun x40 =>
 pb (0 ≤ x16 ∧ x16 < (8 : Int))
 (pb (0 ≤ x39 ∧ x39 < (16 : Int))
 (pb (0 + (x16.toNat * 16) + x39.toNat + 1 ≤ cs17.length)
 (pb (0 ≤ x16 ∧ x16 < (8 : Int))
 (pb (0 ≤ x39 ∧ x39 < (16 : Int))
 (ob ((cs18[0 + (x16.toNat * 16) + x39.toNat + 0]?).bind (Value.int? .i64)) fun x41 =>
 pb (0 ≤ x16 ∧ x16 < (8 : Int))
 (pb (0 ≤ x39 ∧ x39 < (16 : Int))
 (pb (0 + (x16.toNat * 16) + x39.toNat + 1 ≤ cs18.length)
 (some (cdef_Direction.c62668 x1 x2 A3 n4 c5 x6 x7 x8 x9 x10 x11 x12 x13 x14 x15 (IntKind.i64.wrap (x16 + 1)) (setL cs17 (0 + (x16.toNat * 16) + x39.toNat) [.int .i64 (IntKind.i64.wrap (x40 + (IntKind.i64.wrap ((IntKind.i64.wrap x2) - 128))))]) (setL cs18 (0 + (x16.toNat * 16) + x39.toNat) [.int .i64 (IntKind.i64.wrap (x41 + 1))]) M)) none) none) none) none) none) none) none) none) none) none) none)
 (some (cdef_Direction.c244 x1 A3 n4 c5 x6 (IntKind.i64.wrap (x7 + 1)) cs17 cs18 M)) := by kernel_rfl
theorem cdef_Direction.p2074196 (k lo : Nat) (x1 : Int) (x2 : Int) (x3 : Int) (x4 : Int) (x5 : Int) (x6 : Int) (x7 : Int) (x8 : Int) (x9 : Int) (x10 : Int) (x11 : Int) (x12 : Int) (x13 : Int) (x14 : Int) (x15 : Int) (x16 : Int) (x17 : Int) (x18 : Int) (x19 : Int) (x20 : Int) (cs21 : List Value) (cs22 : List Value) (cs23 : List Value) (M : Mem) : piece P T k lo F.cdef_Direction 2074196 [.v (.int .i64 x1), .l 5 0, .l 6 0, .l 11 0, .v (.int .i64 x2), .v (.int .i64 x3), .v (.agg ⟨[.int .i64 x4, .int .i64 x5, .int .i64 x6, .int .i64 x7, .int .i64 x8, .int .i64 x9, .int .i64 x10, .int .i64 x11, .int .i64 x12, .int .i64 x13, .int .i64 x14, .int .i64 x15, .int .i64 x16, .int .i64 x17, .int .i64 x18, .int .i64 x19]⟩), .v (.int .i64 x20)] [cs21, cs22, cs23] M =
 bb (decide (x20 < 16))
 (pb (0 ≤ x20 ∧ x20 < (16 : Int))
 (ob ((([.int .i64 x4, .int .i64 x5, .int .i64 x6, .int .i64 x7, .int .i64 x8, .int .i64 x9, .int .i64 x10, .int .i64 x11, .int .i64 x12, .int .i64 x13, .int .i64 x14, .int .i64 x15, .int .i64 x16, .int .i64 x17, .int .i64 x18, .int .i64 x19] : List Value)[x20.toNat + 0]?).bind (Value.int? .i64)) fun x42 =>
 bb (x42 == 0)
 (some (cdef_Direction.c16593575 x1 x2 x3 x4 x5 x6 x7 x8 x9 x10 x11 x12 x13 x14 x15 x16 x17 x18 x19 x20 cs21 cs22 cs23 M))
 (pb (0 ≤ x2 ∧ x2 < (8 : Int))
 (ob ((cs23[0 + x2.toNat + 0]?).bind (Value.int? .i64)) fun x43 =>
 pb (0 ≤ x2 ∧ x2 < (8 : Int))
 (pb (0 ≤ x20 ∧ x20 < (16 : Int))
 (ob ((cs21[0 + (x2.toNat * 16) + x20.toNat + 0]?).bind (Value.int? .i64)) fun x44 =>
 pb (0 ≤ x2 ∧ x2 < (8 : Int))
 (pb (0 ≤ x20 ∧ x20 < (16 : Int))
 (ob ((cs21[0 + (x2.toNat * 16) + x20.toNat + 0]?).bind (Value.int? .i64)) fun x45 =>
 pb (x42 = 0) none
 (pb (0 ≤ x2 ∧ x2 < (8 : Int))
 (pb (0 + x2.toNat + 1 ≤ cs23.length)
 (some (cdef_Direction.c16593575 x1 x2 x3 x4 x5 x6 x7 x8 x9 x10 x11 x12 x13 x14 x15 x16 x17 x18 x19 x20 cs21 cs22 (setL cs23 (0 + x2.toNat) [.int .i64 (IntKind.i64.wrap (x43 + (IntKind.i64.wrap ((IntKind.i64.wrap (x44 * x45)) * (IntKind.i64.wrap (Int.tdiv 840 x42))))))]) M)) none) none)) none) none) none) none) none)) none)
 (pb (0 ≤ x2 ∧ x2 < (8 : Int))
 (ob ((cs23[0 + x2.toNat + 0]?).bind (Value.int? .i64)) fun x46 =>
 pb (0 ≤ x1 ∧ x1 < (8 : Int))
 (ob ((cs23[0 + x1.toNat + 0]?).bind (Value.int? .i64)) fun x47 =>
 bb (decide (x46 > x47))
 (some (cdef_Direction.c8103 x2 x3 cs21 cs22 cs23 M))
 (some (cdef_Direction.c8103 x1 x3 cs21 cs22 cs23 M))) none) none) := by kernel_rfl
theorem cdef_Direction.p16593575 (k lo : Nat) (x1 : Int) (x2 : Int) (x3 : Int) (x4 : Int) (x5 : Int) (x6 : Int) (x7 : Int) (x8 : Int) (x9 : Int) (x10 : Int) (x11 : Int) (x12 : Int) (x13 : Int) (x14 : Int) (x15 : Int) (x16 : Int) (x17 : Int) (x18 : Int) (x19 : Int) (x20 : Int) (cs21 : List Value) (cs22 : List Value) (cs23 : List Value) (M : Mem) : piece P T k lo F.cdef_Direction 16593575 [.v (.int .i64 x1), .l 5 0, .l 6 0, .l 11 0, .v (.int .i64 x2), .v (.int .i64 x3), .v (.agg ⟨[.int .i64 x4, .int .i64 x5, .int .i64 x6, .int .i64 x7, .int .i64 x8, .int .i64 x9, .int .i64 x10, .int .i64 x11, .int .i64 x12, .int .i64 x13, .int .i64 x14, .int .i64 x15, .int .i64 x16, .int .i64 x17, .int .i64 x18, .int .i64 x19]⟩), .v (.int .i64 x20)] [cs21, cs22, cs23] M =
 some (cdef_Direction.c2074196 x1 x2 x3 x4 x5 x6 x7 x8 x9 x10 x11 x12 x13 x14 x15 x16 x17 x18 x19 (IntKind.i64.wrap (x20 + 1)) cs21 cs22 cs23 M) := by kernel_rfl
theorem cdef_primary.entry (k lo : Nat) (x1 : Int) (x2 : Int) (M : Mem) : entry P T k lo F.cdef_primary [.int .i64 x1, .int .i64 x2] M =
 bb (x2 == 0)
 (some (.ret (.int .i64 0) M))
 (bb (shrI .i64 x2 6 == 0)
 (some (.ret (.int .i64 (shrI .i64 (IntKind.i64.wrap ((IntKind.i64.wrap (4 * x1)) + 8)) 4)) M))
 (ob (acall P T k lo F.math_bits_Len [.int .u64 (IntKind.u64.wrap (shrI .i64 x2 6))] M) fun r8 =>
 ob ((some r8.1).bind (Value.int? .i64)) fun x9 =>
 some (.ret (.int .i64 (shrI .i64 (IntKind.i64.wrap ((IntKind.i64.wrap (x1 * (IntKind.i64.wrap (4 + (minI (IntKind.i64.wrap (x9 - 1)) 12))))) + 8)) 4)) r8.2))) := by kernel_rfl
theorem cdef_Block.entry (k lo : Nat) (x1 : Int) (x2 : Int) (A3 : Option Addr) (n4 : Nat) (c5 : Nat) (x6 : Int) (x7 : Int) (x8 : Int) (x9 : Int) (x10 : Int) (x11 : Int) (x12 : Int) (x13 : Int) (M : Mem) : entry P T k lo F.cdef_Block [.agg ⟨[.int .i64 x1, .int .i64 x2, .slice A3 n4 c5]⟩, .agg ⟨[.int .i64 x6, .int .i64 x7, .int .i64 x8, .int .i64 x9]⟩, .int .i64 x10, .int .i64 x11, .int .i64 x12, .int .i64 x13] M =
 ob (acall P T k lo F.plane_Check [.agg ⟨[.int .i64 x1, .int .i64 x2, .slice A3 n4 c5]⟩] M) fun r19 =>
 ob ((some r19.1).bind (Value.int? .i64)) fun x20 =>
 bb (x20 == 0)
 (ob (acall P T k lo F.cdef_within [.int .i64 x8, .int .i64 1, .int .i64 64] r19.2) fun r21 =>
 ob ((some r21.1).bind Value.bool?) fun b22 =>
 bb b22
 (ob (acall P T k lo F.cdef_within [.int .i64 x9, .int .i64 1, .int .i64 64] r21.2) fun r23 =>
 ob ((some r23.1).bind Value.bool?) fun b24 =>
 bb b24
 (ob (acall P T k lo F.cdef_within [.int .i64 x6, .int .i64 0, .int .i64 (IntKind.i64.wrap (x1 - x8))] r23.2) fun r25 =>
 ob ((some r25.1).bind Value.bool?) fun b26 =>
 bb b26
 (ob (acall P T k lo F.cdef_within [.int .i64 x7, .int .i64 0, .int .i64 (IntKind.i64.wrap (x2 - x9))] r25.2) fun r27 =>
 ob ((some r27.1).bind Value.bool?) fun b28 =>
 bb (!b28)
 (some (.ret (.tuple ⟨[.slice none 0 0, .int .i64 2]⟩) r27.2))
 (ob (acall P T k lo F.cdef_within [.int .i64 x10, .int .i64 0, .int .i64 7] r27.2) fun r29 =>
 ob ((some r29.1).bind Value.bool?) fun b30 =>
 bb (!b30)
 (some (.ret (.tuple ⟨[.slice none 0 0, .int .i64 2]⟩) r29.2))
 (ob (acall P T k lo F.cdef_within [.int .i64 x11, .int .i64 0, .int .i64 15] r29.2) fun r31 =>
 ob ((some r31.1).bind Value.bool?) fun b32 =>
 bb (!b32)
 (some (.ret (.tuple ⟨[.slice none 0 0, .int .i64 2]⟩) r31.2))
 (ob (acall P T k lo F.cdef_within [.int .i64 x12, .int .i64 0, .int .i64 4] r31.2) fun r33 =>
 ob ((some r33.1).bind Value.bool?) fun b34 =>
 bb (!b34)
 (some (.ret (.tuple ⟨[.slice none 0 0, .int .i64 2]⟩) r33.2))
 (ob (acall P T k lo F.cdef_within [.int .i64 x13, .int .i64 0, .int .i64 6] r33.2) fun r35 =>
 ob ((some r35.1).bind Value.bool?) fun b36 =>
 bb (!b36)
 (some (.ret (.tuple ⟨[.slice none 0 0, .int .i64 2]⟩) r35.2))
 (ob (acall P T k lo F.cdef_taps [.int .i64 x10, .int .i64 x11, .int .i64 x12] r35.2) fun r37 =>
 ob ((some r37.1).bind Value.slc?) fun s38 =>
 pb (0 ≤ IntKind.i64.wrap (x8 * x9) ∧ room ((IntKind.i64.wrap (x8 * x9)).toNat) 1)
 (some (cdef_Block.c1012 x13 s38.a s38.n s38.c (some ⟨r37.2.length, 0, some 0⟩) 0 0 x7 x1 x2 A3 n4 c5 x6 x7 x8 x9 (r37.2 ++ [⟨.op 1, []⟩] : Mem))) none))))))
 (some (.ret (.tuple ⟨[.slice none 0 0, .int .i64 2]⟩) r25.2)))
 (some (.ret (.tuple ⟨[.slice none 0 0, .int .i64 2]⟩) r23.2)))
 (some (.ret (.tuple ⟨[.slice none 0 0, .int .i64 2]⟩) r21.2)))
 (some (.ret (.tuple ⟨[.slice none 0 0, .int .i64 2]⟩) r19.2)) := by kernel_rfl
theorem cdef_Block.p1012 (k lo : Nat) (x1 : Int) (A2 : Option Addr) (n3 : Nat) (c4 : Nat) (A5 : Option Addr) (n6 : Nat) (c7 : Nat) (x8 : Int) (x9 : Int) (x10 : Int) (A11 : Option Addr) (n12 : Nat) (c13 : Nat) (x14 : Int) (x15 : Int) (x16 : Int) (x17 : Int) (M : Mem) : piece P T k lo F.cdef_Block 1012 [.v (.int .i64 x1), .l 6 0, .l 7 0, .v (.slice A2 n3 c4), .v (.slice A5 n6 c7), .v (.int .i64 x8)] [[.int .i64 x9, .int .i64 x10, .slice A11 n12 c13], [.int .i64 x14, .int .i64 x15, .int .i64 x16, .int .i64 x17]] M =
 bb (decide (x8 < IntKind.i64.wrap (x15 + x17)))
 (some (cdef_Block.c64804 x1 A2 n3 c4 A5 n6 c7 x8 x14 x9 x10 A11 n12 c13 x14 x15 x16 x17 M))
 (some (.ret (.tuple ⟨[.slice A5 n6 c7, .int .i64 0]⟩) M)) := by kernel_rfl
theorem cdef_Block.p64804 (k lo : Nat) (x1 : Int) (A2 : Option Addr) (n3 : Nat) (c4 : Nat) (A5 : Option Addr) (n6 : Nat) (c7 : Nat) (x8 : Int) (x9 : Int) (x10 : Int) (x11 : Int) (A12 : Option Addr) (n13 : Nat) (c14 : Nat) (x15 : Int) (x16 : Int) (x17 : Int) (x18 : Int) (M : Mem) : piece P T k lo F.cdef_Block 64804 [.v (.int .i64 x1), .l 6 0, .l 7 0, .v (.slice A2 n3 c4), .v (.slice A5 n6 c7), .v (.int .i64 x8), .v (.int .i64 x9)] [[.int .i64 x10, .int .i64 x11, .slice A12 n13 c14], [.int .i64 x15, .int .i64 x16, .int .i64 x17, .int .i64 x18]] M =
 bb (decide (x9 < IntKind.i64.wrap (x15 + x17)))
 (ob (acall P T k lo F.cdef_sample [.agg ⟨[.int .i64 x10, .int .i64 x11, .slice A12 n13 c14]⟩, .int .i64 x9, .int .i64 x8, .slice A2 n3 c4, .int .i64 x1] M) fun r39 =>
 ob ((some r39.1).bind (Value.int? .u8)) fun x40 =>
 ob (r39.2.app lo 1 1 ⟨A5, n6, c7⟩ ([.int .u8 x40]) 1) fun r41 =>
 some (cdef_Block.c64804 x1 A2 n3 c4 r41.1.a r41.1.n r41.1.c x8 (IntKind.i64.wrap (x9 + 1)) x10 x11 A12 n13 c14 x15 x16 x17 x18 r41.2))
 (some (cdef_Block.c1012 x1 A2 n3 c4 A5 n6 c7 (IntKind.i64.wrap (x8 + 1)) x10 x11 A12 n13 c14 x15 x16 x17 x18 M)) := by kernel_rfl
theorem cdef_second.entry (k lo : Nat) (x1 : Int) (M : Mem) : entry P T k lo F.cdef_second [.int .i64 x1] M =
 bb (x1 == 3)
 (some (.ret (.int .i64 4) M))
 (some (.ret (.int .i64 x1) M)) := by kernel_rfl
theorem slices_ContainsFunc__api_Unit_api_Unit.entry (k lo : Nat) (A1 : Option Addr) (n2 : Nat) (c3 : Nat) (v4 : Value) (M : Mem) : entry P T k lo F.slices_ContainsFunc__api_Unit_api_Unit [.slice A1 n2 c3, v4] M =
 ob (acall P T k lo F.slices_IndexFunc__api_Unit_api_Unit [.slice A1 n2 c3, v4] M) fun r10 =>
 ob ((some r10.1).bind (Value.int? .i64)) fun x11 =>
 some (.ret (.bool (decide (x11 ≥ 0))) r10.2) := by kernel_rfl
theorem wiener_Plane_1.entry (k lo : Nat) (b1 : Bool) (x2 : Int) (x3 : Int) (x4 : Int) (x5 : Int) (x6 : Int) (x7 : Int) (M : Mem) : entry P T k lo F.wiener_Plane_1 [.agg ⟨[.bool b1, .int .i64 x2, .int .i64 x3, .int .i64 x4, .int .i64 x5, .int .i64 x6, .int .i64 x7]⟩] M =
 ob (acall P T k lo F.wiener_Check [.agg ⟨[.bool b1, .int .i64 x2, .int .i64 x3, .int .i64 x4, .int .i64 x5, .int .i64 x6, .int .i64 x7]⟩] M) fun r13 =>
 ob ((some r13.1).bind (Value.int? .i64)) fun x14 =>
 some (.ret (.bool (x14 != 0)) r13.2) := by kernel_rfl
theorem wiener_Check.entry (k lo : Nat) (b1 : Bool) (x2 : Int) (x3 : Int) (x4 : Int) (x5 : Int) (x6 : Int) (x7 : Int) (M : Mem) : entry P T k lo F.wiener_Check [.agg ⟨[.bool b1, .int .i64 x2, .int .i64 x3, .int .i64 x4, .int .i64 x5, .int .i64 x6, .int .i64 x7]⟩] M =
 bb b1
 (ob (acall P T k lo F.wiener_tapsMay [.agg ⟨[.int .i64 x2, .int .i64 x3, .int .i64 x4]⟩] M) fun r13 =>
 ob ((some r13.1).bind Value.bool?) fun b14 =>
 bb b14
 (ob (acall P T k lo F.wiener_tapsMay [.agg ⟨[.int .i64 x5, .int .i64 x6, .int .i64 x7]⟩] r13.2) fun r15 =>
 ob ((some r15.1).bind Value.bool?) fun b16 =>
 bb b16
 (some (.ret (.int .i64 0) r15.2))
 (ob (Program.keyLits P 9 67 [.bool b1, .int .i64 x2, .int .i64 x3, .int .i64 x4, .int .i64 x5, .int .i64 x6, .int .i64 x7]) fun q17 => ob (Program.keyLits P 9 67 [.bool false, .int .i64 0, .int .i64 0, .int .i64 0, .int .i64 0, .int .i64 0, .int .i64 0]) fun q18 =>
 bb (sameLits q17 q18)
 (some (.ret (.int .i64 0) r15.2))
 (some (.ret (.int .i64 2) r15.2))))
 (ob (Program.keyLits P 9 67 [.bool b1, .int .i64 x2, .int .i64 x3, .int .i64 x4, .int .i64 x5, .int .i64 x6, .int .i64 x7]) fun q19 => ob (Program.keyLits P 9 67 [.bool false, .int .i64 0, .int .i64 0, .int .i64 0, .int .i64 0, .int .i64 0, .int .i64 0]) fun q20 =>
 bb (sameLits q19 q20)
 (some (.ret (.int .i64 0) r13.2))
 (some (.ret (.int .i64 2) r13.2))))
 (ob (Program.keyLits P 9 67 [.bool b1, .int .i64 x2, .int .i64 x3, .int .i64 x4, .int .i64 x5, .int .i64 x6, .int .i64 x7]) fun q21 => ob (Program.keyLits P 9 67 [.bool false, .int .i64 0, .int .i64 0, .int .i64 0, .int .i64 0, .int .i64 0, .int .i64 0]) fun q22 =>
 bb (sameLits q21 q22)
 (some (.ret (.int .i64 0) M))
 (some (.ret (.int .i64 2) M))) := by kernel_rfl
theorem wiener_stripeOf.entry (k lo : Nat) (x1 : Int) (x2 : Int) (M : Mem) : entry P T k lo F.wiener_stripeOf [.int .i64 x1, .int .i64 x2] M =
 pb (x2 = 0) none
 (some (.ret (.agg ⟨[.int .i64 (IntKind.i64.wrap ((IntKind.i64.wrap ((IntKind.i64.wrap (Int.tdiv (IntKind.i64.wrap (x1 + (IntKind.i64.wrap (Int.tdiv x2 8)))) x2)) * x2)) - (IntKind.i64.wrap (Int.tdiv x2 8)))), .int .i64 (IntKind.i64.wrap ((IntKind.i64.wrap ((IntKind.i64.wrap ((IntKind.i64.wrap (Int.tdiv (IntKind.i64.wrap (x1 + (IntKind.i64.wrap (Int.tdiv x2 8)))) x2)) * x2)) - (IntKind.i64.wrap (Int.tdiv x2 8)))) + x2))]⟩) M)) := by kernel_rfl
theorem wiener_Seven.entry (k lo : Nat) (x1 : Int) (x2 : Int) (x3 : Int) (M : Mem) : entry P T k lo F.wiener_Seven [.agg ⟨[.int .i64 x1, .int .i64 x2, .int .i64 x3]⟩] M =
 ob (acall P T k lo F.wiener_tapsMay [.agg ⟨[.int .i64 x1, .int .i64 x2, .int .i64 x3]⟩] M) fun r9 =>
 ob ((some r9.1).bind Value.bool?) fun b10 =>
 bb (!b10)
 (some (.ret (.tuple ⟨[.agg ⟨[.int .i64 0, .int .i64 0, .int .i64 0, .int .i64 0, .int .i64 0, .int .i64 0, .int .i64 0]⟩, .int .i64 2]⟩) r9.2))
 (some (wiener_Seven.c244 x1 x2 x3 0 0 0 0 0 0 0 0 x1 x2 x3 128 x3 x2 x1 r9.2)) := by kernel_rfl
theorem wiener_Seven.p244 (k lo : Nat) (x1 : Int) (x2 : Int) (x3 : Int) (x4 : Int) (x5 : Int) (x6 : Int) (x7 : Int) (x8 : Int) (x9 : Int) (x10 : Int) (x11 : Int) (x12 : Int) (x13 : Int) (x14 : Int) (x15 : Int) (x16 : Int) (x17 : Int) (x18 : Int) (M : Mem) : piece P T k lo F.wiener_Seven 244 [.l 2 0, .l 4 0, .v (.agg ⟨[.int .i64 x1, .int .i64 x2, .int .i64 x3]⟩), .v (.int .i64 x4)] [[.int .i64 x5, .int .i64 x6, .int .i64 x7, .int .i64 x8, .int .i64 x9, .int .i64 x10, .int .i64 x11], [.int .i64 x12, .int .i64 x13, .int .i64 x14, .int .i64 x15, .int .i64 x16, .int .i64 x17, .int .i64 x18]] M =
 bb (decide (x4 < 3))
 (pb (0 ≤ x4 ∧ x4 < (3 : Int))
 (ob ((([.int .i64 x1, .int .i64 x2, .int .i64 x3] : List Value)[x4.toNat + 0]?).bind (Value.int? .i64)) fun x19 =>
 some (wiener_Seven.c244 x1 x2 x3 (IntKind.i64.wrap (x4 + 1)) x5 x6 x7 x8 x9 x10 x11 x12 x13 x14 (IntKind.i64.wrap (x15 - (IntKind.i64.wrap (2 * x19)))) x16 x17 x18 M)) none)
 (some (.ret (.tuple ⟨[.agg ⟨[.int .i64 x12, .int .i64 x13, .int .i64 x14, .int .i64 x15, .int .i64 x16, .int .i64 x17, .int .i64 x18]⟩, .int .i64 0]⟩) M)) := by kernel_rfl
theorem wiener_clip.entry (k lo : Nat) (x1 : Int) (x2 : Int) (x3 : Int) (M : Mem) : entry P T k lo F.wiener_clip [.int .i64 x1, .int .i64 x2, .int .i64 x3] M =
 some (.ret (.int .i64 (minI (maxI x1 x2) x3)) M) := by kernel_rfl
theorem wiener_within.entry (k lo : Nat) (x1 : Int) (x2 : Int) (x3 : Int) (M : Mem) : entry P T k lo F.wiener_within [.int .i64 x1, .int .i64 x2, .int .i64 x3] M =
 bb (decide (x1 ≥ x2))
 (some (.ret (.bool (decide (x1 ≤ x3))) M))
 (some (.ret (.bool false) M)) := by kernel_rfl
theorem wiener_across.entry (k lo : Nat) (x1 : Int) (x2 : Int) (A3 : Option Addr) (n4 : Nat) (c5 : Nat) (x6 : Int) (x7 : Int) (x8 : Int) (x9 : Int) (x10 : Int) (x11 : Int) (x12 : Int) (x13 : Int) (x14 : Int) (x15 : Int) (M : Mem) : entry P T k lo F.wiener_across [.agg ⟨[.int .i64 x1, .int .i64 x2, .slice A3 n4 c5]⟩, .int .i64 x6, .agg ⟨[.int .i64 x7, .int .i64 x8, .int .i64 x9, .int .i64 x10, .int .i64 x11, .int .i64 x12, .int .i64 x13]⟩, .int .i64 x14, .int .i64 x15] M =
 pb (0 ≤ IntKind.i64.wrap (x15 - x14) ∧ room ((IntKind.i64.wrap (x15 - x14)).toNat) 8)
 (pb (0 ≤ IntKind.i64.wrap (x6 * x1) ∧ IntKind.i64.wrap (x6 * x1) ≤ IntKind.i64.wrap ((IntKind.i64.wrap (x6 + 1)) * x1) ∧ IntKind.i64.wrap ((IntKind.i64.wrap (x6 + 1)) * x1) ≤ (c5 : Int))
 (some (wiener_across.c244 x15 (some ⟨M.length, 0, some 0⟩) 0 0 (slAddr 1 A3 ((IntKind.i64.wrap (x6 * x1)).toNat) c5) (((IntKind.i64.wrap ((IntKind.i64.wrap (x6 + 1)) * x1)).toNat) - ((IntKind.i64.wrap (x6 * x1)).toNat)) (c5 - ((IntKind.i64.wrap (x6 * x1)).toNat)) x14 x1 x2 A3 n4 c5 x7 x8 x9 x10 x11 x12 x13 (M ++ [⟨.op 1, []⟩] : Mem))) none) none := by kernel_rfl
theorem wiener_across.p244 (k lo : Nat) (x1 : Int) (A2 : Option Addr) (n3 : Nat) (c4 : Nat) (A5 : Option Addr) (n6 : Nat) (c7 : Nat) (x8 : Int) (x9 : Int) (x10 : Int) (A11 : Option Addr) (n12 : Nat) (c13 : Nat) (x14 : Int) (x15 : Int) (x16 : Int) (x17 : Int) (x18 : Int) (x19 : Int) (x20 : Int) (M : Mem) : piece P T k lo F.wiener_across 244 [.v (.int .i64 x1), .l 5 0, .l 7 0, .v (.slice A2 n3 c4), .v (.slice A5 n6 c7), .v (.int .i64 x8)] [[.int .i64 x9, .int .i64 x10, .slice A11 n12 c13], [.int .i64 x14, .int .i64 x15, .int .i64 x16, .int .i64 x17, .int .i64 x18, .int .i64 x19, .int .i64 x20]] M =
 bb (decide (x8 < x1))
 (some (wiener_across.c62612 x1 A2 n3 c4 A5 n6 c7 x8 0 x14 x15 x16 x17 x18 x19 x20 0 x9 x10 A11 n12 c13 x14 x15 x16 x17 x18 x19 x20 M))
 (some (.ret (.slice A2 n3 c4) M)) := by kernel_rfl
theorem wiener_across.p62612 (k lo : Nat) (x1 : Int) (A2 : Option Addr) (n3 : Nat) (c4 : Nat) (A5 : Option Addr) (n6 : Nat) (c7 : Nat) (x8 : Int) (x9 : Int) (x10 : Int) (x11 : Int) (x12 : Int) (x13 : Int) (x14 : Int) (x15 : Int) (x16 : Int) (x17 : Int) (x18 : Int) (x19 : Int) (A20 : Option Addr) (n21 : Nat) (c22 : Nat) (x23 : Int) (x24 : Int) (x25 : Int) (x26 : Int) (x27 : Int) (x28 : Int) (x29 : Int) (M : Mem) : piece P T k lo F.wiener_across 62612 [.v (.int .i64 x1), .l 5 0, .l 7 0, .v (.slice A2 n3 c4), .v (.slice A5 n6 c7), .v (.int .i64 x8), .v (.int .i64 x9), .v (.agg ⟨[.int .i64 x10, .int .i64 x11, .int .i64 x12, .int .i64 x13, .int .i64 x14, .int .i64 x15, .int .i64 x16]⟩), .v (.int .i64 x17)] [[.int .i64 x18, .int .i64 x19, .slice A20 n21 c22], [.int .i64 x23, .int .i64 x24, .int .i64 x25, .int .i64 x26, .int .i64 x27, .int .i64 x28, .int .i64 x29]] M =
 bb (decide (x17 < 7))
 (pb (0 ≤ x17 ∧ x17 < (7 : Int))
 (ob ((([.int .i64 x10, .int .i64 x11, .int .i64 x12, .int .i64 x13, .int .i64 x14, .int .i64 x15, .int .i64 x16] : List Value)[x17.toNat + 0]?).bind (Value.int? .i64)) fun x30 =>
 ob (acall P T k lo F.wiener_clip [.int .i64 (IntKind.i64.wrap ((IntKind.i64.wrap (x8 + x17)) - 3)), .int .i64 0, .int .i64 (IntKind.i64.wrap (x18 - 1))] M) fun r31 =>
 ob ((some r31.1).bind (Value.int? .i64)) fun x32 =>
 pb (0 ≤ x32 ∧ x32 < (n6 : Int))
 (ob A5 fun a33 =>
 ob ((r31.2.ld (plus a33 x32.toNat)).bind (Value.int? .u8)) fun x34 =>
 some (wiener_across.c62612 x1 A2 n3 c4 A5 n6 c7 x8 (IntKind.i64.wrap (x9 + (IntKind.i64.wrap (x30 * (IntKind.i64.wrap x34))))) x10 x11 x12 x13 x14 x15 x16 (IntKind.i64.wrap (x17 + 1)) x18 x19 A20 n21 c22 x23 x24 x25 x26 x27 x28 x29 r31.2)) none) none)
 (ob (acall P T k lo F.wiener_round [.int .i64 x9, .int .i64 3] M) fun r35 =>
 ob ((some r35.1).bind (Value.int? .i64)) fun x36 =>
 ob (acall P T k lo F.wiener_clip [.int .i64 x36, .int .i64 (-4096), .int .i64 8191] r35.2) fun r37 =>
 ob ((some r37.1).bind (Value.int? .i64)) fun x38 =>
 ob (r37.2.app lo 1 8 ⟨A2, n3, c4⟩ ([.int .i64 x38]) 1) fun r39 =>
 some (wiener_across.c244 x1 r39.1.a r39.1.n r39.1.c A5 n6 c7 (IntKind.i64.wrap (x8 + 1)) x18 x19 A20 n21 c22 x23 x24 x25 x26 x27 x28 x29 r39.2)) := by kernel_rfl
theorem wiener_round.entry (k lo : Nat) (x1 : Int) (x2 : Int) (M : Mem) : entry P T k lo F.wiener_round [.int .i64 x1, .int .i64 x2] M =
 pb (IntKind.i64.wrap (x2 - 1) < 0) none
 (pb (x2 < 0) none
 (some (.ret (.int .i64 (shrI .i64 (IntKind.i64.wrap (x1 + (shlI .i64 (1 : Int) ((IntKind.i64.wrap (x2 - 1)).toNat)))) x2.toNat)) M))) := by kernel_rfl
theorem plane_sizes.entry (k lo : Nat) (x1 : Int) (x2 : Int) (M : Mem) : entry P T k lo F.plane_sizes [.int .i64 x1, .int .i64 x2] M =
 bb (decide (x1 ≥ 1))
 (bb (decide (x1 ≤ 512))
 (bb (decide (x2 ≥ 1))
 (some (.ret (.bool (decide (x2 ≤ 512))) M))
 (some (.ret (.bool false) M)))
 (some (.ret (.bool false) M)))
 (some (.ret (.bool false) M)) := by kernel_rfl
theorem slices_Repeat__uint8_uint8.entry (k lo : Nat) (A1 : Option Addr) (n2 : Nat) (c3 : Nat) (x4 : Int) (M : Mem) : entry P T k lo F.slices_Repeat__uint8_uint8 [.slice A1 n2 c3, .int .i64 x4] M =
 bb (decide (x4 < 0))
 (none)
 (some (slices_Repeat__uint8_uint8.c7 A1 n2 c3 x4 M)) := by kernel_rfl
theorem slices_Repeat__uint8_uint8.p7 (k lo : Nat) (A1 : Option Addr) (n2 : Nat) (c3 : Nat) (x4 : Int) (M : Mem) : piece P T k lo F.slices_Repeat__uint8_uint8 7 [.v (.slice A1 n2 c3), .v (.int .i64 x4)] [] M =
 ob (acall P T k lo F.math_bits_Mul [.int .u64 (IntKind.u64.wrap (n2 : Int)), .int .u64 (IntKind.u64.wrap x4)] M) fun r10 =>
 ob (r10.1.tup? 2) fun l11 =>
 ob ((l11[0]?).bind (Value.int? .u64)) fun x12 =>
 ob ((l11[1]?).bind (Value.int? .u64)) fun x13 =>
 bb (decide (x12 > 0))
 (none)
 (bb (decide (x13 > 9223372036854775807))
 (none)
 (some (slices_Repeat__uint8_uint8.c31 A1 n2 c3 x13 r10.2))) := by kernel_rfl
theorem slices_Repeat__uint8_uint8.p31 (k lo : Nat) (A1 : Option Addr) (n2 : Nat) (c3 : Nat) (x4 : Int) (M : Mem) : piece P T k lo F.slices_Repeat__uint8_uint8 31 [.v (.slice A1 n2 c3), .v (.int .u64 x4)] [] M =
 pb (0 ≤ IntKind.i64.wrap x4 ∧ room ((IntKind.i64.wrap x4).toNat) 1)
 (ob (Mem.src (M ++ [⟨.fx, zerosL [.int .u8 0] ((IntKind.i64.wrap x4).toNat)⟩] : Mem) A1 (Nat.min n2 ((IntKind.i64.wrap x4).toNat)) (Nat.min n2 ((IntKind.i64.wrap x4).toNat))) fun l14 =>
 pb (Nat.min n2 ((IntKind.i64.wrap x4).toNat) = 0) (some (slices_Repeat__uint8_uint8.c1016 (some ⟨M.length, 0, none⟩) ((IntKind.i64.wrap x4).toNat) ((IntKind.i64.wrap x4).toNat) 0 (M ++ [⟨.fx, zerosL [.int .u8 0] ((IntKind.i64.wrap x4).toNat)⟩] : Mem)))
 (ob ((M ++ [⟨.fx, zerosL [.int .u8 0] ((IntKind.i64.wrap x4).toNat)⟩] : Mem).st lo ⟨M.length, 0, none⟩ l14) fun M15 =>
 some (slices_Repeat__uint8_uint8.c1016 (some ⟨M.length, 0, none⟩) ((IntKind.i64.wrap x4).toNat) ((IntKind.i64.wrap x4).toNat) ((Nat.min n2 ((IntKind.i64.wrap x4).toNat) : Nat) : Int) M15))) none := by kernel_rfl
theorem slices_Repeat__uint8_uint8.p1016 (k lo : Nat) (A1 : Option Addr) (n2 : Nat) (c3 : Nat) (x4 : Int) (M : Mem) : piece P T k lo F.slices_Repeat__uint8_uint8 1016 [.v (.slice A1 n2 c3), .v (.int .i64 x4)] [] M =
 bb (decide (x4 < (n2 : Int)))
 (pb (0 ≤ x4 ∧ x4 ≤ (n2 : Int))
 (pb (0 ≤ (0 : Int) ∧ (0 : Int) ≤ x4 ∧ x4 ≤ (c3 : Int))
 (ob (Mem.src M (slAddr 1 A1 0 c3) (Nat.min (x4.toNat - 0) (n2 - x4.toNat)) (Nat.min (x4.toNat - 0) (n2 - x4.toNat))) fun l17 =>
 pb (Nat.min (x4.toNat - 0) (n2 - x4.toNat) = 0) (some (slices_Repeat__uint8_uint8.c1016 A1 n2 c3 (IntKind.i64.wrap (x4 + 0)) M))
 (ob (slAddr 1 A1 x4.toNat c3) fun a19 =>
 ob (M.st lo a19 l17) fun M18 =>
 some (slices_Repeat__uint8_uint8.c1016 A1 n2 c3 (IntKind.i64.wrap (x4 + ((Nat.min (x4.toNat - 0) (n2 - x4.toNat) : Nat) : Int))) M18))) none) none)
 (some (.ret (.slice A1 n2 c3) M)) := by kernel_rfl
theorem slices_Equal__uint8_uint8.entry (k lo : Nat) (A1 : Option Addr) (n2 : Nat) (c3 : Nat) (A4 : Option Addr) (n5 : Nat) (c6 : Nat) (M : Mem) : entry P T k lo F.slices_Equal__uint8_uint8 [.slice A1 n2 c3, .slice A4 n5 c6] M =
 bb ((n2 : Int) != (n5 : Int))
 (some (.ret (.bool false) M))
 (some (slices_Equal__uint8_uint8.c116 A1 n2 c3 A4 n5 c6 (n2 : Int) 0 M)) := by kernel_rfl
theorem slices_Equal__uint8_uint8.p116 (k lo : Nat) (A1 : Option Addr) (n2 : Nat) (c3 : Nat) (A4 : Option Addr) (n5 : Nat) (c6 : Nat) (x7 : Int) (x8 : Int) (M : Mem) : piece P T k lo F.slices_Equal__uint8_uint8 116 [.v (.slice A1 n2 c3), .v (.slice A4 n5 c6), .v (.int .i64 x7), .v (.int .i64 x8)] [] M =
 bb (decide (x8 < x7))
 (pb (0 ≤ x8 ∧ x8 < (n2 : Int))
 (ob A1 fun a12 =>
 ob ((M.ld (plus a12 x8.toNat)).bind (Value.int? .u8)) fun x13 =>
 pb (0 ≤ x8 ∧ x8 < (n5 : Int))
 (ob A4 fun a14 =>
 ob ((M.ld (plus a14 x8.toNat)).bind (Value.int? .u8)) fun x15 =>
 bb (x13 != x15)
 (some (.ret (.bool false) M))
 (some (slices_Equal__uint8_uint8.c116 A1 n2 c3 A4 n5 c6 x7 (IntKind.i64.wrap (x8 + 1)) M))) none) none)
 (some (.ret (.bool true) M)) := by kernel_rfl
theorem zoetropelaw25_cells.entry (k lo : Nat) (x1 : Int) (x2 : Int) (x3 : Int) (M : Mem) : entry P T k lo F.zoetropelaw25_cells [.int .i64 x1, .int .i64 x2, .int .u8 x3] M =
 pb (0 ≤ IntKind.i64.wrap (x1 * x2) ∧ room ((IntKind.i64.wrap (x1 * x2)).toNat) 1)
 (ob (Mem.fill (M ++ [⟨.op 0, []⟩, ⟨.op 0, []⟩, ⟨.op 0, []⟩] : Mem) lo M.length 1 (zerosL [.int .u8 0] ((IntKind.i64.wrap (x1 * x2)).toNat))) fun r9 =>
 pb (0 ≤ IntKind.i64.wrap (x1 * x2) ∧ room ((IntKind.i64.wrap (x1 * x2)).toNat) 8)
 (ob (Mem.fill r9.2 lo (M.length + 1) 1 (zerosL [.int .i64 0] ((IntKind.i64.wrap (x1 * x2)).toNat))) fun r10 =>
 pb (0 ≤ IntKind.i64.wrap (x1 * x2) ∧ room ((IntKind.i64.wrap (x1 * x2)).toNat) 1)
 (ob (Mem.fill r10.2 lo (M.length + 1 + 1) 1 (zerosL [.bool false] ((IntKind.i64.wrap (x1 * x2)).toNat))) fun r11 =>
 some (zoetropelaw25_cells.c116 x1 x2 x3 0 0 0 none 0 0 none 0 0 none 0 0 x1 x2 (some r9.1) ((IntKind.i64.wrap (x1 * x2)).toNat) ((IntKind.i64.wrap (x1 * x2)).toNat) (some r10.1) ((IntKind.i64.wrap (x1 * x2)).toNat) ((IntKind.i64.wrap (x1 * x2)).toNat) (some r11.1) ((IntKind.i64.wrap (x1 * x2)).toNat) ((IntKind.i64.wrap (x1 * x2)).toNat) r11.2)) none) none) none := by kernel_rfl
theorem zoetropelaw25_cells.p116 (k lo : Nat) (x1 : Int) (x2 : Int) (x3 : Int) (x4 : Int) (x5 : Int) (x6 : Int) (A7 : Option Addr) (n8 : Nat) (c9 : Nat) (A10 : Option Addr) (n11 : Nat) (c12 : Nat) (A13 : Option Addr) (n14 : Nat) (c15 : Nat) (x16 : Int) (x17 : Int) (A18 : Option Addr) (n19 : Nat) (c20 : Nat) (A21 : Option Addr) (n22 : Nat) (c23 : Nat) (A24 : Option Addr) (n25 : Nat) (c26 : Nat) (M : Mem) : piece P T k lo F.zoetropelaw25_cells 116 [.v (.int .i64 x1), .v (.int .i64 x2), .v (.int .u8 x3), .l 6 0, .l 7 0, .v (.int .i64 x4)] [[.int .i64 x5, .int .i64 x6, .slice A7 n8 c9, .slice A10 n11 c12, .slice A13 n14 c15], [.int .i64 x16, .int .i64 x17, .slice A18 n19 c20, .slice A21 n22 c23, .slice A24 n25 c26]] M =
 bb (decide (x4 < IntKind.i64.wrap (x1 * x2)))
 (pb (0 ≤ x4 ∧ x4 < (n19 : Int))
 (ob A18 fun a27 =>
 ob (M.st lo (plus a27 x4.toNat) [.int .u8 x3]) fun M28 =>
 pb (0 ≤ x4 ∧ x4 < (n22 : Int))
 (ob A21 fun a29 =>
 ob (M28.st lo (plus a29 x4.toNat) [.int .i64 x4]) fun M30 =>
 some (zoetropelaw25_cells.c116 x1 x2 x3 (IntKind.i64.wrap (x4 + 1)) x5 x6 A7 n8 c9 A10 n11 c12 A13 n14 c15 x16 x17 A18 n19 c20 A21 n22 c23 A24 n25 c26 M30)) none) none)
 (some (.ret (.agg ⟨[.int .i64 x16, .int .i64 x17, .slice A18 n19 c20, .slice A21 n22 c23, .slice A24 n25 c26]⟩) M)) := by kernel_rfl
theorem deblock_may.entry (k lo : Nat) (x1 : Int) (x2 : Int) (A3 : Option Addr) (n4 : Nat) (c5 : Nat) (x6 : Int) (x7 : Int) (A8 : Option Addr) (n9 : Nat) (c10 : Nat) (A11 : Option Addr) (n12 : Nat) (c13 : Nat) (A14 : Option Addr) (n15 : Nat) (c16 : Nat) (M : Mem) : entry P T k lo F.deblock_may [.agg ⟨[.int .i64 x1, .int .i64 x2, .slice A3 n4 c5]⟩, .agg ⟨[.int .i64 x6, .int .i64 x7, .slice A8 n9 c10, .slice A11 n12 c13, .slice A14 n15 c16]⟩] M =
 ob (acall P T k lo F.plane_Check [.agg ⟨[.int .i64 x1, .int .i64 x2, .slice A3 n4 c5]⟩] M) fun r22 =>
 ob ((some r22.1).bind (Value.int? .i64)) fun x23 =>
 bb (x23 != 0)
 (some (.ret (.bool false) r22.2))
 (bb (Int.tmod x1 4 != 0)
 (some (.ret (.bool false) r22.2))
 (bb (Int.tmod x2 4 != 0)
 (some (.ret (.bool false) r22.2))
 (bb (x6 != IntKind.i64.wrap (Int.tdiv x1 4))
 (some (.ret (.bool false) r22.2))
 (bb (x7 != IntKind.i64.wrap (Int.tdiv x2 4))
 (some (.ret (.bool false) r22.2))
 (ob (((r22.2 ++ [⟨.fx, [.int .u8 4, .int .u8 8, .int .u8 16, .int .u8 32, .int .u8 64]⟩] : Mem) ++ [⟨.fx, [.slice none 0 0]⟩] : Mem).st lo ⟨(r22.2 ++ [⟨.fx, [.int .u8 4, .int .u8 8, .int .u8 16, .int .u8 32, .int .u8 64]⟩] : Mem).length, 0, none⟩ [.slice (some ⟨r22.2.length, 0, none⟩) 5 5]) fun M24 =>
 bb ((n9 : Int) == IntKind.i64.wrap (x6 * x7))
 (bb ((n12 : Int) == IntKind.i64.wrap (x6 * x7))
 (bb ((n15 : Int) == IntKind.i64.wrap (x6 * x7))
 (ob (acall P T k lo F.slices_ContainsFunc__uint8_uint8 [.slice A8 n9 c10, .func (.func F.deblock_may_1) ⟨[]⟩ ⟨[.pointer (some ⟨(r22.2 ++ [⟨.fx, [.int .u8 4, .int .u8 8, .int .u8 16, .int .u8 32, .int .u8 64]⟩] : Mem).length, 0, none⟩)]⟩] M24) fun r25 =>
 ob ((some r25.1).bind Value.bool?) fun b26 =>
 some (.ret (.bool (!b26)) r25.2))
 (some (.ret (.bool false) M24)))
 (some (.ret (.bool false) M24)))
 (some (.ret (.bool false) M24))))))) := by kernel_rfl
theorem deblock_within.entry (k lo : Nat) (x1 : Int) (x2 : Int) (x3 : Int) (M : Mem) : entry P T k lo F.deblock_within [.int .i64 x1, .int .i64 x2, .int .i64 x3] M =
 bb (decide (x1 ≥ x2))
 (some (.ret (.bool (decide (x1 ≤ x3))) M))
 (some (.ret (.bool false) M)) := by kernel_rfl
theorem deblock_boundsOf.entry (k lo : Nat) (x1 : Int) (x2 : Int) (M : Mem) : entry P T k lo F.deblock_boundsOf [.int .i64 x1, .int .i64 x2] M =
 bb (decide (x2 > 4))
 (some (deblock_boundsOf.c15 x1 (minI (shrI .i64 x1 2) (IntKind.i64.wrap (9 - x2))) 0 0 0 M))
 (bb (decide (x2 > 0))
 (some (deblock_boundsOf.c15 x1 (minI (shrI .i64 x1 1) (IntKind.i64.wrap (9 - x2))) 0 0 0 M))
 (some (deblock_boundsOf.c15 x1 x1 0 0 0 M))) := by kernel_rfl
theorem deblock_boundsOf.p15 (k lo : Nat) (x1 : Int) (x2 : Int) (x3 : Int) (x4 : Int) (x5 : Int) (M : Mem) : piece P T k lo F.deblock_boundsOf 15 [.v (.int .i64 x1), .l 4 0, .v (.int .i64 x2)] [[.int .i64 x3, .int .i64 x4, .int .i64 x5]] M =
 some (.ret (.agg ⟨[.int .i64 (maxI x2 1), .int .i64 (IntKind.i64.wrap ((IntKind.i64.wrap (2 * (IntKind.i64.wrap (x1 + 2)))) + (maxI x2 1))), .int .i64 (shrI .i64 x1 4)]⟩) M) := by kernel_rfl
theorem deblock_reachTaps.entry (k lo : Nat) (x1 : Int) (b2 : Bool) (M : Mem) : entry P T k lo F.deblock_reachTaps [.int .i64 x1, .bool b2] M =
 bb (decide (x1 < 8))
 (some (.ret (.int .i64 4) M))
 (bb b2
 (some (.ret (.int .i64 6) M))
 (bb (decide (x1 < 16))
 (some (.ret (.int .i64 8) M))
 (some (.ret (.int .i64 14) M)))) := by kernel_rfl
theorem deblock_line_filter.entry (k lo : Nat) (A1 : Option Addr) (n2 : Nat) (c3 : Nat) (x4 : Int) (x5 : Int) (x6 : Int) (x7 : Int) (M : Mem) : entry P T k lo F.deblock_line_filter [.agg ⟨[.slice A1 n2 c3, .int .i64 x4]⟩, .agg ⟨[.int .i64 x5, .int .i64 x6, .int .i64 x7]⟩] M =
 ob (acall P T k lo F.deblock_line_rough [.agg ⟨[.slice A1 n2 c3, .int .i64 x4]⟩, .agg ⟨[.int .i64 x5, .int .i64 x6, .int .i64 x7]⟩] M) fun r13 =>
 ob ((some r13.1).bind Value.bool?) fun b14 =>
 bb b14
 (ob (acall P T k lo F.slices_Clone__uint8_uint8 [.slice A1 n2 c3] r13.2) fun r15 =>
 ob ((some r15.1).bind Value.slc?) fun s16 =>
 some (.ret (.slice s16.a s16.n s16.c) r15.2))
 (bb ((n2 : Int) == 6)
 (ob (acall P T k lo F.deblock_line_flat [.agg ⟨[.slice A1 n2 c3, .int .i64 x4]⟩, .int .i64 1, .int .i64 2] r13.2) fun r17 =>
 ob ((some r17.1).bind Value.bool?) fun b18 =>
 bb b18
 (ob (acall P T k lo F.deblock_line_wide [.agg ⟨[.slice A1 n2 c3, .int .i64 x4]⟩, .int .i64 2, .int .i64 1, .int .i64 3] r17.2) fun r19 =>
 ob ((some r19.1).bind Value.slc?) fun s20 =>
 some (.ret (.slice s20.a s20.n s20.c) r19.2))
 (bb ((n2 : Int) == 14)
 (ob (acall P T k lo F.deblock_line_flat [.agg ⟨[.slice A1 n2 c3, .int .i64 x4]⟩, .int .i64 1, .int .i64 6] r17.2) fun r21 =>
 ob ((some r21.1).bind Value.bool?) fun b22 =>
 bb b22
 (ob (acall P T k lo F.deblock_line_wide [.agg ⟨[.slice A1 n2 c3, .int .i64 x4]⟩, .int .i64 6, .int .i64 1, .int .i64 4] r21.2) fun r23 =>
 ob ((some r23.1).bind Value.slc?) fun s24 =>
 some (.ret (.slice s24.a s24.n s24.c) r23.2))
 (bb (decide ((n2 : Int) ≥ 8))
 (ob (acall P T k lo F.deblock_line_flat [.agg ⟨[.slice A1 n2 c3, .int .i64 x4]⟩, .int .i64 1, .int .i64 3] r21.2) fun r25 =>
 ob ((some r25.1).bind Value.bool?) fun b26 =>
 bb b26
 (ob (acall P T k lo F.deblock_line_wide [.agg ⟨[.slice A1 n2 c3, .int .i64 x4]⟩, .int .i64 3, .int .i64 0, .int .i64 3] r25.2) fun r27 =>
 ob ((some r27.1).bind Value.slc?) fun s28 =>
 some (.ret (.slice s28.a s28.n s28.c) r27.2))
 (ob (acall P T k lo F.deblock_line_narrow [.agg ⟨[.slice A1 n2 c3, .int .i64 x4]⟩, .agg ⟨[.int .i64 x5, .int .i64 x6, .int .i64 x7]⟩] r25.2) fun r29 =>
 ob ((some r29.1).bind Value.slc?) fun s30 =>
 some (.ret (.slice s30.a s30.n s30.c) r29.2)))
 (ob (acall P T k lo F.deblock_line_narrow [.agg ⟨[.slice A1 n2 c3, .int .i64 x4]⟩, .agg ⟨[.int .i64 x5, .int .i64 x6, .int .i64 x7]⟩] r21.2) fun r31 =>
 ob ((some r31.1).bind Value.slc?) fun s32 =>
 some (.ret (.slice s32.a s32.n s32.c) r31.2))))
 (bb (decide ((n2 : Int) ≥ 8))
 (ob (acall P T k lo F.deblock_line_flat [.agg ⟨[.slice A1 n2 c3, .int .i64 x4]⟩, .int .i64 1, .int .i64 3] r17.2) fun r33 =>
 ob ((some r33.1).bind Value.bool?) fun b34 =>
 bb b34
 (ob (acall P T k lo F.deblock_line_wide [.agg ⟨[.slice A1 n2 c3, .int .i64 x4]⟩, .int .i64 3, .int .i64 0, .int .i64 3] r33.2) fun r35 =>
 ob ((some r35.1).bind Value.slc?) fun s36 =>
 some (.ret (.slice s36.a s36.n s36.c) r35.2))
 (ob (acall P T k lo F.deblock_line_narrow [.agg ⟨[.slice A1 n2 c3, .int .i64 x4]⟩, .agg ⟨[.int .i64 x5, .int .i64 x6, .int .i64 x7]⟩] r33.2) fun r37 =>
 ob ((some r37.1).bind Value.slc?) fun s38 =>
 some (.ret (.slice s38.a s38.n s38.c) r37.2)))
 (ob (acall P T k lo F.deblock_line_narrow [.agg ⟨[.slice A1 n2 c3, .int .i64 x4]⟩, .agg ⟨[.int .i64 x5, .int .i64 x6, .int .i64 x7]⟩] r17.2) fun r39 =>
 ob ((some r39.1).bind Value.slc?) fun s40 =>
 some (.ret (.slice s40.a s40.n s40.c) r39.2)))))
 (bb ((n2 : Int) == 14)
 (ob (acall P T k lo F.deblock_line_flat [.agg ⟨[.slice A1 n2 c3, .int .i64 x4]⟩, .int .i64 1, .int .i64 6] r13.2) fun r41 =>
 ob ((some r41.1).bind Value.bool?) fun b42 =>
 bb b42
 (ob (acall P T k lo F.deblock_line_wide [.agg ⟨[.slice A1 n2 c3, .int .i64 x4]⟩, .int .i64 6, .int .i64 1, .int .i64 4] r41.2) fun r43 =>
 ob ((some r43.1).bind Value.slc?) fun s44 =>
 some (.ret (.slice s44.a s44.n s44.c) r43.2))
 (bb (decide ((n2 : Int) ≥ 8))
 (ob (acall P T k lo F.deblock_line_flat [.agg ⟨[.slice A1 n2 c3, .int .i64 x4]⟩, .int .i64 1, .int .i64 3] r41.2) fun r45 =>
 ob ((some r45.1).bind Value.bool?) fun b46 =>
 bb b46
 (ob (acall P T k lo F.deblock_line_wide [.agg ⟨[.slice A1 n2 c3, .int .i64 x4]⟩, .int .i64 3, .int .i64 0, .int .i64 3] r45.2) fun r47 =>
 ob ((some r47.1).bind Value.slc?) fun s48 =>
 some (.ret (.slice s48.a s48.n s48.c) r47.2))
 (ob (acall P T k lo F.deblock_line_narrow [.agg ⟨[.slice A1 n2 c3, .int .i64 x4]⟩, .agg ⟨[.int .i64 x5, .int .i64 x6, .int .i64 x7]⟩] r45.2) fun r49 =>
 ob ((some r49.1).bind Value.slc?) fun s50 =>
 some (.ret (.slice s50.a s50.n s50.c) r49.2)))
 (ob (acall P T k lo F.deblock_line_narrow [.agg ⟨[.slice A1 n2 c3, .int .i64 x4]⟩, .agg ⟨[.int .i64 x5, .int .i64 x6, .int .i64 x7]⟩] r41.2) fun r51 =>
 ob ((some r51.1).bind Value.slc?) fun s52 =>
 some (.ret (.slice s52.a s52.n s52.c) r51.2))))
 (bb (decide ((n2 : Int) ≥ 8))
 (ob (acall P T k lo F.deblock_line_flat [.agg ⟨[.slice A1 n2 c3, .int .i64 x4]⟩, .int .i64 1, .int .i64 3] r13.2) fun r53 =>
 ob ((some r53.1).bind Value.bool?) fun b54 =>
 bb b54
 (ob (acall P T k lo F.deblock_line_wide [.agg ⟨[.slice A1 n2 c3, .int .i64 x4]⟩, .int .i64 3, .int .i64 0, .int .i64 3] r53.2) fun r55 =>
 ob ((some r55.1).bind Value.slc?) fun s56 =>
 some (.ret (.slice s56.a s56.n s56.c) r55.2))
 (ob (acall P T k lo F.deblock_line_narrow [.agg ⟨[.slice A1 n2 c3, .int .i64 x4]⟩, .agg ⟨[.int .i64 x5, .int .i64 x6, .int .i64 x7]⟩] r53.2) fun r57 =>
 ob ((some r57.1).bind Value.slc?) fun s58 =>
 some (.ret (.slice s58.a s58.n s58.c) r57.2)))
 (ob (acall P T k lo F.deblock_line_narrow [.agg ⟨[.slice A1 n2 c3, .int .i64 x4]⟩, .agg ⟨[.int .i64 x5, .int .i64 x6, .int .i64 x7]⟩] r13.2) fun r59 =>
 ob ((some r59.1).bind Value.slc?) fun s60 =>
 some (.ret (.slice s60.a s60.n s60.c) r59.2))))) := by kernel_rfl
theorem cdef_may_1.entry (k lo : Nat) (x1 : Int) (M : Mem) : entry P T k lo F.cdef_may_1 [.int .i64 x1] M =
 some (.ret (.int .i64 (IntKind.i64.wrap (Int.tdiv (IntKind.i64.wrap ((IntKind.i64.wrap (x1 + 64)) - 1)) 64))) M) := by kernel_rfl
theorem cdef_within.entry (k lo : Nat) (x1 : Int) (x2 : Int) (x3 : Int) (M : Mem) : entry P T k lo F.cdef_within [.int .i64 x1, .int .i64 x2, .int .i64 x3] M =
 bb (decide (x1 ≥ x2))
 (some (.ret (.bool (decide (x1 ≤ x3))) M))
 (some (.ret (.bool false) M)) := by kernel_rfl
theorem slices_ContainsFunc__int_int.entry (k lo : Nat) (A1 : Option Addr) (n2 : Nat) (c3 : Nat) (v4 : Value) (M : Mem) : entry P T k lo F.slices_ContainsFunc__int_int [.slice A1 n2 c3, v4] M =
 ob (acall P T k lo F.slices_IndexFunc__int_int [.slice A1 n2 c3, v4] M) fun r10 =>
 ob ((some r10.1).bind (Value.int? .i64)) fun x11 =>
 some (.ret (.bool (decide (x11 ≥ 0))) r10.2) := by kernel_rfl
theorem cdef_may_2.entry (k lo : Nat) (x1 : Int) (a2 : Addr) (M : Mem) : entry P T k lo F.cdef_may_2 [.int .i64 x1, .pointer (some a2)] M =
 ob ((M.ld (plus a2 26)).bind Value.slc?) fun s8 =>
 ob (acall P T k lo F.cdef_within [.int .i64 x1, .int .i64 0, .int .i64 (IntKind.i64.wrap ((s8.n : Int) - 1))] M) fun r9 =>
 ob ((some r9.1).bind Value.bool?) fun b10 =>
 some (.ret (.bool (!b10)) r9.2) := by kernel_rfl
theorem plane_within.entry (k lo : Nat) (x1 : Int) (x2 : Int) (A3 : Option Addr) (n4 : Nat) (c5 : Nat) (x6 : Int) (x7 : Int) (x8 : Int) (x9 : Int) (M : Mem) : entry P T k lo F.plane_within [.agg ⟨[.int .i64 x1, .int .i64 x2, .slice A3 n4 c5]⟩, .agg ⟨[.int .i64 x6, .int .i64 x7, .int .i64 x8, .int .i64 x9]⟩] M =
 ob (acall P T k lo F.plane_Check [.agg ⟨[.int .i64 x1, .int .i64 x2, .slice A3 n4 c5]⟩] M) fun r15 =>
 ob ((some r15.1).bind (Value.int? .i64)) fun x16 =>
 bb (x16 == 0)
 (bb (decide (x8 ≥ 1))
 (bb (decide (x9 ≥ 1))
 (bb (decide (x6 ≥ 0))
 (bb (decide (x7 ≥ 0))
 (bb (decide (x8 ≤ x1))
 (bb (decide (x9 ≤ x2))
 (bb (decide (x6 ≤ IntKind.i64.wrap (x1 - x8)))
 (some (.ret (.bool (decide (x7 ≤ IntKind.i64.wrap (x2 - x9)))) r15.2))
 (some (.ret (.bool false) r15.2)))
 (some (.ret (.bool false) r15.2)))
 (some (.ret (.bool false) r15.2)))
 (some (.ret (.bool false) r15.2)))
 (some (.ret (.bool false) r15.2)))
 (some (.ret (.bool false) r15.2)))
 (some (.ret (.bool false) r15.2)))
 (some (.ret (.bool false) r15.2)) := by kernel_rfl
theorem plane_row.entry (k lo : Nat) (x1 : Int) (x2 : Int) (A3 : Option Addr) (n4 : Nat) (c5 : Nat) (x6 : Int) (x7 : Int) (x8 : Int) (x9 : Int) (x10 : Int) (M : Mem) : entry P T k lo F.plane_row [.agg ⟨[.int .i64 x1, .int .i64 x2, .slice A3 n4 c5]⟩, .agg ⟨[.int .i64 x6, .int .i64 x7, .int .i64 x8, .int .i64 x9]⟩, .int .i64 x10] M =
 pb (0 ≤ IntKind.i64.wrap ((IntKind.i64.wrap ((IntKind.i64.wrap (x7 + x10)) * x1)) + x6) ∧ IntKind.i64.wrap ((IntKind.i64.wrap ((IntKind.i64.wrap (x7 + x10)) * x1)) + x6) ≤ IntKind.i64.wrap ((IntKind.i64.wrap ((IntKind.i64.wrap ((IntKind.i64.wrap (x7 + x10)) * x1)) + x6)) + x8) ∧ IntKind.i64.wrap ((IntKind.i64.wrap ((IntKind.i64.wrap ((IntKind.i64.wrap (x7 + x10)) * x1)) + x6)) + x8) ≤ IntKind.i64.wrap ((IntKind.i64.wrap ((IntKind.i64.wrap ((IntKind.i64.wrap (x7 + x10)) * x1)) + x6)) + x8) ∧ IntKind.i64.wrap ((IntKind.i64.wrap ((IntKind.i64.wrap ((IntKind.i64.wrap (x7 + x10)) * x1)) + x6)) + x8) ≤ (c5 : Int))
 (some (.ret (.slice (slAddr3 1 A3 ((IntKind.i64.wrap ((IntKind.i64.wrap ((IntKind.i64.wrap (x7 + x10)) * x1)) + x6)).toNat) ((IntKind.i64.wrap ((IntKind.i64.wrap ((IntKind.i64.wrap ((IntKind.i64.wrap (x7 + x10)) * x1)) + x6)) + x8)).toNat)) (((IntKind.i64.wrap ((IntKind.i64.wrap ((IntKind.i64.wrap ((IntKind.i64.wrap (x7 + x10)) * x1)) + x6)) + x8)).toNat) - ((IntKind.i64.wrap ((IntKind.i64.wrap ((IntKind.i64.wrap (x7 + x10)) * x1)) + x6)).toNat)) (((IntKind.i64.wrap ((IntKind.i64.wrap ((IntKind.i64.wrap ((IntKind.i64.wrap (x7 + x10)) * x1)) + x6)) + x8)).toNat) - ((IntKind.i64.wrap ((IntKind.i64.wrap ((IntKind.i64.wrap (x7 + x10)) * x1)) + x6)).toNat))) M)) none := by kernel_rfl
theorem cdef_lines.entry (k lo : Nat) (x1 : Int) (x2 : Int) (M : Mem) : entry P T k lo F.cdef_lines [.int .i64 x1, .int .i64 x2] M =
 some (.ret (.agg ⟨[.int .i64 (IntKind.i64.wrap (x1 + x2)), .int .i64 (IntKind.i64.wrap (x1 + (IntKind.i64.wrap (Int.tdiv x2 2)))), .int .i64 x1, .int .i64 (IntKind.i64.wrap ((IntKind.i64.wrap (3 + x1)) - (IntKind.i64.wrap (Int.tdiv x2 2)))), .int .i64 (IntKind.i64.wrap ((IntKind.i64.wrap (7 + x1)) - x2)), .int .i64 (IntKind.i64.wrap ((IntKind.i64.wrap (3 - (IntKind.i64.wrap (Int.tdiv x1 2)))) + x2)), .int .i64 x2, .int .i64 (IntKind.i64.wrap ((IntKind.i64.wrap (Int.tdiv x1 2)) + x2))]⟩) M) := by kernel_rfl
theorem math_bits_Len.entry (k lo : Nat) (x1 : Int) (M : Mem) : entry P T k lo F.math_bits_Len [.int .u64 x1] M =
 ob (acall P T k lo F.math_bits_Len64 [.int .u64 x1] M) fun r7 =>
 ob ((some r7.1).bind (Value.int? .i64)) fun x8 =>
 some (.ret (.int .i64 x8) r7.2) := by kernel_rfl
theorem cdef_taps.entry (k lo : Nat) (x1 : Int) (x2 : Int) (x3 : Int) (M : Mem) : entry P T k lo F.cdef_taps [.int .i64 x1, .int .i64 x2, .int .i64 x3] M =
 ob (acall P T k lo F.cdef_along [] M) fun r9 =>
 ob ((some r9.1).bind (Value.agg? 32)) fun l10 =>
 ob ((l10[0]?).bind (Value.int? .i64)) fun x11 =>
 ob ((l10[1]?).bind (Value.int? .i64)) fun x12 =>
 ob ((l10[2]?).bind (Value.int? .i64)) fun x13 =>
 ob ((l10[3]?).bind (Value.int? .i64)) fun x14 =>
 ob ((l10[4]?).bind (Value.int? .i64)) fun x15 =>
 ob ((l10[5]?).bind (Value.int? .i64)) fun x16 =>
 ob ((l10[6]?).bind (Value.int? .i64)) fun x17 =>
 ob ((l10[7]?).bind (Value.int? .i64)) fun x18 =>
 ob ((l10[8]?).bind (Value.int? .i64)) fun x19 =>
 ob ((l10[9]?).bind (Value.int? .i64)) fun x20 =>
 ob ((l10[10]?).bind (Value.int? .i64)) fun x21 =>
 ob ((l10[11]?).bind (Value.int? .i64)) fun x22 =>
 ob ((l10[12]?).bind (Value.int? .i64)) fun x23 =>
 ob ((l10[13]?).bind (Value.int? .i64)) fun x24 =>
 ob ((l10[14]?).bind (Value.int? .i64)) fun x25 =>
 ob ((l10[15]?).bind (Value.int? .i64)) fun x26 =>
 ob ((l10[16]?).bind (Value.int? .i64)) fun x27 =>
 ob ((l10[17]?).bind (Value.int? .i64)) fun x28 =>
 ob ((l10[18]?).bind (Value.int? .i64)) fun x29 =>
 ob ((l10[19]?).bind (Value.int? .i64)) fun x30 =>
 ob ((l10[20]?).bind (Value.int? .i64)) fun x31 =>
 ob ((l10[21]?).bind (Value.int? .i64)) fun x32 =>
 ob ((l10[22]?).bind (Value.int? .i64)) fun x33 =>
 ob ((l10[23]?).bind (Value.int? .i64)) fun x34 =>
 ob ((l10[24]?).bind (Value.int? .i64)) fun x35 =>
 ob ((l10[25]?).bind (Value.int? .i64)) fun x36 =>
 ob ((l10[26]?).bind (Value.int? .i64)) fun x37 =>
 ob ((l10[27]?).bind (Value.int? .i64)) fun x38 =>
 ob ((l10[28]?).bind (Value.int? .i64)) fun x39 =>
 ob ((l10[29]?).bind (Value.int? .i64)) fun x40 =>
 ob ((l10[30]?).bind (Value.int? .i64)) fun x41 =>
 ob ((l10[31]?).bind (Value.int? .i64)) fun x42 =>
 bb (Int.tmod x2 2 == 1)
 (some (cdef_taps.c31 x1 x2 x3 x11 x12 x13 x14 x15 x16 x17 x18 x19 x20 x21 x22 x23 x24 x25 x26 x27 x28 x29 x30 x31 x32 x33 x34 x35 x36 x37 x38 x39 x40 x41 x42 3 3 r9.2))
 (some (cdef_taps.c31 x1 x2 x3 x11 x12 x13 x14 x15 x16 x17 x18 x19 x20 x21 x22 x23 x24 x25 x26 x27 x28 x29 x30 x31 x32 x33 x34 x35 x36 x37 x38 x39 x40 x41 x42 4 2 r9.2)) := by kernel_rfl
theorem cdef_taps.p31 (k lo : Nat) (x1 : Int) (x2 : Int) (x3 : Int) (x4 : Int) (x5 : Int) (x6 : Int) (x7 : Int) (x8 : Int) (x9 : Int) (x10 : Int) (x11 : Int) (x12 : Int) (x13 : Int) (x14 : Int) (x15 : Int) (x16 : Int) (x17 : Int) (x18 : Int) (x19 : Int) (x20 : Int) (x21 : Int) (x22 : Int) (x23 : Int) (x24 : Int) (x25 : Int) (x26 : Int) (x27 : Int) (x28 : Int) (x29 : Int) (x30 : Int) (x31 : Int) (x32 : Int) (x33 : Int) (x34 : Int) (x35 : Int) (x36 : Int) (x37 : Int) (M : Mem) : piece P T k lo F.cdef_taps 31 [.v (.int .i64 x1), .v (.int .i64 x2), .v (.int .i64 x3), .l 7 0, .l 8 0] [[.int .i64 x4, .int .i64 x5, .int .i64 x6, .int .i64 x7, .int .i64 x8, .int .i64 x9, .int .i64 x10, .int .i64 x11, .int .i64 x12, .int .i64 x13, .int .i64 x14, .int .i64 x15, .int .i64 x16, .int .i64 x17, .int .i64 x18, .int .i64 x19, .int .i64 x20, .int .i64 x21, .int .i64 x22, .int .i64 x23, .int .i64 x24, .int .i64 x25, .int .i64 x26, .int .i64 x27, .int .i64 x28, .int .i64 x29, .int .i64 x30, .int .i64 x31, .int .i64 x32, .int .i64 x33, .int .i64 x34, .int .i64 x35], [.int .i64 x36, .int .i64 x37]] M =
 some (cdef_taps.c1012 x1 x2 x3 none 0 0 0 x4 x5 x6 x7 x8 x9 x10 x11 x12 x13 x14 x15 x16 x17 x18 x19 x20 x21 x22 x23 x24 x25 x26 x27 x28 x29 x30 x31 x32 x33 x34 x35 x36 x37 M) := by kernel_rfl
theorem cdef_taps.p1012 (k lo : Nat) (x1 : Int) (x2 : Int) (x3 : Int) (A4 : Option Addr) (n5 : Nat) (c6 : Nat) (x7 : Int) (x8 : Int) (x9 : Int) (x10 : Int) (x11 : Int) (x12 : Int) (x13 : Int) (x14 : Int) (x15 : Int) (x16 : Int) (x17 : Int) (x18 : Int) (x19 : Int) (x20 : Int) (x21 : Int) (x22 : Int) (x23 : Int) (x24 : Int) (x25 : Int) (x26 : Int) (x27 : Int) (x28 : Int) (x29 : Int) (x30 : Int) (x31 : Int) (x32 : Int) (x33 : Int) (x34 : Int) (x35 : Int) (x36 : Int) (x37 : Int) (x38 : Int) (x39 : Int) (x40 : Int) (x41 : Int) (M : Mem) : piece P T k lo F.cdef_taps 1012 [.v (.int .i64 x1), .v (.int .i64 x2), .v (.int .i64 x3), .l 7 0, .l 8 0, .v (.slice A4 n5 c6), .v (.int .i64 x7)] [[.int .i64 x8, .int .i64 x9, .int .i64 x10, .int .i64 x11, .int .i64 x12, .int .i64 x13, .int .i64 x14, .int .i64 x15, .int .i64 x16, .int .i64 x17, .int .i64 x18, .int .i64 x19, .int .i64 x20, .int .i64 x21, .int .i64 x22, .int .i64 x23, .int .i64 x24, .int .i64 x25, .int .i64 x26, .int .i64 x27, .int .i64 x28, .int .i64 x29, .int .i64 x30, .int .i64 x31, .int .i64 x32, .int .i64 x33, .int .i64 x34, .int .i64 x35, .int .i64 x36, .int .i64 x37, .int .i64 x38, .int .i64 x39], [.int .i64 x40, .int .i64 x41]] M =
 bb (decide (x7 < 2))
 (pb (0 ≤ x1 ∧ x1 < (8 : Int))
 (pb (0 ≤ x7 ∧ x7 < (2 : Int))
 (ob ((([.int .i64 x8, .int .i64 x9, .int .i64 x10, .int .i64 x11, .int .i64 x12, .int .i64 x13, .int .i64 x14, .int .i64 x15, .int .i64 x16, .int .i64 x17, .int .i64 x18, .int .i64 x19, .int .i64 x20, .int .i64 x21, .int .i64 x22, .int .i64 x23, .int .i64 x24, .int .i64 x25, .int .i64 x26, .int .i64 x27, .int .i64 x28, .int .i64 x29, .int .i64 x30, .int .i64 x31, .int .i64 x32, .int .i64 x33, .int .i64 x34, .int .i64 x35, .int .i64 x36, .int .i64 x37, .int .i64 x38, .int .i64 x39] : List Value)[0 + (x1.toNat * 4) + (x7.toNat * 2) + 0]?).bind (Value.int? .i64)) fun x43 =>
 ob ((([.int .i64 x8, .int .i64 x9, .int .i64 x10, .int .i64 x11, .int .i64 x12, .int .i64 x13, .int .i64 x14, .int .i64 x15, .int .i64 x16, .int .i64 x17, .int .i64 x18, .int .i64 x19, .int .i64 x20, .int .i64 x21, .int .i64 x22, .int .i64 x23, .int .i64 x24, .int .i64 x25, .int .i64 x26, .int .i64 x27, .int .i64 x28, .int .i64 x29, .int .i64 x30, .int .i64 x31, .int .i64 x32, .int .i64 x33, .int .i64 x34, .int .i64 x35, .int .i64 x36, .int .i64 x37, .int .i64 x38, .int .i64 x39] : List Value)[0 + (x1.toNat * 4) + (x7.toNat * 2) + 1]?).bind (Value.int? .i64)) fun x44 =>
 pb (0 ≤ x7 ∧ x7 < (2 : Int))
 (ob ((([.int .i64 x40, .int .i64 x41] : List Value)[0 + x7.toNat + 0]?).bind (Value.int? .i64)) fun x45 =>
 pb (0 ≤ Int.tmod (IntKind.i64.wrap (x1 + 2)) 8 ∧ Int.tmod (IntKind.i64.wrap (x1 + 2)) 8 < (8 : Int))
 (pb (0 ≤ x7 ∧ x7 < (2 : Int))
 (ob ((([.int .i64 x8, .int .i64 x9, .int .i64 x10, .int .i64 x11, .int .i64 x12, .int .i64 x13, .int .i64 x14, .int .i64 x15, .int .i64 x16, .int .i64 x17, .int .i64 x18, .int .i64 x19, .int .i64 x20, .int .i64 x21, .int .i64 x22, .int .i64 x23, .int .i64 x24, .int .i64 x25, .int .i64 x26, .int .i64 x27, .int .i64 x28, .int .i64 x29, .int .i64 x30, .int .i64 x31, .int .i64 x32, .int .i64 x33, .int .i64 x34, .int .i64 x35, .int .i64 x36, .int .i64 x37, .int .i64 x38, .int .i64 x39] : List Value)[0 + ((Int.tmod (IntKind.i64.wrap (x1 + 2)) 8).toNat * 4) + (x7.toNat * 2) + 0]?).bind (Value.int? .i64)) fun x46 =>
 ob ((([.int .i64 x8, .int .i64 x9, .int .i64 x10, .int .i64 x11, .int .i64 x12, .int .i64 x13, .int .i64 x14, .int .i64 x15, .int .i64 x16, .int .i64 x17, .int .i64 x18, .int .i64 x19, .int .i64 x20, .int .i64 x21, .int .i64 x22, .int .i64 x23, .int .i64 x24, .int .i64 x25, .int .i64 x26, .int .i64 x27, .int .i64 x28, .int .i64 x29, .int .i64 x30, .int .i64 x31, .int .i64 x32, .int .i64 x33, .int .i64 x34, .int .i64 x35, .int .i64 x36, .int .i64 x37, .int .i64 x38, .int .i64 x39] : List Value)[0 + ((Int.tmod (IntKind.i64.wrap (x1 + 2)) 8).toNat * 4) + (x7.toNat * 2) + 1]?).bind (Value.int? .i64)) fun x47 =>
 pb (0 ≤ Int.tmod (IntKind.i64.wrap ((IntKind.i64.wrap (x1 + 8)) - 2)) 8 ∧ Int.tmod (IntKind.i64.wrap ((IntKind.i64.wrap (x1 + 8)) - 2)) 8 < (8 : Int))
 (pb (0 ≤ x7 ∧ x7 < (2 : Int))
 (ob ((([.int .i64 x8, .int .i64 x9, .int .i64 x10, .int .i64 x11, .int .i64 x12, .int .i64 x13, .int .i64 x14, .int .i64 x15, .int .i64 x16, .int .i64 x17, .int .i64 x18, .int .i64 x19, .int .i64 x20, .int .i64 x21, .int .i64 x22, .int .i64 x23, .int .i64 x24, .int .i64 x25, .int .i64 x26, .int .i64 x27, .int .i64 x28, .int .i64 x29, .int .i64 x30, .int .i64 x31, .int .i64 x32, .int .i64 x33, .int .i64 x34, .int .i64 x35, .int .i64 x36, .int .i64 x37, .int .i64 x38, .int .i64 x39] : List Value)[0 + ((Int.tmod (IntKind.i64.wrap ((IntKind.i64.wrap (x1 + 8)) - 2)) 8).toNat * 4) + (x7.toNat * 2) + 0]?).bind (Value.int? .i64)) fun x48 =>
 ob ((([.int .i64 x8, .int .i64 x9, .int .i64 x10, .int .i64 x11, .int .i64 x12, .int .i64 x13, .int .i64 x14, .int .i64 x15, .int .i64 x16, .int .i64 x17, .int .i64 x18, .int .i64 x19, .int .i64 x20, .int .i64 x21, .int .i64 x22, .int .i64 x23, .int .i64 x24, .int .i64 x25, .int .i64 x26, .int .i64 x27, .int .i64 x28, .int .i64 x29, .int .i64 x30, .int .i64 x31, .int .i64 x32, .int .i64 x33, .int .i64 x34, .int .i64 x35, .int .i64 x36, .int .i64 x37, .int .i64 x38, .int .i64 x39] : List Value)[0 + ((Int.tmod (IntKind.i64.wrap ((IntKind.i64.wrap (x1 + 8)) - 2)) 8).toNat * 4) + (x7.toNat * 2) + 1]?).bind (Value.int? .i64)) fun x49 =>
 ob (M.app lo 4 32 ⟨A4, n5, c6⟩ ([.int .i64 x43, .int .i64 x44, .int .i64 x2, .int .i64 x45, .int .i64 x46, .int .i64 x47, .int .i64 x3, .int .i64 (IntKind.i64.wrap (2 - x7)), .int .i64 x48, .int .i64 x49, .int .i64 x3, .int .i64 (IntKind.i64.wrap (2 - x7))]) 3) fun r50 =>
 some (cdef_taps.c1012 x1 x2 x3 r50.1.a r50.1.n r50.1.c (IntKind.i64.wrap (x7 + 1)) x8 x9 x10 x11 x12 x13 x14 x15 x16 x17 x18 x19 x20 x21 x22 x23 x24 x25 x26 x27 x28 x29 x30 x31 x32 x33 x34 x35 x36 x37 x38 x39 x40 x41 r50.2)) none) none) none) none) none) none) none)
 (some (.ret (.slice A4 n5 c6) M)) := by kernel_rfl
theorem cdef_sample.entry (k lo : Nat) (x1 : Int) (x2 : Int) (A3 : Option Addr) (n4 : Nat) (c5 : Nat) (x6 : Int) (x7 : Int) (A8 : Option Addr) (n9 : Nat) (c10 : Nat) (x11 : Int) (M : Mem) : entry P T k lo F.cdef_sample [.agg ⟨[.int .i64 x1, .int .i64 x2, .slice A3 n4 c5]⟩, .int .i64 x6, .int .i64 x7, .slice A8 n9 c10, .int .i64 x11] M =
 pb (0 ≤ IntKind.i64.wrap ((IntKind.i64.wrap (x7 * x1)) + x6) ∧ IntKind.i64.wrap ((IntKind.i64.wrap (x7 * x1)) + x6) < (n4 : Int))
 (ob A3 fun a17 =>
 ob ((M.ld (plus a17 ((IntKind.i64.wrap ((IntKind.i64.wrap (x7 * x1)) + x6)).toNat))).bind (Value.int? .u8)) fun x18 =>
 some (cdef_sample.c244 x6 x7 x11 (IntKind.i64.wrap x18) 0 (IntKind.i64.wrap x18) (IntKind.i64.wrap x18) A8 n9 c10 (n9 : Int) 0 x1 x2 A3 n4 c5 M)) none := by kernel_rfl
theorem cdef_sample.p63 (k lo : Nat) (x1 : Int) (x2 : Int) (x3 : Int) (x4 : Int) (M : Mem) : piece P T k lo F.cdef_sample 63 [.v (.int .i64 x1), .v (.int .i64 x2), .v (.int .i64 x3), .v (.int .i64 x4)] [] M =
 ob (acall P T k lo F.cdef_clip [.int .i64 (IntKind.i64.wrap (x1 + (shrI .i64 (IntKind.i64.wrap (8 + x2)) 4))), .int .i64 x3, .int .i64 x4] M) fun r24 =>
 ob ((some r24.1).bind (Value.int? .i64)) fun x25 =>
 some (.ret (.int .u8 (IntKind.u8.wrap x25)) r24.2) := by kernel_rfl
theorem cdef_sample.p244 (k lo : Nat) (x1 : Int) (x2 : Int) (x3 : Int) (x4 : Int) (x5 : Int) (x6 : Int) (x7 : Int) (A8 : Option Addr) (n9 : Nat) (c10 : Nat) (x11 : Int) (x12 : Int) (x13 : Int) (x14 : Int) (A15 : Option Addr) (n16 : Nat) (c17 : Nat) (M : Mem) : piece P T k lo F.cdef_sample 244 [.v (.int .i64 x1), .v (.int .i64 x2), .v (.int .i64 x3), .l 5 0, .v (.int .i64 x4), .v (.int .i64 x5), .v (.int .i64 x6), .v (.int .i64 x7), .v (.slice A8 n9 c10), .v (.int .i64 x11), .v (.int .i64 x12)] [[.int .i64 x13, .int .i64 x14, .slice A15 n16 c17]] M =
 bb (decide (x12 < x11))
 (pb (0 ≤ x12 ∧ x12 < (n9 : Int))
 (ob A8 fun a19 =>
 ob ((M.ld (plus a19 (x12.toNat * 4))).bind (Value.int? .i64)) fun x20 =>
 ob ((M.ld (plus (plus a19 (x12.toNat * 4)) 1)).bind (Value.int? .i64)) fun x21 =>
 ob ((M.ld (plus (plus a19 (x12.toNat * 4)) 2)).bind (Value.int? .i64)) fun x22 =>
 ob ((M.ld (plus (plus a19 (x12.toNat * 4)) 3)).bind (Value.int? .i64)) fun x23 =>
 some (cdef_sample.c62668 x1 x2 x3 x4 x5 x6 x7 A8 n9 c10 x11 x12 1 (-1) 0 x13 x14 A15 n16 c17 x20 x21 x22 x23 M)) none)
 (bb (decide (x5 < 0))
 (some (cdef_sample.c63 x4 (IntKind.i64.wrap (x5 - 1)) x6 x7 M))
 (some (cdef_sample.c63 x4 x5 x6 x7 M))) := by kernel_rfl
theorem cdef_sample.p62668 (k lo : Nat) (x1 : Int) (x2 : Int) (x3 : Int) (x4 : Int) (x5 : Int) (x6 : Int) (x7 : Int) (A8 : Option Addr) (n9 : Nat) (c10 : Nat) (x11 : Int) (x12 : Int) (x13 : Int) (x14 : Int) (x15 : Int) (x16 : Int) (x17 : Int) (A18 : Option Addr) (n19 : Nat) (c20 : Nat) (x21 : Int) (x22 : Int) (x23 : Int) (x24 : Int) (M : Mem) : piece P T k lo F.cdef_sample 62668 [.v (.int .i64 x1), .v (.int .i64 x2), .v (.int .i64 x3), .l 5 0, .v (.int .i64 x4), .v (.int .i64 x5), .v (.int .i64 x6), .v (.int .i64 x7), .l 16 0, .v (.slice A8 n9 c10), .v (.int .i64 x11), .v (.int .i64 x12), .v (.agg ⟨[.int .i64 x13, .int .i64 x14]⟩), .v (.int .i64 x15)] [[.int .i64 x16, .int .i64 x17, .slice A18 n19 c20], [.int .i64 x21, .int .i64 x22, .int .i64 x23, .int .i64 x24]] M =
 bb (decide (x15 < 2))
 (pb (0 ≤ x15 ∧ x15 < (2 : Int))
 (ob ((([.int .i64 x13, .int .i64 x14] : List Value)[x15.toNat + 0]?).bind (Value.int? .i64)) fun x26 =>
 ob (acall P T k lo F.cdef_within [.int .i64 (IntKind.i64.wrap (x1 + (IntKind.i64.wrap (x26 * x22)))), .int .i64 0, .int .i64 (IntKind.i64.wrap (x16 - 1))] M) fun r27 =>
 ob ((some r27.1).bind Value.bool?) fun b28 =>
 bb (!b28)
 (some (cdef_sample.c501351 x1 x2 x3 x4 x5 x6 x7 A8 n9 c10 x11 x12 x13 x14 x15 x16 x17 A18 n19 c20 x21 x22 x23 x24 r27.2))
 (ob (acall P T k lo F.cdef_within [.int .i64 (IntKind.i64.wrap (x2 + (IntKind.i64.wrap (x26 * x21)))), .int .i64 0, .int .i64 (IntKind.i64.wrap (x17 - 1))] r27.2) fun r29 =>
 ob ((some r29.1).bind Value.bool?) fun b30 =>
 bb (!b30)
 (some (cdef_sample.c501351 x1 x2 x3 x4 x5 x6 x7 A8 n9 c10 x11 x12 x13 x14 x15 x16 x17 A18 n19 c20 x21 x22 x23 x24 r29.2))
 (pb (0 ≤ IntKind.i64.wrap ((IntKind.i64.wrap ((IntKind.i64.wrap (x2 + (IntKind.i64.wrap (x26 * x21)))) * x16)) + (IntKind.i64.wrap (x1 + (IntKind.i64.wrap (x26 * x22))))) ∧ IntKind.i64.wrap ((IntKind.i64.wrap ((IntKind.i64.wrap (x2 + (IntKind.i64.wrap (x26 * x21)))) * x16)) + (IntKind.i64.wrap (x1 + (IntKind.i64.wrap (x26 * x22))))) < (n19 : Int))
 (ob A18 fun a31 =>
 ob ((r29.2.ld (plus a31 ((IntKind.i64.wrap ((IntKind.i64.wrap ((IntKind.i64.wrap (x2 + (IntKind.i64.wrap (x26 * x21)))) * x16)) + (IntKind.i64.wrap (x1 + (IntKind.i64.wrap (x26 * x22)))))).toNat))).bind (Value.int? .u8)) fun x32 =>
 ob (acall P T k r29.2.length F.cdef_Limit [.int .i64 (IntKind.i64.wrap ((IntKind.i64.wrap x32) - x4)), .int .i64 x23, .int .i64 x3] r29.2) fun r33 =>
 ob ((some r33.1).bind (Value.int? .i64)) fun x34 =>
 some (cdef_sample.c501351 x1 x2 x3 x4 (IntKind.i64.wrap (x5 + (IntKind.i64.wrap (x24 * x34)))) (minI x6 (IntKind.i64.wrap x32)) (maxI x7 (IntKind.i64.wrap x32)) A8 n9 c10 x11 x12 x13 x14 x15 x16 x17 A18 n19 c20 x21 x22 x23 x24 r33.2)) none))) none)
 (some (cdef_sample.c244 x1 x2 x3 x4 x5 x6 x7 A8 n9 c10 x11 (IntKind.i64.wrap (x12 + 1)) x16 x17 A18 n19 c20 M)) := by kernel_rfl
theorem cdef_sample.p501351 (k lo : Nat) (x1 : Int) (x2 : Int) (x3 : Int) (x4 : Int) (x5 : Int) (x6 : Int) (x7 : Int) (A8 : Option Addr) (n9 : Nat) (c10 : Nat) (x11 : Int) (x12 : Int) (x13 : Int) (x14 : Int) (x15 : Int) (x16 : Int) (x17 : Int) (A18 : Option Addr) (n19 : Nat) (c20 : Nat) (x21 : Int) (x22 : Int) (x23 : Int) (x24 : Int) (M : Mem) : piece P T k lo F.cdef_sample 501351 [.v (.int .i64 x1), .v (.int .i64 x2), .v (.int .i64 x3), .l 5 0, .v (.int .i64 x4), .v (.int .i64 x5), .v (.int .i64 x6), .v (.int .i64 x7), .l 16 0, .v (.slice A8 n9 c10), .v (.int .i64 x11), .v (.int .i64 x12), .v (.agg ⟨[.int .i64 x13, .int .i64 x14]⟩), .v (.int .i64 x15)] [[.int .i64 x16, .int .i64 x17, .slice A18 n19 c20], [.int .i64 x21, .int .i64 x22, .int .i64 x23, .int .i64 x24]] M =
 some (cdef_sample.c62668 x1 x2 x3 x4 x5 x6 x7 A8 n9 c10 x11 x12 x13 x14 (IntKind.i64.wrap (x15 + 1)) x16 x17 A18 n19 c20 x21 x22 x23 x24 M) := by kernel_rfl
theorem slices_IndexFunc__api_Unit_api_Unit.entry (k lo : Nat) (A1 : Option Addr) (n2 : Nat) (c3 : Nat) (v4 : Value) (M : Mem) : entry P T k lo F.slices_IndexFunc__api_Unit_api_Unit [.slice A1 n2 c3, v4] M =
 some (slices_IndexFunc__api_Unit_api_Unit.c52 A1 n2 c3 v4 (n2 : Int) 0 M) := by kernel_rfl
theorem slices_IndexFunc__api_Unit_api_Unit.p52 (k lo : Nat) (A1 : Option Addr) (n2 : Nat) (c3 : Nat) (v4 : Value) (x5 : Int) (x6 : Int) (M : Mem) : piece P T k lo F.slices_IndexFunc__api_Unit_api_Unit 52 [.v (.slice A1 n2 c3), .v v4, .v (.int .i64 x5), .v (.int .i64 x6)] [] M =
 bb (decide (x6 < x5))
 (pb (0 ≤ x6 ∧ x6 < (n2 : Int))
 (ob A1 fun a10 =>
 ob ((M.ld (plus a10 (x6.toNat * 7))).bind Value.bool?) fun b11 =>
 ob ((M.ld (plus (plus a10 (x6.toNat * 7)) 1)).bind (Value.int? .i64)) fun x12 =>
 ob ((M.ld (plus (plus a10 (x6.toNat * 7)) 2)).bind (Value.int? .i64)) fun x13 =>
 ob ((M.ld (plus (plus a10 (x6.toNat * 7)) 3)).bind (Value.int? .i64)) fun x14 =>
 ob ((M.ld (plus (plus a10 (x6.toNat * 7)) 4)).bind (Value.int? .i64)) fun x15 =>
 ob ((M.ld (plus (plus a10 (x6.toNat * 7)) 5)).bind (Value.int? .i64)) fun x16 =>
 ob ((M.ld (plus (plus a10 (x6.toNat * 7)) 6)).bind (Value.int? .i64)) fun x17 =>
 ob (Value.fun? v4) fun q19 =>
 ob (acall P T k lo q19.1 (q19.2.1 ++ [.agg ⟨[.bool b11, .int .i64 x12, .int .i64 x13, .int .i64 x14, .int .i64 x15, .int .i64 x16, .int .i64 x17]⟩] ++ q19.2.2) M) fun r18 =>
 ob ((some r18.1).bind Value.bool?) fun b20 =>
 bb b20
 (some (.ret (.int .i64 x6) r18.2))
 (some (slices_IndexFunc__api_Unit_api_Unit.c52 A1 n2 c3 v4 x5 (IntKind.i64.wrap (x6 + 1)) r18.2))) none)
 (some (.ret (.int .i64 (-1)) M)) := by kernel_rfl
theorem wiener_tapsMay.entry (k lo : Nat) (x1 : Int) (x2 : Int) (x3 : Int) (M : Mem) : entry P T k lo F.wiener_tapsMay [.agg ⟨[.int .i64 x1, .int .i64 x2, .int .i64 x3]⟩] M =
 ob (acall P T k lo F.wiener_within [.int .i64 x1, .int .i64 (-5), .int .i64 10] M) fun r9 =>
 ob ((some r9.1).bind Value.bool?) fun b10 =>
 bb b10
 (ob (acall P T k lo F.wiener_within [.int .i64 x2, .int .i64 (-23), .int .i64 8] r9.2) fun r11 =>
 ob ((some r11.1).bind Value.bool?) fun b12 =>
 bb b12
 (ob (acall P T k lo F.wiener_within [.int .i64 x3, .int .i64 (-17), .int .i64 46] r11.2) fun r13 =>
 ob ((some r13.1).bind Value.bool?) fun b14 =>
 some (.ret (.bool b14) r13.2))
 (some (.ret (.bool false) r11.2)))
 (some (.ret (.bool false) r9.2)) := by kernel_rfl
theorem math_bits_Mul.entry (k lo : Nat) (x1 : Int) (x2 : Int) (M : Mem) : entry P T k lo F.math_bits_Mul [.int .u64 x1, .int .u64 x2] M =
 ob (acall P T k lo F.math_bits_Mul64 [.int .u64 x1, .int .u64 x2] M) fun r8 =>
 ob (r8.1.tup? 2) fun l9 =>
 ob ((l9[0]?).bind (Value.int? .u64)) fun x10 =>
 ob ((l9[1]?).bind (Value.int? .u64)) fun x11 =>
 some (.ret (.tuple ⟨[.int .u64 x10, .int .u64 x11]⟩) r8.2) := by kernel_rfl
theorem slices_ContainsFunc__uint8_uint8.entry (k lo : Nat) (A1 : Option Addr) (n2 : Nat) (c3 : Nat) (v4 : Value) (M : Mem) : entry P T k lo F.slices_ContainsFunc__uint8_uint8 [.slice A1 n2 c3, v4] M =
 ob (acall P T k lo F.slices_IndexFunc__uint8_uint8 [.slice A1 n2 c3, v4] M) fun r10 =>
 ob ((some r10.1).bind (Value.int? .i64)) fun x11 =>
 some (.ret (.bool (decide (x11 ≥ 0))) r10.2) := by kernel_rfl
theorem deblock_may_1.entry (k lo : Nat) (x1 : Int) (a2 : Addr) (M : Mem) : entry P T k lo F.deblock_may_1 [.int .u8 x1, .pointer (some a2)] M =
 ob ((M.ld a2).bind Value.slc?) fun s8 =>
 ob (acall P T k lo F.slices_Contains__uint8_uint8 [.slice s8.a s8.n s8.c, .int .u8 x1] M) fun r9 =>
 ob ((some r9.1).bind Value.bool?) fun b10 =>
 some (.ret (.bool (!b10)) r9.2) := by kernel_rfl
theorem slices_Contains__uint8_uint8.entry (k lo : Nat) (A1 : Option Addr) (n2 : Nat) (c3 : Nat) (x4 : Int) (M : Mem) : entry P T k lo F.slices_Contains__uint8_uint8 [.slice A1 n2 c3, .int .u8 x4] M =
 ob (acall P T k lo F.slices_Index__uint8_uint8 [.slice A1 n2 c3, .int .u8 x4] M) fun r10 =>
 ob ((some r10.1).bind (Value.int? .i64)) fun x11 =>
 some (.ret (.bool (decide (x11 ≥ 0))) r10.2) := by kernel_rfl
theorem deblock_line_rough.entry (k lo : Nat) (A1 : Option Addr) (n2 : Nat) (c3 : Nat) (x4 : Int) (x5 : Int) (x6 : Int) (x7 : Int) (M : Mem) : entry P T k lo F.deblock_line_rough [.agg ⟨[.slice A1 n2 c3, .int .i64 x4]⟩, .agg ⟨[.int .i64 x5, .int .i64 x6, .int .i64 x7]⟩] M =
 some (deblock_line_rough.c116 (minI (IntKind.i64.wrap (Int.tdiv (n2 : Int) 2)) 4) 1 A1 n2 c3 x4 x5 x6 x7 M) := by kernel_rfl
theorem deblock_line_rough.p116 (k lo : Nat) (x1 : Int) (x2 : Int) (A3 : Option Addr) (n4 : Nat) (c5 : Nat) (x6 : Int) (x7 : Int) (x8 : Int) (x9 : Int) (M : Mem) : piece P T k lo F.deblock_line_rough 116 [.l 2 0, .l 3 0, .v (.int .i64 x1), .v (.int .i64 x2)] [[.slice A3 n4 c5, .int .i64 x6], [.int .i64 x7, .int .i64 x8, .int .i64 x9]] M =
 bb (decide (x2 < x1))
 (ob (acall P T k M.length F.deblock_line_p [.agg ⟨[.slice A3 n4 c5, .int .i64 x6]⟩, .int .i64 x2] M) fun r13 =>
 ob ((some r13.1).bind (Value.int? .u8)) fun x14 =>
 ob (acall P T k M.length F.deblock_line_p [.agg ⟨[.slice A3 n4 c5, .int .i64 x6]⟩, .int .i64 (IntKind.i64.wrap (x2 - 1))] r13.2) fun r15 =>
 ob ((some r15.1).bind (Value.int? .u8)) fun x16 =>
 ob (acall P T k M.length F.deblock_far [.int .u8 x14, .int .u8 x16] r15.2) fun r17 =>
 ob ((some r17.1).bind (Value.int? .i64)) fun x18 =>
 bb (decide (x18 > x7))
 (some (.ret (.bool true) r17.2))
 (ob (acall P T k M.length F.deblock_line_q [.agg ⟨[.slice A3 n4 c5, .int .i64 x6]⟩, .int .i64 x2] r17.2) fun r19 =>
 ob ((some r19.1).bind (Value.int? .u8)) fun x20 =>
 ob (acall P T k M.length F.deblock_line_q [.agg ⟨[.slice A3 n4 c5, .int .i64 x6]⟩, .int .i64 (IntKind.i64.wrap (x2 - 1))] r19.2) fun r21 =>
 ob ((some r21.1).bind (Value.int? .u8)) fun x22 =>
 ob (acall P T k M.length F.deblock_far [.int .u8 x20, .int .u8 x22] r21.2) fun r23 =>
 ob ((some r23.1).bind (Value.int? .i64)) fun x24 =>
 bb (decide (x24 > x7))
 (some (.ret (.bool true) r23.2))
 (some (deblock_line_rough.c116 x1 (IntKind.i64.wrap (x2 + 1)) A3 n4 c5 x6 x7 x8 x9 r23.2))))
 (ob (acall P T k M.length F.deblock_line_p [.agg ⟨[.slice A3 n4 c5, .int .i64 x6]⟩, .int .i64 0] M) fun r25 =>
 ob ((some r25.1).bind (Value.int? .u8)) fun x26 =>
 ob (acall P T k M.length F.deblock_line_q [.agg ⟨[.slice A3 n4 c5, .int .i64 x6]⟩, .int .i64 0] r25.2) fun r27 =>
 ob ((some r27.1).bind (Value.int? .u8)) fun x28 =>
 ob (acall P T k M.length F.deblock_far [.int .u8 x26, .int .u8 x28] r27.2) fun r29 =>
 ob ((some r29.1).bind (Value.int? .i64)) fun x30 =>
 ob (acall P T k M.length F.deblock_line_p [.agg ⟨[.slice A3 n4 c5, .int .i64 x6]⟩, .int .i64 1] r29.2) fun r31 =>
 ob ((some r31.1).bind (Value.int? .u8)) fun x32 =>
 ob (acall P T k M.length F.deblock_line_q [.agg ⟨[.slice A3 n4 c5, .int .i64 x6]⟩, .int .i64 1] r31.2) fun r33 =>
 ob ((some r33.1).bind (Value.int? .u8)) fun x34 =>
 ob (acall P T k M.length F.deblock_far [.int .u8 x32, .int .u8 x34] r33.2) fun r35 =>
 ob ((some r35.1).bind (Value.int? .i64)) fun x36 =>
 some (.ret (.bool (decide (IntKind.i64.wrap ((IntKind.i64.wrap (2 * x30)) + (IntKind.i64.wrap (Int.tdiv x36 2))) > x8))) r35.2)) := by kernel_rfl
theorem deblock_line_flat.entry (k lo : Nat) (A1 : Option Addr) (n2 : Nat) (c3 : Nat) (x4 : Int) (x5 : Int) (x6 : Int) (M : Mem) : entry P T k lo F.deblock_line_flat [.agg ⟨[.slice A1 n2 c3, .int .i64 x4]⟩, .int .i64 x5, .int .i64 x6] M =
 some (deblock_line_flat.c52 x6 x5 A1 n2 c3 x4 M) := by kernel_rfl
theorem deblock_line_flat.p52 (k lo : Nat) (x1 : Int) (x2 : Int) (A3 : Option Addr) (n4 : Nat) (c5 : Nat) (x6 : Int) (M : Mem) : piece P T k lo F.deblock_line_flat 52 [.v (.int .i64 x1), .l 3 0, .v (.int .i64 x2)] [[.slice A3 n4 c5, .int .i64 x6]] M =
 bb (decide (x2 ≤ x1))
 (ob (acall P T k M.length F.deblock_line_p [.agg ⟨[.slice A3 n4 c5, .int .i64 x6]⟩, .int .i64 x2] M) fun r12 =>
 ob ((some r12.1).bind (Value.int? .u8)) fun x13 =>
 ob (acall P T k lo F.deblock_line_p [.agg ⟨[.slice A3 n4 c5, .int .i64 x6]⟩, .int .i64 0] r12.2) fun r14 =>
 ob ((some r14.1).bind (Value.int? .u8)) fun x15 =>
 ob (acall P T k lo F.deblock_far [.int .u8 x13, .int .u8 x15] r14.2) fun r16 =>
 ob ((some r16.1).bind (Value.int? .i64)) fun x17 =>
 bb (decide (x17 > 1))
 (some (.ret (.bool false) r16.2))
 (ob (acall P T k M.length F.deblock_line_q [.agg ⟨[.slice A3 n4 c5, .int .i64 x6]⟩, .int .i64 x2] r16.2) fun r18 =>
 ob ((some r18.1).bind (Value.int? .u8)) fun x19 =>
 ob (acall P T k lo F.deblock_line_q [.agg ⟨[.slice A3 n4 c5, .int .i64 x6]⟩, .int .i64 0] r18.2) fun r20 =>
 ob ((some r20.1).bind (Value.int? .u8)) fun x21 =>
 ob (acall P T k lo F.deblock_far [.int .u8 x19, .int .u8 x21] r20.2) fun r22 =>
 ob ((some r22.1).bind (Value.int? .i64)) fun x23 =>
 bb (decide (x23 > 1))
 (some (.ret (.bool false) r22.2))
 (some (deblock_line_flat.c52 x1 (IntKind.i64.wrap (x2 + 1)) A3 n4 c5 x6 r22.2))))
 (some (.ret (.bool true) M)) := by kernel_rfl
theorem deblock_line_wide.entry (k lo : Nat) (A1 : Option Addr) (n2 : Nat) (c3 : Nat) (x4 : Int) (x5 : Int) (x6 : Int) (x7 : Int) (M : Mem) : entry P T k lo F.deblock_line_wide [.agg ⟨[.slice A1 n2 c3, .int .i64 x4]⟩, .int .i64 x5, .int .i64 x6, .int .i64 x7] M =
 ob (acall P T k lo F.slices_Clone__uint8_uint8 [.slice A1 n2 c3] M) fun r13 =>
 ob ((some r13.1).bind Value.slc?) fun s14 =>
 some (deblock_line_wide.c116 x5 x6 x7 s14.a s14.n s14.c (IntKind.i64.wrap (0 - x5)) A1 n2 c3 x4 r13.2) := by kernel_rfl
theorem deblock_line_wide.p116 (k lo : Nat) (x1 : Int) (x2 : Int) (x3 : Int) (A4 : Option Addr) (n5 : Nat) (c6 : Nat) (x7 : Int) (A8 : Option Addr) (n9 : Nat) (c10 : Nat) (x11 : Int) (M : Mem) : piece P T k lo F.deblock_line_wide 116 [.v (.int .i64 x1), .v (.int .i64 x2), .v (.int .i64 x3), .l 4 0, .v (.slice A4 n5 c6), .v (.int .i64 x7)] [[.slice A8 n9 c10, .int .i64 x11]] M =
 bb (decide (x7 < x1))
 (some (deblock_line_wide.c29844 x1 x2 x3 A4 n5 c6 x7 0 (IntKind.i64.wrap (0 - x1)) A8 n9 c10 x11 M))
 (some (.ret (.slice A4 n5 c6) M)) := by kernel_rfl
theorem deblock_line_wide.p29844 (k lo : Nat) (x1 : Int) (x2 : Int) (x3 : Int) (A4 : Option Addr) (n5 : Nat) (c6 : Nat) (x7 : Int) (x8 : Int) (x9 : Int) (A10 : Option Addr) (n11 : Nat) (c12 : Nat) (x13 : Int) (M : Mem) : piece P T k lo F.deblock_line_wide 29844 [.v (.int .i64 x1), .v (.int .i64 x2), .v (.int .i64 x3), .l 4 0, .v (.slice A4 n5 c6), .v (.int .i64 x7), .v (.int .i64 x8), .v (.int .i64 x9)] [[.slice A10 n11 c12, .int .i64 x13]] M =
 bb (decide (x9 ≤ x1))
 (ob (acall P T k M.length F.deblock_clip [.int .i64 (IntKind.i64.wrap (x7 + x9)), .int .i64 (IntKind.i64.wrap ((IntKind.i64.wrap (0 - x1)) - 1)), .int .i64 x1] M) fun r15 =>
 ob ((some r15.1).bind (Value.int? .i64)) fun x16 =>
 pb (0 ≤ IntKind.i64.wrap (x13 + x16) ∧ IntKind.i64.wrap (x13 + x16) < (n11 : Int))
 (ob A10 fun a17 =>
 ob ((r15.2.ld (plus a17 ((IntKind.i64.wrap (x13 + x16)).toNat))).bind (Value.int? .u8)) fun x18 =>
 ob (acall P T k lo F.deblock_within [.int .i64 x9, .int .i64 (IntKind.i64.wrap (0 - x2)), .int .i64 x2] r15.2) fun r19 =>
 ob ((some r19.1).bind Value.bool?) fun b20 =>
 bb b20
 (some (deblock_line_wide.c119379 x1 x2 x3 A4 n5 c6 x7 (IntKind.i64.wrap ((IntKind.i64.wrap (x8 + (IntKind.i64.wrap x18))) + (IntKind.i64.wrap x18))) x9 A10 n11 c12 x13 r19.2))
 (some (deblock_line_wide.c119379 x1 x2 x3 A4 n5 c6 x7 (IntKind.i64.wrap (x8 + (IntKind.i64.wrap x18))) x9 A10 n11 c12 x13 r19.2))) none)
 (pb (IntKind.i64.wrap (x3 - 1) < 0) none
 (pb (x3 < 0) none
 (pb (0 ≤ IntKind.i64.wrap (x13 + x7) ∧ IntKind.i64.wrap (x13 + x7) < (n5 : Int))
 (ob A4 fun a21 =>
 ob (M.st lo (plus a21 ((IntKind.i64.wrap (x13 + x7)).toNat)) [.int .u8 (IntKind.u8.wrap (shrI .i64 (IntKind.i64.wrap (x8 + (shlI .i64 (1 : Int) ((IntKind.i64.wrap (x3 - 1)).toNat)))) x3.toNat))]) fun M22 =>
 some (deblock_line_wide.c116 x1 x2 x3 A4 n5 c6 (IntKind.i64.wrap (x7 + 1)) A10 n11 c12 x13 M22)) none))) := by kernel_rfl
theorem deblock_line_wide.p119379 (k lo : Nat) (x1 : Int) (x2 : Int) (x3 : Int) (A4 : Option Addr) (n5 : Nat) (c6 : Nat) (x7 : Int) (x8 : Int) (x9 : Int) (A10 : Option Addr) (n11 : Nat) (c12 : Nat) (x13 : Int) (M : Mem) : piece P T k lo F.deblock_line_wide 119379 [.v (.int .i64 x1), .v (.int .i64 x2), .v (.int .i64 x3), .l 4 0, .v (.slice A4 n5 c6), .v (.int .i64 x7), .v (.int .i64 x8), .v (.int .i64 x9)] [[.slice A10 n11 c12, .int .i64 x13]] M =
 some (deblock_line_wide.c29844 x1 x2 x3 A4 n5 c6 x7 x8 (IntKind.i64.wrap (x9 + 1)) A10 n11 c12 x13 M) := by kernel_rfl
theorem deblock_line_narrow.entry (k lo : Nat) (A1 : Option Addr) (n2 : Nat) (c3 : Nat) (x4 : Int) (x5 : Int) (x6 : Int) (x7 : Int) (M : Mem) : entry P T k lo F.deblock_line_narrow [.agg ⟨[.slice A1 n2 c3, .int .i64 x4]⟩, .agg ⟨[.int .i64 x5, .int .i64 x6, .int .i64 x7]⟩] M =
 ob (((M ++ [⟨.fx, [.slice A1 n2 c3, .int .i64 x4]⟩] : Mem).ld ⟨M.length, 0, none⟩).bind Value.slc?) fun s13 =>
 ob (((M ++ [⟨.fx, [.slice A1 n2 c3, .int .i64 x4]⟩] : Mem).ld (plus ⟨M.length, 0, none⟩ 1)).bind (Value.int? .i64)) fun x14 =>
 ob (acall P T k ((M ++ [⟨.fx, [.slice A1 n2 c3, .int .i64 x4]⟩] : Mem).length) F.deblock_line_p [.agg ⟨[.slice s13.a s13.n s13.c, .int .i64 x14]⟩, .int .i64 1] (M ++ [⟨.fx, [.slice A1 n2 c3, .int .i64 x4]⟩] : Mem)) fun r15 =>
 ob ((some r15.1).bind (Value.int? .u8)) fun x16 =>
 ob ((if M.length < (M ++ [⟨.fx, [.slice A1 n2 c3, .int .i64 x4]⟩] : Mem).length then r15.2.ld ⟨M.length, 0, none⟩ else none).bind Value.slc?) fun s17 =>
 ob ((if M.length < (M ++ [⟨.fx, [.slice A1 n2 c3, .int .i64 x4]⟩] : Mem).length then r15.2.ld (plus ⟨M.length, 0, none⟩ 1) else none).bind (Value.int? .i64)) fun x18 =>
 ob (acall P T k ((M ++ [⟨.fx, [.slice A1 n2 c3, .int .i64 x4]⟩] : Mem).length) F.deblock_line_p [.agg ⟨[.slice s17.a s17.n s17.c, .int .i64 x18]⟩, .int .i64 0] r15.2) fun r19 =>
 ob ((some r19.1).bind (Value.int? .u8)) fun x20 =>
 ob ((if M.length < (M ++ [⟨.fx, [.slice A1 n2 c3, .int .i64 x4]⟩] : Mem).length then r19.2.ld ⟨M.length, 0, none⟩ else none).bind Value.slc?) fun s21 =>
 ob ((if M.length < (M ++ [⟨.fx, [.slice A1 n2 c3, .int .i64 x4]⟩] : Mem).length then r19.2.ld (plus ⟨M.length, 0, none⟩ 1) else none).bind (Value.int? .i64)) fun x22 =>
 ob (acall P T k ((M ++ [⟨.fx, [.slice A1 n2 c3, .int .i64 x4]⟩] : Mem).length) F.deblock_line_q [.agg ⟨[.slice s21.a s21.n s21.c, .int .i64 x22]⟩, .int .i64 0] r19.2) fun r23 =>
 ob ((some r23.1).bind (Value.int? .u8)) fun x24 =>
 ob ((if M.length < (M ++ [⟨.fx, [.slice A1 n2 c3, .int .i64 x4]⟩] : Mem).length then r23.2.ld ⟨M.length, 0, none⟩ else none).bind Value.slc?) fun s25 =>
 ob ((if M.length < (M ++ [⟨.fx, [.slice A1 n2 c3, .int .i64 x4]⟩] : Mem).length then r23.2.ld (plus ⟨M.length, 0, none⟩ 1) else none).bind (Value.int? .i64)) fun x26 =>
 ob (acall P T k lo F.deblock_line_q [.agg ⟨[.slice s25.a s25.n s25.c, .int .i64 x26]⟩, .int .i64 1] r23.2) fun r27 =>
 ob ((some r27.1).bind (Value.int? .u8)) fun x28 =>
 ob ((r27.2.ld ⟨M.length, 0, none⟩).bind Value.slc?) fun s29 =>
 ob ((r27.2.ld (plus ⟨M.length, 0, none⟩ 1)).bind (Value.int? .i64)) fun x30 =>
 ob (acall P T k r27.2.length F.deblock_line_p [.agg ⟨[.slice s29.a s29.n s29.c, .int .i64 x30]⟩, .int .i64 1] r27.2) fun r31 =>
 ob ((some r31.1).bind (Value.int? .u8)) fun x32 =>
 ob ((if M.length < r27.2.length then r31.2.ld ⟨M.length, 0, none⟩ else none).bind Value.slc?) fun s33 =>
 ob ((if M.length < r27.2.length then r31.2.ld (plus ⟨M.length, 0, none⟩ 1) else none).bind (Value.int? .i64)) fun x34 =>
 ob (acall P T k r27.2.length F.deblock_line_p [.agg ⟨[.slice s33.a s33.n s33.c, .int .i64 x34]⟩, .int .i64 0] r31.2) fun r35 =>
 ob ((some r35.1).bind (Value.int? .u8)) fun x36 =>
 ob (acall P T k r27.2.length F.deblock_far [.int .u8 x32, .int .u8 x36] r35.2) fun r37 =>
 ob ((some r37.1).bind (Value.int? .i64)) fun x38 =>
 bb (decide (x38 > x7))
 (ob (acall P T k lo F.deblock_line_narrow_1 [.int .i64 (IntKind.i64.wrap ((IntKind.i64.wrap x16) - (IntKind.i64.wrap x28)))] r37.2) fun r39 =>
 ob ((some r39.1).bind (Value.int? .i64)) fun x40 =>
 some (deblock_line_narrow.c127 ⟨M.length, 0, none⟩ (IntKind.i64.wrap x16) (IntKind.i64.wrap x20) (IntKind.i64.wrap x24) (IntKind.i64.wrap x28) true x40 r39.2))
 (ob ((r37.2.ld ⟨M.length, 0, none⟩).bind Value.slc?) fun s41 =>
 ob ((r37.2.ld (plus ⟨M.length, 0, none⟩ 1)).bind (Value.int? .i64)) fun x42 =>
 ob (acall P T k r27.2.length F.deblock_line_q [.agg ⟨[.slice s41.a s41.n s41.c, .int .i64 x42]⟩, .int .i64 1] r37.2) fun r43 =>
 ob ((some r43.1).bind (Value.int? .u8)) fun x44 =>
 ob ((if M.length < r27.2.length then r43.2.ld ⟨M.length, 0, none⟩ else none).bind Value.slc?) fun s45 =>
 ob ((if M.length < r27.2.length then r43.2.ld (plus ⟨M.length, 0, none⟩ 1) else none).bind (Value.int? .i64)) fun x46 =>
 ob (acall P T k r27.2.length F.deblock_line_q [.agg ⟨[.slice s45.a s45.n s45.c, .int .i64 x46]⟩, .int .i64 0] r43.2) fun r47 =>
 ob ((some r47.1).bind (Value.int? .u8)) fun x48 =>
 ob (acall P T k r27.2.length F.deblock_far [.int .u8 x44, .int .u8 x48] r47.2) fun r49 =>
 ob ((some r49.1).bind (Value.int? .i64)) fun x50 =>
 bb (decide (x50 > x7))
 (ob (acall P T k lo F.deblock_line_narrow_1 [.int .i64 (IntKind.i64.wrap ((IntKind.i64.wrap x16) - (IntKind.i64.wrap x28)))] r49.2) fun r51 =>
 ob ((some r51.1).bind (Value.int? .i64)) fun x52 =>
 some (deblock_line_narrow.c127 ⟨M.length, 0, none⟩ (IntKind.i64.wrap x16) (IntKind.i64.wrap x20) (IntKind.i64.wrap x24) (IntKind.i64.wrap x28) (decide (x50 > x7)) x52 r51.2))
 (some (deblock_line_narrow.c127 ⟨M.length, 0, none⟩ (IntKind.i64.wrap x16) (IntKind.i64.wrap x20) (IntKind.i64.wrap x24) (IntKind.i64.wrap x28) (decide (x50 > x7)) 0 r49.2))) := by kernel_rfl
theorem deblock_line_narrow.p127 (k lo : Nat) (a1 : Addr) (x2 : Int) (x3 : Int) (x4 : Int) (x5 : Int) (b6 : Bool) (x7 : Int) (M : Mem) : piece P T k lo F.deblock_line_narrow 127 [.v (.pointer (some a1)), .v (.func (.func F.deblock_line_narrow_1) ⟨[]⟩ ⟨[]⟩), .v (.int .i64 x2), .v (.int .i64 x3), .v (.int .i64 x4), .v (.int .i64 x5), .v (.bool b6), .v (.int .i64 x7)] [] M =
 ob (acall P T k lo F.deblock_line_narrow_1 [.int .i64 (IntKind.i64.wrap (x7 + (IntKind.i64.wrap (3 * (IntKind.i64.wrap (x4 - x3))))))] M) fun r53 =>
 ob ((some r53.1).bind (Value.int? .i64)) fun x54 =>
 ob (acall P T k lo F.deblock_line_narrow_1 [.int .i64 (IntKind.i64.wrap (x54 + 4))] r53.2) fun r55 =>
 ob ((some r55.1).bind (Value.int? .i64)) fun x56 =>
 ob ((r55.2.ld a1).bind Value.slc?) fun s57 =>
 ob (acall P T k lo F.slices_Clone__uint8_uint8 [.slice s57.a s57.n s57.c] r55.2) fun r58 =>
 ob ((some r58.1).bind Value.slc?) fun s59 =>
 ob ((r58.2 ++ [⟨.fx, [.slice none 0 0]⟩] : Mem).st lo ⟨r58.2.length, 0, none⟩ [.slice s59.a s59.n s59.c]) fun M60 =>
 ob (acall P T k lo F.deblock_line_narrow_2 [.int .i64 0, .int .i64 (IntKind.i64.wrap (x4 - (shrI .i64 x56 3))), .pointer (some ⟨r58.2.length, 0, none⟩), .pointer (some a1)] M60) fun r61 =>
 ob (r61.1.tup? 0) fun l62 =>
 ob (acall P T k lo F.deblock_line_narrow_1 [.int .i64 (IntKind.i64.wrap (x54 + 3))] r61.2) fun r63 =>
 ob ((some r63.1).bind (Value.int? .i64)) fun x64 =>
 ob (acall P T k lo F.deblock_line_narrow_2 [.int .i64 (-1), .int .i64 (IntKind.i64.wrap (x3 + (shrI .i64 x64 3))), .pointer (some ⟨r58.2.length, 0, none⟩), .pointer (some a1)] r63.2) fun r65 =>
 ob (r65.1.tup? 0) fun l66 =>
 bb (!b6)
 (ob (acall P T k lo F.deblock_line_narrow_2 [.int .i64 1, .int .i64 (IntKind.i64.wrap (x5 - (shrI .i64 (IntKind.i64.wrap ((shrI .i64 x56 3) + 1)) 1))), .pointer (some ⟨r58.2.length, 0, none⟩), .pointer (some a1)] r65.2) fun r67 =>
 ob (r67.1.tup? 0) fun l68 =>
 ob (acall P T k lo F.deblock_line_narrow_2 [.int .i64 (-2), .int .i64 (IntKind.i64.wrap (x2 + (shrI .i64 (IntKind.i64.wrap ((shrI .i64 x56 3) + 1)) 1))), .pointer (some ⟨r58.2.length, 0, none⟩), .pointer (some a1)] r67.2) fun r69 =>
 ob (r69.1.tup? 0) fun l70 =>
 some (deblock_line_narrow.c16383 ⟨r58.2.length, 0, none⟩ r69.2))
 (some (deblock_line_narrow.c16383 ⟨r58.2.length, 0, none⟩ r65.2)) := by kernel_rfl
theorem deblock_line_narrow.p16383 (k lo : Nat) (a1 : Addr) (M : Mem) : piece P T k lo F.deblock_line_narrow 16383 [.v (.pointer (some a1))] [] M =
 ob ((M.ld a1).bind Value.slc?) fun s71 =>
 some (.ret (.slice s71.a s71.n s71.c) M) := by kernel_rfl
theorem slices_IndexFunc__int_int.entry (k lo : Nat) (A1 : Option Addr) (n2 : Nat) (c3 : Nat) (v4 : Value) (M : Mem) : entry P T k lo F.slices_IndexFunc__int_int [.slice A1 n2 c3, v4] M =
 some (slices_IndexFunc__int_int.c52 A1 n2 c3 v4 (n2 : Int) 0 M) := by kernel_rfl
theorem slices_IndexFunc__int_int.p52 (k lo : Nat) (A1 : Option Addr) (n2 : Nat) (c3 : Nat) (v4 : Value) (x5 : Int) (x6 : Int) (M : Mem) : piece P T k lo F.slices_IndexFunc__int_int 52 [.v (.slice A1 n2 c3), .v v4, .v (.int .i64 x5), .v (.int .i64 x6)] [] M =
 bb (decide (x6 < x5))
 (pb (0 ≤ x6 ∧ x6 < (n2 : Int))
 (ob A1 fun a10 =>
 ob ((M.ld (plus a10 x6.toNat)).bind (Value.int? .i64)) fun x11 =>
 ob (Value.fun? v4) fun q13 =>
 ob (acall P T k lo q13.1 (q13.2.1 ++ [.int .i64 x11] ++ q13.2.2) M) fun r12 =>
 ob ((some r12.1).bind Value.bool?) fun b14 =>
 bb b14
 (some (.ret (.int .i64 x6) r12.2))
 (some (slices_IndexFunc__int_int.c52 A1 n2 c3 v4 x5 (IntKind.i64.wrap (x6 + 1)) r12.2))) none)
 (some (.ret (.int .i64 (-1)) M)) := by kernel_rfl
theorem math_bits_Len64.entry (k lo : Nat) (x1 : Int) (M : Mem) : entry P T k lo F.math_bits_Len64 [.int .u64 x1] M =
 bb (decide (x1 ≥ 4294967296))
 (some (math_bits_Len64.c7 (shrI .u64 x1 32) 32 M))
 (some (math_bits_Len64.c7 x1 0 M)) := by kernel_rfl
theorem math_bits_Len64.p7 (k lo : Nat) (x1 : Int) (x2 : Int) (M : Mem) : piece P T k lo F.math_bits_Len64 7 [.v (.int .u64 x1), .v (.int .i64 x2)] [] M =
 bb (decide (x1 ≥ 65536))
 (some (math_bits_Len64.c15 (shrI .u64 x1 16) (IntKind.i64.wrap (x2 + 16)) M))
 (some (math_bits_Len64.c15 x1 x2 M)) := by kernel_rfl
theorem math_bits_Len64.p15 (k lo : Nat) (x1 : Int) (x2 : Int) (M : Mem) : piece P T k lo F.math_bits_Len64 15 [.v (.int .u64 x1), .v (.int .i64 x2)] [] M =
 bb (decide (x1 ≥ 256))
 (some (math_bits_Len64.c31 (shrI .u64 x1 8) (IntKind.i64.wrap (x2 + 8)) M))
 (some (math_bits_Len64.c31 x1 x2 M)) := by kernel_rfl
theorem math_bits_Len64.p31 (k lo : Nat) (x1 : Int) (x2 : Int) (M : Mem) : piece P T k lo F.math_bits_Len64 31 [.v (.int .u64 x1), .v (.int .i64 x2)] [] M =
 pb (0 ≤ IntKind.u8.wrap x1 ∧ IntKind.u8.wrap x1 < ((⟨#[0, 1, 2, 2, 3, 3, 3, 3, 4, 4, 4, 4, 4, 4, 4, 4, 5, 5, 5, 5, 5, 5, 5, 5, 5, 5, 5, 5, 5, 5, 5, 5, 6, 6, 6, 6, 6, 6, 6, 6, 6, 6, 6, 6, 6, 6, 6, 6, 6, 6, 6, 6, 6, 6, 6, 6, 6, 6, 6, 6, 6, 6, 6, 6, 7, 7, 7, 7, 7, 7, 7, 7, 7, 7, 7, 7, 7, 7, 7, 7, 7, 7, 7, 7, 7, 7, 7, 7, 7, 7, 7, 7, 7, 7, 7, 7, 7, 7, 7, 7, 7, 7, 7, 7, 7, 7, 7, 7, 7, 7, 7, 7, 7, 7, 7, 7, 7, 7, 7, 7, 7, 7, 7, 7, 7, 7, 7, 7, 8, 8, 8, 8, 8, 8, 8, 8, 8, 8, 8, 8, 8, 8, 8, 8, 8, 8, 8, 8, 8, 8, 8, 8, 8, 8, 8, 8, 8, 8, 8, 8, 8, 8, 8, 8, 8, 8, 8, 8, 8, 8, 8, 8, 8, 8, 8, 8, 8, 8, 8, 8, 8, 8, 8, 8, 8, 8, 8, 8, 8, 8, 8, 8, 8, 8, 8, 8, 8, 8, 8, 8, 8, 8, 8, 8, 8, 8, 8, 8, 8, 8, 8, 8, 8, 8, 8, 8, 8, 8, 8, 8, 8, 8, 8, 8, 8, 8, 8, 8, 8, 8, 8, 8, 8, 8, 8, 8, 8, 8, 8, 8, 8, 8, 8, 8, 8, 8, 8, 8, 8, 8, 8, 8, 8, 8, 8, 8]⟩ : ByteArray).size : Int))
 (some (.ret (.int .i64 (IntKind.i64.wrap (x2 + (IntKind.i64.wrap (strAt (⟨#[0, 1, 2, 2, 3, 3, 3, 3, 4, 4, 4, 4, 4, 4, 4, 4, 5, 5, 5, 5, 5, 5, 5, 5, 5, 5, 5, 5, 5, 5, 5, 5, 6, 6, 6, 6, 6, 6, 6, 6, 6, 6, 6, 6, 6, 6, 6, 6, 6, 6, 6, 6, 6, 6, 6, 6, 6, 6, 6, 6, 6, 6, 6, 6, 7, 7, 7, 7, 7, 7, 7, 7, 7, 7, 7, 7, 7, 7, 7, 7, 7, 7, 7, 7, 7, 7, 7, 7, 7, 7, 7, 7, 7, 7, 7, 7, 7, 7, 7, 7, 7, 7, 7, 7, 7, 7, 7, 7, 7, 7, 7, 7, 7, 7, 7, 7, 7, 7, 7, 7, 7, 7, 7, 7, 7, 7, 7, 7, 8, 8, 8, 8, 8, 8, 8, 8, 8, 8, 8, 8, 8, 8, 8, 8, 8, 8, 8, 8, 8, 8, 8, 8, 8, 8, 8, 8, 8, 8, 8, 8, 8, 8, 8, 8, 8, 8, 8, 8, 8, 8, 8, 8, 8, 8, 8, 8, 8, 8, 8, 8, 8, 8, 8, 8, 8, 8, 8, 8, 8, 8, 8, 8, 8, 8, 8, 8, 8, 8, 8, 8, 8, 8, 8, 8, 8, 8, 8, 8, 8, 8, 8, 8, 8, 8, 8, 8, 8, 8, 8, 8, 8, 8, 8, 8, 8, 8, 8, 8, 8, 8, 8, 8, 8, 8, 8, 8, 8, 8, 8, 8, 8, 8, 8, 8, 8, 8, 8, 8, 8, 8, 8, 8, 8, 8, 8, 8]⟩ : ByteArray) (IntKind.u8.wrap x1).toNat))))) M)) none := by kernel_rfl
theorem cdef_along.entry (k lo : Nat) (M : Mem) : entry P T k lo F.cdef_along [] M =
 some (.ret (.agg ⟨[.int .i64 (-1), .int .i64 1, .int .i64 (-2), .int .i64 2, .int .i64 0, .int .i64 1, .int .i64 (-1), .int .i64 2, .int .i64 0, .int .i64 1, .int .i64 0, .int .i64 2, .int .i64 0, .int .i64 1, .int .i64 1, .int .i64 2, .int .i64 1, .int .i64 1, .int .i64 2, .int .i64 2, .int .i64 1, .int .i64 0, .int .i64 2, .int .i64 1, .int .i64 1, .int .i64 0, .int .i64 2, .int .i64 0, .int .i64 1, .int .i64 0, .int .i64 2, .int .i64 (-1)]⟩) M) := by kernel_rfl
theorem cdef_Limit.entry (k lo : Nat) (x1 : Int) (x2 : Int) (x3 : Int) (M : Mem) : entry P T k lo F.cdef_Limit [.int .i64 x1, .int .i64 x2, .int .i64 x3] M =
 ob (acall P T k lo F.cdef_clip [.int .i64 x1, .int .i64 (-1048576), .int .i64 1048576] M) fun r9 =>
 ob ((some r9.1).bind (Value.int? .i64)) fun x10 =>
 ob (acall P T k lo F.cdef_clip [.int .i64 x2, .int .i64 (-1048576), .int .i64 1048576] r9.2) fun r11 =>
 ob ((some r11.1).bind (Value.int? .i64)) fun x12 =>
 ob (acall P T k lo F.cdef_clip [.int .i64 x3, .int .i64 (-1048576), .int .i64 1048576] r11.2) fun r13 =>
 ob ((some r13.1).bind (Value.int? .i64)) fun x14 =>
 bb (decide (x12 ≤ 0))
 (some (.ret (.int .i64 0) r13.2))
 (ob (acall P T k lo F.math_bits_Len [.int .u64 (IntKind.u64.wrap x12)] r13.2) fun r15 =>
 ob ((some r15.1).bind (Value.int? .i64)) fun x16 =>
 ob (acall P T k lo F.cdef_clip [.int .i64 (IntKind.i64.wrap ((IntKind.i64.wrap (x14 - x16)) + 1)), .int .i64 0, .int .i64 60] r15.2) fun r17 =>
 ob ((some r17.1).bind (Value.int? .i64)) fun x18 =>
 pb (x18 < 0) none
 (bb (decide (x10 < 0))
 (some (.ret (.int .i64 (IntKind.i64.wrap (0 - (minI (maxI x10 (IntKind.i64.wrap (0 - x10))) (maxI 0 (IntKind.i64.wrap (x12 - (shrI .i64 (maxI x10 (IntKind.i64.wrap (0 - x10))) x18.toNat)))))))) r17.2))
 (some (.ret (.int .i64 (minI (maxI x10 (IntKind.i64.wrap (0 - x10))) (maxI 0 (IntKind.i64.wrap (x12 - (shrI .i64 (maxI x10 (IntKind.i64.wrap (0 - x10))) x18.toNat)))))) r17.2)))) := by kernel_rfl
theorem cdef_clip.entry (k lo : Nat) (x1 : Int) (x2 : Int) (x3 : Int) (M : Mem) : entry P T k lo F.cdef_clip [.int .i64 x1, .int .i64 x2, .int .i64 x3] M =
 some (.ret (.int .i64 (minI (maxI x1 x2) x3)) M) := by kernel_rfl
theorem math_bits_Mul64.entry (k lo : Nat) (x1 : Int) (x2 : Int) (M : Mem) : entry P T k lo F.math_bits_Mul64 [.int .u64 x1, .int .u64 x2] M =
 some (.ret (.tuple ⟨[.int .u64 (IntKind.u64.wrap ((IntKind.u64.wrap ((IntKind.u64.wrap ((shrI .u64 x1 32) * (shrI .u64 x2 32))) + (shrI .u64 (IntKind.u64.wrap ((IntKind.u64.wrap ((shrI .u64 x1 32) * (andI .u64 x2 4294967295))) + (shrI .u64 (IntKind.u64.wrap ((andI .u64 x1 4294967295) * (andI .u64 x2 4294967295))) 32))) 32))) + (shrI .u64 (IntKind.u64.wrap ((andI .u64 (IntKind.u64.wrap ((IntKind.u64.wrap ((shrI .u64 x1 32) * (andI .u64 x2 4294967295))) + (shrI .u64 (IntKind.u64.wrap ((andI .u64 x1 4294967295) * (andI .u64 x2 4294967295))) 32))) 4294967295) + (IntKind.u64.wrap ((andI .u64 x1 4294967295) * (shrI .u64 x2 32))))) 32))), .int .u64 (IntKind.u64.wrap (x1 * x2))]⟩) M) := by kernel_rfl
theorem slices_IndexFunc__uint8_uint8.entry (k lo : Nat) (A1 : Option Addr) (n2 : Nat) (c3 : Nat) (v4 : Value) (M : Mem) : entry P T k lo F.slices_IndexFunc__uint8_uint8 [.slice A1 n2 c3, v4] M =
 some (slices_IndexFunc__uint8_uint8.c52 A1 n2 c3 v4 (n2 : Int) 0 M) := by kernel_rfl
theorem slices_IndexFunc__uint8_uint8.p52 (k lo : Nat) (A1 : Option Addr) (n2 : Nat) (c3 : Nat) (v4 : Value) (x5 : Int) (x6 : Int) (M : Mem) : piece P T k lo F.slices_IndexFunc__uint8_uint8 52 [.v (.slice A1 n2 c3), .v v4, .v (.int .i64 x5), .v (.int .i64 x6)] [] M =
 bb (decide (x6 < x5))
 (pb (0 ≤ x6 ∧ x6 < (n2 : Int))
 (ob A1 fun a10 =>
 ob ((M.ld (plus a10 x6.toNat)).bind (Value.int? .u8)) fun x11 =>
 ob (Value.fun? v4) fun q13 =>
 ob (acall P T k lo q13.1 (q13.2.1 ++ [.int .u8 x11] ++ q13.2.2) M) fun r12 =>
 ob ((some r12.1).bind Value.bool?) fun b14 =>
 bb b14
 (some (.ret (.int .i64 x6) r12.2))
 (some (slices_IndexFunc__uint8_uint8.c52 A1 n2 c3 v4 x5 (IntKind.i64.wrap (x6 + 1)) r12.2))) none)
 (some (.ret (.int .i64 (-1)) M)) := by kernel_rfl
theorem slices_Index__uint8_uint8.entry (k lo : Nat) (A1 : Option Addr) (n2 : Nat) (c3 : Nat) (x4 : Int) (M : Mem) : entry P T k lo F.slices_Index__uint8_uint8 [.slice A1 n2 c3, .int .u8 x4] M =
 some (slices_Index__uint8_uint8.c52 A1 n2 c3 x4 (n2 : Int) 0 M) := by kernel_rfl
theorem slices_Index__uint8_uint8.p52 (k lo : Nat) (A1 : Option Addr) (n2 : Nat) (c3 : Nat) (x4 : Int) (x5 : Int) (x6 : Int) (M : Mem) : piece P T k lo F.slices_Index__uint8_uint8 52 [.v (.slice A1 n2 c3), .v (.int .u8 x4), .v (.int .i64 x5), .v (.int .i64 x6)] [] M =
 bb (decide (x6 < x5))
 (pb (0 ≤ x6 ∧ x6 < (n2 : Int))
 (ob A1 fun a10 =>
 ob ((M.ld (plus a10 x6.toNat)).bind (Value.int? .u8)) fun x11 =>
 bb (x4 == x11)
 (some (.ret (.int .i64 x6) M))
 (some (slices_Index__uint8_uint8.c52 A1 n2 c3 x4 x5 (IntKind.i64.wrap (x6 + 1)) M))) none)
 (some (.ret (.int .i64 (-1)) M)) := by kernel_rfl
theorem deblock_far.entry (k lo : Nat) (x1 : Int) (x2 : Int) (M : Mem) : entry P T k lo F.deblock_far [.int .u8 x1, .int .u8 x2] M =
 some (.ret (.int .i64 (maxI (IntKind.i64.wrap ((IntKind.i64.wrap x1) - (IntKind.i64.wrap x2))) (IntKind.i64.wrap ((IntKind.i64.wrap x2) - (IntKind.i64.wrap x1))))) M) := by kernel_rfl
theorem deblock_line_p.entry (k lo : Nat) (A1 : Option Addr) (n2 : Nat) (c3 : Nat) (x4 : Int) (x5 : Int) (M : Mem) : entry P T k lo F.deblock_line_p [.agg ⟨[.slice A1 n2 c3, .int .i64 x4]⟩, .int .i64 x5] M =
 pb (0 ≤ IntKind.i64.wrap ((IntKind.i64.wrap (x4 - 1)) - x5) ∧ IntKind.i64.wrap ((IntKind.i64.wrap (x4 - 1)) - x5) < (n2 : Int))
 (ob A1 fun a11 =>
 ob ((M.ld (plus a11 ((IntKind.i64.wrap ((IntKind.i64.wrap (x4 - 1)) - x5)).toNat))).bind (Value.int? .u8)) fun x12 =>
 some (.ret (.int .u8 x12) M)) none := by kernel_rfl
theorem deblock_line_q.entry (k lo : Nat) (A1 : Option Addr) (n2 : Nat) (c3 : Nat) (x4 : Int) (x5 : Int) (M : Mem) : entry P T k lo F.deblock_line_q [.agg ⟨[.slice A1 n2 c3, .int .i64 x4]⟩, .int .i64 x5] M =
 pb (0 ≤ IntKind.i64.wrap (x4 + x5) ∧ IntKind.i64.wrap (x4 + x5) < (n2 : Int))
 (ob A1 fun a11 =>
 ob ((M.ld (plus a11 ((IntKind.i64.wrap (x4 + x5)).toNat))).bind (Value.int? .u8)) fun x12 =>
 some (.ret (.int .u8 x12) M)) none := by kernel_rfl
theorem deblock_clip.entry (k lo : Nat) (x1 : Int) (x2 : Int) (x3 : Int) (M : Mem) : entry P T k lo F.deblock_clip [.int .i64 x1, .int .i64 x2, .int .i64 x3] M =
 some (.ret (.int .i64 (minI (maxI x1 x2) x3)) M) := by kernel_rfl
theorem deblock_line_narrow_1.entry (k lo : Nat) (x1 : Int) (M : Mem) : entry P T k lo F.deblock_line_narrow_1 [.int .i64 x1] M =
 ob (acall P T k lo F.deblock_clip [.int .i64 x1, .int .i64 (-128), .int .i64 127] M) fun r7 =>
 ob ((some r7.1).bind (Value.int? .i64)) fun x8 =>
 some (.ret (.int .i64 x8) r7.2) := by kernel_rfl
theorem deblock_line_narrow_2.entry (k lo : Nat) (x1 : Int) (x2 : Int) (a3 : Addr) (a4 : Addr) (M : Mem) : entry P T k lo F.deblock_line_narrow_2 [.int .i64 x1, .int .i64 x2, .pointer (some a3), .pointer (some a4)] M =
 ob ((if a3.block < M.length then M.ld a3 else none).bind Value.slc?) fun s10 =>
 ob ((if ((plus a4 1).block) < M.length then M.ld (plus a4 1) else none).bind (Value.int? .i64)) fun x11 =>
 ob (acall P T k M.length F.deblock_clip [.int .i64 x2, .int .i64 0, .int .i64 255] M) fun r12 =>
 ob ((some r12.1).bind (Value.int? .i64)) fun x13 =>
 pb (0 ≤ IntKind.i64.wrap (x11 + x1) ∧ IntKind.i64.wrap (x11 + x1) < (s10.n : Int))
 (ob s10.a fun a14 =>
 ob (r12.2.st lo (plus a14 ((IntKind.i64.wrap (x11 + x1)).toNat)) [.int .u8 (IntKind.u8.wrap x13)]) fun M15 =>
 some (.ret (.tuple ⟨[]⟩) M15)) none := by kernel_rfl
end Go.Zt
