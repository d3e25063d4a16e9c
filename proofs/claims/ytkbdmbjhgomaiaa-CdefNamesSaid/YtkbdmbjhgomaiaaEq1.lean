/- What functions come to, from cut to cut. -/
import Derived.Test.YtkbdmbjhgomaiaaEq0
import Derived.KernelRfl
set_option maxRecDepth 100000
set_option maxHeartbeats 4000000
set_option linter.unusedVariables false
namespace Go.Zt
theorem zoetropelaw23_CdefDirections.entry (k lo : Nat) (A1 : Option Addr) (n2 : Nat) (c3 : Nat) (x4 : Int) (x5 : Int) (x6 : Int) (M : Mem) : entry P T k lo F.zoetropelaw23_CdefDirections [.slice A1 n2 c3, .agg ⟨[.int .i64 x4, .int .i64 x5, .int .i64 x6]⟩] M =
 ob (acall P T k lo F.zoetroperef00_CopyBytes [.slice A1 n2 c3] M) fun r12 =>
 ob ((some r12.1).bind Value.slc?) fun s13 =>
 ob (acall P T k lo F.cdef_Direction [.slice s13.a s13.n s13.c] r12.2) fun r14 =>
 ob (r14.1.tup? 3) fun l15 =>
 ob ((l15[0]?).bind (Value.int? .i64)) fun x16 =>
 ob ((l15[1]?).bind (Value.int? .i64)) fun x17 =>
 ob ((l15[2]?).bind (Value.int? .i64)) fun x18 =>
 ob (acall P T k lo F.zoetroperef23_Direction [.slice A1 n2 c3] r14.2) fun r19 =>
 ob (r19.1.tup? 3) fun l20 =>
 ob ((l20[0]?).bind (Value.int? .i64)) fun x21 =>
 ob ((l20[1]?).bind (Value.int? .i64)) fun x22 =>
 ob ((l20[2]?).bind (Value.int? .i64)) fun x23 =>
 bb (x16 == x21)
 (bb (x17 == x22)
 (bb (x18 == x23)
 (ob (acall P T k r19.2.length F.zoetroperef00_EqBytes [.slice s13.a s13.n s13.c, .slice A1 n2 c3] r19.2) fun r24 =>
 ob ((some r24.1).bind Value.bool?) fun b25 =>
 bb b25
 (ob (acall P T k r19.2.length F.cdef_Limit [.int .i64 x4, .int .i64 x5, .int .i64 x6] r24.2) fun r26 =>
 ob ((some r26.1).bind (Value.int? .i64)) fun x27 =>
 ob (acall P T k r19.2.length F.zoetroperef23_Limit [.int .i64 x4, .int .i64 x5, .int .i64 x6] r26.2) fun r28 =>
 ob ((some r28.1).bind (Value.int? .i64)) fun x29 =>
 bb (x27 == x29)
 (ob (acall P T k r19.2.length F.zoetropelaw23_awake [] r28.2) fun r30 =>
 ob ((some r30.1).bind Value.bool?) fun b31 =>
 some (.ret (.bool b31) r30.2))
 (some (.ret (.bool false) r28.2)))
 (some (.ret (.bool false) r24.2)))
 (some (.ret (.bool false) r19.2)))
 (some (.ret (.bool false) r19.2)))
 (some (.ret (.bool false) r19.2)) := by kernel_rfl
theorem zoetropelaw23_CdefBlocks.entry (k lo : Nat) (x1 : Int) (x2 : Int) (A3 : Option Addr) (n4 : Nat) (c5 : Nat) (x6 : Int) (x7 : Int) (x8 : Int) (x9 : Int) (x10 : Int) (x11 : Int) (x12 : Int) (x13 : Int) (M : Mem) : entry P T k lo F.zoetropelaw23_CdefBlocks [.agg ⟨[.int .i64 x1, .int .i64 x2, .slice A3 n4 c5]⟩, .agg ⟨[.int .i64 x6, .int .i64 x7, .int .i64 x8, .int .i64 x9]⟩, .agg ⟨[.int .i64 x10, .int .i64 x11, .int .i64 x12, .int .i64 x13]⟩] M =
 ob (acall P T k lo F.zoetroperef05_CopyPlane [.agg ⟨[.int .i64 x1, .int .i64 x2, .slice A3 n4 c5]⟩] M) fun r19 =>
 ob ((some r19.1).bind (Value.agg? 3)) fun l20 =>
 ob ((l20[0]?).bind (Value.int? .i64)) fun x21 =>
 ob ((l20[1]?).bind (Value.int? .i64)) fun x22 =>
 ob ((l20[2]?).bind Value.slc?) fun s23 =>
 ob (acall P T k lo F.cdef_Block [.agg ⟨[.int .i64 x21, .int .i64 x22, .slice s23.a s23.n s23.c]⟩, .agg ⟨[.int .i64 x6, .int .i64 x7, .int .i64 x8, .int .i64 x9]⟩, .int .i64 x10, .int .i64 x11, .int .i64 x12, .int .i64 x13] r19.2) fun r24 =>
 ob (r24.1.tup? 2) fun l25 =>
 ob ((l25[0]?).bind Value.slc?) fun s26 =>
 ob ((l25[1]?).bind (Value.int? .i64)) fun x27 =>
 ob (acall P T k lo F.zoetroperef23_Block [.agg ⟨[.int .i64 x1, .int .i64 x2, .slice A3 n4 c5]⟩, .agg ⟨[.int .i64 x6, .int .i64 x7, .int .i64 x8, .int .i64 x9]⟩, .int .i64 x10, .int .i64 x11, .int .i64 x12, .int .i64 x13] r24.2) fun r28 =>
 ob (r28.1.tup? 2) fun l29 =>
 ob ((l29[0]?).bind Value.slc?) fun s30 =>
 ob ((l29[1]?).bind (Value.int? .i64)) fun x31 =>
 bb (x27 != x31)
 (some (.ret (.bool false) r28.2))
 (ob (acall P T k lo F.zoetroperef00_EqBytes [.slice s26.a s26.n s26.c, .slice s30.a s30.n s30.c] r28.2) fun r32 =>
 ob ((some r32.1).bind Value.bool?) fun b33 =>
 bb (!b33)
 (some (.ret (.bool false) r32.2))
 (ob (acall P T k lo F.zoetroperef00_EqBytes [.slice s23.a s23.n s23.c, .slice A3 n4 c5] r32.2) fun r34 =>
 ob ((some r34.1).bind Value.bool?) fun b35 =>
 bb (!b35)
 (some (.ret (.bool false) r34.2))
 (some (zoetropelaw23_CdefBlocks.c1012 s26.a s26.n s26.c 0 x1 x2 A3 n4 c5 x21 x22 s23.a s23.n s23.c r34.2)))) := by kernel_rfl
theorem zoetropelaw23_CdefBlocks.p1012 (k lo : Nat) (A1 : Option Addr) (n2 : Nat) (c3 : Nat) (x4 : Int) (x5 : Int) (x6 : Int) (A7 : Option Addr) (n8 : Nat) (c9 : Nat) (x10 : Int) (x11 : Int) (A12 : Option Addr) (n13 : Nat) (c14 : Nat) (M : Mem) : piece P T k lo F.zoetropelaw23_CdefBlocks 1012 [.l 3 0, .l 7 0, .v (.slice A1 n2 c3), .v (.int .i64 x4)] [[.int .i64 x5, .int .i64 x6, .slice A7 n8 c9], [.int .i64 x10, .int .i64 x11, .slice A12 n13 c14]] M =
 bb (decide (x4 < (n2 : Int)))
 (pb (0 ≤ x4 ∧ x4 < (n2 : Int))
 (ob A1 fun a36 =>
 ob ((M.ld (plus a36 x4.toNat)).bind (Value.int? .u8)) fun x37 =>
 pb (0 ≤ x4 ∧ x4 < (n2 : Int))
 (ob A1 fun a38 =>
 ob (M.st lo (plus a38 x4.toNat) [.int .u8 (xorI .u8 x37 90)]) fun M39 =>
 some (zoetropelaw23_CdefBlocks.c1012 A1 n2 c3 (IntKind.i64.wrap (x4 + 1)) x5 x6 A7 n8 c9 x10 x11 A12 n13 c14 M39)) none) none)
 (ob (acall P T k lo F.zoetroperef00_EqBytes [.slice A12 n13 c14, .slice A7 n8 c9] M) fun r40 =>
 ob ((some r40.1).bind Value.bool?) fun b41 =>
 bb b41
 (ob (acall P T k lo F.zoetropelaw23_awake [] r40.2) fun r42 =>
 ob ((some r42.1).bind Value.bool?) fun b43 =>
 some (.ret (.bool b43) r42.2))
 (some (.ret (.bool false) r40.2))) := by kernel_rfl
theorem zoetropelaw23_CdefBetween.entry (k lo : Nat) (x1 : Int) (x2 : Int) (A3 : Option Addr) (n4 : Nat) (c5 : Nat) (x6 : Int) (x7 : Int) (x8 : Int) (x9 : Int) (x10 : Int) (x11 : Int) (x12 : Int) (x13 : Int) (M : Mem) : entry P T k lo F.zoetropelaw23_CdefBetween [.agg ⟨[.int .i64 x1, .int .i64 x2, .slice A3 n4 c5]⟩, .agg ⟨[.int .i64 x6, .int .i64 x7, .int .i64 x8, .int .i64 x9]⟩, .agg ⟨[.int .i64 x10, .int .i64 x11, .int .i64 x12, .int .i64 x13]⟩] M =
 ob (acall P T k lo F.zoetropelaw23_awake [] M) fun r19 =>
 ob ((some r19.1).bind Value.bool?) fun b20 =>
 bb (!b20)
 (some (.ret (.bool false) r19.2))
 (ob (acall P T k lo F.plane_Check [.agg ⟨[.int .i64 x1, .int .i64 x2, .slice A3 n4 c5]⟩] r19.2) fun r21 =>
 ob ((some r21.1).bind (Value.int? .i64)) fun x22 =>
 bb (x22 != 0)
 (some (.ret (.bool true) r21.2))
 (ob (acall P T k r21.2.length F.zoetroperef00_Bring [.int .i64 x6, .int .i64 x1] r21.2) fun r23 =>
 ob ((some r23.1).bind (Value.int? .i64)) fun x24 =>
 ob (acall P T k r21.2.length F.zoetroperef00_Bring [.int .i64 x7, .int .i64 x2] r23.2) fun r25 =>
 ob ((some r25.1).bind (Value.int? .i64)) fun x26 =>
 ob (acall P T k r25.2.length F.zoetroperef00_Bring [.int .i64 x10, .int .i64 8] r25.2) fun r27 =>
 ob ((some r27.1).bind (Value.int? .i64)) fun x28 =>
 ob (acall P T k r25.2.length F.zoetroperef00_Bring [.int .i64 x11, .int .i64 16] r27.2) fun r29 =>
 ob ((some r29.1).bind (Value.int? .i64)) fun x30 =>
 ob (acall P T k r25.2.length F.zoetroperef00_Bring [.int .i64 x12, .int .i64 5] r29.2) fun r31 =>
 ob ((some r31.1).bind (Value.int? .i64)) fun x32 =>
 ob (acall P T k r25.2.length F.zoetroperef00_Bring [.int .i64 x13, .int .i64 7] r31.2) fun r33 =>
 ob ((some r33.1).bind (Value.int? .i64)) fun x34 =>
 ob (acall P T k r25.2.length F.cdef_Block [.agg ⟨[.int .i64 x1, .int .i64 x2, .slice A3 n4 c5]⟩, .agg ⟨[.int .i64 x24, .int .i64 x26, .int .i64 1, .int .i64 1]⟩, .int .i64 x28, .int .i64 x30, .int .i64 x32, .int .i64 x34] r33.2) fun r35 =>
 ob (r35.1.tup? 2) fun l36 =>
 ob ((l36[0]?).bind Value.slc?) fun s37 =>
 ob ((l36[1]?).bind (Value.int? .i64)) fun x38 =>
 bb (x38 != 0)
 (some (.ret (.bool false) r35.2))
 (bb ((s37.n : Int) != 1)
 (some (.ret (.bool false) r35.2))
 (some (zoetropelaw23_CdefBetween.c4084 s37.a s37.n s37.c 255 0 (maxI (IntKind.i64.wrap (x26 - 2)) 0) x1 x2 A3 n4 c5 x24 x26 1 1 r35.2))))) := by kernel_rfl
theorem zoetropelaw23_CdefBetween.p4084 (k lo : Nat) (A1 : Option Addr) (n2 : Nat) (c3 : Nat) (x4 : Int) (x5 : Int) (x6 : Int) (x7 : Int) (x8 : Int) (A9 : Option Addr) (n10 : Nat) (c11 : Nat) (x12 : Int) (x13 : Int) (x14 : Int) (x15 : Int) (M : Mem) : piece P T k lo F.zoetropelaw23_CdefBetween 4084 [.l 3 0, .l 4 0, .v (.slice A1 n2 c3), .v (.int .u8 x4), .v (.int .u8 x5), .v (.int .i64 x6)] [[.int .i64 x7, .int .i64 x8, .slice A9 n10 c11], [.int .i64 x12, .int .i64 x13, .int .i64 x14, .int .i64 x15]] M =
 bb (decide (x6 ≤ (minI (IntKind.i64.wrap (x13 + 2)) (IntKind.i64.wrap (x8 - 1)))))
 (some (zoetropelaw23_CdefBetween.c261412 A1 n2 c3 x4 x5 x6 (maxI (IntKind.i64.wrap (x12 - 2)) 0) x7 x8 A9 n10 c11 x12 x13 x14 x15 M))
 (pb (0 ≤ (0 : Int) ∧ (0 : Int) < (n2 : Int))
 (ob A1 fun a39 =>
 ob ((M.ld a39).bind (Value.int? .u8)) fun x40 =>
 bb (decide (x40 ≥ x4))
 (pb (0 ≤ (0 : Int) ∧ (0 : Int) < (n2 : Int))
 (ob A1 fun a41 =>
 ob ((M.ld a41).bind (Value.int? .u8)) fun x42 =>
 some (.ret (.bool (decide (x42 ≤ x5))) M)) none)
 (some (.ret (.bool false) M))) none) := by kernel_rfl
theorem zoetropelaw23_CdefBetween.p261412 (k lo : Nat) (A1 : Option Addr) (n2 : Nat) (c3 : Nat) (x4 : Int) (x5 : Int) (x6 : Int) (x7 : Int) (x8 : Int) (x9 : Int) (A10 : Option Addr) (n11 : Nat) (c12 : Nat) (x13 : Int) (x14 : Int) (x15 : Int) (x16 : Int) (M : Mem) : piece P T k lo F.zoetropelaw23_CdefBetween 261412 [.l 3 0, .l 4 0, .v (.slice A1 n2 c3), .v (.int .u8 x4), .v (.int .u8 x5), .v (.int .i64 x6), .v (.int .i64 x7)] [[.int .i64 x8, .int .i64 x9, .slice A10 n11 c12], [.int .i64 x13, .int .i64 x14, .int .i64 x15, .int .i64 x16]] M =
 bb (decide (x7 ≤ (minI (IntKind.i64.wrap (x13 + 2)) (IntKind.i64.wrap (x8 - 1)))))
 (pb (0 ≤ IntKind.i64.wrap ((IntKind.i64.wrap (x6 * x8)) + x7) ∧ IntKind.i64.wrap ((IntKind.i64.wrap (x6 * x8)) + x7) < (n11 : Int))
 (ob A10 fun a43 =>
 ob ((M.ld (plus a43 ((IntKind.i64.wrap ((IntKind.i64.wrap (x6 * x8)) + x7)).toNat))).bind (Value.int? .u8)) fun x44 =>
 pb (0 ≤ IntKind.i64.wrap ((IntKind.i64.wrap (x6 * x8)) + x7) ∧ IntKind.i64.wrap ((IntKind.i64.wrap (x6 * x8)) + x7) < (n11 : Int))
 (ob A10 fun a45 =>
 ob ((M.ld (plus a45 ((IntKind.i64.wrap ((IntKind.i64.wrap (x6 * x8)) + x7)).toNat))).bind (Value.int? .u8)) fun x46 =>
 some (zoetropelaw23_CdefBetween.c261412 A1 n2 c3 (minI x4 x44) (maxI x5 x46) x6 (IntKind.i64.wrap (x7 + 1)) x8 x9 A10 n11 c12 x13 x14 x15 x16 M)) none) none)
 (some (zoetropelaw23_CdefBetween.c4084 A1 n2 c3 x4 x5 (IntKind.i64.wrap (x6 + 1)) x8 x9 A10 n11 c12 x13 x14 x15 x16 M)) := by kernel_rfl
theorem zoetropelaw23_CdefLimits.entry (k lo : Nat) (x1 : Int) (x2 : Int) (x3 : Int) (M : Mem) : entry P T k lo F.zoetropelaw23_CdefLimits [.int .i64 x1, .int .i64 x2, .int .i64 x3] M =
 ob (acall P T k lo F.zoetropelaw23_awake [] M) fun r9 =>
 ob ((some r9.1).bind Value.bool?) fun b10 =>
 bb (!b10)
 (some (.ret (.bool false) r9.2))
 (ob (acall P T k lo F.zoetroperef00_Bring [.int .i64 x1, .int .i64 1048576] r9.2) fun r11 =>
 ob ((some r11.1).bind (Value.int? .i64)) fun x12 =>
 ob (acall P T k lo F.cdef_Limit [.int .i64 x12, .int .i64 x2, .int .i64 x3] r11.2) fun r13 =>
 ob ((some r13.1).bind (Value.int? .i64)) fun x14 =>
 ob (acall P T k lo F.cdef_Limit [.int .i64 (IntKind.i64.wrap (0 - x12)), .int .i64 x2, .int .i64 x3] r13.2) fun r15 =>
 ob ((some r15.1).bind (Value.int? .i64)) fun x16 =>
 bb (x14 != IntKind.i64.wrap (0 - x16))
 (some (.ret (.bool false) r15.2))
 (bb (decide (x14 < 0))
 (some (.ret (.bool false) r15.2))
 (bb (decide (x14 > x12))
 (some (.ret (.bool false) r15.2))
 (bb (decide (x14 > (maxI x2 0)))
 (some (.ret (.bool false) r15.2))
 (bb (decide (x2 > 0))
 (bb (decide (x2 < 1048576))
 (bb (decide (x3 ≤ 0))
 (bb (decide (x12 ≥ x2))
 (some (.ret (.bool (x14 == 0)) r15.2))
 (bb (decide (x2 > 0))
 (some (.ret (.bool true) r15.2))
 (some (.ret (.bool (x14 == 0)) r15.2))))
 (bb (decide (x2 > 0))
 (some (.ret (.bool true) r15.2))
 (some (.ret (.bool (x14 == 0)) r15.2))))
 (bb (decide (x2 > 0))
 (some (.ret (.bool true) r15.2))
 (some (.ret (.bool (x14 == 0)) r15.2))))
 (bb (decide (x2 > 0))
 (some (.ret (.bool true) r15.2))
 (some (.ret (.bool (x14 == 0)) r15.2)))))))) := by kernel_rfl
theorem zoetropelaw23_CdefStripes.entry (k lo : Nat) (x1 : Int) (x2 : Int) (M : Mem) : entry P T k lo F.zoetropelaw23_CdefStripes [.int .u8 x1, .int .u8 x2] M =
 ob (acall P T k lo F.zoetropelaw23_awake [] M) fun r8 =>
 ob ((some r8.1).bind Value.bool?) fun b9 =>
 bb (!b9)
 (some (.ret (.bool false) r8.2))
 (bb (decide (IntKind.u8.wrap ((maxI x1 x2) - (minI x1 x2)) < 16))
 (some (.ret (.bool true) r8.2))
 (ob (acall P T k lo F.zoetropelaw23_stripes [.bool false, .int .u8 x1, .int .u8 x2] r8.2) fun r10 =>
 ob ((some r10.1).bind Value.slc?) fun s11 =>
 ob (acall P T k lo F.cdef_Direction [.slice s11.a s11.n s11.c] r10.2) fun r12 =>
 ob (r12.1.tup? 3) fun l13 =>
 ob ((l13[0]?).bind (Value.int? .i64)) fun x14 =>
 ob ((l13[1]?).bind (Value.int? .i64)) fun x15 =>
 ob ((l13[2]?).bind (Value.int? .i64)) fun x16 =>
 ob (acall P T k lo F.zoetropelaw23_stripes [.bool true, .int .u8 x1, .int .u8 x2] r12.2) fun r17 =>
 ob ((some r17.1).bind Value.slc?) fun s18 =>
 ob (acall P T k lo F.cdef_Direction [.slice s18.a s18.n s18.c] r17.2) fun r19 =>
 ob (r19.1.tup? 3) fun l20 =>
 ob ((l20[0]?).bind (Value.int? .i64)) fun x21 =>
 ob ((l20[1]?).bind (Value.int? .i64)) fun x22 =>
 ob ((l20[2]?).bind (Value.int? .i64)) fun x23 =>
 bb (x16 == 0)
 (bb (x23 == 0)
 (bb (x14 == 2)
 (bb (x21 == 6)
 (bb (x15 == x22)
 (some (.ret (.bool (decide (x15 > 0))) r19.2))
 (some (.ret (.bool false) r19.2)))
 (some (.ret (.bool false) r19.2)))
 (some (.ret (.bool false) r19.2)))
 (some (.ret (.bool false) r19.2)))
 (some (.ret (.bool false) r19.2)))) := by kernel_rfl
theorem zoetropelaw23_CdefFrames.entry (k lo : Nat) (x1 : Int) (x2 : Int) (A3 : Option Addr) (n4 : Nat) (c5 : Nat) (x6 : Int) (x7 : Int) (A8 : Option Addr) (n9 : Nat) (c10 : Nat) (x11 : Int) (x12 : Int) (A13 : Option Addr) (n14 : Nat) (c15 : Nat) (A16 : Option Addr) (n17 : Nat) (c18 : Nat) (A19 : Option Addr) (n20 : Nat) (c21 : Nat) (b22 : Bool) (x23 : Int) (b24 : Bool) (b25 : Bool) (x26 : Int) (x27 : Int) (x28 : Int) (x29 : Int) (x30 : Int) (x31 : Int) (x32 : Int) (x33 : Int) (x34 : Int) (x35 : Int) (x36 : Int) (x37 : Int) (x38 : Int) (b39 : Bool) (x40 : Int) (x41 : Int) (x42 : Int) (x43 : Int) (x44 : Int) (b45 : Bool) (x46 : Int) (x47 : Int) (A48 : Option Addr) (n49 : Nat) (c50 : Nat) (b51 : Bool) (b52 : Bool) (b53 : Bool) (M : Mem) : entry P T k lo F.zoetropelaw23_CdefFrames [.agg ⟨[.int .i64 x1, .int .i64 x2, .slice A3 n4 c5, .int .i64 x6, .int .i64 x7, .slice A8 n9 c10, .int .i64 x11, .int .i64 x12, .slice A13 n14 c15]⟩, .agg ⟨[.slice A16 n17 c18, .slice A19 n20 c21]⟩, .agg ⟨[.bool b22, .int .i64 x23, .bool b24, .bool b25, .int .i64 x26, .int .i64 x27, .int .i64 x28, .int .i64 x29, .int .i64 x30, .int .i64 x31, .int .i64 x32, .int .i64 x33, .int .i64 x34, .int .i64 x35, .int .i64 x36, .int .i64 x37, .int .i64 x38, .bool b39, .int .i64 x40, .int .i64 x41, .int .i64 x42, .int .i64 x43, .int .i64 x44, .bool b45, .int .i64 x46, .int .i64 x47, .slice A48 n49 c50, .bool b51, .bool b52, .bool b53]⟩] M =
 ob (acall P T k lo F.zoetroperef05_CopyFrame [.agg ⟨[.int .i64 x1, .int .i64 x2, .slice A3 n4 c5, .int .i64 x6, .int .i64 x7, .slice A8 n9 c10, .int .i64 x11, .int .i64 x12, .slice A13 n14 c15]⟩] M) fun r59 =>
 ob ((some r59.1).bind (Value.agg? 9)) fun l60 =>
 ob ((l60[0]?).bind (Value.int? .i64)) fun x61 =>
 ob ((l60[1]?).bind (Value.int? .i64)) fun x62 =>
 ob ((l60[2]?).bind Value.slc?) fun s63 =>
 ob ((l60[3]?).bind (Value.int? .i64)) fun x64 =>
 ob ((l60[4]?).bind (Value.int? .i64)) fun x65 =>
 ob ((l60[5]?).bind Value.slc?) fun s66 =>
 ob ((l60[6]?).bind (Value.int? .i64)) fun x67 =>
 ob ((l60[7]?).bind (Value.int? .i64)) fun x68 =>
 ob ((l60[8]?).bind Value.slc?) fun s69 =>
 ob (Mem.src r59.2 A16 n17 n17) fun l70 =>
 ob (r59.2.app lo 1 1 ⟨none, 0, 0⟩ l70 n17) fun r71 =>
 ob (acall P T k r71.2.length F.zoetroperef00_CopyInts [.slice A19 n20 c21] r71.2) fun r72 =>
 ob ((some r72.1).bind Value.slc?) fun s73 =>
 ob (acall P T k r71.2.length F.cdef_Frame [.agg ⟨[.int .i64 x61, .int .i64 x62, .slice s63.a s63.n s63.c, .int .i64 x64, .int .i64 x65, .slice s66.a s66.n s66.c, .int .i64 x67, .int .i64 x68, .slice s69.a s69.n s69.c]⟩, .slice r71.1.a r71.1.n r71.1.c, .slice s73.a s73.n s73.c, .agg ⟨[.bool b22, .int .i64 x23, .bool b24, .bool b25, .int .i64 x26, .int .i64 x27, .int .i64 x28, .int .i64 x29, .int .i64 x30, .int .i64 x31, .int .i64 x32, .int .i64 x33, .int .i64 x34, .int .i64 x35, .int .i64 x36, .int .i64 x37, .int .i64 x38, .bool b39, .int .i64 x40, .int .i64 x41, .int .i64 x42, .int .i64 x43, .int .i64 x44, .bool b45, .int .i64 x46, .int .i64 x47, .slice A48 n49 c50, .bool b51, .bool b52, .bool b53]⟩] r72.2) fun r74 =>
 ob (r74.1.tup? 2) fun l75 =>
 ob ((l75[0]?).bind (Value.agg? 9)) fun l76 =>
 ob ((l76[0]?).bind (Value.int? .i64)) fun x77 =>
 ob ((l76[1]?).bind (Value.int? .i64)) fun x78 =>
 ob ((l76[2]?).bind Value.slc?) fun s79 =>
 ob ((l76[3]?).bind (Value.int? .i64)) fun x80 =>
 ob ((l76[4]?).bind (Value.int? .i64)) fun x81 =>
 ob ((l76[5]?).bind Value.slc?) fun s82 =>
 ob ((l76[6]?).bind (Value.int? .i64)) fun x83 =>
 ob ((l76[7]?).bind (Value.int? .i64)) fun x84 =>
 ob ((l76[8]?).bind Value.slc?) fun s85 =>
 ob ((l75[1]?).bind (Value.int? .i64)) fun x86 =>
 ob (acall P T k lo F.zoetroperef23_Frame [.agg ⟨[.int .i64 x1, .int .i64 x2, .slice A3 n4 c5, .int .i64 x6, .int .i64 x7, .slice A8 n9 c10, .int .i64 x11, .int .i64 x12, .slice A13 n14 c15]⟩, .slice A16 n17 c18, .slice A19 n20 c21, .agg ⟨[.bool b22, .int .i64 x23, .bool b24, .bool b25, .int .i64 x26, .int .i64 x27, .int .i64 x28, .int .i64 x29, .int .i64 x30, .int .i64 x31, .int .i64 x32, .int .i64 x33, .int .i64 x34, .int .i64 x35, .int .i64 x36, .int .i64 x37, .int .i64 x38, .bool b39, .int .i64 x40, .int .i64 x41, .int .i64 x42, .int .i64 x43, .int .i64 x44, .bool b45, .int .i64 x46, .int .i64 x47, .slice A48 n49 c50, .bool b51, .bool b52, .bool b53]⟩] r74.2) fun r87 =>
 ob (r87.1.tup? 2) fun l88 =>
 ob ((l88[0]?).bind (Value.agg? 9)) fun l89 =>
 ob ((l89[0]?).bind (Value.int? .i64)) fun x90 =>
 ob ((l89[1]?).bind (Value.int? .i64)) fun x91 =>
 ob ((l89[2]?).bind Value.slc?) fun s92 =>
 ob ((l89[3]?).bind (Value.int? .i64)) fun x93 =>
 ob ((l89[4]?).bind (Value.int? .i64)) fun x94 =>
 ob ((l89[5]?).bind Value.slc?) fun s95 =>
 ob ((l89[6]?).bind (Value.int? .i64)) fun x96 =>
 ob ((l89[7]?).bind (Value.int? .i64)) fun x97 =>
 ob ((l89[8]?).bind Value.slc?) fun s98 =>
 ob ((l88[1]?).bind (Value.int? .i64)) fun x99 =>
 bb (x86 != x99)
 (some (.ret (.bool false) r87.2))
 (ob (acall P T k lo F.zoetroperef05_SameFrame [.agg ⟨[.int .i64 x77, .int .i64 x78, .slice s79.a s79.n s79.c, .int .i64 x80, .int .i64 x81, .slice s82.a s82.n s82.c, .int .i64 x83, .int .i64 x84, .slice s85.a s85.n s85.c]⟩, .agg ⟨[.int .i64 x90, .int .i64 x91, .slice s92.a s92.n s92.c, .int .i64 x93, .int .i64 x94, .slice s95.a s95.n s95.c, .int .i64 x96, .int .i64 x97, .slice s98.a s98.n s98.c]⟩] r87.2) fun r100 =>
 ob ((some r100.1).bind Value.bool?) fun b101 =>
 bb (!b101)
 (some (.ret (.bool false) r100.2))
 (some (zoetropelaw23_CdefFrames.c4084 0 x1 x2 A3 n4 c5 x6 x7 A8 n9 c10 x11 x12 A13 n14 c15 x61 x62 s63.a s63.n s63.c x64 x65 s66.a s66.n s66.c x67 x68 s69.a s69.n s69.c x77 x78 s79.a s79.n s79.c x80 x81 s82.a s82.n s82.c x83 x84 s85.a s85.n s85.c r100.2))) := by kernel_rfl
theorem zoetropelaw23_CdefFrames.p4084 (k lo : Nat) (x1 : Int) (x2 : Int) (x3 : Int) (A4 : Option Addr) (n5 : Nat) (c6 : Nat) (x7 : Int) (x8 : Int) (A9 : Option Addr) (n10 : Nat) (c11 : Nat) (x12 : Int) (x13 : Int) (A14 : Option Addr) (n15 : Nat) (c16 : Nat) (x17 : Int) (x18 : Int) (A19 : Option Addr) (n20 : Nat) (c21 : Nat) (x22 : Int) (x23 : Int) (A24 : Option Addr) (n25 : Nat) (c26 : Nat) (x27 : Int) (x28 : Int) (A29 : Option Addr) (n30 : Nat) (c31 : Nat) (x32 : Int) (x33 : Int) (A34 : Option Addr) (n35 : Nat) (c36 : Nat) (x37 : Int) (x38 : Int) (A39 : Option Addr) (n40 : Nat) (c41 : Nat) (x42 : Int) (x43 : Int) (A44 : Option Addr) (n45 : Nat) (c46 : Nat) (M : Mem) : piece P T k lo F.zoetropelaw23_CdefFrames 4084 [.l 3 0, .l 7 0, .l 9 0, .v (.int .i64 x1)] [[.int .i64 x2, .int .i64 x3, .slice A4 n5 c6, .int .i64 x7, .int .i64 x8, .slice A9 n10 c11, .int .i64 x12, .int .i64 x13, .slice A14 n15 c16], [.int .i64 x17, .int .i64 x18, .slice A19 n20 c21, .int .i64 x22, .int .i64 x23, .slice A24 n25 c26, .int .i64 x27, .int .i64 x28, .slice A29 n30 c31], [.int .i64 x32, .int .i64 x33, .slice A34 n35 c36, .int .i64 x37, .int .i64 x38, .slice A39 n40 c41, .int .i64 x42, .int .i64 x43, .slice A44 n45 c46]] M =
 bb (decide (x1 < (n35 : Int)))
 (pb (0 ≤ x1 ∧ x1 < (n35 : Int))
 (ob A34 fun a102 =>
 ob ((M.ld (plus a102 x1.toNat)).bind (Value.int? .u8)) fun x103 =>
 pb (0 ≤ x1 ∧ x1 < (n35 : Int))
 (ob A34 fun a104 =>
 ob (M.st lo (plus a104 x1.toNat) [.int .u8 (xorI .u8 x103 90)]) fun M105 =>
 some (zoetropelaw23_CdefFrames.c4084 (IntKind.i64.wrap (x1 + 1)) x2 x3 A4 n5 c6 x7 x8 A9 n10 c11 x12 x13 A14 n15 c16 x17 x18 A19 n20 c21 x22 x23 A24 n25 c26 x27 x28 A29 n30 c31 x32 x33 A34 n35 c36 x37 x38 A39 n40 c41 x42 x43 A44 n45 c46 M105)) none) none)
 (ob (acall P T k lo F.zoetroperef00_EqBytes [.slice A19 n20 c21, .slice A4 n5 c6] M) fun r106 =>
 ob ((some r106.1).bind Value.bool?) fun b107 =>
 bb b107
 (ob (acall P T k lo F.zoetroperef00_EqBytes [.slice A29 n30 c31, .slice A14 n15 c16] r106.2) fun r108 =>
 ob ((some r108.1).bind Value.bool?) fun b109 =>
 bb b109
 (ob (acall P T k lo F.zoetropelaw23_awake [] r108.2) fun r110 =>
 ob ((some r110.1).bind Value.bool?) fun b111 =>
 some (.ret (.bool b111) r110.2))
 (some (.ret (.bool false) r108.2)))
 (some (.ret (.bool false) r106.2))) := by kernel_rfl
theorem zoetropelaw23_CdefStays.entry (k lo : Nat) (x1 : Int) (x2 : Int) (A3 : Option Addr) (n4 : Nat) (c5 : Nat) (x6 : Int) (x7 : Int) (A8 : Option Addr) (n9 : Nat) (c10 : Nat) (x11 : Int) (x12 : Int) (A13 : Option Addr) (n14 : Nat) (c15 : Nat) (A16 : Option Addr) (n17 : Nat) (c18 : Nat) (A19 : Option Addr) (n20 : Nat) (c21 : Nat) (b22 : Bool) (x23 : Int) (b24 : Bool) (b25 : Bool) (x26 : Int) (x27 : Int) (x28 : Int) (x29 : Int) (x30 : Int) (x31 : Int) (x32 : Int) (x33 : Int) (x34 : Int) (x35 : Int) (x36 : Int) (x37 : Int) (x38 : Int) (b39 : Bool) (x40 : Int) (x41 : Int) (x42 : Int) (x43 : Int) (x44 : Int) (b45 : Bool) (x46 : Int) (x47 : Int) (A48 : Option Addr) (n49 : Nat) (c50 : Nat) (b51 : Bool) (b52 : Bool) (b53 : Bool) (M : Mem) : entry P T k lo F.zoetropelaw23_CdefStays [.agg ⟨[.int .i64 x1, .int .i64 x2, .slice A3 n4 c5, .int .i64 x6, .int .i64 x7, .slice A8 n9 c10, .int .i64 x11, .int .i64 x12, .slice A13 n14 c15]⟩, .agg ⟨[.slice A16 n17 c18, .slice A19 n20 c21]⟩, .agg ⟨[.bool b22, .int .i64 x23, .bool b24, .bool b25, .int .i64 x26, .int .i64 x27, .int .i64 x28, .int .i64 x29, .int .i64 x30, .int .i64 x31, .int .i64 x32, .int .i64 x33, .int .i64 x34, .int .i64 x35, .int .i64 x36, .int .i64 x37, .int .i64 x38, .bool b39, .int .i64 x40, .int .i64 x41, .int .i64 x42, .int .i64 x43, .int .i64 x44, .bool b45, .int .i64 x46, .int .i64 x47, .slice A48 n49 c50, .bool b51, .bool b52, .bool b53]⟩] M =
 ob (acall P T k lo F.zoetropelaw23_awake [] M) fun r59 =>
 ob ((some r59.1).bind Value.bool?) fun b60 =>
 bb (!b60)
 (some (.ret (.bool false) r59.2))
 (ob (acall P T k lo F.cdef_Frame [.agg ⟨[.int .i64 x1, .int .i64 x2, .slice A3 n4 c5, .int .i64 x6, .int .i64 x7, .slice A8 n9 c10, .int .i64 x11, .int .i64 x12, .slice A13 n14 c15]⟩, .slice A16 n17 c18, .slice A19 n20 c21, .agg ⟨[.bool b22, .int .i64 x23, .bool b24, .bool b25, .int .i64 x26, .int .i64 x27, .int .i64 x28, .int .i64 x29, .int .i64 x30, .int .i64 x31, .int .i64 x32, .int .i64 x33, .int .i64 x34, .int .i64 x35, .int .i64 x36, .int .i64 x37, .int .i64 x38, .bool b39, .int .i64 x40, .int .i64 x41, .int .i64 x42, .int .i64 x43, .int .i64 x44, .bool b45, .int .i64 x46, .int .i64 x47, .slice A48 n49 c50, .bool b51, .bool b52, .bool b53]⟩] r59.2) fun r61 =>
 ob (r61.1.tup? 2) fun l62 =>
 ob ((l62[0]?).bind (Value.agg? 9)) fun l63 =>
 ob ((l63[0]?).bind (Value.int? .i64)) fun x64 =>
 ob ((l63[1]?).bind (Value.int? .i64)) fun x65 =>
 ob ((l63[2]?).bind Value.slc?) fun s66 =>
 ob ((l63[3]?).bind (Value.int? .i64)) fun x67 =>
 ob ((l63[4]?).bind (Value.int? .i64)) fun x68 =>
 ob ((l63[5]?).bind Value.slc?) fun s69 =>
 ob ((l63[6]?).bind (Value.int? .i64)) fun x70 =>
 ob ((l63[7]?).bind (Value.int? .i64)) fun x71 =>
 ob ((l63[8]?).bind Value.slc?) fun s72 =>
 ob ((l62[1]?).bind (Value.int? .i64)) fun x73 =>
 bb (x73 != 0)
 (some (.ret (.bool (x73 == 2)) r61.2))
 (some (zoetropelaw23_CdefStays.c1012 x1 0 x1 x2 A3 n4 c5 x6 x7 A8 n9 c10 x11 x12 A13 n14 c15 A16 n17 c18 A19 n20 c21 b22 x23 b24 b25 x26 x27 x28 x29 x30 x31 x32 x33 x34 x35 x36 x37 x38 b39 x40 x41 x42 x43 x44 b45 x46 x47 A48 n49 c50 b51 b52 b53 x64 x65 s66.a s66.n s66.c x67 x68 s69.a s69.n s69.c x70 x71 s72.a s72.n s72.c r61.2))) := by kernel_rfl
theorem zoetropelaw23_CdefStays.p1012 (k lo : Nat) (x1 : Int) (x2 : Int) (x3 : Int) (x4 : Int) (A5 : Option Addr) (n6 : Nat) (c7 : Nat) (x8 : Int) (x9 : Int) (A10 : Option Addr) (n11 : Nat) (c12 : Nat) (x13 : Int) (x14 : Int) (A15 : Option Addr) (n16 : Nat) (c17 : Nat) (A18 : Option Addr) (n19 : Nat) (c20 : Nat) (A21 : Option Addr) (n22 : Nat) (c23 : Nat) (b24 : Bool) (x25 : Int) (b26 : Bool) (b27 : Bool) (x28 : Int) (x29 : Int) (x30 : Int) (x31 : Int) (x32 : Int) (x33 : Int) (x34 : Int) (x35 : Int) (x36 : Int) (x37 : Int) (x38 : Int) (x39 : Int) (x40 : Int) (b41 : Bool) (x42 : Int) (x43 : Int) (x44 : Int) (x45 : Int) (x46 : Int) (b47 : Bool) (x48 : Int) (x49 : Int) (A50 : Option Addr) (n51 : Nat) (c52 : Nat) (b53 : Bool) (b54 : Bool) (b55 : Bool) (x56 : Int) (x57 : Int) (A58 : Option Addr) (n59 : Nat) (c60 : Nat) (x61 : Int) (x62 : Int) (A63 : Option Addr) (n64 : Nat) (c65 : Nat) (x66 : Int) (x67 : Int) (A68 : Option Addr) (n69 : Nat) (c70 : Nat) (M : Mem) : piece P T k lo F.zoetropelaw23_CdefStays 1012 [.l 3 0, .l 4 0, .l 5 0, .l 7 0, .v (.int .i64 x1), .v (.int .i64 x2)] [[.int .i64 x3, .int .i64 x4, .slice A5 n6 c7, .int .i64 x8, .int .i64 x9, .slice A10 n11 c12, .int .i64 x13, .int .i64 x14, .slice A15 n16 c17], [.slice A18 n19 c20, .slice A21 n22 c23], [.bool b24, .int .i64 x25, .bool b26, .bool b27, .int .i64 x28, .int .i64 x29, .int .i64 x30, .int .i64 x31, .int .i64 x32, .int .i64 x33, .int .i64 x34, .int .i64 x35, .int .i64 x36, .int .i64 x37, .int .i64 x38, .int .i64 x39, .int .i64 x40, .bool b41, .int .i64 x42, .int .i64 x43, .int .i64 x44, .int .i64 x45, .int .i64 x46, .bool b47, .int .i64 x48, .int .i64 x49, .slice A50 n51 c52, .bool b53, .bool b54, .bool b55], [.int .i64 x56, .int .i64 x57, .slice A58 n59 c60, .int .i64 x61, .int .i64 x62, .slice A63 n64 c65, .int .i64 x66, .int .i64 x67, .slice A68 n69 c70]] M =
 bb (decide (x2 < (n19 : Int)))
 (bb b47
 (pb (0 ≤ x2 ∧ x2 < (n19 : Int))
 (ob A18 fun a74 =>
 ob ((M.ld (plus a74 x2.toNat)).bind Value.bool?) fun b75 =>
 bb (!b75)
 (some (zoetropelaw23_CdefStays.c4051 x1 x2 x3 x4 A5 n6 c7 x8 x9 A10 n11 c12 x13 x14 A15 n16 c17 A18 n19 c20 A21 n22 c23 b24 x25 b26 b27 x28 x29 x30 x31 x32 x33 x34 x35 x36 x37 x38 x39 x40 b41 x42 x43 x44 x45 x46 b47 x48 x49 A50 n51 c52 b53 b54 b55 x56 x57 A58 n59 c60 x61 x62 A63 n64 c65 x66 x67 A68 n69 c70 M))
 (some (zoetropelaw23_CdefStays.c129612 x1 x2 0 x3 x4 A5 n6 c7 x8 x9 A10 n11 c12 x13 x14 A15 n16 c17 A18 n19 c20 A21 n22 c23 b24 x25 b26 b27 x28 x29 x30 x31 x32 x33 x34 x35 x36 x37 x38 x39 x40 b41 x42 x43 x44 x45 x46 b47 x48 x49 A50 n51 c52 b53 b54 b55 x56 x57 A58 n59 c60 x61 x62 A63 n64 c65 x66 x67 A68 n69 c70 M))) none)
 (some (zoetropelaw23_CdefStays.c129612 x1 x2 0 x3 x4 A5 n6 c7 x8 x9 A10 n11 c12 x13 x14 A15 n16 c17 A18 n19 c20 A21 n22 c23 b24 x25 b26 b27 x28 x29 x30 x31 x32 x33 x34 x35 x36 x37 x38 x39 x40 b41 x42 x43 x44 x45 x46 b47 x48 x49 A50 n51 c52 b53 b54 b55 x56 x57 A58 n59 c60 x61 x62 A63 n64 c65 x66 x67 A68 n69 c70 M)))
 (pb (0 ≤ (n51 : Int) ∧ room ((n51 : Int).toNat) 32)
 (ob (acall P T k lo F.cdef_Frame [.agg ⟨[.int .i64 x3, .int .i64 x4, .slice A5 n6 c7, .int .i64 x8, .int .i64 x9, .slice A10 n11 c12, .int .i64 x13, .int .i64 x14, .slice A15 n16 c17]⟩, .slice A18 n19 c20, .slice A21 n22 c23, .agg ⟨[.bool b24, .int .i64 x25, .bool b26, .bool b27, .int .i64 x28, .int .i64 x29, .int .i64 x30, .int .i64 x31, .int .i64 x32, .int .i64 x33, .int .i64 x34, .int .i64 x35, .int .i64 x36, .int .i64 x37, .int .i64 x38, .int .i64 x39, .int .i64 x40, .bool b41, .int .i64 x42, .int .i64 x43, .int .i64 x44, .int .i64 x45, .int .i64 x46, .bool b47, .int .i64 x48, .int .i64 x49, .slice (some ⟨M.length, 0, none⟩) ((n51 : Int).toNat) ((n51 : Int).toNat), .bool b53, .bool b54, .bool b55]⟩] (M ++ [⟨.fx, zerosL [.int .i64 0, .int .i64 0, .int .i64 0, .int .i64 0] ((n51 : Int).toNat)⟩] : Mem)) fun r76 =>
 ob (r76.1.tup? 2) fun l77 =>
 ob ((l77[0]?).bind (Value.agg? 9)) fun l78 =>
 ob ((l78[0]?).bind (Value.int? .i64)) fun x79 =>
 ob ((l78[1]?).bind (Value.int? .i64)) fun x80 =>
 ob ((l78[2]?).bind Value.slc?) fun s81 =>
 ob ((l78[3]?).bind (Value.int? .i64)) fun x82 =>
 ob ((l78[4]?).bind (Value.int? .i64)) fun x83 =>
 ob ((l78[5]?).bind Value.slc?) fun s84 =>
 ob ((l78[6]?).bind (Value.int? .i64)) fun x85 =>
 ob ((l78[7]?).bind (Value.int? .i64)) fun x86 =>
 ob ((l78[8]?).bind Value.slc?) fun s87 =>
 ob ((l77[1]?).bind (Value.int? .i64)) fun x88 =>
 bb (x88 == 0)
 (ob (acall P T k lo F.zoetropelaw23_alike [.agg ⟨[.int .i64 x79, .int .i64 x80, .slice s81.a s81.n s81.c, .int .i64 x82, .int .i64 x83, .slice s84.a s84.n s84.c, .int .i64 x85, .int .i64 x86, .slice s87.a s87.n s87.c]⟩, .agg ⟨[.int .i64 x3, .int .i64 x4, .slice A5 n6 c7, .int .i64 x8, .int .i64 x9, .slice A10 n11 c12, .int .i64 x13, .int .i64 x14, .slice A15 n16 c17]⟩] r76.2) fun r89 =>
 ob ((some r89.1).bind Value.bool?) fun b90 =>
 some (.ret (.bool b90) r89.2))
 (some (.ret (.bool false) r76.2))) none) := by kernel_rfl
theorem zoetropelaw23_CdefStays.p4051 (k lo : Nat) (x1 : Int) (x2 : Int) (x3 : Int) (x4 : Int) (A5 : Option Addr) (n6 : Nat) (c7 : Nat) (x8 : Int) (x9 : Int) (A10 : Option Addr) (n11 : Nat) (c12 : Nat) (x13 : Int) (x14 : Int) (A15 : Option Addr) (n16 : Nat) (c17 : Nat) (A18 : Option Addr) (n19 : Nat) (c20 : Nat) (A21 : Option Addr) (n22 : Nat) (c23 : Nat) (b24 : Bool) (x25 : Int) (b26 : Bool) (b27 : Bool) (x28 : Int) (x29 : Int) (x30 : Int) (x31 : Int) (x32 : Int) (x33 : Int) (x34 : Int) (x35 : Int) (x36 : Int) (x37 : Int) (x38 : Int) (x39 : Int) (x40 : Int) (b41 : Bool) (x42 : Int) (x43 : Int) (x44 : Int) (x45 : Int) (x46 : Int) (b47 : Bool) (x48 : Int) (x49 : Int) (A50 : Option Addr) (n51 : Nat) (c52 : Nat) (b53 : Bool) (b54 : Bool) (b55 : Bool) (x56 : Int) (x57 : Int) (A58 : Option Addr) (n59 : Nat) (c60 : Nat) (x61 : Int) (x62 : Int) (A63 : Option Addr) (n64 : Nat) (c65 : Nat) (x66 : Int) (x67 : Int) (A68 : Option Addr) (n69 : Nat) (c70 : Nat) (M : Mem) : piece P T k lo F.zoetropelaw23_CdefStays 4051 [.l 3 0, .l 4 0, .l 5 0, .l 7 0, .v (.int .i64 x1), .v (.int .i64 x2)] [[.int .i64 x3, .int .i64 x4, .slice A5 n6 c7, .int .i64 x8, .int .i64 x9, .slice A10 n11 c12, .int .i64 x13, .int .i64 x14, .slice A15 n16 c17], [.slice A18 n19 c20, .slice A21 n22 c23], [.bool b24, .int .i64 x25, .bool b26, .bool b27, .int .i64 x28, .int .i64 x29, .int .i64 x30, .int .i64 x31, .int .i64 x32, .int .i64 x33, .int .i64 x34, .int .i64 x35, .int .i64 x36, .int .i64 x37, .int .i64 x38, .int .i64 x39, .int .i64 x40, .bool b41, .int .i64 x42, .int .i64 x43, .int .i64 x44, .int .i64 x45, .int .i64 x46, .bool b47, .int .i64 x48, .int .i64 x49, .slice A50 n51 c52, .bool b53, .bool b54, .bool b55], [.int .i64 x56, .int .i64 x57, .slice A58 n59 c60, .int .i64 x61, .int .i64 x62, .slice A63 n64 c65, .int .i64 x66, .int .i64 x67, .slice A68 n69 c70]] M =
 some (zoetropelaw23_CdefStays.c1012 x1 (IntKind.i64.wrap (x2 + 1)) x3 x4 A5 n6 c7 x8 x9 A10 n11 c12 x13 x14 A15 n16 c17 A18 n19 c20 A21 n22 c23 b24 x25 b26 b27 x28 x29 x30 x31 x32 x33 x34 x35 x36 x37 x38 x39 x40 b41 x42 x43 x44 x45 x46 b47 x48 x49 A50 n51 c52 b53 b54 b55 x56 x57 A58 n59 c60 x61 x62 A63 n64 c65 x66 x67 A68 n69 c70 M) := by kernel_rfl
theorem zoetropelaw23_CdefStays.p129612 (k lo : Nat) (x1 : Int) (x2 : Int) (x3 : Int) (x4 : Int) (x5 : Int) (A6 : Option Addr) (n7 : Nat) (c8 : Nat) (x9 : Int) (x10 : Int) (A11 : Option Addr) (n12 : Nat) (c13 : Nat) (x14 : Int) (x15 : Int) (A16 : Option Addr) (n17 : Nat) (c18 : Nat) (A19 : Option Addr) (n20 : Nat) (c21 : Nat) (A22 : Option Addr) (n23 : Nat) (c24 : Nat) (b25 : Bool) (x26 : Int) (b27 : Bool) (b28 : Bool) (x29 : Int) (x30 : Int) (x31 : Int) (x32 : Int) (x33 : Int) (x34 : Int) (x35 : Int) (x36 : Int) (x37 : Int) (x38 : Int) (x39 : Int) (x40 : Int) (x41 : Int) (b42 : Bool) (x43 : Int) (x44 : Int) (x45 : Int) (x46 : Int) (x47 : Int) (b48 : Bool) (x49 : Int) (x50 : Int) (A51 : Option Addr) (n52 : Nat) (c53 : Nat) (b54 : Bool) (b55 : Bool) (b56 : Bool) (x57 : Int) (x58 : Int) (A59 : Option Addr) (n60 : Nat) (c61 : Nat) (x62 : Int) (x63 : Int) (A64 : Option Addr) (n65 : Nat) (c66 : Nat) (x67 : Int) (x68 : Int) (A69 : Option Addr) (n70 : Nat) (c71 : Nat) (M : Mem) : piece P T k lo F.zoetropelaw23_CdefStays 129612 [.l 3 0, .l 4 0, .l 5 0, .l 7 0, .v (.int .i64 x1), .v (.int .i64 x2), .v (.int .i64 x3)] [[.int .i64 x4, .int .i64 x5, .slice A6 n7 c8, .int .i64 x9, .int .i64 x10, .slice A11 n12 c13, .int .i64 x14, .int .i64 x15, .slice A16 n17 c18], [.slice A19 n20 c21, .slice A22 n23 c24], [.bool b25, .int .i64 x26, .bool b27, .bool b28, .int .i64 x29, .int .i64 x30, .int .i64 x31, .int .i64 x32, .int .i64 x33, .int .i64 x34, .int .i64 x35, .int .i64 x36, .int .i64 x37, .int .i64 x38, .int .i64 x39, .int .i64 x40, .int .i64 x41, .bool b42, .int .i64 x43, .int .i64 x44, .int .i64 x45, .int .i64 x46, .int .i64 x47, .bool b48, .int .i64 x49, .int .i64 x50, .slice A51 n52 c53, .bool b54, .bool b55, .bool b56], [.int .i64 x57, .int .i64 x58, .slice A59 n60 c61, .int .i64 x62, .int .i64 x63, .slice A64 n65 c66, .int .i64 x67, .int .i64 x68, .slice A69 n70 c71]] M =
 bb (decide (x3 < 3))
 (bb (decide (x3 > 0))
 (some (zoetropelaw23_CdefStays.c4147603 x1 x2 x3 4 x4 x5 A6 n7 c8 x9 x10 A11 n12 c13 x14 x15 A16 n17 c18 A19 n20 c21 A22 n23 c24 b25 x26 b27 b28 x29 x30 x31 x32 x33 x34 x35 x36 x37 x38 x39 x40 x41 b42 x43 x44 x45 x46 x47 b48 x49 x50 A51 n52 c53 b54 b55 b56 x57 x58 A59 n60 c61 x62 x63 A64 n65 c66 x67 x68 A69 n70 c71 M))
 (some (zoetropelaw23_CdefStays.c4147603 x1 x2 x3 8 x4 x5 A6 n7 c8 x9 x10 A11 n12 c13 x14 x15 A16 n17 c18 A19 n20 c21 A22 n23 c24 b25 x26 b27 b28 x29 x30 x31 x32 x33 x34 x35 x36 x37 x38 x39 x40 x41 b42 x43 x44 x45 x46 x47 b48 x49 x50 A51 n52 c53 b54 b55 b56 x57 x58 A59 n60 c61 x62 x63 A64 n65 c66 x67 x68 A69 n70 c71 M)))
 (some (zoetropelaw23_CdefStays.c4051 x1 x2 x4 x5 A6 n7 c8 x9 x10 A11 n12 c13 x14 x15 A16 n17 c18 A19 n20 c21 A22 n23 c24 b25 x26 b27 b28 x29 x30 x31 x32 x33 x34 x35 x36 x37 x38 x39 x40 x41 b42 x43 x44 x45 x46 x47 b48 x49 x50 A51 n52 c53 b54 b55 b56 x57 x58 A59 n60 c61 x62 x63 A64 n65 c66 x67 x68 A69 n70 c71 M)) := by kernel_rfl
theorem zoetropelaw23_CdefStays.p4147603 (k lo : Nat) (x1 : Int) (x2 : Int) (x3 : Int) (x4 : Int) (x5 : Int) (x6 : Int) (A7 : Option Addr) (n8 : Nat) (c9 : Nat) (x10 : Int) (x11 : Int) (A12 : Option Addr) (n13 : Nat) (c14 : Nat) (x15 : Int) (x16 : Int) (A17 : Option Addr) (n18 : Nat) (c19 : Nat) (A20 : Option Addr) (n21 : Nat) (c22 : Nat) (A23 : Option Addr) (n24 : Nat) (c25 : Nat) (b26 : Bool) (x27 : Int) (b28 : Bool) (b29 : Bool) (x30 : Int) (x31 : Int) (x32 : Int) (x33 : Int) (x34 : Int) (x35 : Int) (x36 : Int) (x37 : Int) (x38 : Int) (x39 : Int) (x40 : Int) (x41 : Int) (x42 : Int) (b43 : Bool) (x44 : Int) (x45 : Int) (x46 : Int) (x47 : Int) (x48 : Int) (b49 : Bool) (x50 : Int) (x51 : Int) (A52 : Option Addr) (n53 : Nat) (c54 : Nat) (b55 : Bool) (b56 : Bool) (b57 : Bool) (x58 : Int) (x59 : Int) (A60 : Option Addr) (n61 : Nat) (c62 : Nat) (x63 : Int) (x64 : Int) (A65 : Option Addr) (n66 : Nat) (c67 : Nat) (x68 : Int) (x69 : Int) (A70 : Option Addr) (n71 : Nat) (c72 : Nat) (M : Mem) : piece P T k lo F.zoetropelaw23_CdefStays 4147603 [.l 3 0, .l 4 0, .l 5 0, .l 7 0, .v (.int .i64 x1), .v (.int .i64 x2), .v (.int .i64 x3), .v (.int .i64 x4)] [[.int .i64 x5, .int .i64 x6, .slice A7 n8 c9, .int .i64 x10, .int .i64 x11, .slice A12 n13 c14, .int .i64 x15, .int .i64 x16, .slice A17 n18 c19], [.slice A20 n21 c22, .slice A23 n24 c25], [.bool b26, .int .i64 x27, .bool b28, .bool b29, .int .i64 x30, .int .i64 x31, .int .i64 x32, .int .i64 x33, .int .i64 x34, .int .i64 x35, .int .i64 x36, .int .i64 x37, .int .i64 x38, .int .i64 x39, .int .i64 x40, .int .i64 x41, .int .i64 x42, .bool b43, .int .i64 x44, .int .i64 x45, .int .i64 x46, .int .i64 x47, .int .i64 x48, .bool b49, .int .i64 x50, .int .i64 x51, .slice A52 n53 c54, .bool b55, .bool b56, .bool b57], [.int .i64 x58, .int .i64 x59, .slice A60 n61 c62, .int .i64 x63, .int .i64 x64, .slice A65 n66 c67, .int .i64 x68, .int .i64 x69, .slice A70 n71 c72]] M =
 pb (IntKind.i64.wrap (Int.tdiv x1 8) = 0) none
 (pb (IntKind.i64.wrap (Int.tdiv x1 8) = 0) none
 (pb (0 ≤ x3 ∧ x3 < (3 : Int))
 (ob ((([.int .i64 x5, .int .i64 x6, .slice A7 n8 c9, .int .i64 x10, .int .i64 x11, .slice A12 n13 c14, .int .i64 x15, .int .i64 x16, .slice A17 n18 c19] : List Value)[0 + (x3.toNat * 3) + 0]?).bind (Value.int? .i64)) fun x91 =>
 ob ((([.int .i64 x5, .int .i64 x6, .slice A7 n8 c9, .int .i64 x10, .int .i64 x11, .slice A12 n13 c14, .int .i64 x15, .int .i64 x16, .slice A17 n18 c19] : List Value)[0 + (x3.toNat * 3) + 1]?).bind (Value.int? .i64)) fun x92 =>
 ob ((([.int .i64 x5, .int .i64 x6, .slice A7 n8 c9, .int .i64 x10, .int .i64 x11, .slice A12 n13 c14, .int .i64 x15, .int .i64 x16, .slice A17 n18 c19] : List Value)[0 + (x3.toNat * 3) + 2]?).bind Value.slc?) fun s93 =>
 ob (acall P T k lo F.plane_Cut [.agg ⟨[.int .i64 x91, .int .i64 x92, .slice s93.a s93.n s93.c]⟩, .agg ⟨[.int .i64 (IntKind.i64.wrap ((Int.tmod x2 (IntKind.i64.wrap (Int.tdiv x1 8))) * x4)), .int .i64 (IntKind.i64.wrap ((IntKind.i64.wrap (Int.tdiv x2 (IntKind.i64.wrap (Int.tdiv x1 8)))) * x4)), .int .i64 x4, .int .i64 x4]⟩] M) fun r94 =>
 ob (r94.1.tup? 2) fun l95 =>
 ob ((l95[0]?).bind Value.slc?) fun s96 =>
 ob ((l95[1]?).bind (Value.int? .i64)) fun x97 =>
 pb (0 ≤ x3 ∧ x3 < (3 : Int))
 (ob ((([.int .i64 x58, .int .i64 x59, .slice A60 n61 c62, .int .i64 x63, .int .i64 x64, .slice A65 n66 c67, .int .i64 x68, .int .i64 x69, .slice A70 n71 c72] : List Value)[0 + (x3.toNat * 3) + 0]?).bind (Value.int? .i64)) fun x98 =>
 ob ((([.int .i64 x58, .int .i64 x59, .slice A60 n61 c62, .int .i64 x63, .int .i64 x64, .slice A65 n66 c67, .int .i64 x68, .int .i64 x69, .slice A70 n71 c72] : List Value)[0 + (x3.toNat * 3) + 1]?).bind (Value.int? .i64)) fun x99 =>
 ob ((([.int .i64 x58, .int .i64 x59, .slice A60 n61 c62, .int .i64 x63, .int .i64 x64, .slice A65 n66 c67, .int .i64 x68, .int .i64 x69, .slice A70 n71 c72] : List Value)[0 + (x3.toNat * 3) + 2]?).bind Value.slc?) fun s100 =>
 ob (acall P T k lo F.plane_Cut [.agg ⟨[.int .i64 x98, .int .i64 x99, .slice s100.a s100.n s100.c]⟩, .agg ⟨[.int .i64 (IntKind.i64.wrap ((Int.tmod x2 (IntKind.i64.wrap (Int.tdiv x1 8))) * x4)), .int .i64 (IntKind.i64.wrap ((IntKind.i64.wrap (Int.tdiv x2 (IntKind.i64.wrap (Int.tdiv x1 8)))) * x4)), .int .i64 x4, .int .i64 x4]⟩] r94.2) fun r101 =>
 ob (r101.1.tup? 2) fun l102 =>
 ob ((l102[0]?).bind Value.slc?) fun s103 =>
 ob ((l102[1]?).bind (Value.int? .i64)) fun x104 =>
 bb (x97 != 0)
 (some (.ret (.bool false) r101.2))
 (bb (x104 != 0)
 (some (.ret (.bool false) r101.2))
 (ob (acall P T k lo F.zoetroperef00_EqBytes [.slice s96.a s96.n s96.c, .slice s103.a s103.n s103.c] r101.2) fun r105 =>
 ob ((some r105.1).bind Value.bool?) fun b106 =>
 bb (!b106)
 (some (.ret (.bool false) r105.2))
 (some (zoetropelaw23_CdefStays.c129612 x1 x2 (IntKind.i64.wrap (x3 + 1)) x5 x6 A7 n8 c9 x10 x11 A12 n13 c14 x15 x16 A17 n18 c19 A20 n21 c22 A23 n24 c25 b26 x27 b28 b29 x30 x31 x32 x33 x34 x35 x36 x37 x38 x39 x40 x41 x42 b43 x44 x45 x46 x47 x48 b49 x50 x51 A52 n53 c54 b55 b56 b57 x58 x59 A60 n61 c62 x63 x64 A65 n66 c67 x68 x69 A70 n71 c72 r105.2))))) none) none)) := by kernel_rfl
theorem zoetropelaw23_CdefNames.entry (k lo : Nat) (M : Mem) : entry P T k lo F.zoetropelaw23_CdefNames [] M =
 pb (0 ≤ (64 : Int) ∧ room 64 1)
 (ob (acall P T k lo F.cdef_Direction [.slice (some ⟨M.length, 0, none⟩) 64 64] (M ++ [⟨.fx, zerosL [.int .u8 0] 64⟩] : Mem)) fun r6 =>
 ob (r6.1.tup? 3) fun l7 =>
 ob ((l7[0]?).bind (Value.int? .i64)) fun x8 =>
 ob ((l7[1]?).bind (Value.int? .i64)) fun x9 =>
 ob ((l7[2]?).bind (Value.int? .i64)) fun x10 =>
 pb (0 ≤ (63 : Int) ∧ room 63 1)
 (ob (acall P T k lo F.cdef_Direction [.slice (some ⟨r6.2.length, 0, none⟩) 63 63] (r6.2 ++ [⟨.fx, zerosL [.int .u8 0] 63⟩] : Mem)) fun r11 =>
 ob (r11.1.tup? 3) fun l12 =>
 ob ((l12[0]?).bind (Value.int? .i64)) fun x13 =>
 ob ((l12[1]?).bind (Value.int? .i64)) fun x14 =>
 ob ((l12[2]?).bind (Value.int? .i64)) fun x15 =>
 ob (acall P T k lo F.cdef_Direction [.slice none 0 0] r11.2) fun r16 =>
 ob (r16.1.tup? 3) fun l17 =>
 ob ((l17[0]?).bind (Value.int? .i64)) fun x18 =>
 ob ((l17[1]?).bind (Value.int? .i64)) fun x19 =>
 ob ((l17[2]?).bind (Value.int? .i64)) fun x20 =>
 bb (x8 != 0)
 (some (.ret (.bool false) r16.2))
 (bb (x9 != 0)
 (some (.ret (.bool false) r16.2))
 (bb (x10 != 0)
 (some (.ret (.bool false) r16.2))
 (bb (x15 != 2)
 (some (.ret (.bool false) r16.2))
 (bb (x20 != 2)
 (some (.ret (.bool false) r16.2))
 (ob (acall P T k lo F.cdef_Limit [.int .i64 20, .int .i64 8, .int .i64 3] r16.2) fun r21 =>
 ob ((some r21.1).bind (Value.int? .i64)) fun x22 =>
 bb (x22 != 0)
 (some (.ret (.bool false) r21.2))
 (ob (acall P T k lo F.cdef_Limit [.int .i64 5, .int .i64 0, .int .i64 5] r21.2) fun r23 =>
 ob ((some r23.1).bind (Value.int? .i64)) fun x24 =>
 bb (x24 != 0)
 (some (.ret (.bool false) r23.2))
 (some (zoetropelaw23_CdefNames.c2036 (some ⟨r23.2.length, 0, none⟩) 6 6 0 (r23.2 ++ [⟨.fx, [.int .i64 4611686018427387904, .int .i64 4611686018427387904, .int .i64 4611686018427387904, .int .i64 (-9223372036854775808), .int .i64 4611686018427387904, .int .i64 0, .int .i64 (-9223372036854775808), .int .i64 (-9223372036854775808), .int .i64 (-9223372036854775808), .int .i64 9, .int .i64 4611686018427387904, .int .i64 (-9223372036854775808), .int .i64 (-9), .int .i64 1, .int .i64 4611686018427387904, .int .i64 255, .int .i64 15, .int .i64 6]⟩] : Mem)))))))))) none) none := by kernel_rfl
theorem zoetropelaw23_CdefNames.p2036 (k lo : Nat) (A1 : Option Addr) (n2 : Nat) (c3 : Nat) (x4 : Int) (M : Mem) : piece P T k lo F.zoetropelaw23_CdefNames 2036 [.v (.slice A1 n2 c3), .v (.int .i64 x4)] [] M =
 bb (decide (x4 < (n2 : Int)))
 (ob (acall P T k M.length F.zoetropelaw23_stripes [.bool true, .int .u8 9, .int .u8 200] M) fun r25 =>
 ob ((some r25.1).bind Value.slc?) fun s26 =>
 pb (0 ≤ x4 ∧ x4 < (n2 : Int))
 (ob A1 fun a27 =>
 ob ((if ((plus a27 (x4.toNat * 3)).block) < M.length then r25.2.ld (plus a27 (x4.toNat * 3)) else none).bind (Value.int? .i64)) fun x28 =>
 ob ((if ((plus a27 (x4.toNat * 3)).block) < M.length then r25.2.ld (plus (plus a27 (x4.toNat * 3)) 1) else none).bind (Value.int? .i64)) fun x29 =>
 ob ((if ((plus a27 (x4.toNat * 3)).block) < M.length then r25.2.ld (plus (plus a27 (x4.toNat * 3)) 2) else none).bind (Value.int? .i64)) fun x30 =>
 ob (acall P T k M.length F.zoetropelaw23_CdefDirections [.slice s26.a s26.n s26.c, .agg ⟨[.int .i64 x28, .int .i64 x29, .int .i64 x30]⟩] r25.2) fun r31 =>
 ob ((some r31.1).bind Value.bool?) fun b32 =>
 bb (!b32)
 (some (.ret (.bool false) r31.2))
 (pb (0 ≤ x4 ∧ x4 < (n2 : Int))
 (ob A1 fun a33 =>
 ob ((r31.2.ld (plus a33 (x4.toNat * 3))).bind (Value.int? .i64)) fun x34 =>
 pb (0 ≤ x4 ∧ x4 < (n2 : Int))
 (ob A1 fun a35 =>
 ob ((r31.2.ld (plus (plus a35 (x4.toNat * 3)) 1)).bind (Value.int? .i64)) fun x36 =>
 pb (0 ≤ x4 ∧ x4 < (n2 : Int))
 (ob A1 fun a37 =>
 ob ((r31.2.ld (plus (plus a37 (x4.toNat * 3)) 2)).bind (Value.int? .i64)) fun x38 =>
 ob (acall P T k M.length F.zoetropelaw23_CdefLimits [.int .i64 x34, .int .i64 x36, .int .i64 x38] r31.2) fun r39 =>
 ob ((some r39.1).bind Value.bool?) fun b40 =>
 bb (!b40)
 (some (.ret (.bool false) r39.2))
 (some (zoetropelaw23_CdefNames.c2036 A1 n2 c3 (IntKind.i64.wrap (x4 + 1)) r39.2))) none) none) none)) none)
 (some (zoetropelaw23_CdefNames.c16372 (some ⟨M.length, 0, none⟩) 11 11 0 0 0 5 1 (M ++ [⟨.fx, [.int .i64 2, .int .i64 4, .int .i64 0, .int .i64 3, .int .i64 8, .int .i64 4, .int .i64 0, .int .i64 3, .int .i64 (-1), .int .i64 4, .int .i64 0, .int .i64 3, .int .i64 2, .int .i64 16, .int .i64 0, .int .i64 3, .int .i64 2, .int .i64 (-1), .int .i64 0, .int .i64 3, .int .i64 2, .int .i64 4, .int .i64 5, .int .i64 3, .int .i64 2, .int .i64 4, .int .i64 (-1), .int .i64 3, .int .i64 2, .int .i64 4, .int .i64 4, .int .i64 7, .int .i64 2, .int .i64 4, .int .i64 4, .int .i64 (-1), .int .i64 7, .int .i64 15, .int .i64 4, .int .i64 6, .int .i64 0, .int .i64 1, .int .i64 3, .int .i64 0]⟩] : Mem))) := by kernel_rfl
theorem zoetropelaw23_CdefNames.p16372 (k lo : Nat) (A1 : Option Addr) (n2 : Nat) (c3 : Nat) (x4 : Int) (x5 : Int) (x6 : Int) (x7 : Int) (x8 : Int) (M : Mem) : piece P T k lo F.zoetropelaw23_CdefNames 16372 [.l 12 0, .v (.slice A1 n2 c3), .v (.int .i64 x4)] [[.int .i64 x5, .int .i64 x6, .int .i64 x7, .int .i64 x8]] M =
 bb (decide (x4 < (n2 : Int)))
 (ob (acall P T k M.length F.zoetropelaw23_usual [] M) fun r41 =>
 ob ((some r41.1).bind (Value.agg? 3)) fun l42 =>
 ob ((l42[0]?).bind (Value.int? .i64)) fun x43 =>
 ob ((l42[1]?).bind (Value.int? .i64)) fun x44 =>
 ob ((l42[2]?).bind Value.slc?) fun s45 =>
 pb (0 ≤ x4 ∧ x4 < (n2 : Int))
 (ob A1 fun a46 =>
 ob ((if ((plus a46 (x4.toNat * 4)).block) < M.length then r41.2.ld (plus a46 (x4.toNat * 4)) else none).bind (Value.int? .i64)) fun x47 =>
 ob ((if ((plus a46 (x4.toNat * 4)).block) < M.length then r41.2.ld (plus (plus a46 (x4.toNat * 4)) 1) else none).bind (Value.int? .i64)) fun x48 =>
 ob ((if ((plus a46 (x4.toNat * 4)).block) < M.length then r41.2.ld (plus (plus a46 (x4.toNat * 4)) 2) else none).bind (Value.int? .i64)) fun x49 =>
 ob ((if ((plus a46 (x4.toNat * 4)).block) < M.length then r41.2.ld (plus (plus a46 (x4.toNat * 4)) 3) else none).bind (Value.int? .i64)) fun x50 =>
 ob (acall P T k M.length F.zoetropelaw23_CdefBlocks [.agg ⟨[.int .i64 x43, .int .i64 x44, .slice s45.a s45.n s45.c]⟩, .agg ⟨[.int .i64 x5, .int .i64 x6, .int .i64 x7, .int .i64 x8]⟩, .agg ⟨[.int .i64 x47, .int .i64 x48, .int .i64 x49, .int .i64 x50]⟩] r41.2) fun r51 =>
 ob ((some r51.1).bind Value.bool?) fun b52 =>
 bb (!b52)
 (some (.ret (.bool false) r51.2))
 (some (zoetropelaw23_CdefNames.c16372 A1 n2 c3 (IntKind.i64.wrap (x4 + 1)) x5 x6 x7 x8 r51.2))) none)
 (some (zoetropelaw23_CdefNames.c65524 A1 n2 c3 (some ⟨M.length, 0, none⟩) 7 7 0 (M ++ [⟨.fx, [.int .i64 0, .int .i64 0, .int .i64 6, .int .i64 1, .int .i64 5, .int .i64 0, .int .i64 1, .int .i64 1, .int .i64 (-1), .int .i64 0, .int .i64 1, .int .i64 1, .int .i64 4, .int .i64 0, .int .i64 1, .int .i64 1, .int .i64 0, .int .i64 0, .int .i64 0, .int .i64 0, .int .i64 0, .int .i64 0, .int .i64 65, .int .i64 1, .int .i64 4611686018427387904, .int .i64 0, .int .i64 1, .int .i64 1]⟩] : Mem))) := by kernel_rfl
theorem zoetropelaw23_CdefNames.p65524 (k lo : Nat) (A1 : Option Addr) (n2 : Nat) (c3 : Nat) (A4 : Option Addr) (n5 : Nat) (c6 : Nat) (x7 : Int) (M : Mem) : piece P T k lo F.zoetropelaw23_CdefNames 65524 [.v (.slice A1 n2 c3), .v (.slice A4 n5 c6), .v (.int .i64 x7)] [] M =
 bb (decide (x7 < (n5 : Int)))
 (ob (acall P T k M.length F.zoetropelaw23_usual [] M) fun r53 =>
 ob ((some r53.1).bind (Value.agg? 3)) fun l54 =>
 ob ((l54[0]?).bind (Value.int? .i64)) fun x55 =>
 ob ((l54[1]?).bind (Value.int? .i64)) fun x56 =>
 ob ((l54[2]?).bind Value.slc?) fun s57 =>
 pb (0 ≤ x7 ∧ x7 < (n5 : Int))
 (ob A4 fun a58 =>
 ob ((if ((plus a58 (x7.toNat * 4)).block) < M.length then r53.2.ld (plus a58 (x7.toNat * 4)) else none).bind (Value.int? .i64)) fun x59 =>
 ob ((if ((plus a58 (x7.toNat * 4)).block) < M.length then r53.2.ld (plus (plus a58 (x7.toNat * 4)) 1) else none).bind (Value.int? .i64)) fun x60 =>
 ob ((if ((plus a58 (x7.toNat * 4)).block) < M.length then r53.2.ld (plus (plus a58 (x7.toNat * 4)) 2) else none).bind (Value.int? .i64)) fun x61 =>
 ob ((if ((plus a58 (x7.toNat * 4)).block) < M.length then r53.2.ld (plus (plus a58 (x7.toNat * 4)) 3) else none).bind (Value.int? .i64)) fun x62 =>
 pb (0 ≤ (0 : Int) ∧ (0 : Int) < (n2 : Int))
 (ob A1 fun a63 =>
 ob ((if a63.block < M.length then r53.2.ld a63 else none).bind (Value.int? .i64)) fun x64 =>
 ob ((if a63.block < M.length then r53.2.ld (plus a63 1) else none).bind (Value.int? .i64)) fun x65 =>
 ob ((if a63.block < M.length then r53.2.ld (plus a63 2) else none).bind (Value.int? .i64)) fun x66 =>
 ob ((if a63.block < M.length then r53.2.ld (plus a63 3) else none).bind (Value.int? .i64)) fun x67 =>
 ob (acall P T k M.length F.zoetropelaw23_CdefBlocks [.agg ⟨[.int .i64 x55, .int .i64 x56, .slice s57.a s57.n s57.c]⟩, .agg ⟨[.int .i64 x59, .int .i64 x60, .int .i64 x61, .int .i64 x62]⟩, .agg ⟨[.int .i64 x64, .int .i64 x65, .int .i64 x66, .int .i64 x67]⟩] r53.2) fun r68 =>
 ob ((some r68.1).bind Value.bool?) fun b69 =>
 bb (!b69)
 (some (.ret (.bool false) r68.2))
 (pb (0 ≤ x7 ∧ x7 < (n5 : Int))
 (ob A4 fun a70 =>
 ob ((r68.2.ld (plus a70 (x7.toNat * 4))).bind (Value.int? .i64)) fun x71 =>
 ob ((r68.2.ld (plus (plus a70 (x7.toNat * 4)) 1)).bind (Value.int? .i64)) fun x72 =>
 ob ((r68.2.ld (plus (plus a70 (x7.toNat * 4)) 2)).bind (Value.int? .i64)) fun x73 =>
 ob ((r68.2.ld (plus (plus a70 (x7.toNat * 4)) 3)).bind (Value.int? .i64)) fun x74 =>
 pb (0 ≤ (0 : Int) ∧ (0 : Int) < (n2 : Int))
 (ob A1 fun a75 =>
 ob ((r68.2.ld a75).bind (Value.int? .i64)) fun x76 =>
 ob ((r68.2.ld (plus a75 1)).bind (Value.int? .i64)) fun x77 =>
 ob ((r68.2.ld (plus a75 2)).bind (Value.int? .i64)) fun x78 =>
 ob ((r68.2.ld (plus a75 3)).bind (Value.int? .i64)) fun x79 =>
 ob (acall P T k M.length F.zoetropelaw23_CdefBlocks [.agg ⟨[.int .i64 0, .int .i64 0, .slice none 0 0]⟩, .agg ⟨[.int .i64 x71, .int .i64 x72, .int .i64 x73, .int .i64 x74]⟩, .agg ⟨[.int .i64 x76, .int .i64 x77, .int .i64 x78, .int .i64 x79]⟩] r68.2) fun r80 =>
 ob ((some r80.1).bind Value.bool?) fun b81 =>
 bb (!b81)
 (some (.ret (.bool false) r80.2))
 (some (zoetropelaw23_CdefNames.c65524 A1 n2 c3 A4 n5 c6 (IntKind.i64.wrap (x7 + 1)) r80.2))) none) none)) none) none)
 (ob (acall P T k lo F.plane_Frame [.int .i64 16, .int .i64 16, .int .u8 9] M) fun r82 =>
 ob (r82.1.tup? 2) fun l83 =>
 ob ((l83[0]?).bind (Value.agg? 9)) fun l84 =>
 ob ((l84[0]?).bind (Value.int? .i64)) fun x85 =>
 ob ((l84[1]?).bind (Value.int? .i64)) fun x86 =>
 ob ((l84[2]?).bind Value.slc?) fun s87 =>
 ob ((l84[3]?).bind (Value.int? .i64)) fun x88 =>
 ob ((l84[4]?).bind (Value.int? .i64)) fun x89 =>
 ob ((l84[5]?).bind Value.slc?) fun s90 =>
 ob ((l84[6]?).bind (Value.int? .i64)) fun x91 =>
 ob ((l84[7]?).bind (Value.int? .i64)) fun x92 =>
 ob ((l84[8]?).bind Value.slc?) fun s93 =>
 ob ((l83[1]?).bind (Value.int? .i64)) fun x94 =>
 ob (acall P T k lo F.plane_Frame [.int .i64 18, .int .i64 16, .int .u8 9] r82.2) fun r95 =>
 ob (r95.1.tup? 2) fun l96 =>
 ob ((l96[0]?).bind (Value.agg? 9)) fun l97 =>
 ob ((l97[0]?).bind (Value.int? .i64)) fun x98 =>
 ob ((l97[1]?).bind (Value.int? .i64)) fun x99 =>
 ob ((l97[2]?).bind Value.slc?) fun s100 =>
 ob ((l97[3]?).bind (Value.int? .i64)) fun x101 =>
 ob ((l97[4]?).bind (Value.int? .i64)) fun x102 =>
 ob ((l97[5]?).bind Value.slc?) fun s103 =>
 ob ((l97[6]?).bind (Value.int? .i64)) fun x104 =>
 ob ((l97[7]?).bind (Value.int? .i64)) fun x105 =>
 ob ((l97[8]?).bind Value.slc?) fun s106 =>
 ob ((l96[1]?).bind (Value.int? .i64)) fun x107 =>
 ob (acall P T k lo F.plane_Frame [.int .i64 16, .int .i64 16, .int .u8 9] r95.2) fun r108 =>
 ob (r108.1.tup? 2) fun l109 =>
 ob ((l109[0]?).bind (Value.agg? 9)) fun l110 =>
 ob ((l110[0]?).bind (Value.int? .i64)) fun x111 =>
 ob ((l110[1]?).bind (Value.int? .i64)) fun x112 =>
 ob ((l110[2]?).bind Value.slc?) fun s113 =>
 ob ((l110[3]?).bind (Value.int? .i64)) fun x114 =>
 ob ((l110[4]?).bind (Value.int? .i64)) fun x115 =>
 ob ((l110[5]?).bind Value.slc?) fun s116 =>
 ob ((l110[6]?).bind (Value.int? .i64)) fun x117 =>
 ob ((l110[7]?).bind (Value.int? .i64)) fun x118 =>
 ob ((l110[8]?).bind Value.slc?) fun s119 =>
 ob ((l109[1]?).bind (Value.int? .i64)) fun x120 =>
 some (zoetropelaw23_CdefNames.c1048564 0 x85 x86 s87.a s87.n s87.c x88 x89 s90.a s90.n s90.c x91 x92 s93.a s93.n s93.c x98 x99 s100.a s100.n s100.c x101 x102 s103.a s103.n s103.c x104 x105 s106.a s106.n s106.c x111 x112 s113.a s113.n s113.c x114 x115 s116.a s116.n s116.c x117 x118 s119.a s119.n s119.c r108.2)) := by kernel_rfl
theorem zoetropelaw23_CdefNames.p1048564 (k lo : Nat) (x1 : Int) (x2 : Int) (x3 : Int) (A4 : Option Addr) (n5 : Nat) (c6 : Nat) (x7 : Int) (x8 : Int) (A9 : Option Addr) (n10 : Nat) (c11 : Nat) (x12 : Int) (x13 : Int) (A14 : Option Addr) (n15 : Nat) (c16 : Nat) (x17 : Int) (x18 : Int) (A19 : Option Addr) (n20 : Nat) (c21 : Nat) (x22 : Int) (x23 : Int) (A24 : Option Addr) (n25 : Nat) (c26 : Nat) (x27 : Int) (x28 : Int) (A29 : Option Addr) (n30 : Nat) (c31 : Nat) (x32 : Int) (x33 : Int) (A34 : Option Addr) (n35 : Nat) (c36 : Nat) (x37 : Int) (x38 : Int) (A39 : Option Addr) (n40 : Nat) (c41 : Nat) (x42 : Int) (x43 : Int) (A44 : Option Addr) (n45 : Nat) (c46 : Nat) (M : Mem) : piece P T k lo F.zoetropelaw23_CdefNames 1048564 [.l 17 0, .l 19 0, .l 21 0, .v (.int .i64 x1)] [[.int .i64 x2, .int .i64 x3, .slice A4 n5 c6, .int .i64 x7, .int .i64 x8, .slice A9 n10 c11, .int .i64 x12, .int .i64 x13, .slice A14 n15 c16], [.int .i64 x17, .int .i64 x18, .slice A19 n20 c21, .int .i64 x22, .int .i64 x23, .slice A24 n25 c26, .int .i64 x27, .int .i64 x28, .slice A29 n30 c31], [.int .i64 x32, .int .i64 x33, .slice A34 n35 c36, .int .i64 x37, .int .i64 x38, .slice A39 n40 c41, .int .i64 x42, .int .i64 x43, .slice A44 n45 c46]] M =
 bb (decide (x1 < (n35 : Int)))
 (pb (0 ≤ x1 ∧ x1 < (n35 : Int))
 (ob A34 fun a121 =>
 ob (M.st lo (plus a121 x1.toNat) [.int .u8 (IntKind.u8.wrap (IntKind.i64.wrap ((IntKind.i64.wrap (100 + (Int.tmod (IntKind.i64.wrap (x1 * x1)) 7))) + (IntKind.i64.wrap ((Int.tmod (IntKind.i64.wrap (Int.tdiv x1 16)) 3) * 2)))))]) fun M122 =>
 some (zoetropelaw23_CdefNames.c1048564 (IntKind.i64.wrap (x1 + 1)) x2 x3 A4 n5 c6 x7 x8 A9 n10 c11 x12 x13 A14 n15 c16 x17 x18 A19 n20 c21 x22 x23 A24 n25 c26 x27 x28 A29 n30 c31 x32 x33 A34 n35 c36 x37 x38 A39 n40 c41 x42 x43 A44 n45 c46 M122)) none)
 (some (zoetropelaw23_CdefNames.c2097140 0 x2 x3 A4 n5 c6 x7 x8 A9 n10 c11 x12 x13 A14 n15 c16 x17 x18 A19 n20 c21 x22 x23 A24 n25 c26 x27 x28 A29 n30 c31 x32 x33 A34 n35 c36 x37 x38 A39 n40 c41 x42 x43 A44 n45 c46 M)) := by kernel_rfl
theorem zoetropelaw23_CdefNames.p2097140 (k lo : Nat) (x1 : Int) (x2 : Int) (x3 : Int) (A4 : Option Addr) (n5 : Nat) (c6 : Nat) (x7 : Int) (x8 : Int) (A9 : Option Addr) (n10 : Nat) (c11 : Nat) (x12 : Int) (x13 : Int) (A14 : Option Addr) (n15 : Nat) (c16 : Nat) (x17 : Int) (x18 : Int) (A19 : Option Addr) (n20 : Nat) (c21 : Nat) (x22 : Int) (x23 : Int) (A24 : Option Addr) (n25 : Nat) (c26 : Nat) (x27 : Int) (x28 : Int) (A29 : Option Addr) (n30 : Nat) (c31 : Nat) (x32 : Int) (x33 : Int) (A34 : Option Addr) (n35 : Nat) (c36 : Nat) (x37 : Int) (x38 : Int) (A39 : Option Addr) (n40 : Nat) (c41 : Nat) (x42 : Int) (x43 : Int) (A44 : Option Addr) (n45 : Nat) (c46 : Nat) (M : Mem) : piece P T k lo F.zoetropelaw23_CdefNames 2097140 [.l 17 0, .l 19 0, .l 21 0, .v (.int .i64 x1)] [[.int .i64 x2, .int .i64 x3, .slice A4 n5 c6, .int .i64 x7, .int .i64 x8, .slice A9 n10 c11, .int .i64 x12, .int .i64 x13, .slice A14 n15 c16], [.int .i64 x17, .int .i64 x18, .slice A19 n20 c21, .int .i64 x22, .int .i64 x23, .slice A24 n25 c26, .int .i64 x27, .int .i64 x28, .slice A29 n30 c31], [.int .i64 x32, .int .i64 x33, .slice A34 n35 c36, .int .i64 x37, .int .i64 x38, .slice A39 n40 c41, .int .i64 x42, .int .i64 x43, .slice A44 n45 c46]] M =
 bb (decide (x1 < 16))
 (pb (0 ≤ (4 : Int) ∧ room 4 1)
 (ob (Mem.fill (M ++ [⟨.op 0, []⟩, ⟨.op 0, []⟩, ⟨.op 0, []⟩] : Mem) M.length M.length 1 (zerosL [.bool false] 4)) fun r123 =>
 ob (Mem.fill r123.2 M.length (M.length + 1) 1 ([.int .i64 0])) fun r124 =>
 ob (Mem.fill r124.2 M.length (M.length + 1 + 1) 4 ([.int .i64 x1, .int .i64 (IntKind.i64.wrap (1 + (Int.tmod x1 3))), .int .i64 (IntKind.i64.wrap (Int.tdiv x1 4)), .int .i64 3])) fun r125 =>
 ob (acall P T k M.length F.zoetropelaw23_CdefFrames [.agg ⟨[.int .i64 x32, .int .i64 x33, .slice A34 n35 c36, .int .i64 x37, .int .i64 x38, .slice A39 n40 c41, .int .i64 x42, .int .i64 x43, .slice A44 n45 c46]⟩, .agg ⟨[.slice (some r123.1) 4 4, .slice (some r124.1) 1 1]⟩, .agg ⟨[.bool false, .int .i64 0, .bool false, .bool false, .int .i64 0, .int .i64 0, .int .i64 0, .int .i64 0, .int .i64 0, .int .i64 0, .int .i64 0, .int .i64 0, .int .i64 0, .int .i64 0, .int .i64 0, .int .i64 0, .int .i64 0, .bool false, .int .i64 0, .int .i64 0, .int .i64 0, .int .i64 0, .int .i64 0, .bool true, .int .i64 (IntKind.i64.wrap (3 + (Int.tmod x1 4))), .int .i64 0, .slice (some r125.1) 1 1, .bool false, .bool false, .bool false]⟩] r125.2) fun r126 =>
 ob ((some r126.1).bind Value.bool?) fun b127 =>
 bb (!b127)
 (some (.ret (.bool false) r126.2))
 (some (zoetropelaw23_CdefNames.c2097140 (IntKind.i64.wrap (x1 + 1)) x2 x3 A4 n5 c6 x7 x8 A9 n10 c11 x12 x13 A14 n15 c16 x17 x18 A19 n20 c21 x22 x23 A24 n25 c26 x27 x28 A29 n30 c31 x32 x33 A34 n35 c36 x37 x38 A39 n40 c41 x42 x43 A44 n45 c46 r126.2))) none)
 (pb (0 ≤ (1 : Int) ∧ room 1 32)
 (ob (Mem.fill (M ++ [⟨.op 0, []⟩, ⟨.op 0, []⟩, ⟨.op 0, []⟩, ⟨.op 0, []⟩, ⟨.op 0, []⟩, ⟨.op 0, []⟩, ⟨.op 0, []⟩] : Mem) lo M.length 4 (zerosL [.int .i64 0, .int .i64 0, .int .i64 0, .int .i64 0] 1)) fun r128 =>
 pb (0 ≤ (1 : Int) ∧ room 1 32)
 (ob (Mem.fill r128.2 lo (M.length + 1) 4 (zerosL [.int .i64 0, .int .i64 0, .int .i64 0, .int .i64 0] 1)) fun r129 =>
 pb (0 ≤ (1 : Int) ∧ room 1 32)
 (ob (Mem.fill r129.2 lo (M.length + 1 + 1) 4 (zerosL [.int .i64 0, .int .i64 0, .int .i64 0, .int .i64 0] 1)) fun r130 =>
 pb (0 ≤ (9 : Int) ∧ room 9 32)
 (ob (Mem.fill r130.2 lo (M.length + 1 + 1 + 1) 4 (zerosL [.int .i64 0, .int .i64 0, .int .i64 0, .int .i64 0] 9)) fun r131 =>
 ob (Mem.fill r131.2 lo (M.length + 1 + 1 + 1 + 1) 4 ([.int .i64 16, .int .i64 0, .int .i64 0, .int .i64 0])) fun r132 =>
 ob (Mem.fill r132.2 lo (M.length + 1 + 1 + 1 + 1 + 1) 4 ([.int .i64 0, .int .i64 0, .int .i64 0, .int .i64 4])) fun r133 =>
 ob (Mem.fill r133.2 lo (M.length + 1 + 1 + 1 + 1 + 1 + 1) 4 ([.int .i64 15, .int .i64 3, .int .i64 15, .int .i64 3])) fun r134 =>
 some (zoetropelaw23_CdefNames.c8388596 (some ⟨r134.2.length, 0, none⟩) 9 9 0 x2 x3 A4 n5 c6 x7 x8 A9 n10 c11 x12 x13 A14 n15 c16 x17 x18 A19 n20 c21 x22 x23 A24 n25 c26 x27 x28 A29 n30 c31 (r134.2 ++ [⟨.fx, [.bool false, .int .i64 0, .bool false, .bool false, .int .i64 0, .int .i64 0, .int .i64 0, .int .i64 0, .int .i64 0, .int .i64 0, .int .i64 0, .int .i64 0, .int .i64 0, .int .i64 0, .int .i64 0, .int .i64 0, .int .i64 0, .bool false, .int .i64 0, .int .i64 0, .int .i64 0, .int .i64 0, .int .i64 0, .bool false, .int .i64 0, .int .i64 0, .slice none 0 0, .bool false, .bool false, .bool false, .bool false, .int .i64 0, .bool false, .bool false, .int .i64 0, .int .i64 0, .int .i64 0, .int .i64 0, .int .i64 0, .int .i64 0, .int .i64 0, .int .i64 0, .int .i64 0, .int .i64 0, .int .i64 0, .int .i64 0, .int .i64 0, .bool false, .int .i64 0, .int .i64 0, .int .i64 0, .int .i64 0, .int .i64 0, .bool true, .int .i64 0, .int .i64 0, .slice none 0 0, .bool false, .bool false, .bool false, .bool false, .int .i64 0, .bool false, .bool false, .int .i64 0, .int .i64 0, .int .i64 0, .int .i64 0, .int .i64 0, .int .i64 0, .int .i64 0, .int .i64 0, .int .i64 0, .int .i64 0, .int .i64 0, .int .i64 0, .int .i64 0, .bool false, .int .i64 0, .int .i64 0, .int .i64 0, .int .i64 0, .int .i64 0, .bool true, .int .i64 3, .int .i64 0, .slice (some r128.1) 1 1, .bool false, .bool false, .bool false, .bool false, .int .i64 0, .bool false, .bool false, .int .i64 0, .int .i64 0, .int .i64 0, .int .i64 0, .int .i64 0, .int .i64 0, .int .i64 0, .int .i64 0, .int .i64 0, .int .i64 0, .int .i64 0, .int .i64 0, .int .i64 0, .bool false, .int .i64 0, .int .i64 0, .int .i64 0, .int .i64 0, .int .i64 0, .bool true, .int .i64 2, .int .i64 0, .slice (some r129.1) 1 1, .bool false, .bool false, .bool false, .bool false, .int .i64 0, .bool false, .bool false, .int .i64 0, .int .i64 0, .int .i64 0, .int .i64 0, .int .i64 0, .int .i64 0, .int .i64 0, .int .i64 0, .int .i64 0, .int .i64 0, .int .i64 0, .int .i64 0, .int .i64 0, .bool false, .int .i64 0, .int .i64 0, .int .i64 0, .int .i64 0, .int .i64 0, .bool true, .int .i64 7, .int .i64 0, .slice (some r130.1) 1 1, .bool false, .bool false, .bool false, .bool false, .int .i64 0, .bool false, .bool false, .int .i64 0, .int .i64 0, .int .i64 0, .int .i64 0, .int .i64 0, .int .i64 0, .int .i64 0, .int .i64 0, .int .i64 0, .int .i64 0, .int .i64 0, .int .i64 0, .int .i64 0, .bool false, .int .i64 0, .int .i64 0, .int .i64 0, .int .i64 0, .int .i64 0, .bool true, .int .i64 6, .int .i64 0, .slice (some r131.1) 9 9, .bool false, .bool false, .bool false, .bool false, .int .i64 0, .bool false, .bool false, .int .i64 0, .int .i64 0, .int .i64 0, .int .i64 0, .int .i64 0, .int .i64 0, .int .i64 0, .int .i64 0, .int .i64 0, .int .i64 0, .int .i64 0, .int .i64 0, .int .i64 0, .bool false, .int .i64 0, .int .i64 0, .int .i64 0, .int .i64 0, .int .i64 0, .bool true, .int .i64 6, .int .i64 0, .slice (some r132.1) 1 1, .bool false, .bool false, .bool false, .bool false, .int .i64 0, .bool false, .bool false, .int .i64 0, .int .i64 0, .int .i64 0, .int .i64 0, .int .i64 0, .int .i64 0, .int .i64 0, .int .i64 0, .int .i64 0, .int .i64 0, .int .i64 0, .int .i64 0, .int .i64 0, .bool false, .int .i64 0, .int .i64 0, .int .i64 0, .int .i64 0, .int .i64 0, .bool true, .int .i64 6, .int .i64 0, .slice (some r133.1) 1 1, .bool false, .bool false, .bool false, .bool false, .int .i64 0, .bool false, .bool false, .int .i64 0, .int .i64 0, .int .i64 0, .int .i64 0, .int .i64 0, .int .i64 0, .int .i64 0, .int .i64 0, .int .i64 0, .int .i64 0, .int .i64 0, .int .i64 0, .int .i64 0, .bool false, .int .i64 0, .int .i64 0, .int .i64 0, .int .i64 0, .int .i64 0, .bool true, .int .i64 6, .int .i64 0, .slice (some r134.1) 1 1, .bool false, .bool false, .bool false]⟩] : Mem))) none) none) none) none) := by kernel_rfl
theorem zoetropelaw23_CdefNames.p8388596 (k lo : Nat) (A1 : Option Addr) (n2 : Nat) (c3 : Nat) (x4 : Int) (x5 : Int) (x6 : Int) (A7 : Option Addr) (n8 : Nat) (c9 : Nat) (x10 : Int) (x11 : Int) (A12 : Option Addr) (n13 : Nat) (c14 : Nat) (x15 : Int) (x16 : Int) (A17 : Option Addr) (n18 : Nat) (c19 : Nat) (x20 : Int) (x21 : Int) (A22 : Option Addr) (n23 : Nat) (c24 : Nat) (x25 : Int) (x26 : Int) (A27 : Option Addr) (n28 : Nat) (c29 : Nat) (x30 : Int) (x31 : Int) (A32 : Option Addr) (n33 : Nat) (c34 : Nat) (M : Mem) : piece P T k lo F.zoetropelaw23_CdefNames 8388596 [.l 17 0, .l 19 0, .v (.slice A1 n2 c3), .v (.int .i64 x4)] [[.int .i64 x5, .int .i64 x6, .slice A7 n8 c9, .int .i64 x10, .int .i64 x11, .slice A12 n13 c14, .int .i64 x15, .int .i64 x16, .slice A17 n18 c19], [.int .i64 x20, .int .i64 x21, .slice A22 n23 c24, .int .i64 x25, .int .i64 x26, .slice A27 n28 c29, .int .i64 x30, .int .i64 x31, .slice A32 n33 c34]] M =
 bb (decide (x4 < (n2 : Int)))
 (pb (0 ≤ (4 : Int) ∧ room 4 1)
 (ob (Mem.fill (M ++ [⟨.op 0, []⟩, ⟨.op 0, []⟩, ⟨.op 0, []⟩, ⟨.op 0, []⟩, ⟨.op 0, []⟩, ⟨.op 0, []⟩, ⟨.op 0, []⟩, ⟨.op 0, []⟩] : Mem) M.length M.length 1 (zerosL [.bool false] 4)) fun r135 =>
 ob (Mem.fill r135.2 M.length (M.length + 1) 1 ([.int .i64 0])) fun r136 =>
 pb (0 ≤ x4 ∧ x4 < (n2 : Int))
 (ob A1 fun a137 =>
 ob ((if ((plus a137 (x4.toNat * 30)).block) < M.length then r136.2.ld (plus a137 (x4.toNat * 30)) else none).bind Value.bool?) fun b138 =>
 ob ((if ((plus a137 (x4.toNat * 30)).block) < M.length then r136.2.ld (plus (plus a137 (x4.toNat * 30)) 1) else none).bind (Value.int? .i64)) fun x139 =>
 ob ((if ((plus a137 (x4.toNat * 30)).block) < M.length then r136.2.ld (plus (plus a137 (x4.toNat * 30)) 2) else none).bind Value.bool?) fun b140 =>
 ob ((if ((plus a137 (x4.toNat * 30)).block) < M.length then r136.2.ld (plus (plus a137 (x4.toNat * 30)) 3) else none).bind Value.bool?) fun b141 =>
 ob ((if ((plus a137 (x4.toNat * 30)).block) < M.length then r136.2.ld (plus (plus a137 (x4.toNat * 30)) 4) else none).bind (Value.int? .i64)) fun x142 =>
 ob ((if ((plus a137 (x4.toNat * 30)).block) < M.length then r136.2.ld (plus (plus a137 (x4.toNat * 30)) 5) else none).bind (Value.int? .i64)) fun x143 =>
 ob ((if ((plus a137 (x4.toNat * 30)).block) < M.length then r136.2.ld (plus (plus a137 (x4.toNat * 30)) 6) else none).bind (Value.int? .i64)) fun x144 =>
 ob ((if ((plus a137 (x4.toNat * 30)).block) < M.length then r136.2.ld (plus (plus a137 (x4.toNat * 30)) 7) else none).bind (Value.int? .i64)) fun x145 =>
 ob ((if ((plus a137 (x4.toNat * 30)).block) < M.length then r136.2.ld (plus (plus a137 (x4.toNat * 30)) 8) else none).bind (Value.int? .i64)) fun x146 =>
 ob ((if ((plus a137 (x4.toNat * 30)).block) < M.length then r136.2.ld (plus (plus a137 (x4.toNat * 30)) 9) else none).bind (Value.int? .i64)) fun x147 =>
 ob ((if ((plus a137 (x4.toNat * 30)).block) < M.length then r136.2.ld (plus (plus a137 (x4.toNat * 30)) 10) else none).bind (Value.int? .i64)) fun x148 =>
 ob ((if ((plus a137 (x4.toNat * 30)).block) < M.length then r136.2.ld (plus (plus a137 (x4.toNat * 30)) 11) else none).bind (Value.int? .i64)) fun x149 =>
 ob ((if ((plus a137 (x4.toNat * 30)).block) < M.length then r136.2.ld (plus (plus a137 (x4.toNat * 30)) 12) else none).bind (Value.int? .i64)) fun x150 =>
 ob ((if ((plus a137 (x4.toNat * 30)).block) < M.length then r136.2.ld (plus (plus a137 (x4.toNat * 30)) 13) else none).bind (Value.int? .i64)) fun x151 =>
 ob ((if ((plus a137 (x4.toNat * 30)).block) < M.length then r136.2.ld (plus (plus a137 (x4.toNat * 30)) 14) else none).bind (Value.int? .i64)) fun x152 =>
 ob ((if ((plus a137 (x4.toNat * 30)).block) < M.length then r136.2.ld (plus (plus a137 (x4.toNat * 30)) 15) else none).bind (Value.int? .i64)) fun x153 =>
 ob ((if ((plus a137 (x4.toNat * 30)).block) < M.length then r136.2.ld (plus (plus a137 (x4.toNat * 30)) 16) else none).bind (Value.int? .i64)) fun x154 =>
 ob ((if ((plus a137 (x4.toNat * 30)).block) < M.length then r136.2.ld (plus (plus a137 (x4.toNat * 30)) 17) else none).bind Value.bool?) fun b155 =>
 ob ((if ((plus a137 (x4.toNat * 30)).block) < M.length then r136.2.ld (plus (plus a137 (x4.toNat * 30)) 18) else none).bind (Value.int? .i64)) fun x156 =>
 ob ((if ((plus a137 (x4.toNat * 30)).block) < M.length then r136.2.ld (plus (plus a137 (x4.toNat * 30)) 19) else none).bind (Value.int? .i64)) fun x157 =>
 ob ((if ((plus a137 (x4.toNat * 30)).block) < M.length then r136.2.ld (plus (plus a137 (x4.toNat * 30)) 20) else none).bind (Value.int? .i64)) fun x158 =>
 ob ((if ((plus a137 (x4.toNat * 30)).block) < M.length then r136.2.ld (plus (plus a137 (x4.toNat * 30)) 21) else none).bind (Value.int? .i64)) fun x159 =>
 ob ((if ((plus a137 (x4.toNat * 30)).block) < M.length then r136.2.ld (plus (plus a137 (x4.toNat * 30)) 22) else none).bind (Value.int? .i64)) fun x160 =>
 ob ((if ((plus a137 (x4.toNat * 30)).block) < M.length then r136.2.ld (plus (plus a137 (x4.toNat * 30)) 23) else none).bind Value.bool?) fun b161 =>
 ob ((if ((plus a137 (x4.toNat * 30)).block) < M.length then r136.2.ld (plus (plus a137 (x4.toNat * 30)) 24) else none).bind (Value.int? .i64)) fun x162 =>
 ob ((if ((plus a137 (x4.toNat * 30)).block) < M.length then r136.2.ld (plus (plus a137 (x4.toNat * 30)) 25) else none).bind (Value.int? .i64)) fun x163 =>
 ob ((if ((plus a137 (x4.toNat * 30)).block) < M.length then r136.2.ld (plus (plus a137 (x4.toNat * 30)) 26) else none).bind Value.slc?) fun s164 =>
 ob ((if ((plus a137 (x4.toNat * 30)).block) < M.length then r136.2.ld (plus (plus a137 (x4.toNat * 30)) 27) else none).bind Value.bool?) fun b165 =>
 ob ((if ((plus a137 (x4.toNat * 30)).block) < M.length then r136.2.ld (plus (plus a137 (x4.toNat * 30)) 28) else none).bind Value.bool?) fun b166 =>
 ob ((if ((plus a137 (x4.toNat * 30)).block) < M.length then r136.2.ld (plus (plus a137 (x4.toNat * 30)) 29) else none).bind Value.bool?) fun b167 =>
 ob (acall P T k M.length F.zoetropelaw23_CdefFrames [.agg ⟨[.int .i64 x5, .int .i64 x6, .slice A7 n8 c9, .int .i64 x10, .int .i64 x11, .slice A12 n13 c14, .int .i64 x15, .int .i64 x16, .slice A17 n18 c19]⟩, .agg ⟨[.slice (some r135.1) 4 4, .slice (some r136.1) 1 1]⟩, .agg ⟨[.bool b138, .int .i64 x139, .bool b140, .bool b141, .int .i64 x142, .int .i64 x143, .int .i64 x144, .int .i64 x145, .int .i64 x146, .int .i64 x147, .int .i64 x148, .int .i64 x149, .int .i64 x150, .int .i64 x151, .int .i64 x152, .int .i64 x153, .int .i64 x154, .bool b155, .int .i64 x156, .int .i64 x157, .int .i64 x158, .int .i64 x159, .int .i64 x160, .bool b161, .int .i64 x162, .int .i64 x163, .slice s164.a s164.n s164.c, .bool b165, .bool b166, .bool b167]⟩] r136.2) fun r168 =>
 ob ((some r168.1).bind Value.bool?) fun b169 =>
 bb (!b169)
 (some (.ret (.bool false) r168.2))
 (pb (0 ≤ (4 : Int) ∧ room 4 1)
 (ob (Mem.fill r168.2 M.length (M.length + 1 + 1) 1 (zerosL [.bool false] 4)) fun r170 =>
 ob (Mem.fill r170.2 M.length (M.length + 1 + 1 + 1) 1 ([.int .i64 1])) fun r171 =>
 pb (0 ≤ x4 ∧ x4 < (n2 : Int))
 (ob A1 fun a172 =>
 ob ((if ((plus a172 (x4.toNat * 30)).block) < M.length then r171.2.ld (plus a172 (x4.toNat * 30)) else none).bind Value.bool?) fun b173 =>
 ob ((if ((plus a172 (x4.toNat * 30)).block) < M.length then r171.2.ld (plus (plus a172 (x4.toNat * 30)) 1) else none).bind (Value.int? .i64)) fun x174 =>
 ob ((if ((plus a172 (x4.toNat * 30)).block) < M.length then r171.2.ld (plus (plus a172 (x4.toNat * 30)) 2) else none).bind Value.bool?) fun b175 =>
 ob ((if ((plus a172 (x4.toNat * 30)).block) < M.length then r171.2.ld (plus (plus a172 (x4.toNat * 30)) 3) else none).bind Value.bool?) fun b176 =>
 ob ((if ((plus a172 (x4.toNat * 30)).block) < M.length then r171.2.ld (plus (plus a172 (x4.toNat * 30)) 4) else none).bind (Value.int? .i64)) fun x177 =>
 ob ((if ((plus a172 (x4.toNat * 30)).block) < M.length then r171.2.ld (plus (plus a172 (x4.toNat * 30)) 5) else none).bind (Value.int? .i64)) fun x178 =>
 ob ((if ((plus a172 (x4.toNat * 30)).block) < M.length then r171.2.ld (plus (plus a172 (x4.toNat * 30)) 6) else none).bind (Value.int? .i64)) fun x179 =>
 ob ((if ((plus a172 (x4.toNat * 30)).block) < M.length then r171.2.ld (plus (plus a172 (x4.toNat * 30)) 7) else none).bind (Value.int? .i64)) fun x180 =>
 ob ((if ((plus a172 (x4.toNat * 30)).block) < M.length then r171.2.ld (plus (plus a172 (x4.toNat * 30)) 8) else none).bind (Value.int? .i64)) fun x181 =>
 ob ((if ((plus a172 (x4.toNat * 30)).block) < M.length then r171.2.ld (plus (plus a172 (x4.toNat * 30)) 9) else none).bind (Value.int? .i64)) fun x182 =>
 ob ((if ((plus a172 (x4.toNat * 30)).block) < M.length then r171.2.ld (plus (plus a172 (x4.toNat * 30)) 10) else none).bind (Value.int? .i64)) fun x183 =>
 ob ((if ((plus a172 (x4.toNat * 30)).block) < M.length then r171.2.ld (plus (plus a172 (x4.toNat * 30)) 11) else none).bind (Value.int? .i64)) fun x184 =>
 ob ((if ((plus a172 (x4.toNat * 30)).block) < M.length then r171.2.ld (plus (plus a172 (x4.toNat * 30)) 12) else none).bind (Value.int? .i64)) fun x185 =>
 ob ((if ((plus a172 (x4.toNat * 30)).block) < M.length then r171.2.ld (plus (plus a172 (x4.toNat * 30)) 13) else none).bind (Value.int? .i64)) fun x186 =>
 ob ((if ((plus a172 (x4.toNat * 30)).block) < M.length then r171.2.ld (plus (plus a172 (x4.toNat * 30)) 14) else none).bind (Value.int? .i64)) fun x187 =>
 ob ((if ((plus a172 (x4.toNat * 30)).block) < M.length then r171.2.ld (plus (plus a172 (x4.toNat * 30)) 15) else none).bind (Value.int? .i64)) fun x188 =>
 ob ((if ((plus a172 (x4.toNat * 30)).block) < M.length then r171.2.ld (plus (plus a172 (x4.toNat * 30)) 16) else none).bind (Value.int? .i64)) fun x189 =>
 ob ((if ((plus a172 (x4.toNat * 30)).block) < M.length then r171.2.ld (plus (plus a172 (x4.toNat * 30)) 17) else none).bind Value.bool?) fun b190 =>
 ob ((if ((plus a172 (x4.toNat * 30)).block) < M.length then r171.2.ld (plus (plus a172 (x4.toNat * 30)) 18) else none).bind (Value.int? .i64)) fun x191 =>
 ob ((if ((plus a172 (x4.toNat * 30)).block) < M.length then r171.2.ld (plus (plus a172 (x4.toNat * 30)) 19) else none).bind (Value.int? .i64)) fun x192 =>
 ob ((if ((plus a172 (x4.toNat * 30)).block) < M.length then r171.2.ld (plus (plus a172 (x4.toNat * 30)) 20) else none).bind (Value.int? .i64)) fun x193 =>
 ob ((if ((plus a172 (x4.toNat * 30)).block) < M.length then r171.2.ld (plus (plus a172 (x4.toNat * 30)) 21) else none).bind (Value.int? .i64)) fun x194 =>
 ob ((if ((plus a172 (x4.toNat * 30)).block) < M.length then r171.2.ld (plus (plus a172 (x4.toNat * 30)) 22) else none).bind (Value.int? .i64)) fun x195 =>
 ob ((if ((plus a172 (x4.toNat * 30)).block) < M.length then r171.2.ld (plus (plus a172 (x4.toNat * 30)) 23) else none).bind Value.bool?) fun b196 =>
 ob ((if ((plus a172 (x4.toNat * 30)).block) < M.length then r171.2.ld (plus (plus a172 (x4.toNat * 30)) 24) else none).bind (Value.int? .i64)) fun x197 =>
 ob ((if ((plus a172 (x4.toNat * 30)).block) < M.length then r171.2.ld (plus (plus a172 (x4.toNat * 30)) 25) else none).bind (Value.int? .i64)) fun x198 =>
 ob ((if ((plus a172 (x4.toNat * 30)).block) < M.length then r171.2.ld (plus (plus a172 (x4.toNat * 30)) 26) else none).bind Value.slc?) fun s199 =>
 ob ((if ((plus a172 (x4.toNat * 30)).block) < M.length then r171.2.ld (plus (plus a172 (x4.toNat * 30)) 27) else none).bind Value.bool?) fun b200 =>
 ob ((if ((plus a172 (x4.toNat * 30)).block) < M.length then r171.2.ld (plus (plus a172 (x4.toNat * 30)) 28) else none).bind Value.bool?) fun b201 =>
 ob ((if ((plus a172 (x4.toNat * 30)).block) < M.length then r171.2.ld (plus (plus a172 (x4.toNat * 30)) 29) else none).bind Value.bool?) fun b202 =>
 ob (acall P T k M.length F.zoetropelaw23_CdefFrames [.agg ⟨[.int .i64 x5, .int .i64 x6, .slice A7 n8 c9, .int .i64 x10, .int .i64 x11, .slice A12 n13 c14, .int .i64 x15, .int .i64 x16, .slice A17 n18 c19]⟩, .agg ⟨[.slice (some r170.1) 4 4, .slice (some r171.1) 1 1]⟩, .agg ⟨[.bool b173, .int .i64 x174, .bool b175, .bool b176, .int .i64 x177, .int .i64 x178, .int .i64 x179, .int .i64 x180, .int .i64 x181, .int .i64 x182, .int .i64 x183, .int .i64 x184, .int .i64 x185, .int .i64 x186, .int .i64 x187, .int .i64 x188, .int .i64 x189, .bool b190, .int .i64 x191, .int .i64 x192, .int .i64 x193, .int .i64 x194, .int .i64 x195, .bool b196, .int .i64 x197, .int .i64 x198, .slice s199.a s199.n s199.c, .bool b200, .bool b201, .bool b202]⟩] r171.2) fun r203 =>
 ob ((some r203.1).bind Value.bool?) fun b204 =>
 bb (!b204)
 (some (.ret (.bool false) r203.2))
 (pb (0 ≤ (3 : Int) ∧ room 3 1)
 (ob (Mem.fill r203.2 M.length (M.length + 1 + 1 + 1 + 1) 1 (zerosL [.bool false] 3)) fun r205 =>
 ob (Mem.fill r205.2 M.length (M.length + 1 + 1 + 1 + 1 + 1) 1 ([.int .i64 0])) fun r206 =>
 pb (0 ≤ x4 ∧ x4 < (n2 : Int))
 (ob A1 fun a207 =>
 ob ((if ((plus a207 (x4.toNat * 30)).block) < M.length then r206.2.ld (plus a207 (x4.toNat * 30)) else none).bind Value.bool?) fun b208 =>
 ob ((if ((plus a207 (x4.toNat * 30)).block) < M.length then r206.2.ld (plus (plus a207 (x4.toNat * 30)) 1) else none).bind (Value.int? .i64)) fun x209 =>
 ob ((if ((plus a207 (x4.toNat * 30)).block) < M.length then r206.2.ld (plus (plus a207 (x4.toNat * 30)) 2) else none).bind Value.bool?) fun b210 =>
 ob ((if ((plus a207 (x4.toNat * 30)).block) < M.length then r206.2.ld (plus (plus a207 (x4.toNat * 30)) 3) else none).bind Value.bool?) fun b211 =>
 ob ((if ((plus a207 (x4.toNat * 30)).block) < M.length then r206.2.ld (plus (plus a207 (x4.toNat * 30)) 4) else none).bind (Value.int? .i64)) fun x212 =>
 ob ((if ((plus a207 (x4.toNat * 30)).block) < M.length then r206.2.ld (plus (plus a207 (x4.toNat * 30)) 5) else none).bind (Value.int? .i64)) fun x213 =>
 ob ((if ((plus a207 (x4.toNat * 30)).block) < M.length then r206.2.ld (plus (plus a207 (x4.toNat * 30)) 6) else none).bind (Value.int? .i64)) fun x214 =>
 ob ((if ((plus a207 (x4.toNat * 30)).block) < M.length then r206.2.ld (plus (plus a207 (x4.toNat * 30)) 7) else none).bind (Value.int? .i64)) fun x215 =>
 ob ((if ((plus a207 (x4.toNat * 30)).block) < M.length then r206.2.ld (plus (plus a207 (x4.toNat * 30)) 8) else none).bind (Value.int? .i64)) fun x216 =>
 ob ((if ((plus a207 (x4.toNat * 30)).block) < M.length then r206.2.ld (plus (plus a207 (x4.toNat * 30)) 9) else none).bind (Value.int? .i64)) fun x217 =>
 ob ((if ((plus a207 (x4.toNat * 30)).block) < M.length then r206.2.ld (plus (plus a207 (x4.toNat * 30)) 10) else none).bind (Value.int? .i64)) fun x218 =>
 ob ((if ((plus a207 (x4.toNat * 30)).block) < M.length then r206.2.ld (plus (plus a207 (x4.toNat * 30)) 11) else none).bind (Value.int? .i64)) fun x219 =>
 ob ((if ((plus a207 (x4.toNat * 30)).block) < M.length then r206.2.ld (plus (plus a207 (x4.toNat * 30)) 12) else none).bind (Value.int? .i64)) fun x220 =>
 ob ((if ((plus a207 (x4.toNat * 30)).block) < M.length then r206.2.ld (plus (plus a207 (x4.toNat * 30)) 13) else none).bind (Value.int? .i64)) fun x221 =>
 ob ((if ((plus a207 (x4.toNat * 30)).block) < M.length then r206.2.ld (plus (plus a207 (x4.toNat * 30)) 14) else none).bind (Value.int? .i64)) fun x222 =>
 ob ((if ((plus a207 (x4.toNat * 30)).block) < M.length then r206.2.ld (plus (plus a207 (x4.toNat * 30)) 15) else none).bind (Value.int? .i64)) fun x223 =>
 ob ((if ((plus a207 (x4.toNat * 30)).block) < M.length then r206.2.ld (plus (plus a207 (x4.toNat * 30)) 16) else none).bind (Value.int? .i64)) fun x224 =>
 ob ((if ((plus a207 (x4.toNat * 30)).block) < M.length then r206.2.ld (plus (plus a207 (x4.toNat * 30)) 17) else none).bind Value.bool?) fun b225 =>
 ob ((if ((plus a207 (x4.toNat * 30)).block) < M.length then r206.2.ld (plus (plus a207 (x4.toNat * 30)) 18) else none).bind (Value.int? .i64)) fun x226 =>
 ob ((if ((plus a207 (x4.toNat * 30)).block) < M.length then r206.2.ld (plus (plus a207 (x4.toNat * 30)) 19) else none).bind (Value.int? .i64)) fun x227 =>
 ob ((if ((plus a207 (x4.toNat * 30)).block) < M.length then r206.2.ld (plus (plus a207 (x4.toNat * 30)) 20) else none).bind (Value.int? .i64)) fun x228 =>
 ob ((if ((plus a207 (x4.toNat * 30)).block) < M.length then r206.2.ld (plus (plus a207 (x4.toNat * 30)) 21) else none).bind (Value.int? .i64)) fun x229 =>
 ob ((if ((plus a207 (x4.toNat * 30)).block) < M.length then r206.2.ld (plus (plus a207 (x4.toNat * 30)) 22) else none).bind (Value.int? .i64)) fun x230 =>
 ob ((if ((plus a207 (x4.toNat * 30)).block) < M.length then r206.2.ld (plus (plus a207 (x4.toNat * 30)) 23) else none).bind Value.bool?) fun b231 =>
 ob ((if ((plus a207 (x4.toNat * 30)).block) < M.length then r206.2.ld (plus (plus a207 (x4.toNat * 30)) 24) else none).bind (Value.int? .i64)) fun x232 =>
 ob ((if ((plus a207 (x4.toNat * 30)).block) < M.length then r206.2.ld (plus (plus a207 (x4.toNat * 30)) 25) else none).bind (Value.int? .i64)) fun x233 =>
 ob ((if ((plus a207 (x4.toNat * 30)).block) < M.length then r206.2.ld (plus (plus a207 (x4.toNat * 30)) 26) else none).bind Value.slc?) fun s234 =>
 ob ((if ((plus a207 (x4.toNat * 30)).block) < M.length then r206.2.ld (plus (plus a207 (x4.toNat * 30)) 27) else none).bind Value.bool?) fun b235 =>
 ob ((if ((plus a207 (x4.toNat * 30)).block) < M.length then r206.2.ld (plus (plus a207 (x4.toNat * 30)) 28) else none).bind Value.bool?) fun b236 =>
 ob ((if ((plus a207 (x4.toNat * 30)).block) < M.length then r206.2.ld (plus (plus a207 (x4.toNat * 30)) 29) else none).bind Value.bool?) fun b237 =>
 ob (acall P T k M.length F.zoetropelaw23_CdefFrames [.agg ⟨[.int .i64 x5, .int .i64 x6, .slice A7 n8 c9, .int .i64 x10, .int .i64 x11, .slice A12 n13 c14, .int .i64 x15, .int .i64 x16, .slice A17 n18 c19]⟩, .agg ⟨[.slice (some r205.1) 3 3, .slice (some r206.1) 1 1]⟩, .agg ⟨[.bool b208, .int .i64 x209, .bool b210, .bool b211, .int .i64 x212, .int .i64 x213, .int .i64 x214, .int .i64 x215, .int .i64 x216, .int .i64 x217, .int .i64 x218, .int .i64 x219, .int .i64 x220, .int .i64 x221, .int .i64 x222, .int .i64 x223, .int .i64 x224, .bool b225, .int .i64 x226, .int .i64 x227, .int .i64 x228, .int .i64 x229, .int .i64 x230, .bool b231, .int .i64 x232, .int .i64 x233, .slice s234.a s234.n s234.c, .bool b235, .bool b236, .bool b237]⟩] r206.2) fun r238 =>
 ob ((some r238.1).bind Value.bool?) fun b239 =>
 bb (!b239)
 (some (.ret (.bool false) r238.2))
 (pb (0 ≤ (4 : Int) ∧ room 4 1)
 (pb (0 ≤ x4 ∧ x4 < (n2 : Int))
 (ob A1 fun a240 =>
 ob ((if ((plus a240 (x4.toNat * 30)).block) < M.length then (r238.2 ++ [⟨.fx, zerosL [.bool false] 4⟩] : Mem).ld (plus a240 (x4.toNat * 30)) else none).bind Value.bool?) fun b241 =>
 ob ((if ((plus a240 (x4.toNat * 30)).block) < M.length then (r238.2 ++ [⟨.fx, zerosL [.bool false] 4⟩] : Mem).ld (plus (plus a240 (x4.toNat * 30)) 1) else none).bind (Value.int? .i64)) fun x242 =>
 ob ((if ((plus a240 (x4.toNat * 30)).block) < M.length then (r238.2 ++ [⟨.fx, zerosL [.bool false] 4⟩] : Mem).ld (plus (plus a240 (x4.toNat * 30)) 2) else none).bind Value.bool?) fun b243 =>
 ob ((if ((plus a240 (x4.toNat * 30)).block) < M.length then (r238.2 ++ [⟨.fx, zerosL [.bool false] 4⟩] : Mem).ld (plus (plus a240 (x4.toNat * 30)) 3) else none).bind Value.bool?) fun b244 =>
 ob ((if ((plus a240 (x4.toNat * 30)).block) < M.length then (r238.2 ++ [⟨.fx, zerosL [.bool false] 4⟩] : Mem).ld (plus (plus a240 (x4.toNat * 30)) 4) else none).bind (Value.int? .i64)) fun x245 =>
 ob ((if ((plus a240 (x4.toNat * 30)).block) < M.length then (r238.2 ++ [⟨.fx, zerosL [.bool false] 4⟩] : Mem).ld (plus (plus a240 (x4.toNat * 30)) 5) else none).bind (Value.int? .i64)) fun x246 =>
 ob ((if ((plus a240 (x4.toNat * 30)).block) < M.length then (r238.2 ++ [⟨.fx, zerosL [.bool false] 4⟩] : Mem).ld (plus (plus a240 (x4.toNat * 30)) 6) else none).bind (Value.int? .i64)) fun x247 =>
 ob ((if ((plus a240 (x4.toNat * 30)).block) < M.length then (r238.2 ++ [⟨.fx, zerosL [.bool false] 4⟩] : Mem).ld (plus (plus a240 (x4.toNat * 30)) 7) else none).bind (Value.int? .i64)) fun x248 =>
 ob ((if ((plus a240 (x4.toNat * 30)).block) < M.length then (r238.2 ++ [⟨.fx, zerosL [.bool false] 4⟩] : Mem).ld (plus (plus a240 (x4.toNat * 30)) 8) else none).bind (Value.int? .i64)) fun x249 =>
 ob ((if ((plus a240 (x4.toNat * 30)).block) < M.length then (r238.2 ++ [⟨.fx, zerosL [.bool false] 4⟩] : Mem).ld (plus (plus a240 (x4.toNat * 30)) 9) else none).bind (Value.int? .i64)) fun x250 =>
 ob ((if ((plus a240 (x4.toNat * 30)).block) < M.length then (r238.2 ++ [⟨.fx, zerosL [.bool false] 4⟩] : Mem).ld (plus (plus a240 (x4.toNat * 30)) 10) else none).bind (Value.int? .i64)) fun x251 =>
 ob ((if ((plus a240 (x4.toNat * 30)).block) < M.length then (r238.2 ++ [⟨.fx, zerosL [.bool false] 4⟩] : Mem).ld (plus (plus a240 (x4.toNat * 30)) 11) else none).bind (Value.int? .i64)) fun x252 =>
 ob ((if ((plus a240 (x4.toNat * 30)).block) < M.length then (r238.2 ++ [⟨.fx, zerosL [.bool false] 4⟩] : Mem).ld (plus (plus a240 (x4.toNat * 30)) 12) else none).bind (Value.int? .i64)) fun x253 =>
 ob ((if ((plus a240 (x4.toNat * 30)).block) < M.length then (r238.2 ++ [⟨.fx, zerosL [.bool false] 4⟩] : Mem).ld (plus (plus a240 (x4.toNat * 30)) 13) else none).bind (Value.int? .i64)) fun x254 =>
 ob ((if ((plus a240 (x4.toNat * 30)).block) < M.length then (r238.2 ++ [⟨.fx, zerosL [.bool false] 4⟩] : Mem).ld (plus (plus a240 (x4.toNat * 30)) 14) else none).bind (Value.int? .i64)) fun x255 =>
 ob ((if ((plus a240 (x4.toNat * 30)).block) < M.length then (r238.2 ++ [⟨.fx, zerosL [.bool false] 4⟩] : Mem).ld (plus (plus a240 (x4.toNat * 30)) 15) else none).bind (Value.int? .i64)) fun x256 =>
 ob ((if ((plus a240 (x4.toNat * 30)).block) < M.length then (r238.2 ++ [⟨.fx, zerosL [.bool false] 4⟩] : Mem).ld (plus (plus a240 (x4.toNat * 30)) 16) else none).bind (Value.int? .i64)) fun x257 =>
 ob ((if ((plus a240 (x4.toNat * 30)).block) < M.length then (r238.2 ++ [⟨.fx, zerosL [.bool false] 4⟩] : Mem).ld (plus (plus a240 (x4.toNat * 30)) 17) else none).bind Value.bool?) fun b258 =>
 ob ((if ((plus a240 (x4.toNat * 30)).block) < M.length then (r238.2 ++ [⟨.fx, zerosL [.bool false] 4⟩] : Mem).ld (plus (plus a240 (x4.toNat * 30)) 18) else none).bind (Value.int? .i64)) fun x259 =>
 ob ((if ((plus a240 (x4.toNat * 30)).block) < M.length then (r238.2 ++ [⟨.fx, zerosL [.bool false] 4⟩] : Mem).ld (plus (plus a240 (x4.toNat * 30)) 19) else none).bind (Value.int? .i64)) fun x260 =>
 ob ((if ((plus a240 (x4.toNat * 30)).block) < M.length then (r238.2 ++ [⟨.fx, zerosL [.bool false] 4⟩] : Mem).ld (plus (plus a240 (x4.toNat * 30)) 20) else none).bind (Value.int? .i64)) fun x261 =>
 ob ((if ((plus a240 (x4.toNat * 30)).block) < M.length then (r238.2 ++ [⟨.fx, zerosL [.bool false] 4⟩] : Mem).ld (plus (plus a240 (x4.toNat * 30)) 21) else none).bind (Value.int? .i64)) fun x262 =>
 ob ((if ((plus a240 (x4.toNat * 30)).block) < M.length then (r238.2 ++ [⟨.fx, zerosL [.bool false] 4⟩] : Mem).ld (plus (plus a240 (x4.toNat * 30)) 22) else none).bind (Value.int? .i64)) fun x263 =>
 ob ((if ((plus a240 (x4.toNat * 30)).block) < M.length then (r238.2 ++ [⟨.fx, zerosL [.bool false] 4⟩] : Mem).ld (plus (plus a240 (x4.toNat * 30)) 23) else none).bind Value.bool?) fun b264 =>
 ob ((if ((plus a240 (x4.toNat * 30)).block) < M.length then (r238.2 ++ [⟨.fx, zerosL [.bool false] 4⟩] : Mem).ld (plus (plus a240 (x4.toNat * 30)) 24) else none).bind (Value.int? .i64)) fun x265 =>
 ob ((if ((plus a240 (x4.toNat * 30)).block) < M.length then (r238.2 ++ [⟨.fx, zerosL [.bool false] 4⟩] : Mem).ld (plus (plus a240 (x4.toNat * 30)) 25) else none).bind (Value.int? .i64)) fun x266 =>
 ob ((if ((plus a240 (x4.toNat * 30)).block) < M.length then (r238.2 ++ [⟨.fx, zerosL [.bool false] 4⟩] : Mem).ld (plus (plus a240 (x4.toNat * 30)) 26) else none).bind Value.slc?) fun s267 =>
 ob ((if ((plus a240 (x4.toNat * 30)).block) < M.length then (r238.2 ++ [⟨.fx, zerosL [.bool false] 4⟩] : Mem).ld (plus (plus a240 (x4.toNat * 30)) 27) else none).bind Value.bool?) fun b268 =>
 ob ((if ((plus a240 (x4.toNat * 30)).block) < M.length then (r238.2 ++ [⟨.fx, zerosL [.bool false] 4⟩] : Mem).ld (plus (plus a240 (x4.toNat * 30)) 28) else none).bind Value.bool?) fun b269 =>
 ob ((if ((plus a240 (x4.toNat * 30)).block) < M.length then (r238.2 ++ [⟨.fx, zerosL [.bool false] 4⟩] : Mem).ld (plus (plus a240 (x4.toNat * 30)) 29) else none).bind Value.bool?) fun b270 =>
 ob (acall P T k M.length F.zoetropelaw23_CdefFrames [.agg ⟨[.int .i64 x5, .int .i64 x6, .slice A7 n8 c9, .int .i64 x10, .int .i64 x11, .slice A12 n13 c14, .int .i64 x15, .int .i64 x16, .slice A17 n18 c19]⟩, .agg ⟨[.slice (some ⟨r238.2.length, 0, none⟩) 4 4, .slice none 0 0]⟩, .agg ⟨[.bool b241, .int .i64 x242, .bool b243, .bool b244, .int .i64 x245, .int .i64 x246, .int .i64 x247, .int .i64 x248, .int .i64 x249, .int .i64 x250, .int .i64 x251, .int .i64 x252, .int .i64 x253, .int .i64 x254, .int .i64 x255, .int .i64 x256, .int .i64 x257, .bool b258, .int .i64 x259, .int .i64 x260, .int .i64 x261, .int .i64 x262, .int .i64 x263, .bool b264, .int .i64 x265, .int .i64 x266, .slice s267.a s267.n s267.c, .bool b268, .bool b269, .bool b270]⟩] (r238.2 ++ [⟨.fx, zerosL [.bool false] 4⟩] : Mem)) fun r271 =>
 ob ((some r271.1).bind Value.bool?) fun b272 =>
 bb (!b272)
 (some (.ret (.bool false) r271.2))
 (pb (0 ≤ (4 : Int) ∧ room 4 1)
 (ob (Mem.fill r271.2 M.length (M.length + 1 + 1 + 1 + 1 + 1 + 1) 1 (zerosL [.bool false] 4)) fun r273 =>
 ob (Mem.fill r273.2 M.length (M.length + 1 + 1 + 1 + 1 + 1 + 1 + 1) 1 ([.int .i64 (-1)])) fun r274 =>
 pb (0 ≤ x4 ∧ x4 < (n2 : Int))
 (ob A1 fun a275 =>
 ob ((if ((plus a275 (x4.toNat * 30)).block) < M.length then r274.2.ld (plus a275 (x4.toNat * 30)) else none).bind Value.bool?) fun b276 =>
 ob ((if ((plus a275 (x4.toNat * 30)).block) < M.length then r274.2.ld (plus (plus a275 (x4.toNat * 30)) 1) else none).bind (Value.int? .i64)) fun x277 =>
 ob ((if ((plus a275 (x4.toNat * 30)).block) < M.length then r274.2.ld (plus (plus a275 (x4.toNat * 30)) 2) else none).bind Value.bool?) fun b278 =>
 ob ((if ((plus a275 (x4.toNat * 30)).block) < M.length then r274.2.ld (plus (plus a275 (x4.toNat * 30)) 3) else none).bind Value.bool?) fun b279 =>
 ob ((if ((plus a275 (x4.toNat * 30)).block) < M.length then r274.2.ld (plus (plus a275 (x4.toNat * 30)) 4) else none).bind (Value.int? .i64)) fun x280 =>
 ob ((if ((plus a275 (x4.toNat * 30)).block) < M.length then r274.2.ld (plus (plus a275 (x4.toNat * 30)) 5) else none).bind (Value.int? .i64)) fun x281 =>
 ob ((if ((plus a275 (x4.toNat * 30)).block) < M.length then r274.2.ld (plus (plus a275 (x4.toNat * 30)) 6) else none).bind (Value.int? .i64)) fun x282 =>
 ob ((if ((plus a275 (x4.toNat * 30)).block) < M.length then r274.2.ld (plus (plus a275 (x4.toNat * 30)) 7) else none).bind (Value.int? .i64)) fun x283 =>
 ob ((if ((plus a275 (x4.toNat * 30)).block) < M.length then r274.2.ld (plus (plus a275 (x4.toNat * 30)) 8) else none).bind (Value.int? .i64)) fun x284 =>
 ob ((if ((plus a275 (x4.toNat * 30)).block) < M.length then r274.2.ld (plus (plus a275 (x4.toNat * 30)) 9) else none).bind (Value.int? .i64)) fun x285 =>
 ob ((if ((plus a275 (x4.toNat * 30)).block) < M.length then r274.2.ld (plus (plus a275 (x4.toNat * 30)) 10) else none).bind (Value.int? .i64)) fun x286 =>
 ob ((if ((plus a275 (x4.toNat * 30)).block) < M.length then r274.2.ld (plus (plus a275 (x4.toNat * 30)) 11) else none).bind (Value.int? .i64)) fun x287 =>
 ob ((if ((plus a275 (x4.toNat * 30)).block) < M.length then r274.2.ld (plus (plus a275 (x4.toNat * 30)) 12) else none).bind (Value.int? .i64)) fun x288 =>
 ob ((if ((plus a275 (x4.toNat * 30)).block) < M.length then r274.2.ld (plus (plus a275 (x4.toNat * 30)) 13) else none).bind (Value.int? .i64)) fun x289 =>
 ob ((if ((plus a275 (x4.toNat * 30)).block) < M.length then r274.2.ld (plus (plus a275 (x4.toNat * 30)) 14) else none).bind (Value.int? .i64)) fun x290 =>
 ob ((if ((plus a275 (x4.toNat * 30)).block) < M.length then r274.2.ld (plus (plus a275 (x4.toNat * 30)) 15) else none).bind (Value.int? .i64)) fun x291 =>
 ob ((if ((plus a275 (x4.toNat * 30)).block) < M.length then r274.2.ld (plus (plus a275 (x4.toNat * 30)) 16) else none).bind (Value.int? .i64)) fun x292 =>
 ob ((if ((plus a275 (x4.toNat * 30)).block) < M.length then r274.2.ld (plus (plus a275 (x4.toNat * 30)) 17) else none).bind Value.bool?) fun b293 =>
 ob ((if ((plus a275 (x4.toNat * 30)).block) < M.length then r274.2.ld (plus (plus a275 (x4.toNat * 30)) 18) else none).bind (Value.int? .i64)) fun x294 =>
 ob ((if ((plus a275 (x4.toNat * 30)).block) < M.length then r274.2.ld (plus (plus a275 (x4.toNat * 30)) 19) else none).bind (Value.int? .i64)) fun x295 =>
 ob ((if ((plus a275 (x4.toNat * 30)).block) < M.length then r274.2.ld (plus (plus a275 (x4.toNat * 30)) 20) else none).bind (Value.int? .i64)) fun x296 =>
 ob ((if ((plus a275 (x4.toNat * 30)).block) < M.length then r274.2.ld (plus (plus a275 (x4.toNat * 30)) 21) else none).bind (Value.int? .i64)) fun x297 =>
 ob ((if ((plus a275 (x4.toNat * 30)).block) < M.length then r274.2.ld (plus (plus a275 (x4.toNat * 30)) 22) else none).bind (Value.int? .i64)) fun x298 =>
 ob ((if ((plus a275 (x4.toNat * 30)).block) < M.length then r274.2.ld (plus (plus a275 (x4.toNat * 30)) 23) else none).bind Value.bool?) fun b299 =>
 ob ((if ((plus a275 (x4.toNat * 30)).block) < M.length then r274.2.ld (plus (plus a275 (x4.toNat * 30)) 24) else none).bind (Value.int? .i64)) fun x300 =>
 ob ((if ((plus a275 (x4.toNat * 30)).block) < M.length then r274.2.ld (plus (plus a275 (x4.toNat * 30)) 25) else none).bind (Value.int? .i64)) fun x301 =>
 ob ((if ((plus a275 (x4.toNat * 30)).block) < M.length then r274.2.ld (plus (plus a275 (x4.toNat * 30)) 26) else none).bind Value.slc?) fun s302 =>
 ob ((if ((plus a275 (x4.toNat * 30)).block) < M.length then r274.2.ld (plus (plus a275 (x4.toNat * 30)) 27) else none).bind Value.bool?) fun b303 =>
 ob ((if ((plus a275 (x4.toNat * 30)).block) < M.length then r274.2.ld (plus (plus a275 (x4.toNat * 30)) 28) else none).bind Value.bool?) fun b304 =>
 ob ((if ((plus a275 (x4.toNat * 30)).block) < M.length then r274.2.ld (plus (plus a275 (x4.toNat * 30)) 29) else none).bind Value.bool?) fun b305 =>
 ob (acall P T k M.length F.zoetropelaw23_CdefFrames [.agg ⟨[.int .i64 x20, .int .i64 x21, .slice A22 n23 c24, .int .i64 x25, .int .i64 x26, .slice A27 n28 c29, .int .i64 x30, .int .i64 x31, .slice A32 n33 c34]⟩, .agg ⟨[.slice (some r273.1) 4 4, .slice (some r274.1) 1 1]⟩, .agg ⟨[.bool b276, .int .i64 x277, .bool b278, .bool b279, .int .i64 x280, .int .i64 x281, .int .i64 x282, .int .i64 x283, .int .i64 x284, .int .i64 x285, .int .i64 x286, .int .i64 x287, .int .i64 x288, .int .i64 x289, .int .i64 x290, .int .i64 x291, .int .i64 x292, .bool b293, .int .i64 x294, .int .i64 x295, .int .i64 x296, .int .i64 x297, .int .i64 x298, .bool b299, .int .i64 x300, .int .i64 x301, .slice s302.a s302.n s302.c, .bool b303, .bool b304, .bool b305]⟩] r274.2) fun r306 =>
 ob ((some r306.1).bind Value.bool?) fun b307 =>
 bb (!b307)
 (some (.ret (.bool false) r306.2))
 (pb (0 ≤ x4 ∧ x4 < (n2 : Int))
 (ob A1 fun a308 =>
 ob ((r306.2.ld (plus a308 (x4.toNat * 30))).bind Value.bool?) fun b309 =>
 ob ((r306.2.ld (plus (plus a308 (x4.toNat * 30)) 1)).bind (Value.int? .i64)) fun x310 =>
 ob ((r306.2.ld (plus (plus a308 (x4.toNat * 30)) 2)).bind Value.bool?) fun b311 =>
 ob ((r306.2.ld (plus (plus a308 (x4.toNat * 30)) 3)).bind Value.bool?) fun b312 =>
 ob ((r306.2.ld (plus (plus a308 (x4.toNat * 30)) 4)).bind (Value.int? .i64)) fun x313 =>
 ob ((r306.2.ld (plus (plus a308 (x4.toNat * 30)) 5)).bind (Value.int? .i64)) fun x314 =>
 ob ((r306.2.ld (plus (plus a308 (x4.toNat * 30)) 6)).bind (Value.int? .i64)) fun x315 =>
 ob ((r306.2.ld (plus (plus a308 (x4.toNat * 30)) 7)).bind (Value.int? .i64)) fun x316 =>
 ob ((r306.2.ld (plus (plus a308 (x4.toNat * 30)) 8)).bind (Value.int? .i64)) fun x317 =>
 ob ((r306.2.ld (plus (plus a308 (x4.toNat * 30)) 9)).bind (Value.int? .i64)) fun x318 =>
 ob ((r306.2.ld (plus (plus a308 (x4.toNat * 30)) 10)).bind (Value.int? .i64)) fun x319 =>
 ob ((r306.2.ld (plus (plus a308 (x4.toNat * 30)) 11)).bind (Value.int? .i64)) fun x320 =>
 ob ((r306.2.ld (plus (plus a308 (x4.toNat * 30)) 12)).bind (Value.int? .i64)) fun x321 =>
 ob ((r306.2.ld (plus (plus a308 (x4.toNat * 30)) 13)).bind (Value.int? .i64)) fun x322 =>
 ob ((r306.2.ld (plus (plus a308 (x4.toNat * 30)) 14)).bind (Value.int? .i64)) fun x323 =>
 ob ((r306.2.ld (plus (plus a308 (x4.toNat * 30)) 15)).bind (Value.int? .i64)) fun x324 =>
 ob ((r306.2.ld (plus (plus a308 (x4.toNat * 30)) 16)).bind (Value.int? .i64)) fun x325 =>
 ob ((r306.2.ld (plus (plus a308 (x4.toNat * 30)) 17)).bind Value.bool?) fun b326 =>
 ob ((r306.2.ld (plus (plus a308 (x4.toNat * 30)) 18)).bind (Value.int? .i64)) fun x327 =>
 ob ((r306.2.ld (plus (plus a308 (x4.toNat * 30)) 19)).bind (Value.int? .i64)) fun x328 =>
 ob ((r306.2.ld (plus (plus a308 (x4.toNat * 30)) 20)).bind (Value.int? .i64)) fun x329 =>
 ob ((r306.2.ld (plus (plus a308 (x4.toNat * 30)) 21)).bind (Value.int? .i64)) fun x330 =>
 ob ((r306.2.ld (plus (plus a308 (x4.toNat * 30)) 22)).bind (Value.int? .i64)) fun x331 =>
 ob ((r306.2.ld (plus (plus a308 (x4.toNat * 30)) 23)).bind Value.bool?) fun b332 =>
 ob ((r306.2.ld (plus (plus a308 (x4.toNat * 30)) 24)).bind (Value.int? .i64)) fun x333 =>
 ob ((r306.2.ld (plus (plus a308 (x4.toNat * 30)) 25)).bind (Value.int? .i64)) fun x334 =>
 ob ((r306.2.ld (plus (plus a308 (x4.toNat * 30)) 26)).bind Value.slc?) fun s335 =>
 ob ((r306.2.ld (plus (plus a308 (x4.toNat * 30)) 27)).bind Value.bool?) fun b336 =>
 ob ((r306.2.ld (plus (plus a308 (x4.toNat * 30)) 28)).bind Value.bool?) fun b337 =>
 ob ((r306.2.ld (plus (plus a308 (x4.toNat * 30)) 29)).bind Value.bool?) fun b338 =>
 ob (acall P T k M.length F.zoetropelaw23_CdefFrames [.agg ⟨[.int .i64 0, .int .i64 0, .slice none 0 0, .int .i64 0, .int .i64 0, .slice none 0 0, .int .i64 0, .int .i64 0, .slice none 0 0]⟩, .agg ⟨[.slice none 0 0, .slice none 0 0]⟩, .agg ⟨[.bool b309, .int .i64 x310, .bool b311, .bool b312, .int .i64 x313, .int .i64 x314, .int .i64 x315, .int .i64 x316, .int .i64 x317, .int .i64 x318, .int .i64 x319, .int .i64 x320, .int .i64 x321, .int .i64 x322, .int .i64 x323, .int .i64 x324, .int .i64 x325, .bool b326, .int .i64 x327, .int .i64 x328, .int .i64 x329, .int .i64 x330, .int .i64 x331, .bool b332, .int .i64 x333, .int .i64 x334, .slice s335.a s335.n s335.c, .bool b336, .bool b337, .bool b338]⟩] r306.2) fun r339 =>
 ob ((some r339.1).bind Value.bool?) fun b340 =>
 bb (!b340)
 (some (.ret (.bool false) r339.2))
 (some (zoetropelaw23_CdefNames.c8388596 A1 n2 c3 (IntKind.i64.wrap (x4 + 1)) x5 x6 A7 n8 c9 x10 x11 A12 n13 c14 x15 x16 A17 n18 c19 x20 x21 A22 n23 c24 x25 x26 A27 n28 c29 x30 x31 A32 n33 c34 r339.2))) none)) none) none)) none) none)) none) none)) none) none)) none) none)
 (ob (acall P T k lo F.zoetropelaw23_awake [] M) fun r341 =>
 ob ((some r341.1).bind Value.bool?) fun b342 =>
 some (.ret (.bool b342) r341.2)) := by kernel_rfl
theorem zoetroperef00_CopyBytes.entry (k lo : Nat) (A1 : Option Addr) (n2 : Nat) (c3 : Nat) (M : Mem) : entry P T k lo F.zoetroperef00_CopyBytes [.slice A1 n2 c3] M =
 ob (Mem.src M A1 n2 n2) fun l9 =>
 ob (M.app lo 1 1 ⟨none, 0, 0⟩ l9 n2) fun r10 =>
 some (.ret (.slice r10.1.a r10.1.n r10.1.c) r10.2) := by kernel_rfl
theorem cdef_Direction.entry (k lo : Nat) (A1 : Option Addr) (n2 : Nat) (c3 : Nat) (M : Mem) : entry P T k lo F.cdef_Direction [.slice A1 n2 c3] M =
 bb ((n2 : Int) != 64)
 (some (.ret (.tuple ⟨[.int .i64 0, .int .i64 0, .int .i64 2]⟩) M))
 (some (cdef_Direction.c244 0 A1 n2 c3 (n2 : Int) 0 ([.int .i64 0, .int .i64 0, .int .i64 0, .int .i64 0, .int .i64 0, .int .i64 0, .int .i64 0, .int .i64 0, .int .i64 0, .int .i64 0, .int .i64 0, .int .i64 0, .int .i64 0, .int .i64 0, .int .i64 0, .int .i64 0, .int .i64 0, .int .i64 0, .int .i64 0, .int .i64 0, .int .i64 0, .int .i64 0, .int .i64 0, .int .i64 0, .int .i64 0, .int .i64 0, .int .i64 0, .int .i64 0, .int .i64 0, .int .i64 0, .int .i64 0, .int .i64 0, .int .i64 0, .int .i64 0, .int .i64 0, .int .i64 0, .int .i64 0, .int .i64 0, .int .i64 0, .int .i64 0, .int .i64 0, .int .i64 0, .int .i64 0, .int .i64 0, .int .i64 0, .int .i64 0, .int .i64 0, .int .i64 0, .int .i64 0, .int .i64 0, .int .i64 0, .int .i64 0, .int .i64 0, .int .i64 0, .int .i64 0, .int .i64 0, .int .i64 0, .int .i64 0, .int .i64 0, .int .i64 0, .int .i64 0, .int .i64 0, .int .i64 0, .int .i64 0, .int .i64 0, .int .i64 0, .int .i64 0, .int .i64 0, .int .i64 0, .int .i64 0, .int .i64 0, .int .i64 0, .int .i64 0, .int .i64 0, .int .i64 0, .int .i64 0, .int .i64 0, .int .i64 0, .int .i64 0, .int .i64 0, .int .i64 0, .int .i64 0, .int .i64 0, .int .i64 0, .int .i64 0, .int .i64 0, .int .i64 0, .int .i64 0, .int .i64 0, .int .i64 0, .int .i64 0, .int .i64 0, .int .i64 0, .int .i64 0, .int .i64 0, .int .i64 0, .int .i64 0, .int .i64 0, .int .i64 0, .int .i64 0, .int .i64 0, .int .i64 0, .int .i64 0, .int .i64 0, .int .i64 0, .int .i64 0, .int .i64 0, .int .i64 0, .int .i64 0, .int .i64 0, .int .i64 0, .int .i64 0, .int .i64 0, .int .i64 0, .int .i64 0, .int .i64 0, .int .i64 0, .int .i64 0, .int .i64 0, .int .i64 0, .int .i64 0, .int .i64 0, .int .i64 0, .int .i64 0, .int .i64 0, .int .i64 0, .int .i64 0, .int .i64 0]) ([.int .i64 0, .int .i64 0, .int .i64 0, .int .i64 0, .int .i64 0, .int .i64 0, .int .i64 0, .int .i64 0, .int .i64 0, .int .i64 0, .int .i64 0, .int .i64 0, .int .i64 0, .int .i64 0, .int .i64 0, .int .i64 0, .int .i64 0, .int .i64 0, .int .i64 0, .int .i64 0, .int .i64 0, .int .i64 0, .int .i64 0, .int .i64 0, .int .i64 0, .int .i64 0, .int .i64 0, .int .i64 0, .int .i64 0, .int .i64 0, .int .i64 0, .int .i64 0, .int .i64 0, .int .i64 0, .int .i64 0, .int .i64 0, .int .i64 0, .int .i64 0, .int .i64 0, .int .i64 0, .int .i64 0, .int .i64 0, .int .i64 0, .int .i64 0, .int .i64 0, .int .i64 0, .int .i64 0, .int .i64 0, .int .i64 0, .int .i64 0, .int .i64 0, .int .i64 0, .int .i64 0, .int .i64 0, .int .i64 0, .int .i64 0, .int .i64 0, .int .i64 0, .int .i64 0, .int .i64 0, .int .i64 0, .int .i64 0, .int .i64 0, .int .i64 0, .int .i64 0, .int .i64 0, .int .i64 0, .int .i64 0, .int .i64 0, .int .i64 0, .int .i64 0, .int .i64 0, .int .i64 0, .int .i64 0, .int .i64 0, .int .i64 0, .int .i64 0, .int .i64 0, .int .i64 0, .int .i64 0, .int .i64 0, .int .i64 0, .int .i64 0, .int .i64 0, .int .i64 0, .int .i64 0, .int .i64 0, .int .i64 0, .int .i64 0, .int .i64 0, .int .i64 0, .int .i64 0, .int .i64 0, .int .i64 0, .int .i64 0, .int .i64 0, .int .i64 0, .int .i64 0, .int .i64 0, .int .i64 0, .int .i64 0, .int .i64 0, .int .i64 0, .int .i64 0, .int .i64 0, .int .i64 0, .int .i64 0, .int .i64 0, .int .i64 0, .int .i64 0, .int .i64 0, .int .i64 0, .int .i64 0, .int .i64 0, .int .i64 0, .int .i64 0, .int .i64 0, .int .i64 0, .int .i64 0, .int .i64 0, .int .i64 0, .int .i64 0, .int .i64 0, .int .i64 0, .int .i64 0, .int .i64 0, .int .i64 0, .int .i64 0]) M)) := by kernel_rfl
theorem cdef_Direction.p244 (k lo : Nat) (x1 : Int) (A2 : Option Addr) (n3 : Nat) (c4 : Nat) (x5 : Int) (x6 : Int) (cs7 : List Value) (cs8 : List Value) (M : Mem) : piece P T k lo F.cdef_Direction 244 [.v (.int .i64 x1), .l 5 0, .l 6 0, .v (.slice A2 n3 c4), .v (.int .i64 x5), .v (.int .i64 x6)] [cs7, cs8] M =
 bb (decide (x6 < x5))
 (pb (0 ≤ x6 ∧ x6 < (n3 : Int))
 (ob A2 fun a9 =>
 ob ((M.ld (plus a9 x6.toNat)).bind (Value.int? .u8)) fun x10 =>
 ob (acall P T k lo F.cdef_lines [.int .i64 (IntKind.i64.wrap (Int.tdiv x6 8)), .int .i64 (Int.tmod x6 8)] M) fun r11 =>
 ob ((some r11.1).bind (Value.agg? 8)) fun l12 =>
 ob ((l12[0]?).bind (Value.int? .i64)) fun x13 =>
 ob ((l12[1]?).bind (Value.int? .i64)) fun x14 =>
 ob ((l12[2]?).bind (Value.int? .i64)) fun x15 =>
 ob ((l12[3]?).bind (Value.int? .i64)) fun x16 =>
 ob ((l12[4]?).bind (Value.int? .i64)) fun x17 =>
 ob ((l12[5]?).bind (Value.int? .i64)) fun x18 =>
 ob ((l12[6]?).bind (Value.int? .i64)) fun x19 =>
 ob ((l12[7]?).bind (Value.int? .i64)) fun x20 =>
 some (cdef_Direction.c62668 x1 x10 A2 n3 c4 x5 x6 x13 x14 x15 x16 x17 x18 x19 x20 0 cs7 cs8 r11.2)) none)
 (some (cdef_Direction.c1012 x1 0 cs7 cs8 ([.int .i64 0, .int .i64 0, .int .i64 0, .int .i64 0, .int .i64 0, .int .i64 0, .int .i64 0, .int .i64 0]) M)) := by kernel_rfl
theorem cdef_Direction.p1012 (k lo : Nat) (x1 : Int) (x2 : Int) (cs3 : List Value) (cs4 : List Value) (cs5 : List Value) (M : Mem) : piece P T k lo F.cdef_Direction 1012 [.v (.int .i64 x1), .l 5 0, .l 6 0, .l 11 0, .v (.int .i64 x2)] [cs3, cs4, cs5] M =
 bb (decide (x2 < 8))
 (pb (0 ≤ x2 ∧ x2 < (8 : Int))
 (ob ((cs4[0 + (x2.toNat * 16) + 0]?).bind (Value.int? .i64)) fun x21 =>
 ob ((cs4[0 + (x2.toNat * 16) + 1]?).bind (Value.int? .i64)) fun x22 =>
 ob ((cs4[0 + (x2.toNat * 16) + 2]?).bind (Value.int? .i64)) fun x23 =>
 ob ((cs4[0 + (x2.toNat * 16) + 3]?).bind (Value.int? .i64)) fun x24 =>
 ob ((cs4[0 + (x2.toNat * 16) + 4]?).bind (Value.int? .i64)) fun x25 =>
 ob ((cs4[0 + (x2.toNat * 16) + 5]?).bind (Value.int? .i64)) fun x26 =>
 ob ((cs4[0 + (x2.toNat * 16) + 6]?).bind (Value.int? .i64)) fun x27 =>
 ob ((cs4[0 + (x2.toNat * 16) + 7]?).bind (Value.int? .i64)) fun x28 =>
 ob ((cs4[0 + (x2.toNat * 16) + 8]?).bind (Value.int? .i64)) fun x29 =>
 ob ((cs4[0 + (x2.toNat * 16) + 9]?).bind (Value.int? .i64)) fun x30 =>
 ob ((cs4[0 + (x2.toNat * 16) + 10]?).bind (Value.int? .i64)) fun x31 =>
 ob ((cs4[0 + (x2.toNat * 16) + 11]?).bind (Value.int? .i64)) fun x32 =>
 ob ((cs4[0 + (x2.toNat * 16) + 12]?).bind (Value.int? .i64)) fun x33 =>
 ob ((cs4[0 + (x2.toNat * 16) + 13]?).bind (Value.int? .i64)) fun x34 =>
 ob ((cs4[0 + (x2.toNat * 16) + 14]?).bind (Value.int? .i64)) fun x35 =>
 ob ((cs4[0 + (x2.toNat * 16) + 15]?).bind (Value.int? .i64)) fun x36 =>
 some (cdef_Direction.c2074196 x1 x2 x2 x21 x22 x23 x24 x25 x26 x27 x28 x29 x30 x31 x32 x33 x34 x35 x36 0 cs3 cs4 cs5 M)) none)
 (pb (0 ≤ x1 ∧ x1 < (8 : Int))
 (ob ((cs5[0 + x1.toNat + 0]?).bind (Value.int? .i64)) fun x37 =>
 pb (0 ≤ Int.tmod (IntKind.i64.wrap (x1 + 4)) 8 ∧ Int.tmod (IntKind.i64.wrap (x1 + 4)) 8 < (8 : Int))
 (ob ((cs5[0 + ((Int.tmod (IntKind.i64.wrap (x1 + 4)) 8).toNat) + 0]?).bind (Value.int? .i64)) fun x38 =>
 some (.ret (.tuple ⟨[.int .i64 x1, .int .i64 (shrI .i64 (IntKind.i64.wrap (x37 - x38)) 10), .int .i64 0]⟩) M)) none) none) := by kernel_rfl
theorem cdef_Direction.p8103 (k lo : Nat) (x1 : Int) (x2 : Int) (cs3 : List Value) (cs4 : List Value) (cs5 : List Value) (M : Mem) : piece P T k lo F.cdef_Direction 8103 [.v (.int .i64 x1), .l 5 0, .l 6 0, .l 11 0, .v (.int .i64 x2)] [cs3, cs4, cs5] M =
 some (cdef_Direction.c1012 x1 (IntKind.i64.wrap (x2 + 1)) cs3 cs4 cs5 M) := by kernel_rfl
theorem cdef_Direction.p62668 (k lo : Nat) (x1 : Int) (x2 : Int) (A3 : Option Addr) (n4 : Nat) (c5 : Nat) (x6 : Int) (x7 : Int) (x8 : Int) (x9 : Int) (x10 : Int) (x11 : Int) (x12 : Int) (x13 : Int) (x14 : Int) (x15 : Int) (x16 : Int) (cs17 : List Value) (cs18 : List Value) (M : Mem) : piece P T k lo F.cdef_Direction 62668 [.v (.int .i64 x1), .l 5 0, .l 6 0, .v (.int .u8 x2), .v (.slice A3 n4 c5), .v (.int .i64 x6), .v (.int .i64 x7), .v (.agg ⟨[.int .i64 x8, .int .i64 x9, .int .i64 x10, .int .i64 x11, .int .i64 x12, .int .i64 x13, .int .i64 x14, .int .i64 x15]⟩), .v (.int .i64 x16)] [cs17, cs18] M =
 bb (decide (x16 < 8))
 (pb (0 ≤ x16 ∧ x16 < (8 : Int))
 (ob ((([.int .i64 x8, .int .i64 x9, .int .i64 x10, .int .i64 x11, .int .i64 x12, .int .i64 x13, .int .i64 x14, .int .i64 x15] : List Value)[x16.toNat + 0]?).bind (Value.int? .i64)) fun x39 =>
 pb (0 ≤ x16 ∧ x16 < (8 : Int))
 (pb (0 ≤ x39 ∧ x39 < (16 : Int))
 (ob ((cs17[0 + (x16.toNat * 16) + x39.toNat + 0]?).bind (Value.int? .i64)) fun x40 =>
 pb (0 ≤ x16 ∧ x16 < (8 : Int))
 (pb (0 ≤ x39 ∧ x39 < (16 : Int))
 (pb (0 + (x16.toNat * 16) + x39.toNat + 1 ≤ cs17.length)
 (pb (0 ≤ x16 ∧ x16 < (8 : Int))
 (pb (0 ≤ x39 ∧ x39 < (16 : Int))
 (ob ((cs18[0 + (x16.toNat * 16) + x39.toNat + 0]?).bind (Value.int? .i64)) fun x41 =>
 pb (0 ≤ x16 ∧ x16 < (8 : Int))
 (pb (0 ≤ x39 ∧ x39 < (16 : Int))
 (pb (0 + (x16.toNat * 16) + x39.toNat + 1 ≤ cs18.length)
 (some (cdef_Direction.c62668 x1 x2 A3 n4 c5 x6 x7 x8 x9 x10 x11 x12 x13 x14 x15 (IntKind.i64.wrap (x16 + 1)) (setL cs17 (0 + (x16.toNat * 16) + x39.toNat) [.int .i64 (IntKind.i64.wrap (x40 + (IntKind.i64.wrap ((IntKind.i64.wrap x2) - 128))))]) (setL cs18 (0 + (x16.toNat * 16) + x39.toNat) [.int .i64 (IntKind.i64.wrap (x41 + 1))]) M)) none) none) none) none) none) none) none) none) none) none) none)
 (some (cdef_Direction.c244 x1 A3 n4 c5 x6 (IntKind.i64.wrap (x7 + 1)) cs17 cs18 M)) := by kernel_rfl
theorem cdef_Direction.p2074196 (k lo : Nat) (x1 : Int) (x2 : Int) (x3 : Int) (x4 : Int) (x5 : Int) (x6 : Int) (x7 : Int) (x8 : Int) (x9 : Int) (x10 : Int) (x11 : Int) (x12 : Int) (x13 : Int) (x14 : Int) (x15 : Int) (x16 : Int) (x17 : Int) (x18 : Int) (x19 : Int) (x20 : Int) (cs21 : List Value) (cs22 : List Value) (cs23 : List Value) (M : Mem) : piece P T k lo F.cdef_Direction 2074196 [.v (.int .i64 x1), .l 5 0, .l 6 0, .l 11 0, .v (.int .i64 x2), .v (.int .i64 x3), .v (.agg ⟨[.int .i64 x4, .int .i64 x5, .int .i64 x6, .int .i64 x7, .int .i64 x8, .int .i64 x9, .int .i64 x10, .int .i64 x11, .int .i64 x12, .int .i64 x13, .int .i64 x14, .int .i64 x15, .int .i64 x16, .int .i64 x17, .int .i64 x18, .int .i64 x19]⟩), .v (.int .i64 x20)] [cs21, cs22, cs23] M =
 bb (decide (x20 < 16))
 (pb (0 ≤ x20 ∧ x20 < (16 : Int))
 (ob ((([.int .i64 x4, .int .i64 x5, .int .i64 x6, .int .i64 x7, .int .i64 x8, .int .i64 x9, .int .i64 x10, .int .i64 x11, .int .i64 x12, .int .i64 x13, .int .i64 x14, .int .i64 x15, .int .i64 x16, .int .i64 x17, .int .i64 x18, .int .i64 x19] : List Value)[x20.toNat + 0]?).bind (Value.int? .i64)) fun x42 =>
 bb (x42 == 0)
 (some (cdef_Direction.c16593575 x1 x2 x3 x4 x5 x6 x7 x8 x9 x10 x11 x12 x13 x14 x15 x16 x17 x18 x19 x20 cs21 cs22 cs23 M))
 (pb (0 ≤ x2 ∧ x2 < (8 : Int))
 (ob ((cs23[0 + x2.toNat + 0]?).bind (Value.int? .i64)) fun x43 =>
 pb (0 ≤ x2 ∧ x2 < (8 : Int))
 (pb (0 ≤ x20 ∧ x20 < (16 : Int))
 (ob ((cs21[0 + (x2.toNat * 16) + x20.toNat + 0]?).bind (Value.int? .i64)) fun x44 =>
 pb (0 ≤ x2 ∧ x2 < (8 : Int))
 (pb (0 ≤ x20 ∧ x20 < (16 : Int))
 (ob ((cs21[0 + (x2.toNat * 16) + x20.toNat + 0]?).bind (Value.int? .i64)) fun x45 =>
 pb (x42 = 0) none
 (pb (0 ≤ x2 ∧ x2 < (8 : Int))
 (pb (0 + x2.toNat + 1 ≤ cs23.length)
 (some (cdef_Direction.c16593575 x1 x2 x3 x4 x5 x6 x7 x8 x9 x10 x11 x12 x13 x14 x15 x16 x17 x18 x19 x20 cs21 cs22 (setL cs23 (0 + x2.toNat) [.int .i64 (IntKind.i64.wrap (x43 + (IntKind.i64.wrap ((IntKind.i64.wrap (x44 * x45)) * (IntKind.i64.wrap (Int.tdiv 840 x42))))))]) M)) none) none)) none) none) none) none) none)) none)
 (pb (0 ≤ x2 ∧ x2 < (8 : Int))
 (ob ((cs23[0 + x2.toNat + 0]?).bind (Value.int? .i64)) fun x46 =>
 pb (0 ≤ x1 ∧ x1 < (8 : Int))
 (ob ((cs23[0 + x1.toNat + 0]?).bind (Value.int? .i64)) fun x47 =>
 bb (decide (x46 > x47))
 (some (cdef_Direction.c8103 x2 x3 cs21 cs22 cs23 M))
 (some (cdef_Direction.c8103 x1 x3 cs21 cs22 cs23 M))) none) none) := by kernel_rfl
theorem cdef_Direction.p16593575 (k lo : Nat) (x1 : Int) (x2 : Int) (x3 : Int) (x4 : Int) (x5 : Int) (x6 : Int) (x7 : Int) (x8 : Int) (x9 : Int) (x10 : Int) (x11 : Int) (x12 : Int) (x13 : Int) (x14 : Int) (x15 : Int) (x16 : Int) (x17 : Int) (x18 : Int) (x19 : Int) (x20 : Int) (cs21 : List Value) (cs22 : List Value) (cs23 : List Value) (M : Mem) : piece P T k lo F.cdef_Direction 16593575 [.v (.int .i64 x1), .l 5 0, .l 6 0, .l 11 0, .v (.int .i64 x2), .v (.int .i64 x3), .v (.agg ⟨[.int .i64 x4, .int .i64 x5, .int .i64 x6, .int .i64 x7, .int .i64 x8, .int .i64 x9, .int .i64 x10, .int .i64 x11, .int .i64 x12, .int .i64 x13, .int .i64 x14, .int .i64 x15, .int .i64 x16, .int .i64 x17, .int .i64 x18, .int .i64 x19]⟩), .v (.int .i64 x20)] [cs21, cs22, cs23] M =
 some (cdef_Direction.c2074196 x1 x2 x3 x4 x5 x6 x7 x8 x9 x10 x11 x12 x13 x14 x15 x16 x17 x18 x19 (IntKind.i64.wrap (x20 + 1)) cs21 cs22 cs23 M) := by kernel_rfl
theorem zoetroperef23_Direction.entry (k lo : Nat) (A1 : Option Addr) (n2 : Nat) (c3 : Nat) (M : Mem) : entry P T k lo F.zoetroperef23_Direction [.slice A1 n2 c3] M =
 bb ((n2 : Int) != 64)
 (some (.ret (.tuple ⟨[.int .i64 0, .int .i64 0, .int .i64 2]⟩) M))
 (some (zoetroperef23_Direction.c244 A1 n2 c3 0 1 M)) := by kernel_rfl
theorem zoetroperef23_Direction.p244 (k lo : Nat) (A1 : Option Addr) (n2 : Nat) (c3 : Nat) (x4 : Int) (x5 : Int) (M : Mem) : piece P T k lo F.zoetroperef23_Direction 244 [.v (.slice A1 n2 c3), .v (.int .i64 x4), .v (.int .i64 x5)] [] M =
 bb (decide (x5 < 8))
 (ob (acall P T k lo F.zoetroperef23_weight [.slice A1 n2 c3, .int .i64 x5] M) fun r9 =>
 ob ((some r9.1).bind (Value.int? .i64)) fun x10 =>
 ob (acall P T k lo F.zoetroperef23_weight [.slice A1 n2 c3, .int .i64 x4] r9.2) fun r11 =>
 ob ((some r11.1).bind (Value.int? .i64)) fun x12 =>
 bb (decide (x10 > x12))
 (some (zoetroperef23_Direction.c979 A1 n2 c3 x5 x5 r11.2))
 (some (zoetroperef23_Direction.c979 A1 n2 c3 x4 x5 r11.2)))
 (ob (acall P T k lo F.zoetroperef23_weight [.slice A1 n2 c3, .int .i64 x4] M) fun r13 =>
 ob ((some r13.1).bind (Value.int? .i64)) fun x14 =>
 ob (acall P T k lo F.zoetroperef23_weight [.slice A1 n2 c3, .int .i64 (Int.tmod (IntKind.i64.wrap (x4 + 4)) 8)] r13.2) fun r15 =>
 ob ((some r15.1).bind (Value.int? .i64)) fun x16 =>
 some (.ret (.tuple ⟨[.int .i64 x4, .int .i64 (shrI .i64 (IntKind.i64.wrap (x14 - x16)) 10), .int .i64 0]⟩) r15.2)) := by kernel_rfl
theorem zoetroperef23_Direction.p979 (k lo : Nat) (A1 : Option Addr) (n2 : Nat) (c3 : Nat) (x4 : Int) (x5 : Int) (M : Mem) : piece P T k lo F.zoetroperef23_Direction 979 [.v (.slice A1 n2 c3), .v (.int .i64 x4), .v (.int .i64 x5)] [] M =
 some (zoetroperef23_Direction.c244 A1 n2 c3 x4 (IntKind.i64.wrap (x5 + 1)) M) := by kernel_rfl
theorem zoetroperef00_EqBytes.entry (k lo : Nat) (A1 : Option Addr) (n2 : Nat) (c3 : Nat) (A4 : Option Addr) (n5 : Nat) (c6 : Nat) (M : Mem) : entry P T k lo F.zoetroperef00_EqBytes [.slice A1 n2 c3, .slice A4 n5 c6] M =
 bb ((n2 : Int) != (n5 : Int))
 (some (.ret (.bool false) M))
 (some (zoetroperef00_EqBytes.c116 A1 n2 c3 A4 n5 c6 0 M)) := by kernel_rfl
theorem zoetroperef00_EqBytes.p116 (k lo : Nat) (A1 : Option Addr) (n2 : Nat) (c3 : Nat) (A4 : Option Addr) (n5 : Nat) (c6 : Nat) (x7 : Int) (M : Mem) : piece P T k lo F.zoetroperef00_EqBytes 116 [.v (.slice A1 n2 c3), .v (.slice A4 n5 c6), .v (.int .i64 x7)] [] M =
 bb (decide (x7 < (n2 : Int)))
 (pb (0 ≤ x7 ∧ x7 < (n2 : Int))
 (ob A1 fun a12 =>
 ob ((M.ld (plus a12 x7.toNat)).bind (Value.int? .u8)) fun x13 =>
 pb (0 ≤ x7 ∧ x7 < (n5 : Int))
 (ob A4 fun a14 =>
 ob ((M.ld (plus a14 x7.toNat)).bind (Value.int? .u8)) fun x15 =>
 bb (x13 != x15)
 (some (.ret (.bool false) M))
 (some (zoetroperef00_EqBytes.c116 A1 n2 c3 A4 n5 c6 (IntKind.i64.wrap (x7 + 1)) M))) none) none)
 (some (.ret (.bool true) M)) := by kernel_rfl
theorem cdef_Limit.entry (k lo : Nat) (x1 : Int) (x2 : Int) (x3 : Int) (M : Mem) : entry P T k lo F.cdef_Limit [.int .i64 x1, .int .i64 x2, .int .i64 x3] M =
 ob (acall P T k lo F.cdef_clip [.int .i64 x1, .int .i64 (-1048576), .int .i64 1048576] M) fun r9 =>
 ob ((some r9.1).bind (Value.int? .i64)) fun x10 =>
 ob (acall P T k lo F.cdef_clip [.int .i64 x2, .int .i64 (-1048576), .int .i64 1048576] r9.2) fun r11 =>
 ob ((some r11.1).bind (Value.int? .i64)) fun x12 =>
 ob (acall P T k lo F.cdef_clip [.int .i64 x3, .int .i64 (-1048576), .int .i64 1048576] r11.2) fun r13 =>
 ob ((some r13.1).bind (Value.int? .i64)) fun x14 =>
 bb (decide (x12 ≤ 0))
 (some (.ret (.int .i64 0) r13.2))
 (ob (acall P T k lo F.math_bits_Len [.int .u64 (IntKind.u64.wrap x12)] r13.2) fun r15 =>
 ob ((some r15.1).bind (Value.int? .i64)) fun x16 =>
 ob (acall P T k lo F.cdef_clip [.int .i64 (IntKind.i64.wrap ((IntKind.i64.wrap (x14 - x16)) + 1)), .int .i64 0, .int .i64 60] r15.2) fun r17 =>
 ob ((some r17.1).bind (Value.int? .i64)) fun x18 =>
 pb (x18 < 0) none
 (bb (decide (x10 < 0))
 (some (.ret (.int .i64 (IntKind.i64.wrap (0 - (minI (maxI x10 (IntKind.i64.wrap (0 - x10))) (maxI 0 (IntKind.i64.wrap (x12 - (shrI .i64 (maxI x10 (IntKind.i64.wrap (0 - x10))) x18.toNat)))))))) r17.2))
 (some (.ret (.int .i64 (minI (maxI x10 (IntKind.i64.wrap (0 - x10))) (maxI 0 (IntKind.i64.wrap (x12 - (shrI .i64 (maxI x10 (IntKind.i64.wrap (0 - x10))) x18.toNat)))))) r17.2)))) := by kernel_rfl
theorem zoetroperef23_Limit.entry (k lo : Nat) (x1 : Int) (x2 : Int) (x3 : Int) (M : Mem) : entry P T k lo F.zoetroperef23_Limit [.int .i64 x1, .int .i64 x2, .int .i64 x3] M =
 ob (acall P T k lo F.zoetroperef00_Clip [.int .i64 x1, .int .i64 (-1048576), .int .i64 1048576] M) fun r9 =>
 ob ((some r9.1).bind (Value.int? .i64)) fun x10 =>
 ob (acall P T k lo F.zoetroperef00_Clip [.int .i64 x2, .int .i64 (-1048576), .int .i64 1048576] r9.2) fun r11 =>
 ob ((some r11.1).bind (Value.int? .i64)) fun x12 =>
 ob (acall P T k lo F.zoetroperef00_Clip [.int .i64 x3, .int .i64 (-1048576), .int .i64 1048576] r11.2) fun r13 =>
 ob ((some r13.1).bind (Value.int? .i64)) fun x14 =>
 bb (decide (x12 ≤ 0))
 (some (.ret (.int .i64 0) r13.2))
 (ob (acall P T k lo F.zoetroperef00_Log [.int .i64 x12] r13.2) fun r15 =>
 ob ((some r15.1).bind (Value.int? .i64)) fun x16 =>
 ob (acall P T k lo F.zoetroperef00_Abs [.int .i64 x10] r15.2) fun r17 =>
 ob ((some r17.1).bind (Value.int? .i64)) fun x18 =>
 ob (acall P T k lo F.zoetroperef00_Abs [.int .i64 x10] r17.2) fun r19 =>
 ob ((some r19.1).bind (Value.int? .i64)) fun x20 =>
 pb ((minI (maxI (IntKind.i64.wrap (x14 - x16)) 0) 60) < 0) none
 (bb (decide (x10 < 0))
 (some (.ret (.int .i64 (IntKind.i64.wrap (0 - (minI x18 (maxI 0 (IntKind.i64.wrap (x12 - (shrI .i64 x20 ((minI (maxI (IntKind.i64.wrap (x14 - x16)) 0) 60).toNat))))))))) r19.2))
 (some (.ret (.int .i64 (minI x18 (maxI 0 (IntKind.i64.wrap (x12 - (shrI .i64 x20 ((minI (maxI (IntKind.i64.wrap (x14 - x16)) 0) 60).toNat))))))) r19.2)))) := by kernel_rfl
theorem zoetropelaw23_awake.entry (k lo : Nat) (M : Mem) : entry P T k lo F.zoetropelaw23_awake [] M =
 ob (acall P T k lo F.zoetropelaw23_usual [] M) fun r6 =>
 ob ((some r6.1).bind (Value.agg? 3)) fun l7 =>
 ob ((l7[0]?).bind (Value.int? .i64)) fun x8 =>
 ob ((l7[1]?).bind (Value.int? .i64)) fun x9 =>
 ob ((l7[2]?).bind Value.slc?) fun s10 =>
 ob (acall P T k lo F.cdef_Block [.agg ⟨[.int .i64 x8, .int .i64 x9, .slice s10.a s10.n s10.c]⟩, .agg ⟨[.int .i64 0, .int .i64 0, .int .i64 5, .int .i64 1]⟩, .int .i64 2, .int .i64 4, .int .i64 0, .int .i64 3] r6.2) fun r11 =>
 ob (r11.1.tup? 2) fun l12 =>
 ob ((l12[0]?).bind Value.slc?) fun s13 =>
 ob ((l12[1]?).bind (Value.int? .i64)) fun x14 =>
 ob (acall P T k lo F.zoetropelaw23_stripes [.bool false, .int .u8 0, .int .u8 255] r11.2) fun r15 =>
 ob ((some r15.1).bind Value.slc?) fun s16 =>
 ob (acall P T k lo F.cdef_Direction [.slice s16.a s16.n s16.c] r15.2) fun r17 =>
 ob (r17.1.tup? 3) fun l18 =>
 ob ((l18[0]?).bind (Value.int? .i64)) fun x19 =>
 ob ((l18[1]?).bind (Value.int? .i64)) fun x20 =>
 ob ((l18[2]?).bind (Value.int? .i64)) fun x21 =>
 ob (acall P T k lo F.zoetropelaw23_stripes [.bool true, .int .u8 0, .int .u8 255] r17.2) fun r22 =>
 ob ((some r22.1).bind Value.slc?) fun s23 =>
 ob (acall P T k lo F.cdef_Direction [.slice s23.a s23.n s23.c] r22.2) fun r24 =>
 ob (r24.1.tup? 3) fun l25 =>
 ob ((l25[0]?).bind (Value.int? .i64)) fun x26 =>
 ob ((l25[1]?).bind (Value.int? .i64)) fun x27 =>
 ob ((l25[2]?).bind (Value.int? .i64)) fun x28 =>
 bb (x14 == 0)
 (bb (x21 == 0)
 (bb (x28 == 0)
 (ob (acall P T k lo F.zoetroperef00_EqBytes [.slice s13.a s13.n s13.c, .slice (some ⟨r24.2.length, 0, none⟩) 5 5] (r24.2 ++ [⟨.fx, [.int .u8 10, .int .u8 11, .int .u8 12, .int .u8 11, .int .u8 10]⟩] : Mem)) fun r29 =>
 ob ((some r29.1).bind Value.bool?) fun b30 =>
 bb b30
 (bb (x19 == 2)
 (bb (x20 == 853453)
 (bb (x26 == 6)
 (bb (x27 == 853453)
 (ob (acall P T k lo F.cdef_Limit [.int .i64 5, .int .i64 8, .int .i64 5] r29.2) fun r31 =>
 ob ((some r31.1).bind (Value.int? .i64)) fun x32 =>
 bb (x32 == 5)
 (ob (acall P T k lo F.cdef_Limit [.int .i64 (-40), .int .i64 8, .int .i64 5] r31.2) fun r33 =>
 ob ((some r33.1).bind (Value.int? .i64)) fun x34 =>
 some (.ret (.bool (x34 == 0)) r33.2))
 (some (.ret (.bool false) r31.2)))
 (some (.ret (.bool false) r29.2)))
 (some (.ret (.bool false) r29.2)))
 (some (.ret (.bool false) r29.2)))
 (some (.ret (.bool false) r29.2)))
 (some (.ret (.bool false) r29.2)))
 (some (.ret (.bool false) r24.2)))
 (some (.ret (.bool false) r24.2)))
 (some (.ret (.bool false) r24.2)) := by kernel_rfl
theorem zoetroperef05_CopyPlane.entry (k lo : Nat) (x1 : Int) (x2 : Int) (A3 : Option Addr) (n4 : Nat) (c5 : Nat) (M : Mem) : entry P T k lo F.zoetroperef05_CopyPlane [.agg ⟨[.int .i64 x1, .int .i64 x2, .slice A3 n4 c5]⟩] M =
 ob (acall P T k M.length F.zoetroperef00_CopyBytes [.slice A3 n4 c5] M) fun r11 =>
 ob ((some r11.1).bind Value.slc?) fun s12 =>
 some (.ret (.agg ⟨[.int .i64 x1, .int .i64 x2, .slice s12.a s12.n s12.c]⟩) r11.2) := by kernel_rfl
end Go.Zt
