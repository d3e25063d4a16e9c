/- What functions come to, from cut to cut. -/
import Derived.Test.YtkbdmbjhgomaiaaEq0
import Derived.KernelRfl
set_option maxRecDepth 100000
set_option maxHeartbeats 4000000
set_option linter.unusedVariables false
namespace Go.Zt
theorem zoetropelaw23_CdefDirections.entry (k lo : Nat) (A1 : Option Addr) (n2 : Nat) (c3 : Nat) (x4 : Int) (x5 : Int) (x6 : Int) (M : Mem) : entry P T k lo F.zoetropelaw23_CdefDirections [.slice A1 n2 c3, .agg ⟨[.int .i64 x4, .int .i64 x5, .int .i64 x6]⟩] M =
 ob (acall P T k lo F.zoetroperef00_CopyBytes [.slice A1 n2 c3] M) fun r12 =>
 ob ((some r12.1).bind Value.slc?) fun s13 =>
 ob (acall P T k lo F.cdef_Direction [.slice s13.a s13.n s13.c] r12.2) fun r14 =>
 ob (r14.1.tup? 3) fun l15 =>
 ob ((l15[0]?).bind (Value.int? .i64)) fun x16 =>
 ob ((l15[1]?).bind (Value.int? .i64)) fun x17 =>
 ob ((l15[2]?).bind (Value.int? .i64)) fun x18 =>
 ob (acall P T k lo F.zoetroperef23_Direction [.slice A1 n2 c3] r14.2) fun r19 =>
 ob (r19.1.tup? 3) fun l20 =>
 ob ((l20[0]?).bind (Value.int? .i64)) fun x21 =>
 ob ((l20[1]?).bind (Value.int? .i64)) fun x22 =>
 ob ((l20[2]?).bind (Value.int? .i64)) fun x23 =>
 bb (x16 == x21)
 (bb (x17 == x22)
 (bb (x18 == x23)
 (ob (acall P T k r19.2.length F.zoetroperef00_EqBytes [.slice s13.a s13.n s13.c, .slice A1 n2 c3] r19.2) fun r24 =>
 ob ((some r24.1).bind Value.bool?) fun b25 =>
 bb b25
 (ob (acall P T k r19.2.length F.cdef_Limit [.int .i64 x4, .int .i64 x5, .int .i64 x6] r24.2) fun r26 =>
 ob ((some r26.1).bind (Value.int? .i64)) fun x27 =>
 ob (acall P T k r19.2.length F.zoetroperef23_Limit [.int .i64 x4, .int .i64 x5, .int .i64 x6] r26.2) fun r28 =>
 ob ((some r28.1).bind (Value.int? .i64)) fun x29 =>
 bb (x27 == x29)
 (ob (acall P T k r19.2.length F.zoetropelaw23_awake [] r28.2) fun r30 =>
 ob ((some r30.1).bind Value.bool?) fun b31 =>
 some (.ret (.bool b31) r30.2))
 (some (.ret (.bool false) r28.2)))
 (some (.ret (.bool false) r24.2)))
 (some (.ret (.bool false) r19.2)))
 (some (.ret (.bool false) r19.2)))
 (some (.ret (.bool false) r19.2)) := by kernel_rfl
theorem zoetropelaw23_CdefBlocks.entry (k lo : Nat) (x1 : Int) (x2 : Int) (A3 : Option Addr) (n4 : Nat) (c5 : Nat) (x6 : Int) (x7 : Int) (x8 : Int) (x9 : Int) (x10 : Int) (x11 : Int) (x12 : Int) (x13 : Int) (M : Mem) : entry P T k lo F.zoetropelaw23_CdefBlocks [.agg ⟨[.int .i64 x1, .int .i64 x2, .slice A3 n4 c5]⟩, .agg ⟨[.int .i64 x6, .int .i64 x7, .int .i64 x8, .int .i64 x9]⟩, .agg ⟨[.int .i64 x10, .int .i64 x11, .int .i64 x12, .int .i64 x13]⟩] M =
 ob (acall P T k lo F.zoetroperef05_CopyPlane [.agg ⟨[.int .i64 x1, .int .i64 x2, .slice A3 n4 c5]⟩] M) fun r19 =>
 ob ((some r19.1).bind (Value.agg? 3)) fun l20 =>
 ob ((l20[0]?).bind (Value.int? .i64)) fun x21 =>
 ob ((l20[1]?).bind (Value.int? .i64)) fun x22 =>
 ob ((l20[2]?).bind Value.slc?) fun s23 =>
 ob (acall P T k lo F.cdef_Block [.agg ⟨[.int .i64 x21, .int .i64 x22, .slice s23.a s23.n s23.c]⟩, .agg ⟨[.int .i64 x6, .int .i64 x7, .int .i64 x8, .int .i64 x9]⟩, .int .i64 x10, .int .i64 x11, .int .i64 x12, .int .i64 x13] r19.2) fun r24 =>
 ob (r24.1.tup? 2) fun l25 =>
 ob ((l25[0]?).bind Value.slc?) fun s26 =>
 ob ((l25[1]?).bind (Value.int? .i64)) fun x27 =>
 ob (acall P T k lo F.zoetroperef23_Block [.agg ⟨[.int .i64 x1, .int .i64 x2, .slice A3 n4 c5]⟩, .agg ⟨[.int .i64 x6, .int .i64 x7, .int .i64 x8, .int .i64 x9]⟩, .int .i64 x10, .int .i64 x11, .int .i64 x12, .int .i64 x13] r24.2) fun r28 =>
 ob (r28.1.tup? 2) fun l29 =>
 ob ((l29[0]?).bind Value.slc?) fun s30 =>
 ob ((l29[1]?).bind (Value.int? .i64)) fun x31 =>
 bb (x27 != x31)
 (some (.ret (.bool false) r28.2))
 (ob (acall P T k lo F.zoetroperef00_EqBytes [.slice s26.a s26.n s26.c, .slice s30.a s30.n s30.c] r28.2) fun r32 =>
 ob ((some r32.1).bind Value.bool?) fun b33 =>
 bb (!b33)
 (some (.ret (.bool false) r32.2))
 (ob (acall P T k lo F.zoetroperef00_EqBytes [.slice s23.a s23.n s23.c, .slice A3 n4 c5] r32.2) fun r34 =>
 ob ((some r34.1).bind Value.bool?) fun b35 =>
 bb (!b35)
 (some (.ret (.bool false) r34.2))
 (some (zoetropelaw23_CdefBlocks.c1012 s26.a s26.n s26.c 0 x1 x2 A3 n4 c5 x21 x22 s23.a s23.n s23.c r34.2)))) := by kernel_rfl
theorem zoetropelaw23_CdefBlocks.p1012 (k lo : Nat) (A1 : Option Addr) (n2 : Nat) (c3 : Nat) (x4 : Int) (x5 : Int) (x6 : Int) (A7 : Option Addr) (n8 : Nat) (c9 : Nat) (x10 : Int) (x11 : Int) (A12 : Option Addr) (n13 : Nat) (c14 : Nat) (M : Mem) : piece P T k lo F.zoetropelaw23_CdefBlocks 1012 [.l 3 0, .l 7 0, .v (.slice A1 n2 c3), .v (.int .i64 x4)] [[.int .i64 x5, .int .i64 x6, .slice A7 n8 c9], [.int .i64 x10, .int .i64 x11, .slice A12 n13 c14]] M =
 bb (decide (x4 < (n2 : Int)))
 (pb (0 ≤ x4 ∧ x4 < (n2 : Int))
 (ob A1 fun a36 =>
 ob ((M.ld (plus a36 x4.toNat)).bind (Value.int? .u8)) fun x37 =>
 pb (0 ≤ x4 ∧ x4 < (n2 : Int))
 (ob A1 fun a38 =>
 ob (M.st lo (plus a38 x4.toNat) [.int .u8 (xorI .u8 x37 90)]) fun M39 =>
 some (zoetropelaw23_CdefBlocks.c1012 A1 n2 c3 (IntKind.i64.wrap (x4 + 1)) x5 x6 A7 n8 c9 x10 x11 A12 n13 c14 M39)) none) none)
 (ob (acall P T k lo F.zoetroperef00_EqBytes [.slice A12 n13 c14, .slice A7 n8 c9] M) fun r40 =>
 ob ((some r40.1).bind Value.bool?) fun b41 =>
 bb b41
 (ob (acall P T k lo F.zoetropelaw23_awake [] r40.2) fun r42 =>
 ob ((some r42.1).bind Value.bool?) fun b43 =>
 some (.ret (.bool b43) r42.2))
 (some (.ret (.bool false) r40.2))) := by kernel_rfl
theorem zoetropelaw23_CdefBetween.entry (k lo : Nat) (x1 : Int) (x2 : Int) (A3 : Option Addr) (n4 : Nat) (c5 : Nat) (x6 : Int) (x7 : Int) (x8 : Int) (x9 : Int) (x10 : Int) (x11 : Int) (x12 : Int) (x13 : Int) (M : Mem) : entry P T k lo F.zoetropelaw23_CdefBetween [.agg ⟨[.int .i64 x1, .int .i64 x2, .slice A3 n4 c5]⟩, .agg ⟨[.int .i64 x6, .int .i64 x7, .int .i64 x8, .int .i64 x9]⟩, .agg ⟨[.int .i64 x10, .int .i64 x11, .int .i64 x12, .int .i64 x13]⟩] M =
 ob (acall P T k lo F.zoetropelaw23_awake [] M) fun r19 =>
 ob ((some r19.1).bind Value.bool?) fun b20 =>
 bb (!b20)
 (some (.ret (.bool false) r19.2))
 (ob (acall P T k lo F.plane_Check [.agg ⟨[.int .i64 x1, .int .i64 x2, .slice A3 n4 c5]⟩] r19.2) fun r21 =>
 ob ((some r21.1).bind (Value.int? .i64)) fun x22 =>
 bb (x22 != 0)
 (some (.ret (.bool true) r21.2))
 (ob (acall P T k r21.2.length F.zoetroperef00_Bring [.int .i64 x6, .int .i64 x1] r21.2) fun r23 =>
 ob ((some r23.1).bind (Value.int? .i64)) fun x24 =>
 ob (acall P T k r21.2.length F.zoetroperef00_Bring [.int .i64 x7, .int .i64 x2] r23.2) fun r25 =>
 ob ((some r25.1).bind (Value.int? .i64)) fun x26 =>
 ob (acall P T k r25.2.length F.zoetroperef00_Bring [.int .i64 x10, .int .i64 8] r25.2) fun r27 =>
 ob ((some r27.1).bind (Value.int? .i64)) fun x28 =>
 ob (acall P T k r25.2.length F.zoetroperef00_Bring [.int .i64 x11, .int .i64 16] r27.2) fun r29 =>
 ob ((some r29.1).bind (Value.int? .i64)) fun x30 =>
 ob (acall P T k r25.2.length F.zoetroperef00_Bring [.int .i64 x12, .int .i64 5] r29.2) fun r31 =>
 ob ((some r31.1).bind (Value.int? .i64)) fun x32 =>
 ob (acall P T k r25.2.length F.zoetroperef00_Bring [.int .i64 x13, .int .i64 7] r31.2) fun r33 =>
 ob ((some r33.1).bind (Value.int? .i64)) fun x34 =>
 ob (acall P T k r25.2.length F.cdef_Block [.agg ⟨[.int .i64 x1, .int .i64 x2, .slice A3 n4 c5]⟩, .agg ⟨[.int .i64 x24, .int .i64 x26, .int .i64 1, .int .i64 1]⟩, .int .i64 x28, .int .i64 x30, .int .i64 x32, .int .i64 x34] r33.2) fun r35 =>
 ob (r35.1.tup? 2) fun l36 =>
 ob ((l36[0]?).bind Value.slc?) fun s37 =>
 ob ((l36[1]?).bind (Value.int? .i64)) fun x38 =>
 bb (x38 != 0)
 (some (.ret (.bool false) r35.2))
 (bb ((s37.n : Int) != 1)
 (some (.ret (.bool false) r35.2))
 (some (zoetropelaw23_CdefBetween.c4084 s37.a s37.n s37.c 255 0 (maxI (IntKind.i64.wrap (x26 - 2)) 0) x1 x2 A3 n4 c5 x24 x26 1 1 r35.2))))) := by kernel_rfl
theorem zoetropelaw23_CdefBetween.p4084 (k lo : Nat) (A1 : Option Addr) (n2 : Nat) (c3 : Nat) (x4 : Int) (x5 : Int) (x6 : Int) (x7 : Int) (x8 : Int) (A9 : Option Addr) (n10 : Nat) (c11 : Nat) (x12 : Int) (x13 : Int) (x14 : Int) (x15 : Int) (M : Mem) : piece P T k lo F.zoetropelaw23_CdefBetween 4084 [.l 3 0, .l 4 0, .v (.slice A1 n2 c3), .v (.int .u8 x4), .v (.int .u8 x5), .v (.int .i64 x6)] [[.int .i64 x7, .int .i64 x8, .slice A9 n10 c11], [.int .i64 x12, .int .i64 x13, .int .i64 x14, .int .i64 x15]] M =
 bb (decide (x6 ≤ (minI (IntKind.i64.wrap (x13 + 2)) (IntKind.i64.wrap (x8 - 1)))))
 (some (zoetropelaw23_CdefBetween.c261412 A1 n2 c3 x4 x5 x6 (maxI (IntKind.i64.wrap (x12 - 2)) 0) x7 x8 A9 n10 c11 x12 x13 x14 x15 M))
 (pb (0 ≤ (0 : Int) ∧ (0 : Int) < (n2 : Int))
 (ob A1 fun a39 =>
 ob ((M.ld a39).bind (Value.int? .u8)) fun x40 =>
 bb (decide (x40 ≥ x4))
 (pb (0 ≤ (0 : Int) ∧ (0 : Int) < (n2 : Int))
 (ob A1 fun a41 =>
 ob ((M.ld a41).bind (Value.int? .u8)) fun x42 =>
 some (.ret (.bool (decide (x42 ≤ x5))) M)) none)
 (some (.ret (.bool false) M))) none) := by kernel_rfl
theorem zoetropelaw23_CdefBetween.p261412 (k lo : Nat) (A1 : Option Addr) (n2 : Nat) (c3 : Nat) (x4 : Int) (x5 : Int) (x6 : Int) (x7 : Int) (x8 : Int) (x9 : Int) (A10 : Option Addr) (n11 : Nat) (c12 : Nat) (x13 : Int) (x14 : Int) (x15 : Int) (x16 : Int) (M : Mem) : piece P T k lo F.zoetropelaw23_CdefBetween 261412 [.l 3 0, .l 4 0, .v (.slice A1 n2 c3), .v (.int .u8 x4), .v (.int .u8 x5), .v (.int .i64 x6), .v (.int .i64 x7)] [[.int .i64 x8, .int .i64 x9, .slice A10 n11 c12], [.int .i64 x13, .int .i64 x14, .int .i64 x15, .int .i64 x16]] M =
 bb (decide (x7 ≤ (minI (IntKind.i64.wrap (x13 + 2)) (IntKind.i64.wrap (x8 - 1)))))
 (pb (0 ≤ IntKind.i64.wrap ((IntKind.i64.wrap (x6 * x8)) + x7) ∧ IntKind.i64.wrap ((IntKind.i64.wrap (x6 * x8)) + x7) < (n11 : Int))
 (ob A10 fun a43 =>
 ob ((M.ld (plus a43 ((IntKind.i64.wrap ((IntKind.i64.wrap (x6 * x8)) + x7)).toNat))).bind (Value.int? .u8)) fun x44 =>
 pb (0 ≤ IntKind.i64.wrap ((IntKind.i64.wrap (x6 * x8)) + x7) ∧ IntKind.i64.wrap ((IntKind.i64.wrap (x6 * x8)) + x7) < (n11 : Int))
 (ob A10 fun a45 =>
 ob ((M.ld (plus a45 ((IntKind.i64.wrap ((IntKind.i64.wrap (x6 * x8)) + x7)).toNat))).bind (Value.int? .u8)) fun x46 =>
 some (zoetropelaw23_CdefBetween.c261412 A1 n2 c3 (minI x4 x44) (maxI x5 x46) x6 (IntKind.i64.wrap (x7 + 1)) x8 x9 A10 n11 c12 x13 x14 x15 x16 M)) none) none)
 (some (zoetropelaw23_CdefBetween.c4084 A1 n2 c3 x4 x5 (IntKind.i64.wrap (x6 + 1)) x8 x9 A10 n11 c12 x13 x14 x15 x16 M)) := by kernel_rfl
theorem zoetropelaw23_CdefLimits.entry (k lo : Nat) (x1 : Int) (x2 : Int) (x3 : Int) (M : Mem) : entry P T k lo F.zoetropelaw23_CdefLimits [.int .i64 x1, .int .i64 x2, .int .i64 x3] M =
 ob (acall P T k lo F.zoetropelaw23_awake [] M) fun r9 =>
 ob ((some r9.1).bind Value.bool?) fun b10 =>
 bb (!b10)
 (some (.ret (.bool false) r9.2))
 (ob (acall P T k lo F.zoetroperef00_Bring [.int .i64 x1, .int .i64 1048576] r9.2) fun r11 =>
 ob ((some r11.1).bind (Value.int? .i64)) fun x12 =>
 ob (acall P T k lo F.cdef_Limit [.int .i64 x12, .int .i64 x2, .int .i64 x3] r11.2) fun r13 =>
 ob ((some r13.1).bind (Value.int? .i64)) fun x14 =>
 ob (acall P T k lo F.cdef_Limit [.int .i64 (IntKind.i64.wrap (0 - x12)), .int .i64 x2, .int .i64 x3] r13.2) fun r15 =>
 ob ((some r15.1).bind (Value.int? .i64)) fun x16 =>
 bb (x14 != IntKind.i64.wrap (0 - x16))
 (some (.ret (.bool false) r15.2))
 (bb (decide (x14 < 0))
 (some (.ret (.bool false) r15.2))
 (bb (decide (x14 > x12))
 (some (.ret (.bool false) r15.2))
 (bb (decide (x14 > (maxI x2 0)))
 (some (.ret (.bool false) r15.2))
 (bb (decide (x2 > 0))
 (bb (decide (x2 < 1048576))
 (bb (decide (x3 ≤ 0))
 (bb (decide (x12 ≥ x2))
 (some (.ret (.bool (x14 == 0)) r15.2))
 (bb (decide (x2 > 0))
 (some (.ret (.bool true) r15.2))
 (some (.ret (.bool (x14 == 0)) r15.2))))
 (bb (decide (x2 > 0))
 (some (.ret (.bool true) r15.2))
 (some (.ret (.bool (x14 == 0)) r15.2))))
 (bb (decide (x2 > 0))
 (some (.ret (.bool true) r15.2))
 (some (.ret (.bool (x14 == 0)) r15.2))))
 (bb (decide (x2 > 0))
 (some (.ret (.bool true) r15.2))
 (some (.ret (.bool (x14 == 0)) r15.2)))))))) := by kernel_rfl
theorem zoetropelaw23_CdefStripes.entry (k lo : Nat) (x1 : Int) (x2 : Int) (M : Mem) : entry P T k lo F.zoetropelaw23_CdefStripes [.int .u8 x1, .int .u8 x2] M =
 ob (acall P T k lo F.zoetropelaw23_awake [] M) fun r8 =>
 ob ((some r8.1).bind Value.bool?) fun b9 =>
 bb (!b9)
 (some (.ret (.bool false) r8.2))
 (bb (decide (IntKind.u8.wrap ((maxI x1 x2) - (minI x1 x2)) < 16))
 (some (.ret (.bool true) r8.2))
 (ob (acall P T k lo F.zoetropelaw23_stripes [.bool false, .int .u8 x1, .int .u8 x2] r8.2) fun r10 =>
 ob ((some r10.1).bind Value.slc?) fun s11 =>
 ob (acall P T k lo F.cdef_Direction [.slice s11.a s11.n s11.c] r10.2) fun r12 =>
 ob (r12.1.tup? 3) fun l13 =>
 ob ((l13[0]?).bind (Value.int? .i64)) fun x14 =>
 ob ((l13[1]?).bind (Value.int? .i64)) fun x15 =>
 ob ((l13[2]?).bind (Value.int? .i64)) fun x16 =>
 ob (acall P T k lo F.zoetropelaw23_stripes [.bool true, .int .u8 x1, .int .u8 x2] r12.2) fun r17 =>
 ob ((some r17.1).bind Value.slc?) fun s18 =>
 ob (acall P T k lo F.cdef_Direction [.slice s18.a s18.n s18.c] r17.2) fun r19 =>
 ob (r19.1.tup? 3) fun l20 =>
 ob ((l20[0]?).bind (Value.int? .i64)) fun x21 =>
 ob ((l20[1]?).bind (Value.int? .i64)) fun x22 =>
 ob ((l20[2]?).bind (Value.int? .i64)) fun x23 =>
 bb (x16 == 0)
 (bb (x23 == 0)
 (bb (x14 == 2)
 (bb (x21 == 6)
 (bb (x15 == x22)
 (some (.ret (.bool (decide (x15 > 0))) r19.2))
 (some (.ret (.bool false) r19.2)))
 (some (.ret (.bool false) r19.2)))
 (some (.ret (.bool false) r19.2)))
 (some (.ret (.bool false) r19.2)))
 (some (.ret (.bool false) r19.2)))) := by kernel_rfl
theorem zoetropelaw23_CdefFrames.entry (k lo : Nat) (x1 : Int) (x2 : Int) (A3 : Option Addr) (n4 : Nat) (c5 : Nat) (x6 : Int) (x7 : Int) (A8 : Option Addr) (n9 : Nat) (c10 : Nat) (x11 : Int) (x12 : Int) (A13 : Option Addr) (n14 : Nat) (c15 : Nat) (A16 : Option Addr) (n17 : Nat) (c18 : Nat) (A19 : Option Addr) (n20 : Nat) (c21 : Nat) (b22 : Bool) (x23 : Int) (b24 : Bool) (b25 : Bool) (x26 : Int) (x27 : Int) (x28 : Int) (x29 : Int) (x30 : Int) (x31 : Int) (x32 : Int) (x33 : Int) (x34 : Int) (x35 : Int) (x36 : Int) (x37 : Int) (x38 : Int) (b39 : Bool) (x40 : Int) (x41 : Int) (x42 : Int) (x43 : Int) (x44 : Int) (b45 : Bool) (x46 : Int) (x47 : Int) (A48 : Option Addr) (n49 : Nat) (c50 : Nat) (b51 : Bool) (b52 : Bool) (b53 : Bool) (M : Mem) : entry P T k lo F.zoetropelaw23_CdefFrames [.agg ⟨[.int .i64 x1, .int .i64 x2, .slice A3 n4 c5, .int .i64 x6, .int .i64 x7, .slice A8 n9 c10, .int .i64 x11, .int .i64 x12, .slice A13 n14 c15]⟩, .agg ⟨[.slice A16 n17 c18, .slice A19 n20 c21]⟩, .agg ⟨[.bool b22, .int .i64 x23, .bool b24, .bool b25, .int .i64 x26, .int .i64 x27, .int .i64 x28, .int .i64 x29, .int .i64 x30, .int .i64 x31, .int .i64 x32, .int .i64 x33, .int .i64 x34, .int .i64 x35, .int .i64 x36, .int .i64 x37, .int .i64 x38, .bool b39, .int .i64 x40, .int .i64 x41, .int .i64 x42, .int .i64 x43, .int .i64 x44, .bool b45, .int .i64 x46, .int .i64 x47, .slice A48 n49 c50, .bool b51, .bool b52, .bool b53]⟩] M =
 ob (acall P T k lo F.zoetroperef05_CopyFrame [.agg ⟨[.int .i64 x1, .int .i64 x2, .slice A3 n4 c5, .int .i64 x6, .int .i64 x7, .slice A8 n9 c10, .int .i64 x11, .int .i64 x12, .slice A13 n14 c15]⟩] M) fun r59 =>
 ob ((some r59.1).bind (Value.agg? 9)) fun l60 =>
 ob ((l60[0]?).bind (Value.int? .i64)) fun x61 =>
 ob ((l60[1]?).bind (Value.int? .i64)) fun x62 =>
 ob ((l60[2]?).bind Value.slc?) fun s63 =>
 ob ((l60[3]?).bind (Value.int? .i64)) fun x64 =>
 ob ((l60[4]?).bind (Value.int? .i64)) fun x65 =>
 ob ((l60[5]?).bind Value.slc?) fun s66 =>
 ob ((l60[6]?).bind (Value.int? .i64)) fun x67 =>
 ob ((l60[7]?).bind (Value.int? .i64)) fun x68 =>
 ob ((l60[8]?).bind Value.slc?) fun s69 =>
 ob (Mem.src r59.2 A16 n17 n17) fun l70 =>
 ob (r59.2.app lo 1 1 ⟨none, 0, 0⟩ l70 n17) fun r71 =>
 ob (acall P T k r71.2.length F.zoetroperef00_CopyInts [.slice A19 n20 c21] r71.2) fun r72 =>
 ob ((some r72.1).bind Value.slc?) fun s73 =>
 ob (acall P T k r71.2.length F.cdef_Frame [.agg ⟨[.int .i64 x61, .int .i64 x62, .slice s63.a s63.n s63.c, .int .i64 x64, .int .i64 x65, .slice s66.a s66.n s66.c, .int .i64 x67, .int .i64 x68, .slice s69.a s69.n s69.c]⟩, .slice r71.1.a r71.1.n r71.1.c, .slice s73.a s73.n s73.c, .agg ⟨[.bool b22, .int .i64 x23, .bool b24, .bool b25, .int .i64 x26, .int .i64 x27, .int .i64 x28, .int .i64 x29, .int .i64 x30, .int .i64 x31, .int .i64 x32, .int .i64 x33, .int .i64 x34, .int .i64 x35, .int .i64 x36, .int .i64 x37, .int .i64 x38, .bool b39, .int .i64 x40, .int .i64 x41, .int .i64 x42, .int .i64 x43, .int .i64 x44, .bool b45, .int .i64 x46, .int .i64 x47, .slice A48 n49 c50, .bool b51, .bool b52, .bool b53]⟩] r72.2) fun r74 =>
 ob (r74.1.tup? 2) fun l75 =>
 ob ((l75[0]?).bind (Value.agg? 9)) fun l76 =>
 ob ((l76[0]?).bind (Value.int? .i64)) fun x77 =>
 ob ((l76[1]?).bind (Value.int? .i64)) fun x78 =>
 ob ((l76[2]?).bind Value.slc?) fun s79 =>
 ob ((l76[3]?).bind (Value.int? .i64)) fun x80 =>
 ob ((l76[4]?).bind (Value.int? .i64)) fun x81 =>
 ob ((l76[5]?).bind Value.slc?) fun s82 =>
 ob ((l76[6]?).bind (Value.int? .i64)) fun x83 =>
 ob ((l76[7]?).bind (Value.int? .i64)) fun x84 =>
 ob ((l76[8]?).bind Value.slc?) fun s85 =>
 ob ((l75[1]?).bind (Value.int? .i64)) fun x86 =>
 ob (acall P T k lo F.zoetroperef23_Frame [.agg ⟨[.int .i64 x1, .int .i64 x2, .slice A3 n4 c5, .int .i64 x6, .int .i64 x7, .slice A8 n9 c10, .int .i64 x11, .int .i64 x12, .slice A13 n14 c15]⟩, .slice A16 n17 c18, .slice A19 n20 c21, .agg ⟨[.bool b22, .int .i64 x23, .bool b24, .bool b25, .int .i64 x26, .int .i64 x27, .int .i64 x28, .int .i64 x29, .int .i64 x30, .int .i64 x31, .int .i64 x32, .int .i64 x33, .int .i64 x34, .int .i64 x35, .int .i64 x36, .int .i64 x37, .int .i64 x38, .bool b39, .int .i64 x40, .int .i64 x41, .int .i64 x42, .int .i64 x43, .int .i64 x44, .bool b45, .int .i64 x46, .int .i64 x47, .slice A48 n49 c50, .bool b51, .bool b52, .bool b53]⟩] r74.2) fun r87 =>
 ob (r87.1.tup? 2) fun l88 =>
 ob ((l88[0]?).bind (Value.agg? 9)) fun l89 =>
 ob ((l89[0]?).bind (Value.int? .i64)) fun x90 =>
 ob ((l89[1]?).bind (Value.int? .i64)) fun x91 =>
 ob ((l89[2]?).bind Value.slc?) fun s92 =>
 ob ((l89[3]?).bind (Value.int? .i64)) fun x93 =>
 ob ((l89[4]?).bind (Value.int? .i64)) fun x94 =>
 ob ((l89[5]?).bind Value.slc?) fun s95 =>
 ob ((l89[6]?).bind (Value.int? .i64)) fun x96 =>
 ob ((l89[7]?).bind (Value.int? .i64)) fun x97 =>
 ob ((l89[8]?).bind Value.slc?) fun s98 =>
 ob ((l88[1]?).bind (Value.int? .i64)) fun x99 =>
 bb (x86 != x99)
 (some (.ret (.bool false) r87.2))
 (ob (acall P T k lo F.zoetroperef05_SameFrame [.agg ⟨[.int .i64 x77, .int .i64 x78, .slice s79.a s79.n s79.c, .int .i64 x80, .int .i64 x81, .slice s82.a s82.n s82.c, .int .i64 x83, .int .i64 x84, .slice s85.a s85.n s85.c]⟩, .agg ⟨[.int .i64 x90, .int .i64 x91, .slice s92.a s92.n s92.c, .int .i64 x93, .int .i64 x94, .slice s95.a s95.n s95.c, .int .i64 x96, .int .i64 x97, .slice s98.a s98.n s98.c]⟩] r87.2) fun r100 =>
 ob ((some r100.1).bind Value.bool?) fun b101 =>
 bb (!b101)
 (some (.ret (.bool false) r100.2))
 (some (zoetropelaw23_CdefFrames.c4084 0 x1 x2 A3 n4 c5 x6 x7 A8 n9 c10 x11 x12 A13 n14 c15 x61 x62 s63.a s63.n s63.c x64 x65 s66.a s66.n s66.c x67 x68 s69.a s69.n s69.c x77 x78 s79.a s79.n s79.c x80 x81 s82.a s82.n s82.c x83 x84 s85.a s85.n s85.c r100.2))) := by kernel_rfl
theorem zoetropelaw23_CdefFrames.p4084 (k lo : Nat) (x1 : Int) (x2 : Int) (x3 : Int) (A4 : Option Addr) (n5 : Nat) (c6 : Nat) (x7 : Int) (x8 : Int) (A9 : Option Addr) (n10 : Nat) (c11 : Nat) (x12 : Int) (x13 : Int) (A14 : Option Addr) (n15 : Nat) (c16 : Nat) (x17 : Int) (x18 : Int) (A19 : Option Addr) (n20 : Nat) (c21 : Nat) (x22 : Int) (x23 : Int) (A24 : Option Addr) (n25 : Nat) (c26 : Nat) (x27 : Int) (x28 : Int) (A29 : Option Addr) (n30 : Nat) (c31 : Nat) (x32 : Int) (x33 : Int) (A34 : Option Addr) (n35 : Nat) (c36 : Nat) (x37 : Int) (x38 : Int) (A39 : Option Addr) (n40 : Nat) (c41 : Nat) (x42 : Int) (x43 : Int) (A44 : Option Addr) (n45 : Nat) (c46 : Nat) (M : Mem) : piece P T k lo F.zoetropelaw23_CdefFrames 4084 [.l 3 0, .l 7 0, .l 9 0, .v (.int .i64 x1)] [[.int .i64 x2, .int .i64 x3, .slice A4 n5 c6, .int .i64 x7, .int .i64 x8, .slice A9 n10 c11, .int .i64 x12, .int .i64 x13, .slice A14 n15 c16], [.int .i64 x17, .int .i64 x18, .slice A19 n20 c21, .int .i64 x22, .int .i64 x23, .slice A24 n25 c26, .int .i64 x27, .int .i64 x28, .slice A29 n30 c31], [.int .i64 x32, .int .i64 x33, .slice A34 n35 c36, .int .i64 x37, .int .i64 x38, .slice A39 n40 c41, .int .i64 x42, .int .i64 x43, .slice A44 n45 c46]] M =
 bb (decide (x1 < (n35 : Int)))
 (pb (0 ≤ x1 ∧ x1 < (n35 : Int))
 (ob A34 fun a102 =>
 ob ((M.ld (plus a102 x1.toNat)).bind (Value.int? .u8)) fun x103 =>
 pb (0 ≤ x1 ∧ x1 < (n35 : Int))
 (ob A34 fun a104 =>
 ob (M.st lo (plus a104 x1.toNat) [.int .u8 (xorI .u8 x103 90)]) fun M105 =>
 some (zoetropelaw23_CdefFrames.c4084 (IntKind.i64.wrap (x1 + 1)) x2 x3 A4 n5 c6 x7 x8 A9 n10 c11 x12 x13 A14 n15 c16 x17 x18 A19 n20 c21 x22 x23 A24 n25 c26 x27 x28 A29 n30 c31 x32 x33 A34 n35 c36 x37 x38 A39 n40 c41 x42 x43 A44 n45 c46 M105)) none) none)
 (ob (acall P T k lo F.zoetroperef00_EqBytes [.slice A19 n20 c21, .slice A4 n5 c6] M) fun r106 =>
 ob ((some r106.1).bind Value.bool?) fun b107 =>
 bb b107
 (ob (acall P T k lo F.zoetroperef00_EqBytes [.slice A29 n30 c31, .slice A14 n15 c16] r106.2) fun r108 =>
 ob ((some r108.1).bind Value.bool?) fun b109 =>
 bb b109
 (ob (acall P T k lo F.zoetropelaw23_awake [] r108.2) fun r110 =>
 ob ((some r110.1).bind Value.bool?) fun b111 =>
 some (.ret (.bool b111) r110.2))
 (some (.ret (.bool false) r108.2)))
 (some (.ret (.bool false) r106.2))) := by kernel_rfl
theorem zoetropelaw23_CdefStays.entry (k lo : Nat) (x1 : Int) (x2 : Int) (A3 : Option Addr) (n4 : Nat) (c5 : Nat) (x6 : Int) (x7 : Int) (A8 : Option Addr) (n9 : Nat) (c10 : Nat) (x11 : Int) (x12 : Int) (A13 : Option Addr) (n14 : Nat) (c15 : Nat) (A16 : Option Addr) (n17 : Nat) (c18 : Nat) (A19 : Option Addr) (n20 : Nat) (c21 : Nat) (b22 : Bool) (x23 : Int) (b24 : Bool) (b25 : Bool) (x26 : Int) (x27 : Int) (x28 : Int) (x29 : Int) (x30 : Int) (x31 : Int) (x32 : Int) (x33 : Int) (x34 : Int) (x35 : Int) (x36 : Int) (x37 : Int) (x38 : Int) (b39 : Bool) (x40 : Int) (x41 : Int) (x42 : Int) (x43 : Int) (x44 : Int) (b45 : Bool) (x46 : Int) (x47 : Int) (A48 : Option Addr) (n49 : Nat) (c50 : Nat) (b51 : Bool) (b52 : Bool) (b53 : Bool) (M : Mem) : entry P T k lo F.zoetropelaw23_CdefStays [.agg ⟨[.int .i64 x1, .int .i64 x2, .slice A3 n4 c5, .int .i64 x6, .int .i64 x7, .slice A8 n9 c10, .int .i64 x11, .int .i64 x12, .slice A13 n14 c15]⟩, .agg ⟨[.slice A16 n17 c18, .slice A19 n20 c21]⟩, .agg ⟨[.bool b22, .int .i64 x23, .bool b24, .bool b25, .int .i64 x26, .int .i64 x27, .int .i64 x28, .int .i64 x29, .int .i64 x30, .int .i64 x31, .int .i64 x32, .int .i64 x33, .int .i64 x34, .int .i64 x35, .int .i64 x36, .int .i64 x37, .int .i64 x38, .bool b39, .int .i64 x40, .int .i64 x41, .int .i64 x42, .int .i64 x43, .int .i64 x44, .bool b45, .int .i64 x46, .int .i64 x47, .slice A48 n49 c50, .bool b51, .bool b52, .bool b53]⟩] M =
 ob (acall P T k lo F.zoetropelaw23_awake [] M) fun r59 =>
 ob ((some r59.1).bind Value.bool?) fun b60 =>
 bb (!b60)
 (some (.ret (.bool false) r59.2))
 (ob (acall P T k lo F.cdef_Frame [.agg ⟨[.int .i64 x1, .int .i64 x2, .slice A3 n4 c5, .int .i64 x6, .int .i64 x7, .slice A8 n9 c10, .int .i64 x11, .int .i64 x12, .slice A13 n14 c15]⟩, .slice A16 n17 c18, .slice A19 n20 c21, .agg ⟨[.bool b22, .int .i64 x23, .bool b24, .bool b25, .int .i64 x26, .int .i64 x27, .int .i64 x28, .int .i64 x29, .int .i64 x30, .int .i64 x31, .int .i64 x32, .int .i64 x33, .int .i64 x34, .int .i64 x35, .int .i64 x36, .int .i64 x37, .int .i64 x38, .bool b39, .int .i64 x40, .int .i64 x41, .int .i64 x42, .int .i64 x43, .int .i64 x44, .bool b45, .int .i64 x46, .int .i64 x47, .slice A48 n49 c50, .bool b51, .bool b52, .bool b53]⟩] r59.2) fun r61 =>
 ob (r61.1.tup? 2) fun l62 =>
 ob ((l62[0]?).bind (Value.agg? 9)) fun l63 =>
 ob ((l63[0]?).bind (Value.int? .i64)) fun x64 =>
 ob ((l63[1]?).bind (Value.int? .i64)) fun x65 =>
 ob ((l63[2]?).bind Value.slc?) fun s66 =>
 ob ((l63[3]?).bind (Value.int? .i64)) fun x67 =>
 ob ((l63[4]?).bind (Value.int? .i64)) fun x68 =>
 ob ((l63[5]?).bind Value.slc?) fun s69 =>
 ob ((l63[6]?).bind (Value.int? .i64)) fun x70 =>
 ob ((l63[7]?).bind (Value.int? .i64)) fun x71 =>
 ob ((l63[8]?).bind Value.slc?) fun s72 =>
 ob ((l62[1]?).bind (Value.int? .i64)) fun x73 =>
 bb (x73 != 0)
 (some (.ret (.bool (x73 == 2)) r61.2))
 (some (zoetropelaw23_CdefStays.c1012 x1 0 x1 x2 A3 n4 c5 x6 x7 A8 n9 c10 x11 x12 A13 n14 c15 A16 n17 c18 A19 n20 c21 b22 x23 b24 b25 x26 x27 x28 x29 x30 x31 x32 x33 x34 x35 x36 x37 x38 b39 x40 x41 x42 x43 x44 b45 x46 x47 A48 n49 c50 b51 b52 b53 x64 x65 s66.a s66.n s66.c x67 x68 s69.a s69.n s69.c x70 x71 s72.a s72.n s72.c r61.2))) := by kernel_rfl
theorem zoetropelaw23_CdefStays.p1012 (k lo : Nat) (x1 : Int) (x2 : Int) (x3 : Int) (x4 : Int) (A5 : Option Addr) (n6 : Nat) (c7 : Nat) (x8 : Int) (x9 : Int) (A10 : Option Addr) (n11 : Nat) (c12 : Nat) (x13 : Int) (x14 : Int) (A15 : Option Addr) (n16 : Nat) (c17 : Nat) (A18 : Option Addr) (n19 : Nat) (c20 : Nat) (A21 : Option Addr) (n22 : Nat) (c23 : Nat) (b24 : Bool) (x25 : Int) (b26 : Bool) (b27 : Bool) (x28 : Int) (x29 : Int) (x30 : Int) (x31 : Int) (x32 : Int) (x33 : Int) (x34 : Int) (x35 : Int) (x36 : Int) (x37 : Int) (x38 : Int) (x39 : Int) (x40 : Int) (b41 : Bool) (x42 : Int) (x43 : Int) (x44 : Int) (x45 : Int) (x46 : Int) (b47 : Bool) (x48 : Int) (x49 : Int) (A50 : Option Addr) (n51 : Nat) (c52 : Nat) (b53 : Bool) (b54 : Bool) (b55 : Bool) (x56 : Int) (x57 : Int) (A58 : Option Addr) (n59 : Nat) (c60 : Nat) (x61 : Int) (x62 : Int) (A63 : Option Addr) (n64 : Nat) (c65 : Nat) (x66 : Int) (x67 : Int) (A68 : Option Addr) (n69 : Nat) (c70 : Nat) (M : Mem) : piece P T k lo F.zoetropelaw23_CdefStays 1012 [.l 3 0, .l 4 0, .l 5 0, .l 7 0, .v (.int .i64 x1), .v (.int .i64 x2)] [[.int .i64 x3, .int .i64 x4, .slice A5 n6 c7, .int .i64 x8, .int .i64 x9, .slice A10 n11 c12, .int .i64 x13, .int .i64 x14, .slice A15 n16 c17], [.slice A18 n19 c20, .slice A21 n22 c23], [.bool b24, .int .i64 x25, .bool b26, .bool b27, .int .i64 x28, .int .i64 x29, .int .i64 x30, .int .i64 x31, .int .i64 x32, .int .i64 x33, .int .i64 x34, .int .i64 x35, .int .i64 x36, .int .i64 x37, .int .i64 x38, .int .i64 x39, .int .i64 x40, .bool b41, .int .i64 x42, .int .i64 x43, .int .i64 x44, .int .i64 x45, .int .i64 x46, .bool b47, .int .i64 x48, .int .i64 x49, .slice A50 n51 c52, .bool b53, .bool b54, .bool b55], [.int .i64 x56, .int .i64 x57, .slice A58 n59 c60, .int .i64 x61, .int .i64 x62, .slice A63 n64 c65, .int .i64 x66, .int .i64 x67, .slice A68 n69 c70]] M =
 bb (decide (x2 < (n19 : Int)))
 (bb b47
 (pb (0 ≤ x2 ∧ x2 < (n19 : Int))
 (ob A18 fun a74 =>
 ob ((M.ld (plus a74 x2.toNat)).bind Value.bool?) fun b75 =>
 bb (!b75)
 (some (zoetropelaw23_CdefStays.c4051 x1 x2 x3 x4 A5 n6 c7 x8 x9 A10 n11 c12 x13 x14 A15 n16 c17 A18 n19 c20 A21 n22 c23 b24 x25 b26 b27 x28 x29 x30 x31 x32 x33 x34 x35 x36 x37 x38 x39 x40 b41 x42 x43 x44 x45 x46 b47 x48 x49 A50 n51 c52 b53 b54 b55 x56 x57 A58 n59 c60 x61 x62 A63 n64 c65 x66 x67 A68 n69 c70 M))
 (some (zoetropelaw23_CdefStays.c129612 x1 x2 0 x3 x4 A5 n6 c7 x8 x9 A10 n11 c12 x13 x14 A15 n16 c17 A18 n19 c20 A21 n22 c23 b24 x25 b26 b27 x28 x29 x30 x31 x32 x33 x34 x35 x36 x37 x38 x39 x40 b41 x42 x43 x44 x45 x46 b47 x48 x49 A50 n51 c52 b53 b54 b55 x56 x57 A58 n59 c60 x61 x62 A63 n64 c65 x66 x67 A68 n69 c70 M))) none)
 (some (zoetropelaw23_CdefStays.c129612 x1 x2 0 x3 x4 A5 n6 c7 x8 x9 A10 n11 c12 x13 x14 A15 n16 c17 A18 n19 c20 A21 n22 c23 b24 x25 b26 b27 x28 x29 x30 x31 x32 x33 x34 x35 x36 x37 x38 x39 x40 b41 x42 x43 x44 x45 x46 b47 x48 x49 A50 n51 c52 b53 b54 b55 x56 x57 A58 n59 c60 x61 x62 A63 n64 c65 x66 x67 A68 n69 c70 M)))
 (pb (0 ≤ (n51 : Int) ∧ room ((n51 : Int).toNat) 32)
 (ob (acall P T k lo F.cdef_Frame [.agg ⟨[.int .i64 x3, .int .i64 x4, .slice A5 n6 c7, .int .i64 x8, .int .i64 x9, .slice A10 n11 c12, .int .i64 x13, .int .i64 x14, .slice A15 n16 c17]⟩, .slice A18 n19 c20, .slice A21 n22 c23, .agg ⟨[.bool b24, .int .i64 x25, .bool b26, .bool b27, .int .i64 x28, .int .i64 x29, .int .i64 x30, .int .i64 x31, .int .i64 x32, .int .i64 x33, .int .i64 x34, .int .i64 x35, .int .i64 x36, .int .i64 x37, .int .i64 x38, .int .i64 x39, .int .i64 x40, .bool b41, .int .i64 x42, .int .i64 x43, .int .i64 x44, .int .i64 x45, .int .i64 x46, .bool b47, .int .i64 x48, .int .i64 x49, .slice (some ⟨M.length, 0, none⟩) ((n51 : Int).toNat) ((n51 : Int).toNat), .bool b53, .bool b54, .bool b55]⟩] (M ++ [⟨.fx, zerosL [.int .i64 0, .int .i64 0, .int .i64 0, .int .i64 0] ((n51 : Int).toNat)⟩] : Mem)) fun r76 =>
 ob (r76.1.tup? 2) fun l77 =>
 ob ((l77[0]?).bind (Value.agg? 9)) fun l78 =>
 ob ((l78[0]?).bind (Value.int? .i64)) fun x79 =>
 ob ((l78[1]?).bind (Value.int? .i64)) fun x80 =>
 ob ((l78[2]?).bind Value.slc?) fun s81 =>
 ob ((l78[3]?).bind (Value.int? .i64)) fun x82 =>
 ob ((l78[4]?).bind (Value.int? .i64)) fun x83 =>
 ob ((l78[5]?).bind Value.slc?) fun s84 =>
 ob ((l78[6]?).bind (Value.int? .i64)) fun x85 =>
 ob ((l78[7]?).bind (Value.int? .i64)) fun x86 =>
 ob ((l78[8]?).bind Value.slc?) fun s87 =>
 ob ((l77[1]?).bind (Value.int? .i64)) fun x88 =>
 bb (x88 == 0)
 (ob (acall P T k lo F.zoetropelaw23_alike [.agg ⟨[.int .i64 x79, .int .i64 x80, .slice s81.a s81.n s81.c, .int .i64 x82, .int .i64 x83, .slice s84.a s84.n s84.c, .int .i64 x85, .int .i64 x86, .slice s87.a s87.n s87.c]⟩, .agg ⟨[.int .i64 x3, .int .i64 x4, .slice A5 n6 c7, .int .i64 x8, .int .i64 x9, .slice A10 n11 c12, .int .i64 x13, .int .i64 x14, .slice A15 n16 c17]⟩] r76.2) fun r89 =>
 ob ((some r89.1).bind Value.bool?) fun b90 =>
 some (.ret (.bool b90) r89.2))
 (some (.ret (.bool false) r76.2))) none) := by kernel_rfl
theorem zoetropelaw23_CdefStays.p4051 (k lo : Nat) (x1 : Int) (x2 : Int) (x3 : Int) (x4 : Int) (A5 : Option Addr) (n6 : Nat) (c7 : Nat) (x8 : Int) (x9 : Int) (A10 : Option Addr) (n11 : Nat) (c12 : Nat) (x13 : Int) (x14 : Int) (A15 : Option Addr) (n16 : Nat) (c17 : Nat) (A18 : Option Addr) (n19 : Nat) (c20 : Nat) (A21 : Option Addr) (n22 : Nat) (c23 : Nat) (b24 : Bool) (x25 : Int) (b26 : Bool) (b27 : Bool) (x28 : Int) (x29 : Int) (x30 : Int) (x31 : Int) (x32 : Int) (x33 : Int) (x34 : Int) (x35 : Int) (x36 : Int) (x37 : Int) (x38 : Int) (x39 : Int) (x40 : Int) (b41 : Bool) (x42 : Int) (x43 : Int) (x44 : Int) (x45 : Int) (x46 : Int) (b47 : Bool) (x48 : Int) (x49 : Int) (A50 : Option Addr) (n51 : Nat) (c52 : Nat) (b53 : Bool) (b54 : Bool) (b55 : Bool) (x56 : Int) (x57 : Int) (A58 : Option Addr) (n59 : Nat) (c60 : Nat) (x61 : Int) (x62 : Int) (A63 : Option Addr) (n64 : Nat) (c65 : Nat) (x66 : Int) (x67 : Int) (A68 : Option Addr) (n69 : Nat) (c70 : Nat) (M : Mem) : piece P T k lo F.zoetropelaw23_CdefStays 4051 [.l 3 0, .l 4 0, .l 5 0, .l 7 0, .v (.int .i64 x1), .v (.int .i64 x2)] [[.int .i64 x3, .int .i64 x4, .slice A5 n6 c7, .int .i64 x8, .int .i64 x9, .slice A10 n11 c12, .int .i64 x13, .int .i64 x14, .slice A15 n16 c17], [.slice A18 n19 c20, .slice A21 n22 c23], [.bool b24, .int .i64 x25, .bool b26, .bool b27, .int .i64 x28, .int .i64 x29, .int .i64 x30, .int .i64 x31, .int .i64 x32, .int .i64 x33, .int .i64 x34, .int .i64 x35, .int .i64 x36, .int .i64 x37, .int .i64 x38, .int .i64 x39, .int .i64 x40, .bool b41, .int .i64 x42, .int .i64 x43, .int .i64 x44, .int .i64 x45, .int .i64 x46, .bool b47, .int .i64 x48, .int .i64 x49, .slice A50 n51 c52, .bool b53, .bool b54, .bool b55], [.int .i64 x56, .int .i64 x57, .slice A58 n59 c60, .int .i64 x61, .int .i64 x62, .slice A63 n64 c65, .int .i64 x66, .int .i64 x67, .slice A68 n69 c70]] M =
 some (zoetropelaw23_CdefStays.c1012 x1 (IntKind.i64.wrap (x2 + 1)) x3 x4 A5 n6 c7 x8 x9 A10 n11 c12 x13 x14 A15 n16 c17 A18 n19 c20 A21 n22 c23 b24 x25 b26 b27 x28 x29 x30 x31 x32 x33 x34 x35 x36 x37 x38 x39 x40 b41 x42 x43 x44 x45 x46 b47 x48 x49 A50 n51 c52 b53 b54 b55 x56 x57 A58 n59 c60 x61 x62 A63 n64 c65 x66 x67 A68 n69 c70 M) := by kernel_rfl
theorem zoetropelaw23_CdefStays.p129612 (k lo : Nat) (x1 : Int) (x2 : Int) (x3 : Int) (x4 : Int) (x5 : Int) (A6 : Option Addr) (n7 : Nat) (c8 : Nat) (x9 : Int) (x10 : Int) (A11 : Option Addr) (n12 : Nat) (c13 : Nat) (x14 : Int) (x15 : Int) (A16 : Option Addr) (n17 : Nat) (c18 : Nat) (A19 : Option Addr) (n20 : Nat) (c21 : Nat) (A22 : Option Addr) (n23 : Nat) (c24 : Nat) (b25 : Bool) (x26 : Int) (b27 : Bool) (b28 : Bool) (x29 : Int) (x30 : Int) (x31 : Int) (x32 : Int) (x33 : Int) (x34 : Int) (x35 : Int) (x36 : Int) (x37 : Int) (x38 : Int) (x39 : Int) (x40 : Int) (x41 : Int) (b42 : Bool) (x43 : Int) (x44 : Int) (x45 : Int) (x46 : Int) (x47 : Int) (b48 : Bool) (x49 : Int) (x50 : Int) (A51 : Option Addr) (n52 : Nat) (c53 : Nat) (b54 : Bool) (b55 : Bool) (b56 : Bool) (x57 : Int) (x58 : Int) (A59 : Option Addr) (n60 : Nat) (c61 : Nat) (x62 : Int) (x63 : Int) (A64 : Option Addr) (n65 : Nat) (c66 : Nat) (x67 : Int) (x68 : Int) (A69 : Option Addr) (n70 : Nat) (c71 : Nat) (M : Mem) : piece P T k lo F.zoetropelaw23_CdefStays 129612 [.l 3 0, .l 4 0, .l 5 0, .l 7 0, .v (.int .i64 x1), .v (.int .i64 x2), .v (.int .i64 x3)] [[.int .i64 x4, .int .i64 x5, .slice A6 n7 c8, .int .i64 x9, .int .i64 x10, .slice A11 n12 c13, .int .i64 x14, .int .i64 x15, .slice A16 n17 c18], [.slice A19 n20 c21, .slice A22 n23 c24], [.bool b25, .int .i64 x26, .bool b27, .bool b28, .int .i64 x29, .int .i64 x30, .int .i64 x31, .int .i64 x32, .int .i64 x33, .int .i64 x34, .int .i64 x35, .int .i64 x36, .int .i64 x37, .int .i64 x38, .int .i64 x39, .int .i64 x40, .int .i64 x41, .bool b42, .int .i64 x43, .int .i64 x44, .int .i64 x45, .int .i64 x46, .int .i64 x47, .bool b48, .int .i64 x49, .int .i64 x50, .slice A51 n52 c53, .bool b54, .bool b55, .bool b56], [.int .i64 x57, .int .i64 x58, .slice A59 n60 c61, .int .i64 x62, .int .i64 x63, .slice A64 n65 c66, .int .i64 x67, .int .i64 x68, .slice A69 n70 c71]] M =
 bb (decide (x3 < 3))
 (bb (decide (x3 > 0))
 (some (zoetropelaw23_CdefStays.c4147603 x1 x2 x3 4 x4 x5 A6 n7 c8 x9 x10 A11 n12 c13 x14 x15 A16 n17 c18 A19 n20 c21 A22 n23 c24 b25 x26 b27 b28 x29 x30 x31 x32 x33 x34 x35 x36 x37 x38 x39 x40 x41 b42 x43 x44 x45 x46 x47 b48 x49 x50 A51 n52 c53 b54 b55 b56 x57 x58 A59 n60 c61 x62 x63 A64 n65 c66 x67 x68 A69 n70 c71 M))
 (some (zoetropelaw23_CdefStays.c4147603 x1 x2 x3 8 x4 x5 A6 n7 c8 x9 x10 A11 n12 c13 x14 x15 A16 n17 c18 A19 n20 c21 A22 n23 c24 b25 x26 b27 b28 x29 x30 x31 x32 x33 x34 x35 x36 x37 x38 x39 x40 x41 b42 x43 x44 x45 x46 x47 b48 x49 x50 A51 n52 c53 b54 b55 b56 x57 x58 A59 n60 c61 x62 x63 A64 n65 c66 x67 x68 A69 n70 c71 M)))
 (some (zoetropelaw23_CdefStays.c4051 x1 x2 x4 x5 A6 n7 c8 x9 x10 A11 n12 c13 x14 x15 A16 n17 c18 A19 n20 c21 A22 n23 c24 b25 x26 b27 b28 x29 x30 x31 x32 x33 x34 x35 x36 x37 x38 x39 x40 x41 b42 x43 x44 x45 x46 x47 b48 x49 x50 A51 n52 c53 b54 b55 b56 x57 x58 A59 n60 c61 x62 x63 A64 n65 c66 x67 x68 A69 n70 c71 M)) := by kernel_rfl
theorem zoetropelaw23_CdefStays.p4147603 (k lo : Nat) (x1 : Int) (x2 : Int) (x3 : Int) (x4 : Int) (x5 : Int) (x6 : Int) (A7 : Option Addr) (n8 : Nat) (c9 : Nat) (x10 : Int) (x11 : Int) (A12 : Option Addr) (n13 : Nat) (c14 : Nat) (x15 : Int) (x16 : Int) (A17 : Option Addr) (n18 : Nat) (c19 : Nat) (A20 : Option Addr) (n21 : Nat) (c22 : Nat) (A23 : Option Addr) (n24 : Nat) (c25 : Nat) (b26 : Bool) (x27 : Int) (b28 : Bool) (b29 : Bool) (x30 : Int) (x31 : Int) (x32 : Int) (x33 : Int) (x34 : Int) (x35 : Int) (x36 : Int) (x37 : Int) (x38 : Int) (x39 : Int) (x40 : Int) (x41 : Int) (x42 : Int) (b43 : Bool) (x44 : Int) (x45 : Int) (x46 : Int) (x47 : Int) (x48 : Int) (b49 : Bool) (x50 : Int) (x51 : Int) (A52 : Option Addr) (n53 : Nat) (c54 : Nat) (b55 : Bool) (b56 : Bool) (b57 : Bool) (x58 : Int) (x59 : Int) (A60 : Option Addr) (n61 : Nat) (c62 : Nat) (x63 : Int) (x64 : Int) (A65 : Option Addr) (n66 : Nat) (c67 : Nat) (x68 : Int) (x69 : Int) (A70 : Option Addr) (n71 : Nat) (c72 : Nat) (M : Mem) : piece P T k lo F.zoetropelaw23_CdefStays 4147603 [.l 3 0, .l 4 0, .l 5 0, .l 7 0, .v (.int .i64 x1), .v (.int .i64 x2), .v (.int .i64 x3), .v (.int .i64 x4)] [[.int .i64 x5, .int .i64 x6, .slice A7 n8 c9, .int .i64 x10, .int .i64 x11, .slice A12 n13 c14, .int .i64 x15, .int .i64 x16, .slice A17 n18 c19], [.slice A20 n21 c22, .slice A23 n24 c25], [.bool b26, .int .i64 x27, .bool b28, .bool b29, .int .i64 x30, .int .i64 x31, .int .i64 x32, .int .i64 x33, .int .i64 x34, .int .i64 x35, .int .i64 x36, .int .i64 x37, .int .i64 x38, .int .i64 x39, .int .i64 x40, .int .i64 x41, .int .i64 x42, .bool b43, .int .i64 x44, .int .i64 x45, .int .i64 x46, .int .i64 x47, .int .i64 x48, .bool b49, .int .i64 x50, .int .i64 x51, .slice A52 n53 c54, .bool b55, .bool b56, .bool b57], [.int .i64 x58, .int .i64 x59, .slice A60 n61 c62, .int .i64 x63, .int .i64 x64, .slice A65 n66 c67, .int .i64 x68, .int .i64 x69, .slice A70 n71 c72]] M =
 pb (IntKind.i64.wrap (Int.tdiv x1 8) = 0) none
 (pb (IntKind.i64.wrap (Int.tdiv x1 8) = 0) none
 (pb (0 ≤ x3 ∧ x3 < (3 : Int))
 (ob ((([.int .i64 x5, .int .i64 x6, .slice A7 n8 c9, .int .i64 x10, .int .i64 x11, .slice A12 n13 c14, .int .i64 x15, .int .i64 x16, .slice A17 n18 c19] : List Value)[0 + (x3.toNat * 3) + 0]?).bind (Value.int? .i64)) fun x91 =>
 ob ((([.int .i64 x5, .int .i64 x6, .slice A7 n8 c9, .int .i64 x10, .int .i64 x11, .slice A12 n13 c14, .int .i64 x15, .int .i64 x16, .slice A17 n18 c19] : List Value)[0 + (x3.toNat * 3) + 1]?).bind (Value.int? .i64)) fun x92 =>
 ob ((([.int .i64 x5, .int .i64 x6, .slice A7 n8 c9, .int .i64 x10, .int .i64 x11, .slice A12 n13 c14, .int .i64 x15, .int .i64 x16, .slice A17 n18 c19] : List Value)[0 + (x3.toNat * 3) + 2]?).bind Value.slc?) fun s93 =>
 ob (acall P T k lo F.plane_Cut [.agg ⟨[.int .i64 x91, .int .i64 x92, .slice s93.a s93.n s93.c]⟩, .agg ⟨[.int .i64 (IntKind.i64.wrap ((Int.tmod x2 (IntKind.i64.wrap (Int.tdiv x1 8))) * x4)), .int .i64 (IntKind.i64.wrap ((IntKind.i64.wrap (Int.tdiv x2 (IntKind.i64.wrap (Int.tdiv x1 8)))) * x4)), .int .i64 x4, .int .i64 x4]⟩] M) fun r94 =>
 ob (r94.1.tup? 2) fun l95 =>
 ob ((l95[0]?).bind Value.slc?) fun s96 =>
 ob ((l95[1]?).bind (Value.int? .i64)) fun x97 =>
 pb (0 ≤ x3 ∧ x3 < (3 : Int))
 (ob ((([.int .i64 x58, .int .i64 x59, .slice A60 n61 c62, .int .i64 x63, .int .i64 x64, .slice A65 n66 c67, .int .i64 x68, .int .i64 x69, .slice A70 n71 c72] : List Value)[0 + (x3.toNat * 3) + 0]?).bind (Value.int? .i64)) fun x98 =>
 ob ((([.int .i64 x58, .int .i64 x59, .slice A60 n61 c62, .int .i64 x63, .int .i64 x64, .slice A65 n66 c67, .int .i64 x68, .int .i64 x69, .slice A70 n71 c72] : List Value)[0 + (x3.toNat * 3) + 1]?).bind (Value.int? .i64)) fun x99 =>
 ob ((([.int .i64 x58, .int .i64 x59, .slice A60 n61 c62, .int .i64 x63, .int .i64 x64, .slice A65 n66 c67, .int .i64 x68, .int .i64 x69, .slice A70 n71 c72] : List Value)[0 + (x3.toNat * 3) + 2]?).bind Value.slc?) fun s100 =>
 ob (acall P T k lo F.plane_Cut [.agg ⟨[.int .i64 x98, .int .i64 x99, .slice s100.a s100.n s100.c]⟩, .agg ⟨[.int .i64 (IntKind.i64.wrap ((Int.tmod x2 (IntKind.i64.wrap (Int.tdiv x1 8))) * x4)), .int .i64 (IntKind.i64.wrap ((IntKind.i64.wrap (Int.tdiv x2 (IntKind.i64.wrap (Int.tdiv x1 8)))) * x4)), .int .i64 x4, .int .i64 x4]⟩] r94.2) fun r101 =>
 ob (r101.1.tup? 2) fun l102 =>
 ob ((l102[0]?).bind Value.slc?) fun s103 =>
 ob ((l102[1]?).bind (Value.int? .i64)) fun x104 =>
 bb (x97 != 0)
 (some (.ret (.bool false) r101.2))
 (bb (x104 != 0)
 (some (.ret (.bool false) r101.2))
 (ob (acall P T k lo F.zoetroperef00_EqBytes [.slice s96.a s96.n s96.c, .slice s103.a s103.n s103.c] r101.2) fun r105 =>
 ob ((some r105.1).bind Value.bool?) fun b106 =>
 bb (!b106)
 (some (.ret (.bool false) r105.2))
 (some (zoetropelaw23_CdefStays.c129612 x1 x2 (IntKind.i64.wrap (x3 + 1)) x5 x6 A7 n8 c9 x10 x11 A12 n13 c14 x15 x16 A17 n18 c19 A20 n21 c22 A23 n24 c25 b26 x27 b28 b29 x30 x31 x32 x33 x34 x35 x36 x37 x38 x39 x40 x41 x42 b43 x44 x45 x46 x47 x48 b49 x50 x51 A52 n53 c54 b55 b56 b57 x58 x59 A60 n61 c62 x63 x64 A65 n66 c67 x68 x69 A70 n71 c72 r105.2))))) none) none)) := by kernel_rfl
theorem zoetroperef00_CopyBytes.entry (k lo : Nat) (A1 : Option Addr) (n2 : Nat) (c3 : Nat) (M : Mem) : entry P T k lo F.zoetroperef00_CopyBytes [.slice A1 n2 c3] M =
 ob (Mem.src M A1 n2 n2) fun l9 =>
 ob (M.app lo 1 1 ⟨none, 0, 0⟩ l9 n2) fun r10 =>
 some (.ret (.slice r10.1.a r10.1.n r10.1.c) r10.2) := by kernel_rfl
theorem cdef_Direction.entry (k lo : Nat) (A1 : Option Addr) (n2 : Nat) (c3 : Nat) (M : Mem) : entry P T k lo F.cdef_Direction [.slice A1 n2 c3] M =
 bb ((n2 : Int) != 64)
 (some (.ret (.tuple ⟨[.int .i64 0, .int .i64 0, .int .i64 2]⟩) M))
 (some (cdef_Direction.c244 0 A1 n2 c3 (n2 : Int) 0 ([.int .i64 0, .int .i64 0, .int .i64 0, .int .i64 0, .int .i64 0, .int .i64 0, .int .i64 0, .int .i64 0, .int .i64 0, .int .i64 0, .int .i64 0, .int .i64 0, .int .i64 0, .int .i64 0, .int .i64 0, .int .i64 0, .int .i64 0, .int .i64 0, .int .i64 0, .int .i64 0, .int .i64 0, .int .i64 0, .int .i64 0, .int .i64 0, .int .i64 0, .int .i64 0, .int .i64 0, .int .i64 0, .int .i64 0, .int .i64 0, .int .i64 0, .int .i64 0, .int .i64 0, .int .i64 0, .int .i64 0, .int .i64 0, .int .i64 0, .int .i64 0, .int .i64 0, .int .i64 0, .int .i64 0, .int .i64 0, .int .i64 0, .int .i64 0, .int .i64 0, .int .i64 0, .int .i64 0, .int .i64 0, .int .i64 0, .int .i64 0, .int .i64 0, .int .i64 0, .int .i64 0, .int .i64 0, .int .i64 0, .int .i64 0, .int .i64 0, .int .i64 0, .int .i64 0, .int .i64 0, .int .i64 0, .int .i64 0, .int .i64 0, .int .i64 0, .int .i64 0, .int .i64 0, .int .i64 0, .int .i64 0, .int .i64 0, .int .i64 0, .int .i64 0, .int .i64 0, .int .i64 0, .int .i64 0, .int .i64 0, .int .i64 0, .int .i64 0, .int .i64 0, .int .i64 0, .int .i64 0, .int .i64 0, .int .i64 0, .int .i64 0, .int .i64 0, .int .i64 0, .int .i64 0, .int .i64 0, .int .i64 0, .int .i64 0, .int .i64 0, .int .i64 0, .int .i64 0, .int .i64 0, .int .i64 0, .int .i64 0, .int .i64 0, .int .i64 0, .int .i64 0, .int .i64 0, .int .i64 0, .int .i64 0, .int .i64 0, .int .i64 0, .int .i64 0, .int .i64 0, .int .i64 0, .int .i64 0, .int .i64 0, .int .i64 0, .int .i64 0, .int .i64 0, .int .i64 0, .int .i64 0, .int .i64 0, .int .i64 0, .int .i64 0, .int .i64 0, .int .i64 0, .int .i64 0, .int .i64 0, .int .i64 0, .int .i64 0, .int .i64 0, .int .i64 0, .int .i64 0, .int .i64 0, .int .i64 0, .int .i64 0]) ([.int .i64 0, .int .i64 0, .int .i64 0, .int .i64 0, .int .i64 0, .int .i64 0, .int .i64 0, .int .i64 0, .int .i64 0, .int .i64 0, .int .i64 0, .int .i64 0, .int .i64 0, .int .i64 0, .int .i64 0, .int .i64 0, .int .i64 0, .int .i64 0, .int .i64 0, .int .i64 0, .int .i64 0, .int .i64 0, .int .i64 0, .int .i64 0, .int .i64 0, .int .i64 0, .int .i64 0, .int .i64 0, .int .i64 0, .int .i64 0, .int .i64 0, .int .i64 0, .int .i64 0, .int .i64 0, .int .i64 0, .int .i64 0, .int .i64 0, .int .i64 0, .int .i64 0, .int .i64 0, .int .i64 0, .int .i64 0, .int .i64 0, .int .i64 0, .int .i64 0, .int .i64 0, .int .i64 0, .int .i64 0, .int .i64 0, .int .i64 0, .int .i64 0, .int .i64 0, .int .i64 0, .int .i64 0, .int .i64 0, .int .i64 0, .int .i64 0, .int .i64 0, .int .i64 0, .int .i64 0, .int .i64 0, .int .i64 0, .int .i64 0, .int .i64 0, .int .i64 0, .int .i64 0, .int .i64 0, .int .i64 0, .int .i64 0, .int .i64 0, .int .i64 0, .int .i64 0, .int .i64 0, .int .i64 0, .int .i64 0, .int .i64 0, .int .i64 0, .int .i64 0, .int .i64 0, .int .i64 0, .int .i64 0, .int .i64 0, .int .i64 0, .int .i64 0, .int .i64 0, .int .i64 0, .int .i64 0, .int .i64 0, .int .i64 0, .int .i64 0, .int .i64 0, .int .i64 0, .int .i64 0, .int .i64 0, .int .i64 0, .int .i64 0, .int .i64 0, .int .i64 0, .int .i64 0, .int .i64 0, .int .i64 0, .int .i64 0, .int .i64 0, .int .i64 0, .int .i64 0, .int .i64 0, .int .i64 0, .int .i64 0, .int .i64 0, .int .i64 0, .int .i64 0, .int .i64 0, .int .i64 0, .int .i64 0, .int .i64 0, .int .i64 0, .int .i64 0, .int .i64 0, .int .i64 0, .int .i64 0, .int .i64 0, .int .i64 0, .int .i64 0, .int .i64 0, .int .i64 0, .int .i64 0, .int .i64 0, .int .i64 0]) M)) := by kernel_rfl
theorem cdef_Direction.p244 (k lo : Nat) (x1 : Int) (A2 : Option Addr) (n3 : Nat) (c4 : Nat) (x5 : Int) (x6 : Int) (cs7 : List Value) (cs8 : List Value) (M : Mem) : piece P T k lo F.cdef_Direction 244 [.v (.int .i64 x1), .l 5 0, .l 6 0, .v (.slice A2 n3 c4), .v (.int .i64 x5), .v (.int .i64 x6)] [cs7, cs8] M =
 bb (decide (x6 < x5))
 (pb (0 ≤ x6 ∧ x6 < (n3 : Int))
 (ob A2 fun a9 =>
 ob ((M.ld (plus a9 x6.toNat)).bind (Value.int? .u8)) fun x10 =>
 ob (acall P T k lo F.cdef_lines [.int .i64 (IntKind.i64.wrap (Int.tdiv x6 8)), .int .i64 (Int.tmod x6 8)] M) fun r11 =>
 ob ((some r11.1).bind (Value.agg? 8)) fun l12 =>
 ob ((l12[0]?).bind (Value.int? .i64)) fun x13 =>
 ob ((l12[1]?).bind (Value.int? .i64)) fun x14 =>
 ob ((l12[2]?).bind (Value.int? .i64)) fun x15 =>
 ob ((l12[3]?).bind (Value.int? .i64)) fun x16 =>
 ob ((l12[4]?).bind (Value.int? .i64)) fun x17 =>
 ob ((l12[5]?).bind (Value.int? .i64)) fun x18 =>
 ob ((l12[6]?).bind (Value.int? .i64)) fun x19 =>
 ob ((l12[7]?).bind (Value.int? .i64)) fun x20 =>
 some (cdef_Direction.c62668 x1 x10 A2 n3 c4 x5 x6 x13 x14 x15 x16 x17 x18 x19 x20 0 cs7 cs8 r11.2)) none)
 (some (cdef_Direction.c1012 x1 0 cs7 cs8 ([.int .i64 0, .int .i64 0, .int .i64 0, .int .i64 0, .int .i64 0, .int .i64 0, .int .i64 0, .int .i64 0]) M)) := by kernel_rfl
theorem cdef_Direction.p1012 (k lo : Nat) (x1 : Int) (x2 : Int) (cs3 : List Value) (cs4 : List Value) (cs5 : List Value) (M : Mem) : piece P T k lo F.cdef_Direction 1012 [.v (.int .i64 x1), .l 5 0, .l 6 0, .l 11 0, .v (.int .i64 x2)] [cs3, cs4, cs5] M =
 bb (decide (x2 < 8))
 (pb (0 ≤ x2 ∧ x2 < (8 : Int))
 (ob ((cs4[0 + (x2.toNat * 16) + 0]?).bind (Value.int? .i64)) fun x21 =>
 ob ((cs4[0 + (x2.toNat * 16) + 1]?).bind (Value.int? .i64)) fun x22 =>
 ob ((cs4[0 + (x2.toNat * 16) + 2]?).bind (Value.int? .i64)) fun x23 =>
 ob ((cs4[0 + (x2.toNat * 16) + 3]?).bind (Value.int? .i64)) fun x24 =>
 ob ((cs4[0 + (x2.toNat * 16) + 4]?).bind (Value.int? .i64)) fun x25 =>
 ob ((cs4[0 + (x2.toNat * 16) + 5]?).bind (Value.int? .i64)) fun x26 =>
 ob ((cs4[0 + (x2.toNat * 16) + 6]?).bind (Value.int? .i64)) fun x27 =>
 ob ((cs4[0 + (x2.toNat * 16) + 7]?).bind (Value.int? .i64)) fun x28 =>
 ob ((cs4[0 + (x2.toNat * 16) + 8]?).bind (Value.int? .i64)) fun x29 =>
 ob ((cs4[0 + (x2.toNat * 16) + 9]?).bind (Value.int? .i64)) fun x30 =>
 ob ((cs4[0 + (x2.toNat * 16) + 10]?).bind (Value.int? .i64)) fun x31 =>
 ob ((cs4[0 + (x2.toNat * 16) + 11]?).bind (Value.int? .i64)) fun x32 =>
 ob ((cs4[0 + (x2.toNat * 16) + 12]?).bind (Value.int? .i64)) fun x33 =>
 ob ((cs4[0 + (x2.toNat * 16) + 13]?).bind (Value.int? .i64)) fun x34 =>
 ob ((cs4[0 + (x2.toNat * 16) + 14]?).bind (Value.int? .i64)) fun x35 =>
 ob ((cs4[0 + (x2.toNat * 16) + 15]?).bind (Value.int? .i64)) fun x36 =>
 some (cdef_Direction.c2074196 x1 x2 x2 x21 x22 x23 x24 x25 x26 x27 x28 x29 x30 x31 x32 x33 x34 x35 x36 0 cs3 cs4 cs5 M)) none)
 (pb (0 ≤ x1 ∧ x1 < (8 : Int))
 (ob ((cs5[0 + x1.toNat + 0]?).bind (Value.int? .i64)) fun x37 =>
 pb (0 ≤ Int.tmod (IntKind.i64.wrap (x1 + 4)) 8 ∧ Int.tmod (IntKind.i64.wrap (x1 + 4)) 8 < (8 : Int))
 (ob ((cs5[0 + ((Int.tmod (IntKind.i64.wrap (x1 + 4)) 8).toNat) + 0]?).bind (Value.int? .i64)) fun x38 =>
 some (.ret (.tuple ⟨[.int .i64 x1, .int .i64 (shrI .i64 (IntKind.i64.wrap (x37 - x38)) 10), .int .i64 0]⟩) M)) none) none) := by kernel_rfl
theorem cdef_Direction.p8103 (k lo : Nat) (x1 : Int) (x2 : Int) (cs3 : List Value) (cs4 : List Value) (cs5 : List Value) (M : Mem) : piece P T k lo F.cdef_Direction 8103 [.v (.int .i64 x1), .l 5 0, .l 6 0, .l 11 0, .v (.int .i64 x2)] [cs3, cs4, cs5] M =
 some (cdef_Direction.c1012 x1 (IntKind.i64.wrap (x2 + 1)) cs3 cs4 cs5 M) := by kernel_rfl
theorem cdef_Direction.p62668 (k lo : Nat) (x1 : Int) (x2 : Int) (A3 : Option Addr) (n4 : Nat) (c5 : Nat) (x6 : Int) (x7 : Int) (x8 : Int) (x9 : Int) (x10 : Int) (x11 : Int) (x12 : Int) (x13 : Int) (x14 : Int) (x15 : Int) (x16 : Int) (cs17 : List Value) (cs18 : List Value) (M : Mem) : piece P T k lo F.cdef_Direction 62668 [.v (.int .i64 x1), .l 5 0, .l 6 0, .v (.int .u8 x2), .v (.slice A3 n4 c5), .v (.int .i64 x6), .v (.int .i64 x7), .v (.agg ⟨[.int .i64 x8, .int .i64 x9, .int .i64 x10, .int .i64 x11, .int .i64 x12, .int .i64 x13, .int .i64 x14, .int .i64 x15]⟩), .v (.int .i64 x16)] [cs17, cs18] M =
 bb (decide (x16 < 8))
 (pb (0 ≤ x16 ∧ x16 < (8 : Int))
 (ob ((([.int .i64 x8, .int .i64 x9, .int .i64 x10, .int .i64 x11, .int .i64 x12, .int .i64 x13, .int .i64 x14, .int .i64 x15] : List Value)[x16.toNat + 0]?).bind (Value.int? .i64)) fun x39 =>
 pb (0 ≤ x16 ∧ x16 < (8 : Int))
 (pb (0 ≤ x39 ∧ x39 < (16 : Int))
 (ob ((cs17[0 + (x16.toNat * 16) + x39.toNat + 0]?).bind (Value.int? .i64)) fun x40 =>
 pb (0 ≤ x16 ∧ x16 < (8 : Int))
 (pb (0 ≤ x39 ∧ x39 < (16 : Int))
 (pb (0 + (x16.toNat * 16) + x39.toNat + 1 ≤ cs17.length)
 (pb (0 ≤ x16 ∧ x16 < (8 : Int))
 (pb (0 ≤ x39 ∧ x39 < (16 : Int))
 (ob ((cs18[0 + (x16.toNat * 16) + x39.toNat + 0]?).bind (Value.int? .i64)) fun x41 =>
 pb (0 ≤ x16 ∧ x16 < (8 : Int))
 (pb (0 ≤ x39 ∧ x39 < (16 : Int))
 (pb (0 + (x16.toNat * 16) + x39.toNat + 1 ≤ cs18.length)
 (some (cdef_Direction.c62668 x1 x2 A3 n4 c5 x6 x7 x8 x9 x10 x11 x12 x13 x14 x15 (IntKind.i64.wrap (x16 + 1)) (setL cs17 (0 + (x16.toNat * 16) + x39.toNat) [.int .i64 (IntKind.i64.wrap (x40 + (IntKind.i64.wrap ((IntKind.i64.wrap x2) - 128))))]) (setL cs18 (0 + (x16.toNat * 16) + x39.toNat) [.int .i64 (IntKind.i64.wrap (x41 + 1))]) M)) none) none) none) none) none) none) none) none) none) none) none)
 (some (cdef_Direction.c244 x1 A3 n4 c5 x6 (IntKind.i64.wrap (x7 + 1)) cs17 cs18 M)) := by kernel_rfl
theorem cdef_Direction.p2074196 (k lo : Nat) (x1 : Int) (x2 : Int) (x3 : Int) (x4 : Int) (x5 : Int) (x6 : Int) (x7 : Int) (x8 : Int) (x9 : Int) (x10 : Int) (x11 : Int) (x12 : Int) (x13 : Int) (x14 : Int) (x15 : Int) (x16 : Int) (x17 : Int) (x18 : Int) (x19 : Int) (x20 : Int) (cs21 : List Value) (cs22 : List Value) (cs23 : List Value) (M : Mem) : piece P T k lo F.cdef_Direction 2074196 [.v (.int .i64 x1), .l 5 0, .l 6 0, .l 11 0, .v (.int .i64 x2), .v (.int .i64 x3), .v (.agg ⟨[.int .i64 x4, .int .i64 x5, .int .i64 x6, .int .i64 x7, .int .i64 x8, .int .i64 x9, .int .i64 x10, .int .i64 x11, .int .i64 x12, .int .i64 x13, .int .i64 x14, .int .i64 x15, .int .i64 x16, .int .i64 x17, .int .i64 x18, .int .i64 x19]⟩), .v (.int .i64 x20)] [cs21, cs22, cs23] M =
 bb (decide (x20 < 16))
 (pb (0 ≤ x20 ∧ x20 < (16 : Int))
 (ob ((([.int .i64 x4, .int .i64 x5, .int .i64 x6, .int .i64 x7, .int .i64 x8, .int .i64 x9, .int .i64 x10, .int .i64 x11, .int .i64 x12, .int .i64 x13, .int .i64 x14, .int .i64 x15, .int .i64 x16, .int .i64 x17, .int .i64 x18, .int .i64 x19] : List Value)[x20.toNat + 0]?).bind (Value.int? .i64)) fun x42 =>
 bb (x42 == 0)
 (some (cdef_Direction.c16593575 x1 x2 x3 x4 x5 x6 x7 x8 x9 x10 x11 x12 x13 x14 x15 x16 x17 x18 x19 x20 cs21 cs22 cs23 M))
 (pb (0 ≤ x2 ∧ x2 < (8 : Int))
 (ob ((cs23[0 + x2.toNat + 0]?).bind (Value.int? .i64)) fun x43 =>
 pb (0 ≤ x2 ∧ x2 < (8 : Int))
 (pb (0 ≤ x20 ∧ x20 < (16 : Int))
 (ob ((cs21[0 + (x2.toNat * 16) + x20.toNat + 0]?).bind (Value.int? .i64)) fun x44 =>
 pb (0 ≤ x2 ∧ x2 < (8 : Int))
 (pb (0 ≤ x20 ∧ x20 < (16 : Int))
 (ob ((cs21[0 + (x2.toNat * 16) + x20.toNat + 0]?).bind (Value.int? .i64)) fun x45 =>
 pb (x42 = 0) none
 (pb (0 ≤ x2 ∧ x2 < (8 : Int))
 (pb (0 + x2.toNat + 1 ≤ cs23.length)
 (some (cdef_Direction.c16593575 x1 x2 x3 x4 x5 x6 x7 x8 x9 x10 x11 x12 x13 x14 x15 x16 x17 x18 x19 x20 cs21 cs22 (setL cs23 (0 + x2.toNat) [.int .i64 (IntKind.i64.wrap (x43 + (IntKind.i64.wrap ((IntKind.i64.wrap (x44 * x45)) * (IntKind.i64.wrap (Int.tdiv 840 x42))))))]) M)) none) none)) none) none) none) none) none)) none)
 (pb (0 ≤ x2 ∧ x2 < (8 : Int))
 (ob ((cs23[0 + x2.toNat + 0]?).bind (Value.int? .i64)) fun x46 =>
 pb (0 ≤ x1 ∧ x1 < (8 : Int))
 (ob ((cs23[0 + x1.toNat + 0]?).bind (Value.int? .i64)) fun x47 =>
 bb (decide (x46 > x47))
 (some (cdef_Direction.c8103 x2 x3 cs21 cs22 cs23 M))
 (some (cdef_Direction.c8103 x1 x3 cs21 cs22 cs23 M))) none) none) := by kernel_rfl
theorem cdef_Direction.p16593575 (k lo : Nat) (x1 : Int) (x2 : Int) (x3 : Int) (x4 : Int) (x5 : Int) (x6 : Int) (x7 : Int) (x8 : Int) (x9 : Int) (x10 : Int) (x11 : Int) (x12 : Int) (x13 : Int) (x14 : Int) (x15 : Int) (x16 : Int) (x17 : Int) (x18 : Int) (x19 : Int) (x20 : Int) (cs21 : List Value) (cs22 : List Value) (cs23 : List Value) (M : Mem) : piece P T k lo F.cdef_Direction 16593575 [.v (.int .i64 x1), .l 5 0, .l 6 0, .l 11 0, .v (.int .i64 x2), .v (.int .i64 x3), .v (.agg ⟨[.int .i64 x4, .int .i64 x5, .int .i64 x6, .int .i64 x7, .int .i64 x8, .int .i64 x9, .int .i64 x10, .int .i64 x11, .int .i64 x12, .int .i64 x13, .int .i64 x14, .int .i64 x15, .int .i64 x16, .int .i64 x17, .int .i64 x18, .int .i64 x19]⟩), .v (.int .i64 x20)] [cs21, cs22, cs23] M =
 some (cdef_Direction.c2074196 x1 x2 x3 x4 x5 x6 x7 x8 x9 x10 x11 x12 x13 x14 x15 x16 x17 x18 x19 (IntKind.i64.wrap (x20 + 1)) cs21 cs22 cs23 M) := by kernel_rfl
theorem zoetroperef23_Direction.entry (k lo : Nat) (A1 : Option Addr) (n2 : Nat) (c3 : Nat) (M : Mem) : entry P T k lo F.zoetroperef23_Direction [.slice A1 n2 c3] M =
 bb ((n2 : Int) != 64)
 (some (.ret (.tuple ⟨[.int .i64 0, .int .i64 0, .int .i64 2]⟩) M))
 (some (zoetroperef23_Direction.c244 A1 n2 c3 0 1 M)) := by kernel_rfl
theorem zoetroperef23_Direction.p244 (k lo : Nat) (A1 : Option Addr) (n2 : Nat) (c3 : Nat) (x4 : Int) (x5 : Int) (M : Mem) : piece P T k lo F.zoetroperef23_Direction 244 [.v (.slice A1 n2 c3), .v (.int .i64 x4), .v (.int .i64 x5)] [] M =
 bb (decide (x5 < 8))
 (ob (acall P T k lo F.zoetroperef23_weight [.slice A1 n2 c3, .int .i64 x5] M) fun r9 =>
 ob ((some r9.1).bind (Value.int? .i64)) fun x10 =>
 ob (acall P T k lo F.zoetroperef23_weight [.slice A1 n2 c3, .int .i64 x4] r9.2) fun r11 =>
 ob ((some r11.1).bind (Value.int? .i64)) fun x12 =>
 bb (decide (x10 > x12))
 (some (zoetroperef23_Direction.c979 A1 n2 c3 x5 x5 r11.2))
 (some (zoetroperef23_Direction.c979 A1 n2 c3 x4 x5 r11.2)))
 (ob (acall P T k lo F.zoetroperef23_weight [.slice A1 n2 c3, .int .i64 x4] M) fun r13 =>
 ob ((some r13.1).bind (Value.int? .i64)) fun x14 =>
 ob (acall P T k lo F.zoetroperef23_weight [.slice A1 n2 c3, .int .i64 (Int.tmod (IntKind.i64.wrap (x4 + 4)) 8)] r13.2) fun r15 =>
 ob ((some r15.1).bind (Value.int? .i64)) fun x16 =>
 some (.ret (.tuple ⟨[.int .i64 x4, .int .i64 (shrI .i64 (IntKind.i64.wrap (x14 - x16)) 10), .int .i64 0]⟩) r15.2)) := by kernel_rfl
theorem zoetroperef23_Direction.p979 (k lo : Nat) (A1 : Option Addr) (n2 : Nat) (c3 : Nat) (x4 : Int) (x5 : Int) (M : Mem) : piece P T k lo F.zoetroperef23_Direction 979 [.v (.slice A1 n2 c3), .v (.int .i64 x4), .v (.int .i64 x5)] [] M =
 some (zoetroperef23_Direction.c244 A1 n2 c3 x4 (IntKind.i64.wrap (x5 + 1)) M) := by kernel_rfl
theorem zoetroperef00_EqBytes.entry (k lo : Nat) (A1 : Option Addr) (n2 : Nat) (c3 : Nat) (A4 : Option Addr) (n5 : Nat) (c6 : Nat) (M : Mem) : entry P T k lo F.zoetroperef00_EqBytes [.slice A1 n2 c3, .slice A4 n5 c6] M =
 bb ((n2 : Int) != (n5 : Int))
 (some (.ret (.bool false) M))
 (some (zoetroperef00_EqBytes.c116 A1 n2 c3 A4 n5 c6 0 M)) := by kernel_rfl
theorem zoetroperef00_EqBytes.p116 (k lo : Nat) (A1 : Option Addr) (n2 : Nat) (c3 : Nat) (A4 : Option Addr) (n5 : Nat) (c6 : Nat) (x7 : Int) (M : Mem) : piece P T k lo F.zoetroperef00_EqBytes 116 [.v (.slice A1 n2 c3), .v (.slice A4 n5 c6), .v (.int .i64 x7)] [] M =
 bb (decide (x7 < (n2 : Int)))
 (pb (0 ≤ x7 ∧ x7 < (n2 : Int))
 (ob A1 fun a12 =>
 ob ((M.ld (plus a12 x7.toNat)).bind (Value.int? .u8)) fun x13 =>
 pb (0 ≤ x7 ∧ x7 < (n5 : Int))
 (ob A4 fun a14 =>
 ob ((M.ld (plus a14 x7.toNat)).bind (Value.int? .u8)) fun x15 =>
 bb (x13 != x15)
 (some (.ret (.bool false) M))
 (some (zoetroperef00_EqBytes.c116 A1 n2 c3 A4 n5 c6 (IntKind.i64.wrap (x7 + 1)) M))) none) none)
 (some (.ret (.bool true) M)) := by kernel_rfl
theorem cdef_Limit.entry (k lo : Nat) (x1 : Int) (x2 : Int) (x3 : Int) (M : Mem) : entry P T k lo F.cdef_Limit [.int .i64 x1, .int .i64 x2, .int .i64 x3] M =
 ob (acall P T k lo F.cdef_clip [.int .i64 x1, .int .i64 (-1048576), .int .i64 1048576] M) fun r9 =>
 ob ((some r9.1).bind (Value.int? .i64)) fun x10 =>
 ob (acall P T k lo F.cdef_clip [.int .i64 x2, .int .i64 (-1048576), .int .i64 1048576] r9.2) fun r11 =>
 ob ((some r11.1).bind (Value.int? .i64)) fun x12 =>
 ob (acall P T k lo F.cdef_clip [.int .i64 x3, .int .i64 (-1048576), .int .i64 1048576] r11.2) fun r13 =>
 ob ((some r13.1).bind (Value.int? .i64)) fun x14 =>
 bb (decide (x12 ≤ 0))
 (some (.ret (.int .i64 0) r13.2))
 (ob (acall P T k lo F.math_bits_Len [.int .u64 (IntKind.u64.wrap x12)] r13.2) fun r15 =>
 ob ((some r15.1).bind (Value.int? .i64)) fun x16 =>
 ob (acall P T k lo F.cdef_clip [.int .i64 (IntKind.i64.wrap ((IntKind.i64.wrap (x14 - x16)) + 1)), .int .i64 0, .int .i64 60] r15.2) fun r17 =>
 ob ((some r17.1).bind (Value.int? .i64)) fun x18 =>
 pb (x18 < 0) none
 (bb (decide (x10 < 0))
 (some (.ret (.int .i64 (IntKind.i64.wrap (0 - (minI (maxI x10 (IntKind.i64.wrap (0 - x10))) (maxI 0 (IntKind.i64.wrap (x12 - (shrI .i64 (maxI x10 (IntKind.i64.wrap (0 - x10))) x18.toNat)))))))) r17.2))
 (some (.ret (.int .i64 (minI (maxI x10 (IntKind.i64.wrap (0 - x10))) (maxI 0 (IntKind.i64.wrap (x12 - (shrI .i64 (maxI x10 (IntKind.i64.wrap (0 - x10))) x18.toNat)))))) r17.2)))) := by kernel_rfl
theorem zoetroperef23_Limit.entry (k lo : Nat) (x1 : Int) (x2 : Int) (x3 : Int) (M : Mem) : entry P T k lo F.zoetroperef23_Limit [.int .i64 x1, .int .i64 x2, .int .i64 x3] M =
 ob (acall P T k lo F.zoetroperef00_Clip [.int .i64 x1, .int .i64 (-1048576), .int .i64 1048576] M) fun r9 =>
 ob ((some r9.1).bind (Value.int? .i64)) fun x10 =>
 ob (acall P T k lo F.zoetroperef00_Clip [.int .i64 x2, .int .i64 (-1048576), .int .i64 1048576] r9.2) fun r11 =>
 ob ((some r11.1).bind (Value.int? .i64)) fun x12 =>
 ob (acall P T k lo F.zoetroperef00_Clip [.int .i64 x3, .int .i64 (-1048576), .int .i64 1048576] r11.2) fun r13 =>
 ob ((some r13.1).bind (Value.int? .i64)) fun x14 =>
 bb (decide (x12 ≤ 0))
 (some (.ret (.int .i64 0) r13.2))
 (ob (acall P T k lo F.zoetroperef00_Log [.int .i64 x12] r13.2) fun r15 =>
 ob ((some r15.1).bind (Value.int? .i64)) fun x16 =>
 ob (acall P T k lo F.zoetroperef00_Abs [.int .i64 x10] r15.2) fun r17 =>
 ob ((some r17.1).bind (Value.int? .i64)) fun x18 =>
 ob (acall P T k lo F.zoetroperef00_Abs [.int .i64 x10] r17.2) fun r19 =>
 ob ((some r19.1).bind (Value.int? .i64)) fun x20 =>
 pb ((minI (maxI (IntKind.i64.wrap (x14 - x16)) 0) 60) < 0) none
 (bb (decide (x10 < 0))
 (some (.ret (.int .i64 (IntKind.i64.wrap (0 - (minI x18 (maxI 0 (IntKind.i64.wrap (x12 - (shrI .i64 x20 ((minI (maxI (IntKind.i64.wrap (x14 - x16)) 0) 60).toNat))))))))) r19.2))
 (some (.ret (.int .i64 (minI x18 (maxI 0 (IntKind.i64.wrap (x12 - (shrI .i64 x20 ((minI (maxI (IntKind.i64.wrap (x14 - x16)) 0) 60).toNat))))))) r19.2)))) := by kernel_rfl
theorem zoetropelaw23_awake.entry (k lo : Nat) (M : Mem) : entry P T k lo F.zoetropelaw23_awake [] M =
 ob (acall P T k lo F.zoetropelaw23_usual [] M) fun r6 =>
 ob ((some r6.1).bind (Value.agg? 3)) fun l7 =>
 ob ((l7[0]?).bind (Value.int? .i64)) fun x8 =>
 ob ((l7[1]?).bind (Value.int? .i64)) fun x9 =>
 ob ((l7[2]?).bind Value.slc?) fun s10 =>
 ob (acall P T k lo F.cdef_Block [.agg ⟨[.int .i64 x8, .int .i64 x9, .slice s10.a s10.n s10.c]⟩, .agg ⟨[.int .i64 0, .int .i64 0, .int .i64 5, .int .i64 1]⟩, .int .i64 2, .int .i64 4, .int .i64 0, .int .i64 3] r6.2) fun r11 =>
 ob (r11.1.tup? 2) fun l12 =>
 ob ((l12[0]?).bind Value.slc?) fun s13 =>
 ob ((l12[1]?).bind (Value.int? .i64)) fun x14 =>
 ob (acall P T k lo F.zoetropelaw23_stripes [.bool false, .int .u8 0, .int .u8 255] r11.2) fun r15 =>
 ob ((some r15.1).bind Value.slc?) fun s16 =>
 ob (acall P T k lo F.cdef_Direction [.slice s16.a s16.n s16.c] r15.2) fun r17 =>
 ob (r17.1.tup? 3) fun l18 =>
 ob ((l18[0]?).bind (Value.int? .i64)) fun x19 =>
 ob ((l18[1]?).bind (Value.int? .i64)) fun x20 =>
 ob ((l18[2]?).bind (Value.int? .i64)) fun x21 =>
 ob (acall P T k lo F.zoetropelaw23_stripes [.bool true, .int .u8 0, .int .u8 255] r17.2) fun r22 =>
 ob ((some r22.1).bind Value.slc?) fun s23 =>
 ob (acall P T k lo F.cdef_Direction [.slice s23.a s23.n s23.c] r22.2) fun r24 =>
 ob (r24.1.tup? 3) fun l25 =>
 ob ((l25[0]?).bind (Value.int? .i64)) fun x26 =>
 ob ((l25[1]?).bind (Value.int? .i64)) fun x27 =>
 ob ((l25[2]?).bind (Value.int? .i64)) fun x28 =>
 bb (x14 == 0)
 (bb (x21 == 0)
 (bb (x28 == 0)
 (ob (acall P T k lo F.zoetroperef00_EqBytes [.slice s13.a s13.n s13.c, .slice (some ⟨r24.2.length, 0, none⟩) 5 5] (r24.2 ++ [⟨.fx, [.int .u8 10, .int .u8 11, .int .u8 12, .int .u8 11, .int .u8 10]⟩] : Mem)) fun r29 =>
 ob ((some r29.1).bind Value.bool?) fun b30 =>
 bb b30
 (bb (x19 == 2)
 (bb (x20 == 853453)
 (bb (x26 == 6)
 (bb (x27 == 853453)
 (ob (acall P T k lo F.cdef_Limit [.int .i64 5, .int .i64 8, .int .i64 5] r29.2) fun r31 =>
 ob ((some r31.1).bind (Value.int? .i64)) fun x32 =>
 bb (x32 == 5)
 (ob (acall P T k lo F.cdef_Limit [.int .i64 (-40), .int .i64 8, .int .i64 5] r31.2) fun r33 =>
 ob ((some r33.1).bind (Value.int? .i64)) fun x34 =>
 some (.ret (.bool (x34 == 0)) r33.2))
 (some (.ret (.bool false) r31.2)))
 (some (.ret (.bool false) r29.2)))
 (some (.ret (.bool false) r29.2)))
 (some (.ret (.bool false) r29.2)))
 (some (.ret (.bool false) r29.2)))
 (some (.ret (.bool false) r29.2)))
 (some (.ret (.bool false) r24.2)))
 (some (.ret (.bool false) r24.2)))
 (some (.ret (.bool false) r24.2)) := by kernel_rfl
theorem zoetroperef05_CopyPlane.entry (k lo : Nat) (x1 : Int) (x2 : Int) (A3 : Option Addr) (n4 : Nat) (c5 : Nat) (M : Mem) : entry P T k lo F.zoetroperef05_CopyPlane [.agg ⟨[.int .i64 x1, .int .i64 x2, .slice A3 n4 c5]⟩] M =
 ob (acall P T k M.length F.zoetroperef00_CopyBytes [.slice A3 n4 c5] M) fun r11 =>
 ob ((some r11.1).bind Value.slc?) fun s12 =>
 some (.ret (.agg ⟨[.int .i64 x1, .int .i64 x2, .slice s12.a s12.n s12.c]⟩) r11.2) := by kernel_rfl
theorem cdef_Block.entry (k lo : Nat) (x1 : Int) (x2 : Int) (A3 : Option Addr) (n4 : Nat) (c5 : Nat) (x6 : Int) (x7 : Int) (x8 : Int) (x9 : Int) (x10 : Int) (x11 : Int) (x12 : Int) (x13 : Int) (M : Mem) : entry P T k lo F.cdef_Block [.agg ⟨[.int .i64 x1, .int .i64 x2, .slice A3 n4 c5]⟩, .agg ⟨[.int .i64 x6, .int .i64 x7, .int .i64 x8, .int .i64 x9]⟩, .int .i64 x10, .int .i64 x11, .int .i64 x12, .int .i64 x13] M =
 ob (acall P T k lo F.plane_Check [.agg ⟨[.int .i64 x1, .int .i64 x2, .slice A3 n4 c5]⟩] M) fun r19 =>
 ob ((some r19.1).bind (Value.int? .i64)) fun x20 =>
 bb (x20 == 0)
 (ob (acall P T k lo F.cdef_within [.int .i64 x8, .int .i64 1, .int .i64 64] r19.2) fun r21 =>
 ob ((some r21.1).bind Value.bool?) fun b22 =>
 bb b22
 (ob (acall P T k lo F.cdef_within [.int .i64 x9, .int .i64 1, .int .i64 64] r21.2) fun r23 =>
 ob ((some r23.1).bind Value.bool?) fun b24 =>
 bb b24
 (ob (acall P T k lo F.cdef_within [.int .i64 x6, .int .i64 0, .int .i64 (IntKind.i64.wrap (x1 - x8))] r23.2) fun r25 =>
 ob ((some r25.1).bind Value.bool?) fun b26 =>
 bb b26
 (ob (acall P T k lo F.cdef_within [.int .i64 x7, .int .i64 0, .int .i64 (IntKind.i64.wrap (x2 - x9))] r25.2) fun r27 =>
 ob ((some r27.1).bind Value.bool?) fun b28 =>
 bb (!b28)
 (some (.ret (.tuple ⟨[.slice none 0 0, .int .i64 2]⟩) r27.2))
 (ob (acall P T k lo F.cdef_within [.int .i64 x10, .int .i64 0, .int .i64 7] r27.2) fun r29 =>
 ob ((some r29.1).bind Value.bool?) fun b30 =>
 bb (!b30)
 (some (.ret (.tuple ⟨[.slice none 0 0, .int .i64 2]⟩) r29.2))
 (ob (acall P T k lo F.cdef_within [.int .i64 x11, .int .i64 0, .int .i64 15] r29.2) fun r31 =>
 ob ((some r31.1).bind Value.bool?) fun b32 =>
 bb (!b32)
 (some (.ret (.tuple ⟨[.slice none 0 0, .int .i64 2]⟩) r31.2))
 (ob (acall P T k lo F.cdef_within [.int .i64 x12, .int .i64 0, .int .i64 4] r31.2) fun r33 =>
 ob ((some r33.1).bind Value.bool?) fun b34 =>
 bb (!b34)
 (some (.ret (.tuple ⟨[.slice none 0 0, .int .i64 2]⟩) r33.2))
 (ob (acall P T k lo F.cdef_within [.int .i64 x13, .int .i64 0, .int .i64 6] r33.2) fun r35 =>
 ob ((some r35.1).bind Value.bool?) fun b36 =>
 bb (!b36)
 (some (.ret (.tuple ⟨[.slice none 0 0, .int .i64 2]⟩) r35.2))
 (ob (acall P T k lo F.cdef_taps [.int .i64 x10, .int .i64 x11, .int .i64 x12] r35.2) fun r37 =>
 ob ((some r37.1).bind Value.slc?) fun s38 =>
 pb (0 ≤ IntKind.i64.wrap (x8 * x9) ∧ room ((IntKind.i64.wrap (x8 * x9)).toNat) 1)
 (some (cdef_Block.c1012 x13 s38.a s38.n s38.c (some ⟨r37.2.length, 0, some 0⟩) 0 0 x7 x1 x2 A3 n4 c5 x6 x7 x8 x9 (r37.2 ++ [⟨.op 1, []⟩] : Mem))) none))))))
 (some (.ret (.tuple ⟨[.slice none 0 0, .int .i64 2]⟩) r25.2)))
 (some (.ret (.tuple ⟨[.slice none 0 0, .int .i64 2]⟩) r23.2)))
 (some (.ret (.tuple ⟨[.slice none 0 0, .int .i64 2]⟩) r21.2)))
 (some (.ret (.tuple ⟨[.slice none 0 0, .int .i64 2]⟩) r19.2)) := by kernel_rfl
theorem cdef_Block.p1012 (k lo : Nat) (x1 : Int) (A2 : Option Addr) (n3 : Nat) (c4 : Nat) (A5 : Option Addr) (n6 : Nat) (c7 : Nat) (x8 : Int) (x9 : Int) (x10 : Int) (A11 : Option Addr) (n12 : Nat) (c13 : Nat) (x14 : Int) (x15 : Int) (x16 : Int) (x17 : Int) (M : Mem) : piece P T k lo F.cdef_Block 1012 [.v (.int .i64 x1), .l 6 0, .l 7 0, .v (.slice A2 n3 c4), .v (.slice A5 n6 c7), .v (.int .i64 x8)] [[.int .i64 x9, .int .i64 x10, .slice A11 n12 c13], [.int .i64 x14, .int .i64 x15, .int .i64 x16, .int .i64 x17]] M =
 bb (decide (x8 < IntKind.i64.wrap (x15 + x17)))
 (some (cdef_Block.c64804 x1 A2 n3 c4 A5 n6 c7 x8 x14 x9 x10 A11 n12 c13 x14 x15 x16 x17 M))
 (some (.ret (.tuple ⟨[.slice A5 n6 c7, .int .i64 0]⟩) M)) := by kernel_rfl
theorem cdef_Block.p64804 (k lo : Nat) (x1 : Int) (A2 : Option Addr) (n3 : Nat) (c4 : Nat) (A5 : Option Addr) (n6 : Nat) (c7 : Nat) (x8 : Int) (x9 : Int) (x10 : Int) (x11 : Int) (A12 : Option Addr) (n13 : Nat) (c14 : Nat) (x15 : Int) (x16 : Int) (x17 : Int) (x18 : Int) (M : Mem) : piece P T k lo F.cdef_Block 64804 [.v (.int .i64 x1), .l 6 0, .l 7 0, .v (.slice A2 n3 c4), .v (.slice A5 n6 c7), .v (.int .i64 x8), .v (.int .i64 x9)] [[.int .i64 x10, .int .i64 x11, .slice A12 n13 c14], [.int .i64 x15, .int .i64 x16, .int .i64 x17, .int .i64 x18]] M =
 bb (decide (x9 < IntKind.i64.wrap (x15 + x17)))
 (ob (acall P T k lo F.cdef_sample [.agg ⟨[.int .i64 x10, .int .i64 x11, .slice A12 n13 c14]⟩, .int .i64 x9, .int .i64 x8, .slice A2 n3 c4, .int .i64 x1] M) fun r39 =>
 ob ((some r39.1).bind (Value.int? .u8)) fun x40 =>
 ob (r39.2.app lo 1 1 ⟨A5, n6, c7⟩ ([.int .u8 x40]) 1) fun r41 =>
 some (cdef_Block.c64804 x1 A2 n3 c4 r41.1.a r41.1.n r41.1.c x8 (IntKind.i64.wrap (x9 + 1)) x10 x11 A12 n13 c14 x15 x16 x17 x18 r41.2))
 (some (cdef_Block.c1012 x1 A2 n3 c4 A5 n6 c7 (IntKind.i64.wrap (x8 + 1)) x10 x11 A12 n13 c14 x15 x16 x17 x18 M)) := by kernel_rfl
theorem zoetroperef23_Block.entry (k lo : Nat) (x1 : Int) (x2 : Int) (A3 : Option Addr) (n4 : Nat) (c5 : Nat) (x6 : Int) (x7 : Int) (x8 : Int) (x9 : Int) (x10 : Int) (x11 : Int) (x12 : Int) (x13 : Int) (M : Mem) : entry P T k lo F.zoetroperef23_Block [.agg ⟨[.int .i64 x1, .int .i64 x2, .slice A3 n4 c5]⟩, .agg ⟨[.int .i64 x6, .int .i64 x7, .int .i64 x8, .int .i64 x9]⟩, .int .i64 x10, .int .i64 x11, .int .i64 x12, .int .i64 x13] M =
 ob (acall P T k lo F.zoetroperef05_Check [.agg ⟨[.int .i64 x1, .int .i64 x2, .slice A3 n4 c5]⟩] M) fun r19 =>
 ob ((some r19.1).bind (Value.int? .i64)) fun x20 =>
 bb (x20 != 0)
 (some (.ret (.tuple ⟨[.slice none 0 0, .int .i64 2]⟩) r19.2))
 (bb (decide (x8 < 1))
 (some (.ret (.tuple ⟨[.slice none 0 0, .int .i64 2]⟩) r19.2))
 (bb (decide (x8 > 64))
 (some (.ret (.tuple ⟨[.slice none 0 0, .int .i64 2]⟩) r19.2))
 (bb (decide (x9 < 1))
 (some (.ret (.tuple ⟨[.slice none 0 0, .int .i64 2]⟩) r19.2))
 (bb (decide (x9 > 64))
 (some (.ret (.tuple ⟨[.slice none 0 0, .int .i64 2]⟩) r19.2))
 (ob (acall P T k lo F.zoetroperef05_Within [.agg ⟨[.int .i64 x1, .int .i64 x2, .slice A3 n4 c5]⟩, .agg ⟨[.int .i64 x6, .int .i64 x7, .int .i64 x8, .int .i64 x9]⟩] r19.2) fun r21 =>
 ob ((some r21.1).bind Value.bool?) fun b22 =>
 bb (!b22)
 (some (.ret (.tuple ⟨[.slice none 0 0, .int .i64 2]⟩) r21.2))
 (bb (decide (x10 < 0))
 (some (.ret (.tuple ⟨[.slice none 0 0, .int .i64 2]⟩) r21.2))
 (bb (decide (x10 > 7))
 (some (.ret (.tuple ⟨[.slice none 0 0, .int .i64 2]⟩) r21.2))
 (bb (decide (x11 < 0))
 (some (.ret (.tuple ⟨[.slice none 0 0, .int .i64 2]⟩) r21.2))
 (bb (decide (x11 > 15))
 (some (.ret (.tuple ⟨[.slice none 0 0, .int .i64 2]⟩) r21.2))
 (bb (decide (x12 < 0))
 (some (.ret (.tuple ⟨[.slice none 0 0, .int .i64 2]⟩) r21.2))
 (bb (decide (x12 > 4))
 (some (.ret (.tuple ⟨[.slice none 0 0, .int .i64 2]⟩) r21.2))
 (bb (decide (x13 < 0))
 (some (.ret (.tuple ⟨[.slice none 0 0, .int .i64 2]⟩) r21.2))
 (bb (decide (x13 > 6))
 (some (.ret (.tuple ⟨[.slice none 0 0, .int .i64 2]⟩) r21.2))
 (some (zoetroperef23_Block.c500 x10 x11 x12 x13 none 0 0 x7 x1 x2 A3 n4 c5 x6 x7 x8 x9 r21.2))))))))))))))) := by kernel_rfl
theorem zoetroperef23_Block.p500 (k lo : Nat) (x1 : Int) (x2 : Int) (x3 : Int) (x4 : Int) (A5 : Option Addr) (n6 : Nat) (c7 : Nat) (x8 : Int) (x9 : Int) (x10 : Int) (A11 : Option Addr) (n12 : Nat) (c13 : Nat) (x14 : Int) (x15 : Int) (x16 : Int) (x17 : Int) (M : Mem) : piece P T k lo F.zoetroperef23_Block 500 [.v (.int .i64 x1), .v (.int .i64 x2), .v (.int .i64 x3), .v (.int .i64 x4), .l 6 0, .l 7 0, .v (.slice A5 n6 c7), .v (.int .i64 x8)] [[.int .i64 x9, .int .i64 x10, .slice A11 n12 c13], [.int .i64 x14, .int .i64 x15, .int .i64 x16, .int .i64 x17]] M =
 bb (decide (x8 < IntKind.i64.wrap (x15 + x17)))
 (some (zoetroperef23_Block.c32036 x1 x2 x3 x4 A5 n6 c7 x8 x14 x9 x10 A11 n12 c13 x14 x15 x16 x17 M))
 (some (.ret (.tuple ⟨[.slice A5 n6 c7, .int .i64 0]⟩) M)) := by kernel_rfl
theorem zoetroperef23_Block.p32036 (k lo : Nat) (x1 : Int) (x2 : Int) (x3 : Int) (x4 : Int) (A5 : Option Addr) (n6 : Nat) (c7 : Nat) (x8 : Int) (x9 : Int) (x10 : Int) (x11 : Int) (A12 : Option Addr) (n13 : Nat) (c14 : Nat) (x15 : Int) (x16 : Int) (x17 : Int) (x18 : Int) (M : Mem) : piece P T k lo F.zoetroperef23_Block 32036 [.v (.int .i64 x1), .v (.int .i64 x2), .v (.int .i64 x3), .v (.int .i64 x4), .l 6 0, .l 7 0, .v (.slice A5 n6 c7), .v (.int .i64 x8), .v (.int .i64 x9)] [[.int .i64 x10, .int .i64 x11, .slice A12 n13 c14], [.int .i64 x15, .int .i64 x16, .int .i64 x17, .int .i64 x18]] M =
 bb (decide (x9 < IntKind.i64.wrap (x15 + x17)))
 (ob (acall P T k lo F.zoetroperef23_sample [.agg ⟨[.int .i64 x10, .int .i64 x11, .slice A12 n13 c14]⟩, .int .i64 x9, .int .i64 x8, .agg ⟨[.int .i64 x1, .int .i64 x2, .int .i64 x3, .int .i64 x4]⟩] M) fun r23 =>
 ob ((some r23.1).bind (Value.int? .u8)) fun x24 =>
 ob (r23.2.app lo 1 1 ⟨A5, n6, c7⟩ ([.int .u8 x24]) 1) fun r25 =>
 some (zoetroperef23_Block.c32036 x1 x2 x3 x4 r25.1.a r25.1.n r25.1.c x8 (IntKind.i64.wrap (x9 + 1)) x10 x11 A12 n13 c14 x15 x16 x17 x18 r25.2))
 (some (zoetroperef23_Block.c500 x1 x2 x3 x4 A5 n6 c7 (IntKind.i64.wrap (x8 + 1)) x10 x11 A12 n13 c14 x15 x16 x17 x18 M)) := by kernel_rfl
theorem plane_Check.entry (k lo : Nat) (x1 : Int) (x2 : Int) (A3 : Option Addr) (n4 : Nat) (c5 : Nat) (M : Mem) : entry P T k lo F.plane_Check [.agg ⟨[.int .i64 x1, .int .i64 x2, .slice A3 n4 c5]⟩] M =
 ob (acall P T k lo F.plane_sizes [.int .i64 x1, .int .i64 x2] M) fun r11 =>
 ob ((some r11.1).bind Value.bool?) fun b12 =>
 bb (!b12)
 (some (.ret (.int .i64 2) r11.2))
 (bb ((n4 : Int) != IntKind.i64.wrap (x1 * x2))
 (some (.ret (.int .i64 2) r11.2))
 (some (.ret (.int .i64 0) r11.2))) := by kernel_rfl
theorem zoetroperef00_Bring.entry (k lo : Nat) (x1 : Int) (x2 : Int) (M : Mem) : entry P T k lo F.zoetroperef00_Bring [.int .i64 x1, .int .i64 x2] M =
 bb (decide (x2 ≤ 0))
 (some (.ret (.int .i64 0) M))
 (pb (x2 = 0) none
 (bb (decide (Int.tmod x1 x2 < 0))
 (some (zoetroperef00_Bring.c31 (IntKind.i64.wrap ((Int.tmod x1 x2) + x2)) M))
 (some (zoetroperef00_Bring.c31 (Int.tmod x1 x2) M)))) := by kernel_rfl
theorem zoetroperef00_Bring.p31 (k lo : Nat) (x1 : Int) (M : Mem) : piece P T k lo F.zoetroperef00_Bring 31 [.v (.int .i64 x1)] [] M =
 some (.ret (.int .i64 x1) M) := by kernel_rfl
theorem zoetropelaw23_stripes.entry (k lo : Nat) (b1 : Bool) (x2 : Int) (x3 : Int) (M : Mem) : entry P T k lo F.zoetropelaw23_stripes [.bool b1, .int .u8 x2, .int .u8 x3] M =
 some (zoetropelaw23_stripes.c116 b1 x2 x3 none 0 0 0 M) := by kernel_rfl
theorem zoetropelaw23_stripes.p116 (k lo : Nat) (b1 : Bool) (x2 : Int) (x3 : Int) (A4 : Option Addr) (n5 : Nat) (c6 : Nat) (x7 : Int) (M : Mem) : piece P T k lo F.zoetropelaw23_stripes 116 [.v (.bool b1), .v (.int .u8 x2), .v (.int .u8 x3), .v (.slice A4 n5 c6), .v (.int .i64 x7)] [] M =
 bb (decide (x7 < 64))
 (bb b1
 (some (zoetropelaw23_stripes.c3731 b1 x2 x3 A4 n5 c6 x7 (Int.tmod x7 8) M))
 (some (zoetropelaw23_stripes.c3731 b1 x2 x3 A4 n5 c6 x7 (IntKind.i64.wrap (Int.tdiv x7 8)) M)))
 (some (.ret (.slice A4 n5 c6) M)) := by kernel_rfl
theorem zoetropelaw23_stripes.p467 (k lo : Nat) (b1 : Bool) (x2 : Int) (x3 : Int) (A4 : Option Addr) (n5 : Nat) (c6 : Nat) (x7 : Int) (M : Mem) : piece P T k lo F.zoetropelaw23_stripes 467 [.v (.bool b1), .v (.int .u8 x2), .v (.int .u8 x3), .v (.slice A4 n5 c6), .v (.int .i64 x7)] [] M =
 some (zoetropelaw23_stripes.c116 b1 x2 x3 A4 n5 c6 (IntKind.i64.wrap (x7 + 1)) M) := by kernel_rfl
theorem zoetropelaw23_stripes.p3731 (k lo : Nat) (b1 : Bool) (x2 : Int) (x3 : Int) (A4 : Option Addr) (n5 : Nat) (c6 : Nat) (x7 : Int) (x8 : Int) (M : Mem) : piece P T k lo F.zoetropelaw23_stripes 3731 [.v (.bool b1), .v (.int .u8 x2), .v (.int .u8 x3), .v (.slice A4 n5 c6), .v (.int .i64 x7), .v (.int .i64 x8)] [] M =
 bb (Int.tmod (IntKind.i64.wrap (Int.tdiv x8 2)) 2 == 0)
 (ob (M.app lo 1 1 ⟨A4, n5, c6⟩ ([.int .u8 x2]) 1) fun r9 =>
 some (zoetropelaw23_stripes.c467 b1 x2 x3 r9.1.a r9.1.n r9.1.c x7 r9.2))
 (ob (M.app lo 1 1 ⟨A4, n5, c6⟩ ([.int .u8 x3]) 1) fun r10 =>
 some (zoetropelaw23_stripes.c467 b1 x2 x3 r10.1.a r10.1.n r10.1.c x7 r10.2)) := by kernel_rfl
theorem zoetroperef05_CopyFrame.entry (k lo : Nat) (x1 : Int) (x2 : Int) (A3 : Option Addr) (n4 : Nat) (c5 : Nat) (x6 : Int) (x7 : Int) (A8 : Option Addr) (n9 : Nat) (c10 : Nat) (x11 : Int) (x12 : Int) (A13 : Option Addr) (n14 : Nat) (c15 : Nat) (M : Mem) : entry P T k lo F.zoetroperef05_CopyFrame [.agg ⟨[.int .i64 x1, .int .i64 x2, .slice A3 n4 c5, .int .i64 x6, .int .i64 x7, .slice A8 n9 c10, .int .i64 x11, .int .i64 x12, .slice A13 n14 c15]⟩] M =
 some (zoetroperef05_CopyFrame.c116 0 x1 x2 A3 n4 c5 x6 x7 A8 n9 c10 x11 x12 A13 n14 c15 0 0 none 0 0 0 0 none 0 0 0 0 none 0 0 ([.int .i64 0, .int .i64 0, .slice none 0 0, .int .i64 0, .int .i64 0, .slice none 0 0, .int .i64 0, .int .i64 0, .slice none 0 0]) M) := by kernel_rfl
theorem zoetroperef05_CopyFrame.p116 (k lo : Nat) (x1 : Int) (x2 : Int) (x3 : Int) (A4 : Option Addr) (n5 : Nat) (c6 : Nat) (x7 : Int) (x8 : Int) (A9 : Option Addr) (n10 : Nat) (c11 : Nat) (x12 : Int) (x13 : Int) (A14 : Option Addr) (n15 : Nat) (c16 : Nat) (x17 : Int) (x18 : Int) (A19 : Option Addr) (n20 : Nat) (c21 : Nat) (x22 : Int) (x23 : Int) (A24 : Option Addr) (n25 : Nat) (c26 : Nat) (x27 : Int) (x28 : Int) (A29 : Option Addr) (n30 : Nat) (c31 : Nat) (cs32 : List Value) (M : Mem) : piece P T k lo F.zoetroperef05_CopyFrame 116 [.l 1 0, .l 2 0, .l 3 0, .v (.int .i64 x1)] [[.int .i64 x2, .int .i64 x3, .slice A4 n5 c6, .int .i64 x7, .int .i64 x8, .slice A9 n10 c11, .int .i64 x12, .int .i64 x13, .slice A14 n15 c16], [.int .i64 x17, .int .i64 x18, .slice A19 n20 c21, .int .i64 x22, .int .i64 x23, .slice A24 n25 c26, .int .i64 x27, .int .i64 x28, .slice A29 n30 c31], cs32] M =
 bb (decide (x1 < 3))
 (pb (0 ≤ x1 ∧ x1 < (3 : Int))
 (ob ((([.int .i64 x2, .int .i64 x3, .slice A4 n5 c6, .int .i64 x7, .int .i64 x8, .slice A9 n10 c11, .int .i64 x12, .int .i64 x13, .slice A14 n15 c16] : List Value)[0 + (x1.toNat * 3) + 0]?).bind (Value.int? .i64)) fun x33 =>
 ob ((([.int .i64 x2, .int .i64 x3, .slice A4 n5 c6, .int .i64 x7, .int .i64 x8, .slice A9 n10 c11, .int .i64 x12, .int .i64 x13, .slice A14 n15 c16] : List Value)[0 + (x1.toNat * 3) + 1]?).bind (Value.int? .i64)) fun x34 =>
 ob ((([.int .i64 x2, .int .i64 x3, .slice A4 n5 c6, .int .i64 x7, .int .i64 x8, .slice A9 n10 c11, .int .i64 x12, .int .i64 x13, .slice A14 n15 c16] : List Value)[0 + (x1.toNat * 3) + 2]?).bind Value.slc?) fun s35 =>
 ob (acall P T k lo F.zoetroperef05_CopyPlane [.agg ⟨[.int .i64 x33, .int .i64 x34, .slice s35.a s35.n s35.c]⟩] M) fun r36 =>
 ob ((some r36.1).bind (Value.agg? 3)) fun l37 =>
 ob ((l37[0]?).bind (Value.int? .i64)) fun x38 =>
 ob ((l37[1]?).bind (Value.int? .i64)) fun x39 =>
 ob ((l37[2]?).bind Value.slc?) fun s40 =>
 pb (0 ≤ x1 ∧ x1 < (3 : Int))
 (pb (0 + (x1.toNat * 3) + 3 ≤ cs32.length)
 (some (zoetroperef05_CopyFrame.c116 (IntKind.i64.wrap (x1 + 1)) x2 x3 A4 n5 c6 x7 x8 A9 n10 c11 x12 x13 A14 n15 c16 x17 x18 A19 n20 c21 x22 x23 A24 n25 c26 x27 x28 A29 n30 c31 (setL cs32 (0 + (x1.toNat * 3)) [.int .i64 x38, .int .i64 x39, .slice s40.a s40.n s40.c]) r36.2)) none) none) none)
 (ob ((cs32[0]?).bind (Value.int? .i64)) fun x41 =>
 ob ((cs32[1]?).bind (Value.int? .i64)) fun x42 =>
 ob ((cs32[2]?).bind Value.slc?) fun s43 =>
 ob ((cs32[3]?).bind (Value.int? .i64)) fun x44 =>
 ob ((cs32[4]?).bind (Value.int? .i64)) fun x45 =>
 ob ((cs32[5]?).bind Value.slc?) fun s46 =>
 ob ((cs32[6]?).bind (Value.int? .i64)) fun x47 =>
 ob ((cs32[7]?).bind (Value.int? .i64)) fun x48 =>
 ob ((cs32[8]?).bind Value.slc?) fun s49 =>
 some (.ret (.agg ⟨[.int .i64 x41, .int .i64 x42, .slice s43.a s43.n s43.c, .int .i64 x44, .int .i64 x45, .slice s46.a s46.n s46.c, .int .i64 x47, .int .i64 x48, .slice s49.a s49.n s49.c]⟩) M)) := by kernel_rfl
theorem cdef_Frame.entry (k lo : Nat) (x1 : Int) (x2 : Int) (A3 : Option Addr) (n4 : Nat) (c5 : Nat) (x6 : Int) (x7 : Int) (A8 : Option Addr) (n9 : Nat) (c10 : Nat) (x11 : Int) (x12 : Int) (A13 : Option Addr) (n14 : Nat) (c15 : Nat) (A16 : Option Addr) (n17 : Nat) (c18 : Nat) (A19 : Option Addr) (n20 : Nat) (c21 : Nat) (b22 : Bool) (x23 : Int) (b24 : Bool) (b25 : Bool) (x26 : Int) (x27 : Int) (x28 : Int) (x29 : Int) (x30 : Int) (x31 : Int) (x32 : Int) (x33 : Int) (x34 : Int) (x35 : Int) (x36 : Int) (x37 : Int) (x38 : Int) (b39 : Bool) (x40 : Int) (x41 : Int) (x42 : Int) (x43 : Int) (x44 : Int) (b45 : Bool) (x46 : Int) (x47 : Int) (A48 : Option Addr) (n49 : Nat) (c50 : Nat) (b51 : Bool) (b52 : Bool) (b53 : Bool) (M : Mem) : entry P T k lo F.cdef_Frame [.agg ⟨[.int .i64 x1, .int .i64 x2, .slice A3 n4 c5, .int .i64 x6, .int .i64 x7, .slice A8 n9 c10, .int .i64 x11, .int .i64 x12, .slice A13 n14 c15]⟩, .slice A16 n17 c18, .slice A19 n20 c21, .agg ⟨[.bool b22, .int .i64 x23, .bool b24, .bool b25, .int .i64 x26, .int .i64 x27, .int .i64 x28, .int .i64 x29, .int .i64 x30, .int .i64 x31, .int .i64 x32, .int .i64 x33, .int .i64 x34, .int .i64 x35, .int .i64 x36, .int .i64 x37, .int .i64 x38, .bool b39, .int .i64 x40, .int .i64 x41, .int .i64 x42, .int .i64 x43, .int .i64 x44, .bool b45, .int .i64 x46, .int .i64 x47, .slice A48 n49 c50, .bool b51, .bool b52, .bool b53]⟩] M =
 ob (acall P T k lo F.cdef_may [.agg ⟨[.int .i64 x1, .int .i64 x2, .slice A3 n4 c5, .int .i64 x6, .int .i64 x7, .slice A8 n9 c10, .int .i64 x11, .int .i64 x12, .slice A13 n14 c15]⟩, .slice A16 n17 c18, .slice A19 n20 c21, .agg ⟨[.bool b22, .int .i64 x23, .bool b24, .bool b25, .int .i64 x26, .int .i64 x27, .int .i64 x28, .int .i64 x29, .int .i64 x30, .int .i64 x31, .int .i64 x32, .int .i64 x33, .int .i64 x34, .int .i64 x35, .int .i64 x36, .int .i64 x37, .int .i64 x38, .bool b39, .int .i64 x40, .int .i64 x41, .int .i64 x42, .int .i64 x43, .int .i64 x44, .bool b45, .int .i64 x46, .int .i64 x47, .slice A48 n49 c50, .bool b51, .bool b52, .bool b53]⟩] M) fun r59 =>
 ob ((some r59.1).bind Value.bool?) fun b60 =>
 bb (!b60)
 (some (.ret (.tuple ⟨[.agg ⟨[.int .i64 0, .int .i64 0, .slice none 0 0, .int .i64 0, .int .i64 0, .slice none 0 0, .int .i64 0, .int .i64 0, .slice none 0 0]⟩, .int .i64 2]⟩) r59.2))
 (some (cdef_Frame.c244 A16 n17 c18 A19 n20 c21 0 x1 x2 A3 n4 c5 x6 x7 A8 n9 c10 x11 x12 A13 n14 c15 b22 x23 b24 b25 x26 x27 x28 x29 x30 x31 x32 x33 x34 x35 x36 x37 x38 b39 x40 x41 x42 x43 x44 b45 x46 x47 A48 n49 c50 b51 b52 b53 0 0 none 0 0 0 0 none 0 0 0 0 none 0 0 ([.int .i64 x1, .int .i64 x2, .slice A3 n4 c5, .int .i64 x6, .int .i64 x7, .slice A8 n9 c10, .int .i64 x11, .int .i64 x12, .slice A13 n14 c15]) r59.2)) := by kernel_rfl
theorem cdef_Frame.p244 (k lo : Nat) (A1 : Option Addr) (n2 : Nat) (c3 : Nat) (A4 : Option Addr) (n5 : Nat) (c6 : Nat) (x7 : Int) (x8 : Int) (x9 : Int) (A10 : Option Addr) (n11 : Nat) (c12 : Nat) (x13 : Int) (x14 : Int) (A15 : Option Addr) (n16 : Nat) (c17 : Nat) (x18 : Int) (x19 : Int) (A20 : Option Addr) (n21 : Nat) (c22 : Nat) (b23 : Bool) (x24 : Int) (b25 : Bool) (b26 : Bool) (x27 : Int) (x28 : Int) (x29 : Int) (x30 : Int) (x31 : Int) (x32 : Int) (x33 : Int) (x34 : Int) (x35 : Int) (x36 : Int) (x37 : Int) (x38 : Int) (x39 : Int) (b40 : Bool) (x41 : Int) (x42 : Int) (x43 : Int) (x44 : Int) (x45 : Int) (b46 : Bool) (x47 : Int) (x48 : Int) (A49 : Option Addr) (n50 : Nat) (c51 : Nat) (b52 : Bool) (b53 : Bool) (b54 : Bool) (x55 : Int) (x56 : Int) (A57 : Option Addr) (n58 : Nat) (c59 : Nat) (x60 : Int) (x61 : Int) (A62 : Option Addr) (n63 : Nat) (c64 : Nat) (x65 : Int) (x66 : Int) (A67 : Option Addr) (n68 : Nat) (c69 : Nat) (cs70 : List Value) (M : Mem) : piece P T k lo F.cdef_Frame 244 [.v (.slice A1 n2 c3), .v (.slice A4 n5 c6), .l 4 0, .l 7 0, .l 8 0, .l 10 0, .v (.int .i64 x7)] [[.int .i64 x8, .int .i64 x9, .slice A10 n11 c12, .int .i64 x13, .int .i64 x14, .slice A15 n16 c17, .int .i64 x18, .int .i64 x19, .slice A20 n21 c22], [.bool b23, .int .i64 x24, .bool b25, .bool b26, .int .i64 x27, .int .i64 x28, .int .i64 x29, .int .i64 x30, .int .i64 x31, .int .i64 x32, .int .i64 x33, .int .i64 x34, .int .i64 x35, .int .i64 x36, .int .i64 x37, .int .i64 x38, .int .i64 x39, .bool b40, .int .i64 x41, .int .i64 x42, .int .i64 x43, .int .i64 x44, .int .i64 x45, .bool b46, .int .i64 x47, .int .i64 x48, .slice A49 n50 c51, .bool b52, .bool b53, .bool b54], [.int .i64 x55, .int .i64 x56, .slice A57 n58 c59, .int .i64 x60, .int .i64 x61, .slice A62 n63 c64, .int .i64 x65, .int .i64 x66, .slice A67 n68 c69], cs70] M =
 bb (decide (x7 < 3))
 (pb (0 ≤ x7 ∧ x7 < (3 : Int))
 (ob ((([.int .i64 x8, .int .i64 x9, .slice A10 n11 c12, .int .i64 x13, .int .i64 x14, .slice A15 n16 c17, .int .i64 x18, .int .i64 x19, .slice A20 n21 c22] : List Value)[0 + (x7.toNat * 3) + 2 + 0]?).bind Value.slc?) fun s71 =>
 ob (acall P T k lo F.slices_Clone__uint8_uint8 [.slice s71.a s71.n s71.c] M) fun r72 =>
 ob ((some r72.1).bind Value.slc?) fun s73 =>
 pb (0 ≤ x7 ∧ x7 < (3 : Int))
 (pb (0 + (x7.toNat * 3) + 2 + 1 ≤ cs70.length)
 (some (cdef_Frame.c244 A1 n2 c3 A4 n5 c6 (IntKind.i64.wrap (x7 + 1)) x8 x9 A10 n11 c12 x13 x14 A15 n16 c17 x18 x19 A20 n21 c22 b23 x24 b25 b26 x27 x28 x29 x30 x31 x32 x33 x34 x35 x36 x37 x38 x39 b40 x41 x42 x43 x44 x45 b46 x47 x48 A49 n50 c51 b52 b53 b54 x55 x56 A57 n58 c59 x60 x61 A62 n63 c64 x65 x66 A67 n68 c69 (setL cs70 (0 + (x7.toNat * 3) + 2) [.slice s73.a s73.n s73.c]) r72.2)) none) none) none)
 (bb (!b46)
 (ob ((cs70[0]?).bind (Value.int? .i64)) fun x74 =>
 ob ((cs70[1]?).bind (Value.int? .i64)) fun x75 =>
 ob ((cs70[2]?).bind Value.slc?) fun s76 =>
 ob ((cs70[3]?).bind (Value.int? .i64)) fun x77 =>
 ob ((cs70[4]?).bind (Value.int? .i64)) fun x78 =>
 ob ((cs70[5]?).bind Value.slc?) fun s79 =>
 ob ((cs70[6]?).bind (Value.int? .i64)) fun x80 =>
 ob ((cs70[7]?).bind (Value.int? .i64)) fun x81 =>
 ob ((cs70[8]?).bind Value.slc?) fun s82 =>
 some (.ret (.tuple ⟨[.agg ⟨[.int .i64 x74, .int .i64 x75, .slice s76.a s76.n s76.c, .int .i64 x77, .int .i64 x78, .slice s79.a s79.n s79.c, .int .i64 x80, .int .i64 x81, .slice s82.a s82.n s82.c]⟩, .int .i64 0]⟩) M))
 (some (cdef_Frame.c2036 A4 n5 c6 (IntKind.i64.wrap (Int.tdiv x8 8)) A1 n2 c3 (n2 : Int) 0 x8 x9 A10 n11 c12 x13 x14 A15 n16 c17 x18 x19 A20 n21 c22 b23 x24 b25 b26 x27 x28 x29 x30 x31 x32 x33 x34 x35 x36 x37 x38 x39 b40 x41 x42 x43 x44 x45 b46 x47 x48 A49 n50 c51 b52 b53 b54 x55 x56 A57 n58 c59 x60 x61 A62 n63 c64 x65 x66 A67 n68 c69 cs70 M))) := by kernel_rfl
theorem cdef_Frame.p2036 (k lo : Nat) (A1 : Option Addr) (n2 : Nat) (c3 : Nat) (x4 : Int) (A5 : Option Addr) (n6 : Nat) (c7 : Nat) (x8 : Int) (x9 : Int) (x10 : Int) (x11 : Int) (A12 : Option Addr) (n13 : Nat) (c14 : Nat) (x15 : Int) (x16 : Int) (A17 : Option Addr) (n18 : Nat) (c19 : Nat) (x20 : Int) (x21 : Int) (A22 : Option Addr) (n23 : Nat) (c24 : Nat) (b25 : Bool) (x26 : Int) (b27 : Bool) (b28 : Bool) (x29 : Int) (x30 : Int) (x31 : Int) (x32 : Int) (x33 : Int) (x34 : Int) (x35 : Int) (x36 : Int) (x37 : Int) (x38 : Int) (x39 : Int) (x40 : Int) (x41 : Int) (b42 : Bool) (x43 : Int) (x44 : Int) (x45 : Int) (x46 : Int) (x47 : Int) (b48 : Bool) (x49 : Int) (x50 : Int) (A51 : Option Addr) (n52 : Nat) (c53 : Nat) (b54 : Bool) (b55 : Bool) (b56 : Bool) (x57 : Int) (x58 : Int) (A59 : Option Addr) (n60 : Nat) (c61 : Nat) (x62 : Int) (x63 : Int) (A64 : Option Addr) (n65 : Nat) (c66 : Nat) (x67 : Int) (x68 : Int) (A69 : Option Addr) (n70 : Nat) (c71 : Nat) (cs72 : List Value) (M : Mem) : piece P T k lo F.cdef_Frame 2036 [.v (.slice A1 n2 c3), .l 4 0, .l 7 0, .l 8 0, .l 10 0, .v (.int .i64 x4), .v (.slice A5 n6 c7), .v (.int .i64 x8), .v (.int .i64 x9)] [[.int .i64 x10, .int .i64 x11, .slice A12 n13 c14, .int .i64 x15, .int .i64 x16, .slice A17 n18 c19, .int .i64 x20, .int .i64 x21, .slice A22 n23 c24], [.bool b25, .int .i64 x26, .bool b27, .bool b28, .int .i64 x29, .int .i64 x30, .int .i64 x31, .int .i64 x32, .int .i64 x33, .int .i64 x34, .int .i64 x35, .int .i64 x36, .int .i64 x37, .int .i64 x38, .int .i64 x39, .int .i64 x40, .int .i64 x41, .bool b42, .int .i64 x43, .int .i64 x44, .int .i64 x45, .int .i64 x46, .int .i64 x47, .bool b48, .int .i64 x49, .int .i64 x50, .slice A51 n52 c53, .bool b54, .bool b55, .bool b56], [.int .i64 x57, .int .i64 x58, .slice A59 n60 c61, .int .i64 x62, .int .i64 x63, .slice A64 n65 c66, .int .i64 x67, .int .i64 x68, .slice A69 n70 c71], cs72] M =
 bb (decide (x9 < x8))
 (pb (0 ≤ x9 ∧ x9 < (n6 : Int))
 (ob A5 fun a83 =>
 ob ((M.ld (plus a83 x9.toNat)).bind Value.bool?) fun b84 =>
 bb b84
 (some (cdef_Frame.c16295 A1 n2 c3 x4 A5 n6 c7 x8 x9 x10 x11 A12 n13 c14 x15 x16 A17 n18 c19 x20 x21 A22 n23 c24 b25 x26 b27 b28 x29 x30 x31 x32 x33 x34 x35 x36 x37 x38 x39 x40 x41 b42 x43 x44 x45 x46 x47 b48 x49 x50 A51 n52 c53 b54 b55 b56 x57 x58 A59 n60 c61 x62 x63 A64 n65 c66 x67 x68 A69 n70 c71 cs72 M))
 (pb (x4 = 0) none
 (pb (x4 = 0) none
 (pb (0 ≤ IntKind.i64.wrap ((IntKind.i64.wrap ((IntKind.i64.wrap (Int.tdiv (IntKind.i64.wrap (8 * (IntKind.i64.wrap (Int.tdiv x9 x4)))) 64)) * (IntKind.i64.wrap (Int.tdiv (IntKind.i64.wrap ((IntKind.i64.wrap (x10 + 64)) - 1)) 64)))) + (IntKind.i64.wrap (Int.tdiv (IntKind.i64.wrap (8 * (Int.tmod x9 x4))) 64))) ∧ IntKind.i64.wrap ((IntKind.i64.wrap ((IntKind.i64.wrap (Int.tdiv (IntKind.i64.wrap (8 * (IntKind.i64.wrap (Int.tdiv x9 x4)))) 64)) * (IntKind.i64.wrap (Int.tdiv (IntKind.i64.wrap ((IntKind.i64.wrap (x10 + 64)) - 1)) 64)))) + (IntKind.i64.wrap (Int.tdiv (IntKind.i64.wrap (8 * (Int.tmod x9 x4))) 64))) < (n2 : Int))
 (ob A1 fun a85 =>
 ob ((M.ld (plus a85 ((IntKind.i64.wrap ((IntKind.i64.wrap ((IntKind.i64.wrap (Int.tdiv (IntKind.i64.wrap (8 * (IntKind.i64.wrap (Int.tdiv x9 x4)))) 64)) * (IntKind.i64.wrap (Int.tdiv (IntKind.i64.wrap ((IntKind.i64.wrap (x10 + 64)) - 1)) 64)))) + (IntKind.i64.wrap (Int.tdiv (IntKind.i64.wrap (8 * (Int.tmod x9 x4))) 64)))).toNat))).bind (Value.int? .i64)) fun x86 =>
 pb (0 ≤ x86 ∧ x86 < (n52 : Int))
 (ob A51 fun a87 =>
 ob ((M.ld (plus a87 (x86.toNat * 4))).bind (Value.int? .i64)) fun x88 =>
 ob ((M.ld (plus (plus a87 (x86.toNat * 4)) 1)).bind (Value.int? .i64)) fun x89 =>
 ob ((M.ld (plus (plus a87 (x86.toNat * 4)) 2)).bind (Value.int? .i64)) fun x90 =>
 ob ((M.ld (plus (plus a87 (x86.toNat * 4)) 3)).bind (Value.int? .i64)) fun x91 =>
 ob (acall P T k lo F.plane_Cut [.agg ⟨[.int .i64 x10, .int .i64 x11, .slice A12 n13 c14]⟩, .agg ⟨[.int .i64 (IntKind.i64.wrap (8 * (Int.tmod x9 x4))), .int .i64 (IntKind.i64.wrap (8 * (IntKind.i64.wrap (Int.tdiv x9 x4)))), .int .i64 8, .int .i64 8]⟩] M) fun r92 =>
 ob (r92.1.tup? 2) fun l93 =>
 ob ((l93[0]?).bind Value.slc?) fun s94 =>
 ob ((l93[1]?).bind (Value.int? .i64)) fun x95 =>
 bb (x95 != 0)
 (some (.ret (.tuple ⟨[.agg ⟨[.int .i64 0, .int .i64 0, .slice none 0 0, .int .i64 0, .int .i64 0, .slice none 0 0, .int .i64 0, .int .i64 0, .slice none 0 0]⟩, .int .i64 x95]⟩) r92.2))
 (ob (acall P T k lo F.cdef_Direction [.slice s94.a s94.n s94.c] r92.2) fun r96 =>
 ob (r96.1.tup? 3) fun l97 =>
 ob ((l97[0]?).bind (Value.int? .i64)) fun x98 =>
 ob ((l97[1]?).bind (Value.int? .i64)) fun x99 =>
 ob ((l97[2]?).bind (Value.int? .i64)) fun x100 =>
 some (cdef_Frame.c33371132 A1 n2 c3 x4 (IntKind.i64.wrap (8 * (Int.tmod x9 x4))) (IntKind.i64.wrap (8 * (IntKind.i64.wrap (Int.tdiv x9 x4)))) x98 x99 A5 n6 c7 x8 x9 0 x10 x11 A12 n13 c14 x15 x16 A17 n18 c19 x20 x21 A22 n23 c24 b25 x26 b27 b28 x29 x30 x31 x32 x33 x34 x35 x36 x37 x38 x39 x40 x41 b42 x43 x44 x45 x46 x47 b48 x49 x50 A51 n52 c53 b54 b55 b56 x57 x58 A59 n60 c61 x62 x63 A64 n65 c66 x67 x68 A69 n70 c71 cs72 x88 x89 x90 x91 r96.2))) none) none)))) none)
 (ob ((cs72[0]?).bind (Value.int? .i64)) fun x101 =>
 ob ((cs72[1]?).bind (Value.int? .i64)) fun x102 =>
 ob ((cs72[2]?).bind Value.slc?) fun s103 =>
 ob ((cs72[3]?).bind (Value.int? .i64)) fun x104 =>
 ob ((cs72[4]?).bind (Value.int? .i64)) fun x105 =>
 ob ((cs72[5]?).bind Value.slc?) fun s106 =>
 ob ((cs72[6]?).bind (Value.int? .i64)) fun x107 =>
 ob ((cs72[7]?).bind (Value.int? .i64)) fun x108 =>
 ob ((cs72[8]?).bind Value.slc?) fun s109 =>
 some (.ret (.tuple ⟨[.agg ⟨[.int .i64 x101, .int .i64 x102, .slice s103.a s103.n s103.c, .int .i64 x104, .int .i64 x105, .slice s106.a s106.n s106.c, .int .i64 x107, .int .i64 x108, .slice s109.a s109.n s109.c]⟩, .int .i64 0]⟩) M)) := by kernel_rfl
theorem cdef_Frame.p16295 (k lo : Nat) (A1 : Option Addr) (n2 : Nat) (c3 : Nat) (x4 : Int) (A5 : Option Addr) (n6 : Nat) (c7 : Nat) (x8 : Int) (x9 : Int) (x10 : Int) (x11 : Int) (A12 : Option Addr) (n13 : Nat) (c14 : Nat) (x15 : Int) (x16 : Int) (A17 : Option Addr) (n18 : Nat) (c19 : Nat) (x20 : Int) (x21 : Int) (A22 : Option Addr) (n23 : Nat) (c24 : Nat) (b25 : Bool) (x26 : Int) (b27 : Bool) (b28 : Bool) (x29 : Int) (x30 : Int) (x31 : Int) (x32 : Int) (x33 : Int) (x34 : Int) (x35 : Int) (x36 : Int) (x37 : Int) (x38 : Int) (x39 : Int) (x40 : Int) (x41 : Int) (b42 : Bool) (x43 : Int) (x44 : Int) (x45 : Int) (x46 : Int) (x47 : Int) (b48 : Bool) (x49 : Int) (x50 : Int) (A51 : Option Addr) (n52 : Nat) (c53 : Nat) (b54 : Bool) (b55 : Bool) (b56 : Bool) (x57 : Int) (x58 : Int) (A59 : Option Addr) (n60 : Nat) (c61 : Nat) (x62 : Int) (x63 : Int) (A64 : Option Addr) (n65 : Nat) (c66 : Nat) (x67 : Int) (x68 : Int) (A69 : Option Addr) (n70 : Nat) (c71 : Nat) (cs72 : List Value) (M : Mem) : piece P T k lo F.cdef_Frame 16295 [.v (.slice A1 n2 c3), .l 4 0, .l 7 0, .l 8 0, .l 10 0, .v (.int .i64 x4), .v (.slice A5 n6 c7), .v (.int .i64 x8), .v (.int .i64 x9)] [[.int .i64 x10, .int .i64 x11, .slice A12 n13 c14, .int .i64 x15, .int .i64 x16, .slice A17 n18 c19, .int .i64 x20, .int .i64 x21, .slice A22 n23 c24], [.bool b25, .int .i64 x26, .bool b27, .bool b28, .int .i64 x29, .int .i64 x30, .int .i64 x31, .int .i64 x32, .int .i64 x33, .int .i64 x34, .int .i64 x35, .int .i64 x36, .int .i64 x37, .int .i64 x38, .int .i64 x39, .int .i64 x40, .int .i64 x41, .bool b42, .int .i64 x43, .int .i64 x44, .int .i64 x45, .int .i64 x46, .int .i64 x47, .bool b48, .int .i64 x49, .int .i64 x50, .slice A51 n52 c53, .bool b54, .bool b55, .bool b56], [.int .i64 x57, .int .i64 x58, .slice A59 n60 c61, .int .i64 x62, .int .i64 x63, .slice A64 n65 c66, .int .i64 x67, .int .i64 x68, .slice A69 n70 c71], cs72] M =
 some (cdef_Frame.c2036 A1 n2 c3 x4 A5 n6 c7 x8 (IntKind.i64.wrap (x9 + 1)) x10 x11 A12 n13 c14 x15 x16 A17 n18 c19 x20 x21 A22 n23 c24 b25 x26 b27 b28 x29 x30 x31 x32 x33 x34 x35 x36 x37 x38 x39 x40 x41 b42 x43 x44 x45 x46 x47 b48 x49 x50 A51 n52 c53 b54 b55 b56 x57 x58 A59 n60 c61 x62 x63 A64 n65 c66 x67 x68 A69 n70 c71 cs72 M) := by kernel_rfl
theorem cdef_Frame.p33371132 (k lo : Nat) (A1 : Option Addr) (n2 : Nat) (c3 : Nat) (x4 : Int) (x5 : Int) (x6 : Int) (x7 : Int) (x8 : Int) (A9 : Option Addr) (n10 : Nat) (c11 : Nat) (x12 : Int) (x13 : Int) (x14 : Int) (x15 : Int) (x16 : Int) (A17 : Option Addr) (n18 : Nat) (c19 : Nat) (x20 : Int) (x21 : Int) (A22 : Option Addr) (n23 : Nat) (c24 : Nat) (x25 : Int) (x26 : Int) (A27 : Option Addr) (n28 : Nat) (c29 : Nat) (b30 : Bool) (x31 : Int) (b32 : Bool) (b33 : Bool) (x34 : Int) (x35 : Int) (x36 : Int) (x37 : Int) (x38 : Int) (x39 : Int) (x40 : Int) (x41 : Int) (x42 : Int) (x43 : Int) (x44 : Int) (x45 : Int) (x46 : Int) (b47 : Bool) (x48 : Int) (x49 : Int) (x50 : Int) (x51 : Int) (x52 : Int) (b53 : Bool) (x54 : Int) (x55 : Int) (A56 : Option Addr) (n57 : Nat) (c58 : Nat) (b59 : Bool) (b60 : Bool) (b61 : Bool) (x62 : Int) (x63 : Int) (A64 : Option Addr) (n65 : Nat) (c66 : Nat) (x67 : Int) (x68 : Int) (A69 : Option Addr) (n70 : Nat) (c71 : Nat) (x72 : Int) (x73 : Int) (A74 : Option Addr) (n75 : Nat) (c76 : Nat) (cs77 : List Value) (x78 : Int) (x79 : Int) (x80 : Int) (x81 : Int) (M : Mem) : piece P T k lo F.cdef_Frame 33371132 [.v (.slice A1 n2 c3), .l 4 0, .l 7 0, .l 8 0, .l 10 0, .v (.int .i64 x4), .v (.int .i64 x5), .v (.int .i64 x6), .l 17 0, .v (.int .i64 x7), .v (.int .i64 x8), .v (.slice A9 n10 c11), .v (.int .i64 x12), .v (.int .i64 x13), .v (.int .i64 x14)] [[.int .i64 x15, .int .i64 x16, .slice A17 n18 c19, .int .i64 x20, .int .i64 x21, .slice A22 n23 c24, .int .i64 x25, .int .i64 x26, .slice A27 n28 c29], [.bool b30, .int .i64 x31, .bool b32, .bool b33, .int .i64 x34, .int .i64 x35, .int .i64 x36, .int .i64 x37, .int .i64 x38, .int .i64 x39, .int .i64 x40, .int .i64 x41, .int .i64 x42, .int .i64 x43, .int .i64 x44, .int .i64 x45, .int .i64 x46, .bool b47, .int .i64 x48, .int .i64 x49, .int .i64 x50, .int .i64 x51, .int .i64 x52, .bool b53, .int .i64 x54, .int .i64 x55, .slice A56 n57 c58, .bool b59, .bool b60, .bool b61], [.int .i64 x62, .int .i64 x63, .slice A64 n65 c66, .int .i64 x67, .int .i64 x68, .slice A69 n70 c71, .int .i64 x72, .int .i64 x73, .slice A74 n75 c76], cs77, [.int .i64 x78, .int .i64 x79, .int .i64 x80, .int .i64 x81]] M =
 bb (decide (x14 < 3))
 (ob (acall P T k M.length F.cdef_primary [.int .i64 x78, .int .i64 x8] M) fun r110 =>
 ob ((some r110.1).bind (Value.int? .i64)) fun x111 =>
 bb (decide (x14 > 0))
 (some (cdef_Frame.c4271504999 A1 n2 c3 x4 x5 x6 x7 x8 x14 x80 x80 x81 (IntKind.i64.wrap (x54 - 1)) A9 n10 c11 x12 x13 x14 x15 x16 A17 n18 c19 x20 x21 A22 n23 c24 x25 x26 A27 n28 c29 b30 x31 b32 b33 x34 x35 x36 x37 x38 x39 x40 x41 x42 x43 x44 x45 x46 b47 x48 x49 x50 x51 x52 b53 x54 x55 A56 n57 c58 b59 b60 b61 x62 x63 A64 n65 c66 x67 x68 A69 n70 c71 x72 x73 A74 n75 c76 cs77 x78 x79 x80 x81 (IntKind.i64.wrap (Int.tdiv x5 2)) (IntKind.i64.wrap (Int.tdiv x6 2)) 4 4 r110.2))
 (some (cdef_Frame.c4271504999 A1 n2 c3 x4 x5 x6 x7 x8 x14 x111 x78 x79 x54 A9 n10 c11 x12 x13 x14 x15 x16 A17 n18 c19 x20 x21 A22 n23 c24 x25 x26 A27 n28 c29 b30 x31 b32 b33 x34 x35 x36 x37 x38 x39 x40 x41 x42 x43 x44 x45 x46 b47 x48 x49 x50 x51 x52 b53 x54 x55 A56 n57 c58 b59 b60 b61 x62 x63 A64 n65 c66 x67 x68 A69 n70 c71 x72 x73 A74 n75 c76 cs77 x78 x79 x80 x81 x5 x6 8 8 r110.2)))
 (some (cdef_Frame.c16295 A1 n2 c3 x4 A9 n10 c11 x12 x13 x15 x16 A17 n18 c19 x20 x21 A22 n23 c24 x25 x26 A27 n28 c29 b30 x31 b32 b33 x34 x35 x36 x37 x38 x39 x40 x41 x42 x43 x44 x45 x46 b47 x48 x49 x50 x51 x52 b53 x54 x55 A56 n57 c58 b59 b60 b61 x62 x63 A64 n65 c66 x67 x68 A69 n70 c71 x72 x73 A74 n75 c76 cs77 M)) := by kernel_rfl
theorem cdef_Frame.p4271504999 (k lo : Nat) (A1 : Option Addr) (n2 : Nat) (c3 : Nat) (x4 : Int) (x5 : Int) (x6 : Int) (x7 : Int) (x8 : Int) (x9 : Int) (x10 : Int) (x11 : Int) (x12 : Int) (x13 : Int) (A14 : Option Addr) (n15 : Nat) (c16 : Nat) (x17 : Int) (x18 : Int) (x19 : Int) (x20 : Int) (x21 : Int) (A22 : Option Addr) (n23 : Nat) (c24 : Nat) (x25 : Int) (x26 : Int) (A27 : Option Addr) (n28 : Nat) (c29 : Nat) (x30 : Int) (x31 : Int) (A32 : Option Addr) (n33 : Nat) (c34 : Nat) (b35 : Bool) (x36 : Int) (b37 : Bool) (b38 : Bool) (x39 : Int) (x40 : Int) (x41 : Int) (x42 : Int) (x43 : Int) (x44 : Int) (x45 : Int) (x46 : Int) (x47 : Int) (x48 : Int) (x49 : Int) (x50 : Int) (x51 : Int) (b52 : Bool) (x53 : Int) (x54 : Int) (x55 : Int) (x56 : Int) (x57 : Int) (b58 : Bool) (x59 : Int) (x60 : Int) (A61 : Option Addr) (n62 : Nat) (c63 : Nat) (b64 : Bool) (b65 : Bool) (b66 : Bool) (x67 : Int) (x68 : Int) (A69 : Option Addr) (n70 : Nat) (c71 : Nat) (x72 : Int) (x73 : Int) (A74 : Option Addr) (n75 : Nat) (c76 : Nat) (x77 : Int) (x78 : Int) (A79 : Option Addr) (n80 : Nat) (c81 : Nat) (cs82 : List Value) (x83 : Int) (x84 : Int) (x85 : Int) (x86 : Int) (x87 : Int) (x88 : Int) (x89 : Int) (x90 : Int) (M : Mem) : piece P T k lo F.cdef_Frame 4271504999 [.v (.slice A1 n2 c3), .l 4 0, .l 7 0, .l 8 0, .l 10 0, .v (.int .i64 x4), .v (.int .i64 x5), .v (.int .i64 x6), .l 17 0, .v (.int .i64 x7), .v (.int .i64 x8), .v (.int .i64 x9), .l 24 0, .v (.int .i64 x10), .v (.int .i64 x11), .v (.int .i64 x12), .v (.int .i64 x13), .v (.slice A14 n15 c16), .v (.int .i64 x17), .v (.int .i64 x18), .v (.int .i64 x19)] [[.int .i64 x20, .int .i64 x21, .slice A22 n23 c24, .int .i64 x25, .int .i64 x26, .slice A27 n28 c29, .int .i64 x30, .int .i64 x31, .slice A32 n33 c34], [.bool b35, .int .i64 x36, .bool b37, .bool b38, .int .i64 x39, .int .i64 x40, .int .i64 x41, .int .i64 x42, .int .i64 x43, .int .i64 x44, .int .i64 x45, .int .i64 x46, .int .i64 x47, .int .i64 x48, .int .i64 x49, .int .i64 x50, .int .i64 x51, .bool b52, .int .i64 x53, .int .i64 x54, .int .i64 x55, .int .i64 x56, .int .i64 x57, .bool b58, .int .i64 x59, .int .i64 x60, .slice A61 n62 c63, .bool b64, .bool b65, .bool b66], [.int .i64 x67, .int .i64 x68, .slice A69 n70 c71, .int .i64 x72, .int .i64 x73, .slice A74 n75 c76, .int .i64 x77, .int .i64 x78, .slice A79 n80 c81], cs82, [.int .i64 x83, .int .i64 x84, .int .i64 x85, .int .i64 x86], [.int .i64 x87, .int .i64 x88, .int .i64 x89, .int .i64 x90]] M =
 bb (x11 == 0)
 (some (cdef_Frame.c17086019999 A1 n2 c3 x4 x5 x6 x7 x8 x9 x10 x12 x13 0 A14 n15 c16 x17 x18 x19 x20 x21 A22 n23 c24 x25 x26 A27 n28 c29 x30 x31 A32 n33 c34 b35 x36 b37 b38 x39 x40 x41 x42 x43 x44 x45 x46 x47 x48 x49 x50 x51 b52 x53 x54 x55 x56 x57 b58 x59 x60 A61 n62 c63 b64 b65 b66 x67 x68 A69 n70 c71 x72 x73 A74 n75 c76 x77 x78 A79 n80 c81 cs82 x83 x84 x85 x86 x87 x88 x89 x90 M))
 (some (cdef_Frame.c17086019999 A1 n2 c3 x4 x5 x6 x7 x8 x9 x10 x12 x13 x7 A14 n15 c16 x17 x18 x19 x20 x21 A22 n23 c24 x25 x26 A27 n28 c29 x30 x31 A32 n33 c34 b35 x36 b37 b38 x39 x40 x41 x42 x43 x44 x45 x46 x47 x48 x49 x50 x51 b52 x53 x54 x55 x56 x57 b58 x59 x60 A61 n62 c63 b64 b65 b66 x67 x68 A69 n70 c71 x72 x73 A74 n75 c76 x77 x78 A79 n80 c81 cs82 x83 x84 x85 x86 x87 x88 x89 x90 M)) := by kernel_rfl
theorem cdef_Frame.p17086019999 (k lo : Nat) (A1 : Option Addr) (n2 : Nat) (c3 : Nat) (x4 : Int) (x5 : Int) (x6 : Int) (x7 : Int) (x8 : Int) (x9 : Int) (x10 : Int) (x11 : Int) (x12 : Int) (x13 : Int) (A14 : Option Addr) (n15 : Nat) (c16 : Nat) (x17 : Int) (x18 : Int) (x19 : Int) (x20 : Int) (x21 : Int) (A22 : Option Addr) (n23 : Nat) (c24 : Nat) (x25 : Int) (x26 : Int) (A27 : Option Addr) (n28 : Nat) (c29 : Nat) (x30 : Int) (x31 : Int) (A32 : Option Addr) (n33 : Nat) (c34 : Nat) (b35 : Bool) (x36 : Int) (b37 : Bool) (b38 : Bool) (x39 : Int) (x40 : Int) (x41 : Int) (x42 : Int) (x43 : Int) (x44 : Int) (x45 : Int) (x46 : Int) (x47 : Int) (x48 : Int) (x49 : Int) (x50 : Int) (x51 : Int) (b52 : Bool) (x53 : Int) (x54 : Int) (x55 : Int) (x56 : Int) (x57 : Int) (b58 : Bool) (x59 : Int) (x60 : Int) (A61 : Option Addr) (n62 : Nat) (c63 : Nat) (b64 : Bool) (b65 : Bool) (b66 : Bool) (x67 : Int) (x68 : Int) (A69 : Option Addr) (n70 : Nat) (c71 : Nat) (x72 : Int) (x73 : Int) (A74 : Option Addr) (n75 : Nat) (c76 : Nat) (x77 : Int) (x78 : Int) (A79 : Option Addr) (n80 : Nat) (c81 : Nat) (cs82 : List Value) (x83 : Int) (x84 : Int) (x85 : Int) (x86 : Int) (x87 : Int) (x88 : Int) (x89 : Int) (x90 : Int) (M : Mem) : piece P T k lo F.cdef_Frame 17086019999 [.v (.slice A1 n2 c3), .l 4 0, .l 7 0, .l 8 0, .l 10 0, .v (.int .i64 x4), .v (.int .i64 x5), .v (.int .i64 x6), .l 17 0, .v (.int .i64 x7), .v (.int .i64 x8), .v (.int .i64 x9), .l 24 0, .v (.int .i64 x10), .v (.int .i64 x11), .v (.int .i64 x12), .v (.int .i64 x13), .v (.slice A14 n15 c16), .v (.int .i64 x17), .v (.int .i64 x18), .v (.int .i64 x19)] [[.int .i64 x20, .int .i64 x21, .slice A22 n23 c24, .int .i64 x25, .int .i64 x26, .slice A27 n28 c29, .int .i64 x30, .int .i64 x31, .slice A32 n33 c34], [.bool b35, .int .i64 x36, .bool b37, .bool b38, .int .i64 x39, .int .i64 x40, .int .i64 x41, .int .i64 x42, .int .i64 x43, .int .i64 x44, .int .i64 x45, .int .i64 x46, .int .i64 x47, .int .i64 x48, .int .i64 x49, .int .i64 x50, .int .i64 x51, .bool b52, .int .i64 x53, .int .i64 x54, .int .i64 x55, .int .i64 x56, .int .i64 x57, .bool b58, .int .i64 x59, .int .i64 x60, .slice A61 n62 c63, .bool b64, .bool b65, .bool b66], [.int .i64 x67, .int .i64 x68, .slice A69 n70 c71, .int .i64 x72, .int .i64 x73, .slice A74 n75 c76, .int .i64 x77, .int .i64 x78, .slice A79 n80 c81], cs82, [.int .i64 x83, .int .i64 x84, .int .i64 x85, .int .i64 x86], [.int .i64 x87, .int .i64 x88, .int .i64 x89, .int .i64 x90]] M =
 pb (0 ≤ x9 ∧ x9 < (3 : Int))
 (ob ((([.int .i64 x20, .int .i64 x21, .slice A22 n23 c24, .int .i64 x25, .int .i64 x26, .slice A27 n28 c29, .int .i64 x30, .int .i64 x31, .slice A32 n33 c34] : List Value)[0 + (x9.toNat * 3) + 0]?).bind (Value.int? .i64)) fun x112 =>
 ob ((([.int .i64 x20, .int .i64 x21, .slice A22 n23 c24, .int .i64 x25, .int .i64 x26, .slice A27 n28 c29, .int .i64 x30, .int .i64 x31, .slice A32 n33 c34] : List Value)[0 + (x9.toNat * 3) + 1]?).bind (Value.int? .i64)) fun x113 =>
 ob ((([.int .i64 x20, .int .i64 x21, .slice A22 n23 c24, .int .i64 x25, .int .i64 x26, .slice A27 n28 c29, .int .i64 x30, .int .i64 x31, .slice A32 n33 c34] : List Value)[0 + (x9.toNat * 3) + 2]?).bind Value.slc?) fun s114 =>
 ob (acall P T k M.length F.cdef_second [.int .i64 x11] M) fun r115 =>
 ob ((some r115.1).bind (Value.int? .i64)) fun x116 =>
 ob (acall P T k M.length F.cdef_Block [.agg ⟨[.int .i64 x112, .int .i64 x113, .slice s114.a s114.n s114.c]⟩, .agg ⟨[.int .i64 x87, .int .i64 x88, .int .i64 x89, .int .i64 x90]⟩, .int .i64 x13, .int .i64 x10, .int .i64 x116, .int .i64 x12] r115.2) fun r117 =>
 ob (r117.1.tup? 2) fun l118 =>
 ob ((l118[0]?).bind Value.slc?) fun s119 =>
 ob ((l118[1]?).bind (Value.int? .i64)) fun x120 =>
 bb (x120 != 0)
 (some (.ret (.tuple ⟨[.agg ⟨[.int .i64 0, .int .i64 0, .slice none 0 0, .int .i64 0, .int .i64 0, .slice none 0 0, .int .i64 0, .int .i64 0, .slice none 0 0]⟩, .int .i64 x120]⟩) r117.2))
 (some (cdef_Frame.c546752639996 A1 n2 c3 x4 x5 x6 x7 x8 x9 s119.a s119.n s119.c A14 n15 c16 x17 x18 x19 x90 0 x20 x21 A22 n23 c24 x25 x26 A27 n28 c29 x30 x31 A32 n33 c34 b35 x36 b37 b38 x39 x40 x41 x42 x43 x44 x45 x46 x47 x48 x49 x50 x51 b52 x53 x54 x55 x56 x57 b58 x59 x60 A61 n62 c63 b64 b65 b66 x67 x68 A69 n70 c71 x72 x73 A74 n75 c76 x77 x78 A79 n80 c81 cs82 x83 x84 x85 x86 x87 x88 x89 x90 r117.2))) none := by kernel_rfl
theorem cdef_Frame.p546752639996 (k lo : Nat) (A1 : Option Addr) (n2 : Nat) (c3 : Nat) (x4 : Int) (x5 : Int) (x6 : Int) (x7 : Int) (x8 : Int) (x9 : Int) (A10 : Option Addr) (n11 : Nat) (c12 : Nat) (A13 : Option Addr) (n14 : Nat) (c15 : Nat) (x16 : Int) (x17 : Int) (x18 : Int) (x19 : Int) (x20 : Int) (x21 : Int) (x22 : Int) (A23 : Option Addr) (n24 : Nat) (c25 : Nat) (x26 : Int) (x27 : Int) (A28 : Option Addr) (n29 : Nat) (c30 : Nat) (x31 : Int) (x32 : Int) (A33 : Option Addr) (n34 : Nat) (c35 : Nat) (b36 : Bool) (x37 : Int) (b38 : Bool) (b39 : Bool) (x40 : Int) (x41 : Int) (x42 : Int) (x43 : Int) (x44 : Int) (x45 : Int) (x46 : Int) (x47 : Int) (x48 : Int) (x49 : Int) (x50 : Int) (x51 : Int) (x52 : Int) (b53 : Bool) (x54 : Int) (x55 : Int) (x56 : Int) (x57 : Int) (x58 : Int) (b59 : Bool) (x60 : Int) (x61 : Int) (A62 : Option Addr) (n63 : Nat) (c64 : Nat) (b65 : Bool) (b66 : Bool) (b67 : Bool) (x68 : Int) (x69 : Int) (A70 : Option Addr) (n71 : Nat) (c72 : Nat) (x73 : Int) (x74 : Int) (A75 : Option Addr) (n76 : Nat) (c77 : Nat) (x78 : Int) (x79 : Int) (A80 : Option Addr) (n81 : Nat) (c82 : Nat) (cs83 : List Value) (x84 : Int) (x85 : Int) (x86 : Int) (x87 : Int) (x88 : Int) (x89 : Int) (x90 : Int) (x91 : Int) (M : Mem) : piece P T k lo F.cdef_Frame 546752639996 [.v (.slice A1 n2 c3), .l 4 0, .l 7 0, .l 8 0, .l 10 0, .v (.int .i64 x4), .v (.int .i64 x5), .v (.int .i64 x6), .l 17 0, .v (.int .i64 x7), .v (.int .i64 x8), .v (.int .i64 x9), .l 24 0, .v (.slice A10 n11 c12), .v (.slice A13 n14 c15), .v (.int .i64 x16), .v (.int .i64 x17), .v (.int .i64 x18), .v (.int .i64 x19), .v (.int .i64 x20)] [[.int .i64 x21, .int .i64 x22, .slice A23 n24 c25, .int .i64 x26, .int .i64 x27, .slice A28 n29 c30, .int .i64 x31, .int .i64 x32, .slice A33 n34 c35], [.bool b36, .int .i64 x37, .bool b38, .bool b39, .int .i64 x40, .int .i64 x41, .int .i64 x42, .int .i64 x43, .int .i64 x44, .int .i64 x45, .int .i64 x46, .int .i64 x47, .int .i64 x48, .int .i64 x49, .int .i64 x50, .int .i64 x51, .int .i64 x52, .bool b53, .int .i64 x54, .int .i64 x55, .int .i64 x56, .int .i64 x57, .int .i64 x58, .bool b59, .int .i64 x60, .int .i64 x61, .slice A62 n63 c64, .bool b65, .bool b66, .bool b67], [.int .i64 x68, .int .i64 x69, .slice A70 n71 c72, .int .i64 x73, .int .i64 x74, .slice A75 n76 c77, .int .i64 x78, .int .i64 x79, .slice A80 n81 c82], cs83, [.int .i64 x84, .int .i64 x85, .int .i64 x86, .int .i64 x87], [.int .i64 x88, .int .i64 x89, .int .i64 x90, .int .i64 x91]] M =
 bb (decide (x20 < x19))
 (pb (0 ≤ x9 ∧ x9 < (3 : Int))
 (ob ((cs83[0 + (x9.toNat * 3) + 2 + 0]?).bind Value.slc?) fun s121 =>
 pb (0 ≤ x9 ∧ x9 < (3 : Int))
 (ob ((cs83[0 + (x9.toNat * 3) + 0 + 0]?).bind (Value.int? .i64)) fun x122 =>
 pb (0 ≤ IntKind.i64.wrap ((IntKind.i64.wrap ((IntKind.i64.wrap (x89 + x20)) * x122)) + x88) ∧ IntKind.i64.wrap ((IntKind.i64.wrap ((IntKind.i64.wrap (x89 + x20)) * x122)) + x88) ≤ (s121.n : Int))
 (pb (0 ≤ IntKind.i64.wrap (x20 * x90) ∧ IntKind.i64.wrap (x20 * x90) ≤ IntKind.i64.wrap ((IntKind.i64.wrap (x20 + 1)) * x90) ∧ IntKind.i64.wrap ((IntKind.i64.wrap (x20 + 1)) * x90) ≤ (c12 : Int))
 (ob (Mem.src M (slAddr 1 A10 ((IntKind.i64.wrap (x20 * x90)).toNat) c12) (Nat.min (((IntKind.i64.wrap ((IntKind.i64.wrap (x20 + 1)) * x90)).toNat) - ((IntKind.i64.wrap (x20 * x90)).toNat)) (s121.n - ((IntKind.i64.wrap ((IntKind.i64.wrap ((IntKind.i64.wrap (x89 + x20)) * x122)) + x88)).toNat))) (Nat.min (((IntKind.i64.wrap ((IntKind.i64.wrap (x20 + 1)) * x90)).toNat) - ((IntKind.i64.wrap (x20 * x90)).toNat)) (s121.n - ((IntKind.i64.wrap ((IntKind.i64.wrap ((IntKind.i64.wrap (x89 + x20)) * x122)) + x88)).toNat)))) fun l123 =>
 pb (Nat.min (((IntKind.i64.wrap ((IntKind.i64.wrap (x20 + 1)) * x90)).toNat) - ((IntKind.i64.wrap (x20 * x90)).toNat)) (s121.n - ((IntKind.i64.wrap ((IntKind.i64.wrap ((IntKind.i64.wrap (x89 + x20)) * x122)) + x88)).toNat)) = 0) (some (cdef_Frame.c546752639996 A1 n2 c3 x4 x5 x6 x7 x8 x9 A10 n11 c12 A13 n14 c15 x16 x17 x18 x19 (IntKind.i64.wrap (x20 + 1)) x21 x22 A23 n24 c25 x26 x27 A28 n29 c30 x31 x32 A33 n34 c35 b36 x37 b38 b39 x40 x41 x42 x43 x44 x45 x46 x47 x48 x49 x50 x51 x52 b53 x54 x55 x56 x57 x58 b59 x60 x61 A62 n63 c64 b65 b66 b67 x68 x69 A70 n71 c72 x73 x74 A75 n76 c77 x78 x79 A80 n81 c82 cs83 x84 x85 x86 x87 x88 x89 x90 x91 M))
 (ob (slAddr 1 s121.a ((IntKind.i64.wrap ((IntKind.i64.wrap ((IntKind.i64.wrap (x89 + x20)) * x122)) + x88)).toNat) s121.c) fun a125 =>
 ob (M.st lo a125 l123) fun M124 =>
 some (cdef_Frame.c546752639996 A1 n2 c3 x4 x5 x6 x7 x8 x9 A10 n11 c12 A13 n14 c15 x16 x17 x18 x19 (IntKind.i64.wrap (x20 + 1)) x21 x22 A23 n24 c25 x26 x27 A28 n29 c30 x31 x32 A33 n34 c35 b36 x37 b38 b39 x40 x41 x42 x43 x44 x45 x46 x47 x48 x49 x50 x51 x52 b53 x54 x55 x56 x57 x58 b59 x60 x61 A62 n63 c64 b65 b66 b67 x68 x69 A70 n71 c72 x73 x74 A75 n76 c77 x78 x79 A80 n81 c82 cs83 x84 x85 x86 x87 x88 x89 x90 x91 M124))) none) none) none) none)
 (some (cdef_Frame.c33371132 A1 n2 c3 x4 x5 x6 x7 x8 A13 n14 c15 x16 x17 (IntKind.i64.wrap (x18 + 1)) x21 x22 A23 n24 c25 x26 x27 A28 n29 c30 x31 x32 A33 n34 c35 b36 x37 b38 b39 x40 x41 x42 x43 x44 x45 x46 x47 x48 x49 x50 x51 x52 b53 x54 x55 x56 x57 x58 b59 x60 x61 A62 n63 c64 b65 b66 b67 x68 x69 A70 n71 c72 x73 x74 A75 n76 c77 x78 x79 A80 n81 c82 cs83 x84 x85 x86 x87 M)) := by kernel_rfl
theorem zoetroperef00_CopyInts.entry (k lo : Nat) (A1 : Option Addr) (n2 : Nat) (c3 : Nat) (M : Mem) : entry P T k lo F.zoetroperef00_CopyInts [.slice A1 n2 c3] M =
 ob (Mem.src M A1 n2 n2) fun l9 =>
 ob (M.app lo 1 8 ⟨none, 0, 0⟩ l9 n2) fun r10 =>
 some (.ret (.slice r10.1.a r10.1.n r10.1.c) r10.2) := by kernel_rfl
end Go.Zt
