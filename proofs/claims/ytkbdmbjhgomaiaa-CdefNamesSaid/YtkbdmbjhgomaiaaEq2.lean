/- What functions come to, from cut to cut. -/
import Derived.Test.YtkbdmbjhgomaiaaEq0
import Derived.KernelRfl
set_option maxRecDepth 100000
set_option maxHeartbeats 4000000
set_option linter.unusedVariables false
namespace Go.Zt
theorem cdef_Block.entry (k lo : Nat) (x1 : Int) (x2 : Int) (A3 : Option Addr) (n4 : Nat) (c5 : Nat) (x6 : Int) (x7 : Int) (x8 : Int) (x9 : Int) (x10 : Int) (x11 : Int) (x12 : Int) (x13 : Int) (M : Mem) : entry P T k lo F.cdef_Block [.agg ⟨[.int .i64 x1, .int .i64 x2, .slice A3 n4 c5]⟩, .agg ⟨[.int .i64 x6, .int .i64 x7, .int .i64 x8, .int .i64 x9]⟩, .int .i64 x10, .int .i64 x11, .int .i64 x12, .int .i64 x13] M =
 ob (acall P T k lo F.plane_Check [.agg ⟨[.int .i64 x1, .int .i64 x2, .slice A3 n4 c5]⟩] M) fun r19 =>
 ob ((some r19.1).bind (Value.int? .i64)) fun x20 =>
 bb (x20 == 0)
 (ob (acall P T k lo F.cdef_within [.int .i64 x8, .int .i64 1, .int .i64 64] r19.2) fun r21 =>
 ob ((some r21.1).bind Value.bool?) fun b22 =>
 bb b22
 (ob (acall P T k lo F.cdef_within [.int .i64 x9, .int .i64 1, .int .i64 64] r21.2) fun r23 =>
 ob ((some r23.1).bind Value.bool?) fun b24 =>
 bb b24
 (ob (acall P T k lo F.cdef_within [.int .i64 x6, .int .i64 0, .int .i64 (IntKind.i64.wrap (x1 - x8))] r23.2) fun r25 =>
 ob ((some r25.1).bind Value.bool?) fun b26 =>
 bb b26
 (ob (acall P T k lo F.cdef_within [.int .i64 x7, .int .i64 0, .int .i64 (IntKind.i64.wrap (x2 - x9))] r25.2) fun r27 =>
 ob ((some r27.1).bind Value.bool?) fun b28 =>
 bb (!b28)
 (some (.ret (.tuple ⟨[.slice none 0 0, .int .i64 2]⟩) r27.2))
 (ob (acall P T k lo F.cdef_within [.int .i64 x10, .int .i64 0, .int .i64 7] r27.2) fun r29 =>
 ob ((some r29.1).bind Value.bool?) fun b30 =>
 bb (!b30)
 (some (.ret (.tuple ⟨[.slice none 0 0, .int .i64 2]⟩) r29.2))
 (ob (acall P T k lo F.cdef_within [.int .i64 x11, .int .i64 0, .int .i64 15] r29.2) fun r31 =>
 ob ((some r31.1).bind Value.bool?) fun b32 =>
 bb (!b32)
 (some (.ret (.tuple ⟨[.slice none 0 0, .int .i64 2]⟩) r31.2))
 (ob (acall P T k lo F.cdef_within [.int .i64 x12, .int .i64 0, .int .i64 4] r31.2) fun r33 =>
 ob ((some r33.1).bind Value.bool?) fun b34 =>
 bb (!b34)
 (some (.ret (.tuple ⟨[.slice none 0 0, .int .i64 2]⟩) r33.2))
 (ob (acall P T k lo F.cdef_within [.int .i64 x13, .int .i64 0, .int .i64 6] r33.2) fun r35 =>
 ob ((some r35.1).bind Value.bool?) fun b36 =>
 bb (!b36)
 (some (.ret (.tuple ⟨[.slice none 0 0, .int .i64 2]⟩) r35.2))
 (ob (acall P T k lo F.cdef_taps [.int .i64 x10, .int .i64 x11, .int .i64 x12] r35.2) fun r37 =>
 ob ((some r37.1).bind Value.slc?) fun s38 =>
 pb (0 ≤ IntKind.i64.wrap (x8 * x9) ∧ room ((IntKind.i64.wrap (x8 * x9)).toNat) 1)
 (some (cdef_Block.c1012 x13 s38.a s38.n s38.c (some ⟨r37.2.length, 0, some 0⟩) 0 0 x7 x1 x2 A3 n4 c5 x6 x7 x8 x9 (r37.2 ++ [⟨.op 1, []⟩] : Mem))) none))))))
 (some (.ret (.tuple ⟨[.slice none 0 0, .int .i64 2]⟩) r25.2)))
 (some (.ret (.tuple ⟨[.slice none 0 0, .int .i64 2]⟩) r23.2)))
 (some (.ret (.tuple ⟨[.slice none 0 0, .int .i64 2]⟩) r21.2)))
 (some (.ret (.tuple ⟨[.slice none 0 0, .int .i64 2]⟩) r19.2)) := by kernel_rfl
theorem cdef_Block.p1012 (k lo : Nat) (x1 : Int) (A2 : Option Addr) (n3 : Nat) (c4 : Nat) (A5 : Option Addr) (n6 : Nat) (c7 : Nat) (x8 : Int) (x9 : Int) (x10 : Int) (A11 : Option Addr) (n12 : Nat) (c13 : Nat) (x14 : Int) (x15 : Int) (x16 : Int) (x17 : Int) (M : Mem) : piece P T k lo F.cdef_Block 1012 [.v (.int .i64 x1), .l 6 0, .l 7 0, .v (.slice A2 n3 c4), .v (.slice A5 n6 c7), .v (.int .i64 x8)] [[.int .i64 x9, .int .i64 x10, .slice A11 n12 c13], [.int .i64 x14, .int .i64 x15, .int .i64 x16, .int .i64 x17]] M =
 bb (decide (x8 < IntKind.i64.wrap (x15 + x17)))
 (some (cdef_Block.c64804 x1 A2 n3 c4 A5 n6 c7 x8 x14 x9 x10 A11 n12 c13 x14 x15 x16 x17 M))
 (some (.ret (.tuple ⟨[.slice A5 n6 c7, .int .i64 0]⟩) M)) := by kernel_rfl
theorem cdef_Block.p64804 (k lo : Nat) (x1 : Int) (A2 : Option Addr) (n3 : Nat) (c4 : Nat) (A5 : Option Addr) (n6 : Nat) (c7 : Nat) (x8 : Int) (x9 : Int) (x10 : Int) (x11 : Int) (A12 : Option Addr) (n13 : Nat) (c14 : Nat) (x15 : Int) (x16 : Int) (x17 : Int) (x18 : Int) (M : Mem) : piece P T k lo F.cdef_Block 64804 [.v (.int .i64 x1), .l 6 0, .l 7 0, .v (.slice A2 n3 c4), .v (.slice A5 n6 c7), .v (.int .i64 x8), .v (.int .i64 x9)] [[.int .i64 x10, .int .i64 x11, .slice A12 n13 c14], [.int .i64 x15, .int .i64 x16, .int .i64 x17, .int .i64 x18]] M =
 bb (decide (x9 < IntKind.i64.wrap (x15 + x17)))
 (ob (acall P T k lo F.cdef_sample [.agg ⟨[.int .i64 x10, .int .i64 x11, .slice A12 n13 c14]⟩, .int .i64 x9, .int .i64 x8, .slice A2 n3 c4, .int .i64 x1] M) fun r39 =>
 ob ((some r39.1).bind (Value.int? .u8)) fun x40 =>
 ob (r39.2.app lo 1 1 ⟨A5, n6, c7⟩ ([.int .u8 x40]) 1) fun r41 =>
 some (cdef_Block.c64804 x1 A2 n3 c4 r41.1.a r41.1.n r41.1.c x8 (IntKind.i64.wrap (x9 + 1)) x10 x11 A12 n13 c14 x15 x16 x17 x18 r41.2))
 (some (cdef_Block.c1012 x1 A2 n3 c4 A5 n6 c7 (IntKind.i64.wrap (x8 + 1)) x10 x11 A12 n13 c14 x15 x16 x17 x18 M)) := by kernel_rfl
theorem zoetroperef23_Block.entry (k lo : Nat) (x1 : Int) (x2 : Int) (A3 : Option Addr) (n4 : Nat) (c5 : Nat) (x6 : Int) (x7 : Int) (x8 : Int) (x9 : Int) (x10 : Int) (x11 : Int) (x12 : Int) (x13 : Int) (M : Mem) : entry P T k lo F.zoetroperef23_Block [.agg ⟨[.int .i64 x1, .int .i64 x2, .slice A3 n4 c5]⟩, .agg ⟨[.int .i64 x6, .int .i64 x7, .int .i64 x8, .int .i64 x9]⟩, .int .i64 x10, .int .i64 x11, .int .i64 x12, .int .i64 x13] M =
 ob (acall P T k lo F.zoetroperef05_Check [.agg ⟨[.int .i64 x1, .int .i64 x2, .slice A3 n4 c5]⟩] M) fun r19 =>
 ob ((some r19.1).bind (Value.int? .i64)) fun x20 =>
 bb (x20 != 0)
 (some (.ret (.tuple ⟨[.slice none 0 0, .int .i64 2]⟩) r19.2))
 (bb (decide (x8 < 1))
 (some (.ret (.tuple ⟨[.slice none 0 0, .int .i64 2]⟩) r19.2))
 (bb (decide (x8 > 64))
 (some (.ret (.tuple ⟨[.slice none 0 0, .int .i64 2]⟩) r19.2))
 (bb (decide (x9 < 1))
 (some (.ret (.tuple ⟨[.slice none 0 0, .int .i64 2]⟩) r19.2))
 (bb (decide (x9 > 64))
 (some (.ret (.tuple ⟨[.slice none 0 0, .int .i64 2]⟩) r19.2))
 (ob (acall P T k lo F.zoetroperef05_Within [.agg ⟨[.int .i64 x1, .int .i64 x2, .slice A3 n4 c5]⟩, .agg ⟨[.int .i64 x6, .int .i64 x7, .int .i64 x8, .int .i64 x9]⟩] r19.2) fun r21 =>
 ob ((some r21.1).bind Value.bool?) fun b22 =>
 bb (!b22)
 (some (.ret (.tuple ⟨[.slice none 0 0, .int .i64 2]⟩) r21.2))
 (bb (decide (x10 < 0))
 (some (.ret (.tuple ⟨[.slice none 0 0, .int .i64 2]⟩) r21.2))
 (bb (decide (x10 > 7))
 (some (.ret (.tuple ⟨[.slice none 0 0, .int .i64 2]⟩) r21.2))
 (bb (decide (x11 < 0))
 (some (.ret (.tuple ⟨[.slice none 0 0, .int .i64 2]⟩) r21.2))
 (bb (decide (x11 > 15))
 (some (.ret (.tuple ⟨[.slice none 0 0, .int .i64 2]⟩) r21.2))
 (bb (decide (x12 < 0))
 (some (.ret (.tuple ⟨[.slice none 0 0, .int .i64 2]⟩) r21.2))
 (bb (decide (x12 > 4))
 (some (.ret (.tuple ⟨[.slice none 0 0, .int .i64 2]⟩) r21.2))
 (bb (decide (x13 < 0))
 (some (.ret (.tuple ⟨[.slice none 0 0, .int .i64 2]⟩) r21.2))
 (bb (decide (x13 > 6))
 (some (.ret (.tuple ⟨[.slice none 0 0, .int .i64 2]⟩) r21.2))
 (some (zoetroperef23_Block.c500 x10 x11 x12 x13 none 0 0 x7 x1 x2 A3 n4 c5 x6 x7 x8 x9 r21.2))))))))))))))) := by kernel_rfl
theorem zoetroperef23_Block.p500 (k lo : Nat) (x1 : Int) (x2 : Int) (x3 : Int) (x4 : Int) (A5 : Option Addr) (n6 : Nat) (c7 : Nat) (x8 : Int) (x9 : Int) (x10 : Int) (A11 : Option Addr) (n12 : Nat) (c13 : Nat) (x14 : Int) (x15 : Int) (x16 : Int) (x17 : Int) (M : Mem) : piece P T k lo F.zoetroperef23_Block 500 [.v (.int .i64 x1), .v (.int .i64 x2), .v (.int .i64 x3), .v (.int .i64 x4), .l 6 0, .l 7 0, .v (.slice A5 n6 c7), .v (.int .i64 x8)] [[.int .i64 x9, .int .i64 x10, .slice A11 n12 c13], [.int .i64 x14, .int .i64 x15, .int .i64 x16, .int .i64 x17]] M =
 bb (decide (x8 < IntKind.i64.wrap (x15 + x17)))
 (some (zoetroperef23_Block.c32036 x1 x2 x3 x4 A5 n6 c7 x8 x14 x9 x10 A11 n12 c13 x14 x15 x16 x17 M))
 (some (.ret (.tuple ⟨[.slice A5 n6 c7, .int .i64 0]⟩) M)) := by kernel_rfl
theorem zoetroperef23_Block.p32036 (k lo : Nat) (x1 : Int) (x2 : Int) (x3 : Int) (x4 : Int) (A5 : Option Addr) (n6 : Nat) (c7 : Nat) (x8 : Int) (x9 : Int) (x10 : Int) (x11 : Int) (A12 : Option Addr) (n13 : Nat) (c14 : Nat) (x15 : Int) (x16 : Int) (x17 : Int) (x18 : Int) (M : Mem) : piece P T k lo F.zoetroperef23_Block 32036 [.v (.int .i64 x1), .v (.int .i64 x2), .v (.int .i64 x3), .v (.int .i64 x4), .l 6 0, .l 7 0, .v (.slice A5 n6 c7), .v (.int .i64 x8), .v (.int .i64 x9)] [[.int .i64 x10, .int .i64 x11, .slice A12 n13 c14], [.int .i64 x15, .int .i64 x16, .int .i64 x17, .int .i64 x18]] M =
 bb (decide (x9 < IntKind.i64.wrap (x15 + x17)))
 (ob (acall P T k lo F.zoetroperef23_sample [.agg ⟨[.int .i64 x10, .int .i64 x11, .slice A12 n13 c14]⟩, .int .i64 x9, .int .i64 x8, .agg ⟨[.int .i64 x1, .int .i64 x2, .int .i64 x3, .int .i64 x4]⟩] M) fun r23 =>
 ob ((some r23.1).bind (Value.int? .u8)) fun x24 =>
 ob (r23.2.app lo 1 1 ⟨A5, n6, c7⟩ ([.int .u8 x24]) 1) fun r25 =>
 some (zoetroperef23_Block.c32036 x1 x2 x3 x4 r25.1.a r25.1.n r25.1.c x8 (IntKind.i64.wrap (x9 + 1)) x10 x11 A12 n13 c14 x15 x16 x17 x18 r25.2))
 (some (zoetroperef23_Block.c500 x1 x2 x3 x4 A5 n6 c7 (IntKind.i64.wrap (x8 + 1)) x10 x11 A12 n13 c14 x15 x16 x17 x18 M)) := by kernel_rfl
theorem plane_Check.entry (k lo : Nat) (x1 : Int) (x2 : Int) (A3 : Option Addr) (n4 : Nat) (c5 : Nat) (M : Mem) : entry P T k lo F.plane_Check [.agg ⟨[.int .i64 x1, .int .i64 x2, .slice A3 n4 c5]⟩] M =
 ob (acall P T k lo F.plane_sizes [.int .i64 x1, .int .i64 x2] M) fun r11 =>
 ob ((some r11.1).bind Value.bool?) fun b12 =>
 bb (!b12)
 (some (.ret (.int .i64 2) r11.2))
 (bb ((n4 : Int) != IntKind.i64.wrap (x1 * x2))
 (some (.ret (.int .i64 2) r11.2))
 (some (.ret (.int .i64 0) r11.2))) := by kernel_rfl
theorem zoetroperef00_Bring.entry (k lo : Nat) (x1 : Int) (x2 : Int) (M : Mem) : entry P T k lo F.zoetroperef00_Bring [.int .i64 x1, .int .i64 x2] M =
 bb (decide (x2 ≤ 0))
 (some (.ret (.int .i64 0) M))
 (pb (x2 = 0) none
 (bb (decide (Int.tmod x1 x2 < 0))
 (some (zoetroperef00_Bring.c31 (IntKind.i64.wrap ((Int.tmod x1 x2) + x2)) M))
 (some (zoetroperef00_Bring.c31 (Int.tmod x1 x2) M)))) := by kernel_rfl
theorem zoetroperef00_Bring.p31 (k lo : Nat) (x1 : Int) (M : Mem) : piece P T k lo F.zoetroperef00_Bring 31 [.v (.int .i64 x1)] [] M =
 some (.ret (.int .i64 x1) M) := by kernel_rfl
theorem zoetropelaw23_stripes.entry (k lo : Nat) (b1 : Bool) (x2 : Int) (x3 : Int) (M : Mem) : entry P T k lo F.zoetropelaw23_stripes [.bool b1, .int .u8 x2, .int .u8 x3] M =
 some (zoetropelaw23_stripes.c116 b1 x2 x3 none 0 0 0 M) := by kernel_rfl
theorem zoetropelaw23_stripes.p116 (k lo : Nat) (b1 : Bool) (x2 : Int) (x3 : Int) (A4 : Option Addr) (n5 : Nat) (c6 : Nat) (x7 : Int) (M : Mem) : piece P T k lo F.zoetropelaw23_stripes 116 [.v (.bool b1), .v (.int .u8 x2), .v (.int .u8 x3), .v (.slice A4 n5 c6), .v (.int .i64 x7)] [] M =
 bb (decide (x7 < 64))
 (bb b1
 (some (zoetropelaw23_stripes.c3731 b1 x2 x3 A4 n5 c6 x7 (Int.tmod x7 8) M))
 (some (zoetropelaw23_stripes.c3731 b1 x2 x3 A4 n5 c6 x7 (IntKind.i64.wrap (Int.tdiv x7 8)) M)))
 (some (.ret (.slice A4 n5 c6) M)) := by kernel_rfl
theorem zoetropelaw23_stripes.p467 (k lo : Nat) (b1 : Bool) (x2 : Int) (x3 : Int) (A4 : Option Addr) (n5 : Nat) (c6 : Nat) (x7 : Int) (M : Mem) : piece P T k lo F.zoetropelaw23_stripes 467 [.v (.bool b1), .v (.int .u8 x2), .v (.int .u8 x3), .v (.slice A4 n5 c6), .v (.int .i64 x7)] [] M =
 some (zoetropelaw23_stripes.c116 b1 x2 x3 A4 n5 c6 (IntKind.i64.wrap (x7 + 1)) M) := by kernel_rfl
theorem zoetropelaw23_stripes.p3731 (k lo : Nat) (b1 : Bool) (x2 : Int) (x3 : Int) (A4 : Option Addr) (n5 : Nat) (c6 : Nat) (x7 : Int) (x8 : Int) (M : Mem) : piece P T k lo F.zoetropelaw23_stripes 3731 [.v (.bool b1), .v (.int .u8 x2), .v (.int .u8 x3), .v (.slice A4 n5 c6), .v (.int .i64 x7), .v (.int .i64 x8)] [] M =
 bb (Int.tmod (IntKind.i64.wrap (Int.tdiv x8 2)) 2 == 0)
 (ob (M.app lo 1 1 ⟨A4, n5, c6⟩ ([.int .u8 x2]) 1) fun r9 =>
 some (zoetropelaw23_stripes.c467 b1 x2 x3 r9.1.a r9.1.n r9.1.c x7 r9.2))
 (ob (M.app lo 1 1 ⟨A4, n5, c6⟩ ([.int .u8 x3]) 1) fun r10 =>
 some (zoetropelaw23_stripes.c467 b1 x2 x3 r10.1.a r10.1.n r10.1.c x7 r10.2)) := by kernel_rfl
theorem zoetroperef05_CopyFrame.entry (k lo : Nat) (x1 : Int) (x2 : Int) (A3 : Option Addr) (n4 : Nat) (c5 : Nat) (x6 : Int) (x7 : Int) (A8 : Option Addr) (n9 : Nat) (c10 : Nat) (x11 : Int) (x12 : Int) (A13 : Option Addr) (n14 : Nat) (c15 : Nat) (M : Mem) : entry P T k lo F.zoetroperef05_CopyFrame [.agg ⟨[.int .i64 x1, .int .i64 x2, .slice A3 n4 c5, .int .i64 x6, .int .i64 x7, .slice A8 n9 c10, .int .i64 x11, .int .i64 x12, .slice A13 n14 c15]⟩] M =
 some (zoetroperef05_CopyFrame.c116 0 x1 x2 A3 n4 c5 x6 x7 A8 n9 c10 x11 x12 A13 n14 c15 0 0 none 0 0 0 0 none 0 0 0 0 none 0 0 ([.int .i64 0, .int .i64 0, .slice none 0 0, .int .i64 0, .int .i64 0, .slice none 0 0, .int .i64 0, .int .i64 0, .slice none 0 0]) M) := by kernel_rfl
theorem zoetroperef05_CopyFrame.p116 (k lo : Nat) (x1 : Int) (x2 : Int) (x3 : Int) (A4 : Option Addr) (n5 : Nat) (c6 : Nat) (x7 : Int) (x8 : Int) (A9 : Option Addr) (n10 : Nat) (c11 : Nat) (x12 : Int) (x13 : Int) (A14 : Option Addr) (n15 : Nat) (c16 : Nat) (x17 : Int) (x18 : Int) (A19 : Option Addr) (n20 : Nat) (c21 : Nat) (x22 : Int) (x23 : Int) (A24 : Option Addr) (n25 : Nat) (c26 : Nat) (x27 : Int) (x28 : Int) (A29 : Option Addr) (n30 : Nat) (c31 : Nat) (cs32 : List Value) (M : Mem) : piece P T k lo F.zoetroperef05_CopyFrame 116 [.l 1 0, .l 2 0, .l 3 0, .v (.int .i64 x1)] [[.int .i64 x2, .int .i64 x3, .slice A4 n5 c6, .int .i64 x7, .int .i64 x8, .slice A9 n10 c11, .int .i64 x12, .int .i64 x13, .slice A14 n15 c16], [.int .i64 x17, .int .i64 x18, .slice A19 n20 c21, .int .i64 x22, .int .i64 x23, .slice A24 n25 c26, .int .i64 x27, .int .i64 x28, .slice A29 n30 c31], cs32] M =
 bb (decide (x1 < 3))
 (pb (0 ≤ x1 ∧ x1 < (3 : Int))
 (ob ((([.int .i64 x2, .int .i64 x3, .slice A4 n5 c6, .int .i64 x7, .int .i64 x8, .slice A9 n10 c11, .int .i64 x12, .int .i64 x13, .slice A14 n15 c16] : List Value)[0 + (x1.toNat * 3) + 0]?).bind (Value.int? .i64)) fun x33 =>
 ob ((([.int .i64 x2, .int .i64 x3, .slice A4 n5 c6, .int .i64 x7, .int .i64 x8, .slice A9 n10 c11, .int .i64 x12, .int .i64 x13, .slice A14 n15 c16] : List Value)[0 + (x1.toNat * 3) + 1]?).bind (Value.int? .i64)) fun x34 =>
 ob ((([.int .i64 x2, .int .i64 x3, .slice A4 n5 c6, .int .i64 x7, .int .i64 x8, .slice A9 n10 c11, .int .i64 x12, .int .i64 x13, .slice A14 n15 c16] : List Value)[0 + (x1.toNat * 3) + 2]?).bind Value.slc?) fun s35 =>
 ob (acall P T k lo F.zoetroperef05_CopyPlane [.agg ⟨[.int .i64 x33, .int .i64 x34, .slice s35.a s35.n s35.c]⟩] M) fun r36 =>
 ob ((some r36.1).bind (Value.agg? 3)) fun l37 =>
 ob ((l37[0]?).bind (Value.int? .i64)) fun x38 =>
 ob ((l37[1]?).bind (Value.int? .i64)) fun x39 =>
 ob ((l37[2]?).bind Value.slc?) fun s40 =>
 pb (0 ≤ x1 ∧ x1 < (3 : Int))
 (pb (0 + (x1.toNat * 3) + 3 ≤ cs32.length)
 (some (zoetroperef05_CopyFrame.c116 (IntKind.i64.wrap (x1 + 1)) x2 x3 A4 n5 c6 x7 x8 A9 n10 c11 x12 x13 A14 n15 c16 x17 x18 A19 n20 c21 x22 x23 A24 n25 c26 x27 x28 A29 n30 c31 (setL cs32 (0 + (x1.toNat * 3)) [.int .i64 x38, .int .i64 x39, .slice s40.a s40.n s40.c]) r36.2)) none) none) none)
 (ob ((cs32[0]?).bind (Value.int? .i64)) fun x41 =>
 ob ((cs32[1]?).bind (Value.int? .i64)) fun x42 =>
 ob ((cs32[2]?).bind Value.slc?) fun s43 =>
 ob ((cs32[3]?).bind (Value.int? .i64)) fun x44 =>
 ob ((cs32[4]?).bind (Value.int? .i64)) fun x45 =>
 ob ((cs32[5]?).bind Value.slc?) fun s46 =>
 ob ((cs32[6]?).bind (Value.int? .i64)) fun x47 =>
 ob ((cs32[7]?).bind (Value.int? .i64)) fun x48 =>
 ob ((cs32[8]?).bind Value.slc?) fun s49 =>
 some (.ret (.agg ⟨[.int .i64 x41, .int .i64 x42, .slice s43.a s43.n s43.c, .int .i64 x44, .int .i64 x45, .slice s46.a s46.n s46.c, .int .i64 x47, .int .i64 x48, .slice s49.a s49.n s49.c]⟩) M)) := by kernel_rfl
theorem cdef_Frame.entry (k lo : Nat) (x1 : Int) (x2 : Int) (A3 : Option Addr) (n4 : Nat) (c5 : Nat) (x6 : Int) (x7 : Int) (A8 : Option Addr) (n9 : Nat) (c10 : Nat) (x11 : Int) (x12 : Int) (A13 : Option Addr) (n14 : Nat) (c15 : Nat) (A16 : Option Addr) (n17 : Nat) (c18 : Nat) (A19 : Option Addr) (n20 : Nat) (c21 : Nat) (b22 : Bool) (x23 : Int) (b24 : Bool) (b25 : Bool) (x26 : Int) (x27 : Int) (x28 : Int) (x29 : Int) (x30 : Int) (x31 : Int) (x32 : Int) (x33 : Int) (x34 : Int) (x35 : Int) (x36 : Int) (x37 : Int) (x38 : Int) (b39 : Bool) (x40 : Int) (x41 : Int) (x42 : Int) (x43 : Int) (x44 : Int) (b45 : Bool) (x46 : Int) (x47 : Int) (A48 : Option Addr) (n49 : Nat) (c50 : Nat) (b51 : Bool) (b52 : Bool) (b53 : Bool) (M : Mem) : entry P T k lo F.cdef_Frame [.agg ⟨[.int .i64 x1, .int .i64 x2, .slice A3 n4 c5, .int .i64 x6, .int .i64 x7, .slice A8 n9 c10, .int .i64 x11, .int .i64 x12, .slice A13 n14 c15]⟩, .slice A16 n17 c18, .slice A19 n20 c21, .agg ⟨[.bool b22, .int .i64 x23, .bool b24, .bool b25, .int .i64 x26, .int .i64 x27, .int .i64 x28, .int .i64 x29, .int .i64 x30, .int .i64 x31, .int .i64 x32, .int .i64 x33, .int .i64 x34, .int .i64 x35, .int .i64 x36, .int .i64 x37, .int .i64 x38, .bool b39, .int .i64 x40, .int .i64 x41, .int .i64 x42, .int .i64 x43, .int .i64 x44, .bool b45, .int .i64 x46, .int .i64 x47, .slice A48 n49 c50, .bool b51, .bool b52, .bool b53]⟩] M =
 ob (acall P T k lo F.cdef_may [.agg ⟨[.int .i64 x1, .int .i64 x2, .slice A3 n4 c5, .int .i64 x6, .int .i64 x7, .slice A8 n9 c10, .int .i64 x11, .int .i64 x12, .slice A13 n14 c15]⟩, .slice A16 n17 c18, .slice A19 n20 c21, .agg ⟨[.bool b22, .int .i64 x23, .bool b24, .bool b25, .int .i64 x26, .int .i64 x27, .int .i64 x28, .int .i64 x29, .int .i64 x30, .int .i64 x31, .int .i64 x32, .int .i64 x33, .int .i64 x34, .int .i64 x35, .int .i64 x36, .int .i64 x37, .int .i64 x38, .bool b39, .int .i64 x40, .int .i64 x41, .int .i64 x42, .int .i64 x43, .int .i64 x44, .bool b45, .int .i64 x46, .int .i64 x47, .slice A48 n49 c50, .bool b51, .bool b52, .bool b53]⟩] M) fun r59 =>
 ob ((some r59.1).bind Value.bool?) fun b60 =>
 bb (!b60)
 (some (.ret (.tuple ⟨[.agg ⟨[.int .i64 0, .int .i64 0, .slice none 0 0, .int .i64 0, .int .i64 0, .slice none 0 0, .int .i64 0, .int .i64 0, .slice none 0 0]⟩, .int .i64 2]⟩) r59.2))
 (some (cdef_Frame.c244 A16 n17 c18 A19 n20 c21 0 x1 x2 A3 n4 c5 x6 x7 A8 n9 c10 x11 x12 A13 n14 c15 b22 x23 b24 b25 x26 x27 x28 x29 x30 x31 x32 x33 x34 x35 x36 x37 x38 b39 x40 x41 x42 x43 x44 b45 x46 x47 A48 n49 c50 b51 b52 b53 0 0 none 0 0 0 0 none 0 0 0 0 none 0 0 ([.int .i64 x1, .int .i64 x2, .slice A3 n4 c5, .int .i64 x6, .int .i64 x7, .slice A8 n9 c10, .int .i64 x11, .int .i64 x12, .slice A13 n14 c15]) r59.2)) := by kernel_rfl
theorem cdef_Frame.p244 (k lo : Nat) (A1 : Option Addr) (n2 : Nat) (c3 : Nat) (A4 : Option Addr) (n5 : Nat) (c6 : Nat) (x7 : Int) (x8 : Int) (x9 : Int) (A10 : Option Addr) (n11 : Nat) (c12 : Nat) (x13 : Int) (x14 : Int) (A15 : Option Addr) (n16 : Nat) (c17 : Nat) (x18 : Int) (x19 : Int) (A20 : Option Addr) (n21 : Nat) (c22 : Nat) (b23 : Bool) (x24 : Int) (b25 : Bool) (b26 : Bool) (x27 : Int) (x28 : Int) (x29 : Int) (x30 : Int) (x31 : Int) (x32 : Int) (x33 : Int) (x34 : Int) (x35 : Int) (x36 : Int) (x37 : Int) (x38 : Int) (x39 : Int) (b40 : Bool) (x41 : Int) (x42 : Int) (x43 : Int) (x44 : Int) (x45 : Int) (b46 : Bool) (x47 : Int) (x48 : Int) (A49 : Option Addr) (n50 : Nat) (c51 : Nat) (b52 : Bool) (b53 : Bool) (b54 : Bool) (x55 : Int) (x56 : Int) (A57 : Option Addr) (n58 : Nat) (c59 : Nat) (x60 : Int) (x61 : Int) (A62 : Option Addr) (n63 : Nat) (c64 : Nat) (x65 : Int) (x66 : Int) (A67 : Option Addr) (n68 : Nat) (c69 : Nat) (cs70 : List Value) (M : Mem) : piece P T k lo F.cdef_Frame 244 [.v (.slice A1 n2 c3), .v (.slice A4 n5 c6), .l 4 0, .l 7 0, .l 8 0, .l 10 0, .v (.int .i64 x7)] [[.int .i64 x8, .int .i64 x9, .slice A10 n11 c12, .int .i64 x13, .int .i64 x14, .slice A15 n16 c17, .int .i64 x18, .int .i64 x19, .slice A20 n21 c22], [.bool b23, .int .i64 x24, .bool b25, .bool b26, .int .i64 x27, .int .i64 x28, .int .i64 x29, .int .i64 x30, .int .i64 x31, .int .i64 x32, .int .i64 x33, .int .i64 x34, .int .i64 x35, .int .i64 x36, .int .i64 x37, .int .i64 x38, .int .i64 x39, .bool b40, .int .i64 x41, .int .i64 x42, .int .i64 x43, .int .i64 x44, .int .i64 x45, .bool b46, .int .i64 x47, .int .i64 x48, .slice A49 n50 c51, .bool b52, .bool b53, .bool b54], [.int .i64 x55, .int .i64 x56, .slice A57 n58 c59, .int .i64 x60, .int .i64 x61, .slice A62 n63 c64, .int .i64 x65, .int .i64 x66, .slice A67 n68 c69], cs70] M =
 bb (decide (x7 < 3))
 (pb (0 ≤ x7 ∧ x7 < (3 : Int))
 (ob ((([.int .i64 x8, .int .i64 x9, .slice A10 n11 c12, .int .i64 x13, .int .i64 x14, .slice A15 n16 c17, .int .i64 x18, .int .i64 x19, .slice A20 n21 c22] : List Value)[0 + (x7.toNat * 3) + 2 + 0]?).bind Value.slc?) fun s71 =>
 ob (acall P T k lo F.slices_Clone__uint8_uint8 [.slice s71.a s71.n s71.c] M) fun r72 =>
 ob ((some r72.1).bind Value.slc?) fun s73 =>
 pb (0 ≤ x7 ∧ x7 < (3 : Int))
 (pb (0 + (x7.toNat * 3) + 2 + 1 ≤ cs70.length)
 (some (cdef_Frame.c244 A1 n2 c3 A4 n5 c6 (IntKind.i64.wrap (x7 + 1)) x8 x9 A10 n11 c12 x13 x14 A15 n16 c17 x18 x19 A20 n21 c22 b23 x24 b25 b26 x27 x28 x29 x30 x31 x32 x33 x34 x35 x36 x37 x38 x39 b40 x41 x42 x43 x44 x45 b46 x47 x48 A49 n50 c51 b52 b53 b54 x55 x56 A57 n58 c59 x60 x61 A62 n63 c64 x65 x66 A67 n68 c69 (setL cs70 (0 + (x7.toNat * 3) + 2) [.slice s73.a s73.n s73.c]) r72.2)) none) none) none)
 (bb (!b46)
 (ob ((cs70[0]?).bind (Value.int? .i64)) fun x74 =>
 ob ((cs70[1]?).bind (Value.int? .i64)) fun x75 =>
 ob ((cs70[2]?).bind Value.slc?) fun s76 =>
 ob ((cs70[3]?).bind (Value.int? .i64)) fun x77 =>
 ob ((cs70[4]?).bind (Value.int? .i64)) fun x78 =>
 ob ((cs70[5]?).bind Value.slc?) fun s79 =>
 ob ((cs70[6]?).bind (Value.int? .i64)) fun x80 =>
 ob ((cs70[7]?).bind (Value.int? .i64)) fun x81 =>
 ob ((cs70[8]?).bind Value.slc?) fun s82 =>
 some (.ret (.tuple ⟨[.agg ⟨[.int .i64 x74, .int .i64 x75, .slice s76.a s76.n s76.c, .int .i64 x77, .int .i64 x78, .slice s79.a s79.n s79.c, .int .i64 x80, .int .i64 x81, .slice s82.a s82.n s82.c]⟩, .int .i64 0]⟩) M))
 (some (cdef_Frame.c2036 A4 n5 c6 (IntKind.i64.wrap (Int.tdiv x8 8)) A1 n2 c3 (n2 : Int) 0 x8 x9 A10 n11 c12 x13 x14 A15 n16 c17 x18 x19 A20 n21 c22 b23 x24 b25 b26 x27 x28 x29 x30 x31 x32 x33 x34 x35 x36 x37 x38 x39 b40 x41 x42 x43 x44 x45 b46 x47 x48 A49 n50 c51 b52 b53 b54 x55 x56 A57 n58 c59 x60 x61 A62 n63 c64 x65 x66 A67 n68 c69 cs70 M))) := by kernel_rfl
theorem cdef_Frame.p2036 (k lo : Nat) (A1 : Option Addr) (n2 : Nat) (c3 : Nat) (x4 : Int) (A5 : Option Addr) (n6 : Nat) (c7 : Nat) (x8 : Int) (x9 : Int) (x10 : Int) (x11 : Int) (A12 : Option Addr) (n13 : Nat) (c14 : Nat) (x15 : Int) (x16 : Int) (A17 : Option Addr) (n18 : Nat) (c19 : Nat) (x20 : Int) (x21 : Int) (A22 : Option Addr) (n23 : Nat) (c24 : Nat) (b25 : Bool) (x26 : Int) (b27 : Bool) (b28 : Bool) (x29 : Int) (x30 : Int) (x31 : Int) (x32 : Int) (x33 : Int) (x34 : Int) (x35 : Int) (x36 : Int) (x37 : Int) (x38 : Int) (x39 : Int) (x40 : Int) (x41 : Int) (b42 : Bool) (x43 : Int) (x44 : Int) (x45 : Int) (x46 : Int) (x47 : Int) (b48 : Bool) (x49 : Int) (x50 : Int) (A51 : Option Addr) (n52 : Nat) (c53 : Nat) (b54 : Bool) (b55 : Bool) (b56 : Bool) (x57 : Int) (x58 : Int) (A59 : Option Addr) (n60 : Nat) (c61 : Nat) (x62 : Int) (x63 : Int) (A64 : Option Addr) (n65 : Nat) (c66 : Nat) (x67 : Int) (x68 : Int) (A69 : Option Addr) (n70 : Nat) (c71 : Nat) (cs72 : List Value) (M : Mem) : piece P T k lo F.cdef_Frame 2036 [.v (.slice A1 n2 c3), .l 4 0, .l 7 0, .l 8 0, .l 10 0, .v (.int .i64 x4), .v (.slice A5 n6 c7), .v (.int .i64 x8), .v (.int .i64 x9)] [[.int .i64 x10, .int .i64 x11, .slice A12 n13 c14, .int .i64 x15, .int .i64 x16, .slice A17 n18 c19, .int .i64 x20, .int .i64 x21, .slice A22 n23 c24], [.bool b25, .int .i64 x26, .bool b27, .bool b28, .int .i64 x29, .int .i64 x30, .int .i64 x31, .int .i64 x32, .int .i64 x33, .int .i64 x34, .int .i64 x35, .int .i64 x36, .int .i64 x37, .int .i64 x38, .int .i64 x39, .int .i64 x40, .int .i64 x41, .bool b42, .int .i64 x43, .int .i64 x44, .int .i64 x45, .int .i64 x46, .int .i64 x47, .bool b48, .int .i64 x49, .int .i64 x50, .slice A51 n52 c53, .bool b54, .bool b55, .bool b56], [.int .i64 x57, .int .i64 x58, .slice A59 n60 c61, .int .i64 x62, .int .i64 x63, .slice A64 n65 c66, .int .i64 x67, .int .i64 x68, .slice A69 n70 c71], cs72] M =
 bb (decide (x9 < x8))
 (pb (0 ≤ x9 ∧ x9 < (n6 : Int))
 (ob A5 fun a83 =>
 ob ((M.ld (plus a83 x9.toNat)).bind Value.bool?) fun b84 =>
 bb b84
 (some (cdef_Frame.c16295 A1 n2 c3 x4 A5 n6 c7 x8 x9 x10 x11 A12 n13 c14 x15 x16 A17 n18 c19 x20 x21 A22 n23 c24 b25 x26 b27 b28 x29 x30 x31 x32 x33 x34 x35 x36 x37 x38 x39 x40 x41 b42 x43 x44 x45 x46 x47 b48 x49 x50 A51 n52 c53 b54 b55 b56 x57 x58 A59 n60 c61 x62 x63 A64 n65 c66 x67 x68 A69 n70 c71 cs72 M))
 (pb (x4 = 0) none
 (pb (x4 = 0) none
 (pb (0 ≤ IntKind.i64.wrap ((IntKind.i64.wrap ((IntKind.i64.wrap (Int.tdiv (IntKind.i64.wrap (8 * (IntKind.i64.wrap (Int.tdiv x9 x4)))) 64)) * (IntKind.i64.wrap (Int.tdiv (IntKind.i64.wrap ((IntKind.i64.wrap (x10 + 64)) - 1)) 64)))) + (IntKind.i64.wrap (Int.tdiv (IntKind.i64.wrap (8 * (Int.tmod x9 x4))) 64))) ∧ IntKind.i64.wrap ((IntKind.i64.wrap ((IntKind.i64.wrap (Int.tdiv (IntKind.i64.wrap (8 * (IntKind.i64.wrap (Int.tdiv x9 x4)))) 64)) * (IntKind.i64.wrap (Int.tdiv (IntKind.i64.wrap ((IntKind.i64.wrap (x10 + 64)) - 1)) 64)))) + (IntKind.i64.wrap (Int.tdiv (IntKind.i64.wrap (8 * (Int.tmod x9 x4))) 64))) < (n2 : Int))
 (ob A1 fun a85 =>
 ob ((M.ld (plus a85 ((IntKind.i64.wrap ((IntKind.i64.wrap ((IntKind.i64.wrap (Int.tdiv (IntKind.i64.wrap (8 * (IntKind.i64.wrap (Int.tdiv x9 x4)))) 64)) * (IntKind.i64.wrap (Int.tdiv (IntKind.i64.wrap ((IntKind.i64.wrap (x10 + 64)) - 1)) 64)))) + (IntKind.i64.wrap (Int.tdiv (IntKind.i64.wrap (8 * (Int.tmod x9 x4))) 64)))).toNat))).bind (Value.int? .i64)) fun x86 =>
 pb (0 ≤ x86 ∧ x86 < (n52 : Int))
 (ob A51 fun a87 =>
 ob ((M.ld (plus a87 (x86.toNat * 4))).bind (Value.int? .i64)) fun x88 =>
 ob ((M.ld (plus (plus a87 (x86.toNat * 4)) 1)).bind (Value.int? .i64)) fun x89 =>
 ob ((M.ld (plus (plus a87 (x86.toNat * 4)) 2)).bind (Value.int? .i64)) fun x90 =>
 ob ((M.ld (plus (plus a87 (x86.toNat * 4)) 3)).bind (Value.int? .i64)) fun x91 =>
 ob (acall P T k lo F.plane_Cut [.agg ⟨[.int .i64 x10, .int .i64 x11, .slice A12 n13 c14]⟩, .agg ⟨[.int .i64 (IntKind.i64.wrap (8 * (Int.tmod x9 x4))), .int .i64 (IntKind.i64.wrap (8 * (IntKind.i64.wrap (Int.tdiv x9 x4)))), .int .i64 8, .int .i64 8]⟩] M) fun r92 =>
 ob (r92.1.tup? 2) fun l93 =>
 ob ((l93[0]?).bind Value.slc?) fun s94 =>
 ob ((l93[1]?).bind (Value.int? .i64)) fun x95 =>
 bb (x95 != 0)
 (some (.ret (.tuple ⟨[.agg ⟨[.int .i64 0, .int .i64 0, .slice none 0 0, .int .i64 0, .int .i64 0, .slice none 0 0, .int .i64 0, .int .i64 0, .slice none 0 0]⟩, .int .i64 x95]⟩) r92.2))
 (ob (acall P T k lo F.cdef_Direction [.slice s94.a s94.n s94.c] r92.2) fun r96 =>
 ob (r96.1.tup? 3) fun l97 =>
 ob ((l97[0]?).bind (Value.int? .i64)) fun x98 =>
 ob ((l97[1]?).bind (Value.int? .i64)) fun x99 =>
 ob ((l97[2]?).bind (Value.int? .i64)) fun x100 =>
 some (cdef_Frame.c33371132 A1 n2 c3 x4 (IntKind.i64.wrap (8 * (Int.tmod x9 x4))) (IntKind.i64.wrap (8 * (IntKind.i64.wrap (Int.tdiv x9 x4)))) x98 x99 A5 n6 c7 x8 x9 0 x10 x11 A12 n13 c14 x15 x16 A17 n18 c19 x20 x21 A22 n23 c24 b25 x26 b27 b28 x29 x30 x31 x32 x33 x34 x35 x36 x37 x38 x39 x40 x41 b42 x43 x44 x45 x46 x47 b48 x49 x50 A51 n52 c53 b54 b55 b56 x57 x58 A59 n60 c61 x62 x63 A64 n65 c66 x67 x68 A69 n70 c71 cs72 x88 x89 x90 x91 r96.2))) none) none)))) none)
 (ob ((cs72[0]?).bind (Value.int? .i64)) fun x101 =>
 ob ((cs72[1]?).bind (Value.int? .i64)) fun x102 =>
 ob ((cs72[2]?).bind Value.slc?) fun s103 =>
 ob ((cs72[3]?).bind (Value.int? .i64)) fun x104 =>
 ob ((cs72[4]?).bind (Value.int? .i64)) fun x105 =>
 ob ((cs72[5]?).bind Value.slc?) fun s106 =>
 ob ((cs72[6]?).bind (Value.int? .i64)) fun x107 =>
 ob ((cs72[7]?).bind (Value.int? .i64)) fun x108 =>
 ob ((cs72[8]?).bind Value.slc?) fun s109 =>
 some (.ret (.tuple ⟨[.agg ⟨[.int .i64 x101, .int .i64 x102, .slice s103.a s103.n s103.c, .int .i64 x104, .int .i64 x105, .slice s106.a s106.n s106.c, .int .i64 x107, .int .i64 x108, .slice s109.a s109.n s109.c]⟩, .int .i64 0]⟩) M)) := by kernel_rfl
theorem cdef_Frame.p16295 (k lo : Nat) (A1 : Option Addr) (n2 : Nat) (c3 : Nat) (x4 : Int) (A5 : Option Addr) (n6 : Nat) (c7 : Nat) (x8 : Int) (x9 : Int) (x10 : Int) (x11 : Int) (A12 : Option Addr) (n13 : Nat) (c14 : Nat) (x15 : Int) (x16 : Int) (A17 : Option Addr) (n18 : Nat) (c19 : Nat) (x20 : Int) (x21 : Int) (A22 : Option Addr) (n23 : Nat) (c24 : Nat) (b25 : Bool) (x26 : Int) (b27 : Bool) (b28 : Bool) (x29 : Int) (x30 : Int) (x31 : Int) (x32 : Int) (x33 : Int) (x34 : Int) (x35 : Int) (x36 : Int) (x37 : Int) (x38 : Int) (x39 : Int) (x40 : Int) (x41 : Int) (b42 : Bool) (x43 : Int) (x44 : Int) (x45 : Int) (x46 : Int) (x47 : Int) (b48 : Bool) (x49 : Int) (x50 : Int) (A51 : Option Addr) (n52 : Nat) (c53 : Nat) (b54 : Bool) (b55 : Bool) (b56 : Bool) (x57 : Int) (x58 : Int) (A59 : Option Addr) (n60 : Nat) (c61 : Nat) (x62 : Int) (x63 : Int) (A64 : Option Addr) (n65 : Nat) (c66 : Nat) (x67 : Int) (x68 : Int) (A69 : Option Addr) (n70 : Nat) (c71 : Nat) (cs72 : List Value) (M : Mem) : piece P T k lo F.cdef_Frame 16295 [.v (.slice A1 n2 c3), .l 4 0, .l 7 0, .l 8 0, .l 10 0, .v (.int .i64 x4), .v (.slice A5 n6 c7), .v (.int .i64 x8), .v (.int .i64 x9)] [[.int .i64 x10, .int .i64 x11, .slice A12 n13 c14, .int .i64 x15, .int .i64 x16, .slice A17 n18 c19, .int .i64 x20, .int .i64 x21, .slice A22 n23 c24], [.bool b25, .int .i64 x26, .bool b27, .bool b28, .int .i64 x29, .int .i64 x30, .int .i64 x31, .int .i64 x32, .int .i64 x33, .int .i64 x34, .int .i64 x35, .int .i64 x36, .int .i64 x37, .int .i64 x38, .int .i64 x39, .int .i64 x40, .int .i64 x41, .bool b42, .int .i64 x43, .int .i64 x44, .int .i64 x45, .int .i64 x46, .int .i64 x47, .bool b48, .int .i64 x49, .int .i64 x50, .slice A51 n52 c53, .bool b54, .bool b55, .bool b56], [.int .i64 x57, .int .i64 x58, .slice A59 n60 c61, .int .i64 x62, .int .i64 x63, .slice A64 n65 c66, .int .i64 x67, .int .i64 x68, .slice A69 n70 c71], cs72] M =
 some (cdef_Frame.c2036 A1 n2 c3 x4 A5 n6 c7 x8 (IntKind.i64.wrap (x9 + 1)) x10 x11 A12 n13 c14 x15 x16 A17 n18 c19 x20 x21 A22 n23 c24 b25 x26 b27 b28 x29 x30 x31 x32 x33 x34 x35 x36 x37 x38 x39 x40 x41 b42 x43 x44 x45 x46 x47 b48 x49 x50 A51 n52 c53 b54 b55 b56 x57 x58 A59 n60 c61 x62 x63 A64 n65 c66 x67 x68 A69 n70 c71 cs72 M) := by kernel_rfl
theorem cdef_Frame.p33371132 (k lo : Nat) (A1 : Option Addr) (n2 : Nat) (c3 : Nat) (x4 : Int) (x5 : Int) (x6 : Int) (x7 : Int) (x8 : Int) (A9 : Option Addr) (n10 : Nat) (c11 : Nat) (x12 : Int) (x13 : Int) (x14 : Int) (x15 : Int) (x16 : Int) (A17 : Option Addr) (n18 : Nat) (c19 : Nat) (x20 : Int) (x21 : Int) (A22 : Option Addr) (n23 : Nat) (c24 : Nat) (x25 : Int) (x26 : Int) (A27 : Option Addr) (n28 : Nat) (c29 : Nat) (b30 : Bool) (x31 : Int) (b32 : Bool) (b33 : Bool) (x34 : Int) (x35 : Int) (x36 : Int) (x37 : Int) (x38 : Int) (x39 : Int) (x40 : Int) (x41 : Int) (x42 : Int) (x43 : Int) (x44 : Int) (x45 : Int) (x46 : Int) (b47 : Bool) (x48 : Int) (x49 : Int) (x50 : Int) (x51 : Int) (x52 : Int) (b53 : Bool) (x54 : Int) (x55 : Int) (A56 : Option Addr) (n57 : Nat) (c58 : Nat) (b59 : Bool) (b60 : Bool) (b61 : Bool) (x62 : Int) (x63 : Int) (A64 : Option Addr) (n65 : Nat) (c66 : Nat) (x67 : Int) (x68 : Int) (A69 : Option Addr) (n70 : Nat) (c71 : Nat) (x72 : Int) (x73 : Int) (A74 : Option Addr) (n75 : Nat) (c76 : Nat) (cs77 : List Value) (x78 : Int) (x79 : Int) (x80 : Int) (x81 : Int) (M : Mem) : piece P T k lo F.cdef_Frame 33371132 [.v (.slice A1 n2 c3), .l 4 0, .l 7 0, .l 8 0, .l 10 0, .v (.int .i64 x4), .v (.int .i64 x5), .v (.int .i64 x6), .l 17 0, .v (.int .i64 x7), .v (.int .i64 x8), .v (.slice A9 n10 c11), .v (.int .i64 x12), .v (.int .i64 x13), .v (.int .i64 x14)] [[.int .i64 x15, .int .i64 x16, .slice A17 n18 c19, .int .i64 x20, .int .i64 x21, .slice A22 n23 c24, .int .i64 x25, .int .i64 x26, .slice A27 n28 c29], [.bool b30, .int .i64 x31, .bool b32, .bool b33, .int .i64 x34, .int .i64 x35, .int .i64 x36, .int .i64 x37, .int .i64 x38, .int .i64 x39, .int .i64 x40, .int .i64 x41, .int .i64 x42, .int .i64 x43, .int .i64 x44, .int .i64 x45, .int .i64 x46, .bool b47, .int .i64 x48, .int .i64 x49, .int .i64 x50, .int .i64 x51, .int .i64 x52, .bool b53, .int .i64 x54, .int .i64 x55, .slice A56 n57 c58, .bool b59, .bool b60, .bool b61], [.int .i64 x62, .int .i64 x63, .slice A64 n65 c66, .int .i64 x67, .int .i64 x68, .slice A69 n70 c71, .int .i64 x72, .int .i64 x73, .slice A74 n75 c76], cs77, [.int .i64 x78, .int .i64 x79, .int .i64 x80, .int .i64 x81]] M =
 bb (decide (x14 < 3))
 (ob (acall P T k M.length F.cdef_primary [.int .i64 x78, .int .i64 x8] M) fun r110 =>
 ob ((some r110.1).bind (Value.int? .i64)) fun x111 =>
 bb (decide (x14 > 0))
 (some (cdef_Frame.c4271504999 A1 n2 c3 x4 x5 x6 x7 x8 x14 x80 x80 x81 (IntKind.i64.wrap (x54 - 1)) A9 n10 c11 x12 x13 x14 x15 x16 A17 n18 c19 x20 x21 A22 n23 c24 x25 x26 A27 n28 c29 b30 x31 b32 b33 x34 x35 x36 x37 x38 x39 x40 x41 x42 x43 x44 x45 x46 b47 x48 x49 x50 x51 x52 b53 x54 x55 A56 n57 c58 b59 b60 b61 x62 x63 A64 n65 c66 x67 x68 A69 n70 c71 x72 x73 A74 n75 c76 cs77 x78 x79 x80 x81 (IntKind.i64.wrap (Int.tdiv x5 2)) (IntKind.i64.wrap (Int.tdiv x6 2)) 4 4 r110.2))
 (some (cdef_Frame.c4271504999 A1 n2 c3 x4 x5 x6 x7 x8 x14 x111 x78 x79 x54 A9 n10 c11 x12 x13 x14 x15 x16 A17 n18 c19 x20 x21 A22 n23 c24 x25 x26 A27 n28 c29 b30 x31 b32 b33 x34 x35 x36 x37 x38 x39 x40 x41 x42 x43 x44 x45 x46 b47 x48 x49 x50 x51 x52 b53 x54 x55 A56 n57 c58 b59 b60 b61 x62 x63 A64 n65 c66 x67 x68 A69 n70 c71 x72 x73 A74 n75 c76 cs77 x78 x79 x80 x81 x5 x6 8 8 r110.2)))
 (some (cdef_Frame.c16295 A1 n2 c3 x4 A9 n10 c11 x12 x13 x15 x16 A17 n18 c19 x20 x21 A22 n23 c24 x25 x26 A27 n28 c29 b30 x31 b32 b33 x34 x35 x36 x37 x38 x39 x40 x41 x42 x43 x44 x45 x46 b47 x48 x49 x50 x51 x52 b53 x54 x55 A56 n57 c58 b59 b60 b61 x62 x63 A64 n65 c66 x67 x68 A69 n70 c71 x72 x73 A74 n75 c76 cs77 M)) := by kernel_rfl
theorem cdef_Frame.p4271504999 (k lo : Nat) (A1 : Option Addr) (n2 : Nat) (c3 : Nat) (x4 : Int) (x5 : Int) (x6 : Int) (x7 : Int) (x8 : Int) (x9 : Int) (x10 : Int) (x11 : Int) (x12 : Int) (x13 : Int) (A14 : Option Addr) (n15 : Nat) (c16 : Nat) (x17 : Int) (x18 : Int) (x19 : Int) (x20 : Int) (x21 : Int) (A22 : Option Addr) (n23 : Nat) (c24 : Nat) (x25 : Int) (x26 : Int) (A27 : Option Addr) (n28 : Nat) (c29 : Nat) (x30 : Int) (x31 : Int) (A32 : Option Addr) (n33 : Nat) (c34 : Nat) (b35 : Bool) (x36 : Int) (b37 : Bool) (b38 : Bool) (x39 : Int) (x40 : Int) (x41 : Int) (x42 : Int) (x43 : Int) (x44 : Int) (x45 : Int) (x46 : Int) (x47 : Int) (x48 : Int) (x49 : Int) (x50 : Int) (x51 : Int) (b52 : Bool) (x53 : Int) (x54 : Int) (x55 : Int) (x56 : Int) (x57 : Int) (b58 : Bool) (x59 : Int) (x60 : Int) (A61 : Option Addr) (n62 : Nat) (c63 : Nat) (b64 : Bool) (b65 : Bool) (b66 : Bool) (x67 : Int) (x68 : Int) (A69 : Option Addr) (n70 : Nat) (c71 : Nat) (x72 : Int) (x73 : Int) (A74 : Option Addr) (n75 : Nat) (c76 : Nat) (x77 : Int) (x78 : Int) (A79 : Option Addr) (n80 : Nat) (c81 : Nat) (cs82 : List Value) (x83 : Int) (x84 : Int) (x85 : Int) (x86 : Int) (x87 : Int) (x88 : Int) (x89 : Int) (x90 : Int) (M : Mem) : piece P T k lo F.cdef_Frame 4271504999 [.v (.slice A1 n2 c3), .l 4 0, .l 7 0, .l 8 0, .l 10 0, .v (.int .i64 x4), .v (.int .i64 x5), .v (.int .i64 x6), .l 17 0, .v (.int .i64 x7), .v (.int .i64 x8), .v (.int .i64 x9), .l 24 0, .v (.int .i64 x10), .v (.int .i64 x11), .v (.int .i64 x12), .v (.int .i64 x13), .v (.slice A14 n15 c16), .v (.int .i64 x17), .v (.int .i64 x18), .v (.int .i64 x19)] [[.int .i64 x20, .int .i64 x21, .slice A22 n23 c24, .int .i64 x25, .int .i64 x26, .slice A27 n28 c29, .int .i64 x30, .int .i64 x31, .slice A32 n33 c34], [.bool b35, .int .i64 x36, .bool b37, .bool b38, .int .i64 x39, .int .i64 x40, .int .i64 x41, .int .i64 x42, .int .i64 x43, .int .i64 x44, .int .i64 x45, .int .i64 x46, .int .i64 x47, .int .i64 x48, .int .i64 x49, .int .i64 x50, .int .i64 x51, .bool b52, .int .i64 x53, .int .i64 x54, .int .i64 x55, .int .i64 x56, .int .i64 x57, .bool b58, .int .i64 x59, .int .i64 x60, .slice A61 n62 c63, .bool b64, .bool b65, .bool b66], [.int .i64 x67, .int .i64 x68, .slice A69 n70 c71, .int .i64 x72, .int .i64 x73, .slice A74 n75 c76, .int .i64 x77, .int .i64 x78, .slice A79 n80 c81], cs82, [.int .i64 x83, .int .i64 x84, .int .i64 x85, .int .i64 x86], [.int .i64 x87, .int .i64 x88, .int .i64 x89, .int .i64 x90]] M =
 bb (x11 == 0)
 (some (cdef_Frame.c17086019999 A1 n2 c3 x4 x5 x6 x7 x8 x9 x10 x12 x13 0 A14 n15 c16 x17 x18 x19 x20 x21 A22 n23 c24 x25 x26 A27 n28 c29 x30 x31 A32 n33 c34 b35 x36 b37 b38 x39 x40 x41 x42 x43 x44 x45 x46 x47 x48 x49 x50 x51 b52 x53 x54 x55 x56 x57 b58 x59 x60 A61 n62 c63 b64 b65 b66 x67 x68 A69 n70 c71 x72 x73 A74 n75 c76 x77 x78 A79 n80 c81 cs82 x83 x84 x85 x86 x87 x88 x89 x90 M))
 (some (cdef_Frame.c17086019999 A1 n2 c3 x4 x5 x6 x7 x8 x9 x10 x12 x13 x7 A14 n15 c16 x17 x18 x19 x20 x21 A22 n23 c24 x25 x26 A27 n28 c29 x30 x31 A32 n33 c34 b35 x36 b37 b38 x39 x40 x41 x42 x43 x44 x45 x46 x47 x48 x49 x50 x51 b52 x53 x54 x55 x56 x57 b58 x59 x60 A61 n62 c63 b64 b65 b66 x67 x68 A69 n70 c71 x72 x73 A74 n75 c76 x77 x78 A79 n80 c81 cs82 x83 x84 x85 x86 x87 x88 x89 x90 M)) := by kernel_rfl
theorem cdef_Frame.p17086019999 (k lo : Nat) (A1 : Option Addr) (n2 : Nat) (c3 : Nat) (x4 : Int) (x5 : Int) (x6 : Int) (x7 : Int) (x8 : Int) (x9 : Int) (x10 : Int) (x11 : Int) (x12 : Int) (x13 : Int) (A14 : Option Addr) (n15 : Nat) (c16 : Nat) (x17 : Int) (x18 : Int) (x19 : Int) (x20 : Int) (x21 : Int) (A22 : Option Addr) (n23 : Nat) (c24 : Nat) (x25 : Int) (x26 : Int) (A27 : Option Addr) (n28 : Nat) (c29 : Nat) (x30 : Int) (x31 : Int) (A32 : Option Addr) (n33 : Nat) (c34 : Nat) (b35 : Bool) (x36 : Int) (b37 : Bool) (b38 : Bool) (x39 : Int) (x40 : Int) (x41 : Int) (x42 : Int) (x43 : Int) (x44 : Int) (x45 : Int) (x46 : Int) (x47 : Int) (x48 : Int) (x49 : Int) (x50 : Int) (x51 : Int) (b52 : Bool) (x53 : Int) (x54 : Int) (x55 : Int) (x56 : Int) (x57 : Int) (b58 : Bool) (x59 : Int) (x60 : Int) (A61 : Option Addr) (n62 : Nat) (c63 : Nat) (b64 : Bool) (b65 : Bool) (b66 : Bool) (x67 : Int) (x68 : Int) (A69 : Option Addr) (n70 : Nat) (c71 : Nat) (x72 : Int) (x73 : Int) (A74 : Option Addr) (n75 : Nat) (c76 : Nat) (x77 : Int) (x78 : Int) (A79 : Option Addr) (n80 : Nat) (c81 : Nat) (cs82 : List Value) (x83 : Int) (x84 : Int) (x85 : Int) (x86 : Int) (x87 : Int) (x88 : Int) (x89 : Int) (x90 : Int) (M : Mem) : piece P T k lo F.cdef_Frame 17086019999 [.v (.slice A1 n2 c3), .l 4 0, .l 7 0, .l 8 0, .l 10 0, .v (.int .i64 x4), .v (.int .i64 x5), .v (.int .i64 x6), .l 17 0, .v (.int .i64 x7), .v (.int .i64 x8), .v (.int .i64 x9), .l 24 0, .v (.int .i64 x10), .v (.int .i64 x11), .v (.int .i64 x12), .v (.int .i64 x13), .v (.slice A14 n15 c16), .v (.int .i64 x17), .v (.int .i64 x18), .v (.int .i64 x19)] [[.int .i64 x20, .int .i64 x21, .slice A22 n23 c24, .int .i64 x25, .int .i64 x26, .slice A27 n28 c29, .int .i64 x30, .int .i64 x31, .slice A32 n33 c34], [.bool b35, .int .i64 x36, .bool b37, .bool b38, .int .i64 x39, .int .i64 x40, .int .i64 x41, .int .i64 x42, .int .i64 x43, .int .i64 x44, .int .i64 x45, .int .i64 x46, .int .i64 x47, .int .i64 x48, .int .i64 x49, .int .i64 x50, .int .i64 x51, .bool b52, .int .i64 x53, .int .i64 x54, .int .i64 x55, .int .i64 x56, .int .i64 x57, .bool b58, .int .i64 x59, .int .i64 x60, .slice A61 n62 c63, .bool b64, .bool b65, .bool b66], [.int .i64 x67, .int .i64 x68, .slice A69 n70 c71, .int .i64 x72, .int .i64 x73, .slice A74 n75 c76, .int .i64 x77, .int .i64 x78, .slice A79 n80 c81], cs82, [.int .i64 x83, .int .i64 x84, .int .i64 x85, .int .i64 x86], [.int .i64 x87, .int .i64 x88, .int .i64 x89, .int .i64 x90]] M =
 pb (0 ≤ x9 ∧ x9 < (3 : Int))
 (ob ((([.int .i64 x20, .int .i64 x21, .slice A22 n23 c24, .int .i64 x25, .int .i64 x26, .slice A27 n28 c29, .int .i64 x30, .int .i64 x31, .slice A32 n33 c34] : List Value)[0 + (x9.toNat * 3) + 0]?).bind (Value.int? .i64)) fun x112 =>
 ob ((([.int .i64 x20, .int .i64 x21, .slice A22 n23 c24, .int .i64 x25, .int .i64 x26, .slice A27 n28 c29, .int .i64 x30, .int .i64 x31, .slice A32 n33 c34] : List Value)[0 + (x9.toNat * 3) + 1]?).bind (Value.int? .i64)) fun x113 =>
 ob ((([.int .i64 x20, .int .i64 x21, .slice A22 n23 c24, .int .i64 x25, .int .i64 x26, .slice A27 n28 c29, .int .i64 x30, .int .i64 x31, .slice A32 n33 c34] : List Value)[0 + (x9.toNat * 3) + 2]?).bind Value.slc?) fun s114 =>
 ob (acall P T k M.length F.cdef_second [.int .i64 x11] M) fun r115 =>
 ob ((some r115.1).bind (Value.int? .i64)) fun x116 =>
 ob (acall P T k M.length F.cdef_Block [.agg ⟨[.int .i64 x112, .int .i64 x113, .slice s114.a s114.n s114.c]⟩, .agg ⟨[.int .i64 x87, .int .i64 x88, .int .i64 x89, .int .i64 x90]⟩, .int .i64 x13, .int .i64 x10, .int .i64 x116, .int .i64 x12] r115.2) fun r117 =>
 ob (r117.1.tup? 2) fun l118 =>
 ob ((l118[0]?).bind Value.slc?) fun s119 =>
 ob ((l118[1]?).bind (Value.int? .i64)) fun x120 =>
 bb (x120 != 0)
 (some (.ret (.tuple ⟨[.agg ⟨[.int .i64 0, .int .i64 0, .slice none 0 0, .int .i64 0, .int .i64 0, .slice none 0 0, .int .i64 0, .int .i64 0, .slice none 0 0]⟩, .int .i64 x120]⟩) r117.2))
 (some (cdef_Frame.c546752639996 A1 n2 c3 x4 x5 x6 x7 x8 x9 s119.a s119.n s119.c A14 n15 c16 x17 x18 x19 x90 0 x20 x21 A22 n23 c24 x25 x26 A27 n28 c29 x30 x31 A32 n33 c34 b35 x36 b37 b38 x39 x40 x41 x42 x43 x44 x45 x46 x47 x48 x49 x50 x51 b52 x53 x54 x55 x56 x57 b58 x59 x60 A61 n62 c63 b64 b65 b66 x67 x68 A69 n70 c71 x72 x73 A74 n75 c76 x77 x78 A79 n80 c81 cs82 x83 x84 x85 x86 x87 x88 x89 x90 r117.2))) none := by kernel_rfl
theorem cdef_Frame.p546752639996 (k lo : Nat) (A1 : Option Addr) (n2 : Nat) (c3 : Nat) (x4 : Int) (x5 : Int) (x6 : Int) (x7 : Int) (x8 : Int) (x9 : Int) (A10 : Option Addr) (n11 : Nat) (c12 : Nat) (A13 : Option Addr) (n14 : Nat) (c15 : Nat) (x16 : Int) (x17 : Int) (x18 : Int) (x19 : Int) (x20 : Int) (x21 : Int) (x22 : Int) (A23 : Option Addr) (n24 : Nat) (c25 : Nat) (x26 : Int) (x27 : Int) (A28 : Option Addr) (n29 : Nat) (c30 : Nat) (x31 : Int) (x32 : Int) (A33 : Option Addr) (n34 : Nat) (c35 : Nat) (b36 : Bool) (x37 : Int) (b38 : Bool) (b39 : Bool) (x40 : Int) (x41 : Int) (x42 : Int) (x43 : Int) (x44 : Int) (x45 : Int) (x46 : Int) (x47 : Int) (x48 : Int) (x49 : Int) (x50 : Int) (x51 : Int) (x52 : Int) (b53 : Bool) (x54 : Int) (x55 : Int) (x56 : Int) (x57 : Int) (x58 : Int) (b59 : Bool) (x60 : Int) (x61 : Int) (A62 : Option Addr) (n63 : Nat) (c64 : Nat) (b65 : Bool) (b66 : Bool) (b67 : Bool) (x68 : Int) (x69 : Int) (A70 : Option Addr) (n71 : Nat) (c72 : Nat) (x73 : Int) (x74 : Int) (A75 : Option Addr) (n76 : Nat) (c77 : Nat) (x78 : Int) (x79 : Int) (A80 : Option Addr) (n81 : Nat) (c82 : Nat) (cs83 : List Value) (x84 : Int) (x85 : Int) (x86 : Int) (x87 : Int) (x88 : Int) (x89 : Int) (x90 : Int) (x91 : Int) (M : Mem) : piece P T k lo F.cdef_Frame 546752639996 [.v (.slice A1 n2 c3), .l 4 0, .l 7 0, .l 8 0, .l 10 0, .v (.int .i64 x4), .v (.int .i64 x5), .v (.int .i64 x6), .l 17 0, .v (.int .i64 x7), .v (.int .i64 x8), .v (.int .i64 x9), .l 24 0, .v (.slice A10 n11 c12), .v (.slice A13 n14 c15), .v (.int .i64 x16), .v (.int .i64 x17), .v (.int .i64 x18), .v (.int .i64 x19), .v (.int .i64 x20)] [[.int .i64 x21, .int .i64 x22, .slice A23 n24 c25, .int .i64 x26, .int .i64 x27, .slice A28 n29 c30, .int .i64 x31, .int .i64 x32, .slice A33 n34 c35], [.bool b36, .int .i64 x37, .bool b38, .bool b39, .int .i64 x40, .int .i64 x41, .int .i64 x42, .int .i64 x43, .int .i64 x44, .int .i64 x45, .int .i64 x46, .int .i64 x47, .int .i64 x48, .int .i64 x49, .int .i64 x50, .int .i64 x51, .int .i64 x52, .bool b53, .int .i64 x54, .int .i64 x55, .int .i64 x56, .int .i64 x57, .int .i64 x58, .bool b59, .int .i64 x60, .int .i64 x61, .slice A62 n63 c64, .bool b65, .bool b66, .bool b67], [.int .i64 x68, .int .i64 x69, .slice A70 n71 c72, .int .i64 x73, .int .i64 x74, .slice A75 n76 c77, .int .i64 x78, .int .i64 x79, .slice A80 n81 c82], cs83, [.int .i64 x84, .int .i64 x85, .int .i64 x86, .int .i64 x87], [.int .i64 x88, .int .i64 x89, .int .i64 x90, .int .i64 x91]] M =
 bb (decide (x20 < x19))
 (pb (0 ≤ x9 ∧ x9 < (3 : Int))
 (ob ((cs83[0 + (x9.toNat * 3) + 2 + 0]?).bind Value.slc?) fun s121 =>
 pb (0 ≤ x9 ∧ x9 < (3 : Int))
 (ob ((cs83[0 + (x9.toNat * 3) + 0 + 0]?).bind (Value.int? .i64)) fun x122 =>
 pb (0 ≤ IntKind.i64.wrap ((IntKind.i64.wrap ((IntKind.i64.wrap (x89 + x20)) * x122)) + x88) ∧ IntKind.i64.wrap ((IntKind.i64.wrap ((IntKind.i64.wrap (x89 + x20)) * x122)) + x88) ≤ (s121.n : Int))
 (pb (0 ≤ IntKind.i64.wrap (x20 * x90) ∧ IntKind.i64.wrap (x20 * x90) ≤ IntKind.i64.wrap ((IntKind.i64.wrap (x20 + 1)) * x90) ∧ IntKind.i64.wrap ((IntKind.i64.wrap (x20 + 1)) * x90) ≤ (c12 : Int))
 (ob (Mem.src M (slAddr 1 A10 ((IntKind.i64.wrap (x20 * x90)).toNat) c12) (Nat.min (((IntKind.i64.wrap ((IntKind.i64.wrap (x20 + 1)) * x90)).toNat) - ((IntKind.i64.wrap (x20 * x90)).toNat)) (s121.n - ((IntKind.i64.wrap ((IntKind.i64.wrap ((IntKind.i64.wrap (x89 + x20)) * x122)) + x88)).toNat))) (Nat.min (((IntKind.i64.wrap ((IntKind.i64.wrap (x20 + 1)) * x90)).toNat) - ((IntKind.i64.wrap (x20 * x90)).toNat)) (s121.n - ((IntKind.i64.wrap ((IntKind.i64.wrap ((IntKind.i64.wrap (x89 + x20)) * x122)) + x88)).toNat)))) fun l123 =>
 pb (Nat.min (((IntKind.i64.wrap ((IntKind.i64.wrap (x20 + 1)) * x90)).toNat) - ((IntKind.i64.wrap (x20 * x90)).toNat)) (s121.n - ((IntKind.i64.wrap ((IntKind.i64.wrap ((IntKind.i64.wrap (x89 + x20)) * x122)) + x88)).toNat)) = 0) (some (cdef_Frame.c546752639996 A1 n2 c3 x4 x5 x6 x7 x8 x9 A10 n11 c12 A13 n14 c15 x16 x17 x18 x19 (IntKind.i64.wrap (x20 + 1)) x21 x22 A23 n24 c25 x26 x27 A28 n29 c30 x31 x32 A33 n34 c35 b36 x37 b38 b39 x40 x41 x42 x43 x44 x45 x46 x47 x48 x49 x50 x51 x52 b53 x54 x55 x56 x57 x58 b59 x60 x61 A62 n63 c64 b65 b66 b67 x68 x69 A70 n71 c72 x73 x74 A75 n76 c77 x78 x79 A80 n81 c82 cs83 x84 x85 x86 x87 x88 x89 x90 x91 M))
 (ob (slAddr 1 s121.a ((IntKind.i64.wrap ((IntKind.i64.wrap ((IntKind.i64.wrap (x89 + x20)) * x122)) + x88)).toNat) s121.c) fun a125 =>
 ob (M.st lo a125 l123) fun M124 =>
 some (cdef_Frame.c546752639996 A1 n2 c3 x4 x5 x6 x7 x8 x9 A10 n11 c12 A13 n14 c15 x16 x17 x18 x19 (IntKind.i64.wrap (x20 + 1)) x21 x22 A23 n24 c25 x26 x27 A28 n29 c30 x31 x32 A33 n34 c35 b36 x37 b38 b39 x40 x41 x42 x43 x44 x45 x46 x47 x48 x49 x50 x51 x52 b53 x54 x55 x56 x57 x58 b59 x60 x61 A62 n63 c64 b65 b66 b67 x68 x69 A70 n71 c72 x73 x74 A75 n76 c77 x78 x79 A80 n81 c82 cs83 x84 x85 x86 x87 x88 x89 x90 x91 M124))) none) none) none) none)
 (some (cdef_Frame.c33371132 A1 n2 c3 x4 x5 x6 x7 x8 A13 n14 c15 x16 x17 (IntKind.i64.wrap (x18 + 1)) x21 x22 A23 n24 c25 x26 x27 A28 n29 c30 x31 x32 A33 n34 c35 b36 x37 b38 b39 x40 x41 x42 x43 x44 x45 x46 x47 x48 x49 x50 x51 x52 b53 x54 x55 x56 x57 x58 b59 x60 x61 A62 n63 c64 b65 b66 b67 x68 x69 A70 n71 c72 x73 x74 A75 n76 c77 x78 x79 A80 n81 c82 cs83 x84 x85 x86 x87 M)) := by kernel_rfl
theorem zoetroperef00_CopyInts.entry (k lo : Nat) (A1 : Option Addr) (n2 : Nat) (c3 : Nat) (M : Mem) : entry P T k lo F.zoetroperef00_CopyInts [.slice A1 n2 c3] M =
 ob (Mem.src M A1 n2 n2) fun l9 =>
 ob (M.app lo 1 8 ⟨none, 0, 0⟩ l9 n2) fun r10 =>
 some (.ret (.slice r10.1.a r10.1.n r10.1.c) r10.2) := by kernel_rfl
theorem zoetroperef23_Frame.entry (k lo : Nat) (x1 : Int) (x2 : Int) (A3 : Option Addr) (n4 : Nat) (c5 : Nat) (x6 : Int) (x7 : Int) (A8 : Option Addr) (n9 : Nat) (c10 : Nat) (x11 : Int) (x12 : Int) (A13 : Option Addr) (n14 : Nat) (c15 : Nat) (A16 : Option Addr) (n17 : Nat) (c18 : Nat) (A19 : Option Addr) (n20 : Nat) (c21 : Nat) (b22 : Bool) (x23 : Int) (b24 : Bool) (b25 : Bool) (x26 : Int) (x27 : Int) (x28 : Int) (x29 : Int) (x30 : Int) (x31 : Int) (x32 : Int) (x33 : Int) (x34 : Int) (x35 : Int) (x36 : Int) (x37 : Int) (x38 : Int) (b39 : Bool) (x40 : Int) (x41 : Int) (x42 : Int) (x43 : Int) (x44 : Int) (b45 : Bool) (x46 : Int) (x47 : Int) (A48 : Option Addr) (n49 : Nat) (c50 : Nat) (b51 : Bool) (b52 : Bool) (b53 : Bool) (M : Mem) : entry P T k lo F.zoetroperef23_Frame [.agg ⟨[.int .i64 x1, .int .i64 x2, .slice A3 n4 c5, .int .i64 x6, .int .i64 x7, .slice A8 n9 c10, .int .i64 x11, .int .i64 x12, .slice A13 n14 c15]⟩, .slice A16 n17 c18, .slice A19 n20 c21, .agg ⟨[.bool b22, .int .i64 x23, .bool b24, .bool b25, .int .i64 x26, .int .i64 x27, .int .i64 x28, .int .i64 x29, .int .i64 x30, .int .i64 x31, .int .i64 x32, .int .i64 x33, .int .i64 x34, .int .i64 x35, .int .i64 x36, .int .i64 x37, .int .i64 x38, .bool b39, .int .i64 x40, .int .i64 x41, .int .i64 x42, .int .i64 x43, .int .i64 x44, .bool b45, .int .i64 x46, .int .i64 x47, .slice A48 n49 c50, .bool b51, .bool b52, .bool b53]⟩] M =
 ob (acall P T k lo F.zoetroperef23_may [.agg ⟨[.int .i64 x1, .int .i64 x2, .slice A3 n4 c5, .int .i64 x6, .int .i64 x7, .slice A8 n9 c10, .int .i64 x11, .int .i64 x12, .slice A13 n14 c15]⟩, .slice A16 n17 c18, .slice A19 n20 c21, .agg ⟨[.bool b22, .int .i64 x23, .bool b24, .bool b25, .int .i64 x26, .int .i64 x27, .int .i64 x28, .int .i64 x29, .int .i64 x30, .int .i64 x31, .int .i64 x32, .int .i64 x33, .int .i64 x34, .int .i64 x35, .int .i64 x36, .int .i64 x37, .int .i64 x38, .bool b39, .int .i64 x40, .int .i64 x41, .int .i64 x42, .int .i64 x43, .int .i64 x44, .bool b45, .int .i64 x46, .int .i64 x47, .slice A48 n49 c50, .bool b51, .bool b52, .bool b53]⟩] M) fun r59 =>
 ob ((some r59.1).bind Value.bool?) fun b60 =>
 bb (!b60)
 (some (.ret (.tuple ⟨[.agg ⟨[.int .i64 0, .int .i64 0, .slice none 0 0, .int .i64 0, .int .i64 0, .slice none 0 0, .int .i64 0, .int .i64 0, .slice none 0 0]⟩, .int .i64 2]⟩) r59.2))
 (ob (acall P T k lo F.zoetroperef05_CopyFrame [.agg ⟨[.int .i64 x1, .int .i64 x2, .slice A3 n4 c5, .int .i64 x6, .int .i64 x7, .slice A8 n9 c10, .int .i64 x11, .int .i64 x12, .slice A13 n14 c15]⟩] r59.2) fun r61 =>
 ob ((some r61.1).bind (Value.agg? 9)) fun l62 =>
 ob ((l62[0]?).bind (Value.int? .i64)) fun x63 =>
 ob ((l62[1]?).bind (Value.int? .i64)) fun x64 =>
 ob ((l62[2]?).bind Value.slc?) fun s65 =>
 ob ((l62[3]?).bind (Value.int? .i64)) fun x66 =>
 ob ((l62[4]?).bind (Value.int? .i64)) fun x67 =>
 ob ((l62[5]?).bind Value.slc?) fun s68 =>
 ob ((l62[6]?).bind (Value.int? .i64)) fun x69 =>
 ob ((l62[7]?).bind (Value.int? .i64)) fun x70 =>
 ob ((l62[8]?).bind Value.slc?) fun s71 =>
 bb (!b45)
 (some (.ret (.tuple ⟨[.agg ⟨[.int .i64 x63, .int .i64 x64, .slice s65.a s65.n s65.c, .int .i64 x66, .int .i64 x67, .slice s68.a s68.n s68.c, .int .i64 x69, .int .i64 x70, .slice s71.a s71.n s71.c]⟩, .int .i64 0]⟩) r61.2))
 (some (zoetroperef23_Frame.c1012 A16 n17 c18 A19 n20 c21 x1 x2 0 x1 x2 A3 n4 c5 x6 x7 A8 n9 c10 x11 x12 A13 n14 c15 b22 x23 b24 b25 x26 x27 x28 x29 x30 x31 x32 x33 x34 x35 x36 x37 x38 b39 x40 x41 x42 x43 x44 b45 x46 x47 A48 n49 c50 b51 b52 b53 0 0 none 0 0 0 0 none 0 0 0 0 none 0 0 x63 x64 s65.a s65.n s65.c x66 x67 s68.a s68.n s68.c x69 x70 s71.a s71.n s71.c r61.2))) := by kernel_rfl
theorem zoetroperef23_Frame.p1012 (k lo : Nat) (A1 : Option Addr) (n2 : Nat) (c3 : Nat) (A4 : Option Addr) (n5 : Nat) (c6 : Nat) (x7 : Int) (x8 : Int) (x9 : Int) (x10 : Int) (x11 : Int) (A12 : Option Addr) (n13 : Nat) (c14 : Nat) (x15 : Int) (x16 : Int) (A17 : Option Addr) (n18 : Nat) (c19 : Nat) (x20 : Int) (x21 : Int) (A22 : Option Addr) (n23 : Nat) (c24 : Nat) (b25 : Bool) (x26 : Int) (b27 : Bool) (b28 : Bool) (x29 : Int) (x30 : Int) (x31 : Int) (x32 : Int) (x33 : Int) (x34 : Int) (x35 : Int) (x36 : Int) (x37 : Int) (x38 : Int) (x39 : Int) (x40 : Int) (x41 : Int) (b42 : Bool) (x43 : Int) (x44 : Int) (x45 : Int) (x46 : Int) (x47 : Int) (b48 : Bool) (x49 : Int) (x50 : Int) (A51 : Option Addr) (n52 : Nat) (c53 : Nat) (b54 : Bool) (b55 : Bool) (b56 : Bool) (x57 : Int) (x58 : Int) (A59 : Option Addr) (n60 : Nat) (c61 : Nat) (x62 : Int) (x63 : Int) (A64 : Option Addr) (n65 : Nat) (c66 : Nat) (x67 : Int) (x68 : Int) (A69 : Option Addr) (n70 : Nat) (c71 : Nat) (x72 : Int) (x73 : Int) (A74 : Option Addr) (n75 : Nat) (c76 : Nat) (x77 : Int) (x78 : Int) (A79 : Option Addr) (n80 : Nat) (c81 : Nat) (x82 : Int) (x83 : Int) (A84 : Option Addr) (n85 : Nat) (c86 : Nat) (M : Mem) : piece P T k lo F.zoetroperef23_Frame 1012 [.v (.slice A1 n2 c3), .v (.slice A4 n5 c6), .l 4 0, .l 7 0, .l 8 0, .l 10 0, .v (.int .i64 x7), .v (.int .i64 x8), .v (.int .i64 x9)] [[.int .i64 x10, .int .i64 x11, .slice A12 n13 c14, .int .i64 x15, .int .i64 x16, .slice A17 n18 c19, .int .i64 x20, .int .i64 x21, .slice A22 n23 c24], [.bool b25, .int .i64 x26, .bool b27, .bool b28, .int .i64 x29, .int .i64 x30, .int .i64 x31, .int .i64 x32, .int .i64 x33, .int .i64 x34, .int .i64 x35, .int .i64 x36, .int .i64 x37, .int .i64 x38, .int .i64 x39, .int .i64 x40, .int .i64 x41, .bool b42, .int .i64 x43, .int .i64 x44, .int .i64 x45, .int .i64 x46, .int .i64 x47, .bool b48, .int .i64 x49, .int .i64 x50, .slice A51 n52 c53, .bool b54, .bool b55, .bool b56], [.int .i64 x57, .int .i64 x58, .slice A59 n60 c61, .int .i64 x62, .int .i64 x63, .slice A64 n65 c66, .int .i64 x67, .int .i64 x68, .slice A69 n70 c71], [.int .i64 x72, .int .i64 x73, .slice A74 n75 c76, .int .i64 x77, .int .i64 x78, .slice A79 n80 c81, .int .i64 x82, .int .i64 x83, .slice A84 n85 c86]] M =
 bb (decide (x9 < x8))
 (some (zoetroperef23_Frame.c64804 A1 n2 c3 A4 n5 c6 x7 x8 x9 0 x10 x11 A12 n13 c14 x15 x16 A17 n18 c19 x20 x21 A22 n23 c24 b25 x26 b27 b28 x29 x30 x31 x32 x33 x34 x35 x36 x37 x38 x39 x40 x41 b42 x43 x44 x45 x46 x47 b48 x49 x50 A51 n52 c53 b54 b55 b56 x57 x58 A59 n60 c61 x62 x63 A64 n65 c66 x67 x68 A69 n70 c71 x72 x73 A74 n75 c76 x77 x78 A79 n80 c81 x82 x83 A84 n85 c86 M))
 (some (.ret (.tuple ⟨[.agg ⟨[.int .i64 x72, .int .i64 x73, .slice A74 n75 c76, .int .i64 x77, .int .i64 x78, .slice A79 n80 c81, .int .i64 x82, .int .i64 x83, .slice A84 n85 c86]⟩, .int .i64 0]⟩) M)) := by kernel_rfl
theorem zoetroperef23_Frame.p64804 (k lo : Nat) (A1 : Option Addr) (n2 : Nat) (c3 : Nat) (A4 : Option Addr) (n5 : Nat) (c6 : Nat) (x7 : Int) (x8 : Int) (x9 : Int) (x10 : Int) (x11 : Int) (x12 : Int) (A13 : Option Addr) (n14 : Nat) (c15 : Nat) (x16 : Int) (x17 : Int) (A18 : Option Addr) (n19 : Nat) (c20 : Nat) (x21 : Int) (x22 : Int) (A23 : Option Addr) (n24 : Nat) (c25 : Nat) (b26 : Bool) (x27 : Int) (b28 : Bool) (b29 : Bool) (x30 : Int) (x31 : Int) (x32 : Int) (x33 : Int) (x34 : Int) (x35 : Int) (x36 : Int) (x37 : Int) (x38 : Int) (x39 : Int) (x40 : Int) (x41 : Int) (x42 : Int) (b43 : Bool) (x44 : Int) (x45 : Int) (x46 : Int) (x47 : Int) (x48 : Int) (b49 : Bool) (x50 : Int) (x51 : Int) (A52 : Option Addr) (n53 : Nat) (c54 : Nat) (b55 : Bool) (b56 : Bool) (b57 : Bool) (x58 : Int) (x59 : Int) (A60 : Option Addr) (n61 : Nat) (c62 : Nat) (x63 : Int) (x64 : Int) (A65 : Option Addr) (n66 : Nat) (c67 : Nat) (x68 : Int) (x69 : Int) (A70 : Option Addr) (n71 : Nat) (c72 : Nat) (x73 : Int) (x74 : Int) (A75 : Option Addr) (n76 : Nat) (c77 : Nat) (x78 : Int) (x79 : Int) (A80 : Option Addr) (n81 : Nat) (c82 : Nat) (x83 : Int) (x84 : Int) (A85 : Option Addr) (n86 : Nat) (c87 : Nat) (M : Mem) : piece P T k lo F.zoetroperef23_Frame 64804 [.v (.slice A1 n2 c3), .v (.slice A4 n5 c6), .l 4 0, .l 7 0, .l 8 0, .l 10 0, .v (.int .i64 x7), .v (.int .i64 x8), .v (.int .i64 x9), .v (.int .i64 x10)] [[.int .i64 x11, .int .i64 x12, .slice A13 n14 c15, .int .i64 x16, .int .i64 x17, .slice A18 n19 c20, .int .i64 x21, .int .i64 x22, .slice A23 n24 c25], [.bool b26, .int .i64 x27, .bool b28, .bool b29, .int .i64 x30, .int .i64 x31, .int .i64 x32, .int .i64 x33, .int .i64 x34, .int .i64 x35, .int .i64 x36, .int .i64 x37, .int .i64 x38, .int .i64 x39, .int .i64 x40, .int .i64 x41, .int .i64 x42, .bool b43, .int .i64 x44, .int .i64 x45, .int .i64 x46, .int .i64 x47, .int .i64 x48, .bool b49, .int .i64 x50, .int .i64 x51, .slice A52 n53 c54, .bool b55, .bool b56, .bool b57], [.int .i64 x58, .int .i64 x59, .slice A60 n61 c62, .int .i64 x63, .int .i64 x64, .slice A65 n66 c67, .int .i64 x68, .int .i64 x69, .slice A70 n71 c72], [.int .i64 x73, .int .i64 x74, .slice A75 n76 c77, .int .i64 x78, .int .i64 x79, .slice A80 n81 c82, .int .i64 x83, .int .i64 x84, .slice A85 n86 c87]] M =
 bb (decide (x10 < x7))
 (pb (0 ≤ IntKind.i64.wrap ((IntKind.i64.wrap ((IntKind.i64.wrap (Int.tdiv x9 8)) * (IntKind.i64.wrap (Int.tdiv x7 8)))) + (IntKind.i64.wrap (Int.tdiv x10 8))) ∧ IntKind.i64.wrap ((IntKind.i64.wrap ((IntKind.i64.wrap (Int.tdiv x9 8)) * (IntKind.i64.wrap (Int.tdiv x7 8)))) + (IntKind.i64.wrap (Int.tdiv x10 8))) < (n2 : Int))
 (ob A1 fun a88 =>
 ob ((M.ld (plus a88 ((IntKind.i64.wrap ((IntKind.i64.wrap ((IntKind.i64.wrap (Int.tdiv x9 8)) * (IntKind.i64.wrap (Int.tdiv x7 8)))) + (IntKind.i64.wrap (Int.tdiv x10 8)))).toNat))).bind Value.bool?) fun b89 =>
 bb (!b89)
 (pb (0 ≤ IntKind.i64.wrap ((IntKind.i64.wrap ((IntKind.i64.wrap (Int.tdiv x9 64)) * (IntKind.i64.wrap (Int.tdiv (IntKind.i64.wrap (x7 + 63)) 64)))) + (IntKind.i64.wrap (Int.tdiv x10 64))) ∧ IntKind.i64.wrap ((IntKind.i64.wrap ((IntKind.i64.wrap (Int.tdiv x9 64)) * (IntKind.i64.wrap (Int.tdiv (IntKind.i64.wrap (x7 + 63)) 64)))) + (IntKind.i64.wrap (Int.tdiv x10 64))) < (n5 : Int))
 (ob A4 fun a90 =>
 ob ((M.ld (plus a90 ((IntKind.i64.wrap ((IntKind.i64.wrap ((IntKind.i64.wrap (Int.tdiv x9 64)) * (IntKind.i64.wrap (Int.tdiv (IntKind.i64.wrap (x7 + 63)) 64)))) + (IntKind.i64.wrap (Int.tdiv x10 64)))).toNat))).bind (Value.int? .i64)) fun x91 =>
 pb (0 ≤ x91 ∧ x91 < (n53 : Int))
 (ob A52 fun a92 =>
 ob ((M.ld (plus a92 (x91.toNat * 4))).bind (Value.int? .i64)) fun x93 =>
 ob ((M.ld (plus (plus a92 (x91.toNat * 4)) 1)).bind (Value.int? .i64)) fun x94 =>
 ob ((M.ld (plus (plus a92 (x91.toNat * 4)) 2)).bind (Value.int? .i64)) fun x95 =>
 ob ((M.ld (plus (plus a92 (x91.toNat * 4)) 3)).bind (Value.int? .i64)) fun x96 =>
 ob (acall P T k lo F.zoetroperef23_block [.agg ⟨[.int .i64 x11, .int .i64 x12, .slice A13 n14 c15, .int .i64 x16, .int .i64 x17, .slice A18 n19 c20, .int .i64 x21, .int .i64 x22, .slice A23 n24 c25]⟩, .agg ⟨[.int .i64 x73, .int .i64 x74, .slice A75 n76 c77, .int .i64 x78, .int .i64 x79, .slice A80 n81 c82, .int .i64 x83, .int .i64 x84, .slice A85 n86 c87]⟩, .int .i64 x10, .int .i64 x9, .agg ⟨[.int .i64 x93, .int .i64 x94, .int .i64 x95, .int .i64 x96]⟩, .int .i64 x50] M) fun r97 =>
 ob (r97.1.tup? 0) fun l98 =>
 some (zoetroperef23_Frame.c259219 A1 n2 c3 A4 n5 c6 x7 x8 x9 x10 x11 x12 A13 n14 c15 x16 x17 A18 n19 c20 x21 x22 A23 n24 c25 b26 x27 b28 b29 x30 x31 x32 x33 x34 x35 x36 x37 x38 x39 x40 x41 x42 b43 x44 x45 x46 x47 x48 b49 x50 x51 A52 n53 c54 b55 b56 b57 x58 x59 A60 n61 c62 x63 x64 A65 n66 c67 x68 x69 A70 n71 c72 x73 x74 A75 n76 c77 x78 x79 A80 n81 c82 x83 x84 A85 n86 c87 r97.2)) none) none)
 (some (zoetroperef23_Frame.c259219 A1 n2 c3 A4 n5 c6 x7 x8 x9 x10 x11 x12 A13 n14 c15 x16 x17 A18 n19 c20 x21 x22 A23 n24 c25 b26 x27 b28 b29 x30 x31 x32 x33 x34 x35 x36 x37 x38 x39 x40 x41 x42 b43 x44 x45 x46 x47 x48 b49 x50 x51 A52 n53 c54 b55 b56 b57 x58 x59 A60 n61 c62 x63 x64 A65 n66 c67 x68 x69 A70 n71 c72 x73 x74 A75 n76 c77 x78 x79 A80 n81 c82 x83 x84 A85 n86 c87 M))) none)
 (some (zoetroperef23_Frame.c1012 A1 n2 c3 A4 n5 c6 x7 x8 (IntKind.i64.wrap (x9 + 8)) x11 x12 A13 n14 c15 x16 x17 A18 n19 c20 x21 x22 A23 n24 c25 b26 x27 b28 b29 x30 x31 x32 x33 x34 x35 x36 x37 x38 x39 x40 x41 x42 b43 x44 x45 x46 x47 x48 b49 x50 x51 A52 n53 c54 b55 b56 b57 x58 x59 A60 n61 c62 x63 x64 A65 n66 c67 x68 x69 A70 n71 c72 x73 x74 A75 n76 c77 x78 x79 A80 n81 c82 x83 x84 A85 n86 c87 M)) := by kernel_rfl
theorem zoetroperef23_Frame.p259219 (k lo : Nat) (A1 : Option Addr) (n2 : Nat) (c3 : Nat) (A4 : Option Addr) (n5 : Nat) (c6 : Nat) (x7 : Int) (x8 : Int) (x9 : Int) (x10 : Int) (x11 : Int) (x12 : Int) (A13 : Option Addr) (n14 : Nat) (c15 : Nat) (x16 : Int) (x17 : Int) (A18 : Option Addr) (n19 : Nat) (c20 : Nat) (x21 : Int) (x22 : Int) (A23 : Option Addr) (n24 : Nat) (c25 : Nat) (b26 : Bool) (x27 : Int) (b28 : Bool) (b29 : Bool) (x30 : Int) (x31 : Int) (x32 : Int) (x33 : Int) (x34 : Int) (x35 : Int) (x36 : Int) (x37 : Int) (x38 : Int) (x39 : Int) (x40 : Int) (x41 : Int) (x42 : Int) (b43 : Bool) (x44 : Int) (x45 : Int) (x46 : Int) (x47 : Int) (x48 : Int) (b49 : Bool) (x50 : Int) (x51 : Int) (A52 : Option Addr) (n53 : Nat) (c54 : Nat) (b55 : Bool) (b56 : Bool) (b57 : Bool) (x58 : Int) (x59 : Int) (A60 : Option Addr) (n61 : Nat) (c62 : Nat) (x63 : Int) (x64 : Int) (A65 : Option Addr) (n66 : Nat) (c67 : Nat) (x68 : Int) (x69 : Int) (A70 : Option Addr) (n71 : Nat) (c72 : Nat) (x73 : Int) (x74 : Int) (A75 : Option Addr) (n76 : Nat) (c77 : Nat) (x78 : Int) (x79 : Int) (A80 : Option Addr) (n81 : Nat) (c82 : Nat) (x83 : Int) (x84 : Int) (A85 : Option Addr) (n86 : Nat) (c87 : Nat) (M : Mem) : piece P T k lo F.zoetroperef23_Frame 259219 [.v (.slice A1 n2 c3), .v (.slice A4 n5 c6), .l 4 0, .l 7 0, .l 8 0, .l 10 0, .v (.int .i64 x7), .v (.int .i64 x8), .v (.int .i64 x9), .v (.int .i64 x10)] [[.int .i64 x11, .int .i64 x12, .slice A13 n14 c15, .int .i64 x16, .int .i64 x17, .slice A18 n19 c20, .int .i64 x21, .int .i64 x22, .slice A23 n24 c25], [.bool b26, .int .i64 x27, .bool b28, .bool b29, .int .i64 x30, .int .i64 x31, .int .i64 x32, .int .i64 x33, .int .i64 x34, .int .i64 x35, .int .i64 x36, .int .i64 x37, .int .i64 x38, .int .i64 x39, .int .i64 x40, .int .i64 x41, .int .i64 x42, .bool b43, .int .i64 x44, .int .i64 x45, .int .i64 x46, .int .i64 x47, .int .i64 x48, .bool b49, .int .i64 x50, .int .i64 x51, .slice A52 n53 c54, .bool b55, .bool b56, .bool b57], [.int .i64 x58, .int .i64 x59, .slice A60 n61 c62, .int .i64 x63, .int .i64 x64, .slice A65 n66 c67, .int .i64 x68, .int .i64 x69, .slice A70 n71 c72], [.int .i64 x73, .int .i64 x74, .slice A75 n76 c77, .int .i64 x78, .int .i64 x79, .slice A80 n81 c82, .int .i64 x83, .int .i64 x84, .slice A85 n86 c87]] M =
 some (zoetroperef23_Frame.c64804 A1 n2 c3 A4 n5 c6 x7 x8 x9 (IntKind.i64.wrap (x10 + 8)) x11 x12 A13 n14 c15 x16 x17 A18 n19 c20 x21 x22 A23 n24 c25 b26 x27 b28 b29 x30 x31 x32 x33 x34 x35 x36 x37 x38 x39 x40 x41 x42 b43 x44 x45 x46 x47 x48 b49 x50 x51 A52 n53 c54 b55 b56 b57 x58 x59 A60 n61 c62 x63 x64 A65 n66 c67 x68 x69 A70 n71 c72 x73 x74 A75 n76 c77 x78 x79 A80 n81 c82 x83 x84 A85 n86 c87 M) := by kernel_rfl
theorem zoetroperef05_SameFrame.entry (k lo : Nat) (x1 : Int) (x2 : Int) (A3 : Option Addr) (n4 : Nat) (c5 : Nat) (x6 : Int) (x7 : Int) (A8 : Option Addr) (n9 : Nat) (c10 : Nat) (x11 : Int) (x12 : Int) (A13 : Option Addr) (n14 : Nat) (c15 : Nat) (x16 : Int) (x17 : Int) (A18 : Option Addr) (n19 : Nat) (c20 : Nat) (x21 : Int) (x22 : Int) (A23 : Option Addr) (n24 : Nat) (c25 : Nat) (x26 : Int) (x27 : Int) (A28 : Option Addr) (n29 : Nat) (c30 : Nat) (M : Mem) : entry P T k lo F.zoetroperef05_SameFrame [.agg ⟨[.int .i64 x1, .int .i64 x2, .slice A3 n4 c5, .int .i64 x6, .int .i64 x7, .slice A8 n9 c10, .int .i64 x11, .int .i64 x12, .slice A13 n14 c15]⟩, .agg ⟨[.int .i64 x16, .int .i64 x17, .slice A18 n19 c20, .int .i64 x21, .int .i64 x22, .slice A23 n24 c25, .int .i64 x26, .int .i64 x27, .slice A28 n29 c30]⟩] M =
 ob (acall P T k lo F.zoetroperef05_Same [.agg ⟨[.int .i64 x1, .int .i64 x2, .slice A3 n4 c5]⟩, .agg ⟨[.int .i64 x16, .int .i64 x17, .slice A18 n19 c20]⟩] M) fun r36 =>
 ob ((some r36.1).bind Value.bool?) fun b37 =>
 bb b37
 (ob (acall P T k lo F.zoetroperef05_Same [.agg ⟨[.int .i64 x6, .int .i64 x7, .slice A8 n9 c10]⟩, .agg ⟨[.int .i64 x21, .int .i64 x22, .slice A23 n24 c25]⟩] r36.2) fun r38 =>
 ob ((some r38.1).bind Value.bool?) fun b39 =>
 bb b39
 (ob (acall P T k lo F.zoetroperef05_Same [.agg ⟨[.int .i64 x11, .int .i64 x12, .slice A13 n14 c15]⟩, .agg ⟨[.int .i64 x26, .int .i64 x27, .slice A28 n29 c30]⟩] r38.2) fun r40 =>
 ob ((some r40.1).bind Value.bool?) fun b41 =>
 some (.ret (.bool b41) r40.2))
 (some (.ret (.bool false) r38.2)))
 (some (.ret (.bool false) r36.2)) := by kernel_rfl
theorem plane_Cut.entry (k lo : Nat) (x1 : Int) (x2 : Int) (A3 : Option Addr) (n4 : Nat) (c5 : Nat) (x6 : Int) (x7 : Int) (x8 : Int) (x9 : Int) (M : Mem) : entry P T k lo F.plane_Cut [.agg ⟨[.int .i64 x1, .int .i64 x2, .slice A3 n4 c5]⟩, .agg ⟨[.int .i64 x6, .int .i64 x7, .int .i64 x8, .int .i64 x9]⟩] M =
 ob (acall P T k lo F.plane_within [.agg ⟨[.int .i64 x1, .int .i64 x2, .slice A3 n4 c5]⟩, .agg ⟨[.int .i64 x6, .int .i64 x7, .int .i64 x8, .int .i64 x9]⟩] M) fun r15 =>
 ob ((some r15.1).bind Value.bool?) fun b16 =>
 bb (!b16)
 (some (.ret (.tuple ⟨[.slice none 0 0, .int .i64 2]⟩) r15.2))
 (pb (0 ≤ IntKind.i64.wrap (x8 * x9) ∧ room ((IntKind.i64.wrap (x8 * x9)).toNat) 1)
 (some (plane_Cut.c244 (some ⟨r15.2.length, 0, some 0⟩) 0 0 x9 0 x1 x2 A3 n4 c5 x6 x7 x8 x9 (r15.2 ++ [⟨.op 1, []⟩] : Mem))) none) := by kernel_rfl
theorem plane_Cut.p244 (k lo : Nat) (A1 : Option Addr) (n2 : Nat) (c3 : Nat) (x4 : Int) (x5 : Int) (x6 : Int) (x7 : Int) (A8 : Option Addr) (n9 : Nat) (c10 : Nat) (x11 : Int) (x12 : Int) (x13 : Int) (x14 : Int) (M : Mem) : piece P T k lo F.plane_Cut 244 [.l 2 0, .l 3 0, .v (.slice A1 n2 c3), .v (.int .i64 x4), .v (.int .i64 x5)] [[.int .i64 x6, .int .i64 x7, .slice A8 n9 c10], [.int .i64 x11, .int .i64 x12, .int .i64 x13, .int .i64 x14]] M =
 bb (decide (x5 < x4))
 (ob (acall P T k lo F.plane_row [.agg ⟨[.int .i64 x6, .int .i64 x7, .slice A8 n9 c10]⟩, .agg ⟨[.int .i64 x11, .int .i64 x12, .int .i64 x13, .int .i64 x14]⟩, .int .i64 x5] M) fun r17 =>
 ob ((some r17.1).bind Value.slc?) fun s18 =>
 ob (Mem.src r17.2 s18.a s18.n s18.n) fun l19 =>
 ob (r17.2.app lo 1 1 ⟨A1, n2, c3⟩ l19 s18.n) fun r20 =>
 some (plane_Cut.c244 r20.1.a r20.1.n r20.1.c x4 (IntKind.i64.wrap (x5 + 1)) x6 x7 A8 n9 c10 x11 x12 x13 x14 r20.2))
 (some (.ret (.tuple ⟨[.slice A1 n2 c3, .int .i64 0]⟩) M)) := by kernel_rfl
theorem zoetropelaw23_alike.entry (k lo : Nat) (x1 : Int) (x2 : Int) (A3 : Option Addr) (n4 : Nat) (c5 : Nat) (x6 : Int) (x7 : Int) (A8 : Option Addr) (n9 : Nat) (c10 : Nat) (x11 : Int) (x12 : Int) (A13 : Option Addr) (n14 : Nat) (c15 : Nat) (x16 : Int) (x17 : Int) (A18 : Option Addr) (n19 : Nat) (c20 : Nat) (x21 : Int) (x22 : Int) (A23 : Option Addr) (n24 : Nat) (c25 : Nat) (x26 : Int) (x27 : Int) (A28 : Option Addr) (n29 : Nat) (c30 : Nat) (M : Mem) : entry P T k lo F.zoetropelaw23_alike [.agg ⟨[.int .i64 x1, .int .i64 x2, .slice A3 n4 c5, .int .i64 x6, .int .i64 x7, .slice A8 n9 c10, .int .i64 x11, .int .i64 x12, .slice A13 n14 c15]⟩, .agg ⟨[.int .i64 x16, .int .i64 x17, .slice A18 n19 c20, .int .i64 x21, .int .i64 x22, .slice A23 n24 c25, .int .i64 x26, .int .i64 x27, .slice A28 n29 c30]⟩] M =
 ob (acall P T k lo F.plane_Same [.agg ⟨[.int .i64 x1, .int .i64 x2, .slice A3 n4 c5]⟩, .agg ⟨[.int .i64 x16, .int .i64 x17, .slice A18 n19 c20]⟩] M) fun r36 =>
 ob ((some r36.1).bind Value.bool?) fun b37 =>
 bb b37
 (ob (acall P T k lo F.plane_Same [.agg ⟨[.int .i64 x6, .int .i64 x7, .slice A8 n9 c10]⟩, .agg ⟨[.int .i64 x21, .int .i64 x22, .slice A23 n24 c25]⟩] r36.2) fun r38 =>
 ob ((some r38.1).bind Value.bool?) fun b39 =>
 bb b39
 (ob (acall P T k lo F.plane_Same [.agg ⟨[.int .i64 x11, .int .i64 x12, .slice A13 n14 c15]⟩, .agg ⟨[.int .i64 x26, .int .i64 x27, .slice A28 n29 c30]⟩] r38.2) fun r40 =>
 ob ((some r40.1).bind Value.bool?) fun b41 =>
 some (.ret (.bool b41) r40.2))
 (some (.ret (.bool false) r38.2)))
 (some (.ret (.bool false) r36.2)) := by kernel_rfl
theorem zoetropelaw23_usual.entry (k lo : Nat) (M : Mem) : entry P T k lo F.zoetropelaw23_usual [] M =
 some (.ret (.agg ⟨[.int .i64 5, .int .i64 1, .slice (some ⟨M.length, 0, none⟩) 5 5]⟩) (M ++ [⟨.fx, [.int .u8 10, .int .u8 10, .int .u8 14, .int .u8 10, .int .u8 10]⟩] : Mem)) := by kernel_rfl
theorem plane_Frame.entry (k lo : Nat) (x1 : Int) (x2 : Int) (x3 : Int) (M : Mem) : entry P T k lo F.plane_Frame [.int .i64 x1, .int .i64 x2, .int .u8 x3] M =
 ob (acall P T k lo F.plane_sides [.int .i64 x1, .int .i64 x2] M) fun r9 =>
 ob ((some r9.1).bind Value.bool?) fun b10 =>
 bb (!b10)
 (some (.ret (.tuple ⟨[.agg ⟨[.int .i64 0, .int .i64 0, .slice none 0 0, .int .i64 0, .int .i64 0, .slice none 0 0, .int .i64 0, .int .i64 0, .slice none 0 0]⟩, .int .i64 2]⟩) r9.2))
 (some (plane_Frame.c244 x1 x2 x3 0 0 0 none 0 0 0 0 none 0 0 0 0 none 0 0 ([.int .i64 0, .int .i64 0, .slice none 0 0, .int .i64 0, .int .i64 0, .slice none 0 0, .int .i64 0, .int .i64 0, .slice none 0 0]) r9.2)) := by kernel_rfl
theorem plane_Frame.p244 (k lo : Nat) (x1 : Int) (x2 : Int) (x3 : Int) (x4 : Int) (x5 : Int) (x6 : Int) (A7 : Option Addr) (n8 : Nat) (c9 : Nat) (x10 : Int) (x11 : Int) (A12 : Option Addr) (n13 : Nat) (c14 : Nat) (x15 : Int) (x16 : Int) (A17 : Option Addr) (n18 : Nat) (c19 : Nat) (cs20 : List Value) (M : Mem) : piece P T k lo F.plane_Frame 244 [.v (.int .i64 x1), .v (.int .i64 x2), .v (.int .u8 x3), .l 6 0, .l 8 0, .v (.int .i64 x4)] [[.int .i64 x5, .int .i64 x6, .slice A7 n8 c9, .int .i64 x10, .int .i64 x11, .slice A12 n13 c14, .int .i64 x15, .int .i64 x16, .slice A17 n18 c19], cs20] M =
 bb (decide (x4 < 3))
 (ob (acall P T k lo F.plane_New [.int .i64 x1, .int .i64 x2, .int .u8 x3] M) fun r21 =>
 ob (r21.1.tup? 2) fun l22 =>
 ob ((l22[0]?).bind (Value.agg? 3)) fun l23 =>
 ob ((l23[0]?).bind (Value.int? .i64)) fun x24 =>
 ob ((l23[1]?).bind (Value.int? .i64)) fun x25 =>
 ob ((l23[2]?).bind Value.slc?) fun s26 =>
 ob ((l22[1]?).bind (Value.int? .i64)) fun x27 =>
 bb (x27 != 0)
 (some (.ret (.tuple ⟨[.agg ⟨[.int .i64 0, .int .i64 0, .slice none 0 0, .int .i64 0, .int .i64 0, .slice none 0 0, .int .i64 0, .int .i64 0, .slice none 0 0]⟩, .int .i64 x27]⟩) r21.2))
 (pb (0 ≤ x4 ∧ x4 < (3 : Int))
 (pb (0 + (x4.toNat * 3) + 3 ≤ cs20.length)
 (bb (x4 == 0)
 (some (plane_Frame.c1959 (IntKind.i64.wrap (Int.tdiv x1 2)) (IntKind.i64.wrap (Int.tdiv x2 2)) x3 x4 x5 x6 A7 n8 c9 x10 x11 A12 n13 c14 x15 x16 A17 n18 c19 (setL cs20 (0 + (x4.toNat * 3)) [.int .i64 x24, .int .i64 x25, .slice s26.a s26.n s26.c]) r21.2))
 (some (plane_Frame.c1959 x1 x2 x3 x4 x5 x6 A7 n8 c9 x10 x11 A12 n13 c14 x15 x16 A17 n18 c19 (setL cs20 (0 + (x4.toNat * 3)) [.int .i64 x24, .int .i64 x25, .slice s26.a s26.n s26.c]) r21.2))) none) none))
 (ob ((cs20[0]?).bind (Value.int? .i64)) fun x28 =>
 ob ((cs20[1]?).bind (Value.int? .i64)) fun x29 =>
 ob ((cs20[2]?).bind Value.slc?) fun s30 =>
 ob ((cs20[3]?).bind (Value.int? .i64)) fun x31 =>
 ob ((cs20[4]?).bind (Value.int? .i64)) fun x32 =>
 ob ((cs20[5]?).bind Value.slc?) fun s33 =>
 ob ((cs20[6]?).bind (Value.int? .i64)) fun x34 =>
 ob ((cs20[7]?).bind (Value.int? .i64)) fun x35 =>
 ob ((cs20[8]?).bind Value.slc?) fun s36 =>
 some (.ret (.tuple ⟨[.agg ⟨[.int .i64 x28, .int .i64 x29, .slice s30.a s30.n s30.c, .int .i64 x31, .int .i64 x32, .slice s33.a s33.n s33.c, .int .i64 x34, .int .i64 x35, .slice s36.a s36.n s36.c]⟩, .int .i64 0]⟩) M)) := by kernel_rfl
theorem plane_Frame.p1959 (k lo : Nat) (x1 : Int) (x2 : Int) (x3 : Int) (x4 : Int) (x5 : Int) (x6 : Int) (A7 : Option Addr) (n8 : Nat) (c9 : Nat) (x10 : Int) (x11 : Int) (A12 : Option Addr) (n13 : Nat) (c14 : Nat) (x15 : Int) (x16 : Int) (A17 : Option Addr) (n18 : Nat) (c19 : Nat) (cs20 : List Value) (M : Mem) : piece P T k lo F.plane_Frame 1959 [.v (.int .i64 x1), .v (.int .i64 x2), .v (.int .u8 x3), .l 6 0, .l 8 0, .v (.int .i64 x4)] [[.int .i64 x5, .int .i64 x6, .slice A7 n8 c9, .int .i64 x10, .int .i64 x11, .slice A12 n13 c14, .int .i64 x15, .int .i64 x16, .slice A17 n18 c19], cs20] M =
 some (plane_Frame.c244 x1 x2 x3 (IntKind.i64.wrap (x4 + 1)) x5 x6 A7 n8 c9 x10 x11 A12 n13 c14 x15 x16 A17 n18 c19 cs20 M) := by kernel_rfl
theorem cdef_lines.entry (k lo : Nat) (x1 : Int) (x2 : Int) (M : Mem) : entry P T k lo F.cdef_lines [.int .i64 x1, .int .i64 x2] M =
 some (.ret (.agg ⟨[.int .i64 (IntKind.i64.wrap (x1 + x2)), .int .i64 (IntKind.i64.wrap (x1 + (IntKind.i64.wrap (Int.tdiv x2 2)))), .int .i64 x1, .int .i64 (IntKind.i64.wrap ((IntKind.i64.wrap (3 + x1)) - (IntKind.i64.wrap (Int.tdiv x2 2)))), .int .i64 (IntKind.i64.wrap ((IntKind.i64.wrap (7 + x1)) - x2)), .int .i64 (IntKind.i64.wrap ((IntKind.i64.wrap (3 - (IntKind.i64.wrap (Int.tdiv x1 2)))) + x2)), .int .i64 x2, .int .i64 (IntKind.i64.wrap ((IntKind.i64.wrap (Int.tdiv x1 2)) + x2))]⟩) M) := by kernel_rfl
theorem zoetroperef23_weight.entry (k lo : Nat) (A1 : Option Addr) (n2 : Nat) (c3 : Nat) (x4 : Int) (M : Mem) : entry P T k lo F.zoetroperef23_weight [.slice A1 n2 c3, .int .i64 x4] M =
 pb (0 ≤ (16 : Int) ∧ room 16 8)
 (pb (0 ≤ (16 : Int) ∧ room 16 8)
 (some (zoetroperef23_weight.c244 A1 n2 c3 x4 (some ⟨M.length, 0, none⟩) 16 16 (some ⟨(M ++ [⟨.fx, zerosL [.int .i64 0] 16⟩] : Mem).length, 0, none⟩) 16 16 0 ((M ++ [⟨.fx, zerosL [.int .i64 0] 16⟩] : Mem) ++ [⟨.fx, zerosL [.int .i64 0] 16⟩] : Mem))) none) none := by kernel_rfl
theorem zoetroperef23_weight.p244 (k lo : Nat) (A1 : Option Addr) (n2 : Nat) (c3 : Nat) (x4 : Int) (A5 : Option Addr) (n6 : Nat) (c7 : Nat) (A8 : Option Addr) (n9 : Nat) (c10 : Nat) (x11 : Int) (M : Mem) : piece P T k lo F.zoetroperef23_weight 244 [.v (.slice A1 n2 c3), .v (.int .i64 x4), .v (.slice A5 n6 c7), .v (.slice A8 n9 c10), .v (.int .i64 x11)] [] M =
 bb (decide (x11 < 8))
 (some (zoetroperef23_weight.c15652 A1 n2 c3 x4 A5 n6 c7 A8 n9 c10 x11 0 M))
 (some (zoetroperef23_weight.c1012 A5 n6 c7 A8 n9 c10 0 0 M)) := by kernel_rfl
theorem zoetroperef23_weight.p1012 (k lo : Nat) (A1 : Option Addr) (n2 : Nat) (c3 : Nat) (A4 : Option Addr) (n5 : Nat) (c6 : Nat) (x7 : Int) (x8 : Int) (M : Mem) : piece P T k lo F.zoetroperef23_weight 1012 [.v (.slice A1 n2 c3), .v (.slice A4 n5 c6), .v (.int .i64 x7), .v (.int .i64 x8)] [] M =
 bb (decide (x8 < 16))
 (pb (0 ≤ x8 ∧ x8 < (n5 : Int))
 (ob A4 fun a12 =>
 ob ((M.ld (plus a12 x8.toNat)).bind (Value.int? .i64)) fun x13 =>
 bb (decide (x13 > 0))
 (pb (0 ≤ x8 ∧ x8 < (n2 : Int))
 (ob A1 fun a14 =>
 ob ((M.ld (plus a14 x8.toNat)).bind (Value.int? .i64)) fun x15 =>
 pb (0 ≤ x8 ∧ x8 < (n2 : Int))
 (ob A1 fun a16 =>
 ob ((M.ld (plus a16 x8.toNat)).bind (Value.int? .i64)) fun x17 =>
 pb (0 ≤ x8 ∧ x8 < (n5 : Int))
 (ob A4 fun a18 =>
 ob ((M.ld (plus a18 x8.toNat)).bind (Value.int? .i64)) fun x19 =>
 pb (x19 = 0) none
 (some (zoetroperef23_weight.c4051 A1 n2 c3 A4 n5 c6 (IntKind.i64.wrap (x7 + (IntKind.i64.wrap ((IntKind.i64.wrap (x15 * x17)) * (IntKind.i64.wrap (Int.tdiv 840 x19)))))) x8 M))) none) none) none)
 (some (zoetroperef23_weight.c4051 A1 n2 c3 A4 n5 c6 x7 x8 M))) none)
 (some (.ret (.int .i64 x7) M)) := by kernel_rfl
theorem zoetroperef23_weight.p4051 (k lo : Nat) (A1 : Option Addr) (n2 : Nat) (c3 : Nat) (A4 : Option Addr) (n5 : Nat) (c6 : Nat) (x7 : Int) (x8 : Int) (M : Mem) : piece P T k lo F.zoetroperef23_weight 4051 [.v (.slice A1 n2 c3), .v (.slice A4 n5 c6), .v (.int .i64 x7), .v (.int .i64 x8)] [] M =
 some (zoetroperef23_weight.c1012 A1 n2 c3 A4 n5 c6 x7 (IntKind.i64.wrap (x8 + 1)) M) := by kernel_rfl
theorem zoetroperef23_weight.p15652 (k lo : Nat) (A1 : Option Addr) (n2 : Nat) (c3 : Nat) (x4 : Int) (A5 : Option Addr) (n6 : Nat) (c7 : Nat) (A8 : Option Addr) (n9 : Nat) (c10 : Nat) (x11 : Int) (x12 : Int) (M : Mem) : piece P T k lo F.zoetroperef23_weight 15652 [.v (.slice A1 n2 c3), .v (.int .i64 x4), .v (.slice A5 n6 c7), .v (.slice A8 n9 c10), .v (.int .i64 x11), .v (.int .i64 x12)] [] M =
 bb (decide (x12 < 8))
 (ob (acall P T k lo F.zoetroperef23_number [.int .i64 x4, .int .i64 x11, .int .i64 x12] M) fun r20 =>
 ob ((some r20.1).bind (Value.int? .i64)) fun x21 =>
 pb (0 ≤ x21 ∧ x21 < (n6 : Int))
 (ob A5 fun a22 =>
 ob ((r20.2.ld (plus a22 x21.toNat)).bind (Value.int? .i64)) fun x23 =>
 pb (0 ≤ IntKind.i64.wrap ((IntKind.i64.wrap (8 * x11)) + x12) ∧ IntKind.i64.wrap ((IntKind.i64.wrap (8 * x11)) + x12) < (n2 : Int))
 (ob A1 fun a24 =>
 ob ((r20.2.ld (plus a24 ((IntKind.i64.wrap ((IntKind.i64.wrap (8 * x11)) + x12)).toNat))).bind (Value.int? .u8)) fun x25 =>
 pb (0 ≤ x21 ∧ x21 < (n6 : Int))
 (ob A5 fun a26 =>
 ob (r20.2.st lo (plus a26 x21.toNat) [.int .i64 (IntKind.i64.wrap ((IntKind.i64.wrap (x23 + (IntKind.i64.wrap x25))) - 128))]) fun M27 =>
 pb (0 ≤ x21 ∧ x21 < (n9 : Int))
 (ob A8 fun a28 =>
 ob ((M27.ld (plus a28 x21.toNat)).bind (Value.int? .i64)) fun x29 =>
 pb (0 ≤ x21 ∧ x21 < (n9 : Int))
 (ob A8 fun a30 =>
 ob (M27.st lo (plus a30 x21.toNat) [.int .i64 (IntKind.i64.wrap (x29 + 1))]) fun M31 =>
 some (zoetroperef23_weight.c15652 A1 n2 c3 x4 A5 n6 c7 A8 n9 c10 x11 (IntKind.i64.wrap (x12 + 1)) M31)) none) none) none) none) none)
 (some (zoetroperef23_weight.c244 A1 n2 c3 x4 A5 n6 c7 A8 n9 c10 (IntKind.i64.wrap (x11 + 1)) M)) := by kernel_rfl
theorem cdef_clip.entry (k lo : Nat) (x1 : Int) (x2 : Int) (x3 : Int) (M : Mem) : entry P T k lo F.cdef_clip [.int .i64 x1, .int .i64 x2, .int .i64 x3] M =
 some (.ret (.int .i64 (minI (maxI x1 x2) x3)) M) := by kernel_rfl
theorem math_bits_Len.entry (k lo : Nat) (x1 : Int) (M : Mem) : entry P T k lo F.math_bits_Len [.int .u64 x1] M =
 ob (acall P T k lo F.math_bits_Len64 [.int .u64 x1] M) fun r7 =>
 ob ((some r7.1).bind (Value.int? .i64)) fun x8 =>
 some (.ret (.int .i64 x8) r7.2) := by kernel_rfl
theorem zoetroperef00_Clip.entry (k lo : Nat) (x1 : Int) (x2 : Int) (x3 : Int) (M : Mem) : entry P T k lo F.zoetroperef00_Clip [.int .i64 x1, .int .i64 x2, .int .i64 x3] M =
 bb (decide (x1 < x2))
 (some (.ret (.int .i64 x2) M))
 (bb (decide (x1 > x3))
 (some (.ret (.int .i64 x3) M))
 (some (.ret (.int .i64 x1) M))) := by kernel_rfl
theorem zoetroperef00_Log.entry (k lo : Nat) (x1 : Int) (M : Mem) : entry P T k lo F.zoetroperef00_Log [.int .i64 x1] M =
 some (zoetroperef00_Log.c56 x1 0 M) := by kernel_rfl
theorem zoetroperef00_Log.p56 (k lo : Nat) (x1 : Int) (x2 : Int) (M : Mem) : piece P T k lo F.zoetroperef00_Log 56 [.v (.int .i64 x1), .v (.int .i64 x2)] [] M =
 bb (decide (x1 > 1))
 (some (zoetroperef00_Log.c56 (IntKind.i64.wrap (Int.tdiv x1 2)) (IntKind.i64.wrap (x2 + 1)) M))
 (some (.ret (.int .i64 x2) M)) := by kernel_rfl
theorem zoetroperef00_Abs.entry (k lo : Nat) (x1 : Int) (M : Mem) : entry P T k lo F.zoetroperef00_Abs [.int .i64 x1] M =
 bb (decide (x1 < 0))
 (some (.ret (.int .i64 (IntKind.i64.wrap (0 - x1))) M))
 (some (.ret (.int .i64 x1) M)) := by kernel_rfl
theorem cdef_within.entry (k lo : Nat) (x1 : Int) (x2 : Int) (x3 : Int) (M : Mem) : entry P T k lo F.cdef_within [.int .i64 x1, .int .i64 x2, .int .i64 x3] M =
 bb (decide (x1 ≥ x2))
 (some (.ret (.bool (decide (x1 ≤ x3))) M))
 (some (.ret (.bool false) M)) := by kernel_rfl
theorem cdef_taps.entry (k lo : Nat) (x1 : Int) (x2 : Int) (x3 : Int) (M : Mem) : entry P T k lo F.cdef_taps [.int .i64 x1, .int .i64 x2, .int .i64 x3] M =
 ob (acall P T k lo F.cdef_along [] M) fun r9 =>
 ob ((some r9.1).bind (Value.agg? 32)) fun l10 =>
 ob ((l10[0]?).bind (Value.int? .i64)) fun x11 =>
 ob ((l10[1]?).bind (Value.int? .i64)) fun x12 =>
 ob ((l10[2]?).bind (Value.int? .i64)) fun x13 =>
 ob ((l10[3]?).bind (Value.int? .i64)) fun x14 =>
 ob ((l10[4]?).bind (Value.int? .i64)) fun x15 =>
 ob ((l10[5]?).bind (Value.int? .i64)) fun x16 =>
 ob ((l10[6]?).bind (Value.int? .i64)) fun x17 =>
 ob ((l10[7]?).bind (Value.int? .i64)) fun x18 =>
 ob ((l10[8]?).bind (Value.int? .i64)) fun x19 =>
 ob ((l10[9]?).bind (Value.int? .i64)) fun x20 =>
 ob ((l10[10]?).bind (Value.int? .i64)) fun x21 =>
 ob ((l10[11]?).bind (Value.int? .i64)) fun x22 =>
 ob ((l10[12]?).bind (Value.int? .i64)) fun x23 =>
 ob ((l10[13]?).bind (Value.int? .i64)) fun x24 =>
 ob ((l10[14]?).bind (Value.int? .i64)) fun x25 =>
 ob ((l10[15]?).bind (Value.int? .i64)) fun x26 =>
 ob ((l10[16]?).bind (Value.int? .i64)) fun x27 =>
 ob ((l10[17]?).bind (Value.int? .i64)) fun x28 =>
 ob ((l10[18]?).bind (Value.int? .i64)) fun x29 =>
 ob ((l10[19]?).bind (Value.int? .i64)) fun x30 =>
 ob ((l10[20]?).bind (Value.int? .i64)) fun x31 =>
 ob ((l10[21]?).bind (Value.int? .i64)) fun x32 =>
 ob ((l10[22]?).bind (Value.int? .i64)) fun x33 =>
 ob ((l10[23]?).bind (Value.int? .i64)) fun x34 =>
 ob ((l10[24]?).bind (Value.int? .i64)) fun x35 =>
 ob ((l10[25]?).bind (Value.int? .i64)) fun x36 =>
 ob ((l10[26]?).bind (Value.int? .i64)) fun x37 =>
 ob ((l10[27]?).bind (Value.int? .i64)) fun x38 =>
 ob ((l10[28]?).bind (Value.int? .i64)) fun x39 =>
 ob ((l10[29]?).bind (Value.int? .i64)) fun x40 =>
 ob ((l10[30]?).bind (Value.int? .i64)) fun x41 =>
 ob ((l10[31]?).bind (Value.int? .i64)) fun x42 =>
 bb (Int.tmod x2 2 == 1)
 (some (cdef_taps.c31 x1 x2 x3 x11 x12 x13 x14 x15 x16 x17 x18 x19 x20 x21 x22 x23 x24 x25 x26 x27 x28 x29 x30 x31 x32 x33 x34 x35 x36 x37 x38 x39 x40 x41 x42 3 3 r9.2))
 (some (cdef_taps.c31 x1 x2 x3 x11 x12 x13 x14 x15 x16 x17 x18 x19 x20 x21 x22 x23 x24 x25 x26 x27 x28 x29 x30 x31 x32 x33 x34 x35 x36 x37 x38 x39 x40 x41 x42 4 2 r9.2)) := by kernel_rfl
theorem cdef_taps.p31 (k lo : Nat) (x1 : Int) (x2 : Int) (x3 : Int) (x4 : Int) (x5 : Int) (x6 : Int) (x7 : Int) (x8 : Int) (x9 : Int) (x10 : Int) (x11 : Int) (x12 : Int) (x13 : Int) (x14 : Int) (x15 : Int) (x16 : Int) (x17 : Int) (x18 : Int) (x19 : Int) (x20 : Int) (x21 : Int) (x22 : Int) (x23 : Int) (x24 : Int) (x25 : Int) (x26 : Int) (x27 : Int) (x28 : Int) (x29 : Int) (x30 : Int) (x31 : Int) (x32 : Int) (x33 : Int) (x34 : Int) (x35 : Int) (x36 : Int) (x37 : Int) (M : Mem) : piece P T k lo F.cdef_taps 31 [.v (.int .i64 x1), .v (.int .i64 x2), .v (.int .i64 x3), .l 7 0, .l 8 0] [[.int .i64 x4, .int .i64 x5, .int .i64 x6, .int .i64 x7, .int .i64 x8, .int .i64 x9, .int .i64 x10, .int .i64 x11, .int .i64 x12, .int .i64 x13, .int .i64 x14, .int .i64 x15, .int .i64 x16, .int .i64 x17, .int .i64 x18, .int .i64 x19, .int .i64 x20, .int .i64 x21, .int .i64 x22, .int .i64 x23, .int .i64 x24, .int .i64 x25, .int .i64 x26, .int .i64 x27, .int .i64 x28, .int .i64 x29, .int .i64 x30, .int .i64 x31, .int .i64 x32, .int .i64 x33, .int .i64 x34, .int .i64 x35], [.int .i64 x36, .int .i64 x37]] M =
 some (cdef_taps.c1012 x1 x2 x3 none 0 0 0 x4 x5 x6 x7 x8 x9 x10 x11 x12 x13 x14 x15 x16 x17 x18 x19 x20 x21 x22 x23 x24 x25 x26 x27 x28 x29 x30 x31 x32 x33 x34 x35 x36 x37 M) := by kernel_rfl
theorem cdef_taps.p1012 (k lo : Nat) (x1 : Int) (x2 : Int) (x3 : Int) (A4 : Option Addr) (n5 : Nat) (c6 : Nat) (x7 : Int) (x8 : Int) (x9 : Int) (x10 : Int) (x11 : Int) (x12 : Int) (x13 : Int) (x14 : Int) (x15 : Int) (x16 : Int) (x17 : Int) (x18 : Int) (x19 : Int) (x20 : Int) (x21 : Int) (x22 : Int) (x23 : Int) (x24 : Int) (x25 : Int) (x26 : Int) (x27 : Int) (x28 : Int) (x29 : Int) (x30 : Int) (x31 : Int) (x32 : Int) (x33 : Int) (x34 : Int) (x35 : Int) (x36 : Int) (x37 : Int) (x38 : Int) (x39 : Int) (x40 : Int) (x41 : Int) (M : Mem) : piece P T k lo F.cdef_taps 1012 [.v (.int .i64 x1), .v (.int .i64 x2), .v (.int .i64 x3), .l 7 0, .l 8 0, .v (.slice A4 n5 c6), .v (.int .i64 x7)] [[.int .i64 x8, .int .i64 x9, .int .i64 x10, .int .i64 x11, .int .i64 x12, .int .i64 x13, .int .i64 x14, .int .i64 x15, .int .i64 x16, .int .i64 x17, .int .i64 x18, .int .i64 x19, .int .i64 x20, .int .i64 x21, .int .i64 x22, .int .i64 x23, .int .i64 x24, .int .i64 x25, .int .i64 x26, .int .i64 x27, .int .i64 x28, .int .i64 x29, .int .i64 x30, .int .i64 x31, .int .i64 x32, .int .i64 x33, .int .i64 x34, .int .i64 x35, .int .i64 x36, .int .i64 x37, .int .i64 x38, .int .i64 x39], [.int .i64 x40, .int .i64 x41]] M =
 bb (decide (x7 < 2))
 (pb (0 ≤ x1 ∧ x1 < (8 : Int))
 (pb (0 ≤ x7 ∧ x7 < (2 : Int))
 (ob ((([.int .i64 x8, .int .i64 x9, .int .i64 x10, .int .i64 x11, .int .i64 x12, .int .i64 x13, .int .i64 x14, .int .i64 x15, .int .i64 x16, .int .i64 x17, .int .i64 x18, .int .i64 x19, .int .i64 x20, .int .i64 x21, .int .i64 x22, .int .i64 x23, .int .i64 x24, .int .i64 x25, .int .i64 x26, .int .i64 x27, .int .i64 x28, .int .i64 x29, .int .i64 x30, .int .i64 x31, .int .i64 x32, .int .i64 x33, .int .i64 x34, .int .i64 x35, .int .i64 x36, .int .i64 x37, .int .i64 x38, .int .i64 x39] : List Value)[0 + (x1.toNat * 4) + (x7.toNat * 2) + 0]?).bind (Value.int? .i64)) fun x43 =>
 ob ((([.int .i64 x8, .int .i64 x9, .int .i64 x10, .int .i64 x11, .int .i64 x12, .int .i64 x13, .int .i64 x14, .int .i64 x15, .int .i64 x16, .int .i64 x17, .int .i64 x18, .int .i64 x19, .int .i64 x20, .int .i64 x21, .int .i64 x22, .int .i64 x23, .int .i64 x24, .int .i64 x25, .int .i64 x26, .int .i64 x27, .int .i64 x28, .int .i64 x29, .int .i64 x30, .int .i64 x31, .int .i64 x32, .int .i64 x33, .int .i64 x34, .int .i64 x35, .int .i64 x36, .int .i64 x37, .int .i64 x38, .int .i64 x39] : List Value)[0 + (x1.toNat * 4) + (x7.toNat * 2) + 1]?).bind (Value.int? .i64)) fun x44 =>
 pb (0 ≤ x7 ∧ x7 < (2 : Int))
 (ob ((([.int .i64 x40, .int .i64 x41] : List Value)[0 + x7.toNat + 0]?).bind (Value.int? .i64)) fun x45 =>
 pb (0 ≤ Int.tmod (IntKind.i64.wrap (x1 + 2)) 8 ∧ Int.tmod (IntKind.i64.wrap (x1 + 2)) 8 < (8 : Int))
 (pb (0 ≤ x7 ∧ x7 < (2 : Int))
 (ob ((([.int .i64 x8, .int .i64 x9, .int .i64 x10, .int .i64 x11, .int .i64 x12, .int .i64 x13, .int .i64 x14, .int .i64 x15, .int .i64 x16, .int .i64 x17, .int .i64 x18, .int .i64 x19, .int .i64 x20, .int .i64 x21, .int .i64 x22, .int .i64 x23, .int .i64 x24, .int .i64 x25, .int .i64 x26, .int .i64 x27, .int .i64 x28, .int .i64 x29, .int .i64 x30, .int .i64 x31, .int .i64 x32, .int .i64 x33, .int .i64 x34, .int .i64 x35, .int .i64 x36, .int .i64 x37, .int .i64 x38, .int .i64 x39] : List Value)[0 + ((Int.tmod (IntKind.i64.wrap (x1 + 2)) 8).toNat * 4) + (x7.toNat * 2) + 0]?).bind (Value.int? .i64)) fun x46 =>
 ob ((([.int .i64 x8, .int .i64 x9, .int .i64 x10, .int .i64 x11, .int .i64 x12, .int .i64 x13, .int .i64 x14, .int .i64 x15, .int .i64 x16, .int .i64 x17, .int .i64 x18, .int .i64 x19, .int .i64 x20, .int .i64 x21, .int .i64 x22, .int .i64 x23, .int .i64 x24, .int .i64 x25, .int .i64 x26, .int .i64 x27, .int .i64 x28, .int .i64 x29, .int .i64 x30, .int .i64 x31, .int .i64 x32, .int .i64 x33, .int .i64 x34, .int .i64 x35, .int .i64 x36, .int .i64 x37, .int .i64 x38, .int .i64 x39] : List Value)[0 + ((Int.tmod (IntKind.i64.wrap (x1 + 2)) 8).toNat * 4) + (x7.toNat * 2) + 1]?).bind (Value.int? .i64)) fun x47 =>
 pb (0 ≤ Int.tmod (IntKind.i64.wrap ((IntKind.i64.wrap (x1 + 8)) - 2)) 8 ∧ Int.tmod (IntKind.i64.wrap ((IntKind.i64.wrap (x1 + 8)) - 2)) 8 < (8 : Int))
 (pb (0 ≤ x7 ∧ x7 < (2 : Int))
 (ob ((([.int .i64 x8, .int .i64 x9, .int .i64 x10, .int .i64 x11, .int .i64 x12, .int .i64 x13, .int .i64 x14, .int .i64 x15, .int .i64 x16, .int .i64 x17, .int .i64 x18, .int .i64 x19, .int .i64 x20, .int .i64 x21, .int .i64 x22, .int .i64 x23, .int .i64 x24, .int .i64 x25, .int .i64 x26, .int .i64 x27, .int .i64 x28, .int .i64 x29, .int .i64 x30, .int .i64 x31, .int .i64 x32, .int .i64 x33, .int .i64 x34, .int .i64 x35, .int .i64 x36, .int .i64 x37, .int .i64 x38, .int .i64 x39] : List Value)[0 + ((Int.tmod (IntKind.i64.wrap ((IntKind.i64.wrap (x1 + 8)) - 2)) 8).toNat * 4) + (x7.toNat * 2) + 0]?).bind (Value.int? .i64)) fun x48 =>
 ob ((([.int .i64 x8, .int .i64 x9, .int .i64 x10, .int .i64 x11, .int .i64 x12, .int .i64 x13, .int .i64 x14, .int .i64 x15, .int .i64 x16, .int .i64 x17, .int .i64 x18, .int .i64 x19, .int .i64 x20, .int .i64 x21, .int .i64 x22, .int .i64 x23, .int .i64 x24, .int .i64 x25, .int .i64 x26, .int .i64 x27, .int .i64 x28, .int .i64 x29, .int .i64 x30, .int .i64 x31, .int .i64 x32, .int .i64 x33, .int .i64 x34, .int .i64 x35, .int .i64 x36, .int .i64 x37, .int .i64 x38, .int .i64 x39] : List Value)[0 + ((Int.tmod (IntKind.i64.wrap ((IntKind.i64.wrap (x1 + 8)) - 2)) 8).toNat * 4) + (x7.toNat * 2) + 1]?).bind (Value.int? .i64)) fun x49 =>
 ob (M.app lo 4 32 ⟨A4, n5, c6⟩ ([.int .i64 x43, .int .i64 x44, .int .i64 x2, .int .i64 x45, .int .i64 x46, .int .i64 x47, .int .i64 x3, .int .i64 (IntKind.i64.wrap (2 - x7)), .int .i64 x48, .int .i64 x49, .int .i64 x3, .int .i64 (IntKind.i64.wrap (2 - x7))]) 3) fun r50 =>
 some (cdef_taps.c1012 x1 x2 x3 r50.1.a r50.1.n r50.1.c (IntKind.i64.wrap (x7 + 1)) x8 x9 x10 x11 x12 x13 x14 x15 x16 x17 x18 x19 x20 x21 x22 x23 x24 x25 x26 x27 x28 x29 x30 x31 x32 x33 x34 x35 x36 x37 x38 x39 x40 x41 r50.2)) none) none) none) none) none) none) none)
 (some (.ret (.slice A4 n5 c6) M)) := by kernel_rfl
theorem cdef_sample.entry (k lo : Nat) (x1 : Int) (x2 : Int) (A3 : Option Addr) (n4 : Nat) (c5 : Nat) (x6 : Int) (x7 : Int) (A8 : Option Addr) (n9 : Nat) (c10 : Nat) (x11 : Int) (M : Mem) : entry P T k lo F.cdef_sample [.agg ⟨[.int .i64 x1, .int .i64 x2, .slice A3 n4 c5]⟩, .int .i64 x6, .int .i64 x7, .slice A8 n9 c10, .int .i64 x11] M =
 pb (0 ≤ IntKind.i64.wrap ((IntKind.i64.wrap (x7 * x1)) + x6) ∧ IntKind.i64.wrap ((IntKind.i64.wrap (x7 * x1)) + x6) < (n4 : Int))
 (ob A3 fun a17 =>
 ob ((M.ld (plus a17 ((IntKind.i64.wrap ((IntKind.i64.wrap (x7 * x1)) + x6)).toNat))).bind (Value.int? .u8)) fun x18 =>
 some (cdef_sample.c244 x6 x7 x11 (IntKind.i64.wrap x18) 0 (IntKind.i64.wrap x18) (IntKind.i64.wrap x18) A8 n9 c10 (n9 : Int) 0 x1 x2 A3 n4 c5 M)) none := by kernel_rfl
theorem cdef_sample.p63 (k lo : Nat) (x1 : Int) (x2 : Int) (x3 : Int) (x4 : Int) (M : Mem) : piece P T k lo F.cdef_sample 63 [.v (.int .i64 x1), .v (.int .i64 x2), .v (.int .i64 x3), .v (.int .i64 x4)] [] M =
 ob (acall P T k lo F.cdef_clip [.int .i64 (IntKind.i64.wrap (x1 + (shrI .i64 (IntKind.i64.wrap (8 + x2)) 4))), .int .i64 x3, .int .i64 x4] M) fun r24 =>
 ob ((some r24.1).bind (Value.int? .i64)) fun x25 =>
 some (.ret (.int .u8 (IntKind.u8.wrap x25)) r24.2) := by kernel_rfl
theorem cdef_sample.p244 (k lo : Nat) (x1 : Int) (x2 : Int) (x3 : Int) (x4 : Int) (x5 : Int) (x6 : Int) (x7 : Int) (A8 : Option Addr) (n9 : Nat) (c10 : Nat) (x11 : Int) (x12 : Int) (x13 : Int) (x14 : Int) (A15 : Option Addr) (n16 : Nat) (c17 : Nat) (M : Mem) : piece P T k lo F.cdef_sample 244 [.v (.int .i64 x1), .v (.int .i64 x2), .v (.int .i64 x3), .l 5 0, .v (.int .i64 x4), .v (.int .i64 x5), .v (.int .i64 x6), .v (.int .i64 x7), .v (.slice A8 n9 c10), .v (.int .i64 x11), .v (.int .i64 x12)] [[.int .i64 x13, .int .i64 x14, .slice A15 n16 c17]] M =
 bb (decide (x12 < x11))
 (pb (0 ≤ x12 ∧ x12 < (n9 : Int))
 (ob A8 fun a19 =>
 ob ((M.ld (plus a19 (x12.toNat * 4))).bind (Value.int? .i64)) fun x20 =>
 ob ((M.ld (plus (plus a19 (x12.toNat * 4)) 1)).bind (Value.int? .i64)) fun x21 =>
 ob ((M.ld (plus (plus a19 (x12.toNat * 4)) 2)).bind (Value.int? .i64)) fun x22 =>
 ob ((M.ld (plus (plus a19 (x12.toNat * 4)) 3)).bind (Value.int? .i64)) fun x23 =>
 some (cdef_sample.c62668 x1 x2 x3 x4 x5 x6 x7 A8 n9 c10 x11 x12 1 (-1) 0 x13 x14 A15 n16 c17 x20 x21 x22 x23 M)) none)
 (bb (decide (x5 < 0))
 (some (cdef_sample.c63 x4 (IntKind.i64.wrap (x5 - 1)) x6 x7 M))
 (some (cdef_sample.c63 x4 x5 x6 x7 M))) := by kernel_rfl
theorem cdef_sample.p62668 (k lo : Nat) (x1 : Int) (x2 : Int) (x3 : Int) (x4 : Int) (x5 : Int) (x6 : Int) (x7 : Int) (A8 : Option Addr) (n9 : Nat) (c10 : Nat) (x11 : Int) (x12 : Int) (x13 : Int) (x14 : Int) (x15 : Int) (x16 : Int) (x17 : Int) (A18 : Option Addr) (n19 : Nat) (c20 : Nat) (x21 : Int) (x22 : Int) (x23 : Int) (x24 : Int) (M : Mem) : piece P T k lo F.cdef_sample 62668 [.v (.int .i64 x1), .v (.int .i64 x2), .v (.int .i64 x3), .l 5 0, .v (.int .i64 x4), .v (.int .i64 x5), .v (.int .i64 x6), .v (.int .i64 x7), .l 16 0, .v (.slice A8 n9 c10), .v (.int .i64 x11), .v (.int .i64 x12), .v (.agg ⟨[.int .i64 x13, .int .i64 x14]⟩), .v (.int .i64 x15)] [[.int .i64 x16, .int .i64 x17, .slice A18 n19 c20], [.int .i64 x21, .int .i64 x22, .int .i64 x23, .int .i64 x24]] M =
 bb (decide (x15 < 2))
 (pb (0 ≤ x15 ∧ x15 < (2 : Int))
 (ob ((([.int .i64 x13, .int .i64 x14] : List Value)[x15.toNat + 0]?).bind (Value.int? .i64)) fun x26 =>
 ob (acall P T k lo F.cdef_within [.int .i64 (IntKind.i64.wrap (x1 + (IntKind.i64.wrap (x26 * x22)))), .int .i64 0, .int .i64 (IntKind.i64.wrap (x16 - 1))] M) fun r27 =>
 ob ((some r27.1).bind Value.bool?) fun b28 =>
 bb (!b28)
 (some (cdef_sample.c501351 x1 x2 x3 x4 x5 x6 x7 A8 n9 c10 x11 x12 x13 x14 x15 x16 x17 A18 n19 c20 x21 x22 x23 x24 r27.2))
 (ob (acall P T k lo F.cdef_within [.int .i64 (IntKind.i64.wrap (x2 + (IntKind.i64.wrap (x26 * x21)))), .int .i64 0, .int .i64 (IntKind.i64.wrap (x17 - 1))] r27.2) fun r29 =>
 ob ((some r29.1).bind Value.bool?) fun b30 =>
 bb (!b30)
 (some (cdef_sample.c501351 x1 x2 x3 x4 x5 x6 x7 A8 n9 c10 x11 x12 x13 x14 x15 x16 x17 A18 n19 c20 x21 x22 x23 x24 r29.2))
 (pb (0 ≤ IntKind.i64.wrap ((IntKind.i64.wrap ((IntKind.i64.wrap (x2 + (IntKind.i64.wrap (x26 * x21)))) * x16)) + (IntKind.i64.wrap (x1 + (IntKind.i64.wrap (x26 * x22))))) ∧ IntKind.i64.wrap ((IntKind.i64.wrap ((IntKind.i64.wrap (x2 + (IntKind.i64.wrap (x26 * x21)))) * x16)) + (IntKind.i64.wrap (x1 + (IntKind.i64.wrap (x26 * x22))))) < (n19 : Int))
 (ob A18 fun a31 =>
 ob ((r29.2.ld (plus a31 ((IntKind.i64.wrap ((IntKind.i64.wrap ((IntKind.i64.wrap (x2 + (IntKind.i64.wrap (x26 * x21)))) * x16)) + (IntKind.i64.wrap (x1 + (IntKind.i64.wrap (x26 * x22)))))).toNat))).bind (Value.int? .u8)) fun x32 =>
 ob (acall P T k r29.2.length F.cdef_Limit [.int .i64 (IntKind.i64.wrap ((IntKind.i64.wrap x32) - x4)), .int .i64 x23, .int .i64 x3] r29.2) fun r33 =>
 ob ((some r33.1).bind (Value.int? .i64)) fun x34 =>
 some (cdef_sample.c501351 x1 x2 x3 x4 (IntKind.i64.wrap (x5 + (IntKind.i64.wrap (x24 * x34)))) (minI x6 (IntKind.i64.wrap x32)) (maxI x7 (IntKind.i64.wrap x32)) A8 n9 c10 x11 x12 x13 x14 x15 x16 x17 A18 n19 c20 x21 x22 x23 x24 r33.2)) none))) none)
 (some (cdef_sample.c244 x1 x2 x3 x4 x5 x6 x7 A8 n9 c10 x11 (IntKind.i64.wrap (x12 + 1)) x16 x17 A18 n19 c20 M)) := by kernel_rfl
theorem cdef_sample.p501351 (k lo : Nat) (x1 : Int) (x2 : Int) (x3 : Int) (x4 : Int) (x5 : Int) (x6 : Int) (x7 : Int) (A8 : Option Addr) (n9 : Nat) (c10 : Nat) (x11 : Int) (x12 : Int) (x13 : Int) (x14 : Int) (x15 : Int) (x16 : Int) (x17 : Int) (A18 : Option Addr) (n19 : Nat) (c20 : Nat) (x21 : Int) (x22 : Int) (x23 : Int) (x24 : Int) (M : Mem) : piece P T k lo F.cdef_sample 501351 [.v (.int .i64 x1), .v (.int .i64 x2), .v (.int .i64 x3), .l 5 0, .v (.int .i64 x4), .v (.int .i64 x5), .v (.int .i64 x6), .v (.int .i64 x7), .l 16 0, .v (.slice A8 n9 c10), .v (.int .i64 x11), .v (.int .i64 x12), .v (.agg ⟨[.int .i64 x13, .int .i64 x14]⟩), .v (.int .i64 x15)] [[.int .i64 x16, .int .i64 x17, .slice A18 n19 c20], [.int .i64 x21, .int .i64 x22, .int .i64 x23, .int .i64 x24]] M =
 some (cdef_sample.c62668 x1 x2 x3 x4 x5 x6 x7 A8 n9 c10 x11 x12 x13 x14 (IntKind.i64.wrap (x15 + 1)) x16 x17 A18 n19 c20 x21 x22 x23 x24 M) := by kernel_rfl
theorem zoetroperef05_Check.entry (k lo : Nat) (x1 : Int) (x2 : Int) (A3 : Option Addr) (n4 : Nat) (c5 : Nat) (M : Mem) : entry P T k lo F.zoetroperef05_Check [.agg ⟨[.int .i64 x1, .int .i64 x2, .slice A3 n4 c5]⟩] M =
 bb (decide (x1 < 1))
 (some (.ret (.int .i64 2) M))
 (bb (decide (x1 > 512))
 (some (.ret (.int .i64 2) M))
 (bb (decide (x2 < 1))
 (some (.ret (.int .i64 2) M))
 (bb (decide (x2 > 512))
 (some (.ret (.int .i64 2) M))
 (bb ((n4 : Int) != IntKind.i64.wrap (x1 * x2))
 (some (.ret (.int .i64 2) M))
 (some (.ret (.int .i64 0) M)))))) := by kernel_rfl
theorem zoetroperef05_Within.entry (k lo : Nat) (x1 : Int) (x2 : Int) (A3 : Option Addr) (n4 : Nat) (c5 : Nat) (x6 : Int) (x7 : Int) (x8 : Int) (x9 : Int) (M : Mem) : entry P T k lo F.zoetroperef05_Within [.agg ⟨[.int .i64 x1, .int .i64 x2, .slice A3 n4 c5]⟩, .agg ⟨[.int .i64 x6, .int .i64 x7, .int .i64 x8, .int .i64 x9]⟩] M =
 bb (decide (x8 ≥ 1))
 (bb (decide (x9 ≥ 1))
 (bb (decide (x6 ≥ 0))
 (bb (decide (x7 ≥ 0))
 (bb (decide (x8 ≤ x1))
 (bb (decide (x9 ≤ x2))
 (bb (decide (x6 ≤ IntKind.i64.wrap (x1 - x8)))
 (some (.ret (.bool (decide (x7 ≤ IntKind.i64.wrap (x2 - x9)))) M))
 (some (.ret (.bool false) M)))
 (some (.ret (.bool false) M)))
 (some (.ret (.bool false) M)))
 (some (.ret (.bool false) M)))
 (some (.ret (.bool false) M)))
 (some (.ret (.bool false) M)))
 (some (.ret (.bool false) M)) := by kernel_rfl
theorem zoetroperef23_sample.entry (k lo : Nat) (x1 : Int) (x2 : Int) (A3 : Option Addr) (n4 : Nat) (c5 : Nat) (x6 : Int) (x7 : Int) (x8 : Int) (x9 : Int) (x10 : Int) (x11 : Int) (M : Mem) : entry P T k lo F.zoetroperef23_sample [.agg ⟨[.int .i64 x1, .int .i64 x2, .slice A3 n4 c5]⟩, .int .i64 x6, .int .i64 x7, .agg ⟨[.int .i64 x8, .int .i64 x9, .int .i64 x10, .int .i64 x11]⟩] M =
 pb (0 ≤ IntKind.i64.wrap ((IntKind.i64.wrap (x7 * x1)) + x6) ∧ IntKind.i64.wrap ((IntKind.i64.wrap (x7 * x1)) + x6) < (n4 : Int))
 (ob A3 fun a17 =>
 ob ((M.ld (plus a17 ((IntKind.i64.wrap ((IntKind.i64.wrap (x7 * x1)) + x6)).toNat))).bind (Value.int? .u8)) fun x18 =>
 some (zoetroperef23_sample.c500 x8 x9 x10 x11 (IntKind.i64.wrap x18) ⟨M.length, 0, none⟩ 0 (M ++ [⟨.fx, [.int .i64 x1, .int .i64 x2, .slice A3 n4 c5, .int .i64 x6, .int .i64 x7, .int .i64 0, .int .i64 (IntKind.i64.wrap x18), .int .i64 (IntKind.i64.wrap x18)]⟩] : Mem))) none := by kernel_rfl
theorem zoetroperef23_sample.p255 (k lo : Nat) (x1 : Int) (a2 : Addr) (x3 : Int) (M : Mem) : piece P T k lo F.zoetroperef23_sample 255 [.v (.int .i64 x1), .v (.pointer (some a2)), .v (.int .i64 x3)] [] M =
 ob ((M.ld (plus a2 5)).bind (Value.int? .i64)) fun x20 =>
 ob ((M.ld (plus a2 6)).bind (Value.int? .i64)) fun x21 =>
 ob ((M.ld (plus a2 7)).bind (Value.int? .i64)) fun x22 =>
 ob (acall P T k lo F.zoetroperef00_Clip [.int .i64 (IntKind.i64.wrap (x1 + (shrI .i64 (IntKind.i64.wrap ((IntKind.i64.wrap (8 + x20)) - x3)) 4))), .int .i64 x21, .int .i64 x22] M) fun r23 =>
 ob ((some r23.1).bind (Value.int? .i64)) fun x24 =>
 some (.ret (.int .u8 (IntKind.u8.wrap x24)) r23.2) := by kernel_rfl
theorem zoetroperef23_sample.p500 (k lo : Nat) (x1 : Int) (x2 : Int) (x3 : Int) (x4 : Int) (x5 : Int) (a6 : Addr) (x7 : Int) (M : Mem) : piece P T k lo F.zoetroperef23_sample 500 [.v (.int .i64 x1), .v (.int .i64 x2), .v (.int .i64 x3), .v (.int .i64 x4), .v (.int .i64 x5), .v (.pointer (some a6)), .v (.int .i64 x7)] [] M =
 bb (decide (x7 < 2))
 (bb (Int.tmod x2 2 == 1)
 (some (zoetroperef23_sample.c16019 x1 x2 x3 x4 x5 a6 x7 3 M))
 (some (zoetroperef23_sample.c16019 x1 x2 x3 x4 x5 a6 x7 (IntKind.i64.wrap (4 - (IntKind.i64.wrap (2 * x7)))) M)))
 (ob ((M.ld (plus a6 5)).bind (Value.int? .i64)) fun x19 =>
 bb (decide (x19 < 0))
 (some (zoetroperef23_sample.c255 x5 a6 1 M))
 (some (zoetroperef23_sample.c255 x5 a6 0 M))) := by kernel_rfl
theorem zoetroperef23_sample.p16019 (k lo : Nat) (x1 : Int) (x2 : Int) (x3 : Int) (x4 : Int) (x5 : Int) (a6 : Addr) (x7 : Int) (x8 : Int) (M : Mem) : piece P T k lo F.zoetroperef23_sample 16019 [.v (.int .i64 x1), .v (.int .i64 x2), .v (.int .i64 x3), .v (.int .i64 x4), .v (.int .i64 x5), .v (.pointer (some a6)), .v (.int .i64 x7), .v (.int .i64 x8)] [] M =
 ob (acall P T k lo F.zoetroperef23_steps [.int .i64 x1] M) fun r25 =>
 ob ((some r25.1).bind (Value.agg? 4)) fun l26 =>
 ob ((l26[0]?).bind (Value.int? .i64)) fun x27 =>
 ob ((l26[1]?).bind (Value.int? .i64)) fun x28 =>
 ob ((l26[2]?).bind (Value.int? .i64)) fun x29 =>
 ob ((l26[3]?).bind (Value.int? .i64)) fun x30 =>
 pb (0 ≤ x7 ∧ x7 < (2 : Int))
 (ob ((([.int .i64 x27, .int .i64 x28, .int .i64 x29, .int .i64 x30] : List Value)[x7.toNat * 2 + 0]?).bind (Value.int? .i64)) fun x31 =>
 ob ((([.int .i64 x27, .int .i64 x28, .int .i64 x29, .int .i64 x30] : List Value)[x7.toNat * 2 + 1]?).bind (Value.int? .i64)) fun x32 =>
 ob (acall P T k lo F.zoetroperef23_around_ask [.pointer (some a6), .agg ⟨[.int .i64 x31, .int .i64 x32]⟩, .int .i64 x2, .int .i64 x4, .int .i64 x8] r25.2) fun r33 =>
 ob (r33.1.tup? 0) fun l34 =>
 ob (acall P T k lo F.zoetroperef23_steps [.int .i64 (IntKind.i64.wrap (x1 + 6))] r33.2) fun r35 =>
 ob ((some r35.1).bind (Value.agg? 4)) fun l36 =>
 ob ((l36[0]?).bind (Value.int? .i64)) fun x37 =>
 ob ((l36[1]?).bind (Value.int? .i64)) fun x38 =>
 ob ((l36[2]?).bind (Value.int? .i64)) fun x39 =>
 ob ((l36[3]?).bind (Value.int? .i64)) fun x40 =>
 pb (0 ≤ x7 ∧ x7 < (2 : Int))
 (ob ((([.int .i64 x37, .int .i64 x38, .int .i64 x39, .int .i64 x40] : List Value)[x7.toNat * 2 + 0]?).bind (Value.int? .i64)) fun x41 =>
 ob ((([.int .i64 x37, .int .i64 x38, .int .i64 x39, .int .i64 x40] : List Value)[x7.toNat * 2 + 1]?).bind (Value.int? .i64)) fun x42 =>
 ob (acall P T k lo F.zoetroperef23_around_ask [.pointer (some a6), .agg ⟨[.int .i64 x41, .int .i64 x42]⟩, .int .i64 x3, .int .i64 x4, .int .i64 (IntKind.i64.wrap (2 - x7))] r35.2) fun r43 =>
 ob (r43.1.tup? 0) fun l44 =>
 ob (acall P T k lo F.zoetroperef23_steps [.int .i64 (IntKind.i64.wrap (x1 + 2))] r43.2) fun r45 =>
 ob ((some r45.1).bind (Value.agg? 4)) fun l46 =>
 ob ((l46[0]?).bind (Value.int? .i64)) fun x47 =>
 ob ((l46[1]?).bind (Value.int? .i64)) fun x48 =>
 ob ((l46[2]?).bind (Value.int? .i64)) fun x49 =>
 ob ((l46[3]?).bind (Value.int? .i64)) fun x50 =>
 pb (0 ≤ x7 ∧ x7 < (2 : Int))
 (ob ((([.int .i64 x47, .int .i64 x48, .int .i64 x49, .int .i64 x50] : List Value)[x7.toNat * 2 + 0]?).bind (Value.int? .i64)) fun x51 =>
 ob ((([.int .i64 x47, .int .i64 x48, .int .i64 x49, .int .i64 x50] : List Value)[x7.toNat * 2 + 1]?).bind (Value.int? .i64)) fun x52 =>
 ob (acall P T k lo F.zoetroperef23_around_ask [.pointer (some a6), .agg ⟨[.int .i64 x51, .int .i64 x52]⟩, .int .i64 x3, .int .i64 x4, .int .i64 (IntKind.i64.wrap (2 - x7))] r45.2) fun r53 =>
 ob (r53.1.tup? 0) fun l54 =>
 some (zoetroperef23_sample.c500 x1 x2 x3 x4 x5 a6 (IntKind.i64.wrap (x7 + 1)) r53.2)) none) none) none := by kernel_rfl
theorem plane_sizes.entry (k lo : Nat) (x1 : Int) (x2 : Int) (M : Mem) : entry P T k lo F.plane_sizes [.int .i64 x1, .int .i64 x2] M =
 bb (decide (x1 ≥ 1))
 (bb (decide (x1 ≤ 512))
 (bb (decide (x2 ≥ 1))
 (some (.ret (.bool (decide (x2 ≤ 512))) M))
 (some (.ret (.bool false) M)))
 (some (.ret (.bool false) M)))
 (some (.ret (.bool false) M)) := by kernel_rfl
theorem cdef_may.entry (k lo : Nat) (x1 : Int) (x2 : Int) (A3 : Option Addr) (n4 : Nat) (c5 : Nat) (x6 : Int) (x7 : Int) (A8 : Option Addr) (n9 : Nat) (c10 : Nat) (x11 : Int) (x12 : Int) (A13 : Option Addr) (n14 : Nat) (c15 : Nat) (A16 : Option Addr) (n17 : Nat) (c18 : Nat) (A19 : Option Addr) (n20 : Nat) (c21 : Nat) (b22 : Bool) (x23 : Int) (b24 : Bool) (b25 : Bool) (x26 : Int) (x27 : Int) (x28 : Int) (x29 : Int) (x30 : Int) (x31 : Int) (x32 : Int) (x33 : Int) (x34 : Int) (x35 : Int) (x36 : Int) (x37 : Int) (x38 : Int) (b39 : Bool) (x40 : Int) (x41 : Int) (x42 : Int) (x43 : Int) (x44 : Int) (b45 : Bool) (x46 : Int) (x47 : Int) (A48 : Option Addr) (n49 : Nat) (c50 : Nat) (b51 : Bool) (b52 : Bool) (b53 : Bool) (M : Mem) : entry P T k lo F.cdef_may [.agg ⟨[.int .i64 x1, .int .i64 x2, .slice A3 n4 c5, .int .i64 x6, .int .i64 x7, .slice A8 n9 c10, .int .i64 x11, .int .i64 x12, .slice A13 n14 c15]⟩, .slice A16 n17 c18, .slice A19 n20 c21, .agg ⟨[.bool b22, .int .i64 x23, .bool b24, .bool b25, .int .i64 x26, .int .i64 x27, .int .i64 x28, .int .i64 x29, .int .i64 x30, .int .i64 x31, .int .i64 x32, .int .i64 x33, .int .i64 x34, .int .i64 x35, .int .i64 x36, .int .i64 x37, .int .i64 x38, .bool b39, .int .i64 x40, .int .i64 x41, .int .i64 x42, .int .i64 x43, .int .i64 x44, .bool b45, .int .i64 x46, .int .i64 x47, .slice A48 n49 c50, .bool b51, .bool b52, .bool b53]⟩] M =
 ob (acall P T k lo F.plane_Whole [.agg ⟨[.int .i64 x1, .int .i64 x2, .slice A3 n4 c5, .int .i64 x6, .int .i64 x7, .slice A8 n9 c10, .int .i64 x11, .int .i64 x12, .slice A13 n14 c15]⟩] (M ++ [⟨.fx, [.bool b22, .int .i64 x23, .bool b24, .bool b25, .int .i64 x26, .int .i64 x27, .int .i64 x28, .int .i64 x29, .int .i64 x30, .int .i64 x31, .int .i64 x32, .int .i64 x33, .int .i64 x34, .int .i64 x35, .int .i64 x36, .int .i64 x37, .int .i64 x38, .bool b39, .int .i64 x40, .int .i64 x41, .int .i64 x42, .int .i64 x43, .int .i64 x44, .bool b45, .int .i64 x46, .int .i64 x47, .slice A48 n49 c50, .bool b51, .bool b52, .bool b53]⟩] : Mem)) fun r59 =>
 ob ((some r59.1).bind (Value.int? .i64)) fun x60 =>
 bb (x60 != 0)
 (some (.ret (.bool false) r59.2))
 (bb (Int.tmod x1 8 != 0)
 (some (.ret (.bool false) r59.2))
 (bb (Int.tmod x2 8 != 0)
 (some (.ret (.bool false) r59.2))
 (bb ((n17 : Int) != IntKind.i64.wrap ((IntKind.i64.wrap (Int.tdiv x1 8)) * (IntKind.i64.wrap (Int.tdiv x2 8))))
 (some (.ret (.bool false) r59.2))
 (ob (acall P T k lo F.cdef_may_1 [.int .i64 x1] r59.2) fun r61 =>
 ob ((some r61.1).bind (Value.int? .i64)) fun x62 =>
 ob (acall P T k lo F.cdef_may_1 [.int .i64 x2] r61.2) fun r63 =>
 ob ((some r63.1).bind (Value.int? .i64)) fun x64 =>
 bb ((n20 : Int) != IntKind.i64.wrap (x62 * x64))
 (some (.ret (.bool false) r63.2))
 (ob ((r63.2.ld (plus ⟨M.length, 0, none⟩ 23)).bind Value.bool?) fun b65 =>
 bb (!b65)
 (some (.ret (.bool true) r63.2))
 (ob ((r63.2.ld (plus ⟨M.length, 0, none⟩ 24)).bind (Value.int? .i64)) fun x66 =>
 ob (acall P T k lo F.cdef_within [.int .i64 x66, .int .i64 3, .int .i64 6] r63.2) fun r67 =>
 ob ((some r67.1).bind Value.bool?) fun b68 =>
 bb (!b68)
 (some (.ret (.bool false) r67.2))
 (ob ((r67.2.ld (plus ⟨M.length, 0, none⟩ 26)).bind Value.slc?) fun s69 =>
 ob (acall P T k lo F.cdef_within [.int .i64 (s69.n : Int), .int .i64 1, .int .i64 8] r67.2) fun r70 =>
 ob ((some r70.1).bind Value.bool?) fun b71 =>
 bb (!b71)
 (some (.ret (.bool false) r70.2))
 (ob ((r70.2.ld (plus ⟨M.length, 0, none⟩ 26)).bind Value.slc?) fun s72 =>
 some (cdef_may.c500 A19 n20 c21 ⟨M.length, 0, none⟩ s72.a s72.n s72.c (s72.n : Int) 0 r70.2))))))))) := by kernel_rfl
theorem cdef_may.p500 (k lo : Nat) (A1 : Option Addr) (n2 : Nat) (c3 : Nat) (a4 : Addr) (A5 : Option Addr) (n6 : Nat) (c7 : Nat) (x8 : Int) (x9 : Int) (M : Mem) : piece P T k lo F.cdef_may 500 [.v (.slice A1 n2 c3), .v (.pointer (some a4)), .v (.slice A5 n6 c7), .v (.int .i64 x8), .v (.int .i64 x9)] [] M =
 bb (decide (x9 < x8))
 (pb (0 ≤ x9 ∧ x9 < (n6 : Int))
 (ob A5 fun a73 =>
 ob ((M.ld (plus a73 (x9.toNat * 4))).bind (Value.int? .i64)) fun x74 =>
 ob ((M.ld (plus (plus a73 (x9.toNat * 4)) 1)).bind (Value.int? .i64)) fun x75 =>
 ob ((M.ld (plus (plus a73 (x9.toNat * 4)) 2)).bind (Value.int? .i64)) fun x76 =>
 ob ((M.ld (plus (plus a73 (x9.toNat * 4)) 3)).bind (Value.int? .i64)) fun x77 =>
 ob (acall P T k lo F.cdef_within [.int .i64 x74, .int .i64 0, .int .i64 15] M) fun r78 =>
 ob ((some r78.1).bind Value.bool?) fun b79 =>
 bb (!b79)
 (some (.ret (.bool false) r78.2))
 (ob (acall P T k lo F.cdef_within [.int .i64 x76, .int .i64 0, .int .i64 15] r78.2) fun r80 =>
 ob ((some r80.1).bind Value.bool?) fun b81 =>
 bb (!b81)
 (some (.ret (.bool false) r80.2))
 (ob (acall P T k lo F.cdef_within [.int .i64 x75, .int .i64 0, .int .i64 3] r80.2) fun r82 =>
 ob ((some r82.1).bind Value.bool?) fun b83 =>
 bb (!b83)
 (some (.ret (.bool false) r82.2))
 (ob (acall P T k lo F.cdef_within [.int .i64 x77, .int .i64 0, .int .i64 3] r82.2) fun r84 =>
 ob ((some r84.1).bind Value.bool?) fun b85 =>
 bb (!b85)
 (some (.ret (.bool false) r84.2))
 (some (cdef_may.c500 A1 n2 c3 a4 A5 n6 c7 x8 (IntKind.i64.wrap (x9 + 1)) r84.2)))))) none)
 (ob (acall P T k lo F.slices_ContainsFunc__int_int [.slice A1 n2 c3, .func (.func F.cdef_may_2) ⟨[]⟩ ⟨[.pointer (some a4)]⟩] M) fun r86 =>
 ob ((some r86.1).bind Value.bool?) fun b87 =>
 some (.ret (.bool (!b87)) r86.2)) := by kernel_rfl
theorem slices_Clone__uint8_uint8.entry (k lo : Nat) (A1 : Option Addr) (n2 : Nat) (c3 : Nat) (M : Mem) : entry P T k lo F.slices_Clone__uint8_uint8 [.slice A1 n2 c3] M =
 bb A1.isNone
 (some (.ret (.slice none 0 0) M))
 (ob (Mem.src (M ++ [⟨.fx, []⟩] : Mem) A1 n2 n2) fun l9 =>
 ob ((M ++ [⟨.fx, []⟩] : Mem).app lo 1 1 ⟨some ⟨M.length, 0, none⟩, 0, 0⟩ l9 n2) fun r10 =>
 some (.ret (.slice r10.1.a r10.1.n r10.1.c) r10.2)) := by kernel_rfl
theorem cdef_primary.entry (k lo : Nat) (x1 : Int) (x2 : Int) (M : Mem) : entry P T k lo F.cdef_primary [.int .i64 x1, .int .i64 x2] M =
 bb (x2 == 0)
 (some (.ret (.int .i64 0) M))
 (bb (shrI .i64 x2 6 == 0)
 (some (.ret (.int .i64 (shrI .i64 (IntKind.i64.wrap ((IntKind.i64.wrap (4 * x1)) + 8)) 4)) M))
 (ob (acall P T k lo F.math_bits_Len [.int .u64 (IntKind.u64.wrap (shrI .i64 x2 6))] M) fun r8 =>
 ob ((some r8.1).bind (Value.int? .i64)) fun x9 =>
 some (.ret (.int .i64 (shrI .i64 (IntKind.i64.wrap ((IntKind.i64.wrap (x1 * (IntKind.i64.wrap (4 + (minI (IntKind.i64.wrap (x9 - 1)) 12))))) + 8)) 4)) r8.2))) := by kernel_rfl
theorem cdef_second.entry (k lo : Nat) (x1 : Int) (M : Mem) : entry P T k lo F.cdef_second [.int .i64 x1] M =
 bb (x1 == 3)
 (some (.ret (.int .i64 4) M))
 (some (.ret (.int .i64 x1) M)) := by kernel_rfl
theorem zoetroperef23_may.entry (k lo : Nat) (x1 : Int) (x2 : Int) (A3 : Option Addr) (n4 : Nat) (c5 : Nat) (x6 : Int) (x7 : Int) (A8 : Option Addr) (n9 : Nat) (c10 : Nat) (x11 : Int) (x12 : Int) (A13 : Option Addr) (n14 : Nat) (c15 : Nat) (A16 : Option Addr) (n17 : Nat) (c18 : Nat) (A19 : Option Addr) (n20 : Nat) (c21 : Nat) (b22 : Bool) (x23 : Int) (b24 : Bool) (b25 : Bool) (x26 : Int) (x27 : Int) (x28 : Int) (x29 : Int) (x30 : Int) (x31 : Int) (x32 : Int) (x33 : Int) (x34 : Int) (x35 : Int) (x36 : Int) (x37 : Int) (x38 : Int) (b39 : Bool) (x40 : Int) (x41 : Int) (x42 : Int) (x43 : Int) (x44 : Int) (b45 : Bool) (x46 : Int) (x47 : Int) (A48 : Option Addr) (n49 : Nat) (c50 : Nat) (b51 : Bool) (b52 : Bool) (b53 : Bool) (M : Mem) : entry P T k lo F.zoetroperef23_may [.agg ⟨[.int .i64 x1, .int .i64 x2, .slice A3 n4 c5, .int .i64 x6, .int .i64 x7, .slice A8 n9 c10, .int .i64 x11, .int .i64 x12, .slice A13 n14 c15]⟩, .slice A16 n17 c18, .slice A19 n20 c21, .agg ⟨[.bool b22, .int .i64 x23, .bool b24, .bool b25, .int .i64 x26, .int .i64 x27, .int .i64 x28, .int .i64 x29, .int .i64 x30, .int .i64 x31, .int .i64 x32, .int .i64 x33, .int .i64 x34, .int .i64 x35, .int .i64 x36, .int .i64 x37, .int .i64 x38, .bool b39, .int .i64 x40, .int .i64 x41, .int .i64 x42, .int .i64 x43, .int .i64 x44, .bool b45, .int .i64 x46, .int .i64 x47, .slice A48 n49 c50, .bool b51, .bool b52, .bool b53]⟩] M =
 ob (acall P T k lo F.zoetroperef05_Whole [.agg ⟨[.int .i64 x1, .int .i64 x2, .slice A3 n4 c5, .int .i64 x6, .int .i64 x7, .slice A8 n9 c10, .int .i64 x11, .int .i64 x12, .slice A13 n14 c15]⟩] M) fun r59 =>
 ob ((some r59.1).bind (Value.int? .i64)) fun x60 =>
 bb (x60 != 0)
 (some (.ret (.bool false) r59.2))
 (bb (Int.tmod x1 8 != 0)
 (some (.ret (.bool false) r59.2))
 (bb (Int.tmod x2 8 != 0)
 (some (.ret (.bool false) r59.2))
 (bb ((n17 : Int) != IntKind.i64.wrap ((IntKind.i64.wrap (Int.tdiv x1 8)) * (IntKind.i64.wrap (Int.tdiv x2 8))))
 (some (.ret (.bool false) r59.2))
 (bb ((n20 : Int) != IntKind.i64.wrap ((IntKind.i64.wrap (Int.tdiv (IntKind.i64.wrap (x1 + 63)) 64)) * (IntKind.i64.wrap (Int.tdiv (IntKind.i64.wrap (x2 + 63)) 64))))
 (some (.ret (.bool false) r59.2))
 (bb (!b45)
 (some (.ret (.bool true) r59.2))
 (bb (decide (x46 < 3))
 (some (.ret (.bool false) r59.2))
 (bb (decide (x46 > 6))
 (some (.ret (.bool false) r59.2))
 (bb (decide ((n49 : Int) < 1))
 (some (.ret (.bool false) r59.2))
 (bb (decide ((n49 : Int) > 8))
 (some (.ret (.bool false) r59.2))
 (some (zoetroperef23_may.c2036 A19 n20 c21 0 b22 x23 b24 b25 x26 x27 x28 x29 x30 x31 x32 x33 x34 x35 x36 x37 x38 b39 x40 x41 x42 x43 x44 b45 x46 x47 A48 n49 c50 b51 b52 b53 r59.2))))))))))) := by kernel_rfl
theorem zoetroperef23_may.p2036 (k lo : Nat) (A1 : Option Addr) (n2 : Nat) (c3 : Nat) (x4 : Int) (b5 : Bool) (x6 : Int) (b7 : Bool) (b8 : Bool) (x9 : Int) (x10 : Int) (x11 : Int) (x12 : Int) (x13 : Int) (x14 : Int) (x15 : Int) (x16 : Int) (x17 : Int) (x18 : Int) (x19 : Int) (x20 : Int) (x21 : Int) (b22 : Bool) (x23 : Int) (x24 : Int) (x25 : Int) (x26 : Int) (x27 : Int) (b28 : Bool) (x29 : Int) (x30 : Int) (A31 : Option Addr) (n32 : Nat) (c33 : Nat) (b34 : Bool) (b35 : Bool) (b36 : Bool) (M : Mem) : piece P T k lo F.zoetroperef23_may 2036 [.v (.slice A1 n2 c3), .l 7 0, .v (.int .i64 x4)] [[.bool b5, .int .i64 x6, .bool b7, .bool b8, .int .i64 x9, .int .i64 x10, .int .i64 x11, .int .i64 x12, .int .i64 x13, .int .i64 x14, .int .i64 x15, .int .i64 x16, .int .i64 x17, .int .i64 x18, .int .i64 x19, .int .i64 x20, .int .i64 x21, .bool b22, .int .i64 x23, .int .i64 x24, .int .i64 x25, .int .i64 x26, .int .i64 x27, .bool b28, .int .i64 x29, .int .i64 x30, .slice A31 n32 c33, .bool b34, .bool b35, .bool b36]] M =
 bb (decide (x4 < (n32 : Int)))
 (pb (0 ≤ x4 ∧ x4 < (n32 : Int))
 (ob A31 fun a61 =>
 ob ((M.ld (plus a61 (x4.toNat * 4))).bind (Value.int? .i64)) fun x62 =>
 ob ((M.ld (plus (plus a61 (x4.toNat * 4)) 1)).bind (Value.int? .i64)) fun x63 =>
 ob ((M.ld (plus (plus a61 (x4.toNat * 4)) 2)).bind (Value.int? .i64)) fun x64 =>
 ob ((M.ld (plus (plus a61 (x4.toNat * 4)) 3)).bind (Value.int? .i64)) fun x65 =>
 ob (acall P T k lo F.zoetroperef23_strength [.agg ⟨[.int .i64 x62, .int .i64 x63, .int .i64 x64, .int .i64 x65]⟩] M) fun r66 =>
 ob ((some r66.1).bind Value.bool?) fun b67 =>
 bb (!b67)
 (some (.ret (.bool false) r66.2))
 (some (zoetroperef23_may.c2036 A1 n2 c3 (IntKind.i64.wrap (x4 + 1)) b5 x6 b7 b8 x9 x10 x11 x12 x13 x14 x15 x16 x17 x18 x19 x20 x21 b22 x23 x24 x25 x26 x27 b28 x29 x30 A31 n32 c33 b34 b35 b36 r66.2))) none)
 (some (zoetroperef23_may.c4084 A1 n2 c3 0 b5 x6 b7 b8 x9 x10 x11 x12 x13 x14 x15 x16 x17 x18 x19 x20 x21 b22 x23 x24 x25 x26 x27 b28 x29 x30 A31 n32 c33 b34 b35 b36 M)) := by kernel_rfl
theorem zoetroperef23_may.p4084 (k lo : Nat) (A1 : Option Addr) (n2 : Nat) (c3 : Nat) (x4 : Int) (b5 : Bool) (x6 : Int) (b7 : Bool) (b8 : Bool) (x9 : Int) (x10 : Int) (x11 : Int) (x12 : Int) (x13 : Int) (x14 : Int) (x15 : Int) (x16 : Int) (x17 : Int) (x18 : Int) (x19 : Int) (x20 : Int) (x21 : Int) (b22 : Bool) (x23 : Int) (x24 : Int) (x25 : Int) (x26 : Int) (x27 : Int) (b28 : Bool) (x29 : Int) (x30 : Int) (A31 : Option Addr) (n32 : Nat) (c33 : Nat) (b34 : Bool) (b35 : Bool) (b36 : Bool) (M : Mem) : piece P T k lo F.zoetroperef23_may 4084 [.v (.slice A1 n2 c3), .l 7 0, .v (.int .i64 x4)] [[.bool b5, .int .i64 x6, .bool b7, .bool b8, .int .i64 x9, .int .i64 x10, .int .i64 x11, .int .i64 x12, .int .i64 x13, .int .i64 x14, .int .i64 x15, .int .i64 x16, .int .i64 x17, .int .i64 x18, .int .i64 x19, .int .i64 x20, .int .i64 x21, .bool b22, .int .i64 x23, .int .i64 x24, .int .i64 x25, .int .i64 x26, .int .i64 x27, .bool b28, .int .i64 x29, .int .i64 x30, .slice A31 n32 c33, .bool b34, .bool b35, .bool b36]] M =
 bb (decide (x4 < (n2 : Int)))
 (pb (0 ≤ x4 ∧ x4 < (n2 : Int))
 (ob A1 fun a68 =>
 ob ((M.ld (plus a68 x4.toNat)).bind (Value.int? .i64)) fun x69 =>
 bb (decide (x69 < 0))
 (some (.ret (.bool false) M))
 (pb (0 ≤ x4 ∧ x4 < (n2 : Int))
 (ob A1 fun a70 =>
 ob ((M.ld (plus a70 x4.toNat)).bind (Value.int? .i64)) fun x71 =>
 bb (decide (x71 ≥ (n32 : Int)))
 (some (.ret (.bool false) M))
 (some (zoetroperef23_may.c4084 A1 n2 c3 (IntKind.i64.wrap (x4 + 1)) b5 x6 b7 b8 x9 x10 x11 x12 x13 x14 x15 x16 x17 x18 x19 x20 x21 b22 x23 x24 x25 x26 x27 b28 x29 x30 A31 n32 c33 b34 b35 b36 M))) none)) none)
 (some (.ret (.bool true) M)) := by kernel_rfl
end Go.Zt
