/- What functions come to, from cut to cut. -/
import Derived.Test.YtibbmknipkifeaaEq0
import Derived.KernelRfl
set_option maxRecDepth 100000
set_option maxHeartbeats 4000000
set_option linter.unusedVariables false
namespace Go.Zt
theorem zoetropelaw22_DeblockEdges.entry (k lo : Nat) (A1 : Option Addr) (n2 : Nat) (c3 : Nat) (x4 : Int) (x5 : Int) (x6 : Int) (M : Mem) : entry P T k lo F.zoetropelaw22_DeblockEdges [.slice A1 n2 c3, .int .i64 x4, .agg ⟨[.int .i64 x5, .int .i64 x6]⟩] M =
 ob (acall P T k lo F.zoetroperef00_CopyBytes [.slice A1 n2 c3] M) fun r12 =>
 ob ((some r12.1).bind Value.slc?) fun s13 =>
 ob (acall P T k lo F.deblock_Edge [.slice s13.a s13.n s13.c, .int .i64 x4, .int .i64 x5, .int .i64 x6] r12.2) fun r14 =>
 ob (r14.1.tup? 2) fun l15 =>
 ob ((l15[0]?).bind Value.slc?) fun s16 =>
 ob ((l15[1]?).bind (Value.int? .i64)) fun x17 =>
 ob (acall P T k lo F.zoetroperef22_Edge [.slice A1 n2 c3, .int .i64 x4, .int .i64 x5, .int .i64 x6] r14.2) fun r18 =>
 ob (r18.1.tup? 2) fun l19 =>
 ob ((l19[0]?).bind Value.slc?) fun s20 =>
 ob ((l19[1]?).bind (Value.int? .i64)) fun x21 =>
 bb (x17 != x21)
 (some (.ret (.bool false) r18.2))
 (ob (acall P T k lo F.zoetroperef00_EqBytes [.slice s16.a s16.n s16.c, .slice s20.a s20.n s20.c] r18.2) fun r22 =>
 ob ((some r22.1).bind Value.bool?) fun b23 =>
 bb (!b23)
 (some (.ret (.bool false) r22.2))
 (ob (acall P T k lo F.zoetroperef00_EqBytes [.slice s13.a s13.n s13.c, .slice A1 n2 c3] r22.2) fun r24 =>
 ob ((some r24.1).bind Value.bool?) fun b25 =>
 bb (!b25)
 (some (.ret (.bool false) r24.2))
 (some (zoetropelaw22_DeblockEdges.c1012 A1 n2 c3 s13.a s13.n s13.c s16.a s16.n s16.c 0 r24.2)))) := by kernel_rfl
theorem zoetropelaw22_DeblockEdges.p1012 (k lo : Nat) (A1 : Option Addr) (n2 : Nat) (c3 : Nat) (A4 : Option Addr) (n5 : Nat) (c6 : Nat) (A7 : Option Addr) (n8 : Nat) (c9 : Nat) (x10 : Int) (M : Mem) : piece P T k lo F.zoetropelaw22_DeblockEdges 1012 [.v (.slice A1 n2 c3), .v (.slice A4 n5 c6), .v (.slice A7 n8 c9), .v (.int .i64 x10)] [] M =
 bb (decide (x10 < (n8 : Int)))
 (pb (0 ≤ x10 ∧ x10 < (n8 : Int))
 (ob A7 fun a26 =>
 ob ((M.ld (plus a26 x10.toNat)).bind (Value.int? .u8)) fun x27 =>
 pb (0 ≤ x10 ∧ x10 < (n8 : Int))
 (ob A7 fun a28 =>
 ob (M.st lo (plus a28 x10.toNat) [.int .u8 (xorI .u8 x27 90)]) fun M29 =>
 some (zoetropelaw22_DeblockEdges.c1012 A1 n2 c3 A4 n5 c6 A7 n8 c9 (IntKind.i64.wrap (x10 + 1)) M29)) none) none)
 (ob (acall P T k lo F.zoetroperef00_EqBytes [.slice A4 n5 c6, .slice A1 n2 c3] M) fun r30 =>
 ob ((some r30.1).bind Value.bool?) fun b31 =>
 bb b31
 (ob (acall P T k lo F.zoetropelaw22_awake [] r30.2) fun r32 =>
 ob ((some r32.1).bind Value.bool?) fun b33 =>
 some (.ret (.bool b33) r32.2))
 (some (.ret (.bool false) r30.2))) := by kernel_rfl
theorem zoetropelaw22_DeblockSteps.entry (k lo : Nat) (x1 : Int) (x2 : Int) (x3 : Int) (x4 : Int) (x5 : Int) (M : Mem) : entry P T k lo F.zoetropelaw22_DeblockSteps [.int .u8 x1, .int .u8 x2, .agg ⟨[.int .i64 x3, .int .i64 x4, .int .i64 x5]⟩] M =
 ob (acall P T k lo F.zoetropelaw22_awake [] M) fun r11 =>
 ob ((some r11.1).bind Value.bool?) fun b12 =>
 bb (!b12)
 (some (.ret (.bool false) r11.2))
 (ob (acall P T k lo F.zoetroperef00_Bring [.int .i64 x3, .int .i64 4] (r11.2 ++ [⟨.fx, [.int .i64 4, .int .i64 6, .int .i64 8, .int .i64 14]⟩] : Mem)) fun r13 =>
 ob ((some r13.1).bind (Value.int? .i64)) fun x14 =>
 pb (0 ≤ x14 ∧ x14 < (4 : Int))
 (ob ((r13.2.ld (plus ⟨r11.2.length, 0, none⟩ x14.toNat)).bind (Value.int? .i64)) fun x15 =>
 ob (acall P T k r13.2.length F.zoetroperef00_Bring [.int .i64 x4, .int .i64 64] r13.2) fun r16 =>
 ob ((some r16.1).bind (Value.int? .i64)) fun x17 =>
 ob (acall P T k r13.2.length F.zoetroperef00_Bring [.int .i64 x5, .int .i64 8] r16.2) fun r18 =>
 ob ((some r18.1).bind (Value.int? .i64)) fun x19 =>
 some (zoetropelaw22_DeblockSteps.c1012 x1 x2 x15 x17 x19 none 0 0 0 r18.2)) none) := by kernel_rfl
theorem zoetropelaw22_DeblockSteps.p1012 (k lo : Nat) (x1 : Int) (x2 : Int) (x3 : Int) (x4 : Int) (x5 : Int) (A6 : Option Addr) (n7 : Nat) (c8 : Nat) (x9 : Int) (M : Mem) : piece P T k lo F.zoetropelaw22_DeblockSteps 1012 [.v (.int .u8 x1), .v (.int .u8 x2), .v (.int .i64 x3), .v (.int .i64 x4), .v (.int .i64 x5), .v (.slice A6 n7 c8), .v (.int .i64 x9)] [] M =
 bb (decide (x9 < x3))
 (bb (decide (x9 < IntKind.i64.wrap (Int.tdiv x3 2)))
 (ob (M.app lo 1 1 ⟨A6, n7, c8⟩ ([.int .u8 x1]) 1) fun r20 =>
 some (zoetropelaw22_DeblockSteps.c4051 x1 x2 x3 x4 x5 r20.1.a r20.1.n r20.1.c x9 r20.2))
 (ob (M.app lo 1 1 ⟨A6, n7, c8⟩ ([.int .u8 x2]) 1) fun r21 =>
 some (zoetropelaw22_DeblockSteps.c4051 x1 x2 x3 x4 x5 r21.1.a r21.1.n r21.1.c x9 r21.2)))
 (ob (acall P T k lo F.deblock_Edge [.slice A6 n7 c8, .int .i64 x3, .int .i64 x4, .int .i64 x5] M) fun r22 =>
 ob (r22.1.tup? 2) fun l23 =>
 ob ((l23[0]?).bind Value.slc?) fun s24 =>
 ob ((l23[1]?).bind (Value.int? .i64)) fun x25 =>
 bb (x25 != 0)
 (some (.ret (.bool false) r22.2))
 (bb ((s24.n : Int) != x3)
 (some (.ret (.bool false) r22.2))
 (bb (x4 == 0)
 (ob (acall P T k lo F.zoetroperef00_EqBytes [.slice s24.a s24.n s24.c, .slice A6 n7 c8] r22.2) fun r26 =>
 ob ((some r26.1).bind Value.bool?) fun b27 =>
 some (.ret (.bool b27) r26.2))
 (bb (decide (IntKind.i64.wrap ((IntKind.i64.wrap (2 * (IntKind.i64.wrap (IntKind.u8.wrap ((maxI x1 x2) - (minI x1 x2)))))) + (IntKind.i64.wrap (Int.tdiv (IntKind.i64.wrap (IntKind.u8.wrap ((maxI x1 x2) - (minI x1 x2)))) 2))) > IntKind.i64.wrap ((IntKind.i64.wrap (2 * (IntKind.i64.wrap (x4 + 2)))) + (maxI x4 1))))
 (ob (acall P T k lo F.zoetroperef00_EqBytes [.slice s24.a s24.n s24.c, .slice A6 n7 c8] r22.2) fun r28 =>
 ob ((some r28.1).bind Value.bool?) fun b29 =>
 some (.ret (.bool b29) r28.2))
 (some (zoetropelaw22_DeblockSteps.c32756 x1 x2 x3 s24.a s24.n s24.c 0 r22.2)))))) := by kernel_rfl
theorem zoetropelaw22_DeblockSteps.p4051 (k lo : Nat) (x1 : Int) (x2 : Int) (x3 : Int) (x4 : Int) (x5 : Int) (A6 : Option Addr) (n7 : Nat) (c8 : Nat) (x9 : Int) (M : Mem) : piece P T k lo F.zoetropelaw22_DeblockSteps 4051 [.v (.int .u8 x1), .v (.int .u8 x2), .v (.int .i64 x3), .v (.int .i64 x4), .v (.int .i64 x5), .v (.slice A6 n7 c8), .v (.int .i64 x9)] [] M =
 some (zoetropelaw22_DeblockSteps.c1012 x1 x2 x3 x4 x5 A6 n7 c8 (IntKind.i64.wrap (x9 + 1)) M) := by kernel_rfl
theorem zoetropelaw22_DeblockSteps.p32756 (k lo : Nat) (x1 : Int) (x2 : Int) (x3 : Int) (A4 : Option Addr) (n5 : Nat) (c6 : Nat) (x7 : Int) (M : Mem) : piece P T k lo F.zoetropelaw22_DeblockSteps 32756 [.v (.int .u8 x1), .v (.int .u8 x2), .v (.int .i64 x3), .v (.slice A4 n5 c6), .v (.int .i64 x7)] [] M =
 bb (decide (x7 < x3))
 (pb (0 ≤ x7 ∧ x7 < (n5 : Int))
 (ob A4 fun a30 =>
 ob ((M.ld (plus a30 x7.toNat)).bind (Value.int? .u8)) fun x31 =>
 bb (decide (x31 < (minI x1 x2)))
 (some (.ret (.bool false) M))
 (pb (0 ≤ x7 ∧ x7 < (n5 : Int))
 (ob A4 fun a32 =>
 ob ((M.ld (plus a32 x7.toNat)).bind (Value.int? .u8)) fun x33 =>
 bb (decide (x33 > (maxI x1 x2)))
 (some (.ret (.bool false) M))
 (bb (decide (x7 > 0))
 (pb (0 ≤ IntKind.i64.wrap (x7 - 1) ∧ IntKind.i64.wrap (x7 - 1) < (n5 : Int))
 (ob A4 fun a34 =>
 ob ((M.ld (plus a34 ((IntKind.i64.wrap (x7 - 1)).toNat))).bind (Value.int? .u8)) fun x35 =>
 pb (0 ≤ x7 ∧ x7 < (n5 : Int))
 (ob A4 fun a36 =>
 ob ((M.ld (plus a36 x7.toNat)).bind (Value.int? .u8)) fun x37 =>
 bb (!(decide (x1 ≤ x2) == decide (x35 ≤ x37)))
 (pb (0 ≤ IntKind.i64.wrap (x7 - 1) ∧ IntKind.i64.wrap (x7 - 1) < (n5 : Int))
 (ob A4 fun a38 =>
 ob ((M.ld (plus a38 ((IntKind.i64.wrap (x7 - 1)).toNat))).bind (Value.int? .u8)) fun x39 =>
 pb (0 ≤ x7 ∧ x7 < (n5 : Int))
 (ob A4 fun a40 =>
 ob ((M.ld (plus a40 x7.toNat)).bind (Value.int? .u8)) fun x41 =>
 bb (x39 != x41)
 (some (.ret (.bool false) M))
 (some (zoetropelaw22_DeblockSteps.c32756 x1 x2 x3 A4 n5 c6 (IntKind.i64.wrap (x7 + 1)) M))) none) none)
 (some (zoetropelaw22_DeblockSteps.c32756 x1 x2 x3 A4 n5 c6 (IntKind.i64.wrap (x7 + 1)) M))) none) none)
 (some (zoetropelaw22_DeblockSteps.c32756 x1 x2 x3 A4 n5 c6 (IntKind.i64.wrap (x7 + 1)) M)))) none)) none)
 (some (.ret (.bool true) M)) := by kernel_rfl
theorem zoetropelaw22_DeblockPasses.entry (k lo : Nat) (x1 : Int) (x2 : Int) (A3 : Option Addr) (n4 : Nat) (c5 : Nat) (x6 : Int) (x7 : Int) (A8 : Option Addr) (n9 : Nat) (c10 : Nat) (A11 : Option Addr) (n12 : Nat) (c13 : Nat) (A14 : Option Addr) (n15 : Nat) (c16 : Nat) (b17 : Bool) (b18 : Bool) (x19 : Int) (x20 : Int) (M : Mem) : entry P T k lo F.zoetropelaw22_DeblockPasses [.agg ⟨[.int .i64 x1, .int .i64 x2, .slice A3 n4 c5]⟩, .agg ⟨[.int .i64 x6, .int .i64 x7, .slice A8 n9 c10, .slice A11 n12 c13, .slice A14 n15 c16]⟩, .agg ⟨[.bool b17, .bool b18, .int .i64 x19, .int .i64 x20]⟩] M =
 ob (acall P T k M.length F.zoetroperef00_CopyBytes [.slice A3 n4 c5] M) fun r26 =>
 ob ((some r26.1).bind Value.slc?) fun s27 =>
 ob (acall P T k r26.2.length F.zoetropelaw22_copied [.agg ⟨[.int .i64 x6, .int .i64 x7, .slice A8 n9 c10, .slice A11 n12 c13, .slice A14 n15 c16]⟩] r26.2) fun r28 =>
 ob ((some r28.1).bind (Value.agg? 5)) fun l29 =>
 ob ((l29[0]?).bind (Value.int? .i64)) fun x30 =>
 ob ((l29[1]?).bind (Value.int? .i64)) fun x31 =>
 ob ((l29[2]?).bind Value.slc?) fun s32 =>
 ob ((l29[3]?).bind Value.slc?) fun s33 =>
 ob ((l29[4]?).bind Value.slc?) fun s34 =>
 ob (acall P T k r26.2.length F.deblock_Pass [.agg ⟨[.int .i64 x1, .int .i64 x2, .slice s27.a s27.n s27.c]⟩, .agg ⟨[.int .i64 x30, .int .i64 x31, .slice s32.a s32.n s32.c, .slice s33.a s33.n s33.c, .slice s34.a s34.n s34.c]⟩, .bool b17, .bool b18, .int .i64 x19, .int .i64 x20] r28.2) fun r35 =>
 ob (r35.1.tup? 2) fun l36 =>
 ob ((l36[0]?).bind (Value.agg? 3)) fun l37 =>
 ob ((l37[0]?).bind (Value.int? .i64)) fun x38 =>
 ob ((l37[1]?).bind (Value.int? .i64)) fun x39 =>
 ob ((l37[2]?).bind Value.slc?) fun s40 =>
 ob ((l36[1]?).bind (Value.int? .i64)) fun x41 =>
 ob (acall P T k lo F.zoetroperef22_Pass [.agg ⟨[.int .i64 x1, .int .i64 x2, .slice A3 n4 c5]⟩, .agg ⟨[.int .i64 x6, .int .i64 x7, .slice A8 n9 c10, .slice A11 n12 c13, .slice A14 n15 c16]⟩, .bool b17, .bool b18, .int .i64 x19, .int .i64 x20] r35.2) fun r42 =>
 ob (r42.1.tup? 2) fun l43 =>
 ob ((l43[0]?).bind (Value.agg? 3)) fun l44 =>
 ob ((l44[0]?).bind (Value.int? .i64)) fun x45 =>
 ob ((l44[1]?).bind (Value.int? .i64)) fun x46 =>
 ob ((l44[2]?).bind Value.slc?) fun s47 =>
 ob ((l43[1]?).bind (Value.int? .i64)) fun x48 =>
 bb (x41 != x48)
 (some (.ret (.bool false) r42.2))
 (bb (x38 != x45)
 (some (.ret (.bool false) r42.2))
 (bb (x39 != x46)
 (some (.ret (.bool false) r42.2))
 (ob (acall P T k lo F.zoetroperef00_EqBytes [.slice s40.a s40.n s40.c, .slice s47.a s47.n s47.c] r42.2) fun r49 =>
 ob ((some r49.1).bind Value.bool?) fun b50 =>
 bb (!b50)
 (some (.ret (.bool false) r49.2))
 (ob (acall P T k lo F.zoetroperef00_EqBytes [.slice s27.a s27.n s27.c, .slice A3 n4 c5] r49.2) fun r51 =>
 ob ((some r51.1).bind Value.bool?) fun b52 =>
 bb (!b52)
 (some (.ret (.bool false) r51.2))
 (some (zoetropelaw22_DeblockPasses.c1012 0 x1 x2 A3 n4 c5 x1 x2 s27.a s27.n s27.c x38 x39 s40.a s40.n s40.c r51.2)))))) := by kernel_rfl
theorem zoetropelaw22_DeblockPasses.p1012 (k lo : Nat) (x1 : Int) (x2 : Int) (x3 : Int) (A4 : Option Addr) (n5 : Nat) (c6 : Nat) (x7 : Int) (x8 : Int) (A9 : Option Addr) (n10 : Nat) (c11 : Nat) (x12 : Int) (x13 : Int) (A14 : Option Addr) (n15 : Nat) (c16 : Nat) (M : Mem) : piece P T k lo F.zoetropelaw22_DeblockPasses 1012 [.l 3 0, .l 7 0, .l 8 0, .v (.int .i64 x1)] [[.int .i64 x2, .int .i64 x3, .slice A4 n5 c6], [.int .i64 x7, .int .i64 x8, .slice A9 n10 c11], [.int .i64 x12, .int .i64 x13, .slice A14 n15 c16]] M =
 bb (decide (x1 < (n15 : Int)))
 (pb (0 ≤ x1 ∧ x1 < (n15 : Int))
 (ob A14 fun a53 =>
 ob ((M.ld (plus a53 x1.toNat)).bind (Value.int? .u8)) fun x54 =>
 pb (0 ≤ x1 ∧ x1 < (n15 : Int))
 (ob A14 fun a55 =>
 ob (M.st lo (plus a55 x1.toNat) [.int .u8 (xorI .u8 x54 90)]) fun M56 =>
 some (zoetropelaw22_DeblockPasses.c1012 (IntKind.i64.wrap (x1 + 1)) x2 x3 A4 n5 c6 x7 x8 A9 n10 c11 x12 x13 A14 n15 c16 M56)) none) none)
 (ob (acall P T k lo F.zoetroperef00_EqBytes [.slice A9 n10 c11, .slice A4 n5 c6] M) fun r57 =>
 ob ((some r57.1).bind Value.bool?) fun b58 =>
 bb b58
 (ob (acall P T k lo F.zoetropelaw22_awake [] r57.2) fun r59 =>
 ob ((some r59.1).bind Value.bool?) fun b60 =>
 some (.ret (.bool b60) r59.2))
 (some (.ret (.bool false) r57.2))) := by kernel_rfl
theorem zoetropelaw22_DeblockFar.entry (k lo : Nat) (x1 : Int) (x2 : Int) (A3 : Option Addr) (n4 : Nat) (c5 : Nat) (b6 : Bool) (b7 : Bool) (x8 : Int) (x9 : Int) (M : Mem) : entry P T k lo F.zoetropelaw22_DeblockFar [.agg ⟨[.int .i64 x1, .int .i64 x2]⟩, .slice A3 n4 c5, .agg ⟨[.bool b6, .bool b7, .int .i64 x8, .int .i64 x9]⟩] M =
 ob (acall P T k lo F.zoetropelaw22_awake [] M) fun r15 =>
 ob ((some r15.1).bind Value.bool?) fun b16 =>
 bb (!b16)
 (some (.ret (.bool false) r15.2))
 (ob (acall P T k lo F.zoetropelaw22_fit [.int .i64 x1, .int .i64 x2, .slice A3 n4 c5] r15.2) fun r17 =>
 ob ((some r17.1).bind (Value.agg? 3)) fun l18 =>
 ob ((l18[0]?).bind (Value.int? .i64)) fun x19 =>
 ob ((l18[1]?).bind (Value.int? .i64)) fun x20 =>
 ob ((l18[2]?).bind Value.slc?) fun s21 =>
 ob (acall P T k lo F.zoetroperef00_Bring [.int .i64 x9, .int .i64 3] r17.2) fun r22 =>
 ob ((some r22.1).bind (Value.int? .i64)) fun x23 =>
 pb (x23 < 0) none
 (ob (acall P T k lo F.zoetroperef00_Bring [.int .i64 x8, .int .i64 64] r22.2) fun r24 =>
 ob ((some r24.1).bind (Value.int? .i64)) fun x25 =>
 ob (acall P T k r24.2.length F.zoetropelaw22_cells [.agg ⟨[.int .i64 x19, .int .i64 x20, .slice s21.a s21.n s21.c]⟩, .int .u8 (IntKind.u8.wrap (shlI .i64 (16 : Int) x23.toNat)), .bool false] r24.2) fun r26 =>
 ob ((some r26.1).bind (Value.agg? 5)) fun l27 =>
 ob ((l27[0]?).bind (Value.int? .i64)) fun x28 =>
 ob ((l27[1]?).bind (Value.int? .i64)) fun x29 =>
 ob ((l27[2]?).bind Value.slc?) fun s30 =>
 ob ((l27[3]?).bind Value.slc?) fun s31 =>
 ob ((l27[4]?).bind Value.slc?) fun s32 =>
 ob (acall P T k r24.2.length F.zoetroperef00_Bring [.int .i64 x9, .int .i64 8] r26.2) fun r33 =>
 ob ((some r33.1).bind (Value.int? .i64)) fun x34 =>
 ob (acall P T k r24.2.length F.deblock_Pass [.agg ⟨[.int .i64 x19, .int .i64 x20, .slice s21.a s21.n s21.c]⟩, .agg ⟨[.int .i64 x28, .int .i64 x29, .slice s30.a s30.n s30.c, .slice s31.a s31.n s31.c, .slice s32.a s32.n s32.c]⟩, .bool b6, .bool b7, .int .i64 x25, .int .i64 x34] r33.2) fun r35 =>
 ob (r35.1.tup? 2) fun l36 =>
 ob ((l36[0]?).bind (Value.agg? 3)) fun l37 =>
 ob ((l37[0]?).bind (Value.int? .i64)) fun x38 =>
 ob ((l37[1]?).bind (Value.int? .i64)) fun x39 =>
 ob ((l37[2]?).bind Value.slc?) fun s40 =>
 ob ((l36[1]?).bind (Value.int? .i64)) fun x41 =>
 bb (x41 != 0)
 (some (.ret (.bool false) r35.2))
 (bb (x38 != x19)
 (some (.ret (.bool false) r35.2))
 (bb (x39 != x20)
 (some (.ret (.bool false) r35.2))
 (bb ((s40.n : Int) != (s21.n : Int))
 (some (.ret (.bool false) r35.2))
 (some (zoetropelaw22_DeblockFar.c4084 (shlI .i64 (16 : Int) x23.toNat) x25 0 b6 b7 x8 x9 x19 x20 s21.a s21.n s21.c x38 x39 s40.a s40.n s40.c r35.2))))))) := by kernel_rfl
theorem zoetropelaw22_DeblockFar.p4084 (k lo : Nat) (x1 : Int) (x2 : Int) (x3 : Int) (b4 : Bool) (b5 : Bool) (x6 : Int) (x7 : Int) (x8 : Int) (x9 : Int) (A10 : Option Addr) (n11 : Nat) (c12 : Nat) (x13 : Int) (x14 : Int) (A15 : Option Addr) (n16 : Nat) (c17 : Nat) (M : Mem) : piece P T k lo F.zoetropelaw22_DeblockFar 4084 [.l 5 0, .l 7 0, .v (.int .i64 x1), .v (.int .i64 x2), .l 10 0, .v (.int .i64 x3)] [[.bool b4, .bool b5, .int .i64 x6, .int .i64 x7], [.int .i64 x8, .int .i64 x9, .slice A10 n11 c12], [.int .i64 x13, .int .i64 x14, .slice A15 n16 c17]] M =
 bb (decide (x3 < (n11 : Int)))
 (pb (x8 = 0) none
 (bb (!b4)
 (pb (x8 = 0) none
 (some (zoetropelaw22_DeblockFar.c130707 x1 x2 x3 (IntKind.i64.wrap (Int.tdiv x3 x8)) x9 b4 b5 x6 x7 x8 x9 A10 n11 c12 x13 x14 A15 n16 c17 M)))
 (some (zoetropelaw22_DeblockFar.c130707 x1 x2 x3 (Int.tmod x3 x8) x8 b4 b5 x6 x7 x8 x9 A10 n11 c12 x13 x14 A15 n16 c17 M))))
 (some (.ret (.bool true) M)) := by kernel_rfl
theorem zoetropelaw22_DeblockFar.p130707 (k lo : Nat) (x1 : Int) (x2 : Int) (x3 : Int) (x4 : Int) (x5 : Int) (b6 : Bool) (b7 : Bool) (x8 : Int) (x9 : Int) (x10 : Int) (x11 : Int) (A12 : Option Addr) (n13 : Nat) (c14 : Nat) (x15 : Int) (x16 : Int) (A17 : Option Addr) (n18 : Nat) (c19 : Nat) (M : Mem) : piece P T k lo F.zoetropelaw22_DeblockFar 130707 [.l 5 0, .l 7 0, .v (.int .i64 x1), .v (.int .i64 x2), .l 10 0, .v (.int .i64 x3), .v (.int .i64 x4), .v (.int .i64 x5)] [[.bool b6, .bool b7, .int .i64 x8, .int .i64 x9], [.int .i64 x10, .int .i64 x11, .slice A12 n13 c14], [.int .i64 x15, .int .i64 x16, .slice A17 n18 c19]] M =
 pb (x1 = 0) none
 (bb (decide (Int.tmod x4 x1 < 6))
 (bb (decide (x4 ≥ x1))
 (bb (x2 == 0)
 (pb (0 ≤ x3 ∧ x3 < (n18 : Int))
 (ob A17 fun a42 =>
 ob ((M.ld (plus a42 x3.toNat)).bind (Value.int? .u8)) fun x43 =>
 pb (0 ≤ x3 ∧ x3 < (n13 : Int))
 (ob A12 fun a44 =>
 ob ((M.ld (plus a44 x3.toNat)).bind (Value.int? .u8)) fun x45 =>
 bb (x43 != x45)
 (some (.ret (.bool false) M))
 (some (zoetropelaw22_DeblockFar.c4084 x1 x2 (IntKind.i64.wrap (x3 + 1)) b6 b7 x8 x9 x10 x11 A12 n13 c14 x15 x16 A17 n18 c19 M))) none) none)
 (some (zoetropelaw22_DeblockFar.c4084 x1 x2 (IntKind.i64.wrap (x3 + 1)) b6 b7 x8 x9 x10 x11 A12 n13 c14 x15 x16 A17 n18 c19 M)))
 (pb (x1 = 0) none
 (bb (decide (Int.tmod x4 x1 ≥ IntKind.i64.wrap (x1 - 6)))
 (pb (x1 = 0) none
 (bb (!decide (IntKind.i64.wrap ((IntKind.i64.wrap ((IntKind.i64.wrap (Int.tdiv x4 x1)) * x1)) + x1) < x5))
 (pb (0 ≤ x3 ∧ x3 < (n18 : Int))
 (ob A17 fun a46 =>
 ob ((M.ld (plus a46 x3.toNat)).bind (Value.int? .u8)) fun x47 =>
 pb (0 ≤ x3 ∧ x3 < (n13 : Int))
 (ob A12 fun a48 =>
 ob ((M.ld (plus a48 x3.toNat)).bind (Value.int? .u8)) fun x49 =>
 bb (x47 != x49)
 (some (.ret (.bool false) M))
 (some (zoetropelaw22_DeblockFar.c4084 x1 x2 (IntKind.i64.wrap (x3 + 1)) b6 b7 x8 x9 x10 x11 A12 n13 c14 x15 x16 A17 n18 c19 M))) none) none)
 (bb (x2 == 0)
 (pb (0 ≤ x3 ∧ x3 < (n18 : Int))
 (ob A17 fun a50 =>
 ob ((M.ld (plus a50 x3.toNat)).bind (Value.int? .u8)) fun x51 =>
 pb (0 ≤ x3 ∧ x3 < (n13 : Int))
 (ob A12 fun a52 =>
 ob ((M.ld (plus a52 x3.toNat)).bind (Value.int? .u8)) fun x53 =>
 bb (x51 != x53)
 (some (.ret (.bool false) M))
 (some (zoetropelaw22_DeblockFar.c4084 x1 x2 (IntKind.i64.wrap (x3 + 1)) b6 b7 x8 x9 x10 x11 A12 n13 c14 x15 x16 A17 n18 c19 M))) none) none)
 (some (zoetropelaw22_DeblockFar.c4084 x1 x2 (IntKind.i64.wrap (x3 + 1)) b6 b7 x8 x9 x10 x11 A12 n13 c14 x15 x16 A17 n18 c19 M)))))
 (pb (0 ≤ x3 ∧ x3 < (n18 : Int))
 (ob A17 fun a54 =>
 ob ((M.ld (plus a54 x3.toNat)).bind (Value.int? .u8)) fun x55 =>
 pb (0 ≤ x3 ∧ x3 < (n13 : Int))
 (ob A12 fun a56 =>
 ob ((M.ld (plus a56 x3.toNat)).bind (Value.int? .u8)) fun x57 =>
 bb (x55 != x57)
 (some (.ret (.bool false) M))
 (some (zoetropelaw22_DeblockFar.c4084 x1 x2 (IntKind.i64.wrap (x3 + 1)) b6 b7 x8 x9 x10 x11 A12 n13 c14 x15 x16 A17 n18 c19 M))) none) none))))
 (pb (x1 = 0) none
 (bb (decide (Int.tmod x4 x1 ≥ IntKind.i64.wrap (x1 - 6)))
 (pb (x1 = 0) none
 (bb (!decide (IntKind.i64.wrap ((IntKind.i64.wrap ((IntKind.i64.wrap (Int.tdiv x4 x1)) * x1)) + x1) < x5))
 (pb (0 ≤ x3 ∧ x3 < (n18 : Int))
 (ob A17 fun a58 =>
 ob ((M.ld (plus a58 x3.toNat)).bind (Value.int? .u8)) fun x59 =>
 pb (0 ≤ x3 ∧ x3 < (n13 : Int))
 (ob A12 fun a60 =>
 ob ((M.ld (plus a60 x3.toNat)).bind (Value.int? .u8)) fun x61 =>
 bb (x59 != x61)
 (some (.ret (.bool false) M))
 (some (zoetropelaw22_DeblockFar.c4084 x1 x2 (IntKind.i64.wrap (x3 + 1)) b6 b7 x8 x9 x10 x11 A12 n13 c14 x15 x16 A17 n18 c19 M))) none) none)
 (bb (x2 == 0)
 (pb (0 ≤ x3 ∧ x3 < (n18 : Int))
 (ob A17 fun a62 =>
 ob ((M.ld (plus a62 x3.toNat)).bind (Value.int? .u8)) fun x63 =>
 pb (0 ≤ x3 ∧ x3 < (n13 : Int))
 (ob A12 fun a64 =>
 ob ((M.ld (plus a64 x3.toNat)).bind (Value.int? .u8)) fun x65 =>
 bb (x63 != x65)
 (some (.ret (.bool false) M))
 (some (zoetropelaw22_DeblockFar.c4084 x1 x2 (IntKind.i64.wrap (x3 + 1)) b6 b7 x8 x9 x10 x11 A12 n13 c14 x15 x16 A17 n18 c19 M))) none) none)
 (some (zoetropelaw22_DeblockFar.c4084 x1 x2 (IntKind.i64.wrap (x3 + 1)) b6 b7 x8 x9 x10 x11 A12 n13 c14 x15 x16 A17 n18 c19 M)))))
 (pb (0 ≤ x3 ∧ x3 < (n18 : Int))
 (ob A17 fun a66 =>
 ob ((M.ld (plus a66 x3.toNat)).bind (Value.int? .u8)) fun x67 =>
 pb (0 ≤ x3 ∧ x3 < (n13 : Int))
 (ob A12 fun a68 =>
 ob ((M.ld (plus a68 x3.toNat)).bind (Value.int? .u8)) fun x69 =>
 bb (x67 != x69)
 (some (.ret (.bool false) M))
 (some (zoetropelaw22_DeblockFar.c4084 x1 x2 (IntKind.i64.wrap (x3 + 1)) b6 b7 x8 x9 x10 x11 A12 n13 c14 x15 x16 A17 n18 c19 M))) none) none)))) := by kernel_rfl
theorem zoetropelaw22_DeblockTurned.entry (k lo : Nat) (x1 : Int) (x2 : Int) (A3 : Option Addr) (n4 : Nat) (c5 : Nat) (b6 : Bool) (b7 : Bool) (x8 : Int) (x9 : Int) (M : Mem) : entry P T k lo F.zoetropelaw22_DeblockTurned [.agg ⟨[.int .i64 x1, .int .i64 x2]⟩, .slice A3 n4 c5, .agg ⟨[.bool b6, .bool b7, .int .i64 x8, .int .i64 x9]⟩] M =
 ob (acall P T k lo F.zoetropelaw22_awake [] M) fun r15 =>
 ob ((some r15.1).bind Value.bool?) fun b16 =>
 bb (!b16)
 (some (.ret (.bool false) r15.2))
 (ob (acall P T k lo F.zoetropelaw22_fit [.int .i64 x1, .int .i64 x2, .slice A3 n4 c5] r15.2) fun r17 =>
 ob ((some r17.1).bind (Value.agg? 3)) fun l18 =>
 ob ((l18[0]?).bind (Value.int? .i64)) fun x19 =>
 ob ((l18[1]?).bind (Value.int? .i64)) fun x20 =>
 ob ((l18[2]?).bind Value.slc?) fun s21 =>
 pb (0 ≤ (s21.n : Int) ∧ room ((s21.n : Int).toNat) 1)
 (some (zoetropelaw22_DeblockTurned.c500 0 b6 b7 x8 x9 x19 x20 s21.a s21.n s21.c x20 x19 (some ⟨r17.2.length, 0, none⟩) ((s21.n : Int).toNat) ((s21.n : Int).toNat) (r17.2 ++ [⟨.fx, zerosL [.int .u8 0] ((s21.n : Int).toNat)⟩] : Mem))) none) := by kernel_rfl
theorem zoetropelaw22_DeblockTurned.p500 (k lo : Nat) (x1 : Int) (b2 : Bool) (b3 : Bool) (x4 : Int) (x5 : Int) (x6 : Int) (x7 : Int) (A8 : Option Addr) (n9 : Nat) (c10 : Nat) (x11 : Int) (x12 : Int) (A13 : Option Addr) (n14 : Nat) (c15 : Nat) (M : Mem) : piece P T k lo F.zoetropelaw22_DeblockTurned 500 [.l 5 0, .l 7 0, .l 8 0, .v (.int .i64 x1)] [[.bool b2, .bool b3, .int .i64 x4, .int .i64 x5], [.int .i64 x6, .int .i64 x7, .slice A8 n9 c10], [.int .i64 x11, .int .i64 x12, .slice A13 n14 c15]] M =
 bb (decide (x1 < (n9 : Int)))
 (pb (x6 = 0) none
 (pb (x6 = 0) none
 (pb (0 ≤ x1 ∧ x1 < (n9 : Int))
 (ob A8 fun a22 =>
 ob ((M.ld (plus a22 x1.toNat)).bind (Value.int? .u8)) fun x23 =>
 pb (0 ≤ IntKind.i64.wrap ((IntKind.i64.wrap ((Int.tmod x1 x6) * x11)) + (IntKind.i64.wrap (Int.tdiv x1 x6))) ∧ IntKind.i64.wrap ((IntKind.i64.wrap ((Int.tmod x1 x6) * x11)) + (IntKind.i64.wrap (Int.tdiv x1 x6))) < (n14 : Int))
 (ob A13 fun a24 =>
 ob (M.st lo (plus a24 ((IntKind.i64.wrap ((IntKind.i64.wrap ((Int.tmod x1 x6) * x11)) + (IntKind.i64.wrap (Int.tdiv x1 x6)))).toNat)) [.int .u8 x23]) fun M25 =>
 some (zoetropelaw22_DeblockTurned.c500 (IntKind.i64.wrap (x1 + 1)) b2 b3 x4 x5 x6 x7 A8 n9 c10 x11 x12 A13 n14 c15 M25)) none) none)))
 (ob (acall P T k lo F.zoetroperef00_Bring [.int .i64 x4, .int .i64 5] M) fun r26 =>
 ob ((some r26.1).bind (Value.int? .i64)) fun x27 =>
 pb (x27 < 0) none
 (ob (acall P T k r26.2.length F.zoetroperef00_Bring [.int .i64 x4, .int .i64 64] r26.2) fun r28 =>
 ob ((some r28.1).bind (Value.int? .i64)) fun x29 =>
 ob (acall P T k r26.2.length F.zoetroperef00_Bring [.int .i64 x5, .int .i64 8] r28.2) fun r30 =>
 ob ((some r30.1).bind (Value.int? .i64)) fun x31 =>
 ob (acall P T k r30.2.length F.zoetropelaw22_cells [.agg ⟨[.int .i64 x6, .int .i64 x7, .slice A8 n9 c10]⟩, .int .u8 (shlI .u8 (4 : Int) x27.toNat), .bool false] r30.2) fun r32 =>
 ob ((some r32.1).bind (Value.agg? 5)) fun l33 =>
 ob ((l33[0]?).bind (Value.int? .i64)) fun x34 =>
 ob ((l33[1]?).bind (Value.int? .i64)) fun x35 =>
 ob ((l33[2]?).bind Value.slc?) fun s36 =>
 ob ((l33[3]?).bind Value.slc?) fun s37 =>
 ob ((l33[4]?).bind Value.slc?) fun s38 =>
 ob (acall P T k r30.2.length F.deblock_Pass [.agg ⟨[.int .i64 x6, .int .i64 x7, .slice A8 n9 c10]⟩, .agg ⟨[.int .i64 x34, .int .i64 x35, .slice s36.a s36.n s36.c, .slice s37.a s37.n s37.c, .slice s38.a s38.n s38.c]⟩, .bool true, .bool b3, .int .i64 x29, .int .i64 x31] r32.2) fun r39 =>
 ob (r39.1.tup? 2) fun l40 =>
 ob ((l40[0]?).bind (Value.agg? 3)) fun l41 =>
 ob ((l41[0]?).bind (Value.int? .i64)) fun x42 =>
 ob ((l41[1]?).bind (Value.int? .i64)) fun x43 =>
 ob ((l41[2]?).bind Value.slc?) fun s44 =>
 ob ((l40[1]?).bind (Value.int? .i64)) fun x45 =>
 ob (acall P T k r39.2.length F.zoetropelaw22_cells [.agg ⟨[.int .i64 x11, .int .i64 x12, .slice A13 n14 c15]⟩, .int .u8 (shlI .u8 (4 : Int) x27.toNat), .bool false] r39.2) fun r46 =>
 ob ((some r46.1).bind (Value.agg? 5)) fun l47 =>
 ob ((l47[0]?).bind (Value.int? .i64)) fun x48 =>
 ob ((l47[1]?).bind (Value.int? .i64)) fun x49 =>
 ob ((l47[2]?).bind Value.slc?) fun s50 =>
 ob ((l47[3]?).bind Value.slc?) fun s51 =>
 ob ((l47[4]?).bind Value.slc?) fun s52 =>
 ob (acall P T k r39.2.length F.deblock_Pass [.agg ⟨[.int .i64 x11, .int .i64 x12, .slice A13 n14 c15]⟩, .agg ⟨[.int .i64 x48, .int .i64 x49, .slice s50.a s50.n s50.c, .slice s51.a s51.n s51.c, .slice s52.a s52.n s52.c]⟩, .bool false, .bool b3, .int .i64 x29, .int .i64 x31] r46.2) fun r53 =>
 ob (r53.1.tup? 2) fun l54 =>
 ob ((l54[0]?).bind (Value.agg? 3)) fun l55 =>
 ob ((l55[0]?).bind (Value.int? .i64)) fun x56 =>
 ob ((l55[1]?).bind (Value.int? .i64)) fun x57 =>
 ob ((l55[2]?).bind Value.slc?) fun s58 =>
 ob ((l54[1]?).bind (Value.int? .i64)) fun x59 =>
 bb (x45 != 0)
 (some (.ret (.bool false) r53.2))
 (bb (x59 != 0)
 (some (.ret (.bool false) r53.2))
 (bb ((s44.n : Int) != (n9 : Int))
 (some (.ret (.bool false) r53.2))
 (bb ((s58.n : Int) != (n9 : Int))
 (some (.ret (.bool false) r53.2))
 (some (zoetropelaw22_DeblockTurned.c32756 0 x6 x7 A8 n9 c10 x11 x12 A13 n14 c15 x42 x43 s44.a s44.n s44.c x56 x57 s58.a s58.n s58.c r53.2))))))) := by kernel_rfl
theorem zoetropelaw22_DeblockTurned.p32756 (k lo : Nat) (x1 : Int) (x2 : Int) (x3 : Int) (A4 : Option Addr) (n5 : Nat) (c6 : Nat) (x7 : Int) (x8 : Int) (A9 : Option Addr) (n10 : Nat) (c11 : Nat) (x12 : Int) (x13 : Int) (A14 : Option Addr) (n15 : Nat) (c16 : Nat) (x17 : Int) (x18 : Int) (A19 : Option Addr) (n20 : Nat) (c21 : Nat) (M : Mem) : piece P T k lo F.zoetropelaw22_DeblockTurned 32756 [.l 7 0, .l 8 0, .l 13 0, .l 15 0, .v (.int .i64 x1)] [[.int .i64 x2, .int .i64 x3, .slice A4 n5 c6], [.int .i64 x7, .int .i64 x8, .slice A9 n10 c11], [.int .i64 x12, .int .i64 x13, .slice A14 n15 c16], [.int .i64 x17, .int .i64 x18, .slice A19 n20 c21]] M =
 bb (decide (x1 < (n5 : Int)))
 (pb (x2 = 0) none
 (pb (x2 = 0) none
 (pb (0 ≤ IntKind.i64.wrap ((IntKind.i64.wrap ((Int.tmod x1 x2) * x7)) + (IntKind.i64.wrap (Int.tdiv x1 x2))) ∧ IntKind.i64.wrap ((IntKind.i64.wrap ((Int.tmod x1 x2) * x7)) + (IntKind.i64.wrap (Int.tdiv x1 x2))) < (n20 : Int))
 (ob A19 fun a60 =>
 ob ((M.ld (plus a60 ((IntKind.i64.wrap ((IntKind.i64.wrap ((Int.tmod x1 x2) * x7)) + (IntKind.i64.wrap (Int.tdiv x1 x2)))).toNat))).bind (Value.int? .u8)) fun x61 =>
 pb (0 ≤ x1 ∧ x1 < (n15 : Int))
 (ob A14 fun a62 =>
 ob ((M.ld (plus a62 x1.toNat)).bind (Value.int? .u8)) fun x63 =>
 bb (x61 != x63)
 (some (.ret (.bool false) M))
 (some (zoetropelaw22_DeblockTurned.c32756 (IntKind.i64.wrap (x1 + 1)) x2 x3 A4 n5 c6 x7 x8 A9 n10 c11 x12 x13 A14 n15 c16 x17 x18 A19 n20 c21 M))) none) none)))
 (some (.ret (.bool true) M)) := by kernel_rfl
theorem zoetropelaw22_DeblockNames.entry (k lo : Nat) (M : Mem) : entry P T k lo F.zoetropelaw22_DeblockNames [] M =
 pb (0 ≤ (14 : Int) ∧ room 14 1)
 (some (zoetropelaw22_DeblockNames.c116 (some ⟨M.length, 0, none⟩) 14 14 7 (M ++ [⟨.fx, zerosL [.int .u8 0] 14⟩] : Mem))) none := by kernel_rfl
theorem zoetropelaw22_DeblockNames.p116 (k lo : Nat) (A1 : Option Addr) (n2 : Nat) (c3 : Nat) (x4 : Int) (M : Mem) : piece P T k lo F.zoetropelaw22_DeblockNames 116 [.v (.slice A1 n2 c3), .v (.int .i64 x4)] [] M =
 bb (decide (x4 < 14))
 (pb (0 ≤ x4 ∧ x4 < (n2 : Int))
 (ob A1 fun a6 =>
 ob (M.st lo (plus a6 x4.toNat) [.int .u8 16]) fun M7 =>
 some (zoetropelaw22_DeblockNames.c116 A1 n2 c3 (IntKind.i64.wrap (x4 + 1)) M7)) none)
 (ob (acall P T k lo F.deblock_Edge [.slice A1 n2 c3, .int .i64 14, .int .i64 63, .int .i64 0] M) fun r8 =>
 ob (r8.1.tup? 2) fun l9 =>
 ob ((l9[0]?).bind Value.slc?) fun s10 =>
 ob ((l9[1]?).bind (Value.int? .i64)) fun x11 =>
 ob (acall P T k lo F.deblock_Edge [.slice (some ⟨r8.2.length, 0, none⟩) 6 6, .int .i64 6, .int .i64 63, .int .i64 0] (r8.2 ++ [⟨.fx, [.int .u8 8, .int .u8 8, .int .u8 8, .int .u8 12, .int .u8 12, .int .u8 12]⟩] : Mem)) fun r12 =>
 ob (r12.1.tup? 2) fun l13 =>
 ob ((l13[0]?).bind Value.slc?) fun s14 =>
 ob ((l13[1]?).bind (Value.int? .i64)) fun x15 =>
 bb (x11 != 0)
 (some (.ret (.bool false) r12.2))
 (bb (x15 != 0)
 (some (.ret (.bool false) r12.2))
 (ob (acall P T k lo F.zoetroperef00_EqBytes [.slice s10.a s10.n s10.c, .slice (some ⟨r12.2.length, 0, none⟩) 14 14] (r12.2 ++ [⟨.fx, [.int .u8 0, .int .u8 1, .int .u8 2, .int .u8 3, .int .u8 4, .int .u8 5, .int .u8 7, .int .u8 9, .int .u8 11, .int .u8 12, .int .u8 13, .int .u8 14, .int .u8 15, .int .u8 16]⟩] : Mem)) fun r16 =>
 ob ((some r16.1).bind Value.bool?) fun b17 =>
 bb (!b17)
 (some (.ret (.bool false) r16.2))
 (ob (acall P T k lo F.zoetroperef00_EqBytes [.slice s14.a s14.n s14.c, .slice (some ⟨r16.2.length, 0, none⟩) 6 6] (r16.2 ++ [⟨.fx, [.int .u8 8, .int .u8 9, .int .u8 10, .int .u8 11, .int .u8 12, .int .u8 12]⟩] : Mem)) fun r18 =>
 ob ((some r18.1).bind Value.bool?) fun b19 =>
 bb (!b19)
 (some (.ret (.bool false) r18.2))
 (some (zoetropelaw22_DeblockNames.c2036 A1 n2 c3 (-1) r18.2)))))) := by kernel_rfl
theorem zoetropelaw22_DeblockNames.p2036 (k lo : Nat) (A1 : Option Addr) (n2 : Nat) (c3 : Nat) (x4 : Int) (M : Mem) : piece P T k lo F.zoetropelaw22_DeblockNames 2036 [.v (.slice A1 n2 c3), .v (.int .i64 x4)] [] M =
 bb (decide (x4 < 66))
 (pb (0 ≤ (3 : Int) ∧ (3 : Int) ≤ 11 ∧ (11 : Int) ≤ (c3 : Int))
 (ob (acall P T k lo F.zoetropelaw22_DeblockEdges [.slice (slAddr 1 A1 3 c3) 8 (c3 - 3), .int .i64 8, .agg ⟨[.int .i64 x4, .int .i64 0]⟩] M) fun r20 =>
 ob ((some r20.1).bind Value.bool?) fun b21 =>
 bb (!b21)
 (some (.ret (.bool false) r20.2))
 (pb (0 ≤ (5 : Int) ∧ (5 : Int) ≤ 9 ∧ (9 : Int) ≤ (c3 : Int))
 (ob (acall P T k lo F.zoetropelaw22_DeblockEdges [.slice (slAddr 1 A1 5 c3) 4 (c3 - 5), .int .i64 x4, .agg ⟨[.int .i64 9, .int .i64 (IntKind.i64.wrap (9 - x4))]⟩] r20.2) fun r22 =>
 ob ((some r22.1).bind Value.bool?) fun b23 =>
 bb (!b23)
 (some (.ret (.bool false) r22.2))
 (ob (acall P T k lo F.zoetropelaw22_DeblockEdges [.slice (some ⟨r22.2.length, 0, none⟩) 4 4, .int .i64 4, .agg ⟨[.int .i64 x4, .int .i64 (Int.tmod x4 8)]⟩] (r22.2 ++ [⟨.fx, [.int .u8 1, .int .u8 2, .int .u8 250, .int .u8 9]⟩] : Mem)) fun r24 =>
 ob ((some r24.1).bind Value.bool?) fun b25 =>
 bb (!b25)
 (some (.ret (.bool false) r24.2))
 (some (zoetropelaw22_DeblockNames.c2036 A1 n2 c3 (IntKind.i64.wrap (x4 + 1)) r24.2)))) none)) none)
 (some (zoetropelaw22_DeblockNames.c4084 A1 n2 c3 0 M)) := by kernel_rfl
theorem zoetropelaw22_DeblockNames.p4084 (k lo : Nat) (A1 : Option Addr) (n2 : Nat) (c3 : Nat) (x4 : Int) (M : Mem) : piece P T k lo F.zoetropelaw22_DeblockNames 4084 [.v (.slice A1 n2 c3), .v (.int .i64 x4)] [] M =
 bb (decide (x4 < 14))
 (ob (acall P T k lo F.zoetroperef00_CopyBytes [.slice A1 n2 c3] M) fun r26 =>
 ob ((some r26.1).bind Value.slc?) fun s27 =>
 pb (0 ≤ x4 ∧ x4 < (s27.n : Int))
 (ob s27.a fun a28 =>
 ob ((r26.2.ld (plus a28 x4.toNat)).bind (Value.int? .u8)) fun x29 =>
 pb (0 ≤ x4 ∧ x4 < (s27.n : Int))
 (ob s27.a fun a30 =>
 ob (r26.2.st lo (plus a30 x4.toNat) [.int .u8 (IntKind.u8.wrap (x29 + 2))]) fun M31 =>
 ob (acall P T k lo F.zoetropelaw22_DeblockEdges [.slice s27.a s27.n s27.c, .int .i64 14, .agg ⟨[.int .i64 63, .int .i64 0]⟩] M31) fun r32 =>
 ob ((some r32.1).bind Value.bool?) fun b33 =>
 bb (!b33)
 (some (.ret (.bool false) r32.2))
 (pb (0 ≤ (3 : Int) ∧ (3 : Int) ≤ 11 ∧ (11 : Int) ≤ (s27.c : Int))
 (ob (acall P T k lo F.zoetropelaw22_DeblockEdges [.slice (slAddr 1 s27.a 3 s27.c) 8 (s27.c - 3), .int .i64 8, .agg ⟨[.int .i64 63, .int .i64 0]⟩] r32.2) fun r34 =>
 ob ((some r34.1).bind Value.bool?) fun b35 =>
 bb (!b35)
 (some (.ret (.bool false) r34.2))
 (some (zoetropelaw22_DeblockNames.c4084 A1 n2 c3 (IntKind.i64.wrap (x4 + 1)) r34.2))) none)) none) none)
 (ob (acall P T k lo F.zoetropelaw22_fit [.int .i64 7, .int .i64 0, .slice none 0 0] M) fun r36 =>
 ob ((some r36.1).bind (Value.agg? 3)) fun l37 =>
 ob ((l37[0]?).bind (Value.int? .i64)) fun x38 =>
 ob ((l37[1]?).bind (Value.int? .i64)) fun x39 =>
 ob ((l37[2]?).bind Value.slc?) fun s40 =>
 some (zoetropelaw22_DeblockNames.c16372 0 x38 x39 s40.a s40.n s40.c r36.2)) := by kernel_rfl
theorem zoetropelaw22_DeblockNames.p16372 (k lo : Nat) (x1 : Int) (x2 : Int) (x3 : Int) (A4 : Option Addr) (n5 : Nat) (c6 : Nat) (M : Mem) : piece P T k lo F.zoetropelaw22_DeblockNames 16372 [.l 10 0, .v (.int .i64 x1)] [[.int .i64 x2, .int .i64 x3, .slice A4 n5 c6]] M =
 bb (decide (x1 < (n5 : Int)))
 (pb (x2 = 0) none
 (pb (0 ≤ x1 ∧ x1 < (n5 : Int))
 (ob A4 fun a41 =>
 ob (M.st lo (plus a41 x1.toNat) [.int .u8 (IntKind.u8.wrap (IntKind.i64.wrap ((IntKind.i64.wrap (Int.tdiv (Int.tmod x1 x2) 16)) * 16)))]) fun M42 =>
 some (zoetropelaw22_DeblockNames.c16372 (IntKind.i64.wrap (x1 + 1)) x2 x3 A4 n5 c6 M42)) none))
 (ob (acall P T k M.length F.zoetropelaw22_cells [.agg ⟨[.int .i64 x2, .int .i64 x3, .slice A4 n5 c6]⟩, .int .u8 16, .bool false] M) fun r43 =>
 ob ((some r43.1).bind (Value.agg? 5)) fun l44 =>
 ob ((l44[0]?).bind (Value.int? .i64)) fun x45 =>
 ob ((l44[1]?).bind (Value.int? .i64)) fun x46 =>
 ob ((l44[2]?).bind Value.slc?) fun s47 =>
 ob ((l44[3]?).bind Value.slc?) fun s48 =>
 ob ((l44[4]?).bind Value.slc?) fun s49 =>
 ob (acall P T k M.length F.zoetropelaw22_DeblockPasses [.agg ⟨[.int .i64 x2, .int .i64 x3, .slice A4 n5 c6]⟩, .agg ⟨[.int .i64 x45, .int .i64 x46, .slice s47.a s47.n s47.c, .slice s48.a s48.n s48.c, .slice s49.a s49.n s49.c]⟩, .agg ⟨[.bool true, .bool false, .int .i64 63, .int .i64 0]⟩] r43.2) fun r50 =>
 ob ((some r50.1).bind Value.bool?) fun b51 =>
 bb (!b51)
 (some (.ret (.bool false) r50.2))
 (ob (acall P T k M.length F.zoetropelaw22_cells [.agg ⟨[.int .i64 x2, .int .i64 x3, .slice A4 n5 c6]⟩, .int .u8 8, .bool false] r50.2) fun r52 =>
 ob ((some r52.1).bind (Value.agg? 5)) fun l53 =>
 ob ((l53[0]?).bind (Value.int? .i64)) fun x54 =>
 ob ((l53[1]?).bind (Value.int? .i64)) fun x55 =>
 ob ((l53[2]?).bind Value.slc?) fun s56 =>
 ob ((l53[3]?).bind Value.slc?) fun s57 =>
 ob ((l53[4]?).bind Value.slc?) fun s58 =>
 ob (acall P T k M.length F.zoetropelaw22_DeblockPasses [.agg ⟨[.int .i64 x2, .int .i64 x3, .slice A4 n5 c6]⟩, .agg ⟨[.int .i64 x54, .int .i64 x55, .slice s56.a s56.n s56.c, .slice s57.a s57.n s57.c, .slice s58.a s58.n s58.c]⟩, .agg ⟨[.bool true, .bool false, .int .i64 63, .int .i64 0]⟩] r52.2) fun r59 =>
 ob ((some r59.1).bind Value.bool?) fun b60 =>
 bb (!b60)
 (some (.ret (.bool false) r59.2))
 (ob (acall P T k M.length F.zoetropelaw22_cells [.agg ⟨[.int .i64 x2, .int .i64 x3, .slice A4 n5 c6]⟩, .int .u8 16, .bool false] r59.2) fun r61 =>
 ob ((some r61.1).bind (Value.agg? 5)) fun l62 =>
 ob ((l62[0]?).bind (Value.int? .i64)) fun x63 =>
 ob ((l62[1]?).bind (Value.int? .i64)) fun x64 =>
 ob ((l62[2]?).bind Value.slc?) fun s65 =>
 ob ((l62[3]?).bind Value.slc?) fun s66 =>
 ob ((l62[4]?).bind Value.slc?) fun s67 =>
 ob (acall P T k M.length F.zoetropelaw22_DeblockPasses [.agg ⟨[.int .i64 x2, .int .i64 x3, .slice A4 n5 c6]⟩, .agg ⟨[.int .i64 x63, .int .i64 x64, .slice s65.a s65.n s65.c, .slice s66.a s66.n s66.c, .slice s67.a s67.n s67.c]⟩, .agg ⟨[.bool true, .bool true, .int .i64 63, .int .i64 0]⟩] r61.2) fun r68 =>
 ob ((some r68.1).bind Value.bool?) fun b69 =>
 bb (!b69)
 (some (.ret (.bool false) r68.2))
 (ob (acall P T k lo F.zoetropelaw22_fit [.int .i64 1, .int .i64 1, .slice (some ⟨r68.2.length, 0, none⟩) 3 3] (r68.2 ++ [⟨.fx, [.int .u8 1, .int .u8 5, .int .u8 9]⟩] : Mem)) fun r70 =>
 ob ((some r70.1).bind (Value.agg? 3)) fun l71 =>
 ob ((l71[0]?).bind (Value.int? .i64)) fun x72 =>
 ob ((l71[1]?).bind (Value.int? .i64)) fun x73 =>
 ob ((l71[2]?).bind Value.slc?) fun s74 =>
 ob (acall P T k lo F.zoetropelaw22_cells [.agg ⟨[.int .i64 x72, .int .i64 x73, .slice s74.a s74.n s74.c]⟩, .int .u8 4, .bool false] r70.2) fun r75 =>
 ob ((some r75.1).bind (Value.agg? 5)) fun l76 =>
 ob ((l76[0]?).bind (Value.int? .i64)) fun x77 =>
 ob ((l76[1]?).bind (Value.int? .i64)) fun x78 =>
 ob ((l76[2]?).bind Value.slc?) fun s79 =>
 ob ((l76[3]?).bind Value.slc?) fun s80 =>
 ob ((l76[4]?).bind Value.slc?) fun s81 =>
 pb (0 ≤ (0 : Int) ∧ (0 : Int) ≤ 3 ∧ (3 : Int) ≤ (s79.c : Int))
 (pb (0 ≤ (0 : Int) ∧ (0 : Int) ≤ 3 ∧ (3 : Int) ≤ (s80.c : Int))
 (pb (0 ≤ (0 : Int) ∧ (0 : Int) ≤ 3 ∧ (3 : Int) ≤ (s81.c : Int))
 (ob (Mem.fill (r75.2 ++ [⟨.op 0, []⟩, ⟨.op 0, []⟩] : Mem) r75.2.length r75.2.length 1 ([.int .u8 4, .int .u8 4, .int .u8 5, .int .u8 4])) fun r82 =>
 ob (Mem.fill r82.2 r75.2.length (r75.2.length + 1) 1 ([.int .u8 64, .int .u8 64, .int .u8 64, .int .u8 64])) fun r83 =>
 some (zoetropelaw22_DeblockNames.c524276 (some ⟨r83.2.length, 0, none⟩) 8 8 0 x72 x73 s74.a s74.n s74.c (r83.2 ++ [⟨.fx, [.int .i64 x77, .int .i64 x78, .slice s79.a s79.n s79.c, .slice s80.a s80.n s80.c, .slice s81.a s81.n s81.c, .int .i64 0, .int .i64 0, .slice none 0 0, .slice none 0 0, .slice none 0 0, .int .i64 2, .int .i64 2, .slice (slAddr 1 s79.a 0 s79.c) 3 (s79.c - 0), .slice s80.a s80.n s80.c, .slice s81.a s81.n s81.c, .int .i64 2, .int .i64 2, .slice s79.a s79.n s79.c, .slice (slAddr 1 s80.a 0 s80.c) 3 (s80.c - 0), .slice s81.a s81.n s81.c, .int .i64 2, .int .i64 2, .slice s79.a s79.n s79.c, .slice s80.a s80.n s80.c, .slice (slAddr 1 s81.a 0 s81.c) 3 (s81.c - 0), .int .i64 2, .int .i64 2, .slice (some r82.1) 4 4, .slice s80.a s80.n s80.c, .slice s81.a s81.n s81.c, .int .i64 4, .int .i64 1, .slice s79.a s79.n s79.c, .slice s80.a s80.n s80.c, .slice s81.a s81.n s81.c, .int .i64 2, .int .i64 2, .slice (some r83.1) 4 4, .slice s80.a s80.n s80.c, .slice s81.a s81.n s81.c]⟩] : Mem))) none) none) none)))) := by kernel_rfl
theorem zoetropelaw22_DeblockNames.p524276 (k lo : Nat) (A1 : Option Addr) (n2 : Nat) (c3 : Nat) (x4 : Int) (x5 : Int) (x6 : Int) (A7 : Option Addr) (n8 : Nat) (c9 : Nat) (M : Mem) : piece P T k lo F.zoetropelaw22_DeblockNames 524276 [.l 12 0, .v (.slice A1 n2 c3), .v (.int .i64 x4)] [[.int .i64 x5, .int .i64 x6, .slice A7 n8 c9]] M =
 bb (decide (x4 < (n2 : Int)))
 (pb (0 ≤ x4 ∧ x4 < (n2 : Int))
 (ob A1 fun a84 =>
 ob ((M.ld (plus a84 (x4.toNat * 5))).bind (Value.int? .i64)) fun x85 =>
 ob ((M.ld (plus (plus a84 (x4.toNat * 5)) 1)).bind (Value.int? .i64)) fun x86 =>
 ob ((M.ld (plus (plus a84 (x4.toNat * 5)) 2)).bind Value.slc?) fun s87 =>
 ob ((M.ld (plus (plus a84 (x4.toNat * 5)) 3)).bind Value.slc?) fun s88 =>
 ob ((M.ld (plus (plus a84 (x4.toNat * 5)) 4)).bind Value.slc?) fun s89 =>
 ob (acall P T k M.length F.zoetropelaw22_DeblockPasses [.agg ⟨[.int .i64 x5, .int .i64 x6, .slice A7 n8 c9]⟩, .agg ⟨[.int .i64 x85, .int .i64 x86, .slice s87.a s87.n s87.c, .slice s88.a s88.n s88.c, .slice s89.a s89.n s89.c]⟩, .agg ⟨[.bool true, .bool false, .int .i64 40, .int .i64 0]⟩] M) fun r90 =>
 ob ((some r90.1).bind Value.bool?) fun b91 =>
 bb (!b91)
 (some (.ret (.bool false) r90.2))
 (pb (0 ≤ x4 ∧ x4 < (n2 : Int))
 (ob A1 fun a92 =>
 ob ((r90.2.ld (plus a92 (x4.toNat * 5))).bind (Value.int? .i64)) fun x93 =>
 ob ((r90.2.ld (plus (plus a92 (x4.toNat * 5)) 1)).bind (Value.int? .i64)) fun x94 =>
 ob ((r90.2.ld (plus (plus a92 (x4.toNat * 5)) 2)).bind Value.slc?) fun s95 =>
 ob ((r90.2.ld (plus (plus a92 (x4.toNat * 5)) 3)).bind Value.slc?) fun s96 =>
 ob ((r90.2.ld (plus (plus a92 (x4.toNat * 5)) 4)).bind Value.slc?) fun s97 =>
 ob (acall P T k M.length F.zoetropelaw22_DeblockPasses [.agg ⟨[.int .i64 x5, .int .i64 x6, .slice A7 n8 c9]⟩, .agg ⟨[.int .i64 x93, .int .i64 x94, .slice s95.a s95.n s95.c, .slice s96.a s96.n s96.c, .slice s97.a s97.n s97.c]⟩, .agg ⟨[.bool false, .bool false, .int .i64 64, .int .i64 0]⟩] r90.2) fun r98 =>
 ob ((some r98.1).bind Value.bool?) fun b99 =>
 bb (!b99)
 (some (.ret (.bool false) r98.2))
 (pb (0 ≤ (24 : Int) ∧ room 24 1)
 (pb (0 ≤ x4 ∧ x4 < (n2 : Int))
 (ob A1 fun a100 =>
 ob ((if ((plus a100 (x4.toNat * 5)).block) < M.length then (r98.2 ++ [⟨.fx, zerosL [.int .u8 0] 24⟩] : Mem).ld (plus a100 (x4.toNat * 5)) else none).bind (Value.int? .i64)) fun x101 =>
 ob ((if ((plus a100 (x4.toNat * 5)).block) < M.length then (r98.2 ++ [⟨.fx, zerosL [.int .u8 0] 24⟩] : Mem).ld (plus (plus a100 (x4.toNat * 5)) 1) else none).bind (Value.int? .i64)) fun x102 =>
 ob ((if ((plus a100 (x4.toNat * 5)).block) < M.length then (r98.2 ++ [⟨.fx, zerosL [.int .u8 0] 24⟩] : Mem).ld (plus (plus a100 (x4.toNat * 5)) 2) else none).bind Value.slc?) fun s103 =>
 ob ((if ((plus a100 (x4.toNat * 5)).block) < M.length then (r98.2 ++ [⟨.fx, zerosL [.int .u8 0] 24⟩] : Mem).ld (plus (plus a100 (x4.toNat * 5)) 3) else none).bind Value.slc?) fun s104 =>
 ob ((if ((plus a100 (x4.toNat * 5)).block) < M.length then (r98.2 ++ [⟨.fx, zerosL [.int .u8 0] 24⟩] : Mem).ld (plus (plus a100 (x4.toNat * 5)) 4) else none).bind Value.slc?) fun s105 =>
 ob (acall P T k M.length F.zoetropelaw22_DeblockPasses [.agg ⟨[.int .i64 6, .int .i64 4, .slice (some ⟨r98.2.length, 0, none⟩) 24 24]⟩, .agg ⟨[.int .i64 x101, .int .i64 x102, .slice s103.a s103.n s103.c, .slice s104.a s104.n s104.c, .slice s105.a s105.n s105.c]⟩, .agg ⟨[.bool false, .bool false, .int .i64 0, .int .i64 0]⟩] (r98.2 ++ [⟨.fx, zerosL [.int .u8 0] 24⟩] : Mem)) fun r106 =>
 ob ((some r106.1).bind Value.bool?) fun b107 =>
 bb (!b107)
 (some (.ret (.bool false) r106.2))
 (pb (0 ≤ x4 ∧ x4 < (n2 : Int))
 (ob A1 fun a108 =>
 ob ((r106.2.ld (plus a108 (x4.toNat * 5))).bind (Value.int? .i64)) fun x109 =>
 ob ((r106.2.ld (plus (plus a108 (x4.toNat * 5)) 1)).bind (Value.int? .i64)) fun x110 =>
 ob ((r106.2.ld (plus (plus a108 (x4.toNat * 5)) 2)).bind Value.slc?) fun s111 =>
 ob ((r106.2.ld (plus (plus a108 (x4.toNat * 5)) 3)).bind Value.slc?) fun s112 =>
 ob ((r106.2.ld (plus (plus a108 (x4.toNat * 5)) 4)).bind Value.slc?) fun s113 =>
 ob (acall P T k M.length F.zoetropelaw22_DeblockPasses [.agg ⟨[.int .i64 0, .int .i64 0, .slice none 0 0]⟩, .agg ⟨[.int .i64 x109, .int .i64 x110, .slice s111.a s111.n s111.c, .slice s112.a s112.n s112.c, .slice s113.a s113.n s113.c]⟩, .agg ⟨[.bool false, .bool false, .int .i64 0, .int .i64 8]⟩] r106.2) fun r114 =>
 ob ((some r114.1).bind Value.bool?) fun b115 =>
 bb (!b115)
 (some (.ret (.bool false) r114.2))
 (some (zoetropelaw22_DeblockNames.c524276 A1 n2 c3 (IntKind.i64.wrap (x4 + 1)) x5 x6 A7 n8 c9 r114.2))) none)) none) none)) none)) none)
 (ob (acall P T k lo F.zoetropelaw22_awake [] M) fun r116 =>
 ob ((some r116.1).bind Value.bool?) fun b117 =>
 some (.ret (.bool b117) r116.2)) := by kernel_rfl
theorem zoetropelaw22_DeblockQuiet.entry (k lo : Nat) (x1 : Int) (x2 : Int) (A3 : Option Addr) (n4 : Nat) (c5 : Nat) (b6 : Bool) (b7 : Bool) (x8 : Int) (x9 : Int) (M : Mem) : entry P T k lo F.zoetropelaw22_DeblockQuiet [.agg ⟨[.int .i64 x1, .int .i64 x2]⟩, .slice A3 n4 c5, .agg ⟨[.bool b6, .bool b7, .int .i64 x8, .int .i64 x9]⟩] M =
 ob (acall P T k lo F.zoetropelaw22_awake [] M) fun r15 =>
 ob ((some r15.1).bind Value.bool?) fun b16 =>
 bb (!b16)
 (some (.ret (.bool false) r15.2))
 (ob (acall P T k lo F.zoetropelaw22_fit [.int .i64 x1, .int .i64 x2, .slice A3 n4 c5] r15.2) fun r17 =>
 ob ((some r17.1).bind (Value.agg? 3)) fun l18 =>
 ob ((l18[0]?).bind (Value.int? .i64)) fun x19 =>
 ob ((l18[1]?).bind (Value.int? .i64)) fun x20 =>
 ob ((l18[2]?).bind Value.slc?) fun s21 =>
 ob (acall P T k r17.2.length F.zoetroperef00_Bring [.int .i64 x8, .int .i64 5] r17.2) fun r22 =>
 ob ((some r22.1).bind (Value.int? .i64)) fun x23 =>
 pb (x23 < 0) none
 (ob (acall P T k r17.2.length F.zoetropelaw22_cells [.agg ⟨[.int .i64 x19, .int .i64 x20, .slice s21.a s21.n s21.c]⟩, .int .u8 (shlI .u8 (4 : Int) x23.toNat), .bool true] r22.2) fun r24 =>
 ob ((some r24.1).bind (Value.agg? 5)) fun l25 =>
 ob ((l25[0]?).bind (Value.int? .i64)) fun x26 =>
 ob ((l25[1]?).bind (Value.int? .i64)) fun x27 =>
 ob ((l25[2]?).bind Value.slc?) fun s28 =>
 ob ((l25[3]?).bind Value.slc?) fun s29 =>
 ob ((l25[4]?).bind Value.slc?) fun s30 =>
 some (zoetropelaw22_DeblockQuiet.c500 A3 n4 c5 0 x1 x2 b6 b7 x8 x9 x19 x20 s21.a s21.n s21.c x26 x27 s28.a s28.n s28.c s29.a s29.n s29.c s30.a s30.n s30.c r24.2))) := by kernel_rfl
theorem zoetropelaw22_DeblockQuiet.p500 (k lo : Nat) (A1 : Option Addr) (n2 : Nat) (c3 : Nat) (x4 : Int) (x5 : Int) (x6 : Int) (b7 : Bool) (b8 : Bool) (x9 : Int) (x10 : Int) (x11 : Int) (x12 : Int) (A13 : Option Addr) (n14 : Nat) (c15 : Nat) (x16 : Int) (x17 : Int) (A18 : Option Addr) (n19 : Nat) (c20 : Nat) (A21 : Option Addr) (n22 : Nat) (c23 : Nat) (A24 : Option Addr) (n25 : Nat) (c26 : Nat) (M : Mem) : piece P T k lo F.zoetropelaw22_DeblockQuiet 500 [.v (.slice A1 n2 c3), .l 3 0, .l 5 0, .l 7 0, .l 8 0, .v (.int .i64 x4)] [[.int .i64 x5, .int .i64 x6], [.bool b7, .bool b8, .int .i64 x9, .int .i64 x10], [.int .i64 x11, .int .i64 x12, .slice A13 n14 c15], [.int .i64 x16, .int .i64 x17, .slice A18 n19 c20, .slice A21 n22 c23, .slice A24 n25 c26]] M =
 bb (decide (x4 < (n22 : Int)))
 (pb (0 ≤ x4 ∧ x4 < (n22 : Int))
 (ob A21 fun a31 =>
 ob (M.st lo (plus a31 x4.toNat) [.int .i64 7]) fun M32 =>
 some (zoetropelaw22_DeblockQuiet.c500 A1 n2 c3 (IntKind.i64.wrap (x4 + 1)) x5 x6 b7 b8 x9 x10 x11 x12 A13 n14 c15 x16 x17 A18 n19 c20 A21 n22 c23 A24 n25 c26 M32)) none)
 (ob (acall P T k M.length F.zoetroperef00_Bring [.int .i64 x9, .int .i64 64] M) fun r33 =>
 ob ((some r33.1).bind (Value.int? .i64)) fun x34 =>
 ob (acall P T k M.length F.zoetroperef00_Bring [.int .i64 x10, .int .i64 8] r33.2) fun r35 =>
 ob ((some r35.1).bind (Value.int? .i64)) fun x36 =>
 ob (acall P T k lo F.deblock_Pass [.agg ⟨[.int .i64 x11, .int .i64 x12, .slice A13 n14 c15]⟩, .agg ⟨[.int .i64 x16, .int .i64 x17, .slice A18 n19 c20, .slice A21 n22 c23, .slice A24 n25 c26]⟩, .bool b7, .bool b8, .int .i64 x34, .int .i64 x36] r35.2) fun r37 =>
 ob (r37.1.tup? 2) fun l38 =>
 ob ((l38[0]?).bind (Value.agg? 3)) fun l39 =>
 ob ((l39[0]?).bind (Value.int? .i64)) fun x40 =>
 ob ((l39[1]?).bind (Value.int? .i64)) fun x41 =>
 ob ((l39[2]?).bind Value.slc?) fun s42 =>
 ob ((l38[1]?).bind (Value.int? .i64)) fun x43 =>
 bb (x43 != 0)
 (some (.ret (.bool false) r37.2))
 (ob (acall P T k lo F.plane_Same [.agg ⟨[.int .i64 x40, .int .i64 x41, .slice s42.a s42.n s42.c]⟩, .agg ⟨[.int .i64 x11, .int .i64 x12, .slice A13 n14 c15]⟩] r37.2) fun r44 =>
 ob ((some r44.1).bind Value.bool?) fun b45 =>
 bb (!b45)
 (some (.ret (.bool false) r44.2))
 (bb (decide ((n2 : Int) > 1))
 (pb (0 ≤ (0 : Int) ∧ (0 : Int) ≤ 1 ∧ (1 : Int) ≤ (c3 : Int))
 (some (zoetropelaw22_DeblockQuiet.c1023 (slAddr 1 A1 0 c3) 1 (c3 - 0) x34 x36 x5 x6 b7 b8 x9 x10 x40 x41 s42.a s42.n s42.c r44.2)) none)
 (some (zoetropelaw22_DeblockQuiet.c1023 A1 n2 c3 x34 x36 x5 x6 b7 b8 x9 x10 x40 x41 s42.a s42.n s42.c r44.2))))) := by kernel_rfl
theorem zoetropelaw22_DeblockQuiet.p1023 (k lo : Nat) (A1 : Option Addr) (n2 : Nat) (c3 : Nat) (x4 : Int) (x5 : Int) (x6 : Int) (x7 : Int) (b8 : Bool) (b9 : Bool) (x10 : Int) (x11 : Int) (x12 : Int) (x13 : Int) (A14 : Option Addr) (n15 : Nat) (c16 : Nat) (M : Mem) : piece P T k lo F.zoetropelaw22_DeblockQuiet 1023 [.v (.slice A1 n2 c3), .l 3 0, .l 5 0, .v (.int .i64 x4), .v (.int .i64 x5), .l 12 0] [[.int .i64 x6, .int .i64 x7], [.bool b8, .bool b9, .int .i64 x10, .int .i64 x11], [.int .i64 x12, .int .i64 x13, .slice A14 n15 c16]] M =
 ob (acall P T k lo F.zoetropelaw22_fit [.int .i64 x6, .int .i64 x7, .slice A1 n2 c3] M) fun r46 =>
 ob ((some r46.1).bind (Value.agg? 3)) fun l47 =>
 ob ((l47[0]?).bind (Value.int? .i64)) fun x48 =>
 ob ((l47[1]?).bind (Value.int? .i64)) fun x49 =>
 ob ((l47[2]?).bind Value.slc?) fun s50 =>
 ob (acall P T k r46.2.length F.zoetroperef00_Bring [.int .i64 x11, .int .i64 5] r46.2) fun r51 =>
 ob ((some r51.1).bind (Value.int? .i64)) fun x52 =>
 pb (x52 < 0) none
 (ob (acall P T k r46.2.length F.zoetropelaw22_cells [.agg ⟨[.int .i64 x48, .int .i64 x49, .slice s50.a s50.n s50.c]⟩, .int .u8 (shlI .u8 (4 : Int) x52.toNat), .bool b9] r51.2) fun r53 =>
 ob ((some r53.1).bind (Value.agg? 5)) fun l54 =>
 ob ((l54[0]?).bind (Value.int? .i64)) fun x55 =>
 ob ((l54[1]?).bind (Value.int? .i64)) fun x56 =>
 ob ((l54[2]?).bind Value.slc?) fun s57 =>
 ob ((l54[3]?).bind Value.slc?) fun s58 =>
 ob ((l54[4]?).bind Value.slc?) fun s59 =>
 ob (acall P T k r46.2.length F.deblock_Pass [.agg ⟨[.int .i64 x48, .int .i64 x49, .slice s50.a s50.n s50.c]⟩, .agg ⟨[.int .i64 x55, .int .i64 x56, .slice s57.a s57.n s57.c, .slice s58.a s58.n s58.c, .slice s59.a s59.n s59.c]⟩, .bool b8, .bool b9, .int .i64 x4, .int .i64 x5] r53.2) fun r60 =>
 ob (r60.1.tup? 2) fun l61 =>
 ob ((l61[0]?).bind (Value.agg? 3)) fun l62 =>
 ob ((l62[0]?).bind (Value.int? .i64)) fun x63 =>
 ob ((l62[1]?).bind (Value.int? .i64)) fun x64 =>
 ob ((l62[2]?).bind Value.slc?) fun s65 =>
 ob ((l61[1]?).bind (Value.int? .i64)) fun x66 =>
 bb (x66 == 0)
 (ob (acall P T k lo F.plane_Same [.agg ⟨[.int .i64 x63, .int .i64 x64, .slice s65.a s65.n s65.c]⟩, .agg ⟨[.int .i64 x48, .int .i64 x49, .slice s50.a s50.n s50.c]⟩] r60.2) fun r67 =>
 ob ((some r67.1).bind Value.bool?) fun b68 =>
 some (.ret (.bool b68) r67.2))
 (some (.ret (.bool false) r60.2))) := by kernel_rfl
theorem zoetroperef00_CopyBytes.entry (k lo : Nat) (A1 : Option Addr) (n2 : Nat) (c3 : Nat) (M : Mem) : entry P T k lo F.zoetroperef00_CopyBytes [.slice A1 n2 c3] M =
 ob (Mem.src M A1 n2 n2) fun l9 =>
 ob (M.app lo 1 1 ⟨none, 0, 0⟩ l9 n2) fun r10 =>
 some (.ret (.slice r10.1.a r10.1.n r10.1.c) r10.2) := by kernel_rfl
theorem deblock_Edge.entry (k lo : Nat) (A1 : Option Addr) (n2 : Nat) (c3 : Nat) (x4 : Int) (x5 : Int) (x6 : Int) (M : Mem) : entry P T k lo F.deblock_Edge [.slice A1 n2 c3, .int .i64 x4, .int .i64 x5, .int .i64 x6] M =
 ob (acall P T k lo F.slices_Contains__int_int [.slice (some ⟨M.length, 0, none⟩) 4 4, .int .i64 x4] (M ++ [⟨.fx, [.int .i64 4, .int .i64 6, .int .i64 8, .int .i64 14]⟩] : Mem)) fun r12 =>
 ob ((some r12.1).bind Value.bool?) fun b13 =>
 bb (!b13)
 (some (.ret (.tuple ⟨[.slice none 0 0, .int .i64 2]⟩) r12.2))
 (bb ((n2 : Int) != x4)
 (some (.ret (.tuple ⟨[.slice none 0 0, .int .i64 2]⟩) r12.2))
 (ob (acall P T k lo F.deblock_within [.int .i64 x5, .int .i64 0, .int .i64 63] r12.2) fun r14 =>
 ob ((some r14.1).bind Value.bool?) fun b15 =>
 bb (!b15)
 (some (.ret (.tuple ⟨[.slice none 0 0, .int .i64 2]⟩) r14.2))
 (ob (acall P T k lo F.deblock_within [.int .i64 x6, .int .i64 0, .int .i64 7] r14.2) fun r16 =>
 ob ((some r16.1).bind Value.bool?) fun b17 =>
 bb (!b17)
 (some (.ret (.tuple ⟨[.slice none 0 0, .int .i64 2]⟩) r16.2))
 (bb (x5 == 0)
 (ob (acall P T k lo F.slices_Clone__uint8_uint8 [.slice A1 n2 c3] r16.2) fun r18 =>
 ob ((some r18.1).bind Value.slc?) fun s19 =>
 some (.ret (.tuple ⟨[.slice s19.a s19.n s19.c, .int .i64 0]⟩) r18.2))
 (ob (acall P T k lo F.deblock_boundsOf [.int .i64 x5, .int .i64 x6] r16.2) fun r20 =>
 ob ((some r20.1).bind (Value.agg? 3)) fun l21 =>
 ob ((l21[0]?).bind (Value.int? .i64)) fun x22 =>
 ob ((l21[1]?).bind (Value.int? .i64)) fun x23 =>
 ob ((l21[2]?).bind (Value.int? .i64)) fun x24 =>
 ob (acall P T k lo F.deblock_line_filter [.agg ⟨[.slice A1 n2 c3, .int .i64 (IntKind.i64.wrap (Int.tdiv x4 2))]⟩, .agg ⟨[.int .i64 x22, .int .i64 x23, .int .i64 x24]⟩] r20.2) fun r25 =>
 ob ((some r25.1).bind Value.slc?) fun s26 =>
 some (.ret (.tuple ⟨[.slice s26.a s26.n s26.c, .int .i64 0]⟩) r25.2)))))) := by kernel_rfl
theorem zoetroperef22_Edge.entry (k lo : Nat) (A1 : Option Addr) (n2 : Nat) (c3 : Nat) (x4 : Int) (x5 : Int) (x6 : Int) (M : Mem) : entry P T k lo F.zoetroperef22_Edge [.slice A1 n2 c3, .int .i64 x4, .int .i64 x5, .int .i64 x6] M =
 bb (x4 != 4)
 (bb (x4 != 6)
 (bb (x4 != 8)
 (bb (x4 != 14)
 (some (.ret (.tuple ⟨[.slice none 0 0, .int .i64 2]⟩) M))
 (bb ((n2 : Int) != x4)
 (some (.ret (.tuple ⟨[.slice none 0 0, .int .i64 2]⟩) M))
 (bb (decide (x5 < 0))
 (some (.ret (.tuple ⟨[.slice none 0 0, .int .i64 2]⟩) M))
 (bb (decide (x5 > 63))
 (some (.ret (.tuple ⟨[.slice none 0 0, .int .i64 2]⟩) M))
 (bb (decide (x6 < 0))
 (some (.ret (.tuple ⟨[.slice none 0 0, .int .i64 2]⟩) M))
 (bb (decide (x6 > 7))
 (some (.ret (.tuple ⟨[.slice none 0 0, .int .i64 2]⟩) M))
 (ob (acall P T k lo F.zoetroperef22_filtered [.slice A1 n2 c3, .int .i64 x4, .int .i64 x5, .int .i64 x6] M) fun r12 =>
 ob ((some r12.1).bind Value.bool?) fun b13 =>
 bb (!b13)
 (ob (acall P T k lo F.zoetroperef00_CopyBytes [.slice A1 n2 c3] r12.2) fun r14 =>
 ob ((some r14.1).bind Value.slc?) fun s15 =>
 some (.ret (.tuple ⟨[.slice s15.a s15.n s15.c, .int .i64 0]⟩) r14.2))
 (bb (x4 == 6)
 (ob (acall P T k lo F.zoetroperef22_flat [.slice A1 n2 c3, .int .i64 1, .int .i64 2] r12.2) fun r16 =>
 ob ((some r16.1).bind Value.bool?) fun b17 =>
 bb b17
 (ob (acall P T k lo F.zoetroperef22_wide [.slice A1 n2 c3, .int .i64 2] r16.2) fun r18 =>
 ob ((some r18.1).bind Value.slc?) fun s19 =>
 some (.ret (.tuple ⟨[.slice s19.a s19.n s19.c, .int .i64 0]⟩) r18.2))
 (bb (decide (x4 ≥ 8))
 (ob (acall P T k lo F.zoetroperef22_flat [.slice A1 n2 c3, .int .i64 1, .int .i64 3] r16.2) fun r20 =>
 ob ((some r20.1).bind Value.bool?) fun b21 =>
 bb b21
 (bb (x4 == 14)
 (ob (acall P T k lo F.zoetroperef22_flat [.slice A1 n2 c3, .int .i64 4, .int .i64 6] r20.2) fun r22 =>
 ob ((some r22.1).bind Value.bool?) fun b23 =>
 bb b23
 (ob (acall P T k lo F.zoetroperef22_wide [.slice A1 n2 c3, .int .i64 6] r22.2) fun r24 =>
 ob ((some r24.1).bind Value.slc?) fun s25 =>
 some (.ret (.tuple ⟨[.slice s25.a s25.n s25.c, .int .i64 0]⟩) r24.2))
 (ob (acall P T k lo F.zoetroperef22_wide [.slice A1 n2 c3, .int .i64 3] r22.2) fun r26 =>
 ob ((some r26.1).bind Value.slc?) fun s27 =>
 some (.ret (.tuple ⟨[.slice s27.a s27.n s27.c, .int .i64 0]⟩) r26.2)))
 (ob (acall P T k lo F.zoetroperef22_wide [.slice A1 n2 c3, .int .i64 3] r20.2) fun r28 =>
 ob ((some r28.1).bind Value.slc?) fun s29 =>
 some (.ret (.tuple ⟨[.slice s29.a s29.n s29.c, .int .i64 0]⟩) r28.2)))
 (ob (acall P T k lo F.zoetroperef22_narrow [.slice A1 n2 c3, .int .i64 x5] r20.2) fun r30 =>
 ob ((some r30.1).bind Value.slc?) fun s31 =>
 some (.ret (.tuple ⟨[.slice s31.a s31.n s31.c, .int .i64 0]⟩) r30.2)))
 (ob (acall P T k lo F.zoetroperef22_narrow [.slice A1 n2 c3, .int .i64 x5] r16.2) fun r32 =>
 ob ((some r32.1).bind Value.slc?) fun s33 =>
 some (.ret (.tuple ⟨[.slice s33.a s33.n s33.c, .int .i64 0]⟩) r32.2))))
 (bb (decide (x4 ≥ 8))
 (ob (acall P T k lo F.zoetroperef22_flat [.slice A1 n2 c3, .int .i64 1, .int .i64 3] r12.2) fun r34 =>
 ob ((some r34.1).bind Value.bool?) fun b35 =>
 bb b35
 (bb (x4 == 14)
 (ob (acall P T k lo F.zoetroperef22_flat [.slice A1 n2 c3, .int .i64 4, .int .i64 6] r34.2) fun r36 =>
 ob ((some r36.1).bind Value.bool?) fun b37 =>
 bb b37
 (ob (acall P T k lo F.zoetroperef22_wide [.slice A1 n2 c3, .int .i64 6] r36.2) fun r38 =>
 ob ((some r38.1).bind Value.slc?) fun s39 =>
 some (.ret (.tuple ⟨[.slice s39.a s39.n s39.c, .int .i64 0]⟩) r38.2))
 (ob (acall P T k lo F.zoetroperef22_wide [.slice A1 n2 c3, .int .i64 3] r36.2) fun r40 =>
 ob ((some r40.1).bind Value.slc?) fun s41 =>
 some (.ret (.tuple ⟨[.slice s41.a s41.n s41.c, .int .i64 0]⟩) r40.2)))
 (ob (acall P T k lo F.zoetroperef22_wide [.slice A1 n2 c3, .int .i64 3] r34.2) fun r42 =>
 ob ((some r42.1).bind Value.slc?) fun s43 =>
 some (.ret (.tuple ⟨[.slice s43.a s43.n s43.c, .int .i64 0]⟩) r42.2)))
 (ob (acall P T k lo F.zoetroperef22_narrow [.slice A1 n2 c3, .int .i64 x5] r34.2) fun r44 =>
 ob ((some r44.1).bind Value.slc?) fun s45 =>
 some (.ret (.tuple ⟨[.slice s45.a s45.n s45.c, .int .i64 0]⟩) r44.2)))
 (ob (acall P T k lo F.zoetroperef22_narrow [.slice A1 n2 c3, .int .i64 x5] r12.2) fun r46 =>
 ob ((some r46.1).bind Value.slc?) fun s47 =>
 some (.ret (.tuple ⟨[.slice s47.a s47.n s47.c, .int .i64 0]⟩) r46.2)))))))))))
 (bb ((n2 : Int) != x4)
 (some (.ret (.tuple ⟨[.slice none 0 0, .int .i64 2]⟩) M))
 (bb (decide (x5 < 0))
 (some (.ret (.tuple ⟨[.slice none 0 0, .int .i64 2]⟩) M))
 (bb (decide (x5 > 63))
 (some (.ret (.tuple ⟨[.slice none 0 0, .int .i64 2]⟩) M))
 (bb (decide (x6 < 0))
 (some (.ret (.tuple ⟨[.slice none 0 0, .int .i64 2]⟩) M))
 (bb (decide (x6 > 7))
 (some (.ret (.tuple ⟨[.slice none 0 0, .int .i64 2]⟩) M))
 (ob (acall P T k lo F.zoetroperef22_filtered [.slice A1 n2 c3, .int .i64 x4, .int .i64 x5, .int .i64 x6] M) fun r48 =>
 ob ((some r48.1).bind Value.bool?) fun b49 =>
 bb (!b49)
 (ob (acall P T k lo F.zoetroperef00_CopyBytes [.slice A1 n2 c3] r48.2) fun r50 =>
 ob ((some r50.1).bind Value.slc?) fun s51 =>
 some (.ret (.tuple ⟨[.slice s51.a s51.n s51.c, .int .i64 0]⟩) r50.2))
 (bb (x4 == 6)
 (ob (acall P T k lo F.zoetroperef22_flat [.slice A1 n2 c3, .int .i64 1, .int .i64 2] r48.2) fun r52 =>
 ob ((some r52.1).bind Value.bool?) fun b53 =>
 bb b53
 (ob (acall P T k lo F.zoetroperef22_wide [.slice A1 n2 c3, .int .i64 2] r52.2) fun r54 =>
 ob ((some r54.1).bind Value.slc?) fun s55 =>
 some (.ret (.tuple ⟨[.slice s55.a s55.n s55.c, .int .i64 0]⟩) r54.2))
 (bb (decide (x4 ≥ 8))
 (ob (acall P T k lo F.zoetroperef22_flat [.slice A1 n2 c3, .int .i64 1, .int .i64 3] r52.2) fun r56 =>
 ob ((some r56.1).bind Value.bool?) fun b57 =>
 bb b57
 (bb (x4 == 14)
 (ob (acall P T k lo F.zoetroperef22_flat [.slice A1 n2 c3, .int .i64 4, .int .i64 6] r56.2) fun r58 =>
 ob ((some r58.1).bind Value.bool?) fun b59 =>
 bb b59
 (ob (acall P T k lo F.zoetroperef22_wide [.slice A1 n2 c3, .int .i64 6] r58.2) fun r60 =>
 ob ((some r60.1).bind Value.slc?) fun s61 =>
 some (.ret (.tuple ⟨[.slice s61.a s61.n s61.c, .int .i64 0]⟩) r60.2))
 (ob (acall P T k lo F.zoetroperef22_wide [.slice A1 n2 c3, .int .i64 3] r58.2) fun r62 =>
 ob ((some r62.1).bind Value.slc?) fun s63 =>
 some (.ret (.tuple ⟨[.slice s63.a s63.n s63.c, .int .i64 0]⟩) r62.2)))
 (ob (acall P T k lo F.zoetroperef22_wide [.slice A1 n2 c3, .int .i64 3] r56.2) fun r64 =>
 ob ((some r64.1).bind Value.slc?) fun s65 =>
 some (.ret (.tuple ⟨[.slice s65.a s65.n s65.c, .int .i64 0]⟩) r64.2)))
 (ob (acall P T k lo F.zoetroperef22_narrow [.slice A1 n2 c3, .int .i64 x5] r56.2) fun r66 =>
 ob ((some r66.1).bind Value.slc?) fun s67 =>
 some (.ret (.tuple ⟨[.slice s67.a s67.n s67.c, .int .i64 0]⟩) r66.2)))
 (ob (acall P T k lo F.zoetroperef22_narrow [.slice A1 n2 c3, .int .i64 x5] r52.2) fun r68 =>
 ob ((some r68.1).bind Value.slc?) fun s69 =>
 some (.ret (.tuple ⟨[.slice s69.a s69.n s69.c, .int .i64 0]⟩) r68.2))))
 (bb (decide (x4 ≥ 8))
 (ob (acall P T k lo F.zoetroperef22_flat [.slice A1 n2 c3, .int .i64 1, .int .i64 3] r48.2) fun r70 =>
 ob ((some r70.1).bind Value.bool?) fun b71 =>
 bb b71
 (bb (x4 == 14)
 (ob (acall P T k lo F.zoetroperef22_flat [.slice A1 n2 c3, .int .i64 4, .int .i64 6] r70.2) fun r72 =>
 ob ((some r72.1).bind Value.bool?) fun b73 =>
 bb b73
 (ob (acall P T k lo F.zoetroperef22_wide [.slice A1 n2 c3, .int .i64 6] r72.2) fun r74 =>
 ob ((some r74.1).bind Value.slc?) fun s75 =>
 some (.ret (.tuple ⟨[.slice s75.a s75.n s75.c, .int .i64 0]⟩) r74.2))
 (ob (acall P T k lo F.zoetroperef22_wide [.slice A1 n2 c3, .int .i64 3] r72.2) fun r76 =>
 ob ((some r76.1).bind Value.slc?) fun s77 =>
 some (.ret (.tuple ⟨[.slice s77.a s77.n s77.c, .int .i64 0]⟩) r76.2)))
 (ob (acall P T k lo F.zoetroperef22_wide [.slice A1 n2 c3, .int .i64 3] r70.2) fun r78 =>
 ob ((some r78.1).bind Value.slc?) fun s79 =>
 some (.ret (.tuple ⟨[.slice s79.a s79.n s79.c, .int .i64 0]⟩) r78.2)))
 (ob (acall P T k lo F.zoetroperef22_narrow [.slice A1 n2 c3, .int .i64 x5] r70.2) fun r80 =>
 ob ((some r80.1).bind Value.slc?) fun s81 =>
 some (.ret (.tuple ⟨[.slice s81.a s81.n s81.c, .int .i64 0]⟩) r80.2)))
 (ob (acall P T k lo F.zoetroperef22_narrow [.slice A1 n2 c3, .int .i64 x5] r48.2) fun r82 =>
 ob ((some r82.1).bind Value.slc?) fun s83 =>
 some (.ret (.tuple ⟨[.slice s83.a s83.n s83.c, .int .i64 0]⟩) r82.2)))))))))))
 (bb ((n2 : Int) != x4)
 (some (.ret (.tuple ⟨[.slice none 0 0, .int .i64 2]⟩) M))
 (bb (decide (x5 < 0))
 (some (.ret (.tuple ⟨[.slice none 0 0, .int .i64 2]⟩) M))
 (bb (decide (x5 > 63))
 (some (.ret (.tuple ⟨[.slice none 0 0, .int .i64 2]⟩) M))
 (bb (decide (x6 < 0))
 (some (.ret (.tuple ⟨[.slice none 0 0, .int .i64 2]⟩) M))
 (bb (decide (x6 > 7))
 (some (.ret (.tuple ⟨[.slice none 0 0, .int .i64 2]⟩) M))
 (ob (acall P T k lo F.zoetroperef22_filtered [.slice A1 n2 c3, .int .i64 x4, .int .i64 x5, .int .i64 x6] M) fun r84 =>
 ob ((some r84.1).bind Value.bool?) fun b85 =>
 bb (!b85)
 (ob (acall P T k lo F.zoetroperef00_CopyBytes [.slice A1 n2 c3] r84.2) fun r86 =>
 ob ((some r86.1).bind Value.slc?) fun s87 =>
 some (.ret (.tuple ⟨[.slice s87.a s87.n s87.c, .int .i64 0]⟩) r86.2))
 (bb (x4 == 6)
 (ob (acall P T k lo F.zoetroperef22_flat [.slice A1 n2 c3, .int .i64 1, .int .i64 2] r84.2) fun r88 =>
 ob ((some r88.1).bind Value.bool?) fun b89 =>
 bb b89
 (ob (acall P T k lo F.zoetroperef22_wide [.slice A1 n2 c3, .int .i64 2] r88.2) fun r90 =>
 ob ((some r90.1).bind Value.slc?) fun s91 =>
 some (.ret (.tuple ⟨[.slice s91.a s91.n s91.c, .int .i64 0]⟩) r90.2))
 (bb (decide (x4 ≥ 8))
 (ob (acall P T k lo F.zoetroperef22_flat [.slice A1 n2 c3, .int .i64 1, .int .i64 3] r88.2) fun r92 =>
 ob ((some r92.1).bind Value.bool?) fun b93 =>
 bb b93
 (bb (x4 == 14)
 (ob (acall P T k lo F.zoetroperef22_flat [.slice A1 n2 c3, .int .i64 4, .int .i64 6] r92.2) fun r94 =>
 ob ((some r94.1).bind Value.bool?) fun b95 =>
 bb b95
 (ob (acall P T k lo F.zoetroperef22_wide [.slice A1 n2 c3, .int .i64 6] r94.2) fun r96 =>
 ob ((some r96.1).bind Value.slc?) fun s97 =>
 some (.ret (.tuple ⟨[.slice s97.a s97.n s97.c, .int .i64 0]⟩) r96.2))
 (ob (acall P T k lo F.zoetroperef22_wide [.slice A1 n2 c3, .int .i64 3] r94.2) fun r98 =>
 ob ((some r98.1).bind Value.slc?) fun s99 =>
 some (.ret (.tuple ⟨[.slice s99.a s99.n s99.c, .int .i64 0]⟩) r98.2)))
 (ob (acall P T k lo F.zoetroperef22_wide [.slice A1 n2 c3, .int .i64 3] r92.2) fun r100 =>
 ob ((some r100.1).bind Value.slc?) fun s101 =>
 some (.ret (.tuple ⟨[.slice s101.a s101.n s101.c, .int .i64 0]⟩) r100.2)))
 (ob (acall P T k lo F.zoetroperef22_narrow [.slice A1 n2 c3, .int .i64 x5] r92.2) fun r102 =>
 ob ((some r102.1).bind Value.slc?) fun s103 =>
 some (.ret (.tuple ⟨[.slice s103.a s103.n s103.c, .int .i64 0]⟩) r102.2)))
 (ob (acall P T k lo F.zoetroperef22_narrow [.slice A1 n2 c3, .int .i64 x5] r88.2) fun r104 =>
 ob ((some r104.1).bind Value.slc?) fun s105 =>
 some (.ret (.tuple ⟨[.slice s105.a s105.n s105.c, .int .i64 0]⟩) r104.2))))
 (bb (decide (x4 ≥ 8))
 (ob (acall P T k lo F.zoetroperef22_flat [.slice A1 n2 c3, .int .i64 1, .int .i64 3] r84.2) fun r106 =>
 ob ((some r106.1).bind Value.bool?) fun b107 =>
 bb b107
 (bb (x4 == 14)
 (ob (acall P T k lo F.zoetroperef22_flat [.slice A1 n2 c3, .int .i64 4, .int .i64 6] r106.2) fun r108 =>
 ob ((some r108.1).bind Value.bool?) fun b109 =>
 bb b109
 (ob (acall P T k lo F.zoetroperef22_wide [.slice A1 n2 c3, .int .i64 6] r108.2) fun r110 =>
 ob ((some r110.1).bind Value.slc?) fun s111 =>
 some (.ret (.tuple ⟨[.slice s111.a s111.n s111.c, .int .i64 0]⟩) r110.2))
 (ob (acall P T k lo F.zoetroperef22_wide [.slice A1 n2 c3, .int .i64 3] r108.2) fun r112 =>
 ob ((some r112.1).bind Value.slc?) fun s113 =>
 some (.ret (.tuple ⟨[.slice s113.a s113.n s113.c, .int .i64 0]⟩) r112.2)))
 (ob (acall P T k lo F.zoetroperef22_wide [.slice A1 n2 c3, .int .i64 3] r106.2) fun r114 =>
 ob ((some r114.1).bind Value.slc?) fun s115 =>
 some (.ret (.tuple ⟨[.slice s115.a s115.n s115.c, .int .i64 0]⟩) r114.2)))
 (ob (acall P T k lo F.zoetroperef22_narrow [.slice A1 n2 c3, .int .i64 x5] r106.2) fun r116 =>
 ob ((some r116.1).bind Value.slc?) fun s117 =>
 some (.ret (.tuple ⟨[.slice s117.a s117.n s117.c, .int .i64 0]⟩) r116.2)))
 (ob (acall P T k lo F.zoetroperef22_narrow [.slice A1 n2 c3, .int .i64 x5] r84.2) fun r118 =>
 ob ((some r118.1).bind Value.slc?) fun s119 =>
 some (.ret (.tuple ⟨[.slice s119.a s119.n s119.c, .int .i64 0]⟩) r118.2)))))))))))
 (bb ((n2 : Int) != x4)
 (some (.ret (.tuple ⟨[.slice none 0 0, .int .i64 2]⟩) M))
 (bb (decide (x5 < 0))
 (some (.ret (.tuple ⟨[.slice none 0 0, .int .i64 2]⟩) M))
 (bb (decide (x5 > 63))
 (some (.ret (.tuple ⟨[.slice none 0 0, .int .i64 2]⟩) M))
 (bb (decide (x6 < 0))
 (some (.ret (.tuple ⟨[.slice none 0 0, .int .i64 2]⟩) M))
 (bb (decide (x6 > 7))
 (some (.ret (.tuple ⟨[.slice none 0 0, .int .i64 2]⟩) M))
 (ob (acall P T k lo F.zoetroperef22_filtered [.slice A1 n2 c3, .int .i64 x4, .int .i64 x5, .int .i64 x6] M) fun r120 =>
 ob ((some r120.1).bind Value.bool?) fun b121 =>
 bb (!b121)
 (ob (acall P T k lo F.zoetroperef00_CopyBytes [.slice A1 n2 c3] r120.2) fun r122 =>
 ob ((some r122.1).bind Value.slc?) fun s123 =>
 some (.ret (.tuple ⟨[.slice s123.a s123.n s123.c, .int .i64 0]⟩) r122.2))
 (bb (x4 == 6)
 (ob (acall P T k lo F.zoetroperef22_flat [.slice A1 n2 c3, .int .i64 1, .int .i64 2] r120.2) fun r124 =>
 ob ((some r124.1).bind Value.bool?) fun b125 =>
 bb b125
 (ob (acall P T k lo F.zoetroperef22_wide [.slice A1 n2 c3, .int .i64 2] r124.2) fun r126 =>
 ob ((some r126.1).bind Value.slc?) fun s127 =>
 some (.ret (.tuple ⟨[.slice s127.a s127.n s127.c, .int .i64 0]⟩) r126.2))
 (bb (decide (x4 ≥ 8))
 (ob (acall P T k lo F.zoetroperef22_flat [.slice A1 n2 c3, .int .i64 1, .int .i64 3] r124.2) fun r128 =>
 ob ((some r128.1).bind Value.bool?) fun b129 =>
 bb b129
 (bb (x4 == 14)
 (ob (acall P T k lo F.zoetroperef22_flat [.slice A1 n2 c3, .int .i64 4, .int .i64 6] r128.2) fun r130 =>
 ob ((some r130.1).bind Value.bool?) fun b131 =>
 bb b131
 (ob (acall P T k lo F.zoetroperef22_wide [.slice A1 n2 c3, .int .i64 6] r130.2) fun r132 =>
 ob ((some r132.1).bind Value.slc?) fun s133 =>
 some (.ret (.tuple ⟨[.slice s133.a s133.n s133.c, .int .i64 0]⟩) r132.2))
 (ob (acall P T k lo F.zoetroperef22_wide [.slice A1 n2 c3, .int .i64 3] r130.2) fun r134 =>
 ob ((some r134.1).bind Value.slc?) fun s135 =>
 some (.ret (.tuple ⟨[.slice s135.a s135.n s135.c, .int .i64 0]⟩) r134.2)))
 (ob (acall P T k lo F.zoetroperef22_wide [.slice A1 n2 c3, .int .i64 3] r128.2) fun r136 =>
 ob ((some r136.1).bind Value.slc?) fun s137 =>
 some (.ret (.tuple ⟨[.slice s137.a s137.n s137.c, .int .i64 0]⟩) r136.2)))
 (ob (acall P T k lo F.zoetroperef22_narrow [.slice A1 n2 c3, .int .i64 x5] r128.2) fun r138 =>
 ob ((some r138.1).bind Value.slc?) fun s139 =>
 some (.ret (.tuple ⟨[.slice s139.a s139.n s139.c, .int .i64 0]⟩) r138.2)))
 (ob (acall P T k lo F.zoetroperef22_narrow [.slice A1 n2 c3, .int .i64 x5] r124.2) fun r140 =>
 ob ((some r140.1).bind Value.slc?) fun s141 =>
 some (.ret (.tuple ⟨[.slice s141.a s141.n s141.c, .int .i64 0]⟩) r140.2))))
 (bb (decide (x4 ≥ 8))
 (ob (acall P T k lo F.zoetroperef22_flat [.slice A1 n2 c3, .int .i64 1, .int .i64 3] r120.2) fun r142 =>
 ob ((some r142.1).bind Value.bool?) fun b143 =>
 bb b143
 (bb (x4 == 14)
 (ob (acall P T k lo F.zoetroperef22_flat [.slice A1 n2 c3, .int .i64 4, .int .i64 6] r142.2) fun r144 =>
 ob ((some r144.1).bind Value.bool?) fun b145 =>
 bb b145
 (ob (acall P T k lo F.zoetroperef22_wide [.slice A1 n2 c3, .int .i64 6] r144.2) fun r146 =>
 ob ((some r146.1).bind Value.slc?) fun s147 =>
 some (.ret (.tuple ⟨[.slice s147.a s147.n s147.c, .int .i64 0]⟩) r146.2))
 (ob (acall P T k lo F.zoetroperef22_wide [.slice A1 n2 c3, .int .i64 3] r144.2) fun r148 =>
 ob ((some r148.1).bind Value.slc?) fun s149 =>
 some (.ret (.tuple ⟨[.slice s149.a s149.n s149.c, .int .i64 0]⟩) r148.2)))
 (ob (acall P T k lo F.zoetroperef22_wide [.slice A1 n2 c3, .int .i64 3] r142.2) fun r150 =>
 ob ((some r150.1).bind Value.slc?) fun s151 =>
 some (.ret (.tuple ⟨[.slice s151.a s151.n s151.c, .int .i64 0]⟩) r150.2)))
 (ob (acall P T k lo F.zoetroperef22_narrow [.slice A1 n2 c3, .int .i64 x5] r142.2) fun r152 =>
 ob ((some r152.1).bind Value.slc?) fun s153 =>
 some (.ret (.tuple ⟨[.slice s153.a s153.n s153.c, .int .i64 0]⟩) r152.2)))
 (ob (acall P T k lo F.zoetroperef22_narrow [.slice A1 n2 c3, .int .i64 x5] r120.2) fun r154 =>
 ob ((some r154.1).bind Value.slc?) fun s155 =>
 some (.ret (.tuple ⟨[.slice s155.a s155.n s155.c, .int .i64 0]⟩) r154.2)))))))))) := by kernel_rfl
theorem zoetroperef00_EqBytes.entry (k lo : Nat) (A1 : Option Addr) (n2 : Nat) (c3 : Nat) (A4 : Option Addr) (n5 : Nat) (c6 : Nat) (M : Mem) : entry P T k lo F.zoetroperef00_EqBytes [.slice A1 n2 c3, .slice A4 n5 c6] M =
 bb ((n2 : Int) != (n5 : Int))
 (some (.ret (.bool false) M))
 (some (zoetroperef00_EqBytes.c116 A1 n2 c3 A4 n5 c6 0 M)) := by kernel_rfl
theorem zoetroperef00_EqBytes.p116 (k lo : Nat) (A1 : Option Addr) (n2 : Nat) (c3 : Nat) (A4 : Option Addr) (n5 : Nat) (c6 : Nat) (x7 : Int) (M : Mem) : piece P T k lo F.zoetroperef00_EqBytes 116 [.v (.slice A1 n2 c3), .v (.slice A4 n5 c6), .v (.int .i64 x7)] [] M =
 bb (decide (x7 < (n2 : Int)))
 (pb (0 ≤ x7 ∧ x7 < (n2 : Int))
 (ob A1 fun a12 =>
 ob ((M.ld (plus a12 x7.toNat)).bind (Value.int? .u8)) fun x13 =>
 pb (0 ≤ x7 ∧ x7 < (n5 : Int))
 (ob A4 fun a14 =>
 ob ((M.ld (plus a14 x7.toNat)).bind (Value.int? .u8)) fun x15 =>
 bb (x13 != x15)
 (some (.ret (.bool false) M))
 (some (zoetroperef00_EqBytes.c116 A1 n2 c3 A4 n5 c6 (IntKind.i64.wrap (x7 + 1)) M))) none) none)
 (some (.ret (.bool true) M)) := by kernel_rfl
theorem zoetropelaw22_awake.entry (k lo : Nat) (M : Mem) : entry P T k lo F.zoetropelaw22_awake [] M =
 ob (acall P T k lo F.deblock_Edge [.slice (some ⟨M.length, 0, none⟩) 4 4, .int .i64 4, .int .i64 32, .int .i64 0] (M ++ [⟨.fx, [.int .u8 10, .int .u8 10, .int .u8 20, .int .u8 20]⟩] : Mem)) fun r6 =>
 ob (r6.1.tup? 2) fun l7 =>
 ob ((l7[0]?).bind Value.slc?) fun s8 =>
 ob ((l7[1]?).bind (Value.int? .i64)) fun x9 =>
 ob (acall P T k lo F.deblock_Edge [.slice (some ⟨r6.2.length, 0, none⟩) 8 8, .int .i64 8, .int .i64 63, .int .i64 0] (r6.2 ++ [⟨.fx, [.int .u8 8, .int .u8 8, .int .u8 8, .int .u8 8, .int .u8 12, .int .u8 12, .int .u8 12, .int .u8 12]⟩] : Mem)) fun r10 =>
 ob (r10.1.tup? 2) fun l11 =>
 ob ((l11[0]?).bind Value.slc?) fun s12 =>
 ob ((l11[1]?).bind (Value.int? .i64)) fun x13 =>
 ob (acall P T k lo F.deblock_Edge [.slice (some ⟨r10.2.length, 0, none⟩) 4 4, .int .i64 4, .int .i64 8, .int .i64 0] (r10.2 ++ [⟨.fx, [.int .u8 10, .int .u8 10, .int .u8 90, .int .u8 90]⟩] : Mem)) fun r14 =>
 ob (r14.1.tup? 2) fun l15 =>
 ob ((l15[0]?).bind Value.slc?) fun s16 =>
 ob ((l15[1]?).bind (Value.int? .i64)) fun x17 =>
 bb (x9 == 0)
 (bb (x13 == 0)
 (bb (x17 == 0)
 (ob (acall P T k lo F.zoetroperef00_EqBytes [.slice s8.a s8.n s8.c, .slice (some ⟨r14.2.length, 0, none⟩) 4 4] (r14.2 ++ [⟨.fx, [.int .u8 12, .int .u8 14, .int .u8 16, .int .u8 18]⟩] : Mem)) fun r18 =>
 ob ((some r18.1).bind Value.bool?) fun b19 =>
 bb b19
 (ob (acall P T k lo F.zoetroperef00_EqBytes [.slice s12.a s12.n s12.c, .slice (some ⟨r18.2.length, 0, none⟩) 8 8] (r18.2 ++ [⟨.fx, [.int .u8 8, .int .u8 9, .int .u8 9, .int .u8 10, .int .u8 11, .int .u8 11, .int .u8 12, .int .u8 12]⟩] : Mem)) fun r20 =>
 ob ((some r20.1).bind Value.bool?) fun b21 =>
 bb b21
 (ob (acall P T k lo F.zoetroperef00_EqBytes [.slice s16.a s16.n s16.c, .slice (some ⟨r20.2.length, 0, none⟩) 4 4] (r20.2 ++ [⟨.fx, [.int .u8 10, .int .u8 10, .int .u8 90, .int .u8 90]⟩] : Mem)) fun r22 =>
 ob ((some r22.1).bind Value.bool?) fun b23 =>
 some (.ret (.bool b23) r22.2))
 (some (.ret (.bool false) r20.2)))
 (some (.ret (.bool false) r18.2)))
 (some (.ret (.bool false) r14.2)))
 (some (.ret (.bool false) r14.2)))
 (some (.ret (.bool false) r14.2)) := by kernel_rfl
theorem zoetroperef00_Bring.entry (k lo : Nat) (x1 : Int) (x2 : Int) (M : Mem) : entry P T k lo F.zoetroperef00_Bring [.int .i64 x1, .int .i64 x2] M =
 bb (decide (x2 ≤ 0))
 (some (.ret (.int .i64 0) M))
 (pb (x2 = 0) none
 (bb (decide (Int.tmod x1 x2 < 0))
 (some (zoetroperef00_Bring.c31 (IntKind.i64.wrap ((Int.tmod x1 x2) + x2)) M))
 (some (zoetroperef00_Bring.c31 (Int.tmod x1 x2) M)))) := by kernel_rfl
theorem zoetroperef00_Bring.p31 (k lo : Nat) (x1 : Int) (M : Mem) : piece P T k lo F.zoetroperef00_Bring 31 [.v (.int .i64 x1)] [] M =
 some (.ret (.int .i64 x1) M) := by kernel_rfl
theorem deblock_Pass.entry (k lo : Nat) (x1 : Int) (x2 : Int) (A3 : Option Addr) (n4 : Nat) (c5 : Nat) (x6 : Int) (x7 : Int) (A8 : Option Addr) (n9 : Nat) (c10 : Nat) (A11 : Option Addr) (n12 : Nat) (c13 : Nat) (A14 : Option Addr) (n15 : Nat) (c16 : Nat) (b17 : Bool) (b18 : Bool) (x19 : Int) (x20 : Int) (M : Mem) : entry P T k lo F.deblock_Pass [.agg ⟨[.int .i64 x1, .int .i64 x2, .slice A3 n4 c5]⟩, .agg ⟨[.int .i64 x6, .int .i64 x7, .slice A8 n9 c10, .slice A11 n12 c13, .slice A14 n15 c16]⟩, .bool b17, .bool b18, .int .i64 x19, .int .i64 x20] M =
 ob (acall P T k lo F.deblock_may [.agg ⟨[.int .i64 x1, .int .i64 x2, .slice A3 n4 c5]⟩, .agg ⟨[.int .i64 x6, .int .i64 x7, .slice A8 n9 c10, .slice A11 n12 c13, .slice A14 n15 c16]⟩] M) fun r26 =>
 ob ((some r26.1).bind Value.bool?) fun b27 =>
 bb (!b27)
 (some (.ret (.tuple ⟨[.agg ⟨[.int .i64 0, .int .i64 0, .slice none 0 0]⟩, .int .i64 2]⟩) r26.2))
 (ob (acall P T k lo F.deblock_within [.int .i64 x19, .int .i64 0, .int .i64 63] r26.2) fun r28 =>
 ob ((some r28.1).bind Value.bool?) fun b29 =>
 bb (!b29)
 (some (.ret (.tuple ⟨[.agg ⟨[.int .i64 0, .int .i64 0, .slice none 0 0]⟩, .int .i64 2]⟩) r28.2))
 (ob (acall P T k lo F.deblock_within [.int .i64 x20, .int .i64 0, .int .i64 7] r28.2) fun r30 =>
 ob ((some r30.1).bind Value.bool?) fun b31 =>
 bb (!b31)
 (some (.ret (.tuple ⟨[.agg ⟨[.int .i64 0, .int .i64 0, .slice none 0 0]⟩, .int .i64 2]⟩) r30.2))
 (ob (acall P T k lo F.slices_Clone__uint8_uint8 [.slice A3 n4 c5] r30.2) fun r32 =>
 ob ((some r32.1).bind Value.slc?) fun s33 =>
 bb (x19 == 0)
 (some (.ret (.tuple ⟨[.agg ⟨[.int .i64 x1, .int .i64 x2, .slice s33.a s33.n s33.c]⟩, .int .i64 0]⟩) r32.2))
 (ob (acall P T k lo F.deblock_boundsOf [.int .i64 x19, .int .i64 x20] r32.2) fun r34 =>
 ob ((some r34.1).bind (Value.agg? 3)) fun l35 =>
 ob ((l35[0]?).bind (Value.int? .i64)) fun x36 =>
 ob ((l35[1]?).bind (Value.int? .i64)) fun x37 =>
 ob ((l35[2]?).bind (Value.int? .i64)) fun x38 =>
 bb (!b17)
 (some (deblock_Pass.c255 b17 b18 x1 1 x6 x2 x1 x2 s33.a s33.n s33.c x6 x7 A8 n9 c10 A11 n12 c13 A14 n15 c16 0 0 none 0 0 x36 x37 x38 r34.2))
 (some (deblock_Pass.c255 b17 b18 1 x1 1 x1 x1 x2 s33.a s33.n s33.c x6 x7 A8 n9 c10 A11 n12 c13 A14 n15 c16 0 0 none 0 0 x36 x37 x38 r34.2)))))) := by kernel_rfl
theorem deblock_Pass.p255 (k lo : Nat) (b1 : Bool) (b2 : Bool) (x3 : Int) (x4 : Int) (x5 : Int) (x6 : Int) (x7 : Int) (x8 : Int) (A9 : Option Addr) (n10 : Nat) (c11 : Nat) (x12 : Int) (x13 : Int) (A14 : Option Addr) (n15 : Nat) (c16 : Nat) (A17 : Option Addr) (n18 : Nat) (c19 : Nat) (A20 : Option Addr) (n21 : Nat) (c22 : Nat) (x23 : Int) (x24 : Int) (A25 : Option Addr) (n26 : Nat) (c27 : Nat) (x28 : Int) (x29 : Int) (x30 : Int) (M : Mem) : piece P T k lo F.deblock_Pass 255 [.v (.bool b1), .v (.bool b2), .l 6 0, .l 7 0, .l 12 0, .l 14 0, .v (.int .i64 x3), .v (.int .i64 x4), .v (.int .i64 x5), .v (.int .i64 x6)] [[.int .i64 x7, .int .i64 x8, .slice A9 n10 c11], [.int .i64 x12, .int .i64 x13, .slice A14 n15 c16, .slice A17 n18 c19, .slice A20 n21 c22], [.int .i64 x23, .int .i64 x24, .slice A25 n26 c27], [.int .i64 x28, .int .i64 x29, .int .i64 x30]] M =
 some (deblock_Pass.c4084 b1 b2 x3 x4 x5 x6 A14 n15 c16 (n15 : Int) 0 x7 x8 A9 n10 c11 x12 x13 A14 n15 c16 A17 n18 c19 A20 n21 c22 x23 x24 A25 n26 c27 x28 x29 x30 M) := by kernel_rfl
theorem deblock_Pass.p4084 (k lo : Nat) (b1 : Bool) (b2 : Bool) (x3 : Int) (x4 : Int) (x5 : Int) (x6 : Int) (A7 : Option Addr) (n8 : Nat) (c9 : Nat) (x10 : Int) (x11 : Int) (x12 : Int) (x13 : Int) (A14 : Option Addr) (n15 : Nat) (c16 : Nat) (x17 : Int) (x18 : Int) (A19 : Option Addr) (n20 : Nat) (c21 : Nat) (A22 : Option Addr) (n23 : Nat) (c24 : Nat) (A25 : Option Addr) (n26 : Nat) (c27 : Nat) (x28 : Int) (x29 : Int) (A30 : Option Addr) (n31 : Nat) (c32 : Nat) (x33 : Int) (x34 : Int) (x35 : Int) (M : Mem) : piece P T k lo F.deblock_Pass 4084 [.v (.bool b1), .v (.bool b2), .l 6 0, .l 7 0, .l 12 0, .l 14 0, .v (.int .i64 x3), .v (.int .i64 x4), .v (.int .i64 x5), .v (.int .i64 x6), .v (.slice A7 n8 c9), .v (.int .i64 x10), .v (.int .i64 x11)] [[.int .i64 x12, .int .i64 x13, .slice A14 n15 c16], [.int .i64 x17, .int .i64 x18, .slice A19 n20 c21, .slice A22 n23 c24, .slice A25 n26 c27], [.int .i64 x28, .int .i64 x29, .slice A30 n31 c32], [.int .i64 x33, .int .i64 x34, .int .i64 x35]] M =
 bb (decide (x11 < x10))
 (pb (0 ≤ x11 ∧ x11 < (n8 : Int))
 (ob A7 fun a39 =>
 ob ((M.ld (plus a39 x11.toNat)).bind (Value.int? .u8)) fun x40 =>
 pb (x17 = 0) none
 (pb (x17 = 0) none
 (bb (!b1)
 (some (deblock_Pass.c1045711 b1 b2 x3 x4 x5 x6 x11 x40 (IntKind.i64.wrap (4 * (Int.tmod x11 x17))) (IntKind.i64.wrap (4 * (IntKind.i64.wrap (Int.tdiv x11 x17)))) (IntKind.i64.wrap (4 * (IntKind.i64.wrap (Int.tdiv x11 x17)))) A7 n8 c9 x10 x11 x12 x13 A14 n15 c16 x17 x18 A19 n20 c21 A22 n23 c24 A25 n26 c27 x28 x29 A30 n31 c32 x33 x34 x35 M))
 (some (deblock_Pass.c1045711 b1 b2 x3 x4 x5 x6 x11 x40 (IntKind.i64.wrap (4 * (Int.tmod x11 x17))) (IntKind.i64.wrap (4 * (IntKind.i64.wrap (Int.tdiv x11 x17)))) (IntKind.i64.wrap (4 * (Int.tmod x11 x17))) A7 n8 c9 x10 x11 x12 x13 A14 n15 c16 x17 x18 A19 n20 c21 A22 n23 c24 A25 n26 c27 x28 x29 A30 n31 c32 x33 x34 x35 M))))) none)
 (some (.ret (.tuple ⟨[.agg ⟨[.int .i64 x12, .int .i64 x13, .slice A14 n15 c16]⟩, .int .i64 0]⟩) M)) := by kernel_rfl
theorem deblock_Pass.p32679 (k lo : Nat) (b1 : Bool) (b2 : Bool) (x3 : Int) (x4 : Int) (x5 : Int) (x6 : Int) (A7 : Option Addr) (n8 : Nat) (c9 : Nat) (x10 : Int) (x11 : Int) (x12 : Int) (x13 : Int) (A14 : Option Addr) (n15 : Nat) (c16 : Nat) (x17 : Int) (x18 : Int) (A19 : Option Addr) (n20 : Nat) (c21 : Nat) (A22 : Option Addr) (n23 : Nat) (c24 : Nat) (A25 : Option Addr) (n26 : Nat) (c27 : Nat) (x28 : Int) (x29 : Int) (A30 : Option Addr) (n31 : Nat) (c32 : Nat) (x33 : Int) (x34 : Int) (x35 : Int) (M : Mem) : piece P T k lo F.deblock_Pass 32679 [.v (.bool b1), .v (.bool b2), .l 6 0, .l 7 0, .l 12 0, .l 14 0, .v (.int .i64 x3), .v (.int .i64 x4), .v (.int .i64 x5), .v (.int .i64 x6), .v (.slice A7 n8 c9), .v (.int .i64 x10), .v (.int .i64 x11)] [[.int .i64 x12, .int .i64 x13, .slice A14 n15 c16], [.int .i64 x17, .int .i64 x18, .slice A19 n20 c21, .slice A22 n23 c24, .slice A25 n26 c27], [.int .i64 x28, .int .i64 x29, .slice A30 n31 c32], [.int .i64 x33, .int .i64 x34, .int .i64 x35]] M =
 some (deblock_Pass.c4084 b1 b2 x3 x4 x5 x6 A7 n8 c9 x10 (IntKind.i64.wrap (x11 + 1)) x12 x13 A14 n15 c16 x17 x18 A19 n20 c21 A22 n23 c24 A25 n26 c27 x28 x29 A30 n31 c32 x33 x34 x35 M) := by kernel_rfl
theorem deblock_Pass.p1045711 (k lo : Nat) (b1 : Bool) (b2 : Bool) (x3 : Int) (x4 : Int) (x5 : Int) (x6 : Int) (x7 : Int) (x8 : Int) (x9 : Int) (x10 : Int) (x11 : Int) (A12 : Option Addr) (n13 : Nat) (c14 : Nat) (x15 : Int) (x16 : Int) (x17 : Int) (x18 : Int) (A19 : Option Addr) (n20 : Nat) (c21 : Nat) (x22 : Int) (x23 : Int) (A24 : Option Addr) (n25 : Nat) (c26 : Nat) (A27 : Option Addr) (n28 : Nat) (c29 : Nat) (A30 : Option Addr) (n31 : Nat) (c32 : Nat) (x33 : Int) (x34 : Int) (A35 : Option Addr) (n36 : Nat) (c37 : Nat) (x38 : Int) (x39 : Int) (x40 : Int) (M : Mem) : piece P T k lo F.deblock_Pass 1045711 [.v (.bool b1), .v (.bool b2), .l 6 0, .l 7 0, .l 12 0, .l 14 0, .v (.int .i64 x3), .v (.int .i64 x4), .v (.int .i64 x5), .v (.int .i64 x6), .v (.int .i64 x7), .v (.int .u8 x8), .v (.int .i64 x9), .v (.int .i64 x10), .v (.int .i64 x11), .v (.slice A12 n13 c14), .v (.int .i64 x15), .v (.int .i64 x16)] [[.int .i64 x17, .int .i64 x18, .slice A19 n20 c21], [.int .i64 x22, .int .i64 x23, .slice A24 n25 c26, .slice A27 n28 c29, .slice A30 n31 c32], [.int .i64 x33, .int .i64 x34, .slice A35 n36 c37], [.int .i64 x38, .int .i64 x39, .int .i64 x40]] M =
 bb (x11 == 0)
 (some (deblock_Pass.c32679 b1 b2 x3 x4 x5 x6 A12 n13 c14 x15 x16 x17 x18 A19 n20 c21 x22 x23 A24 n25 c26 A27 n28 c29 A30 n31 c32 x33 x34 A35 n36 c37 x38 x39 x40 M))
 (pb (IntKind.i64.wrap x8 = 0) none
 (bb (Int.tmod x11 (IntKind.i64.wrap x8) != 0)
 (some (deblock_Pass.c32679 b1 b2 x3 x4 x5 x6 A12 n13 c14 x15 x16 x17 x18 A19 n20 c21 x22 x23 A24 n25 c26 A27 n28 c29 A30 n31 c32 x33 x34 A35 n36 c37 x38 x39 x40 M))
 (pb (0 ≤ x7 ∧ x7 < (n28 : Int))
 (ob A27 fun a41 =>
 ob ((M.ld (plus a41 x7.toNat)).bind (Value.int? .i64)) fun x42 =>
 pb (0 ≤ IntKind.i64.wrap (x7 - x5) ∧ IntKind.i64.wrap (x7 - x5) < (n28 : Int))
 (ob A27 fun a43 =>
 ob ((M.ld (plus a43 ((IntKind.i64.wrap (x7 - x5)).toNat))).bind (Value.int? .i64)) fun x44 =>
 bb (x42 == x44)
 (pb (0 ≤ x7 ∧ x7 < (n31 : Int))
 (ob A30 fun a45 =>
 ob ((M.ld (plus a45 x7.toNat)).bind Value.bool?) fun b46 =>
 bb b46
 (pb (0 ≤ IntKind.i64.wrap (x7 - x5) ∧ IntKind.i64.wrap (x7 - x5) < (n31 : Int))
 (ob A30 fun a47 =>
 ob ((M.ld (plus a47 ((IntKind.i64.wrap (x7 - x5)).toNat))).bind Value.bool?) fun b48 =>
 bb b48
 (some (deblock_Pass.c32679 b1 b2 x3 x4 x5 x6 A12 n13 c14 x15 x16 x17 x18 A19 n20 c21 x22 x23 A24 n25 c26 A27 n28 c29 A30 n31 c32 x33 x34 A35 n36 c37 x38 x39 x40 M))
 (pb (0 ≤ IntKind.i64.wrap (x7 - x5) ∧ IntKind.i64.wrap (x7 - x5) < (n25 : Int))
 (ob A24 fun a49 =>
 ob ((M.ld (plus a49 ((IntKind.i64.wrap (x7 - x5)).toNat))).bind (Value.int? .u8)) fun x50 =>
 ob (acall P T k lo F.deblock_reachTaps [.int .i64 (minI (minI (minI (IntKind.i64.wrap x8) (IntKind.i64.wrap x50)) x11) (IntKind.i64.wrap (x6 - x11))), .bool b2] M) fun r51 =>
 ob ((some r51.1).bind (Value.int? .i64)) fun x52 =>
 some (deblock_Pass.c33462780 b1 b2 x3 x4 x5 x6 x9 x10 x52 A12 n13 c14 x15 x16 0 x17 x18 A19 n20 c21 x22 x23 A24 n25 c26 A27 n28 c29 A30 n31 c32 x33 x34 A35 n36 c37 x38 x39 x40 r51.2)) none)) none)
 (pb (0 ≤ IntKind.i64.wrap (x7 - x5) ∧ IntKind.i64.wrap (x7 - x5) < (n25 : Int))
 (ob A24 fun a53 =>
 ob ((M.ld (plus a53 ((IntKind.i64.wrap (x7 - x5)).toNat))).bind (Value.int? .u8)) fun x54 =>
 ob (acall P T k lo F.deblock_reachTaps [.int .i64 (minI (minI (minI (IntKind.i64.wrap x8) (IntKind.i64.wrap x54)) x11) (IntKind.i64.wrap (x6 - x11))), .bool b2] M) fun r55 =>
 ob ((some r55.1).bind (Value.int? .i64)) fun x56 =>
 some (deblock_Pass.c33462780 b1 b2 x3 x4 x5 x6 x9 x10 x56 A12 n13 c14 x15 x16 0 x17 x18 A19 n20 c21 x22 x23 A24 n25 c26 A27 n28 c29 A30 n31 c32 x33 x34 A35 n36 c37 x38 x39 x40 r55.2)) none)) none)
 (pb (0 ≤ IntKind.i64.wrap (x7 - x5) ∧ IntKind.i64.wrap (x7 - x5) < (n25 : Int))
 (ob A24 fun a57 =>
 ob ((M.ld (plus a57 ((IntKind.i64.wrap (x7 - x5)).toNat))).bind (Value.int? .u8)) fun x58 =>
 ob (acall P T k lo F.deblock_reachTaps [.int .i64 (minI (minI (minI (IntKind.i64.wrap x8) (IntKind.i64.wrap x58)) x11) (IntKind.i64.wrap (x6 - x11))), .bool b2] M) fun r59 =>
 ob ((some r59.1).bind (Value.int? .i64)) fun x60 =>
 some (deblock_Pass.c33462780 b1 b2 x3 x4 x5 x6 x9 x10 x60 A12 n13 c14 x15 x16 0 x17 x18 A19 n20 c21 x22 x23 A24 n25 c26 A27 n28 c29 A30 n31 c32 x33 x34 A35 n36 c37 x38 x39 x40 r59.2)) none)) none) none))) := by kernel_rfl
theorem deblock_Pass.p33462780 (k lo : Nat) (b1 : Bool) (b2 : Bool) (x3 : Int) (x4 : Int) (x5 : Int) (x6 : Int) (x7 : Int) (x8 : Int) (x9 : Int) (A10 : Option Addr) (n11 : Nat) (c12 : Nat) (x13 : Int) (x14 : Int) (x15 : Int) (x16 : Int) (x17 : Int) (A18 : Option Addr) (n19 : Nat) (c20 : Nat) (x21 : Int) (x22 : Int) (A23 : Option Addr) (n24 : Nat) (c25 : Nat) (A26 : Option Addr) (n27 : Nat) (c28 : Nat) (A29 : Option Addr) (n30 : Nat) (c31 : Nat) (x32 : Int) (x33 : Int) (A34 : Option Addr) (n35 : Nat) (c36 : Nat) (x37 : Int) (x38 : Int) (x39 : Int) (M : Mem) : piece P T k lo F.deblock_Pass 33462780 [.v (.bool b1), .v (.bool b2), .l 6 0, .l 7 0, .l 12 0, .l 14 0, .v (.int .i64 x3), .v (.int .i64 x4), .v (.int .i64 x5), .v (.int .i64 x6), .v (.int .i64 x7), .v (.int .i64 x8), .v (.int .i64 x9), .v (.slice A10 n11 c12), .v (.int .i64 x13), .v (.int .i64 x14), .v (.int .i64 x15)] [[.int .i64 x16, .int .i64 x17, .slice A18 n19 c20], [.int .i64 x21, .int .i64 x22, .slice A23 n24 c25, .slice A26 n27 c28, .slice A29 n30 c31], [.int .i64 x32, .int .i64 x33, .slice A34 n35 c36], [.int .i64 x37, .int .i64 x38, .int .i64 x39]] M =
 bb (decide (x15 < 4))
 (pb (0 ≤ x9 ∧ room x9.toNat 1)
 (some (deblock_Pass.c68531775092 b1 b2 x3 x4 x5 x6 x7 x8 x9 (IntKind.i64.wrap ((IntKind.i64.wrap ((IntKind.i64.wrap ((IntKind.i64.wrap (x8 * x16)) + x7)) + (IntKind.i64.wrap (x15 * x4)))) - (IntKind.i64.wrap ((IntKind.i64.wrap (Int.tdiv x9 2)) * x3)))) A10 n11 c12 x13 x14 x15 (x9.toNat : Int) 0 x16 x17 A18 n19 c20 x21 x22 A23 n24 c25 A26 n27 c28 A29 n30 c31 x32 x33 A34 n35 c36 x37 x38 x39 (some ⟨M.length, 0, none⟩) x9.toNat x9.toNat (IntKind.i64.wrap (Int.tdiv x9 2)) (M ++ [⟨.fx, zerosL [.int .u8 0] x9.toNat⟩] : Mem))) none)
 (some (deblock_Pass.c32679 b1 b2 x3 x4 x5 x6 A10 n11 c12 x13 x14 x16 x17 A18 n19 c20 x21 x22 A23 n24 c25 A26 n27 c28 A29 n30 c31 x32 x33 A34 n35 c36 x37 x38 x39 M)) := by kernel_rfl
theorem deblock_Pass.p68531775092 (k lo : Nat) (b1 : Bool) (b2 : Bool) (x3 : Int) (x4 : Int) (x5 : Int) (x6 : Int) (x7 : Int) (x8 : Int) (x9 : Int) (x10 : Int) (A11 : Option Addr) (n12 : Nat) (c13 : Nat) (x14 : Int) (x15 : Int) (x16 : Int) (x17 : Int) (x18 : Int) (x19 : Int) (x20 : Int) (A21 : Option Addr) (n22 : Nat) (c23 : Nat) (x24 : Int) (x25 : Int) (A26 : Option Addr) (n27 : Nat) (c28 : Nat) (A29 : Option Addr) (n30 : Nat) (c31 : Nat) (A32 : Option Addr) (n33 : Nat) (c34 : Nat) (x35 : Int) (x36 : Int) (A37 : Option Addr) (n38 : Nat) (c39 : Nat) (x40 : Int) (x41 : Int) (x42 : Int) (A43 : Option Addr) (n44 : Nat) (c45 : Nat) (x46 : Int) (M : Mem) : piece P T k lo F.deblock_Pass 68531775092 [.v (.bool b1), .v (.bool b2), .l 6 0, .l 7 0, .l 12 0, .l 14 0, .v (.int .i64 x3), .v (.int .i64 x4), .v (.int .i64 x5), .v (.int .i64 x6), .v (.int .i64 x7), .v (.int .i64 x8), .v (.int .i64 x9), .v (.int .i64 x10), .l 27 0, .v (.slice A11 n12 c13), .v (.int .i64 x14), .v (.int .i64 x15), .v (.int .i64 x16), .v (.int .i64 x17), .v (.int .i64 x18)] [[.int .i64 x19, .int .i64 x20, .slice A21 n22 c23], [.int .i64 x24, .int .i64 x25, .slice A26 n27 c28, .slice A29 n30 c31, .slice A32 n33 c34], [.int .i64 x35, .int .i64 x36, .slice A37 n38 c39], [.int .i64 x40, .int .i64 x41, .int .i64 x42], [.slice A43 n44 c45, .int .i64 x46]] M =
 bb (decide (x18 < x17))
 (pb (0 ≤ IntKind.i64.wrap (x10 + (IntKind.i64.wrap (x18 * x3))) ∧ IntKind.i64.wrap (x10 + (IntKind.i64.wrap (x18 * x3))) < (n22 : Int))
 (ob A21 fun a61 =>
 ob ((M.ld (plus a61 ((IntKind.i64.wrap (x10 + (IntKind.i64.wrap (x18 * x3)))).toNat))).bind (Value.int? .u8)) fun x62 =>
 pb (0 ≤ x18 ∧ x18 < (n44 : Int))
 (ob A43 fun a63 =>
 ob (M.st lo (plus a63 x18.toNat) [.int .u8 x62]) fun M64 =>
 some (deblock_Pass.c68531775092 b1 b2 x3 x4 x5 x6 x7 x8 x9 x10 A11 n12 c13 x14 x15 x16 x17 (IntKind.i64.wrap (x18 + 1)) x19 x20 A21 n22 c23 x24 x25 A26 n27 c28 A29 n30 c31 A32 n33 c34 x35 x36 A37 n38 c39 x40 x41 x42 A43 n44 c45 x46 M64)) none) none)
 (ob (acall P T k lo F.deblock_line_filter [.agg ⟨[.slice A43 n44 c45, .int .i64 x46]⟩, .agg ⟨[.int .i64 x40, .int .i64 x41, .int .i64 x42]⟩] M) fun r65 =>
 ob ((some r65.1).bind Value.slc?) fun s66 =>
 some (deblock_Pass.c68531775100 b1 b2 x3 x4 x5 x6 x7 x8 x9 x10 A11 n12 c13 x14 x15 x16 s66.a s66.n s66.c (s66.n : Int) 0 x19 x20 A21 n22 c23 x24 x25 A26 n27 c28 A29 n30 c31 A32 n33 c34 x35 x36 A37 n38 c39 x40 x41 x42 r65.2)) := by kernel_rfl
theorem deblock_Pass.p68531775100 (k lo : Nat) (b1 : Bool) (b2 : Bool) (x3 : Int) (x4 : Int) (x5 : Int) (x6 : Int) (x7 : Int) (x8 : Int) (x9 : Int) (x10 : Int) (A11 : Option Addr) (n12 : Nat) (c13 : Nat) (x14 : Int) (x15 : Int) (x16 : Int) (A17 : Option Addr) (n18 : Nat) (c19 : Nat) (x20 : Int) (x21 : Int) (x22 : Int) (x23 : Int) (A24 : Option Addr) (n25 : Nat) (c26 : Nat) (x27 : Int) (x28 : Int) (A29 : Option Addr) (n30 : Nat) (c31 : Nat) (A32 : Option Addr) (n33 : Nat) (c34 : Nat) (A35 : Option Addr) (n36 : Nat) (c37 : Nat) (x38 : Int) (x39 : Int) (A40 : Option Addr) (n41 : Nat) (c42 : Nat) (x43 : Int) (x44 : Int) (x45 : Int) (M : Mem) : piece P T k lo F.deblock_Pass 68531775100 [.v (.bool b1), .v (.bool b2), .l 6 0, .l 7 0, .l 12 0, .l 14 0, .v (.int .i64 x3), .v (.int .i64 x4), .v (.int .i64 x5), .v (.int .i64 x6), .v (.int .i64 x7), .v (.int .i64 x8), .v (.int .i64 x9), .v (.int .i64 x10), .v (.slice A11 n12 c13), .v (.int .i64 x14), .v (.int .i64 x15), .v (.int .i64 x16), .v (.slice A17 n18 c19), .v (.int .i64 x20), .v (.int .i64 x21)] [[.int .i64 x22, .int .i64 x23, .slice A24 n25 c26], [.int .i64 x27, .int .i64 x28, .slice A29 n30 c31, .slice A32 n33 c34, .slice A35 n36 c37], [.int .i64 x38, .int .i64 x39, .slice A40 n41 c42], [.int .i64 x43, .int .i64 x44, .int .i64 x45]] M =
 bb (decide (x21 < x20))
 (pb (0 ≤ x21 ∧ x21 < (n18 : Int))
 (ob A17 fun a67 =>
 ob ((M.ld (plus a67 x21.toNat)).bind (Value.int? .u8)) fun x68 =>
 pb (0 ≤ IntKind.i64.wrap (x10 + (IntKind.i64.wrap (x21 * x3))) ∧ IntKind.i64.wrap (x10 + (IntKind.i64.wrap (x21 * x3))) < (n25 : Int))
 (ob A24 fun a69 =>
 ob (M.st lo (plus a69 ((IntKind.i64.wrap (x10 + (IntKind.i64.wrap (x21 * x3)))).toNat)) [.int .u8 x68]) fun M70 =>
 some (deblock_Pass.c68531775100 b1 b2 x3 x4 x5 x6 x7 x8 x9 x10 A11 n12 c13 x14 x15 x16 A17 n18 c19 x20 (IntKind.i64.wrap (x21 + 1)) x22 x23 A24 n25 c26 x27 x28 A29 n30 c31 A32 n33 c34 A35 n36 c37 x38 x39 A40 n41 c42 x43 x44 x45 M70)) none) none)
 (some (deblock_Pass.c33462780 b1 b2 x3 x4 x5 x6 x7 x8 x9 A11 n12 c13 x14 x15 (IntKind.i64.wrap (x16 + 1)) x22 x23 A24 n25 c26 x27 x28 A29 n30 c31 A32 n33 c34 A35 n36 c37 x38 x39 A40 n41 c42 x43 x44 x45 M)) := by kernel_rfl
theorem zoetropelaw22_copied.entry (k lo : Nat) (x1 : Int) (x2 : Int) (A3 : Option Addr) (n4 : Nat) (c5 : Nat) (A6 : Option Addr) (n7 : Nat) (c8 : Nat) (A9 : Option Addr) (n10 : Nat) (c11 : Nat) (M : Mem) : entry P T k lo F.zoetropelaw22_copied [.agg ⟨[.int .i64 x1, .int .i64 x2, .slice A3 n4 c5, .slice A6 n7 c8, .slice A9 n10 c11]⟩] M =
 ob (acall P T k M.length F.zoetroperef00_CopyBytes [.slice A3 n4 c5] M) fun r17 =>
 ob ((some r17.1).bind Value.slc?) fun s18 =>
 ob (acall P T k M.length F.zoetroperef00_CopyInts [.slice A6 n7 c8] r17.2) fun r19 =>
 ob ((some r19.1).bind Value.slc?) fun s20 =>
 ob (Mem.src r19.2 A9 n10 n10) fun l21 =>
 ob (r19.2.app lo 1 1 ⟨none, 0, 0⟩ l21 n10) fun r22 =>
 some (.ret (.agg ⟨[.int .i64 x1, .int .i64 x2, .slice s18.a s18.n s18.c, .slice s20.a s20.n s20.c, .slice r22.1.a r22.1.n r22.1.c]⟩) r22.2) := by kernel_rfl
theorem zoetroperef22_Pass.entry (k lo : Nat) (x1 : Int) (x2 : Int) (A3 : Option Addr) (n4 : Nat) (c5 : Nat) (x6 : Int) (x7 : Int) (A8 : Option Addr) (n9 : Nat) (c10 : Nat) (A11 : Option Addr) (n12 : Nat) (c13 : Nat) (A14 : Option Addr) (n15 : Nat) (c16 : Nat) (b17 : Bool) (b18 : Bool) (x19 : Int) (x20 : Int) (M : Mem) : entry P T k lo F.zoetroperef22_Pass [.agg ⟨[.int .i64 x1, .int .i64 x2, .slice A3 n4 c5]⟩, .agg ⟨[.int .i64 x6, .int .i64 x7, .slice A8 n9 c10, .slice A11 n12 c13, .slice A14 n15 c16]⟩, .bool b17, .bool b18, .int .i64 x19, .int .i64 x20] M =
 ob (acall P T k lo F.zoetroperef22_may [.agg ⟨[.int .i64 x1, .int .i64 x2, .slice A3 n4 c5]⟩, .agg ⟨[.int .i64 x6, .int .i64 x7, .slice A8 n9 c10, .slice A11 n12 c13, .slice A14 n15 c16]⟩] M) fun r26 =>
 ob ((some r26.1).bind Value.bool?) fun b27 =>
 bb (!b27)
 (some (.ret (.tuple ⟨[.agg ⟨[.int .i64 0, .int .i64 0, .slice none 0 0]⟩, .int .i64 2]⟩) r26.2))
 (bb (decide (x19 < 0))
 (some (.ret (.tuple ⟨[.agg ⟨[.int .i64 0, .int .i64 0, .slice none 0 0]⟩, .int .i64 2]⟩) r26.2))
 (bb (decide (x19 > 63))
 (some (.ret (.tuple ⟨[.agg ⟨[.int .i64 0, .int .i64 0, .slice none 0 0]⟩, .int .i64 2]⟩) r26.2))
 (bb (decide (x20 < 0))
 (some (.ret (.tuple ⟨[.agg ⟨[.int .i64 0, .int .i64 0, .slice none 0 0]⟩, .int .i64 2]⟩) r26.2))
 (bb (decide (x20 > 7))
 (some (.ret (.tuple ⟨[.agg ⟨[.int .i64 0, .int .i64 0, .slice none 0 0]⟩, .int .i64 2]⟩) r26.2))
 (ob (acall P T k lo F.zoetroperef05_CopyPlane [.agg ⟨[.int .i64 x1, .int .i64 x2, .slice A3 n4 c5]⟩] r26.2) fun r28 =>
 ob ((some r28.1).bind (Value.agg? 3)) fun l29 =>
 ob ((l29[0]?).bind (Value.int? .i64)) fun x30 =>
 ob ((l29[1]?).bind (Value.int? .i64)) fun x31 =>
 ob ((l29[2]?).bind Value.slc?) fun s32 =>
 some (zoetroperef22_Pass.c244 b17 b18 x19 x20 0 x1 x2 A3 n4 c5 x6 x7 A8 n9 c10 A11 n12 c13 A14 n15 c16 0 0 none 0 0 x30 x31 s32.a s32.n s32.c r28.2)))))) := by kernel_rfl
theorem zoetroperef22_Pass.p244 (k lo : Nat) (b1 : Bool) (b2 : Bool) (x3 : Int) (x4 : Int) (x5 : Int) (x6 : Int) (x7 : Int) (A8 : Option Addr) (n9 : Nat) (c10 : Nat) (x11 : Int) (x12 : Int) (A13 : Option Addr) (n14 : Nat) (c15 : Nat) (A16 : Option Addr) (n17 : Nat) (c18 : Nat) (A19 : Option Addr) (n20 : Nat) (c21 : Nat) (x22 : Int) (x23 : Int) (A24 : Option Addr) (n25 : Nat) (c26 : Nat) (x27 : Int) (x28 : Int) (A29 : Option Addr) (n30 : Nat) (c31 : Nat) (M : Mem) : piece P T k lo F.zoetroperef22_Pass 244 [.v (.bool b1), .v (.bool b2), .v (.int .i64 x3), .v (.int .i64 x4), .l 6 0, .l 7 0, .l 12 0, .l 14 0, .v (.int .i64 x5)] [[.int .i64 x6, .int .i64 x7, .slice A8 n9 c10], [.int .i64 x11, .int .i64 x12, .slice A13 n14 c15, .slice A16 n17 c18, .slice A19 n20 c21], [.int .i64 x22, .int .i64 x23, .slice A24 n25 c26], [.int .i64 x27, .int .i64 x28, .slice A29 n30 c31]] M =
 bb (decide (x5 < x12))
 (some (zoetroperef22_Pass.c15652 b1 b2 x3 x4 x5 0 x6 x7 A8 n9 c10 x11 x12 A13 n14 c15 A16 n17 c18 A19 n20 c21 x22 x23 A24 n25 c26 x27 x28 A29 n30 c31 M))
 (some (.ret (.tuple ⟨[.agg ⟨[.int .i64 x27, .int .i64 x28, .slice A29 n30 c31]⟩, .int .i64 0]⟩) M)) := by kernel_rfl
theorem zoetroperef22_Pass.p15652 (k lo : Nat) (b1 : Bool) (b2 : Bool) (x3 : Int) (x4 : Int) (x5 : Int) (x6 : Int) (x7 : Int) (x8 : Int) (A9 : Option Addr) (n10 : Nat) (c11 : Nat) (x12 : Int) (x13 : Int) (A14 : Option Addr) (n15 : Nat) (c16 : Nat) (A17 : Option Addr) (n18 : Nat) (c19 : Nat) (A20 : Option Addr) (n21 : Nat) (c22 : Nat) (x23 : Int) (x24 : Int) (A25 : Option Addr) (n26 : Nat) (c27 : Nat) (x28 : Int) (x29 : Int) (A30 : Option Addr) (n31 : Nat) (c32 : Nat) (M : Mem) : piece P T k lo F.zoetroperef22_Pass 15652 [.v (.bool b1), .v (.bool b2), .v (.int .i64 x3), .v (.int .i64 x4), .l 6 0, .l 7 0, .l 12 0, .l 14 0, .v (.int .i64 x5), .v (.int .i64 x6)] [[.int .i64 x7, .int .i64 x8, .slice A9 n10 c11], [.int .i64 x12, .int .i64 x13, .slice A14 n15 c16, .slice A17 n18 c19, .slice A20 n21 c22], [.int .i64 x23, .int .i64 x24, .slice A25 n26 c27], [.int .i64 x28, .int .i64 x29, .slice A30 n31 c32]] M =
 bb (decide (x6 < x12))
 (bb (!b1)
 (some (zoetroperef22_Pass.c1001767 b1 b2 x3 x4 x5 x6 (IntKind.i64.wrap (4 * x5)) x8 (IntKind.i64.wrap ((IntKind.i64.wrap ((IntKind.i64.wrap (x5 - 1)) * x12)) + x6)) x7 1 x7 x8 A9 n10 c11 x12 x13 A14 n15 c16 A17 n18 c19 A20 n21 c22 x23 x24 A25 n26 c27 x28 x29 A30 n31 c32 M))
 (some (zoetroperef22_Pass.c1001767 b1 b2 x3 x4 x5 x6 (IntKind.i64.wrap (4 * x6)) x7 (IntKind.i64.wrap ((IntKind.i64.wrap ((IntKind.i64.wrap (x5 * x12)) + x6)) - 1)) 1 x7 x7 x8 A9 n10 c11 x12 x13 A14 n15 c16 A17 n18 c19 A20 n21 c22 x23 x24 A25 n26 c27 x28 x29 A30 n31 c32 M)))
 (some (zoetroperef22_Pass.c244 b1 b2 x3 x4 (IntKind.i64.wrap (x5 + 1)) x7 x8 A9 n10 c11 x12 x13 A14 n15 c16 A17 n18 c19 A20 n21 c22 x23 x24 A25 n26 c27 x28 x29 A30 n31 c32 M)) := by kernel_rfl
theorem zoetroperef22_Pass.p62611 (k lo : Nat) (b1 : Bool) (b2 : Bool) (x3 : Int) (x4 : Int) (x5 : Int) (x6 : Int) (x7 : Int) (x8 : Int) (A9 : Option Addr) (n10 : Nat) (c11 : Nat) (x12 : Int) (x13 : Int) (A14 : Option Addr) (n15 : Nat) (c16 : Nat) (A17 : Option Addr) (n18 : Nat) (c19 : Nat) (A20 : Option Addr) (n21 : Nat) (c22 : Nat) (x23 : Int) (x24 : Int) (A25 : Option Addr) (n26 : Nat) (c27 : Nat) (x28 : Int) (x29 : Int) (A30 : Option Addr) (n31 : Nat) (c32 : Nat) (M : Mem) : piece P T k lo F.zoetroperef22_Pass 62611 [.v (.bool b1), .v (.bool b2), .v (.int .i64 x3), .v (.int .i64 x4), .l 6 0, .l 7 0, .l 12 0, .l 14 0, .v (.int .i64 x5), .v (.int .i64 x6)] [[.int .i64 x7, .int .i64 x8, .slice A9 n10 c11], [.int .i64 x12, .int .i64 x13, .slice A14 n15 c16, .slice A17 n18 c19, .slice A20 n21 c22], [.int .i64 x23, .int .i64 x24, .slice A25 n26 c27], [.int .i64 x28, .int .i64 x29, .slice A30 n31 c32]] M =
 some (zoetroperef22_Pass.c15652 b1 b2 x3 x4 x5 (IntKind.i64.wrap (x6 + 1)) x7 x8 A9 n10 c11 x12 x13 A14 n15 c16 A17 n18 c19 A20 n21 c22 x23 x24 A25 n26 c27 x28 x29 A30 n31 c32 M) := by kernel_rfl
theorem zoetroperef22_Pass.p1001767 (k lo : Nat) (b1 : Bool) (b2 : Bool) (x3 : Int) (x4 : Int) (x5 : Int) (x6 : Int) (x7 : Int) (x8 : Int) (x9 : Int) (x10 : Int) (x11 : Int) (x12 : Int) (x13 : Int) (A14 : Option Addr) (n15 : Nat) (c16 : Nat) (x17 : Int) (x18 : Int) (A19 : Option Addr) (n20 : Nat) (c21 : Nat) (A22 : Option Addr) (n23 : Nat) (c24 : Nat) (A25 : Option Addr) (n26 : Nat) (c27 : Nat) (x28 : Int) (x29 : Int) (A30 : Option Addr) (n31 : Nat) (c32 : Nat) (x33 : Int) (x34 : Int) (A35 : Option Addr) (n36 : Nat) (c37 : Nat) (M : Mem) : piece P T k lo F.zoetroperef22_Pass 1001767 [.v (.bool b1), .v (.bool b2), .v (.int .i64 x3), .v (.int .i64 x4), .l 6 0, .l 7 0, .l 12 0, .l 14 0, .v (.int .i64 x5), .v (.int .i64 x6), .v (.int .i64 x7), .v (.int .i64 x8), .v (.int .i64 x9), .v (.int .i64 x10), .v (.int .i64 x11)] [[.int .i64 x12, .int .i64 x13, .slice A14 n15 c16], [.int .i64 x17, .int .i64 x18, .slice A19 n20 c21, .slice A22 n23 c24, .slice A25 n26 c27], [.int .i64 x28, .int .i64 x29, .slice A30 n31 c32], [.int .i64 x33, .int .i64 x34, .slice A35 n36 c37]] M =
 bb (x7 == 0)
 (some (zoetroperef22_Pass.c62611 b1 b2 x3 x4 x5 x6 x12 x13 A14 n15 c16 x17 x18 A19 n20 c21 A22 n23 c24 A25 n26 c27 x28 x29 A30 n31 c32 x33 x34 A35 n36 c37 M))
 (pb (0 ≤ IntKind.i64.wrap ((IntKind.i64.wrap (x5 * x17)) + x6) ∧ IntKind.i64.wrap ((IntKind.i64.wrap (x5 * x17)) + x6) < (n20 : Int))
 (ob A19 fun a38 =>
 ob ((M.ld (plus a38 ((IntKind.i64.wrap ((IntKind.i64.wrap (x5 * x17)) + x6)).toNat))).bind (Value.int? .u8)) fun x39 =>
 pb (IntKind.i64.wrap x39 = 0) none
 (bb (Int.tmod x7 (IntKind.i64.wrap x39) != 0)
 (some (zoetroperef22_Pass.c62611 b1 b2 x3 x4 x5 x6 x12 x13 A14 n15 c16 x17 x18 A19 n20 c21 A22 n23 c24 A25 n26 c27 x28 x29 A30 n31 c32 x33 x34 A35 n36 c37 M))
 (pb (0 ≤ IntKind.i64.wrap ((IntKind.i64.wrap (x5 * x17)) + x6) ∧ IntKind.i64.wrap ((IntKind.i64.wrap (x5 * x17)) + x6) < (n23 : Int))
 (ob A22 fun a40 =>
 ob ((M.ld (plus a40 ((IntKind.i64.wrap ((IntKind.i64.wrap (x5 * x17)) + x6)).toNat))).bind (Value.int? .i64)) fun x41 =>
 pb (0 ≤ x9 ∧ x9 < (n23 : Int))
 (ob A22 fun a42 =>
 ob ((M.ld (plus a42 x9.toNat)).bind (Value.int? .i64)) fun x43 =>
 bb (x41 == x43)
 (pb (0 ≤ IntKind.i64.wrap ((IntKind.i64.wrap (x5 * x17)) + x6) ∧ IntKind.i64.wrap ((IntKind.i64.wrap (x5 * x17)) + x6) < (n26 : Int))
 (ob A25 fun a44 =>
 ob ((M.ld (plus a44 ((IntKind.i64.wrap ((IntKind.i64.wrap (x5 * x17)) + x6)).toNat))).bind Value.bool?) fun b45 =>
 bb b45
 (pb (0 ≤ x9 ∧ x9 < (n26 : Int))
 (ob A25 fun a46 =>
 ob ((M.ld (plus a46 x9.toNat)).bind Value.bool?) fun b47 =>
 bb b47
 (some (zoetroperef22_Pass.c62611 b1 b2 x3 x4 x5 x6 x12 x13 A14 n15 c16 x17 x18 A19 n20 c21 A22 n23 c24 A25 n26 c27 x28 x29 A30 n31 c32 x33 x34 A35 n36 c37 M))
 (pb (0 ≤ IntKind.i64.wrap ((IntKind.i64.wrap (x5 * x17)) + x6) ∧ IntKind.i64.wrap ((IntKind.i64.wrap (x5 * x17)) + x6) < (n20 : Int))
 (ob A19 fun a48 =>
 ob ((M.ld (plus a48 ((IntKind.i64.wrap ((IntKind.i64.wrap (x5 * x17)) + x6)).toNat))).bind (Value.int? .u8)) fun x49 =>
 pb (0 ≤ x9 ∧ x9 < (n20 : Int))
 (ob A19 fun a50 =>
 ob ((M.ld (plus a50 x9.toNat)).bind (Value.int? .u8)) fun x51 =>
 some (zoetroperef22_Pass.c64113148 b1 b2 x3 x4 x5 x6 x10 x11 (minI (minI (IntKind.i64.wrap x49) (IntKind.i64.wrap x51)) (minI x7 (IntKind.i64.wrap (x8 - x7)))) 0 x12 x13 A14 n15 c16 x17 x18 A19 n20 c21 A22 n23 c24 A25 n26 c27 x28 x29 A30 n31 c32 x33 x34 A35 n36 c37 M)) none) none)) none)
 (pb (0 ≤ IntKind.i64.wrap ((IntKind.i64.wrap (x5 * x17)) + x6) ∧ IntKind.i64.wrap ((IntKind.i64.wrap (x5 * x17)) + x6) < (n20 : Int))
 (ob A19 fun a52 =>
 ob ((M.ld (plus a52 ((IntKind.i64.wrap ((IntKind.i64.wrap (x5 * x17)) + x6)).toNat))).bind (Value.int? .u8)) fun x53 =>
 pb (0 ≤ x9 ∧ x9 < (n20 : Int))
 (ob A19 fun a54 =>
 ob ((M.ld (plus a54 x9.toNat)).bind (Value.int? .u8)) fun x55 =>
 some (zoetroperef22_Pass.c64113148 b1 b2 x3 x4 x5 x6 x10 x11 (minI (minI (IntKind.i64.wrap x53) (IntKind.i64.wrap x55)) (minI x7 (IntKind.i64.wrap (x8 - x7)))) 0 x12 x13 A14 n15 c16 x17 x18 A19 n20 c21 A22 n23 c24 A25 n26 c27 x28 x29 A30 n31 c32 x33 x34 A35 n36 c37 M)) none) none)) none)
 (pb (0 ≤ IntKind.i64.wrap ((IntKind.i64.wrap (x5 * x17)) + x6) ∧ IntKind.i64.wrap ((IntKind.i64.wrap (x5 * x17)) + x6) < (n20 : Int))
 (ob A19 fun a56 =>
 ob ((M.ld (plus a56 ((IntKind.i64.wrap ((IntKind.i64.wrap (x5 * x17)) + x6)).toNat))).bind (Value.int? .u8)) fun x57 =>
 pb (0 ≤ x9 ∧ x9 < (n20 : Int))
 (ob A19 fun a58 =>
 ob ((M.ld (plus a58 x9.toNat)).bind (Value.int? .u8)) fun x59 =>
 some (zoetroperef22_Pass.c64113148 b1 b2 x3 x4 x5 x6 x10 x11 (minI (minI (IntKind.i64.wrap x57) (IntKind.i64.wrap x59)) (minI x7 (IntKind.i64.wrap (x8 - x7)))) 0 x12 x13 A14 n15 c16 x17 x18 A19 n20 c21 A22 n23 c24 A25 n26 c27 x28 x29 A30 n31 c32 x33 x34 A35 n36 c37 M)) none) none)) none) none))) none) := by kernel_rfl
theorem zoetroperef22_Pass.p64113148 (k lo : Nat) (b1 : Bool) (b2 : Bool) (x3 : Int) (x4 : Int) (x5 : Int) (x6 : Int) (x7 : Int) (x8 : Int) (x9 : Int) (x10 : Int) (x11 : Int) (x12 : Int) (A13 : Option Addr) (n14 : Nat) (c15 : Nat) (x16 : Int) (x17 : Int) (A18 : Option Addr) (n19 : Nat) (c20 : Nat) (A21 : Option Addr) (n22 : Nat) (c23 : Nat) (A24 : Option Addr) (n25 : Nat) (c26 : Nat) (x27 : Int) (x28 : Int) (A29 : Option Addr) (n30 : Nat) (c31 : Nat) (x32 : Int) (x33 : Int) (A34 : Option Addr) (n35 : Nat) (c36 : Nat) (M : Mem) : piece P T k lo F.zoetroperef22_Pass 64113148 [.v (.bool b1), .v (.bool b2), .v (.int .i64 x3), .v (.int .i64 x4), .l 6 0, .l 7 0, .l 12 0, .l 14 0, .v (.int .i64 x5), .v (.int .i64 x6), .v (.int .i64 x7), .v (.int .i64 x8), .v (.int .i64 x9), .v (.int .i64 x10)] [[.int .i64 x11, .int .i64 x12, .slice A13 n14 c15], [.int .i64 x16, .int .i64 x17, .slice A18 n19 c20, .slice A21 n22 c23, .slice A24 n25 c26], [.int .i64 x27, .int .i64 x28, .slice A29 n30 c31], [.int .i64 x32, .int .i64 x33, .slice A34 n35 c36]] M =
 bb (decide (x10 < 4))
 (ob (acall P T k lo F.zoetroperef22_taps [.int .i64 x9, .bool b2] M) fun r60 =>
 ob ((some r60.1).bind (Value.int? .i64)) fun x61 =>
 ob (acall P T k lo F.zoetroperef22_line [.agg ⟨[.int .i64 x32, .int .i64 x33, .slice A34 n35 c36]⟩, .int .i64 (IntKind.i64.wrap ((IntKind.i64.wrap ((IntKind.i64.wrap ((IntKind.i64.wrap (4 * x5)) * x11)) + (IntKind.i64.wrap (4 * x6)))) + (IntKind.i64.wrap (x10 * x8)))), .int .i64 x7, .int .i64 x61, .int .i64 x3, .int .i64 x4] r60.2) fun r62 =>
 ob (r62.1.tup? 0) fun l63 =>
 some (zoetroperef22_Pass.c64113148 b1 b2 x3 x4 x5 x6 x7 x8 x9 (IntKind.i64.wrap (x10 + 1)) x11 x12 A13 n14 c15 x16 x17 A18 n19 c20 A21 n22 c23 A24 n25 c26 x27 x28 A29 n30 c31 x32 x33 A34 n35 c36 r62.2))
 (some (zoetroperef22_Pass.c62611 b1 b2 x3 x4 x5 x6 x11 x12 A13 n14 c15 x16 x17 A18 n19 c20 A21 n22 c23 A24 n25 c26 x27 x28 A29 n30 c31 x32 x33 A34 n35 c36 M)) := by kernel_rfl
theorem zoetropelaw22_fit.entry (k lo : Nat) (x1 : Int) (x2 : Int) (A3 : Option Addr) (n4 : Nat) (c5 : Nat) (M : Mem) : entry P T k lo F.zoetropelaw22_fit [.int .i64 x1, .int .i64 x2, .slice A3 n4 c5] M =
 ob (acall P T k lo F.zoetroperef00_Bring [.int .i64 x1, .int .i64 16] M) fun r11 =>
 ob ((some r11.1).bind (Value.int? .i64)) fun x12 =>
 ob (acall P T k lo F.zoetroperef00_Bring [.int .i64 x2, .int .i64 16] r11.2) fun r13 =>
 ob ((some r13.1).bind (Value.int? .i64)) fun x14 =>
 some (zoetropelaw22_fit.c116 A3 n4 c5 0 0 0 none 0 0 (IntKind.i64.wrap (4 + (IntKind.i64.wrap (4 * x12)))) (IntKind.i64.wrap (4 + (IntKind.i64.wrap (4 * x14)))) none 0 0 r13.2) := by kernel_rfl
theorem zoetropelaw22_fit.p116 (k lo : Nat) (A1 : Option Addr) (n2 : Nat) (c3 : Nat) (x4 : Int) (x5 : Int) (x6 : Int) (A7 : Option Addr) (n8 : Nat) (c9 : Nat) (x10 : Int) (x11 : Int) (A12 : Option Addr) (n13 : Nat) (c14 : Nat) (M : Mem) : piece P T k lo F.zoetropelaw22_fit 116 [.v (.slice A1 n2 c3), .l 6 0, .l 7 0, .v (.int .i64 x4)] [[.int .i64 x5, .int .i64 x6, .slice A7 n8 c9], [.int .i64 x10, .int .i64 x11, .slice A12 n13 c14]] M =
 bb (decide (x4 < IntKind.i64.wrap (x10 * x11)))
 (bb (decide ((n2 : Int) > 0))
 (pb ((n2 : Int) = 0) none
 (pb (0 ≤ Int.tmod x4 (n2 : Int) ∧ Int.tmod x4 (n2 : Int) < (n2 : Int))
 (ob A1 fun a15 =>
 ob ((M.ld (plus a15 ((Int.tmod x4 (n2 : Int)).toNat))).bind (Value.int? .u8)) fun x16 =>
 some (zoetropelaw22_fit.c3731 A1 n2 c3 x4 x16 x5 x6 A7 n8 c9 x10 x11 A12 n13 c14 M)) none))
 (some (zoetropelaw22_fit.c3731 A1 n2 c3 x4 0 x5 x6 A7 n8 c9 x10 x11 A12 n13 c14 M)))
 (some (.ret (.agg ⟨[.int .i64 x10, .int .i64 x11, .slice A12 n13 c14]⟩) M)) := by kernel_rfl
theorem zoetropelaw22_fit.p3731 (k lo : Nat) (A1 : Option Addr) (n2 : Nat) (c3 : Nat) (x4 : Int) (x5 : Int) (x6 : Int) (x7 : Int) (A8 : Option Addr) (n9 : Nat) (c10 : Nat) (x11 : Int) (x12 : Int) (A13 : Option Addr) (n14 : Nat) (c15 : Nat) (M : Mem) : piece P T k lo F.zoetropelaw22_fit 3731 [.v (.slice A1 n2 c3), .l 6 0, .l 7 0, .v (.int .i64 x4), .v (.int .u8 x5)] [[.int .i64 x6, .int .i64 x7, .slice A8 n9 c10], [.int .i64 x11, .int .i64 x12, .slice A13 n14 c15]] M =
 ob (M.app lo 1 1 ⟨A13, n14, c15⟩ ([.int .u8 x5]) 1) fun r17 =>
 some (zoetropelaw22_fit.c116 A1 n2 c3 (IntKind.i64.wrap (x4 + 1)) x6 x7 A8 n9 c10 x11 x12 r17.1.a r17.1.n r17.1.c r17.2) := by kernel_rfl
theorem zoetropelaw22_cells.entry (k lo : Nat) (x1 : Int) (x2 : Int) (A3 : Option Addr) (n4 : Nat) (c5 : Nat) (x6 : Int) (b7 : Bool) (M : Mem) : entry P T k lo F.zoetropelaw22_cells [.agg ⟨[.int .i64 x1, .int .i64 x2, .slice A3 n4 c5]⟩, .int .u8 x6, .bool b7] M =
 some (zoetropelaw22_cells.c116 x6 b7 0 0 0 none 0 0 none 0 0 none 0 0 (IntKind.i64.wrap (Int.tdiv x1 4)) (IntKind.i64.wrap (Int.tdiv x2 4)) none 0 0 none 0 0 none 0 0 M) := by kernel_rfl
theorem zoetropelaw22_cells.p116 (k lo : Nat) (x1 : Int) (b2 : Bool) (x3 : Int) (x4 : Int) (x5 : Int) (A6 : Option Addr) (n7 : Nat) (c8 : Nat) (A9 : Option Addr) (n10 : Nat) (c11 : Nat) (A12 : Option Addr) (n13 : Nat) (c14 : Nat) (x15 : Int) (x16 : Int) (A17 : Option Addr) (n18 : Nat) (c19 : Nat) (A20 : Option Addr) (n21 : Nat) (c22 : Nat) (A23 : Option Addr) (n24 : Nat) (c25 : Nat) (M : Mem) : piece P T k lo F.zoetropelaw22_cells 116 [.v (.int .u8 x1), .v (.bool b2), .l 6 0, .l 7 0, .v (.int .i64 x3)] [[.int .i64 x4, .int .i64 x5, .slice A6 n7 c8, .slice A9 n10 c11, .slice A12 n13 c14], [.int .i64 x15, .int .i64 x16, .slice A17 n18 c19, .slice A20 n21 c22, .slice A23 n24 c25]] M =
 bb (decide (x3 < x16))
 (some (zoetropelaw22_cells.c7460 x1 b2 x3 0 x4 x5 A6 n7 c8 A9 n10 c11 A12 n13 c14 x15 x16 A17 n18 c19 A20 n21 c22 A23 n24 c25 M))
 (some (.ret (.agg ⟨[.int .i64 x15, .int .i64 x16, .slice A17 n18 c19, .slice A20 n21 c22, .slice A23 n24 c25]⟩) M)) := by kernel_rfl
theorem zoetropelaw22_cells.p7460 (k lo : Nat) (x1 : Int) (b2 : Bool) (x3 : Int) (x4 : Int) (x5 : Int) (x6 : Int) (A7 : Option Addr) (n8 : Nat) (c9 : Nat) (A10 : Option Addr) (n11 : Nat) (c12 : Nat) (A13 : Option Addr) (n14 : Nat) (c15 : Nat) (x16 : Int) (x17 : Int) (A18 : Option Addr) (n19 : Nat) (c20 : Nat) (A21 : Option Addr) (n22 : Nat) (c23 : Nat) (A24 : Option Addr) (n25 : Nat) (c26 : Nat) (M : Mem) : piece P T k lo F.zoetropelaw22_cells 7460 [.v (.int .u8 x1), .v (.bool b2), .l 6 0, .l 7 0, .v (.int .i64 x3), .v (.int .i64 x4)] [[.int .i64 x5, .int .i64 x6, .slice A7 n8 c9, .slice A10 n11 c12, .slice A13 n14 c15], [.int .i64 x16, .int .i64 x17, .slice A18 n19 c20, .slice A21 n22 c23, .slice A24 n25 c26]] M =
 bb (decide (x4 < x16))
 (ob (M.app lo 1 1 ⟨A18, n19, c20⟩ ([.int .u8 x1]) 1) fun r27 =>
 pb (IntKind.i64.wrap (Int.tdiv (IntKind.i64.wrap x1) 4) = 0) none
 (pb (IntKind.i64.wrap (Int.tdiv (IntKind.i64.wrap x1) 4) = 0) none
 (ob (r27.2.app lo 1 8 ⟨A21, n22, c23⟩ ([.int .i64 (IntKind.i64.wrap ((IntKind.i64.wrap ((IntKind.i64.wrap (Int.tdiv x3 (IntKind.i64.wrap (Int.tdiv (IntKind.i64.wrap x1) 4)))) * 1000)) + (IntKind.i64.wrap (Int.tdiv x4 (IntKind.i64.wrap (Int.tdiv (IntKind.i64.wrap x1) 4))))))]) 1) fun r28 =>
 ob (r28.2.app lo 1 1 ⟨A24, n25, c26⟩ ([.bool b2]) 1) fun r29 =>
 some (zoetropelaw22_cells.c7460 x1 b2 x3 (IntKind.i64.wrap (x4 + 1)) x5 x6 A7 n8 c9 A10 n11 c12 A13 n14 c15 x16 x17 r27.1.a r27.1.n r27.1.c r28.1.a r28.1.n r28.1.c r29.1.a r29.1.n r29.1.c r29.2))))
 (some (zoetropelaw22_cells.c116 x1 b2 (IntKind.i64.wrap (x3 + 1)) x5 x6 A7 n8 c9 A10 n11 c12 A13 n14 c15 x16 x17 A18 n19 c20 A21 n22 c23 A24 n25 c26 M)) := by kernel_rfl
theorem plane_Same.entry (k lo : Nat) (x1 : Int) (x2 : Int) (A3 : Option Addr) (n4 : Nat) (c5 : Nat) (x6 : Int) (x7 : Int) (A8 : Option Addr) (n9 : Nat) (c10 : Nat) (M : Mem) : entry P T k lo F.plane_Same [.agg ⟨[.int .i64 x1, .int .i64 x2, .slice A3 n4 c5]⟩, .agg ⟨[.int .i64 x6, .int .i64 x7, .slice A8 n9 c10]⟩] M =
 bb (x1 == x6)
 (bb (x2 == x7)
 (ob (acall P T k lo F.slices_Equal__uint8_uint8 [.slice A3 n4 c5, .slice A8 n9 c10] M) fun r16 =>
 ob ((some r16.1).bind Value.bool?) fun b17 =>
 some (.ret (.bool b17) r16.2))
 (some (.ret (.bool false) M)))
 (some (.ret (.bool false) M)) := by kernel_rfl
theorem slices_Contains__int_int.entry (k lo : Nat) (A1 : Option Addr) (n2 : Nat) (c3 : Nat) (x4 : Int) (M : Mem) : entry P T k lo F.slices_Contains__int_int [.slice A1 n2 c3, .int .i64 x4] M =
 ob (acall P T k lo F.slices_Index__int_int [.slice A1 n2 c3, .int .i64 x4] M) fun r10 =>
 ob ((some r10.1).bind (Value.int? .i64)) fun x11 =>
 some (.ret (.bool (decide (x11 ≥ 0))) r10.2) := by kernel_rfl
theorem deblock_within.entry (k lo : Nat) (x1 : Int) (x2 : Int) (x3 : Int) (M : Mem) : entry P T k lo F.deblock_within [.int .i64 x1, .int .i64 x2, .int .i64 x3] M =
 bb (decide (x1 ≥ x2))
 (some (.ret (.bool (decide (x1 ≤ x3))) M))
 (some (.ret (.bool false) M)) := by kernel_rfl
theorem slices_Clone__uint8_uint8.entry (k lo : Nat) (A1 : Option Addr) (n2 : Nat) (c3 : Nat) (M : Mem) : entry P T k lo F.slices_Clone__uint8_uint8 [.slice A1 n2 c3] M =
 bb A1.isNone
 (some (.ret (.slice none 0 0) M))
 (ob (Mem.src (M ++ [⟨.fx, []⟩] : Mem) A1 n2 n2) fun l9 =>
 ob ((M ++ [⟨.fx, []⟩] : Mem).app lo 1 1 ⟨some ⟨M.length, 0, none⟩, 0, 0⟩ l9 n2) fun r10 =>
 some (.ret (.slice r10.1.a r10.1.n r10.1.c) r10.2)) := by kernel_rfl
theorem deblock_line_filter.entry (k lo : Nat) (A1 : Option Addr) (n2 : Nat) (c3 : Nat) (x4 : Int) (x5 : Int) (x6 : Int) (x7 : Int) (M : Mem) : entry P T k lo F.deblock_line_filter [.agg ⟨[.slice A1 n2 c3, .int .i64 x4]⟩, .agg ⟨[.int .i64 x5, .int .i64 x6, .int .i64 x7]⟩] M =
 ob (acall P T k lo F.deblock_line_rough [.agg ⟨[.slice A1 n2 c3, .int .i64 x4]⟩, .agg ⟨[.int .i64 x5, .int .i64 x6, .int .i64 x7]⟩] M) fun r13 =>
 ob ((some r13.1).bind Value.bool?) fun b14 =>
 bb b14
 (ob (acall P T k lo F.slices_Clone__uint8_uint8 [.slice A1 n2 c3] r13.2) fun r15 =>
 ob ((some r15.1).bind Value.slc?) fun s16 =>
 some (.ret (.slice s16.a s16.n s16.c) r15.2))
 (bb ((n2 : Int) == 6)
 (ob (acall P T k lo F.deblock_line_flat [.agg ⟨[.slice A1 n2 c3, .int .i64 x4]⟩, .int .i64 1, .int .i64 2] r13.2) fun r17 =>
 ob ((some r17.1).bind Value.bool?) fun b18 =>
 bb b18
 (ob (acall P T k lo F.deblock_line_wide [.agg ⟨[.slice A1 n2 c3, .int .i64 x4]⟩, .int .i64 2, .int .i64 1, .int .i64 3] r17.2) fun r19 =>
 ob ((some r19.1).bind Value.slc?) fun s20 =>
 some (.ret (.slice s20.a s20.n s20.c) r19.2))
 (bb ((n2 : Int) == 14)
 (ob (acall P T k lo F.deblock_line_flat [.agg ⟨[.slice A1 n2 c3, .int .i64 x4]⟩, .int .i64 1, .int .i64 6] r17.2) fun r21 =>
 ob ((some r21.1).bind Value.bool?) fun b22 =>
 bb b22
 (ob (acall P T k lo F.deblock_line_wide [.agg ⟨[.slice A1 n2 c3, .int .i64 x4]⟩, .int .i64 6, .int .i64 1, .int .i64 4] r21.2) fun r23 =>
 ob ((some r23.1).bind Value.slc?) fun s24 =>
 some (.ret (.slice s24.a s24.n s24.c) r23.2))
 (bb (decide ((n2 : Int) ≥ 8))
 (ob (acall P T k lo F.deblock_line_flat [.agg ⟨[.slice A1 n2 c3, .int .i64 x4]⟩, .int .i64 1, .int .i64 3] r21.2) fun r25 =>
 ob ((some r25.1).bind Value.bool?) fun b26 =>
 bb b26
 (ob (acall P T k lo F.deblock_line_wide [.agg ⟨[.slice A1 n2 c3, .int .i64 x4]⟩, .int .i64 3, .int .i64 0, .int .i64 3] r25.2) fun r27 =>
 ob ((some r27.1).bind Value.slc?) fun s28 =>
 some (.ret (.slice s28.a s28.n s28.c) r27.2))
 (ob (acall P T k lo F.deblock_line_narrow [.agg ⟨[.slice A1 n2 c3, .int .i64 x4]⟩, .agg ⟨[.int .i64 x5, .int .i64 x6, .int .i64 x7]⟩] r25.2) fun r29 =>
 ob ((some r29.1).bind Value.slc?) fun s30 =>
 some (.ret (.slice s30.a s30.n s30.c) r29.2)))
 (ob (acall P T k lo F.deblock_line_narrow [.agg ⟨[.slice A1 n2 c3, .int .i64 x4]⟩, .agg ⟨[.int .i64 x5, .int .i64 x6, .int .i64 x7]⟩] r21.2) fun r31 =>
 ob ((some r31.1).bind Value.slc?) fun s32 =>
 some (.ret (.slice s32.a s32.n s32.c) r31.2))))
 (bb (decide ((n2 : Int) ≥ 8))
 (ob (acall P T k lo F.deblock_line_flat [.agg ⟨[.slice A1 n2 c3, .int .i64 x4]⟩, .int .i64 1, .int .i64 3] r17.2) fun r33 =>
 ob ((some r33.1).bind Value.bool?) fun b34 =>
 bb b34
 (ob (acall P T k lo F.deblock_line_wide [.agg ⟨[.slice A1 n2 c3, .int .i64 x4]⟩, .int .i64 3, .int .i64 0, .int .i64 3] r33.2) fun r35 =>
 ob ((some r35.1).bind Value.slc?) fun s36 =>
 some (.ret (.slice s36.a s36.n s36.c) r35.2))
 (ob (acall P T k lo F.deblock_line_narrow [.agg ⟨[.slice A1 n2 c3, .int .i64 x4]⟩, .agg ⟨[.int .i64 x5, .int .i64 x6, .int .i64 x7]⟩] r33.2) fun r37 =>
 ob ((some r37.1).bind Value.slc?) fun s38 =>
 some (.ret (.slice s38.a s38.n s38.c) r37.2)))
 (ob (acall P T k lo F.deblock_line_narrow [.agg ⟨[.slice A1 n2 c3, .int .i64 x4]⟩, .agg ⟨[.int .i64 x5, .int .i64 x6, .int .i64 x7]⟩] r17.2) fun r39 =>
 ob ((some r39.1).bind Value.slc?) fun s40 =>
 some (.ret (.slice s40.a s40.n s40.c) r39.2)))))
 (bb ((n2 : Int) == 14)
 (ob (acall P T k lo F.deblock_line_flat [.agg ⟨[.slice A1 n2 c3, .int .i64 x4]⟩, .int .i64 1, .int .i64 6] r13.2) fun r41 =>
 ob ((some r41.1).bind Value.bool?) fun b42 =>
 bb b42
 (ob (acall P T k lo F.deblock_line_wide [.agg ⟨[.slice A1 n2 c3, .int .i64 x4]⟩, .int .i64 6, .int .i64 1, .int .i64 4] r41.2) fun r43 =>
 ob ((some r43.1).bind Value.slc?) fun s44 =>
 some (.ret (.slice s44.a s44.n s44.c) r43.2))
 (bb (decide ((n2 : Int) ≥ 8))
 (ob (acall P T k lo F.deblock_line_flat [.agg ⟨[.slice A1 n2 c3, .int .i64 x4]⟩, .int .i64 1, .int .i64 3] r41.2) fun r45 =>
 ob ((some r45.1).bind Value.bool?) fun b46 =>
 bb b46
 (ob (acall P T k lo F.deblock_line_wide [.agg ⟨[.slice A1 n2 c3, .int .i64 x4]⟩, .int .i64 3, .int .i64 0, .int .i64 3] r45.2) fun r47 =>
 ob ((some r47.1).bind Value.slc?) fun s48 =>
 some (.ret (.slice s48.a s48.n s48.c) r47.2))
 (ob (acall P T k lo F.deblock_line_narrow [.agg ⟨[.slice A1 n2 c3, .int .i64 x4]⟩, .agg ⟨[.int .i64 x5, .int .i64 x6, .int .i64 x7]⟩] r45.2) fun r49 =>
 ob ((some r49.1).bind Value.slc?) fun s50 =>
 some (.ret (.slice s50.a s50.n s50.c) r49.2)))
 (ob (acall P T k lo F.deblock_line_narrow [.agg ⟨[.slice A1 n2 c3, .int .i64 x4]⟩, .agg ⟨[.int .i64 x5, .int .i64 x6, .int .i64 x7]⟩] r41.2) fun r51 =>
 ob ((some r51.1).bind Value.slc?) fun s52 =>
 some (.ret (.slice s52.a s52.n s52.c) r51.2))))
 (bb (decide ((n2 : Int) ≥ 8))
 (ob (acall P T k lo F.deblock_line_flat [.agg ⟨[.slice A1 n2 c3, .int .i64 x4]⟩, .int .i64 1, .int .i64 3] r13.2) fun r53 =>
 ob ((some r53.1).bind Value.bool?) fun b54 =>
 bb b54
 (ob (acall P T k lo F.deblock_line_wide [.agg ⟨[.slice A1 n2 c3, .int .i64 x4]⟩, .int .i64 3, .int .i64 0, .int .i64 3] r53.2) fun r55 =>
 ob ((some r55.1).bind Value.slc?) fun s56 =>
 some (.ret (.slice s56.a s56.n s56.c) r55.2))
 (ob (acall P T k lo F.deblock_line_narrow [.agg ⟨[.slice A1 n2 c3, .int .i64 x4]⟩, .agg ⟨[.int .i64 x5, .int .i64 x6, .int .i64 x7]⟩] r53.2) fun r57 =>
 ob ((some r57.1).bind Value.slc?) fun s58 =>
 some (.ret (.slice s58.a s58.n s58.c) r57.2)))
 (ob (acall P T k lo F.deblock_line_narrow [.agg ⟨[.slice A1 n2 c3, .int .i64 x4]⟩, .agg ⟨[.int .i64 x5, .int .i64 x6, .int .i64 x7]⟩] r13.2) fun r59 =>
 ob ((some r59.1).bind Value.slc?) fun s60 =>
 some (.ret (.slice s60.a s60.n s60.c) r59.2))))) := by kernel_rfl
theorem deblock_boundsOf.entry (k lo : Nat) (x1 : Int) (x2 : Int) (M : Mem) : entry P T k lo F.deblock_boundsOf [.int .i64 x1, .int .i64 x2] M =
 bb (decide (x2 > 4))
 (some (deblock_boundsOf.c15 x1 (minI (shrI .i64 x1 2) (IntKind.i64.wrap (9 - x2))) 0 0 0 M))
 (bb (decide (x2 > 0))
 (some (deblock_boundsOf.c15 x1 (minI (shrI .i64 x1 1) (IntKind.i64.wrap (9 - x2))) 0 0 0 M))
 (some (deblock_boundsOf.c15 x1 x1 0 0 0 M))) := by kernel_rfl
theorem deblock_boundsOf.p15 (k lo : Nat) (x1 : Int) (x2 : Int) (x3 : Int) (x4 : Int) (x5 : Int) (M : Mem) : piece P T k lo F.deblock_boundsOf 15 [.v (.int .i64 x1), .l 4 0, .v (.int .i64 x2)] [[.int .i64 x3, .int .i64 x4, .int .i64 x5]] M =
 some (.ret (.agg ⟨[.int .i64 (maxI x2 1), .int .i64 (IntKind.i64.wrap ((IntKind.i64.wrap (2 * (IntKind.i64.wrap (x1 + 2)))) + (maxI x2 1))), .int .i64 (shrI .i64 x1 4)]⟩) M) := by kernel_rfl
end Go.Zt
