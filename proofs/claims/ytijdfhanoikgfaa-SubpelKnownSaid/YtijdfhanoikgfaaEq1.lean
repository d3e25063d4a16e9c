/- What functions come to, from cut to cut. -/
import Derived.Test.YtijdfhanoikgfaaEq0
import Derived.KernelRfl
set_option maxRecDepth 100000
set_option maxHeartbeats 4000000
set_option linter.unusedVariables false
namespace Go.Zt
theorem zoetropelaw14_SubpelTaps.entry (k lo : Nat) (x1 : Int) (x2 : Int) (M : Mem) : entry P T k lo F.zoetropelaw14_SubpelTaps [.int .i64 x1, .int .i64 x2] M =
 some (zoetropelaw14_SubpelTaps.c52 x1 x2 (-1) M) := by kernel_rfl
theorem zoetropelaw14_SubpelTaps.p52 (k lo : Nat) (x1 : Int) (x2 : Int) (x3 : Int) (M : Mem) : piece P T k lo F.zoetropelaw14_SubpelTaps 52 [.v (.int .i64 x1), .v (.int .i64 x2), .v (.int .i64 x3)] [] M =
 bb (decide (x3 < 4))
 (some (zoetropelaw14_SubpelTaps.c3364 x1 x2 x3 (-1) M))
 (ob (acall P T k lo F.subpel_Taps [.int .i64 x1, .int .i64 x2] M) fun r8 =>
 ob (r8.1.tup? 2) fun l9 =>
 ob ((l9[0]?).bind (Value.agg? 8)) fun l10 =>
 ob ((l10[0]?).bind (Value.int? .i64)) fun x11 =>
 ob ((l10[1]?).bind (Value.int? .i64)) fun x12 =>
 ob ((l10[2]?).bind (Value.int? .i64)) fun x13 =>
 ob ((l10[3]?).bind (Value.int? .i64)) fun x14 =>
 ob ((l10[4]?).bind (Value.int? .i64)) fun x15 =>
 ob ((l10[5]?).bind (Value.int? .i64)) fun x16 =>
 ob ((l10[6]?).bind (Value.int? .i64)) fun x17 =>
 ob ((l10[7]?).bind (Value.int? .i64)) fun x18 =>
 ob ((l9[1]?).bind (Value.int? .i64)) fun x19 =>
 ob (acall P T k lo F.zoetroperef14_Taps [.int .i64 x1, .int .i64 x2] r8.2) fun r20 =>
 ob (r20.1.tup? 2) fun l21 =>
 ob ((l21[0]?).bind (Value.agg? 8)) fun l22 =>
 ob ((l22[0]?).bind (Value.int? .i64)) fun x23 =>
 ob ((l22[1]?).bind (Value.int? .i64)) fun x24 =>
 ob ((l22[2]?).bind (Value.int? .i64)) fun x25 =>
 ob ((l22[3]?).bind (Value.int? .i64)) fun x26 =>
 ob ((l22[4]?).bind (Value.int? .i64)) fun x27 =>
 ob ((l22[5]?).bind (Value.int? .i64)) fun x28 =>
 ob ((l22[6]?).bind (Value.int? .i64)) fun x29 =>
 ob ((l22[7]?).bind (Value.int? .i64)) fun x30 =>
 ob ((l21[1]?).bind (Value.int? .i64)) fun x31 =>
 ob (Program.keyLits P 9 22 [.int .i64 x11, .int .i64 x12, .int .i64 x13, .int .i64 x14, .int .i64 x15, .int .i64 x16, .int .i64 x17, .int .i64 x18]) fun q32 => ob (Program.keyLits P 9 22 [.int .i64 x23, .int .i64 x24, .int .i64 x25, .int .i64 x26, .int .i64 x27, .int .i64 x28, .int .i64 x29, .int .i64 x30]) fun q33 =>
 bb (sameLits q32 q33)
 (bb (x19 == x31)
 (ob (acall P T k lo F.zoetropelaw14_works [] r20.2) fun r34 =>
 ob ((some r34.1).bind Value.bool?) fun b35 =>
 some (.ret (.bool b35) r34.2))
 (some (.ret (.bool false) r20.2)))
 (some (.ret (.bool false) r20.2))) := by kernel_rfl
theorem zoetropelaw14_SubpelTaps.p3364 (k lo : Nat) (x1 : Int) (x2 : Int) (x3 : Int) (x4 : Int) (M : Mem) : piece P T k lo F.zoetropelaw14_SubpelTaps 3364 [.v (.int .i64 x1), .v (.int .i64 x2), .v (.int .i64 x3), .v (.int .i64 x4)] [] M =
 bb (decide (x4 < 18))
 (ob (acall P T k lo F.subpel_Taps [.int .i64 x3, .int .i64 x4] M) fun r36 =>
 ob (r36.1.tup? 2) fun l37 =>
 ob ((l37[0]?).bind (Value.agg? 8)) fun l38 =>
 ob ((l38[0]?).bind (Value.int? .i64)) fun x39 =>
 ob ((l38[1]?).bind (Value.int? .i64)) fun x40 =>
 ob ((l38[2]?).bind (Value.int? .i64)) fun x41 =>
 ob ((l38[3]?).bind (Value.int? .i64)) fun x42 =>
 ob ((l38[4]?).bind (Value.int? .i64)) fun x43 =>
 ob ((l38[5]?).bind (Value.int? .i64)) fun x44 =>
 ob ((l38[6]?).bind (Value.int? .i64)) fun x45 =>
 ob ((l38[7]?).bind (Value.int? .i64)) fun x46 =>
 ob ((l37[1]?).bind (Value.int? .i64)) fun x47 =>
 ob (acall P T k lo F.zoetroperef14_Taps [.int .i64 x3, .int .i64 x4] r36.2) fun r48 =>
 ob (r48.1.tup? 2) fun l49 =>
 ob ((l49[0]?).bind (Value.agg? 8)) fun l50 =>
 ob ((l50[0]?).bind (Value.int? .i64)) fun x51 =>
 ob ((l50[1]?).bind (Value.int? .i64)) fun x52 =>
 ob ((l50[2]?).bind (Value.int? .i64)) fun x53 =>
 ob ((l50[3]?).bind (Value.int? .i64)) fun x54 =>
 ob ((l50[4]?).bind (Value.int? .i64)) fun x55 =>
 ob ((l50[5]?).bind (Value.int? .i64)) fun x56 =>
 ob ((l50[6]?).bind (Value.int? .i64)) fun x57 =>
 ob ((l50[7]?).bind (Value.int? .i64)) fun x58 =>
 ob ((l49[1]?).bind (Value.int? .i64)) fun x59 =>
 ob (Program.keyLits P 9 22 [.int .i64 x39, .int .i64 x40, .int .i64 x41, .int .i64 x42, .int .i64 x43, .int .i64 x44, .int .i64 x45, .int .i64 x46]) fun q60 => ob (Program.keyLits P 9 22 [.int .i64 x51, .int .i64 x52, .int .i64 x53, .int .i64 x54, .int .i64 x55, .int .i64 x56, .int .i64 x57, .int .i64 x58]) fun q61 =>
 bb (!sameLits q60 q61)
 (some (.ret (.bool false) r48.2))
 (bb (x47 != x59)
 (some (.ret (.bool false) r48.2))
 (some (zoetropelaw14_SubpelTaps.c3364 x1 x2 x3 (IntKind.i64.wrap (x4 + 1)) r48.2))))
 (some (zoetropelaw14_SubpelTaps.c52 x1 x2 (IntKind.i64.wrap (x3 + 1)) M)) := by kernel_rfl
theorem zoetropelaw14_SubpelFetches.entry (k lo : Nat) (x1 : Int) (x2 : Int) (A3 : Option Addr) (n4 : Nat) (c5 : Nat) (x6 : Int) (x7 : Int) (x8 : Int) (x9 : Int) (x10 : Int) (M : Mem) : entry P T k lo F.zoetropelaw14_SubpelFetches [.agg ⟨[.int .i64 x1, .int .i64 x2, .slice A3 n4 c5]⟩, .agg ⟨[.int .i64 x6, .int .i64 x7, .int .i64 x8, .int .i64 x9, .int .i64 x10]⟩] M =
 ob (acall P T k lo F.zoetroperef05_CopyPlane [.agg ⟨[.int .i64 x1, .int .i64 x2, .slice A3 n4 c5]⟩] M) fun r16 =>
 ob ((some r16.1).bind (Value.agg? 3)) fun l17 =>
 ob ((l17[0]?).bind (Value.int? .i64)) fun x18 =>
 ob ((l17[1]?).bind (Value.int? .i64)) fun x19 =>
 ob ((l17[2]?).bind Value.slc?) fun s20 =>
 ob (acall P T k lo F.subpel_Fetch [.agg ⟨[.int .i64 x18, .int .i64 x19, .slice s20.a s20.n s20.c]⟩, .int .i64 x6, .int .i64 x7, .int .i64 x8, .int .i64 x9, .int .i64 x10] r16.2) fun r21 =>
 ob (r21.1.tup? 2) fun l22 =>
 ob ((l22[0]?).bind Value.slc?) fun s23 =>
 ob ((l22[1]?).bind (Value.int? .i64)) fun x24 =>
 ob (acall P T k lo F.zoetroperef14_Fetch [.agg ⟨[.int .i64 x1, .int .i64 x2, .slice A3 n4 c5]⟩, .int .i64 x6, .int .i64 x7, .int .i64 x8, .int .i64 x9, .int .i64 x10] r21.2) fun r25 =>
 ob (r25.1.tup? 2) fun l26 =>
 ob ((l26[0]?).bind Value.slc?) fun s27 =>
 ob ((l26[1]?).bind (Value.int? .i64)) fun x28 =>
 bb (x24 == x28)
 (ob (acall P T k lo F.zoetroperef00_EqBytes [.slice s23.a s23.n s23.c, .slice s27.a s27.n s27.c] r25.2) fun r29 =>
 ob ((some r29.1).bind Value.bool?) fun b30 =>
 some (zoetropelaw14_SubpelFetches.c1012 s23.a s23.n s23.c b30 0 x1 x2 A3 n4 c5 x18 x19 s20.a s20.n s20.c r29.2))
 (some (zoetropelaw14_SubpelFetches.c1012 s23.a s23.n s23.c false 0 x1 x2 A3 n4 c5 x18 x19 s20.a s20.n s20.c r25.2)) := by kernel_rfl
theorem zoetropelaw14_SubpelFetches.p1012 (k lo : Nat) (A1 : Option Addr) (n2 : Nat) (c3 : Nat) (b4 : Bool) (x5 : Int) (x6 : Int) (x7 : Int) (A8 : Option Addr) (n9 : Nat) (c10 : Nat) (x11 : Int) (x12 : Int) (A13 : Option Addr) (n14 : Nat) (c15 : Nat) (M : Mem) : piece P T k lo F.zoetropelaw14_SubpelFetches 1012 [.l 2 0, .l 5 0, .v (.slice A1 n2 c3), .v (.bool b4), .v (.int .i64 x5)] [[.int .i64 x6, .int .i64 x7, .slice A8 n9 c10], [.int .i64 x11, .int .i64 x12, .slice A13 n14 c15]] M =
 bb (decide (x5 < (n2 : Int)))
 (pb (0 ≤ x5 ∧ x5 < (n2 : Int))
 (ob A1 fun a31 =>
 ob ((M.ld (plus a31 x5.toNat)).bind (Value.int? .u8)) fun x32 =>
 pb (0 ≤ x5 ∧ x5 < (n2 : Int))
 (ob A1 fun a33 =>
 ob (M.st lo (plus a33 x5.toNat) [.int .u8 (xorI .u8 x32 255)]) fun M34 =>
 some (zoetropelaw14_SubpelFetches.c1012 A1 n2 c3 b4 (IntKind.i64.wrap (x5 + 1)) x6 x7 A8 n9 c10 x11 x12 A13 n14 c15 M34)) none) none)
 (bb b4
 (ob (acall P T k lo F.zoetroperef05_Same [.agg ⟨[.int .i64 x11, .int .i64 x12, .slice A13 n14 c15]⟩, .agg ⟨[.int .i64 x6, .int .i64 x7, .slice A8 n9 c10]⟩] M) fun r35 =>
 ob ((some r35.1).bind Value.bool?) fun b36 =>
 bb b36
 (ob (acall P T k lo F.zoetropelaw14_works [] r35.2) fun r37 =>
 ob ((some r37.1).bind Value.bool?) fun b38 =>
 some (.ret (.bool b38) r37.2))
 (some (.ret (.bool false) r35.2)))
 (some (.ret (.bool false) M))) := by kernel_rfl
theorem zoetropelaw14_SubpelKinds.entry (k lo : Nat) (x1 : Int) (x2 : Int) (A3 : Option Addr) (n4 : Nat) (c5 : Nat) (x6 : Int) (x7 : Int) (M : Mem) : entry P T k lo F.zoetropelaw14_SubpelKinds [.agg ⟨[.int .i64 x1, .int .i64 x2, .slice A3 n4 c5]⟩, .int .i64 x6, .int .i64 x7] M =
 ob (acall P T k lo F.zoetroperef00_Bring [.int .i64 x6, .int .i64 40] M) fun r13 =>
 ob ((some r13.1).bind (Value.int? .i64)) fun x14 =>
 ob (acall P T k lo F.zoetroperef00_Bring [.int .i64 x7, .int .i64 40] r13.2) fun r15 =>
 ob ((some r15.1).bind (Value.int? .i64)) fun x16 =>
 some (zoetropelaw14_SubpelKinds.c116 (IntKind.i64.wrap ((IntKind.i64.wrap (x14 * 16)) - 160)) (IntKind.i64.wrap ((IntKind.i64.wrap (x16 * 16)) - 160)) 0 x1 x2 A3 n4 c5 r15.2) := by kernel_rfl
theorem zoetropelaw14_SubpelKinds.p116 (k lo : Nat) (x1 : Int) (x2 : Int) (x3 : Int) (x4 : Int) (x5 : Int) (A6 : Option Addr) (n7 : Nat) (c8 : Nat) (M : Mem) : piece P T k lo F.zoetropelaw14_SubpelKinds 116 [.v (.int .i64 x1), .v (.int .i64 x2), .l 3 0, .v (.int .i64 x3)] [[.int .i64 x4, .int .i64 x5, .slice A6 n7 c8]] M =
 bb (decide (x3 < 16))
 (some (zoetropelaw14_SubpelKinds.c7460 x1 x2 x3 0 x4 x5 A6 n7 c8 M))
 (ob (acall P T k lo F.zoetropelaw14_works [] M) fun r17 =>
 ob ((some r17.1).bind Value.bool?) fun b18 =>
 some (.ret (.bool b18) r17.2)) := by kernel_rfl
theorem zoetropelaw14_SubpelKinds.p7460 (k lo : Nat) (x1 : Int) (x2 : Int) (x3 : Int) (x4 : Int) (x5 : Int) (x6 : Int) (A7 : Option Addr) (n8 : Nat) (c9 : Nat) (M : Mem) : piece P T k lo F.zoetropelaw14_SubpelKinds 7460 [.v (.int .i64 x1), .v (.int .i64 x2), .l 3 0, .v (.int .i64 x3), .v (.int .i64 x4)] [[.int .i64 x5, .int .i64 x6, .slice A7 n8 c9]] M =
 bb (decide (x4 < 3))
 (ob (acall P T k lo F.subpel_Fetch [.agg ⟨[.int .i64 x5, .int .i64 x6, .slice A7 n8 c9]⟩, .int .i64 (IntKind.i64.wrap (x1 + x3)), .int .i64 (IntKind.i64.wrap (x2 + (Int.tmod (IntKind.i64.wrap ((IntKind.i64.wrap (x3 * 7)) + x4)) 16))), .int .i64 4, .int .i64 4, .int .i64 x4] M) fun r19 =>
 ob (r19.1.tup? 2) fun l20 =>
 ob ((l20[0]?).bind Value.slc?) fun s21 =>
 ob ((l20[1]?).bind (Value.int? .i64)) fun x22 =>
 ob (acall P T k lo F.zoetroperef14_Fetch [.agg ⟨[.int .i64 x5, .int .i64 x6, .slice A7 n8 c9]⟩, .int .i64 (IntKind.i64.wrap (x1 + x3)), .int .i64 (IntKind.i64.wrap (x2 + (Int.tmod (IntKind.i64.wrap ((IntKind.i64.wrap (x3 * 7)) + x4)) 16))), .int .i64 4, .int .i64 4, .int .i64 x4] r19.2) fun r23 =>
 ob (r23.1.tup? 2) fun l24 =>
 ob ((l24[0]?).bind Value.slc?) fun s25 =>
 ob ((l24[1]?).bind (Value.int? .i64)) fun x26 =>
 bb (x22 != x26)
 (some (.ret (.bool false) r23.2))
 (ob (acall P T k lo F.zoetroperef00_EqBytes [.slice s21.a s21.n s21.c, .slice s25.a s25.n s25.c] r23.2) fun r27 =>
 ob ((some r27.1).bind Value.bool?) fun b28 =>
 bb (!b28)
 (some (.ret (.bool false) r27.2))
 (some (zoetropelaw14_SubpelKinds.c7460 x1 x2 x3 (IntKind.i64.wrap (x4 + 1)) x5 x6 A7 n8 c9 r27.2))))
 (some (zoetropelaw14_SubpelKinds.c116 x1 x2 (IntKind.i64.wrap (x3 + 1)) x5 x6 A7 n8 c9 M)) := by kernel_rfl
theorem zoetropelaw14_SubpelTurned.entry (k lo : Nat) (x1 : Int) (x2 : Int) (A3 : Option Addr) (n4 : Nat) (c5 : Nat) (x6 : Int) (x7 : Int) (x8 : Int) (x9 : Int) (x10 : Int) (M : Mem) : entry P T k lo F.zoetropelaw14_SubpelTurned [.agg ⟨[.int .i64 x1, .int .i64 x2, .slice A3 n4 c5]⟩, .agg ⟨[.int .i64 x6, .int .i64 x7, .int .i64 x8, .int .i64 x9, .int .i64 x10]⟩] M =
 ob (acall P T k lo F.zoetropelaw14_works [] M) fun r16 =>
 ob ((some r16.1).bind Value.bool?) fun b17 =>
 bb (!b17)
 (some (.ret (.bool false) r16.2))
 (ob (acall P T k lo F.plane_Check [.agg ⟨[.int .i64 x1, .int .i64 x2, .slice A3 n4 c5]⟩] r16.2) fun r18 =>
 ob ((some r18.1).bind (Value.int? .i64)) fun x19 =>
 bb (x19 != 0)
 (ob (acall P T k lo F.plane_Check [.agg ⟨[.int .i64 x1, .int .i64 x2, .slice A3 n4 c5]⟩] r18.2) fun r20 =>
 ob ((some r20.1).bind (Value.int? .i64)) fun x21 =>
 some (.ret (.bool (x21 != 0)) r20.2))
 (bb (decide (x1 < 1))
 (ob (acall P T k lo F.plane_Check [.agg ⟨[.int .i64 x1, .int .i64 x2, .slice A3 n4 c5]⟩] r18.2) fun r22 =>
 ob ((some r22.1).bind (Value.int? .i64)) fun x23 =>
 some (.ret (.bool (x23 != 0)) r22.2))
 (bb ((n4 : Int) != IntKind.i64.wrap (x1 * x2))
 (ob (acall P T k lo F.plane_Check [.agg ⟨[.int .i64 x1, .int .i64 x2, .slice A3 n4 c5]⟩] r18.2) fun r24 =>
 ob ((some r24.1).bind (Value.int? .i64)) fun x25 =>
 some (.ret (.bool (x25 != 0)) r24.2))
 (ob (acall P T k lo F.zoetropelaw14_may [.agg ⟨[.int .i64 x6, .int .i64 x7, .int .i64 x8, .int .i64 x9, .int .i64 x10]⟩] r18.2) fun r26 =>
 ob ((some r26.1).bind (Value.agg? 5)) fun l27 =>
 ob ((l27[0]?).bind (Value.int? .i64)) fun x28 =>
 ob ((l27[1]?).bind (Value.int? .i64)) fun x29 =>
 ob ((l27[2]?).bind (Value.int? .i64)) fun x30 =>
 ob ((l27[3]?).bind (Value.int? .i64)) fun x31 =>
 ob ((l27[4]?).bind (Value.int? .i64)) fun x32 =>
 ob (acall P T k lo F.subpel_Fetch [.agg ⟨[.int .i64 x1, .int .i64 x2, .slice A3 n4 c5]⟩, .int .i64 x28, .int .i64 x29, .int .i64 x30, .int .i64 x31, .int .i64 x32] r26.2) fun r33 =>
 ob (r33.1.tup? 2) fun l34 =>
 ob ((l34[0]?).bind Value.slc?) fun s35 =>
 ob ((l34[1]?).bind (Value.int? .i64)) fun x36 =>
 ob (acall P T k r33.2.length F.zoetropelaw14_mirrored [.agg ⟨[.int .i64 x1, .int .i64 x2, .slice A3 n4 c5]⟩, .bool true] r33.2) fun r37 =>
 ob ((some r37.1).bind (Value.agg? 3)) fun l38 =>
 ob ((l38[0]?).bind (Value.int? .i64)) fun x39 =>
 ob ((l38[1]?).bind (Value.int? .i64)) fun x40 =>
 ob ((l38[2]?).bind Value.slc?) fun s41 =>
 ob (acall P T k r33.2.length F.subpel_Fetch [.agg ⟨[.int .i64 x39, .int .i64 x40, .slice s41.a s41.n s41.c]⟩, .int .i64 (IntKind.i64.wrap ((IntKind.i64.wrap (16 * (IntKind.i64.wrap (x1 - x30)))) - x28)), .int .i64 x29, .int .i64 x30, .int .i64 x31, .int .i64 x32] r37.2) fun r42 =>
 ob (r42.1.tup? 2) fun l43 =>
 ob ((l43[0]?).bind Value.slc?) fun s44 =>
 ob ((l43[1]?).bind (Value.int? .i64)) fun x45 =>
 ob (acall P T k r42.2.length F.zoetropelaw14_mirrored [.agg ⟨[.int .i64 x1, .int .i64 x2, .slice A3 n4 c5]⟩, .bool false] r42.2) fun r46 =>
 ob ((some r46.1).bind (Value.agg? 3)) fun l47 =>
 ob ((l47[0]?).bind (Value.int? .i64)) fun x48 =>
 ob ((l47[1]?).bind (Value.int? .i64)) fun x49 =>
 ob ((l47[2]?).bind Value.slc?) fun s50 =>
 ob (acall P T k r42.2.length F.subpel_Fetch [.agg ⟨[.int .i64 x48, .int .i64 x49, .slice s50.a s50.n s50.c]⟩, .int .i64 x28, .int .i64 (IntKind.i64.wrap ((IntKind.i64.wrap (16 * (IntKind.i64.wrap (x2 - x31)))) - x29)), .int .i64 x30, .int .i64 x31, .int .i64 x32] r46.2) fun r51 =>
 ob (r51.1.tup? 2) fun l52 =>
 ob ((l52[0]?).bind Value.slc?) fun s53 =>
 ob ((l52[1]?).bind (Value.int? .i64)) fun x54 =>
 bb (x36 != 0)
 (some (.ret (.bool false) r51.2))
 (bb (x45 != 0)
 (some (.ret (.bool false) r51.2))
 (bb (x54 != 0)
 (some (.ret (.bool false) r51.2))
 (bb ((s35.n : Int) != IntKind.i64.wrap (x30 * x31))
 (some (.ret (.bool false) r51.2))
 (bb ((s44.n : Int) != (s35.n : Int))
 (some (.ret (.bool false) r51.2))
 (bb ((s53.n : Int) != (s35.n : Int))
 (some (.ret (.bool false) r51.2))
 (some (zoetropelaw14_SubpelTurned.c8180 s35.a s35.n s35.c s44.a s44.n s44.c s53.a s53.n s53.c 0 x28 x29 x30 x31 x32 r51.2))))))))))) := by kernel_rfl
theorem zoetropelaw14_SubpelTurned.p8180 (k lo : Nat) (A1 : Option Addr) (n2 : Nat) (c3 : Nat) (A4 : Option Addr) (n5 : Nat) (c6 : Nat) (A7 : Option Addr) (n8 : Nat) (c9 : Nat) (x10 : Int) (x11 : Int) (x12 : Int) (x13 : Int) (x14 : Int) (x15 : Int) (M : Mem) : piece P T k lo F.zoetropelaw14_SubpelTurned 8180 [.l 3 0, .v (.slice A1 n2 c3), .v (.slice A4 n5 c6), .v (.slice A7 n8 c9), .v (.int .i64 x10)] [[.int .i64 x11, .int .i64 x12, .int .i64 x13, .int .i64 x14, .int .i64 x15]] M =
 bb (decide (x10 < (n2 : Int)))
 (pb (x13 = 0) none
 (pb (x13 = 0) none
 (pb (0 ≤ IntKind.i64.wrap ((IntKind.i64.wrap ((IntKind.i64.wrap ((IntKind.i64.wrap ((IntKind.i64.wrap (Int.tdiv x10 x13)) * x13)) + x13)) - 1)) - (Int.tmod x10 x13)) ∧ IntKind.i64.wrap ((IntKind.i64.wrap ((IntKind.i64.wrap ((IntKind.i64.wrap ((IntKind.i64.wrap (Int.tdiv x10 x13)) * x13)) + x13)) - 1)) - (Int.tmod x10 x13)) < (n5 : Int))
 (ob A4 fun a55 =>
 ob ((M.ld (plus a55 ((IntKind.i64.wrap ((IntKind.i64.wrap ((IntKind.i64.wrap ((IntKind.i64.wrap ((IntKind.i64.wrap (Int.tdiv x10 x13)) * x13)) + x13)) - 1)) - (Int.tmod x10 x13))).toNat))).bind (Value.int? .u8)) fun x56 =>
 pb (0 ≤ x10 ∧ x10 < (n2 : Int))
 (ob A1 fun a57 =>
 ob ((M.ld (plus a57 x10.toNat)).bind (Value.int? .u8)) fun x58 =>
 bb (x56 != x58)
 (some (.ret (.bool false) M))
 (pb (0 ≤ IntKind.i64.wrap ((IntKind.i64.wrap ((IntKind.i64.wrap ((IntKind.i64.wrap (x14 - 1)) - (IntKind.i64.wrap (Int.tdiv x10 x13)))) * x13)) + (Int.tmod x10 x13)) ∧ IntKind.i64.wrap ((IntKind.i64.wrap ((IntKind.i64.wrap ((IntKind.i64.wrap (x14 - 1)) - (IntKind.i64.wrap (Int.tdiv x10 x13)))) * x13)) + (Int.tmod x10 x13)) < (n8 : Int))
 (ob A7 fun a59 =>
 ob ((M.ld (plus a59 ((IntKind.i64.wrap ((IntKind.i64.wrap ((IntKind.i64.wrap ((IntKind.i64.wrap (x14 - 1)) - (IntKind.i64.wrap (Int.tdiv x10 x13)))) * x13)) + (Int.tmod x10 x13))).toNat))).bind (Value.int? .u8)) fun x60 =>
 pb (0 ≤ x10 ∧ x10 < (n2 : Int))
 (ob A1 fun a61 =>
 ob ((M.ld (plus a61 x10.toNat)).bind (Value.int? .u8)) fun x62 =>
 bb (x60 != x62)
 (some (.ret (.bool false) M))
 (some (zoetropelaw14_SubpelTurned.c8180 A1 n2 c3 A4 n5 c6 A7 n8 c9 (IntKind.i64.wrap (x10 + 1)) x11 x12 x13 x14 x15 M))) none) none)) none) none)))
 (some (.ret (.bool true) M)) := by kernel_rfl
theorem zoetropelaw14_SubpelParts.entry (k lo : Nat) (x1 : Int) (x2 : Int) (A3 : Option Addr) (n4 : Nat) (c5 : Nat) (x6 : Int) (x7 : Int) (x8 : Int) (x9 : Int) (x10 : Int) (x11 : Int) (x12 : Int) (M : Mem) : entry P T k lo F.zoetropelaw14_SubpelParts [.agg ⟨[.int .i64 x1, .int .i64 x2, .slice A3 n4 c5]⟩, .agg ⟨[.int .i64 x6, .int .i64 x7, .int .i64 x8, .int .i64 x9, .int .i64 x10]⟩, .agg ⟨[.int .i64 x11, .int .i64 x12]⟩] M =
 ob (acall P T k lo F.zoetropelaw14_works [] M) fun r18 =>
 ob ((some r18.1).bind Value.bool?) fun b19 =>
 bb (!b19)
 (some (.ret (.bool false) r18.2))
 (ob (acall P T k lo F.plane_Check [.agg ⟨[.int .i64 x1, .int .i64 x2, .slice A3 n4 c5]⟩] r18.2) fun r20 =>
 ob ((some r20.1).bind (Value.int? .i64)) fun x21 =>
 bb (x21 != 0)
 (some (.ret (.bool true) r20.2))
 (ob (acall P T k lo F.zoetropelaw14_may [.agg ⟨[.int .i64 x6, .int .i64 x7, .int .i64 x8, .int .i64 x9, .int .i64 x10]⟩] r20.2) fun r22 =>
 ob ((some r22.1).bind (Value.agg? 5)) fun l23 =>
 ob ((l23[0]?).bind (Value.int? .i64)) fun x24 =>
 ob ((l23[1]?).bind (Value.int? .i64)) fun x25 =>
 ob ((l23[2]?).bind (Value.int? .i64)) fun x26 =>
 ob ((l23[3]?).bind (Value.int? .i64)) fun x27 =>
 ob ((l23[4]?).bind (Value.int? .i64)) fun x28 =>
 ob (acall P T k lo F.subpel_Fetch [.agg ⟨[.int .i64 x1, .int .i64 x2, .slice A3 n4 c5]⟩, .int .i64 x24, .int .i64 x25, .int .i64 x26, .int .i64 x27, .int .i64 x28] r22.2) fun r29 =>
 ob (r29.1.tup? 2) fun l30 =>
 ob ((l30[0]?).bind Value.slc?) fun s31 =>
 ob ((l30[1]?).bind (Value.int? .i64)) fun x32 =>
 ob (acall P T k r29.2.length F.zoetroperef00_Bring [.int .i64 x11, .int .i64 (IntKind.i64.wrap (x26 - 3))] r29.2) fun r33 =>
 ob ((some r33.1).bind (Value.int? .i64)) fun x34 =>
 ob (acall P T k r29.2.length F.zoetroperef00_Bring [.int .i64 x12, .int .i64 (IntKind.i64.wrap (x27 - 3))] r33.2) fun r35 =>
 ob ((some r35.1).bind (Value.int? .i64)) fun x36 =>
 ob (acall P T k lo F.subpel_Fetch [.agg ⟨[.int .i64 x1, .int .i64 x2, .slice A3 n4 c5]⟩, .int .i64 (IntKind.i64.wrap (x24 + (IntKind.i64.wrap (16 * x34)))), .int .i64 (IntKind.i64.wrap (x25 + (IntKind.i64.wrap (16 * x36)))), .int .i64 4, .int .i64 4, .int .i64 x28] r35.2) fun r37 =>
 ob (r37.1.tup? 2) fun l38 =>
 ob ((l38[0]?).bind Value.slc?) fun s39 =>
 ob ((l38[1]?).bind (Value.int? .i64)) fun x40 =>
 bb (x32 != 0)
 (some (.ret (.bool false) r37.2))
 (bb (x40 != 0)
 (some (.ret (.bool false) r37.2))
 (bb ((s31.n : Int) != IntKind.i64.wrap (x26 * x27))
 (some (.ret (.bool false) r37.2))
 (bb ((s39.n : Int) != 16)
 (some (.ret (.bool false) r37.2))
 (some (zoetropelaw14_SubpelParts.c8180 s31.a s31.n s31.c x34 x36 s39.a s39.n s39.c 0 x24 x25 x26 x27 x28 r37.2))))))) := by kernel_rfl
theorem zoetropelaw14_SubpelParts.p8180 (k lo : Nat) (A1 : Option Addr) (n2 : Nat) (c3 : Nat) (x4 : Int) (x5 : Int) (A6 : Option Addr) (n7 : Nat) (c8 : Nat) (x9 : Int) (x10 : Int) (x11 : Int) (x12 : Int) (x13 : Int) (x14 : Int) (M : Mem) : piece P T k lo F.zoetropelaw14_SubpelParts 8180 [.l 4 0, .v (.slice A1 n2 c3), .v (.int .i64 x4), .v (.int .i64 x5), .v (.slice A6 n7 c8), .v (.int .i64 x9)] [[.int .i64 x10, .int .i64 x11, .int .i64 x12, .int .i64 x13, .int .i64 x14]] M =
 bb (decide (x9 < 16))
 (pb (0 ≤ x9 ∧ x9 < (n7 : Int))
 (ob A6 fun a41 =>
 ob ((M.ld (plus a41 x9.toNat)).bind (Value.int? .u8)) fun x42 =>
 pb (0 ≤ IntKind.i64.wrap ((IntKind.i64.wrap ((IntKind.i64.wrap ((IntKind.i64.wrap (x5 + (IntKind.i64.wrap (Int.tdiv x9 4)))) * x12)) + x4)) + (Int.tmod x9 4)) ∧ IntKind.i64.wrap ((IntKind.i64.wrap ((IntKind.i64.wrap ((IntKind.i64.wrap (x5 + (IntKind.i64.wrap (Int.tdiv x9 4)))) * x12)) + x4)) + (Int.tmod x9 4)) < (n2 : Int))
 (ob A1 fun a43 =>
 ob ((M.ld (plus a43 ((IntKind.i64.wrap ((IntKind.i64.wrap ((IntKind.i64.wrap ((IntKind.i64.wrap (x5 + (IntKind.i64.wrap (Int.tdiv x9 4)))) * x12)) + x4)) + (Int.tmod x9 4))).toNat))).bind (Value.int? .u8)) fun x44 =>
 bb (x42 != x44)
 (some (.ret (.bool false) M))
 (some (zoetropelaw14_SubpelParts.c8180 A1 n2 c3 x4 x5 A6 n7 c8 (IntKind.i64.wrap (x9 + 1)) x10 x11 x12 x13 x14 M))) none) none)
 (some (.ret (.bool true) M)) := by kernel_rfl
theorem zoetropelaw14_SubpelBetween.entry (k lo : Nat) (x1 : Int) (x2 : Int) (A3 : Option Addr) (n4 : Nat) (c5 : Nat) (x6 : Int) (x7 : Int) (x8 : Int) (x9 : Int) (x10 : Int) (M : Mem) : entry P T k lo F.zoetropelaw14_SubpelBetween [.agg ⟨[.int .i64 x1, .int .i64 x2, .slice A3 n4 c5]⟩, .agg ⟨[.int .i64 x6, .int .i64 x7, .int .i64 x8, .int .i64 x9, .int .i64 x10]⟩] M =
 ob (acall P T k lo F.zoetropelaw14_works [] M) fun r16 =>
 ob ((some r16.1).bind Value.bool?) fun b17 =>
 bb (!b17)
 (some (.ret (.bool false) r16.2))
 (ob (acall P T k lo F.plane_Check [.agg ⟨[.int .i64 x1, .int .i64 x2, .slice A3 n4 c5]⟩] r16.2) fun r18 =>
 ob ((some r18.1).bind (Value.int? .i64)) fun x19 =>
 bb (x19 != 0)
 (some (.ret (.bool true) r18.2))
 (ob (acall P T k lo F.zoetropelaw14_may [.agg ⟨[.int .i64 x6, .int .i64 x7, .int .i64 x8, .int .i64 x9, .int .i64 x10]⟩] r18.2) fun r20 =>
 ob ((some r20.1).bind (Value.agg? 5)) fun l21 =>
 ob ((l21[0]?).bind (Value.int? .i64)) fun x22 =>
 ob ((l21[1]?).bind (Value.int? .i64)) fun x23 =>
 ob ((l21[2]?).bind (Value.int? .i64)) fun x24 =>
 ob ((l21[3]?).bind (Value.int? .i64)) fun x25 =>
 ob ((l21[4]?).bind (Value.int? .i64)) fun x26 =>
 some (zoetropelaw14_SubpelBetween.c1012 255 0 0 x1 x2 A3 n4 c5 x22 x23 x24 x25 x26 r20.2))) := by kernel_rfl
theorem zoetropelaw14_SubpelBetween.p1012 (k lo : Nat) (x1 : Int) (x2 : Int) (x3 : Int) (x4 : Int) (x5 : Int) (A6 : Option Addr) (n7 : Nat) (c8 : Nat) (x9 : Int) (x10 : Int) (x11 : Int) (x12 : Int) (x13 : Int) (M : Mem) : piece P T k lo F.zoetropelaw14_SubpelBetween 1012 [.l 2 0, .l 3 0, .v (.int .u8 x1), .v (.int .u8 x2), .v (.int .i64 x3)] [[.int .i64 x4, .int .i64 x5, .slice A6 n7 c8], [.int .i64 x9, .int .i64 x10, .int .i64 x11, .int .i64 x12, .int .i64 x13]] M =
 bb (decide (x3 < (n7 : Int)))
 (pb (0 ≤ x3 ∧ x3 < (n7 : Int))
 (ob A6 fun a27 =>
 ob ((M.ld (plus a27 x3.toNat)).bind (Value.int? .u8)) fun x28 =>
 pb (0 ≤ x3 ∧ x3 < (n7 : Int))
 (ob A6 fun a29 =>
 ob ((M.ld (plus a29 x3.toNat)).bind (Value.int? .u8)) fun x30 =>
 some (zoetropelaw14_SubpelBetween.c1012 (minI x1 x28) (maxI x2 x30) (IntKind.i64.wrap (x3 + 1)) x4 x5 A6 n7 c8 x9 x10 x11 x12 x13 M)) none) none)
 (ob (acall P T k lo F.subpel_Fetch [.agg ⟨[.int .i64 x4, .int .i64 x5, .slice A6 n7 c8]⟩, .int .i64 x9, .int .i64 x10, .int .i64 x11, .int .i64 x12, .int .i64 2] M) fun r31 =>
 ob (r31.1.tup? 2) fun l32 =>
 ob ((l32[0]?).bind Value.slc?) fun s33 =>
 ob ((l32[1]?).bind (Value.int? .i64)) fun x34 =>
 bb (x34 != 0)
 (some (.ret (.bool false) r31.2))
 (bb ((s33.n : Int) != IntKind.i64.wrap (x11 * x12))
 (some (.ret (.bool false) r31.2))
 (some (zoetropelaw14_SubpelBetween.c8180 x1 x2 s33.a s33.n s33.c 0 r31.2)))) := by kernel_rfl
theorem zoetropelaw14_SubpelBetween.p8180 (k lo : Nat) (x1 : Int) (x2 : Int) (A3 : Option Addr) (n4 : Nat) (c5 : Nat) (x6 : Int) (M : Mem) : piece P T k lo F.zoetropelaw14_SubpelBetween 8180 [.v (.int .u8 x1), .v (.int .u8 x2), .v (.slice A3 n4 c5), .v (.int .i64 x6)] [] M =
 bb (decide (x6 < (n4 : Int)))
 (pb (0 ≤ x6 ∧ x6 < (n4 : Int))
 (ob A3 fun a35 =>
 ob ((M.ld (plus a35 x6.toNat)).bind (Value.int? .u8)) fun x36 =>
 bb (decide (x36 < x1))
 (some (.ret (.bool false) M))
 (pb (0 ≤ x6 ∧ x6 < (n4 : Int))
 (ob A3 fun a37 =>
 ob ((M.ld (plus a37 x6.toNat)).bind (Value.int? .u8)) fun x38 =>
 bb (decide (x38 > x2))
 (some (.ret (.bool false) M))
 (some (zoetropelaw14_SubpelBetween.c8180 x1 x2 A3 n4 c5 (IntKind.i64.wrap (x6 + 1)) M))) none)) none)
 (some (.ret (.bool true) M)) := by kernel_rfl
theorem zoetropelaw14_SubpelKnown.entry (k lo : Nat) (M : Mem) : entry P T k lo F.zoetropelaw14_SubpelKnown [] M =
 ob (acall P T k lo F.subpel_Taps [.int .i64 0, .int .i64 8] M) fun r6 =>
 ob (r6.1.tup? 2) fun l7 =>
 ob ((l7[0]?).bind (Value.agg? 8)) fun l8 =>
 ob ((l8[0]?).bind (Value.int? .i64)) fun x9 =>
 ob ((l8[1]?).bind (Value.int? .i64)) fun x10 =>
 ob ((l8[2]?).bind (Value.int? .i64)) fun x11 =>
 ob ((l8[3]?).bind (Value.int? .i64)) fun x12 =>
 ob ((l8[4]?).bind (Value.int? .i64)) fun x13 =>
 ob ((l8[5]?).bind (Value.int? .i64)) fun x14 =>
 ob ((l8[6]?).bind (Value.int? .i64)) fun x15 =>
 ob ((l8[7]?).bind (Value.int? .i64)) fun x16 =>
 ob ((l7[1]?).bind (Value.int? .i64)) fun x17 =>
 ob (acall P T k lo F.subpel_Taps [.int .i64 2, .int .i64 3] r6.2) fun r18 =>
 ob (r18.1.tup? 2) fun l19 =>
 ob ((l19[0]?).bind (Value.agg? 8)) fun l20 =>
 ob ((l20[0]?).bind (Value.int? .i64)) fun x21 =>
 ob ((l20[1]?).bind (Value.int? .i64)) fun x22 =>
 ob ((l20[2]?).bind (Value.int? .i64)) fun x23 =>
 ob ((l20[3]?).bind (Value.int? .i64)) fun x24 =>
 ob ((l20[4]?).bind (Value.int? .i64)) fun x25 =>
 ob ((l20[5]?).bind (Value.int? .i64)) fun x26 =>
 ob ((l20[6]?).bind (Value.int? .i64)) fun x27 =>
 ob ((l20[7]?).bind (Value.int? .i64)) fun x28 =>
 ob ((l19[1]?).bind (Value.int? .i64)) fun x29 =>
 ob (acall P T k lo F.subpel_Taps [.int .i64 1, .int .i64 9] r18.2) fun r30 =>
 ob (r30.1.tup? 2) fun l31 =>
 ob ((l31[0]?).bind (Value.agg? 8)) fun l32 =>
 ob ((l32[0]?).bind (Value.int? .i64)) fun x33 =>
 ob ((l32[1]?).bind (Value.int? .i64)) fun x34 =>
 ob ((l32[2]?).bind (Value.int? .i64)) fun x35 =>
 ob ((l32[3]?).bind (Value.int? .i64)) fun x36 =>
 ob ((l32[4]?).bind (Value.int? .i64)) fun x37 =>
 ob ((l32[5]?).bind (Value.int? .i64)) fun x38 =>
 ob ((l32[6]?).bind (Value.int? .i64)) fun x39 =>
 ob ((l32[7]?).bind (Value.int? .i64)) fun x40 =>
 ob ((l31[1]?).bind (Value.int? .i64)) fun x41 =>
 bb (x17 == 0)
 (bb (x29 == 0)
 (bb (x41 == 0)
 (ob (Program.keyLits P 9 22 [.int .i64 x9, .int .i64 x10, .int .i64 x11, .int .i64 x12, .int .i64 x13, .int .i64 x14, .int .i64 x15, .int .i64 x16]) fun q42 => ob (Program.keyLits P 9 22 [.int .i64 0, .int .i64 2, .int .i64 (-14), .int .i64 76, .int .i64 76, .int .i64 (-14), .int .i64 2, .int .i64 0]) fun q43 =>
 bb (sameLits q42 q43)
 (ob (Program.keyLits P 9 22 [.int .i64 x21, .int .i64 x22, .int .i64 x23, .int .i64 x24, .int .i64 x25, .int .i64 x26, .int .i64 x27, .int .i64 x28]) fun q44 => ob (Program.keyLits P 9 22 [.int .i64 0, .int .i64 0, .int .i64 0, .int .i64 104, .int .i64 24, .int .i64 0, .int .i64 0, .int .i64 0]) fun q45 =>
 bb (sameLits q44 q45)
 (ob (Program.keyLits P 9 22 [.int .i64 x33, .int .i64 x34, .int .i64 x35, .int .i64 x36, .int .i64 x37, .int .i64 x38, .int .i64 x39, .int .i64 x40]) fun q46 => ob (Program.keyLits P 9 22 [.int .i64 0, .int .i64 0, .int .i64 12, .int .i64 48, .int .i64 54, .int .i64 16, .int .i64 (-2), .int .i64 0]) fun q47 =>
 ob (acall P T k lo F.zoetropelaw14_row [.int .i64 0, .int .i64 0, .int .i64 0] r30.2) fun r48 =>
 ob ((some r48.1).bind Value.slc?) fun s49 =>
 ob (acall P T k lo F.zoetroperef00_EqBytes [.slice s49.a s49.n s49.c, .slice (some ⟨r48.2.length, 0, none⟩) 4 4] (r48.2 ++ [⟨.fx, [.int .u8 0, .int .u8 100, .int .u8 100, .int .u8 0]⟩] : Mem)) fun r50 =>
 ob ((some r50.1).bind Value.bool?) fun b51 =>
 bb b51
 (ob (acall P T k lo F.zoetropelaw14_row [.int .i64 (-16), .int .i64 0, .int .i64 2] r50.2) fun r52 =>
 ob ((some r52.1).bind Value.slc?) fun s53 =>
 ob (acall P T k lo F.zoetroperef00_EqBytes [.slice s53.a s53.n s53.c, .slice (some ⟨r52.2.length, 0, none⟩) 4 4] (r52.2 ++ [⟨.fx, [.int .u8 0, .int .u8 0, .int .u8 100, .int .u8 100]⟩] : Mem)) fun r54 =>
 ob ((some r54.1).bind Value.bool?) fun b55 =>
 bb b55
 (ob (acall P T k lo F.zoetropelaw14_row [.int .i64 1048576, .int .i64 (-1048576), .int .i64 0] r54.2) fun r56 =>
 ob ((some r56.1).bind Value.slc?) fun s57 =>
 ob (acall P T k lo F.zoetroperef00_EqBytes [.slice s57.a s57.n s57.c, .slice (some ⟨r56.2.length, 0, none⟩) 4 4] (r56.2 ++ [⟨.fx, [.int .u8 0, .int .u8 0, .int .u8 0, .int .u8 0]⟩] : Mem)) fun r58 =>
 ob ((some r58.1).bind Value.bool?) fun b59 =>
 some (zoetropelaw14_SubpelKnown.c2036 (sameLits q46 q47) b59 (some ⟨r58.2.length, 0, none⟩) 10 10 10 0 (r58.2 ++ [⟨.fx, [.int .i64 0, .int .i64 0, .int .i64 3, .int .i64 4, .int .i64 0, .int .i64 0, .int .i64 0, .int .i64 4, .int .i64 3, .int .i64 0, .int .i64 0, .int .i64 0, .int .i64 65, .int .i64 4, .int .i64 0, .int .i64 0, .int .i64 0, .int .i64 4, .int .i64 65, .int .i64 0, .int .i64 1048577, .int .i64 0, .int .i64 4, .int .i64 4, .int .i64 0, .int .i64 (-1048577), .int .i64 0, .int .i64 4, .int .i64 4, .int .i64 0, .int .i64 0, .int .i64 1048577, .int .i64 4, .int .i64 4, .int .i64 0, .int .i64 0, .int .i64 (-1048577), .int .i64 4, .int .i64 4, .int .i64 0, .int .i64 0, .int .i64 0, .int .i64 4, .int .i64 4, .int .i64 (-1), .int .i64 0, .int .i64 0, .int .i64 4, .int .i64 4, .int .i64 3]⟩] : Mem)))
 (some (zoetropelaw14_SubpelKnown.c2036 (sameLits q46 q47) false (some ⟨r54.2.length, 0, none⟩) 10 10 10 0 (r54.2 ++ [⟨.fx, [.int .i64 0, .int .i64 0, .int .i64 3, .int .i64 4, .int .i64 0, .int .i64 0, .int .i64 0, .int .i64 4, .int .i64 3, .int .i64 0, .int .i64 0, .int .i64 0, .int .i64 65, .int .i64 4, .int .i64 0, .int .i64 0, .int .i64 0, .int .i64 4, .int .i64 65, .int .i64 0, .int .i64 1048577, .int .i64 0, .int .i64 4, .int .i64 4, .int .i64 0, .int .i64 (-1048577), .int .i64 0, .int .i64 4, .int .i64 4, .int .i64 0, .int .i64 0, .int .i64 1048577, .int .i64 4, .int .i64 4, .int .i64 0, .int .i64 0, .int .i64 (-1048577), .int .i64 4, .int .i64 4, .int .i64 0, .int .i64 0, .int .i64 0, .int .i64 4, .int .i64 4, .int .i64 (-1), .int .i64 0, .int .i64 0, .int .i64 4, .int .i64 4, .int .i64 3]⟩] : Mem))))
 (some (zoetropelaw14_SubpelKnown.c2036 (sameLits q46 q47) false (some ⟨r50.2.length, 0, none⟩) 10 10 10 0 (r50.2 ++ [⟨.fx, [.int .i64 0, .int .i64 0, .int .i64 3, .int .i64 4, .int .i64 0, .int .i64 0, .int .i64 0, .int .i64 4, .int .i64 3, .int .i64 0, .int .i64 0, .int .i64 0, .int .i64 65, .int .i64 4, .int .i64 0, .int .i64 0, .int .i64 0, .int .i64 4, .int .i64 65, .int .i64 0, .int .i64 1048577, .int .i64 0, .int .i64 4, .int .i64 4, .int .i64 0, .int .i64 (-1048577), .int .i64 0, .int .i64 4, .int .i64 4, .int .i64 0, .int .i64 0, .int .i64 1048577, .int .i64 4, .int .i64 4, .int .i64 0, .int .i64 0, .int .i64 (-1048577), .int .i64 4, .int .i64 4, .int .i64 0, .int .i64 0, .int .i64 0, .int .i64 4, .int .i64 4, .int .i64 (-1), .int .i64 0, .int .i64 0, .int .i64 4, .int .i64 4, .int .i64 3]⟩] : Mem))))
 (ob (acall P T k lo F.zoetropelaw14_row [.int .i64 0, .int .i64 0, .int .i64 0] r30.2) fun r60 =>
 ob ((some r60.1).bind Value.slc?) fun s61 =>
 ob (acall P T k lo F.zoetroperef00_EqBytes [.slice s61.a s61.n s61.c, .slice (some ⟨r60.2.length, 0, none⟩) 4 4] (r60.2 ++ [⟨.fx, [.int .u8 0, .int .u8 100, .int .u8 100, .int .u8 0]⟩] : Mem)) fun r62 =>
 ob ((some r62.1).bind Value.bool?) fun b63 =>
 bb b63
 (ob (acall P T k lo F.zoetropelaw14_row [.int .i64 (-16), .int .i64 0, .int .i64 2] r62.2) fun r64 =>
 ob ((some r64.1).bind Value.slc?) fun s65 =>
 ob (acall P T k lo F.zoetroperef00_EqBytes [.slice s65.a s65.n s65.c, .slice (some ⟨r64.2.length, 0, none⟩) 4 4] (r64.2 ++ [⟨.fx, [.int .u8 0, .int .u8 0, .int .u8 100, .int .u8 100]⟩] : Mem)) fun r66 =>
 ob ((some r66.1).bind Value.bool?) fun b67 =>
 bb b67
 (ob (acall P T k lo F.zoetropelaw14_row [.int .i64 1048576, .int .i64 (-1048576), .int .i64 0] r66.2) fun r68 =>
 ob ((some r68.1).bind Value.slc?) fun s69 =>
 ob (acall P T k lo F.zoetroperef00_EqBytes [.slice s69.a s69.n s69.c, .slice (some ⟨r68.2.length, 0, none⟩) 4 4] (r68.2 ++ [⟨.fx, [.int .u8 0, .int .u8 0, .int .u8 0, .int .u8 0]⟩] : Mem)) fun r70 =>
 ob ((some r70.1).bind Value.bool?) fun b71 =>
 some (zoetropelaw14_SubpelKnown.c2036 false b71 (some ⟨r70.2.length, 0, none⟩) 10 10 10 0 (r70.2 ++ [⟨.fx, [.int .i64 0, .int .i64 0, .int .i64 3, .int .i64 4, .int .i64 0, .int .i64 0, .int .i64 0, .int .i64 4, .int .i64 3, .int .i64 0, .int .i64 0, .int .i64 0, .int .i64 65, .int .i64 4, .int .i64 0, .int .i64 0, .int .i64 0, .int .i64 4, .int .i64 65, .int .i64 0, .int .i64 1048577, .int .i64 0, .int .i64 4, .int .i64 4, .int .i64 0, .int .i64 (-1048577), .int .i64 0, .int .i64 4, .int .i64 4, .int .i64 0, .int .i64 0, .int .i64 1048577, .int .i64 4, .int .i64 4, .int .i64 0, .int .i64 0, .int .i64 (-1048577), .int .i64 4, .int .i64 4, .int .i64 0, .int .i64 0, .int .i64 0, .int .i64 4, .int .i64 4, .int .i64 (-1), .int .i64 0, .int .i64 0, .int .i64 4, .int .i64 4, .int .i64 3]⟩] : Mem)))
 (some (zoetropelaw14_SubpelKnown.c2036 false false (some ⟨r66.2.length, 0, none⟩) 10 10 10 0 (r66.2 ++ [⟨.fx, [.int .i64 0, .int .i64 0, .int .i64 3, .int .i64 4, .int .i64 0, .int .i64 0, .int .i64 0, .int .i64 4, .int .i64 3, .int .i64 0, .int .i64 0, .int .i64 0, .int .i64 65, .int .i64 4, .int .i64 0, .int .i64 0, .int .i64 0, .int .i64 4, .int .i64 65, .int .i64 0, .int .i64 1048577, .int .i64 0, .int .i64 4, .int .i64 4, .int .i64 0, .int .i64 (-1048577), .int .i64 0, .int .i64 4, .int .i64 4, .int .i64 0, .int .i64 0, .int .i64 1048577, .int .i64 4, .int .i64 4, .int .i64 0, .int .i64 0, .int .i64 (-1048577), .int .i64 4, .int .i64 4, .int .i64 0, .int .i64 0, .int .i64 0, .int .i64 4, .int .i64 4, .int .i64 (-1), .int .i64 0, .int .i64 0, .int .i64 4, .int .i64 4, .int .i64 3]⟩] : Mem))))
 (some (zoetropelaw14_SubpelKnown.c2036 false false (some ⟨r62.2.length, 0, none⟩) 10 10 10 0 (r62.2 ++ [⟨.fx, [.int .i64 0, .int .i64 0, .int .i64 3, .int .i64 4, .int .i64 0, .int .i64 0, .int .i64 0, .int .i64 4, .int .i64 3, .int .i64 0, .int .i64 0, .int .i64 0, .int .i64 65, .int .i64 4, .int .i64 0, .int .i64 0, .int .i64 0, .int .i64 4, .int .i64 65, .int .i64 0, .int .i64 1048577, .int .i64 0, .int .i64 4, .int .i64 4, .int .i64 0, .int .i64 (-1048577), .int .i64 0, .int .i64 4, .int .i64 4, .int .i64 0, .int .i64 0, .int .i64 1048577, .int .i64 4, .int .i64 4, .int .i64 0, .int .i64 0, .int .i64 (-1048577), .int .i64 4, .int .i64 4, .int .i64 0, .int .i64 0, .int .i64 0, .int .i64 4, .int .i64 4, .int .i64 (-1), .int .i64 0, .int .i64 0, .int .i64 4, .int .i64 4, .int .i64 3]⟩] : Mem)))))
 (ob (acall P T k lo F.zoetropelaw14_row [.int .i64 0, .int .i64 0, .int .i64 0] r30.2) fun r72 =>
 ob ((some r72.1).bind Value.slc?) fun s73 =>
 ob (acall P T k lo F.zoetroperef00_EqBytes [.slice s73.a s73.n s73.c, .slice (some ⟨r72.2.length, 0, none⟩) 4 4] (r72.2 ++ [⟨.fx, [.int .u8 0, .int .u8 100, .int .u8 100, .int .u8 0]⟩] : Mem)) fun r74 =>
 ob ((some r74.1).bind Value.bool?) fun b75 =>
 bb b75
 (ob (acall P T k lo F.zoetropelaw14_row [.int .i64 (-16), .int .i64 0, .int .i64 2] r74.2) fun r76 =>
 ob ((some r76.1).bind Value.slc?) fun s77 =>
 ob (acall P T k lo F.zoetroperef00_EqBytes [.slice s77.a s77.n s77.c, .slice (some ⟨r76.2.length, 0, none⟩) 4 4] (r76.2 ++ [⟨.fx, [.int .u8 0, .int .u8 0, .int .u8 100, .int .u8 100]⟩] : Mem)) fun r78 =>
 ob ((some r78.1).bind Value.bool?) fun b79 =>
 bb b79
 (ob (acall P T k lo F.zoetropelaw14_row [.int .i64 1048576, .int .i64 (-1048576), .int .i64 0] r78.2) fun r80 =>
 ob ((some r80.1).bind Value.slc?) fun s81 =>
 ob (acall P T k lo F.zoetroperef00_EqBytes [.slice s81.a s81.n s81.c, .slice (some ⟨r80.2.length, 0, none⟩) 4 4] (r80.2 ++ [⟨.fx, [.int .u8 0, .int .u8 0, .int .u8 0, .int .u8 0]⟩] : Mem)) fun r82 =>
 ob ((some r82.1).bind Value.bool?) fun b83 =>
 some (zoetropelaw14_SubpelKnown.c2036 false b83 (some ⟨r82.2.length, 0, none⟩) 10 10 10 0 (r82.2 ++ [⟨.fx, [.int .i64 0, .int .i64 0, .int .i64 3, .int .i64 4, .int .i64 0, .int .i64 0, .int .i64 0, .int .i64 4, .int .i64 3, .int .i64 0, .int .i64 0, .int .i64 0, .int .i64 65, .int .i64 4, .int .i64 0, .int .i64 0, .int .i64 0, .int .i64 4, .int .i64 65, .int .i64 0, .int .i64 1048577, .int .i64 0, .int .i64 4, .int .i64 4, .int .i64 0, .int .i64 (-1048577), .int .i64 0, .int .i64 4, .int .i64 4, .int .i64 0, .int .i64 0, .int .i64 1048577, .int .i64 4, .int .i64 4, .int .i64 0, .int .i64 0, .int .i64 (-1048577), .int .i64 4, .int .i64 4, .int .i64 0, .int .i64 0, .int .i64 0, .int .i64 4, .int .i64 4, .int .i64 (-1), .int .i64 0, .int .i64 0, .int .i64 4, .int .i64 4, .int .i64 3]⟩] : Mem)))
 (some (zoetropelaw14_SubpelKnown.c2036 false false (some ⟨r78.2.length, 0, none⟩) 10 10 10 0 (r78.2 ++ [⟨.fx, [.int .i64 0, .int .i64 0, .int .i64 3, .int .i64 4, .int .i64 0, .int .i64 0, .int .i64 0, .int .i64 4, .int .i64 3, .int .i64 0, .int .i64 0, .int .i64 0, .int .i64 65, .int .i64 4, .int .i64 0, .int .i64 0, .int .i64 0, .int .i64 4, .int .i64 65, .int .i64 0, .int .i64 1048577, .int .i64 0, .int .i64 4, .int .i64 4, .int .i64 0, .int .i64 (-1048577), .int .i64 0, .int .i64 4, .int .i64 4, .int .i64 0, .int .i64 0, .int .i64 1048577, .int .i64 4, .int .i64 4, .int .i64 0, .int .i64 0, .int .i64 (-1048577), .int .i64 4, .int .i64 4, .int .i64 0, .int .i64 0, .int .i64 0, .int .i64 4, .int .i64 4, .int .i64 (-1), .int .i64 0, .int .i64 0, .int .i64 4, .int .i64 4, .int .i64 3]⟩] : Mem))))
 (some (zoetropelaw14_SubpelKnown.c2036 false false (some ⟨r74.2.length, 0, none⟩) 10 10 10 0 (r74.2 ++ [⟨.fx, [.int .i64 0, .int .i64 0, .int .i64 3, .int .i64 4, .int .i64 0, .int .i64 0, .int .i64 0, .int .i64 4, .int .i64 3, .int .i64 0, .int .i64 0, .int .i64 0, .int .i64 65, .int .i64 4, .int .i64 0, .int .i64 0, .int .i64 0, .int .i64 4, .int .i64 65, .int .i64 0, .int .i64 1048577, .int .i64 0, .int .i64 4, .int .i64 4, .int .i64 0, .int .i64 (-1048577), .int .i64 0, .int .i64 4, .int .i64 4, .int .i64 0, .int .i64 0, .int .i64 1048577, .int .i64 4, .int .i64 4, .int .i64 0, .int .i64 0, .int .i64 (-1048577), .int .i64 4, .int .i64 4, .int .i64 0, .int .i64 0, .int .i64 0, .int .i64 4, .int .i64 4, .int .i64 (-1), .int .i64 0, .int .i64 0, .int .i64 4, .int .i64 4, .int .i64 3]⟩] : Mem)))))
 (ob (acall P T k lo F.zoetropelaw14_row [.int .i64 0, .int .i64 0, .int .i64 0] r30.2) fun r84 =>
 ob ((some r84.1).bind Value.slc?) fun s85 =>
 ob (acall P T k lo F.zoetroperef00_EqBytes [.slice s85.a s85.n s85.c, .slice (some ⟨r84.2.length, 0, none⟩) 4 4] (r84.2 ++ [⟨.fx, [.int .u8 0, .int .u8 100, .int .u8 100, .int .u8 0]⟩] : Mem)) fun r86 =>
 ob ((some r86.1).bind Value.bool?) fun b87 =>
 bb b87
 (ob (acall P T k lo F.zoetropelaw14_row [.int .i64 (-16), .int .i64 0, .int .i64 2] r86.2) fun r88 =>
 ob ((some r88.1).bind Value.slc?) fun s89 =>
 ob (acall P T k lo F.zoetroperef00_EqBytes [.slice s89.a s89.n s89.c, .slice (some ⟨r88.2.length, 0, none⟩) 4 4] (r88.2 ++ [⟨.fx, [.int .u8 0, .int .u8 0, .int .u8 100, .int .u8 100]⟩] : Mem)) fun r90 =>
 ob ((some r90.1).bind Value.bool?) fun b91 =>
 bb b91
 (ob (acall P T k lo F.zoetropelaw14_row [.int .i64 1048576, .int .i64 (-1048576), .int .i64 0] r90.2) fun r92 =>
 ob ((some r92.1).bind Value.slc?) fun s93 =>
 ob (acall P T k lo F.zoetroperef00_EqBytes [.slice s93.a s93.n s93.c, .slice (some ⟨r92.2.length, 0, none⟩) 4 4] (r92.2 ++ [⟨.fx, [.int .u8 0, .int .u8 0, .int .u8 0, .int .u8 0]⟩] : Mem)) fun r94 =>
 ob ((some r94.1).bind Value.bool?) fun b95 =>
 some (zoetropelaw14_SubpelKnown.c2036 false b95 (some ⟨r94.2.length, 0, none⟩) 10 10 10 0 (r94.2 ++ [⟨.fx, [.int .i64 0, .int .i64 0, .int .i64 3, .int .i64 4, .int .i64 0, .int .i64 0, .int .i64 0, .int .i64 4, .int .i64 3, .int .i64 0, .int .i64 0, .int .i64 0, .int .i64 65, .int .i64 4, .int .i64 0, .int .i64 0, .int .i64 0, .int .i64 4, .int .i64 65, .int .i64 0, .int .i64 1048577, .int .i64 0, .int .i64 4, .int .i64 4, .int .i64 0, .int .i64 (-1048577), .int .i64 0, .int .i64 4, .int .i64 4, .int .i64 0, .int .i64 0, .int .i64 1048577, .int .i64 4, .int .i64 4, .int .i64 0, .int .i64 0, .int .i64 (-1048577), .int .i64 4, .int .i64 4, .int .i64 0, .int .i64 0, .int .i64 0, .int .i64 4, .int .i64 4, .int .i64 (-1), .int .i64 0, .int .i64 0, .int .i64 4, .int .i64 4, .int .i64 3]⟩] : Mem)))
 (some (zoetropelaw14_SubpelKnown.c2036 false false (some ⟨r90.2.length, 0, none⟩) 10 10 10 0 (r90.2 ++ [⟨.fx, [.int .i64 0, .int .i64 0, .int .i64 3, .int .i64 4, .int .i64 0, .int .i64 0, .int .i64 0, .int .i64 4, .int .i64 3, .int .i64 0, .int .i64 0, .int .i64 0, .int .i64 65, .int .i64 4, .int .i64 0, .int .i64 0, .int .i64 0, .int .i64 4, .int .i64 65, .int .i64 0, .int .i64 1048577, .int .i64 0, .int .i64 4, .int .i64 4, .int .i64 0, .int .i64 (-1048577), .int .i64 0, .int .i64 4, .int .i64 4, .int .i64 0, .int .i64 0, .int .i64 1048577, .int .i64 4, .int .i64 4, .int .i64 0, .int .i64 0, .int .i64 (-1048577), .int .i64 4, .int .i64 4, .int .i64 0, .int .i64 0, .int .i64 0, .int .i64 4, .int .i64 4, .int .i64 (-1), .int .i64 0, .int .i64 0, .int .i64 4, .int .i64 4, .int .i64 3]⟩] : Mem))))
 (some (zoetropelaw14_SubpelKnown.c2036 false false (some ⟨r86.2.length, 0, none⟩) 10 10 10 0 (r86.2 ++ [⟨.fx, [.int .i64 0, .int .i64 0, .int .i64 3, .int .i64 4, .int .i64 0, .int .i64 0, .int .i64 0, .int .i64 4, .int .i64 3, .int .i64 0, .int .i64 0, .int .i64 0, .int .i64 65, .int .i64 4, .int .i64 0, .int .i64 0, .int .i64 0, .int .i64 4, .int .i64 65, .int .i64 0, .int .i64 1048577, .int .i64 0, .int .i64 4, .int .i64 4, .int .i64 0, .int .i64 (-1048577), .int .i64 0, .int .i64 4, .int .i64 4, .int .i64 0, .int .i64 0, .int .i64 1048577, .int .i64 4, .int .i64 4, .int .i64 0, .int .i64 0, .int .i64 (-1048577), .int .i64 4, .int .i64 4, .int .i64 0, .int .i64 0, .int .i64 0, .int .i64 4, .int .i64 4, .int .i64 (-1), .int .i64 0, .int .i64 0, .int .i64 4, .int .i64 4, .int .i64 3]⟩] : Mem)))))
 (ob (acall P T k lo F.zoetropelaw14_row [.int .i64 0, .int .i64 0, .int .i64 0] r30.2) fun r96 =>
 ob ((some r96.1).bind Value.slc?) fun s97 =>
 ob (acall P T k lo F.zoetroperef00_EqBytes [.slice s97.a s97.n s97.c, .slice (some ⟨r96.2.length, 0, none⟩) 4 4] (r96.2 ++ [⟨.fx, [.int .u8 0, .int .u8 100, .int .u8 100, .int .u8 0]⟩] : Mem)) fun r98 =>
 ob ((some r98.1).bind Value.bool?) fun b99 =>
 bb b99
 (ob (acall P T k lo F.zoetropelaw14_row [.int .i64 (-16), .int .i64 0, .int .i64 2] r98.2) fun r100 =>
 ob ((some r100.1).bind Value.slc?) fun s101 =>
 ob (acall P T k lo F.zoetroperef00_EqBytes [.slice s101.a s101.n s101.c, .slice (some ⟨r100.2.length, 0, none⟩) 4 4] (r100.2 ++ [⟨.fx, [.int .u8 0, .int .u8 0, .int .u8 100, .int .u8 100]⟩] : Mem)) fun r102 =>
 ob ((some r102.1).bind Value.bool?) fun b103 =>
 bb b103
 (ob (acall P T k lo F.zoetropelaw14_row [.int .i64 1048576, .int .i64 (-1048576), .int .i64 0] r102.2) fun r104 =>
 ob ((some r104.1).bind Value.slc?) fun s105 =>
 ob (acall P T k lo F.zoetroperef00_EqBytes [.slice s105.a s105.n s105.c, .slice (some ⟨r104.2.length, 0, none⟩) 4 4] (r104.2 ++ [⟨.fx, [.int .u8 0, .int .u8 0, .int .u8 0, .int .u8 0]⟩] : Mem)) fun r106 =>
 ob ((some r106.1).bind Value.bool?) fun b107 =>
 some (zoetropelaw14_SubpelKnown.c2036 false b107 (some ⟨r106.2.length, 0, none⟩) 10 10 10 0 (r106.2 ++ [⟨.fx, [.int .i64 0, .int .i64 0, .int .i64 3, .int .i64 4, .int .i64 0, .int .i64 0, .int .i64 0, .int .i64 4, .int .i64 3, .int .i64 0, .int .i64 0, .int .i64 0, .int .i64 65, .int .i64 4, .int .i64 0, .int .i64 0, .int .i64 0, .int .i64 4, .int .i64 65, .int .i64 0, .int .i64 1048577, .int .i64 0, .int .i64 4, .int .i64 4, .int .i64 0, .int .i64 (-1048577), .int .i64 0, .int .i64 4, .int .i64 4, .int .i64 0, .int .i64 0, .int .i64 1048577, .int .i64 4, .int .i64 4, .int .i64 0, .int .i64 0, .int .i64 (-1048577), .int .i64 4, .int .i64 4, .int .i64 0, .int .i64 0, .int .i64 0, .int .i64 4, .int .i64 4, .int .i64 (-1), .int .i64 0, .int .i64 0, .int .i64 4, .int .i64 4, .int .i64 3]⟩] : Mem)))
 (some (zoetropelaw14_SubpelKnown.c2036 false false (some ⟨r102.2.length, 0, none⟩) 10 10 10 0 (r102.2 ++ [⟨.fx, [.int .i64 0, .int .i64 0, .int .i64 3, .int .i64 4, .int .i64 0, .int .i64 0, .int .i64 0, .int .i64 4, .int .i64 3, .int .i64 0, .int .i64 0, .int .i64 0, .int .i64 65, .int .i64 4, .int .i64 0, .int .i64 0, .int .i64 0, .int .i64 4, .int .i64 65, .int .i64 0, .int .i64 1048577, .int .i64 0, .int .i64 4, .int .i64 4, .int .i64 0, .int .i64 (-1048577), .int .i64 0, .int .i64 4, .int .i64 4, .int .i64 0, .int .i64 0, .int .i64 1048577, .int .i64 4, .int .i64 4, .int .i64 0, .int .i64 0, .int .i64 (-1048577), .int .i64 4, .int .i64 4, .int .i64 0, .int .i64 0, .int .i64 0, .int .i64 4, .int .i64 4, .int .i64 (-1), .int .i64 0, .int .i64 0, .int .i64 4, .int .i64 4, .int .i64 3]⟩] : Mem))))
 (some (zoetropelaw14_SubpelKnown.c2036 false false (some ⟨r98.2.length, 0, none⟩) 10 10 10 0 (r98.2 ++ [⟨.fx, [.int .i64 0, .int .i64 0, .int .i64 3, .int .i64 4, .int .i64 0, .int .i64 0, .int .i64 0, .int .i64 4, .int .i64 3, .int .i64 0, .int .i64 0, .int .i64 0, .int .i64 65, .int .i64 4, .int .i64 0, .int .i64 0, .int .i64 0, .int .i64 4, .int .i64 65, .int .i64 0, .int .i64 1048577, .int .i64 0, .int .i64 4, .int .i64 4, .int .i64 0, .int .i64 (-1048577), .int .i64 0, .int .i64 4, .int .i64 4, .int .i64 0, .int .i64 0, .int .i64 1048577, .int .i64 4, .int .i64 4, .int .i64 0, .int .i64 0, .int .i64 (-1048577), .int .i64 4, .int .i64 4, .int .i64 0, .int .i64 0, .int .i64 0, .int .i64 4, .int .i64 4, .int .i64 (-1), .int .i64 0, .int .i64 0, .int .i64 4, .int .i64 4, .int .i64 3]⟩] : Mem)))))
 (ob (acall P T k lo F.zoetropelaw14_row [.int .i64 0, .int .i64 0, .int .i64 0] r30.2) fun r108 =>
 ob ((some r108.1).bind Value.slc?) fun s109 =>
 ob (acall P T k lo F.zoetroperef00_EqBytes [.slice s109.a s109.n s109.c, .slice (some ⟨r108.2.length, 0, none⟩) 4 4] (r108.2 ++ [⟨.fx, [.int .u8 0, .int .u8 100, .int .u8 100, .int .u8 0]⟩] : Mem)) fun r110 =>
 ob ((some r110.1).bind Value.bool?) fun b111 =>
 bb b111
 (ob (acall P T k lo F.zoetropelaw14_row [.int .i64 (-16), .int .i64 0, .int .i64 2] r110.2) fun r112 =>
 ob ((some r112.1).bind Value.slc?) fun s113 =>
 ob (acall P T k lo F.zoetroperef00_EqBytes [.slice s113.a s113.n s113.c, .slice (some ⟨r112.2.length, 0, none⟩) 4 4] (r112.2 ++ [⟨.fx, [.int .u8 0, .int .u8 0, .int .u8 100, .int .u8 100]⟩] : Mem)) fun r114 =>
 ob ((some r114.1).bind Value.bool?) fun b115 =>
 bb b115
 (ob (acall P T k lo F.zoetropelaw14_row [.int .i64 1048576, .int .i64 (-1048576), .int .i64 0] r114.2) fun r116 =>
 ob ((some r116.1).bind Value.slc?) fun s117 =>
 ob (acall P T k lo F.zoetroperef00_EqBytes [.slice s117.a s117.n s117.c, .slice (some ⟨r116.2.length, 0, none⟩) 4 4] (r116.2 ++ [⟨.fx, [.int .u8 0, .int .u8 0, .int .u8 0, .int .u8 0]⟩] : Mem)) fun r118 =>
 ob ((some r118.1).bind Value.bool?) fun b119 =>
 some (zoetropelaw14_SubpelKnown.c2036 false b119 (some ⟨r118.2.length, 0, none⟩) 10 10 10 0 (r118.2 ++ [⟨.fx, [.int .i64 0, .int .i64 0, .int .i64 3, .int .i64 4, .int .i64 0, .int .i64 0, .int .i64 0, .int .i64 4, .int .i64 3, .int .i64 0, .int .i64 0, .int .i64 0, .int .i64 65, .int .i64 4, .int .i64 0, .int .i64 0, .int .i64 0, .int .i64 4, .int .i64 65, .int .i64 0, .int .i64 1048577, .int .i64 0, .int .i64 4, .int .i64 4, .int .i64 0, .int .i64 (-1048577), .int .i64 0, .int .i64 4, .int .i64 4, .int .i64 0, .int .i64 0, .int .i64 1048577, .int .i64 4, .int .i64 4, .int .i64 0, .int .i64 0, .int .i64 (-1048577), .int .i64 4, .int .i64 4, .int .i64 0, .int .i64 0, .int .i64 0, .int .i64 4, .int .i64 4, .int .i64 (-1), .int .i64 0, .int .i64 0, .int .i64 4, .int .i64 4, .int .i64 3]⟩] : Mem)))
 (some (zoetropelaw14_SubpelKnown.c2036 false false (some ⟨r114.2.length, 0, none⟩) 10 10 10 0 (r114.2 ++ [⟨.fx, [.int .i64 0, .int .i64 0, .int .i64 3, .int .i64 4, .int .i64 0, .int .i64 0, .int .i64 0, .int .i64 4, .int .i64 3, .int .i64 0, .int .i64 0, .int .i64 0, .int .i64 65, .int .i64 4, .int .i64 0, .int .i64 0, .int .i64 0, .int .i64 4, .int .i64 65, .int .i64 0, .int .i64 1048577, .int .i64 0, .int .i64 4, .int .i64 4, .int .i64 0, .int .i64 (-1048577), .int .i64 0, .int .i64 4, .int .i64 4, .int .i64 0, .int .i64 0, .int .i64 1048577, .int .i64 4, .int .i64 4, .int .i64 0, .int .i64 0, .int .i64 (-1048577), .int .i64 4, .int .i64 4, .int .i64 0, .int .i64 0, .int .i64 0, .int .i64 4, .int .i64 4, .int .i64 (-1), .int .i64 0, .int .i64 0, .int .i64 4, .int .i64 4, .int .i64 3]⟩] : Mem))))
 (some (zoetropelaw14_SubpelKnown.c2036 false false (some ⟨r110.2.length, 0, none⟩) 10 10 10 0 (r110.2 ++ [⟨.fx, [.int .i64 0, .int .i64 0, .int .i64 3, .int .i64 4, .int .i64 0, .int .i64 0, .int .i64 0, .int .i64 4, .int .i64 3, .int .i64 0, .int .i64 0, .int .i64 0, .int .i64 65, .int .i64 4, .int .i64 0, .int .i64 0, .int .i64 0, .int .i64 4, .int .i64 65, .int .i64 0, .int .i64 1048577, .int .i64 0, .int .i64 4, .int .i64 4, .int .i64 0, .int .i64 (-1048577), .int .i64 0, .int .i64 4, .int .i64 4, .int .i64 0, .int .i64 0, .int .i64 1048577, .int .i64 4, .int .i64 4, .int .i64 0, .int .i64 0, .int .i64 (-1048577), .int .i64 4, .int .i64 4, .int .i64 0, .int .i64 0, .int .i64 0, .int .i64 4, .int .i64 4, .int .i64 (-1), .int .i64 0, .int .i64 0, .int .i64 4, .int .i64 4, .int .i64 3]⟩] : Mem)))) := by kernel_rfl
theorem zoetropelaw14_SubpelKnown.p2036 (k lo : Nat) (b1 : Bool) (b2 : Bool) (A3 : Option Addr) (n4 : Nat) (c5 : Nat) (x6 : Int) (x7 : Int) (M : Mem) : piece P T k lo F.zoetropelaw14_SubpelKnown 2036 [.v (.bool b1), .v (.bool b2), .v (.slice A3 n4 c5), .v (.int .i64 x6), .v (.int .i64 x7)] [] M =
 bb (decide (x7 < x6))
 (pb (0 ≤ x7 ∧ x7 < (n4 : Int))
 (ob A3 fun a120 =>
 ob ((M.ld (plus a120 (x7.toNat * 5))).bind (Value.int? .i64)) fun x121 =>
 ob ((M.ld (plus (plus a120 (x7.toNat * 5)) 1)).bind (Value.int? .i64)) fun x122 =>
 ob ((M.ld (plus (plus a120 (x7.toNat * 5)) 2)).bind (Value.int? .i64)) fun x123 =>
 ob ((M.ld (plus (plus a120 (x7.toNat * 5)) 3)).bind (Value.int? .i64)) fun x124 =>
 ob ((M.ld (plus (plus a120 (x7.toNat * 5)) 4)).bind (Value.int? .i64)) fun x125 =>
 ob (acall P T k M.length F.zoetropelaw14_given [] M) fun r126 =>
 ob ((some r126.1).bind (Value.agg? 3)) fun l127 =>
 ob ((l127[0]?).bind (Value.int? .i64)) fun x128 =>
 ob ((l127[1]?).bind (Value.int? .i64)) fun x129 =>
 ob ((l127[2]?).bind Value.slc?) fun s130 =>
 ob (acall P T k M.length F.subpel_Fetch [.agg ⟨[.int .i64 x128, .int .i64 x129, .slice s130.a s130.n s130.c]⟩, .int .i64 x121, .int .i64 x122, .int .i64 x123, .int .i64 x124, .int .i64 x125] r126.2) fun r131 =>
 ob (r131.1.tup? 2) fun l132 =>
 ob ((l132[0]?).bind Value.slc?) fun s133 =>
 ob ((l132[1]?).bind (Value.int? .i64)) fun x134 =>
 bb (x134 != 2)
 (some (.ret (.bool false) r131.2))
 (some (zoetropelaw14_SubpelKnown.c2036 b1 b2 A3 n4 c5 x6 (IntKind.i64.wrap (x7 + 1)) r131.2))) none)
 (some (zoetropelaw14_SubpelKnown.c4084 b1 b2 (some ⟨M.length, 0, none⟩) 5 5 5 0 (M ++ [⟨.fx, [.int .i64 3, .int .i64 0, .int .i64 (-1), .int .i64 0, .int .i64 0, .int .i64 16, .int .i64 0, .int .i64 (-1), .int .i64 2, .int .i64 16]⟩] : Mem))) := by kernel_rfl
theorem zoetropelaw14_SubpelKnown.p4084 (k lo : Nat) (b1 : Bool) (b2 : Bool) (A3 : Option Addr) (n4 : Nat) (c5 : Nat) (x6 : Int) (x7 : Int) (M : Mem) : piece P T k lo F.zoetropelaw14_SubpelKnown 4084 [.v (.bool b1), .v (.bool b2), .v (.slice A3 n4 c5), .v (.int .i64 x6), .v (.int .i64 x7)] [] M =
 bb (decide (x7 < x6))
 (pb (0 ≤ x7 ∧ x7 < (n4 : Int))
 (ob A3 fun a135 =>
 ob ((M.ld (plus a135 (x7.toNat * 2))).bind (Value.int? .i64)) fun x136 =>
 ob ((M.ld (plus (plus a135 (x7.toNat * 2)) 1)).bind (Value.int? .i64)) fun x137 =>
 ob (acall P T k lo F.subpel_Taps [.int .i64 x136, .int .i64 x137] M) fun r138 =>
 ob (r138.1.tup? 2) fun l139 =>
 ob ((l139[0]?).bind (Value.agg? 8)) fun l140 =>
 ob ((l140[0]?).bind (Value.int? .i64)) fun x141 =>
 ob ((l140[1]?).bind (Value.int? .i64)) fun x142 =>
 ob ((l140[2]?).bind (Value.int? .i64)) fun x143 =>
 ob ((l140[3]?).bind (Value.int? .i64)) fun x144 =>
 ob ((l140[4]?).bind (Value.int? .i64)) fun x145 =>
 ob ((l140[5]?).bind (Value.int? .i64)) fun x146 =>
 ob ((l140[6]?).bind (Value.int? .i64)) fun x147 =>
 ob ((l140[7]?).bind (Value.int? .i64)) fun x148 =>
 ob ((l139[1]?).bind (Value.int? .i64)) fun x149 =>
 bb (x149 != 2)
 (some (.ret (.bool false) r138.2))
 (ob (Program.keyLits P 9 22 [.int .i64 x141, .int .i64 x142, .int .i64 x143, .int .i64 x144, .int .i64 x145, .int .i64 x146, .int .i64 x147, .int .i64 x148]) fun q150 => ob (Program.keyLits P 9 22 [.int .i64 0, .int .i64 0, .int .i64 0, .int .i64 0, .int .i64 0, .int .i64 0, .int .i64 0, .int .i64 0]) fun q151 =>
 bb (!sameLits q150 q151)
 (some (.ret (.bool false) r138.2))
 (some (zoetropelaw14_SubpelKnown.c4084 b1 b2 A3 n4 c5 x6 (IntKind.i64.wrap (x7 + 1)) r138.2)))) none)
 (ob (acall P T k lo F.subpel_Fetch [.agg ⟨[.int .i64 0, .int .i64 0, .slice none 0 0]⟩, .int .i64 0, .int .i64 0, .int .i64 4, .int .i64 4, .int .i64 0] M) fun r152 =>
 ob (r152.1.tup? 2) fun l153 =>
 ob ((l153[0]?).bind Value.slc?) fun s154 =>
 ob ((l153[1]?).bind (Value.int? .i64)) fun x155 =>
 ob (acall P T k lo F.zoetropelaw14_given [] r152.2) fun r156 =>
 ob ((some r156.1).bind (Value.agg? 3)) fun l157 =>
 ob ((l157[0]?).bind (Value.int? .i64)) fun x158 =>
 ob ((l157[1]?).bind (Value.int? .i64)) fun x159 =>
 ob ((l157[2]?).bind Value.slc?) fun s160 =>
 ob (acall P T k lo F.subpel_Fetch [.agg ⟨[.int .i64 x158, .int .i64 x159, .slice s160.a s160.n s160.c]⟩, .int .i64 0, .int .i64 0, .int .i64 64, .int .i64 64, .int .i64 1] r156.2) fun r161 =>
 ob (r161.1.tup? 2) fun l162 =>
 ob ((l162[0]?).bind Value.slc?) fun s163 =>
 ob ((l162[1]?).bind (Value.int? .i64)) fun x164 =>
 ob (acall P T k lo F.zoetropelaw14_works [] r161.2) fun r165 =>
 ob ((some r165.1).bind Value.bool?) fun b166 =>
 bb b166
 (bb b1
 (bb b2
 (bb (x155 == 2)
 (bb (x164 == 0)
 (some (.ret (.bool ((s163.n : Int) == 4096)) r165.2))
 (some (.ret (.bool false) r165.2)))
 (some (.ret (.bool false) r165.2)))
 (some (.ret (.bool false) r165.2)))
 (some (.ret (.bool false) r165.2)))
 (some (.ret (.bool false) r165.2))) := by kernel_rfl
theorem zoetropelaw14_SubpelWhole.entry (k lo : Nat) (x1 : Int) (x2 : Int) (A3 : Option Addr) (n4 : Nat) (c5 : Nat) (x6 : Int) (x7 : Int) (x8 : Int) (x9 : Int) (x10 : Int) (M : Mem) : entry P T k lo F.zoetropelaw14_SubpelWhole [.agg ⟨[.int .i64 x1, .int .i64 x2, .slice A3 n4 c5]⟩, .agg ⟨[.int .i64 x6, .int .i64 x7, .int .i64 x8, .int .i64 x9, .int .i64 x10]⟩] M =
 ob (acall P T k lo F.zoetropelaw14_works [] M) fun r16 =>
 ob ((some r16.1).bind Value.bool?) fun b17 =>
 bb (!b17)
 (some (.ret (.bool false) r16.2))
 (ob (acall P T k lo F.plane_Check [.agg ⟨[.int .i64 x1, .int .i64 x2, .slice A3 n4 c5]⟩] r16.2) fun r18 =>
 ob ((some r18.1).bind (Value.int? .i64)) fun x19 =>
 bb (x19 != 0)
 (ob (acall P T k lo F.subpel_Fetch [.agg ⟨[.int .i64 x1, .int .i64 x2, .slice A3 n4 c5]⟩, .int .i64 0, .int .i64 0, .int .i64 4, .int .i64 4, .int .i64 0] r18.2) fun r20 =>
 ob (r20.1.tup? 2) fun l21 =>
 ob ((l21[0]?).bind Value.slc?) fun s22 =>
 ob ((l21[1]?).bind (Value.int? .i64)) fun x23 =>
 some (.ret (.bool (x23 == 2)) r20.2))
 (ob (acall P T k lo F.zoetropelaw14_may [.agg ⟨[.int .i64 x6, .int .i64 x7, .int .i64 x8, .int .i64 x9, .int .i64 x10]⟩] r18.2) fun r24 =>
 ob ((some r24.1).bind (Value.agg? 5)) fun l25 =>
 ob ((l25[0]?).bind (Value.int? .i64)) fun x26 =>
 ob ((l25[1]?).bind (Value.int? .i64)) fun x27 =>
 ob ((l25[2]?).bind (Value.int? .i64)) fun x28 =>
 ob ((l25[3]?).bind (Value.int? .i64)) fun x29 =>
 ob ((l25[4]?).bind (Value.int? .i64)) fun x30 =>
 ob (acall P T k lo F.subpel_Fetch [.agg ⟨[.int .i64 x1, .int .i64 x2, .slice A3 n4 c5]⟩, .int .i64 (shlI .i64 (shrI .i64 x26 4) 4), .int .i64 (shlI .i64 (shrI .i64 x27 4) 4), .int .i64 x28, .int .i64 x29, .int .i64 x30] r24.2) fun r31 =>
 ob (r31.1.tup? 2) fun l32 =>
 ob ((l32[0]?).bind Value.slc?) fun s33 =>
 ob ((l32[1]?).bind (Value.int? .i64)) fun x34 =>
 bb (x34 != 0)
 (some (.ret (.bool false) r31.2))
 (bb ((s33.n : Int) != IntKind.i64.wrap (x28 * x29))
 (some (.ret (.bool false) r31.2))
 (some (zoetropelaw14_SubpelWhole.c2036 s33.a s33.n s33.c 0 x1 x2 A3 n4 c5 x26 x27 x28 x29 x30 r31.2))))) := by kernel_rfl
theorem zoetropelaw14_SubpelWhole.p2036 (k lo : Nat) (A1 : Option Addr) (n2 : Nat) (c3 : Nat) (x4 : Int) (x5 : Int) (x6 : Int) (A7 : Option Addr) (n8 : Nat) (c9 : Nat) (x10 : Int) (x11 : Int) (x12 : Int) (x13 : Int) (x14 : Int) (M : Mem) : piece P T k lo F.zoetropelaw14_SubpelWhole 2036 [.l 2 0, .l 3 0, .v (.slice A1 n2 c3), .v (.int .i64 x4)] [[.int .i64 x5, .int .i64 x6, .slice A7 n8 c9], [.int .i64 x10, .int .i64 x11, .int .i64 x12, .int .i64 x13, .int .i64 x14]] M =
 bb (decide (x4 < (n2 : Int)))
 (pb (0 ≤ x4 ∧ x4 < (n2 : Int))
 (ob A1 fun a35 =>
 ob ((if ((plus a35 x4.toNat).block) < M.length then M.ld (plus a35 x4.toNat) else none).bind (Value.int? .u8)) fun x36 =>
 pb (x12 = 0) none
 (pb (x12 = 0) none
 (ob (acall P T k M.length F.plane_At [.agg ⟨[.int .i64 x5, .int .i64 x6, .slice A7 n8 c9]⟩, .int .i64 (IntKind.i64.wrap ((shrI .i64 x10 4) + (Int.tmod x4 x12))), .int .i64 (IntKind.i64.wrap ((shrI .i64 x11 4) + (IntKind.i64.wrap (Int.tdiv x4 x12))))] M) fun r37 =>
 ob ((some r37.1).bind (Value.int? .u8)) fun x38 =>
 bb (x36 != x38)
 (some (.ret (.bool false) r37.2))
 (some (zoetropelaw14_SubpelWhole.c2036 A1 n2 c3 (IntKind.i64.wrap (x4 + 1)) x5 x6 A7 n8 c9 x10 x11 x12 x13 x14 r37.2))))) none)
 (some (zoetropelaw14_SubpelWhole.c4084 0 x10 x11 x12 x13 x14 M)) := by kernel_rfl
theorem zoetropelaw14_SubpelWhole.p4084 (k lo : Nat) (x1 : Int) (x2 : Int) (x3 : Int) (x4 : Int) (x5 : Int) (x6 : Int) (M : Mem) : piece P T k lo F.zoetropelaw14_SubpelWhole 4084 [.l 3 0, .v (.int .i64 x1)] [[.int .i64 x2, .int .i64 x3, .int .i64 x4, .int .i64 x5, .int .i64 x6]] M =
 bb (decide (x1 < 16))
 (ob (acall P T k lo F.subpel_Taps [.int .i64 x6, .int .i64 x1] M) fun r39 =>
 ob (r39.1.tup? 2) fun l40 =>
 ob ((l40[0]?).bind (Value.agg? 8)) fun l41 =>
 ob ((l41[0]?).bind (Value.int? .i64)) fun x42 =>
 ob ((l41[1]?).bind (Value.int? .i64)) fun x43 =>
 ob ((l41[2]?).bind (Value.int? .i64)) fun x44 =>
 ob ((l41[3]?).bind (Value.int? .i64)) fun x45 =>
 ob ((l41[4]?).bind (Value.int? .i64)) fun x46 =>
 ob ((l41[5]?).bind (Value.int? .i64)) fun x47 =>
 ob ((l41[6]?).bind (Value.int? .i64)) fun x48 =>
 ob ((l41[7]?).bind (Value.int? .i64)) fun x49 =>
 ob ((l40[1]?).bind (Value.int? .i64)) fun x50 =>
 some (zoetropelaw14_SubpelWhole.c2091316 x1 x50 0 0 x2 x3 x4 x5 x6 x42 x43 x44 x45 x46 x47 x48 x49 r39.2))
 (some (.ret (.bool true) M)) := by kernel_rfl
theorem zoetropelaw14_SubpelWhole.p2091316 (k lo : Nat) (x1 : Int) (x2 : Int) (x3 : Int) (x4 : Int) (x5 : Int) (x6 : Int) (x7 : Int) (x8 : Int) (x9 : Int) (x10 : Int) (x11 : Int) (x12 : Int) (x13 : Int) (x14 : Int) (x15 : Int) (x16 : Int) (x17 : Int) (M : Mem) : piece P T k lo F.zoetropelaw14_SubpelWhole 2091316 [.l 3 0, .v (.int .i64 x1), .l 11 0, .v (.int .i64 x2), .v (.int .i64 x3), .v (.int .i64 x4)] [[.int .i64 x5, .int .i64 x6, .int .i64 x7, .int .i64 x8, .int .i64 x9], [.int .i64 x10, .int .i64 x11, .int .i64 x12, .int .i64 x13, .int .i64 x14, .int .i64 x15, .int .i64 x16, .int .i64 x17]] M =
 bb (decide (x4 < 8))
 (pb (0 ≤ x4 ∧ x4 < (8 : Int))
 (ob ((([.int .i64 x10, .int .i64 x11, .int .i64 x12, .int .i64 x13, .int .i64 x14, .int .i64 x15, .int .i64 x16, .int .i64 x17] : List Value)[0 + x4.toNat + 0]?).bind (Value.int? .i64)) fun x51 =>
 some (zoetropelaw14_SubpelWhole.c2091316 x1 x2 (IntKind.i64.wrap (x3 + x51)) (IntKind.i64.wrap (x4 + 1)) x5 x6 x7 x8 x9 x10 x11 x12 x13 x14 x15 x16 x17 M)) none)
 (bb (x2 != 0)
 (some (.ret (.bool false) M))
 (bb (x3 != 128)
 (some (.ret (.bool false) M))
 (some (zoetropelaw14_SubpelWhole.c4084 (IntKind.i64.wrap (x1 + 1)) x5 x6 x7 x8 x9 M)))) := by kernel_rfl
theorem zoetropelaw14_SubpelFlat.entry (k lo : Nat) (x1 : Int) (x2 : Int) (x3 : Int) (x4 : Int) (x5 : Int) (x6 : Int) (x7 : Int) (x8 : Int) (M : Mem) : entry P T k lo F.zoetropelaw14_SubpelFlat [.int .u8 x1, .agg ⟨[.int .i64 x2, .int .i64 x3]⟩, .agg ⟨[.int .i64 x4, .int .i64 x5, .int .i64 x6, .int .i64 x7, .int .i64 x8]⟩] M =
 ob (acall P T k lo F.zoetropelaw14_works [] M) fun r14 =>
 ob ((some r14.1).bind Value.bool?) fun b15 =>
 bb (!b15)
 (some (.ret (.bool false) r14.2))
 (ob (acall P T k r14.2.length F.zoetroperef00_Bring [.int .i64 x2, .int .i64 40] r14.2) fun r16 =>
 ob ((some r16.1).bind (Value.int? .i64)) fun x17 =>
 ob (acall P T k r14.2.length F.zoetroperef00_Bring [.int .i64 x3, .int .i64 40] r16.2) fun r18 =>
 ob ((some r18.1).bind (Value.int? .i64)) fun x19 =>
 ob (acall P T k r14.2.length F.plane_New [.int .i64 (IntKind.i64.wrap (1 + x17)), .int .i64 (IntKind.i64.wrap (1 + x19)), .int .u8 x1] r18.2) fun r20 =>
 ob (r20.1.tup? 2) fun l21 =>
 ob ((l21[0]?).bind (Value.agg? 3)) fun l22 =>
 ob ((l22[0]?).bind (Value.int? .i64)) fun x23 =>
 ob ((l22[1]?).bind (Value.int? .i64)) fun x24 =>
 ob ((l22[2]?).bind Value.slc?) fun s25 =>
 ob ((l21[1]?).bind (Value.int? .i64)) fun x26 =>
 ob (acall P T k lo F.zoetropelaw14_may [.agg ⟨[.int .i64 x4, .int .i64 x5, .int .i64 x6, .int .i64 x7, .int .i64 x8]⟩] r20.2) fun r27 =>
 ob ((some r27.1).bind (Value.agg? 5)) fun l28 =>
 ob ((l28[0]?).bind (Value.int? .i64)) fun x29 =>
 ob ((l28[1]?).bind (Value.int? .i64)) fun x30 =>
 ob ((l28[2]?).bind (Value.int? .i64)) fun x31 =>
 ob ((l28[3]?).bind (Value.int? .i64)) fun x32 =>
 ob ((l28[4]?).bind (Value.int? .i64)) fun x33 =>
 some (zoetropelaw14_SubpelFlat.c500 x1 x26 0 x29 x30 x31 x32 x33 x23 x24 s25.a s25.n s25.c r27.2)) := by kernel_rfl
theorem zoetropelaw14_SubpelFlat.p500 (k lo : Nat) (x1 : Int) (x2 : Int) (x3 : Int) (x4 : Int) (x5 : Int) (x6 : Int) (x7 : Int) (x8 : Int) (x9 : Int) (x10 : Int) (A11 : Option Addr) (n12 : Nat) (c13 : Nat) (M : Mem) : piece P T k lo F.zoetropelaw14_SubpelFlat 500 [.v (.int .u8 x1), .l 5 0, .l 7 0, .v (.int .i64 x2), .v (.int .i64 x3)] [[.int .i64 x4, .int .i64 x5, .int .i64 x6, .int .i64 x7, .int .i64 x8], [.int .i64 x9, .int .i64 x10, .slice A11 n12 c13]] M =
 bb (decide (x3 < 3))
 (ob (acall P T k lo F.subpel_Fetch [.agg ⟨[.int .i64 x9, .int .i64 x10, .slice A11 n12 c13]⟩, .int .i64 x4, .int .i64 x5, .int .i64 x6, .int .i64 x7, .int .i64 x3] M) fun r34 =>
 ob (r34.1.tup? 2) fun l35 =>
 ob ((l35[0]?).bind Value.slc?) fun s36 =>
 ob ((l35[1]?).bind (Value.int? .i64)) fun x37 =>
 bb (x2 != 0)
 (some (.ret (.bool false) r34.2))
 (bb (x37 != 0)
 (some (.ret (.bool false) r34.2))
 (bb ((s36.n : Int) != IntKind.i64.wrap (x6 * x7))
 (some (.ret (.bool false) r34.2))
 (some (zoetropelaw14_SubpelFlat.c128156 x1 x2 x3 s36.a s36.n s36.c 0 x4 x5 x6 x7 x8 x9 x10 A11 n12 c13 r34.2)))))
 (some (.ret (.bool true) M)) := by kernel_rfl
theorem zoetropelaw14_SubpelFlat.p128156 (k lo : Nat) (x1 : Int) (x2 : Int) (x3 : Int) (A4 : Option Addr) (n5 : Nat) (c6 : Nat) (x7 : Int) (x8 : Int) (x9 : Int) (x10 : Int) (x11 : Int) (x12 : Int) (x13 : Int) (x14 : Int) (A15 : Option Addr) (n16 : Nat) (c17 : Nat) (M : Mem) : piece P T k lo F.zoetropelaw14_SubpelFlat 128156 [.v (.int .u8 x1), .l 5 0, .l 7 0, .v (.int .i64 x2), .v (.int .i64 x3), .v (.slice A4 n5 c6), .v (.int .i64 x7)] [[.int .i64 x8, .int .i64 x9, .int .i64 x10, .int .i64 x11, .int .i64 x12], [.int .i64 x13, .int .i64 x14, .slice A15 n16 c17]] M =
 bb (decide (x7 < (n5 : Int)))
 (pb (0 ≤ x7 ∧ x7 < (n5 : Int))
 (ob A4 fun a38 =>
 ob ((M.ld (plus a38 x7.toNat)).bind (Value.int? .u8)) fun x39 =>
 bb (x39 != x1)
 (some (.ret (.bool false) M))
 (some (zoetropelaw14_SubpelFlat.c128156 x1 x2 x3 A4 n5 c6 (IntKind.i64.wrap (x7 + 1)) x8 x9 x10 x11 x12 x13 x14 A15 n16 c17 M))) none)
 (some (zoetropelaw14_SubpelFlat.c500 x1 x2 (IntKind.i64.wrap (x3 + 1)) x8 x9 x10 x11 x12 x13 x14 A15 n16 c17 M)) := by kernel_rfl
theorem subpel_Taps.entry (k lo : Nat) (x1 : Int) (x2 : Int) (M : Mem) : entry P T k lo F.subpel_Taps [.int .i64 x1, .int .i64 x2] M =
 bb (decide (x2 < 0))
 (some (.ret (.tuple ⟨[.agg ⟨[.int .i64 0, .int .i64 0, .int .i64 0, .int .i64 0, .int .i64 0, .int .i64 0, .int .i64 0, .int .i64 0]⟩, .int .i64 2]⟩) M))
 (bb (decide (x2 > 15))
 (some (.ret (.tuple ⟨[.agg ⟨[.int .i64 0, .int .i64 0, .int .i64 0, .int .i64 0, .int .i64 0, .int .i64 0, .int .i64 0, .int .i64 0]⟩, .int .i64 2]⟩) M))
 (ob (acall P T k lo F.subpel_soft [] M) fun r8 =>
 ob ((some r8.1).bind (Value.agg? 72)) fun l9 =>
 ob ((l9[0]?).bind (Value.int? .i64)) fun x10 =>
 ob ((l9[1]?).bind (Value.int? .i64)) fun x11 =>
 ob ((l9[2]?).bind (Value.int? .i64)) fun x12 =>
 ob ((l9[3]?).bind (Value.int? .i64)) fun x13 =>
 ob ((l9[4]?).bind (Value.int? .i64)) fun x14 =>
 ob ((l9[5]?).bind (Value.int? .i64)) fun x15 =>
 ob ((l9[6]?).bind (Value.int? .i64)) fun x16 =>
 ob ((l9[7]?).bind (Value.int? .i64)) fun x17 =>
 ob ((l9[8]?).bind (Value.int? .i64)) fun x18 =>
 ob ((l9[9]?).bind (Value.int? .i64)) fun x19 =>
 ob ((l9[10]?).bind (Value.int? .i64)) fun x20 =>
 ob ((l9[11]?).bind (Value.int? .i64)) fun x21 =>
 ob ((l9[12]?).bind (Value.int? .i64)) fun x22 =>
 ob ((l9[13]?).bind (Value.int? .i64)) fun x23 =>
 ob ((l9[14]?).bind (Value.int? .i64)) fun x24 =>
 ob ((l9[15]?).bind (Value.int? .i64)) fun x25 =>
 ob ((l9[16]?).bind (Value.int? .i64)) fun x26 =>
 ob ((l9[17]?).bind (Value.int? .i64)) fun x27 =>
 ob ((l9[18]?).bind (Value.int? .i64)) fun x28 =>
 ob ((l9[19]?).bind (Value.int? .i64)) fun x29 =>
 ob ((l9[20]?).bind (Value.int? .i64)) fun x30 =>
 ob ((l9[21]?).bind (Value.int? .i64)) fun x31 =>
 ob ((l9[22]?).bind (Value.int? .i64)) fun x32 =>
 ob ((l9[23]?).bind (Value.int? .i64)) fun x33 =>
 ob ((l9[24]?).bind (Value.int? .i64)) fun x34 =>
 ob ((l9[25]?).bind (Value.int? .i64)) fun x35 =>
 ob ((l9[26]?).bind (Value.int? .i64)) fun x36 =>
 ob ((l9[27]?).bind (Value.int? .i64)) fun x37 =>
 ob ((l9[28]?).bind (Value.int? .i64)) fun x38 =>
 ob ((l9[29]?).bind (Value.int? .i64)) fun x39 =>
 ob ((l9[30]?).bind (Value.int? .i64)) fun x40 =>
 ob ((l9[31]?).bind (Value.int? .i64)) fun x41 =>
 ob ((l9[32]?).bind (Value.int? .i64)) fun x42 =>
 ob ((l9[33]?).bind (Value.int? .i64)) fun x43 =>
 ob ((l9[34]?).bind (Value.int? .i64)) fun x44 =>
 ob ((l9[35]?).bind (Value.int? .i64)) fun x45 =>
 ob ((l9[36]?).bind (Value.int? .i64)) fun x46 =>
 ob ((l9[37]?).bind (Value.int? .i64)) fun x47 =>
 ob ((l9[38]?).bind (Value.int? .i64)) fun x48 =>
 ob ((l9[39]?).bind (Value.int? .i64)) fun x49 =>
 ob ((l9[40]?).bind (Value.int? .i64)) fun x50 =>
 ob ((l9[41]?).bind (Value.int? .i64)) fun x51 =>
 ob ((l9[42]?).bind (Value.int? .i64)) fun x52 =>
 ob ((l9[43]?).bind (Value.int? .i64)) fun x53 =>
 ob ((l9[44]?).bind (Value.int? .i64)) fun x54 =>
 ob ((l9[45]?).bind (Value.int? .i64)) fun x55 =>
 ob ((l9[46]?).bind (Value.int? .i64)) fun x56 =>
 ob ((l9[47]?).bind (Value.int? .i64)) fun x57 =>
 ob ((l9[48]?).bind (Value.int? .i64)) fun x58 =>
 ob ((l9[49]?).bind (Value.int? .i64)) fun x59 =>
 ob ((l9[50]?).bind (Value.int? .i64)) fun x60 =>
 ob ((l9[51]?).bind (Value.int? .i64)) fun x61 =>
 ob ((l9[52]?).bind (Value.int? .i64)) fun x62 =>
 ob ((l9[53]?).bind (Value.int? .i64)) fun x63 =>
 ob ((l9[54]?).bind (Value.int? .i64)) fun x64 =>
 ob ((l9[55]?).bind (Value.int? .i64)) fun x65 =>
 ob ((l9[56]?).bind (Value.int? .i64)) fun x66 =>
 ob ((l9[57]?).bind (Value.int? .i64)) fun x67 =>
 ob ((l9[58]?).bind (Value.int? .i64)) fun x68 =>
 ob ((l9[59]?).bind (Value.int? .i64)) fun x69 =>
 ob ((l9[60]?).bind (Value.int? .i64)) fun x70 =>
 ob ((l9[61]?).bind (Value.int? .i64)) fun x71 =>
 ob ((l9[62]?).bind (Value.int? .i64)) fun x72 =>
 ob ((l9[63]?).bind (Value.int? .i64)) fun x73 =>
 ob ((l9[64]?).bind (Value.int? .i64)) fun x74 =>
 ob ((l9[65]?).bind (Value.int? .i64)) fun x75 =>
 ob ((l9[66]?).bind (Value.int? .i64)) fun x76 =>
 ob ((l9[67]?).bind (Value.int? .i64)) fun x77 =>
 ob ((l9[68]?).bind (Value.int? .i64)) fun x78 =>
 ob ((l9[69]?).bind (Value.int? .i64)) fun x79 =>
 ob ((l9[70]?).bind (Value.int? .i64)) fun x80 =>
 ob ((l9[71]?).bind (Value.int? .i64)) fun x81 =>
 bb (x1 == 2)
 (some (.ret (.tuple ⟨[.agg ⟨[.int .i64 0, .int .i64 0, .int .i64 0, .int .i64 (IntKind.i64.wrap (128 - (IntKind.i64.wrap (8 * x2)))), .int .i64 (IntKind.i64.wrap (8 * x2)), .int .i64 0, .int .i64 0, .int .i64 0]⟩, .int .i64 0]⟩) r8.2))
 (bb (x1 == 0)
 (ob (acall P T k lo F.subpel_sharp [] r8.2) fun r82 =>
 ob ((some r82.1).bind (Value.agg? 72)) fun l83 =>
 ob ((l83[0]?).bind (Value.int? .i64)) fun x84 =>
 ob ((l83[1]?).bind (Value.int? .i64)) fun x85 =>
 ob ((l83[2]?).bind (Value.int? .i64)) fun x86 =>
 ob ((l83[3]?).bind (Value.int? .i64)) fun x87 =>
 ob ((l83[4]?).bind (Value.int? .i64)) fun x88 =>
 ob ((l83[5]?).bind (Value.int? .i64)) fun x89 =>
 ob ((l83[6]?).bind (Value.int? .i64)) fun x90 =>
 ob ((l83[7]?).bind (Value.int? .i64)) fun x91 =>
 ob ((l83[8]?).bind (Value.int? .i64)) fun x92 =>
 ob ((l83[9]?).bind (Value.int? .i64)) fun x93 =>
 ob ((l83[10]?).bind (Value.int? .i64)) fun x94 =>
 ob ((l83[11]?).bind (Value.int? .i64)) fun x95 =>
 ob ((l83[12]?).bind (Value.int? .i64)) fun x96 =>
 ob ((l83[13]?).bind (Value.int? .i64)) fun x97 =>
 ob ((l83[14]?).bind (Value.int? .i64)) fun x98 =>
 ob ((l83[15]?).bind (Value.int? .i64)) fun x99 =>
 ob ((l83[16]?).bind (Value.int? .i64)) fun x100 =>
 ob ((l83[17]?).bind (Value.int? .i64)) fun x101 =>
 ob ((l83[18]?).bind (Value.int? .i64)) fun x102 =>
 ob ((l83[19]?).bind (Value.int? .i64)) fun x103 =>
 ob ((l83[20]?).bind (Value.int? .i64)) fun x104 =>
 ob ((l83[21]?).bind (Value.int? .i64)) fun x105 =>
 ob ((l83[22]?).bind (Value.int? .i64)) fun x106 =>
 ob ((l83[23]?).bind (Value.int? .i64)) fun x107 =>
 ob ((l83[24]?).bind (Value.int? .i64)) fun x108 =>
 ob ((l83[25]?).bind (Value.int? .i64)) fun x109 =>
 ob ((l83[26]?).bind (Value.int? .i64)) fun x110 =>
 ob ((l83[27]?).bind (Value.int? .i64)) fun x111 =>
 ob ((l83[28]?).bind (Value.int? .i64)) fun x112 =>
 ob ((l83[29]?).bind (Value.int? .i64)) fun x113 =>
 ob ((l83[30]?).bind (Value.int? .i64)) fun x114 =>
 ob ((l83[31]?).bind (Value.int? .i64)) fun x115 =>
 ob ((l83[32]?).bind (Value.int? .i64)) fun x116 =>
 ob ((l83[33]?).bind (Value.int? .i64)) fun x117 =>
 ob ((l83[34]?).bind (Value.int? .i64)) fun x118 =>
 ob ((l83[35]?).bind (Value.int? .i64)) fun x119 =>
 ob ((l83[36]?).bind (Value.int? .i64)) fun x120 =>
 ob ((l83[37]?).bind (Value.int? .i64)) fun x121 =>
 ob ((l83[38]?).bind (Value.int? .i64)) fun x122 =>
 ob ((l83[39]?).bind (Value.int? .i64)) fun x123 =>
 ob ((l83[40]?).bind (Value.int? .i64)) fun x124 =>
 ob ((l83[41]?).bind (Value.int? .i64)) fun x125 =>
 ob ((l83[42]?).bind (Value.int? .i64)) fun x126 =>
 ob ((l83[43]?).bind (Value.int? .i64)) fun x127 =>
 ob ((l83[44]?).bind (Value.int? .i64)) fun x128 =>
 ob ((l83[45]?).bind (Value.int? .i64)) fun x129 =>
 ob ((l83[46]?).bind (Value.int? .i64)) fun x130 =>
 ob ((l83[47]?).bind (Value.int? .i64)) fun x131 =>
 ob ((l83[48]?).bind (Value.int? .i64)) fun x132 =>
 ob ((l83[49]?).bind (Value.int? .i64)) fun x133 =>
 ob ((l83[50]?).bind (Value.int? .i64)) fun x134 =>
 ob ((l83[51]?).bind (Value.int? .i64)) fun x135 =>
 ob ((l83[52]?).bind (Value.int? .i64)) fun x136 =>
 ob ((l83[53]?).bind (Value.int? .i64)) fun x137 =>
 ob ((l83[54]?).bind (Value.int? .i64)) fun x138 =>
 ob ((l83[55]?).bind (Value.int? .i64)) fun x139 =>
 ob ((l83[56]?).bind (Value.int? .i64)) fun x140 =>
 ob ((l83[57]?).bind (Value.int? .i64)) fun x141 =>
 ob ((l83[58]?).bind (Value.int? .i64)) fun x142 =>
 ob ((l83[59]?).bind (Value.int? .i64)) fun x143 =>
 ob ((l83[60]?).bind (Value.int? .i64)) fun x144 =>
 ob ((l83[61]?).bind (Value.int? .i64)) fun x145 =>
 ob ((l83[62]?).bind (Value.int? .i64)) fun x146 =>
 ob ((l83[63]?).bind (Value.int? .i64)) fun x147 =>
 ob ((l83[64]?).bind (Value.int? .i64)) fun x148 =>
 ob ((l83[65]?).bind (Value.int? .i64)) fun x149 =>
 ob ((l83[66]?).bind (Value.int? .i64)) fun x150 =>
 ob ((l83[67]?).bind (Value.int? .i64)) fun x151 =>
 ob ((l83[68]?).bind (Value.int? .i64)) fun x152 =>
 ob ((l83[69]?).bind (Value.int? .i64)) fun x153 =>
 ob ((l83[70]?).bind (Value.int? .i64)) fun x154 =>
 ob ((l83[71]?).bind (Value.int? .i64)) fun x155 =>
 bb (decide (x2 < 9))
 (pb (0 ≤ x2 ∧ x2 < (9 : Int))
 (ob ((([.int .i64 x84, .int .i64 x85, .int .i64 x86, .int .i64 x87, .int .i64 x88, .int .i64 x89, .int .i64 x90, .int .i64 x91, .int .i64 x92, .int .i64 x93, .int .i64 x94, .int .i64 x95, .int .i64 x96, .int .i64 x97, .int .i64 x98, .int .i64 x99, .int .i64 x100, .int .i64 x101, .int .i64 x102, .int .i64 x103, .int .i64 x104, .int .i64 x105, .int .i64 x106, .int .i64 x107, .int .i64 x108, .int .i64 x109, .int .i64 x110, .int .i64 x111, .int .i64 x112, .int .i64 x113, .int .i64 x114, .int .i64 x115, .int .i64 x116, .int .i64 x117, .int .i64 x118, .int .i64 x119, .int .i64 x120, .int .i64 x121, .int .i64 x122, .int .i64 x123, .int .i64 x124, .int .i64 x125, .int .i64 x126, .int .i64 x127, .int .i64 x128, .int .i64 x129, .int .i64 x130, .int .i64 x131, .int .i64 x132, .int .i64 x133, .int .i64 x134, .int .i64 x135, .int .i64 x136, .int .i64 x137, .int .i64 x138, .int .i64 x139, .int .i64 x140, .int .i64 x141, .int .i64 x142, .int .i64 x143, .int .i64 x144, .int .i64 x145, .int .i64 x146, .int .i64 x147, .int .i64 x148, .int .i64 x149, .int .i64 x150, .int .i64 x151, .int .i64 x152, .int .i64 x153, .int .i64 x154, .int .i64 x155] : List Value)[0 + (x2.toNat * 8) + 0]?).bind (Value.int? .i64)) fun x156 =>
 ob ((([.int .i64 x84, .int .i64 x85, .int .i64 x86, .int .i64 x87, .int .i64 x88, .int .i64 x89, .int .i64 x90, .int .i64 x91, .int .i64 x92, .int .i64 x93, .int .i64 x94, .int .i64 x95, .int .i64 x96, .int .i64 x97, .int .i64 x98, .int .i64 x99, .int .i64 x100, .int .i64 x101, .int .i64 x102, .int .i64 x103, .int .i64 x104, .int .i64 x105, .int .i64 x106, .int .i64 x107, .int .i64 x108, .int .i64 x109, .int .i64 x110, .int .i64 x111, .int .i64 x112, .int .i64 x113, .int .i64 x114, .int .i64 x115, .int .i64 x116, .int .i64 x117, .int .i64 x118, .int .i64 x119, .int .i64 x120, .int .i64 x121, .int .i64 x122, .int .i64 x123, .int .i64 x124, .int .i64 x125, .int .i64 x126, .int .i64 x127, .int .i64 x128, .int .i64 x129, .int .i64 x130, .int .i64 x131, .int .i64 x132, .int .i64 x133, .int .i64 x134, .int .i64 x135, .int .i64 x136, .int .i64 x137, .int .i64 x138, .int .i64 x139, .int .i64 x140, .int .i64 x141, .int .i64 x142, .int .i64 x143, .int .i64 x144, .int .i64 x145, .int .i64 x146, .int .i64 x147, .int .i64 x148, .int .i64 x149, .int .i64 x150, .int .i64 x151, .int .i64 x152, .int .i64 x153, .int .i64 x154, .int .i64 x155] : List Value)[0 + (x2.toNat * 8) + 1]?).bind (Value.int? .i64)) fun x157 =>
 ob ((([.int .i64 x84, .int .i64 x85, .int .i64 x86, .int .i64 x87, .int .i64 x88, .int .i64 x89, .int .i64 x90, .int .i64 x91, .int .i64 x92, .int .i64 x93, .int .i64 x94, .int .i64 x95, .int .i64 x96, .int .i64 x97, .int .i64 x98, .int .i64 x99, .int .i64 x100, .int .i64 x101, .int .i64 x102, .int .i64 x103, .int .i64 x104, .int .i64 x105, .int .i64 x106, .int .i64 x107, .int .i64 x108, .int .i64 x109, .int .i64 x110, .int .i64 x111, .int .i64 x112, .int .i64 x113, .int .i64 x114, .int .i64 x115, .int .i64 x116, .int .i64 x117, .int .i64 x118, .int .i64 x119, .int .i64 x120, .int .i64 x121, .int .i64 x122, .int .i64 x123, .int .i64 x124, .int .i64 x125, .int .i64 x126, .int .i64 x127, .int .i64 x128, .int .i64 x129, .int .i64 x130, .int .i64 x131, .int .i64 x132, .int .i64 x133, .int .i64 x134, .int .i64 x135, .int .i64 x136, .int .i64 x137, .int .i64 x138, .int .i64 x139, .int .i64 x140, .int .i64 x141, .int .i64 x142, .int .i64 x143, .int .i64 x144, .int .i64 x145, .int .i64 x146, .int .i64 x147, .int .i64 x148, .int .i64 x149, .int .i64 x150, .int .i64 x151, .int .i64 x152, .int .i64 x153, .int .i64 x154, .int .i64 x155] : List Value)[0 + (x2.toNat * 8) + 2]?).bind (Value.int? .i64)) fun x158 =>
 ob ((([.int .i64 x84, .int .i64 x85, .int .i64 x86, .int .i64 x87, .int .i64 x88, .int .i64 x89, .int .i64 x90, .int .i64 x91, .int .i64 x92, .int .i64 x93, .int .i64 x94, .int .i64 x95, .int .i64 x96, .int .i64 x97, .int .i64 x98, .int .i64 x99, .int .i64 x100, .int .i64 x101, .int .i64 x102, .int .i64 x103, .int .i64 x104, .int .i64 x105, .int .i64 x106, .int .i64 x107, .int .i64 x108, .int .i64 x109, .int .i64 x110, .int .i64 x111, .int .i64 x112, .int .i64 x113, .int .i64 x114, .int .i64 x115, .int .i64 x116, .int .i64 x117, .int .i64 x118, .int .i64 x119, .int .i64 x120, .int .i64 x121, .int .i64 x122, .int .i64 x123, .int .i64 x124, .int .i64 x125, .int .i64 x126, .int .i64 x127, .int .i64 x128, .int .i64 x129, .int .i64 x130, .int .i64 x131, .int .i64 x132, .int .i64 x133, .int .i64 x134, .int .i64 x135, .int .i64 x136, .int .i64 x137, .int .i64 x138, .int .i64 x139, .int .i64 x140, .int .i64 x141, .int .i64 x142, .int .i64 x143, .int .i64 x144, .int .i64 x145, .int .i64 x146, .int .i64 x147, .int .i64 x148, .int .i64 x149, .int .i64 x150, .int .i64 x151, .int .i64 x152, .int .i64 x153, .int .i64 x154, .int .i64 x155] : List Value)[0 + (x2.toNat * 8) + 3]?).bind (Value.int? .i64)) fun x159 =>
 ob ((([.int .i64 x84, .int .i64 x85, .int .i64 x86, .int .i64 x87, .int .i64 x88, .int .i64 x89, .int .i64 x90, .int .i64 x91, .int .i64 x92, .int .i64 x93, .int .i64 x94, .int .i64 x95, .int .i64 x96, .int .i64 x97, .int .i64 x98, .int .i64 x99, .int .i64 x100, .int .i64 x101, .int .i64 x102, .int .i64 x103, .int .i64 x104, .int .i64 x105, .int .i64 x106, .int .i64 x107, .int .i64 x108, .int .i64 x109, .int .i64 x110, .int .i64 x111, .int .i64 x112, .int .i64 x113, .int .i64 x114, .int .i64 x115, .int .i64 x116, .int .i64 x117, .int .i64 x118, .int .i64 x119, .int .i64 x120, .int .i64 x121, .int .i64 x122, .int .i64 x123, .int .i64 x124, .int .i64 x125, .int .i64 x126, .int .i64 x127, .int .i64 x128, .int .i64 x129, .int .i64 x130, .int .i64 x131, .int .i64 x132, .int .i64 x133, .int .i64 x134, .int .i64 x135, .int .i64 x136, .int .i64 x137, .int .i64 x138, .int .i64 x139, .int .i64 x140, .int .i64 x141, .int .i64 x142, .int .i64 x143, .int .i64 x144, .int .i64 x145, .int .i64 x146, .int .i64 x147, .int .i64 x148, .int .i64 x149, .int .i64 x150, .int .i64 x151, .int .i64 x152, .int .i64 x153, .int .i64 x154, .int .i64 x155] : List Value)[0 + (x2.toNat * 8) + 4]?).bind (Value.int? .i64)) fun x160 =>
 ob ((([.int .i64 x84, .int .i64 x85, .int .i64 x86, .int .i64 x87, .int .i64 x88, .int .i64 x89, .int .i64 x90, .int .i64 x91, .int .i64 x92, .int .i64 x93, .int .i64 x94, .int .i64 x95, .int .i64 x96, .int .i64 x97, .int .i64 x98, .int .i64 x99, .int .i64 x100, .int .i64 x101, .int .i64 x102, .int .i64 x103, .int .i64 x104, .int .i64 x105, .int .i64 x106, .int .i64 x107, .int .i64 x108, .int .i64 x109, .int .i64 x110, .int .i64 x111, .int .i64 x112, .int .i64 x113, .int .i64 x114, .int .i64 x115, .int .i64 x116, .int .i64 x117, .int .i64 x118, .int .i64 x119, .int .i64 x120, .int .i64 x121, .int .i64 x122, .int .i64 x123, .int .i64 x124, .int .i64 x125, .int .i64 x126, .int .i64 x127, .int .i64 x128, .int .i64 x129, .int .i64 x130, .int .i64 x131, .int .i64 x132, .int .i64 x133, .int .i64 x134, .int .i64 x135, .int .i64 x136, .int .i64 x137, .int .i64 x138, .int .i64 x139, .int .i64 x140, .int .i64 x141, .int .i64 x142, .int .i64 x143, .int .i64 x144, .int .i64 x145, .int .i64 x146, .int .i64 x147, .int .i64 x148, .int .i64 x149, .int .i64 x150, .int .i64 x151, .int .i64 x152, .int .i64 x153, .int .i64 x154, .int .i64 x155] : List Value)[0 + (x2.toNat * 8) + 5]?).bind (Value.int? .i64)) fun x161 =>
 ob ((([.int .i64 x84, .int .i64 x85, .int .i64 x86, .int .i64 x87, .int .i64 x88, .int .i64 x89, .int .i64 x90, .int .i64 x91, .int .i64 x92, .int .i64 x93, .int .i64 x94, .int .i64 x95, .int .i64 x96, .int .i64 x97, .int .i64 x98, .int .i64 x99, .int .i64 x100, .int .i64 x101, .int .i64 x102, .int .i64 x103, .int .i64 x104, .int .i64 x105, .int .i64 x106, .int .i64 x107, .int .i64 x108, .int .i64 x109, .int .i64 x110, .int .i64 x111, .int .i64 x112, .int .i64 x113, .int .i64 x114, .int .i64 x115, .int .i64 x116, .int .i64 x117, .int .i64 x118, .int .i64 x119, .int .i64 x120, .int .i64 x121, .int .i64 x122, .int .i64 x123, .int .i64 x124, .int .i64 x125, .int .i64 x126, .int .i64 x127, .int .i64 x128, .int .i64 x129, .int .i64 x130, .int .i64 x131, .int .i64 x132, .int .i64 x133, .int .i64 x134, .int .i64 x135, .int .i64 x136, .int .i64 x137, .int .i64 x138, .int .i64 x139, .int .i64 x140, .int .i64 x141, .int .i64 x142, .int .i64 x143, .int .i64 x144, .int .i64 x145, .int .i64 x146, .int .i64 x147, .int .i64 x148, .int .i64 x149, .int .i64 x150, .int .i64 x151, .int .i64 x152, .int .i64 x153, .int .i64 x154, .int .i64 x155] : List Value)[0 + (x2.toNat * 8) + 6]?).bind (Value.int? .i64)) fun x162 =>
 ob ((([.int .i64 x84, .int .i64 x85, .int .i64 x86, .int .i64 x87, .int .i64 x88, .int .i64 x89, .int .i64 x90, .int .i64 x91, .int .i64 x92, .int .i64 x93, .int .i64 x94, .int .i64 x95, .int .i64 x96, .int .i64 x97, .int .i64 x98, .int .i64 x99, .int .i64 x100, .int .i64 x101, .int .i64 x102, .int .i64 x103, .int .i64 x104, .int .i64 x105, .int .i64 x106, .int .i64 x107, .int .i64 x108, .int .i64 x109, .int .i64 x110, .int .i64 x111, .int .i64 x112, .int .i64 x113, .int .i64 x114, .int .i64 x115, .int .i64 x116, .int .i64 x117, .int .i64 x118, .int .i64 x119, .int .i64 x120, .int .i64 x121, .int .i64 x122, .int .i64 x123, .int .i64 x124, .int .i64 x125, .int .i64 x126, .int .i64 x127, .int .i64 x128, .int .i64 x129, .int .i64 x130, .int .i64 x131, .int .i64 x132, .int .i64 x133, .int .i64 x134, .int .i64 x135, .int .i64 x136, .int .i64 x137, .int .i64 x138, .int .i64 x139, .int .i64 x140, .int .i64 x141, .int .i64 x142, .int .i64 x143, .int .i64 x144, .int .i64 x145, .int .i64 x146, .int .i64 x147, .int .i64 x148, .int .i64 x149, .int .i64 x150, .int .i64 x151, .int .i64 x152, .int .i64 x153, .int .i64 x154, .int .i64 x155] : List Value)[0 + (x2.toNat * 8) + 7]?).bind (Value.int? .i64)) fun x163 =>
 some (.ret (.tuple ⟨[.agg ⟨[.int .i64 x156, .int .i64 x157, .int .i64 x158, .int .i64 x159, .int .i64 x160, .int .i64 x161, .int .i64 x162, .int .i64 x163]⟩, .int .i64 0]⟩) r82.2)) none)
 (pb (0 ≤ IntKind.i64.wrap (16 - x2) ∧ IntKind.i64.wrap (16 - x2) < (9 : Int))
 (ob ((([.int .i64 x84, .int .i64 x85, .int .i64 x86, .int .i64 x87, .int .i64 x88, .int .i64 x89, .int .i64 x90, .int .i64 x91, .int .i64 x92, .int .i64 x93, .int .i64 x94, .int .i64 x95, .int .i64 x96, .int .i64 x97, .int .i64 x98, .int .i64 x99, .int .i64 x100, .int .i64 x101, .int .i64 x102, .int .i64 x103, .int .i64 x104, .int .i64 x105, .int .i64 x106, .int .i64 x107, .int .i64 x108, .int .i64 x109, .int .i64 x110, .int .i64 x111, .int .i64 x112, .int .i64 x113, .int .i64 x114, .int .i64 x115, .int .i64 x116, .int .i64 x117, .int .i64 x118, .int .i64 x119, .int .i64 x120, .int .i64 x121, .int .i64 x122, .int .i64 x123, .int .i64 x124, .int .i64 x125, .int .i64 x126, .int .i64 x127, .int .i64 x128, .int .i64 x129, .int .i64 x130, .int .i64 x131, .int .i64 x132, .int .i64 x133, .int .i64 x134, .int .i64 x135, .int .i64 x136, .int .i64 x137, .int .i64 x138, .int .i64 x139, .int .i64 x140, .int .i64 x141, .int .i64 x142, .int .i64 x143, .int .i64 x144, .int .i64 x145, .int .i64 x146, .int .i64 x147, .int .i64 x148, .int .i64 x149, .int .i64 x150, .int .i64 x151, .int .i64 x152, .int .i64 x153, .int .i64 x154, .int .i64 x155] : List Value)[0 + ((IntKind.i64.wrap (16 - x2)).toNat * 8) + 0]?).bind (Value.int? .i64)) fun x164 =>
 ob ((([.int .i64 x84, .int .i64 x85, .int .i64 x86, .int .i64 x87, .int .i64 x88, .int .i64 x89, .int .i64 x90, .int .i64 x91, .int .i64 x92, .int .i64 x93, .int .i64 x94, .int .i64 x95, .int .i64 x96, .int .i64 x97, .int .i64 x98, .int .i64 x99, .int .i64 x100, .int .i64 x101, .int .i64 x102, .int .i64 x103, .int .i64 x104, .int .i64 x105, .int .i64 x106, .int .i64 x107, .int .i64 x108, .int .i64 x109, .int .i64 x110, .int .i64 x111, .int .i64 x112, .int .i64 x113, .int .i64 x114, .int .i64 x115, .int .i64 x116, .int .i64 x117, .int .i64 x118, .int .i64 x119, .int .i64 x120, .int .i64 x121, .int .i64 x122, .int .i64 x123, .int .i64 x124, .int .i64 x125, .int .i64 x126, .int .i64 x127, .int .i64 x128, .int .i64 x129, .int .i64 x130, .int .i64 x131, .int .i64 x132, .int .i64 x133, .int .i64 x134, .int .i64 x135, .int .i64 x136, .int .i64 x137, .int .i64 x138, .int .i64 x139, .int .i64 x140, .int .i64 x141, .int .i64 x142, .int .i64 x143, .int .i64 x144, .int .i64 x145, .int .i64 x146, .int .i64 x147, .int .i64 x148, .int .i64 x149, .int .i64 x150, .int .i64 x151, .int .i64 x152, .int .i64 x153, .int .i64 x154, .int .i64 x155] : List Value)[0 + ((IntKind.i64.wrap (16 - x2)).toNat * 8) + 1]?).bind (Value.int? .i64)) fun x165 =>
 ob ((([.int .i64 x84, .int .i64 x85, .int .i64 x86, .int .i64 x87, .int .i64 x88, .int .i64 x89, .int .i64 x90, .int .i64 x91, .int .i64 x92, .int .i64 x93, .int .i64 x94, .int .i64 x95, .int .i64 x96, .int .i64 x97, .int .i64 x98, .int .i64 x99, .int .i64 x100, .int .i64 x101, .int .i64 x102, .int .i64 x103, .int .i64 x104, .int .i64 x105, .int .i64 x106, .int .i64 x107, .int .i64 x108, .int .i64 x109, .int .i64 x110, .int .i64 x111, .int .i64 x112, .int .i64 x113, .int .i64 x114, .int .i64 x115, .int .i64 x116, .int .i64 x117, .int .i64 x118, .int .i64 x119, .int .i64 x120, .int .i64 x121, .int .i64 x122, .int .i64 x123, .int .i64 x124, .int .i64 x125, .int .i64 x126, .int .i64 x127, .int .i64 x128, .int .i64 x129, .int .i64 x130, .int .i64 x131, .int .i64 x132, .int .i64 x133, .int .i64 x134, .int .i64 x135, .int .i64 x136, .int .i64 x137, .int .i64 x138, .int .i64 x139, .int .i64 x140, .int .i64 x141, .int .i64 x142, .int .i64 x143, .int .i64 x144, .int .i64 x145, .int .i64 x146, .int .i64 x147, .int .i64 x148, .int .i64 x149, .int .i64 x150, .int .i64 x151, .int .i64 x152, .int .i64 x153, .int .i64 x154, .int .i64 x155] : List Value)[0 + ((IntKind.i64.wrap (16 - x2)).toNat * 8) + 2]?).bind (Value.int? .i64)) fun x166 =>
 ob ((([.int .i64 x84, .int .i64 x85, .int .i64 x86, .int .i64 x87, .int .i64 x88, .int .i64 x89, .int .i64 x90, .int .i64 x91, .int .i64 x92, .int .i64 x93, .int .i64 x94, .int .i64 x95, .int .i64 x96, .int .i64 x97, .int .i64 x98, .int .i64 x99, .int .i64 x100, .int .i64 x101, .int .i64 x102, .int .i64 x103, .int .i64 x104, .int .i64 x105, .int .i64 x106, .int .i64 x107, .int .i64 x108, .int .i64 x109, .int .i64 x110, .int .i64 x111, .int .i64 x112, .int .i64 x113, .int .i64 x114, .int .i64 x115, .int .i64 x116, .int .i64 x117, .int .i64 x118, .int .i64 x119, .int .i64 x120, .int .i64 x121, .int .i64 x122, .int .i64 x123, .int .i64 x124, .int .i64 x125, .int .i64 x126, .int .i64 x127, .int .i64 x128, .int .i64 x129, .int .i64 x130, .int .i64 x131, .int .i64 x132, .int .i64 x133, .int .i64 x134, .int .i64 x135, .int .i64 x136, .int .i64 x137, .int .i64 x138, .int .i64 x139, .int .i64 x140, .int .i64 x141, .int .i64 x142, .int .i64 x143, .int .i64 x144, .int .i64 x145, .int .i64 x146, .int .i64 x147, .int .i64 x148, .int .i64 x149, .int .i64 x150, .int .i64 x151, .int .i64 x152, .int .i64 x153, .int .i64 x154, .int .i64 x155] : List Value)[0 + ((IntKind.i64.wrap (16 - x2)).toNat * 8) + 3]?).bind (Value.int? .i64)) fun x167 =>
 ob ((([.int .i64 x84, .int .i64 x85, .int .i64 x86, .int .i64 x87, .int .i64 x88, .int .i64 x89, .int .i64 x90, .int .i64 x91, .int .i64 x92, .int .i64 x93, .int .i64 x94, .int .i64 x95, .int .i64 x96, .int .i64 x97, .int .i64 x98, .int .i64 x99, .int .i64 x100, .int .i64 x101, .int .i64 x102, .int .i64 x103, .int .i64 x104, .int .i64 x105, .int .i64 x106, .int .i64 x107, .int .i64 x108, .int .i64 x109, .int .i64 x110, .int .i64 x111, .int .i64 x112, .int .i64 x113, .int .i64 x114, .int .i64 x115, .int .i64 x116, .int .i64 x117, .int .i64 x118, .int .i64 x119, .int .i64 x120, .int .i64 x121, .int .i64 x122, .int .i64 x123, .int .i64 x124, .int .i64 x125, .int .i64 x126, .int .i64 x127, .int .i64 x128, .int .i64 x129, .int .i64 x130, .int .i64 x131, .int .i64 x132, .int .i64 x133, .int .i64 x134, .int .i64 x135, .int .i64 x136, .int .i64 x137, .int .i64 x138, .int .i64 x139, .int .i64 x140, .int .i64 x141, .int .i64 x142, .int .i64 x143, .int .i64 x144, .int .i64 x145, .int .i64 x146, .int .i64 x147, .int .i64 x148, .int .i64 x149, .int .i64 x150, .int .i64 x151, .int .i64 x152, .int .i64 x153, .int .i64 x154, .int .i64 x155] : List Value)[0 + ((IntKind.i64.wrap (16 - x2)).toNat * 8) + 4]?).bind (Value.int? .i64)) fun x168 =>
 ob ((([.int .i64 x84, .int .i64 x85, .int .i64 x86, .int .i64 x87, .int .i64 x88, .int .i64 x89, .int .i64 x90, .int .i64 x91, .int .i64 x92, .int .i64 x93, .int .i64 x94, .int .i64 x95, .int .i64 x96, .int .i64 x97, .int .i64 x98, .int .i64 x99, .int .i64 x100, .int .i64 x101, .int .i64 x102, .int .i64 x103, .int .i64 x104, .int .i64 x105, .int .i64 x106, .int .i64 x107, .int .i64 x108, .int .i64 x109, .int .i64 x110, .int .i64 x111, .int .i64 x112, .int .i64 x113, .int .i64 x114, .int .i64 x115, .int .i64 x116, .int .i64 x117, .int .i64 x118, .int .i64 x119, .int .i64 x120, .int .i64 x121, .int .i64 x122, .int .i64 x123, .int .i64 x124, .int .i64 x125, .int .i64 x126, .int .i64 x127, .int .i64 x128, .int .i64 x129, .int .i64 x130, .int .i64 x131, .int .i64 x132, .int .i64 x133, .int .i64 x134, .int .i64 x135, .int .i64 x136, .int .i64 x137, .int .i64 x138, .int .i64 x139, .int .i64 x140, .int .i64 x141, .int .i64 x142, .int .i64 x143, .int .i64 x144, .int .i64 x145, .int .i64 x146, .int .i64 x147, .int .i64 x148, .int .i64 x149, .int .i64 x150, .int .i64 x151, .int .i64 x152, .int .i64 x153, .int .i64 x154, .int .i64 x155] : List Value)[0 + ((IntKind.i64.wrap (16 - x2)).toNat * 8) + 5]?).bind (Value.int? .i64)) fun x169 =>
 ob ((([.int .i64 x84, .int .i64 x85, .int .i64 x86, .int .i64 x87, .int .i64 x88, .int .i64 x89, .int .i64 x90, .int .i64 x91, .int .i64 x92, .int .i64 x93, .int .i64 x94, .int .i64 x95, .int .i64 x96, .int .i64 x97, .int .i64 x98, .int .i64 x99, .int .i64 x100, .int .i64 x101, .int .i64 x102, .int .i64 x103, .int .i64 x104, .int .i64 x105, .int .i64 x106, .int .i64 x107, .int .i64 x108, .int .i64 x109, .int .i64 x110, .int .i64 x111, .int .i64 x112, .int .i64 x113, .int .i64 x114, .int .i64 x115, .int .i64 x116, .int .i64 x117, .int .i64 x118, .int .i64 x119, .int .i64 x120, .int .i64 x121, .int .i64 x122, .int .i64 x123, .int .i64 x124, .int .i64 x125, .int .i64 x126, .int .i64 x127, .int .i64 x128, .int .i64 x129, .int .i64 x130, .int .i64 x131, .int .i64 x132, .int .i64 x133, .int .i64 x134, .int .i64 x135, .int .i64 x136, .int .i64 x137, .int .i64 x138, .int .i64 x139, .int .i64 x140, .int .i64 x141, .int .i64 x142, .int .i64 x143, .int .i64 x144, .int .i64 x145, .int .i64 x146, .int .i64 x147, .int .i64 x148, .int .i64 x149, .int .i64 x150, .int .i64 x151, .int .i64 x152, .int .i64 x153, .int .i64 x154, .int .i64 x155] : List Value)[0 + ((IntKind.i64.wrap (16 - x2)).toNat * 8) + 6]?).bind (Value.int? .i64)) fun x170 =>
 ob ((([.int .i64 x84, .int .i64 x85, .int .i64 x86, .int .i64 x87, .int .i64 x88, .int .i64 x89, .int .i64 x90, .int .i64 x91, .int .i64 x92, .int .i64 x93, .int .i64 x94, .int .i64 x95, .int .i64 x96, .int .i64 x97, .int .i64 x98, .int .i64 x99, .int .i64 x100, .int .i64 x101, .int .i64 x102, .int .i64 x103, .int .i64 x104, .int .i64 x105, .int .i64 x106, .int .i64 x107, .int .i64 x108, .int .i64 x109, .int .i64 x110, .int .i64 x111, .int .i64 x112, .int .i64 x113, .int .i64 x114, .int .i64 x115, .int .i64 x116, .int .i64 x117, .int .i64 x118, .int .i64 x119, .int .i64 x120, .int .i64 x121, .int .i64 x122, .int .i64 x123, .int .i64 x124, .int .i64 x125, .int .i64 x126, .int .i64 x127, .int .i64 x128, .int .i64 x129, .int .i64 x130, .int .i64 x131, .int .i64 x132, .int .i64 x133, .int .i64 x134, .int .i64 x135, .int .i64 x136, .int .i64 x137, .int .i64 x138, .int .i64 x139, .int .i64 x140, .int .i64 x141, .int .i64 x142, .int .i64 x143, .int .i64 x144, .int .i64 x145, .int .i64 x146, .int .i64 x147, .int .i64 x148, .int .i64 x149, .int .i64 x150, .int .i64 x151, .int .i64 x152, .int .i64 x153, .int .i64 x154, .int .i64 x155] : List Value)[0 + ((IntKind.i64.wrap (16 - x2)).toNat * 8) + 7]?).bind (Value.int? .i64)) fun x171 =>
 ob ((r82.2 ++ [⟨.fx, [.int .i64 0, .int .i64 0, .int .i64 0, .int .i64 0, .int .i64 0, .int .i64 0, .int .i64 0, .int .i64 0]⟩] : Mem).st lo ⟨r82.2.length, 0, none⟩ [.int .i64 x164, .int .i64 x165, .int .i64 x166, .int .i64 x167, .int .i64 x168, .int .i64 x169, .int .i64 x170, .int .i64 x171]) fun M172 =>
 pb ((none : Option Nat) = none)
 (pb (0 ≤ (0 : Int) ∧ (0 : Int) ≤ (8 : Int))
 (ob (acall P T k lo F.slices_Reverse__int_int [.slice (slAddr 1 (some ⟨r82.2.length, 0, none⟩) 0 8) 8 8] M172) fun r173 =>
 ob (r173.1.tup? 0) fun l174 =>
 ob ((r173.2.ld ⟨r82.2.length, 0, none⟩).bind (Value.int? .i64)) fun x175 =>
 ob ((r173.2.ld (plus ⟨r82.2.length, 0, none⟩ 1)).bind (Value.int? .i64)) fun x176 =>
 ob ((r173.2.ld (plus ⟨r82.2.length, 0, none⟩ 2)).bind (Value.int? .i64)) fun x177 =>
 ob ((r173.2.ld (plus ⟨r82.2.length, 0, none⟩ 3)).bind (Value.int? .i64)) fun x178 =>
 ob ((r173.2.ld (plus ⟨r82.2.length, 0, none⟩ 4)).bind (Value.int? .i64)) fun x179 =>
 ob ((r173.2.ld (plus ⟨r82.2.length, 0, none⟩ 5)).bind (Value.int? .i64)) fun x180 =>
 ob ((r173.2.ld (plus ⟨r82.2.length, 0, none⟩ 6)).bind (Value.int? .i64)) fun x181 =>
 ob ((r173.2.ld (plus ⟨r82.2.length, 0, none⟩ 7)).bind (Value.int? .i64)) fun x182 =>
 some (.ret (.tuple ⟨[.agg ⟨[.int .i64 x175, .int .i64 x176, .int .i64 x177, .int .i64 x178, .int .i64 x179, .int .i64 x180, .int .i64 x181, .int .i64 x182]⟩, .int .i64 0]⟩) r173.2)) none) none) none))
 (bb (x1 == 1)
 (bb (decide (x2 < 9))
 (pb (0 ≤ x2 ∧ x2 < (9 : Int))
 (ob ((([.int .i64 x10, .int .i64 x11, .int .i64 x12, .int .i64 x13, .int .i64 x14, .int .i64 x15, .int .i64 x16, .int .i64 x17, .int .i64 x18, .int .i64 x19, .int .i64 x20, .int .i64 x21, .int .i64 x22, .int .i64 x23, .int .i64 x24, .int .i64 x25, .int .i64 x26, .int .i64 x27, .int .i64 x28, .int .i64 x29, .int .i64 x30, .int .i64 x31, .int .i64 x32, .int .i64 x33, .int .i64 x34, .int .i64 x35, .int .i64 x36, .int .i64 x37, .int .i64 x38, .int .i64 x39, .int .i64 x40, .int .i64 x41, .int .i64 x42, .int .i64 x43, .int .i64 x44, .int .i64 x45, .int .i64 x46, .int .i64 x47, .int .i64 x48, .int .i64 x49, .int .i64 x50, .int .i64 x51, .int .i64 x52, .int .i64 x53, .int .i64 x54, .int .i64 x55, .int .i64 x56, .int .i64 x57, .int .i64 x58, .int .i64 x59, .int .i64 x60, .int .i64 x61, .int .i64 x62, .int .i64 x63, .int .i64 x64, .int .i64 x65, .int .i64 x66, .int .i64 x67, .int .i64 x68, .int .i64 x69, .int .i64 x70, .int .i64 x71, .int .i64 x72, .int .i64 x73, .int .i64 x74, .int .i64 x75, .int .i64 x76, .int .i64 x77, .int .i64 x78, .int .i64 x79, .int .i64 x80, .int .i64 x81] : List Value)[0 + (x2.toNat * 8) + 0]?).bind (Value.int? .i64)) fun x183 =>
 ob ((([.int .i64 x10, .int .i64 x11, .int .i64 x12, .int .i64 x13, .int .i64 x14, .int .i64 x15, .int .i64 x16, .int .i64 x17, .int .i64 x18, .int .i64 x19, .int .i64 x20, .int .i64 x21, .int .i64 x22, .int .i64 x23, .int .i64 x24, .int .i64 x25, .int .i64 x26, .int .i64 x27, .int .i64 x28, .int .i64 x29, .int .i64 x30, .int .i64 x31, .int .i64 x32, .int .i64 x33, .int .i64 x34, .int .i64 x35, .int .i64 x36, .int .i64 x37, .int .i64 x38, .int .i64 x39, .int .i64 x40, .int .i64 x41, .int .i64 x42, .int .i64 x43, .int .i64 x44, .int .i64 x45, .int .i64 x46, .int .i64 x47, .int .i64 x48, .int .i64 x49, .int .i64 x50, .int .i64 x51, .int .i64 x52, .int .i64 x53, .int .i64 x54, .int .i64 x55, .int .i64 x56, .int .i64 x57, .int .i64 x58, .int .i64 x59, .int .i64 x60, .int .i64 x61, .int .i64 x62, .int .i64 x63, .int .i64 x64, .int .i64 x65, .int .i64 x66, .int .i64 x67, .int .i64 x68, .int .i64 x69, .int .i64 x70, .int .i64 x71, .int .i64 x72, .int .i64 x73, .int .i64 x74, .int .i64 x75, .int .i64 x76, .int .i64 x77, .int .i64 x78, .int .i64 x79, .int .i64 x80, .int .i64 x81] : List Value)[0 + (x2.toNat * 8) + 1]?).bind (Value.int? .i64)) fun x184 =>
 ob ((([.int .i64 x10, .int .i64 x11, .int .i64 x12, .int .i64 x13, .int .i64 x14, .int .i64 x15, .int .i64 x16, .int .i64 x17, .int .i64 x18, .int .i64 x19, .int .i64 x20, .int .i64 x21, .int .i64 x22, .int .i64 x23, .int .i64 x24, .int .i64 x25, .int .i64 x26, .int .i64 x27, .int .i64 x28, .int .i64 x29, .int .i64 x30, .int .i64 x31, .int .i64 x32, .int .i64 x33, .int .i64 x34, .int .i64 x35, .int .i64 x36, .int .i64 x37, .int .i64 x38, .int .i64 x39, .int .i64 x40, .int .i64 x41, .int .i64 x42, .int .i64 x43, .int .i64 x44, .int .i64 x45, .int .i64 x46, .int .i64 x47, .int .i64 x48, .int .i64 x49, .int .i64 x50, .int .i64 x51, .int .i64 x52, .int .i64 x53, .int .i64 x54, .int .i64 x55, .int .i64 x56, .int .i64 x57, .int .i64 x58, .int .i64 x59, .int .i64 x60, .int .i64 x61, .int .i64 x62, .int .i64 x63, .int .i64 x64, .int .i64 x65, .int .i64 x66, .int .i64 x67, .int .i64 x68, .int .i64 x69, .int .i64 x70, .int .i64 x71, .int .i64 x72, .int .i64 x73, .int .i64 x74, .int .i64 x75, .int .i64 x76, .int .i64 x77, .int .i64 x78, .int .i64 x79, .int .i64 x80, .int .i64 x81] : List Value)[0 + (x2.toNat * 8) + 2]?).bind (Value.int? .i64)) fun x185 =>
 ob ((([.int .i64 x10, .int .i64 x11, .int .i64 x12, .int .i64 x13, .int .i64 x14, .int .i64 x15, .int .i64 x16, .int .i64 x17, .int .i64 x18, .int .i64 x19, .int .i64 x20, .int .i64 x21, .int .i64 x22, .int .i64 x23, .int .i64 x24, .int .i64 x25, .int .i64 x26, .int .i64 x27, .int .i64 x28, .int .i64 x29, .int .i64 x30, .int .i64 x31, .int .i64 x32, .int .i64 x33, .int .i64 x34, .int .i64 x35, .int .i64 x36, .int .i64 x37, .int .i64 x38, .int .i64 x39, .int .i64 x40, .int .i64 x41, .int .i64 x42, .int .i64 x43, .int .i64 x44, .int .i64 x45, .int .i64 x46, .int .i64 x47, .int .i64 x48, .int .i64 x49, .int .i64 x50, .int .i64 x51, .int .i64 x52, .int .i64 x53, .int .i64 x54, .int .i64 x55, .int .i64 x56, .int .i64 x57, .int .i64 x58, .int .i64 x59, .int .i64 x60, .int .i64 x61, .int .i64 x62, .int .i64 x63, .int .i64 x64, .int .i64 x65, .int .i64 x66, .int .i64 x67, .int .i64 x68, .int .i64 x69, .int .i64 x70, .int .i64 x71, .int .i64 x72, .int .i64 x73, .int .i64 x74, .int .i64 x75, .int .i64 x76, .int .i64 x77, .int .i64 x78, .int .i64 x79, .int .i64 x80, .int .i64 x81] : List Value)[0 + (x2.toNat * 8) + 3]?).bind (Value.int? .i64)) fun x186 =>
 ob ((([.int .i64 x10, .int .i64 x11, .int .i64 x12, .int .i64 x13, .int .i64 x14, .int .i64 x15, .int .i64 x16, .int .i64 x17, .int .i64 x18, .int .i64 x19, .int .i64 x20, .int .i64 x21, .int .i64 x22, .int .i64 x23, .int .i64 x24, .int .i64 x25, .int .i64 x26, .int .i64 x27, .int .i64 x28, .int .i64 x29, .int .i64 x30, .int .i64 x31, .int .i64 x32, .int .i64 x33, .int .i64 x34, .int .i64 x35, .int .i64 x36, .int .i64 x37, .int .i64 x38, .int .i64 x39, .int .i64 x40, .int .i64 x41, .int .i64 x42, .int .i64 x43, .int .i64 x44, .int .i64 x45, .int .i64 x46, .int .i64 x47, .int .i64 x48, .int .i64 x49, .int .i64 x50, .int .i64 x51, .int .i64 x52, .int .i64 x53, .int .i64 x54, .int .i64 x55, .int .i64 x56, .int .i64 x57, .int .i64 x58, .int .i64 x59, .int .i64 x60, .int .i64 x61, .int .i64 x62, .int .i64 x63, .int .i64 x64, .int .i64 x65, .int .i64 x66, .int .i64 x67, .int .i64 x68, .int .i64 x69, .int .i64 x70, .int .i64 x71, .int .i64 x72, .int .i64 x73, .int .i64 x74, .int .i64 x75, .int .i64 x76, .int .i64 x77, .int .i64 x78, .int .i64 x79, .int .i64 x80, .int .i64 x81] : List Value)[0 + (x2.toNat * 8) + 4]?).bind (Value.int? .i64)) fun x187 =>
 ob ((([.int .i64 x10, .int .i64 x11, .int .i64 x12, .int .i64 x13, .int .i64 x14, .int .i64 x15, .int .i64 x16, .int .i64 x17, .int .i64 x18, .int .i64 x19, .int .i64 x20, .int .i64 x21, .int .i64 x22, .int .i64 x23, .int .i64 x24, .int .i64 x25, .int .i64 x26, .int .i64 x27, .int .i64 x28, .int .i64 x29, .int .i64 x30, .int .i64 x31, .int .i64 x32, .int .i64 x33, .int .i64 x34, .int .i64 x35, .int .i64 x36, .int .i64 x37, .int .i64 x38, .int .i64 x39, .int .i64 x40, .int .i64 x41, .int .i64 x42, .int .i64 x43, .int .i64 x44, .int .i64 x45, .int .i64 x46, .int .i64 x47, .int .i64 x48, .int .i64 x49, .int .i64 x50, .int .i64 x51, .int .i64 x52, .int .i64 x53, .int .i64 x54, .int .i64 x55, .int .i64 x56, .int .i64 x57, .int .i64 x58, .int .i64 x59, .int .i64 x60, .int .i64 x61, .int .i64 x62, .int .i64 x63, .int .i64 x64, .int .i64 x65, .int .i64 x66, .int .i64 x67, .int .i64 x68, .int .i64 x69, .int .i64 x70, .int .i64 x71, .int .i64 x72, .int .i64 x73, .int .i64 x74, .int .i64 x75, .int .i64 x76, .int .i64 x77, .int .i64 x78, .int .i64 x79, .int .i64 x80, .int .i64 x81] : List Value)[0 + (x2.toNat * 8) + 5]?).bind (Value.int? .i64)) fun x188 =>
 ob ((([.int .i64 x10, .int .i64 x11, .int .i64 x12, .int .i64 x13, .int .i64 x14, .int .i64 x15, .int .i64 x16, .int .i64 x17, .int .i64 x18, .int .i64 x19, .int .i64 x20, .int .i64 x21, .int .i64 x22, .int .i64 x23, .int .i64 x24, .int .i64 x25, .int .i64 x26, .int .i64 x27, .int .i64 x28, .int .i64 x29, .int .i64 x30, .int .i64 x31, .int .i64 x32, .int .i64 x33, .int .i64 x34, .int .i64 x35, .int .i64 x36, .int .i64 x37, .int .i64 x38, .int .i64 x39, .int .i64 x40, .int .i64 x41, .int .i64 x42, .int .i64 x43, .int .i64 x44, .int .i64 x45, .int .i64 x46, .int .i64 x47, .int .i64 x48, .int .i64 x49, .int .i64 x50, .int .i64 x51, .int .i64 x52, .int .i64 x53, .int .i64 x54, .int .i64 x55, .int .i64 x56, .int .i64 x57, .int .i64 x58, .int .i64 x59, .int .i64 x60, .int .i64 x61, .int .i64 x62, .int .i64 x63, .int .i64 x64, .int .i64 x65, .int .i64 x66, .int .i64 x67, .int .i64 x68, .int .i64 x69, .int .i64 x70, .int .i64 x71, .int .i64 x72, .int .i64 x73, .int .i64 x74, .int .i64 x75, .int .i64 x76, .int .i64 x77, .int .i64 x78, .int .i64 x79, .int .i64 x80, .int .i64 x81] : List Value)[0 + (x2.toNat * 8) + 6]?).bind (Value.int? .i64)) fun x189 =>
 ob ((([.int .i64 x10, .int .i64 x11, .int .i64 x12, .int .i64 x13, .int .i64 x14, .int .i64 x15, .int .i64 x16, .int .i64 x17, .int .i64 x18, .int .i64 x19, .int .i64 x20, .int .i64 x21, .int .i64 x22, .int .i64 x23, .int .i64 x24, .int .i64 x25, .int .i64 x26, .int .i64 x27, .int .i64 x28, .int .i64 x29, .int .i64 x30, .int .i64 x31, .int .i64 x32, .int .i64 x33, .int .i64 x34, .int .i64 x35, .int .i64 x36, .int .i64 x37, .int .i64 x38, .int .i64 x39, .int .i64 x40, .int .i64 x41, .int .i64 x42, .int .i64 x43, .int .i64 x44, .int .i64 x45, .int .i64 x46, .int .i64 x47, .int .i64 x48, .int .i64 x49, .int .i64 x50, .int .i64 x51, .int .i64 x52, .int .i64 x53, .int .i64 x54, .int .i64 x55, .int .i64 x56, .int .i64 x57, .int .i64 x58, .int .i64 x59, .int .i64 x60, .int .i64 x61, .int .i64 x62, .int .i64 x63, .int .i64 x64, .int .i64 x65, .int .i64 x66, .int .i64 x67, .int .i64 x68, .int .i64 x69, .int .i64 x70, .int .i64 x71, .int .i64 x72, .int .i64 x73, .int .i64 x74, .int .i64 x75, .int .i64 x76, .int .i64 x77, .int .i64 x78, .int .i64 x79, .int .i64 x80, .int .i64 x81] : List Value)[0 + (x2.toNat * 8) + 7]?).bind (Value.int? .i64)) fun x190 =>
 some (.ret (.tuple ⟨[.agg ⟨[.int .i64 x183, .int .i64 x184, .int .i64 x185, .int .i64 x186, .int .i64 x187, .int .i64 x188, .int .i64 x189, .int .i64 x190]⟩, .int .i64 0]⟩) r8.2)) none)
 (pb (0 ≤ IntKind.i64.wrap (16 - x2) ∧ IntKind.i64.wrap (16 - x2) < (9 : Int))
 (ob ((([.int .i64 x10, .int .i64 x11, .int .i64 x12, .int .i64 x13, .int .i64 x14, .int .i64 x15, .int .i64 x16, .int .i64 x17, .int .i64 x18, .int .i64 x19, .int .i64 x20, .int .i64 x21, .int .i64 x22, .int .i64 x23, .int .i64 x24, .int .i64 x25, .int .i64 x26, .int .i64 x27, .int .i64 x28, .int .i64 x29, .int .i64 x30, .int .i64 x31, .int .i64 x32, .int .i64 x33, .int .i64 x34, .int .i64 x35, .int .i64 x36, .int .i64 x37, .int .i64 x38, .int .i64 x39, .int .i64 x40, .int .i64 x41, .int .i64 x42, .int .i64 x43, .int .i64 x44, .int .i64 x45, .int .i64 x46, .int .i64 x47, .int .i64 x48, .int .i64 x49, .int .i64 x50, .int .i64 x51, .int .i64 x52, .int .i64 x53, .int .i64 x54, .int .i64 x55, .int .i64 x56, .int .i64 x57, .int .i64 x58, .int .i64 x59, .int .i64 x60, .int .i64 x61, .int .i64 x62, .int .i64 x63, .int .i64 x64, .int .i64 x65, .int .i64 x66, .int .i64 x67, .int .i64 x68, .int .i64 x69, .int .i64 x70, .int .i64 x71, .int .i64 x72, .int .i64 x73, .int .i64 x74, .int .i64 x75, .int .i64 x76, .int .i64 x77, .int .i64 x78, .int .i64 x79, .int .i64 x80, .int .i64 x81] : List Value)[0 + ((IntKind.i64.wrap (16 - x2)).toNat * 8) + 0]?).bind (Value.int? .i64)) fun x191 =>
 ob ((([.int .i64 x10, .int .i64 x11, .int .i64 x12, .int .i64 x13, .int .i64 x14, .int .i64 x15, .int .i64 x16, .int .i64 x17, .int .i64 x18, .int .i64 x19, .int .i64 x20, .int .i64 x21, .int .i64 x22, .int .i64 x23, .int .i64 x24, .int .i64 x25, .int .i64 x26, .int .i64 x27, .int .i64 x28, .int .i64 x29, .int .i64 x30, .int .i64 x31, .int .i64 x32, .int .i64 x33, .int .i64 x34, .int .i64 x35, .int .i64 x36, .int .i64 x37, .int .i64 x38, .int .i64 x39, .int .i64 x40, .int .i64 x41, .int .i64 x42, .int .i64 x43, .int .i64 x44, .int .i64 x45, .int .i64 x46, .int .i64 x47, .int .i64 x48, .int .i64 x49, .int .i64 x50, .int .i64 x51, .int .i64 x52, .int .i64 x53, .int .i64 x54, .int .i64 x55, .int .i64 x56, .int .i64 x57, .int .i64 x58, .int .i64 x59, .int .i64 x60, .int .i64 x61, .int .i64 x62, .int .i64 x63, .int .i64 x64, .int .i64 x65, .int .i64 x66, .int .i64 x67, .int .i64 x68, .int .i64 x69, .int .i64 x70, .int .i64 x71, .int .i64 x72, .int .i64 x73, .int .i64 x74, .int .i64 x75, .int .i64 x76, .int .i64 x77, .int .i64 x78, .int .i64 x79, .int .i64 x80, .int .i64 x81] : List Value)[0 + ((IntKind.i64.wrap (16 - x2)).toNat * 8) + 1]?).bind (Value.int? .i64)) fun x192 =>
 ob ((([.int .i64 x10, .int .i64 x11, .int .i64 x12, .int .i64 x13, .int .i64 x14, .int .i64 x15, .int .i64 x16, .int .i64 x17, .int .i64 x18, .int .i64 x19, .int .i64 x20, .int .i64 x21, .int .i64 x22, .int .i64 x23, .int .i64 x24, .int .i64 x25, .int .i64 x26, .int .i64 x27, .int .i64 x28, .int .i64 x29, .int .i64 x30, .int .i64 x31, .int .i64 x32, .int .i64 x33, .int .i64 x34, .int .i64 x35, .int .i64 x36, .int .i64 x37, .int .i64 x38, .int .i64 x39, .int .i64 x40, .int .i64 x41, .int .i64 x42, .int .i64 x43, .int .i64 x44, .int .i64 x45, .int .i64 x46, .int .i64 x47, .int .i64 x48, .int .i64 x49, .int .i64 x50, .int .i64 x51, .int .i64 x52, .int .i64 x53, .int .i64 x54, .int .i64 x55, .int .i64 x56, .int .i64 x57, .int .i64 x58, .int .i64 x59, .int .i64 x60, .int .i64 x61, .int .i64 x62, .int .i64 x63, .int .i64 x64, .int .i64 x65, .int .i64 x66, .int .i64 x67, .int .i64 x68, .int .i64 x69, .int .i64 x70, .int .i64 x71, .int .i64 x72, .int .i64 x73, .int .i64 x74, .int .i64 x75, .int .i64 x76, .int .i64 x77, .int .i64 x78, .int .i64 x79, .int .i64 x80, .int .i64 x81] : List Value)[0 + ((IntKind.i64.wrap (16 - x2)).toNat * 8) + 2]?).bind (Value.int? .i64)) fun x193 =>
 ob ((([.int .i64 x10, .int .i64 x11, .int .i64 x12, .int .i64 x13, .int .i64 x14, .int .i64 x15, .int .i64 x16, .int .i64 x17, .int .i64 x18, .int .i64 x19, .int .i64 x20, .int .i64 x21, .int .i64 x22, .int .i64 x23, .int .i64 x24, .int .i64 x25, .int .i64 x26, .int .i64 x27, .int .i64 x28, .int .i64 x29, .int .i64 x30, .int .i64 x31, .int .i64 x32, .int .i64 x33, .int .i64 x34, .int .i64 x35, .int .i64 x36, .int .i64 x37, .int .i64 x38, .int .i64 x39, .int .i64 x40, .int .i64 x41, .int .i64 x42, .int .i64 x43, .int .i64 x44, .int .i64 x45, .int .i64 x46, .int .i64 x47, .int .i64 x48, .int .i64 x49, .int .i64 x50, .int .i64 x51, .int .i64 x52, .int .i64 x53, .int .i64 x54, .int .i64 x55, .int .i64 x56, .int .i64 x57, .int .i64 x58, .int .i64 x59, .int .i64 x60, .int .i64 x61, .int .i64 x62, .int .i64 x63, .int .i64 x64, .int .i64 x65, .int .i64 x66, .int .i64 x67, .int .i64 x68, .int .i64 x69, .int .i64 x70, .int .i64 x71, .int .i64 x72, .int .i64 x73, .int .i64 x74, .int .i64 x75, .int .i64 x76, .int .i64 x77, .int .i64 x78, .int .i64 x79, .int .i64 x80, .int .i64 x81] : List Value)[0 + ((IntKind.i64.wrap (16 - x2)).toNat * 8) + 3]?).bind (Value.int? .i64)) fun x194 =>
 ob ((([.int .i64 x10, .int .i64 x11, .int .i64 x12, .int .i64 x13, .int .i64 x14, .int .i64 x15, .int .i64 x16, .int .i64 x17, .int .i64 x18, .int .i64 x19, .int .i64 x20, .int .i64 x21, .int .i64 x22, .int .i64 x23, .int .i64 x24, .int .i64 x25, .int .i64 x26, .int .i64 x27, .int .i64 x28, .int .i64 x29, .int .i64 x30, .int .i64 x31, .int .i64 x32, .int .i64 x33, .int .i64 x34, .int .i64 x35, .int .i64 x36, .int .i64 x37, .int .i64 x38, .int .i64 x39, .int .i64 x40, .int .i64 x41, .int .i64 x42, .int .i64 x43, .int .i64 x44, .int .i64 x45, .int .i64 x46, .int .i64 x47, .int .i64 x48, .int .i64 x49, .int .i64 x50, .int .i64 x51, .int .i64 x52, .int .i64 x53, .int .i64 x54, .int .i64 x55, .int .i64 x56, .int .i64 x57, .int .i64 x58, .int .i64 x59, .int .i64 x60, .int .i64 x61, .int .i64 x62, .int .i64 x63, .int .i64 x64, .int .i64 x65, .int .i64 x66, .int .i64 x67, .int .i64 x68, .int .i64 x69, .int .i64 x70, .int .i64 x71, .int .i64 x72, .int .i64 x73, .int .i64 x74, .int .i64 x75, .int .i64 x76, .int .i64 x77, .int .i64 x78, .int .i64 x79, .int .i64 x80, .int .i64 x81] : List Value)[0 + ((IntKind.i64.wrap (16 - x2)).toNat * 8) + 4]?).bind (Value.int? .i64)) fun x195 =>
 ob ((([.int .i64 x10, .int .i64 x11, .int .i64 x12, .int .i64 x13, .int .i64 x14, .int .i64 x15, .int .i64 x16, .int .i64 x17, .int .i64 x18, .int .i64 x19, .int .i64 x20, .int .i64 x21, .int .i64 x22, .int .i64 x23, .int .i64 x24, .int .i64 x25, .int .i64 x26, .int .i64 x27, .int .i64 x28, .int .i64 x29, .int .i64 x30, .int .i64 x31, .int .i64 x32, .int .i64 x33, .int .i64 x34, .int .i64 x35, .int .i64 x36, .int .i64 x37, .int .i64 x38, .int .i64 x39, .int .i64 x40, .int .i64 x41, .int .i64 x42, .int .i64 x43, .int .i64 x44, .int .i64 x45, .int .i64 x46, .int .i64 x47, .int .i64 x48, .int .i64 x49, .int .i64 x50, .int .i64 x51, .int .i64 x52, .int .i64 x53, .int .i64 x54, .int .i64 x55, .int .i64 x56, .int .i64 x57, .int .i64 x58, .int .i64 x59, .int .i64 x60, .int .i64 x61, .int .i64 x62, .int .i64 x63, .int .i64 x64, .int .i64 x65, .int .i64 x66, .int .i64 x67, .int .i64 x68, .int .i64 x69, .int .i64 x70, .int .i64 x71, .int .i64 x72, .int .i64 x73, .int .i64 x74, .int .i64 x75, .int .i64 x76, .int .i64 x77, .int .i64 x78, .int .i64 x79, .int .i64 x80, .int .i64 x81] : List Value)[0 + ((IntKind.i64.wrap (16 - x2)).toNat * 8) + 5]?).bind (Value.int? .i64)) fun x196 =>
 ob ((([.int .i64 x10, .int .i64 x11, .int .i64 x12, .int .i64 x13, .int .i64 x14, .int .i64 x15, .int .i64 x16, .int .i64 x17, .int .i64 x18, .int .i64 x19, .int .i64 x20, .int .i64 x21, .int .i64 x22, .int .i64 x23, .int .i64 x24, .int .i64 x25, .int .i64 x26, .int .i64 x27, .int .i64 x28, .int .i64 x29, .int .i64 x30, .int .i64 x31, .int .i64 x32, .int .i64 x33, .int .i64 x34, .int .i64 x35, .int .i64 x36, .int .i64 x37, .int .i64 x38, .int .i64 x39, .int .i64 x40, .int .i64 x41, .int .i64 x42, .int .i64 x43, .int .i64 x44, .int .i64 x45, .int .i64 x46, .int .i64 x47, .int .i64 x48, .int .i64 x49, .int .i64 x50, .int .i64 x51, .int .i64 x52, .int .i64 x53, .int .i64 x54, .int .i64 x55, .int .i64 x56, .int .i64 x57, .int .i64 x58, .int .i64 x59, .int .i64 x60, .int .i64 x61, .int .i64 x62, .int .i64 x63, .int .i64 x64, .int .i64 x65, .int .i64 x66, .int .i64 x67, .int .i64 x68, .int .i64 x69, .int .i64 x70, .int .i64 x71, .int .i64 x72, .int .i64 x73, .int .i64 x74, .int .i64 x75, .int .i64 x76, .int .i64 x77, .int .i64 x78, .int .i64 x79, .int .i64 x80, .int .i64 x81] : List Value)[0 + ((IntKind.i64.wrap (16 - x2)).toNat * 8) + 6]?).bind (Value.int? .i64)) fun x197 =>
 ob ((([.int .i64 x10, .int .i64 x11, .int .i64 x12, .int .i64 x13, .int .i64 x14, .int .i64 x15, .int .i64 x16, .int .i64 x17, .int .i64 x18, .int .i64 x19, .int .i64 x20, .int .i64 x21, .int .i64 x22, .int .i64 x23, .int .i64 x24, .int .i64 x25, .int .i64 x26, .int .i64 x27, .int .i64 x28, .int .i64 x29, .int .i64 x30, .int .i64 x31, .int .i64 x32, .int .i64 x33, .int .i64 x34, .int .i64 x35, .int .i64 x36, .int .i64 x37, .int .i64 x38, .int .i64 x39, .int .i64 x40, .int .i64 x41, .int .i64 x42, .int .i64 x43, .int .i64 x44, .int .i64 x45, .int .i64 x46, .int .i64 x47, .int .i64 x48, .int .i64 x49, .int .i64 x50, .int .i64 x51, .int .i64 x52, .int .i64 x53, .int .i64 x54, .int .i64 x55, .int .i64 x56, .int .i64 x57, .int .i64 x58, .int .i64 x59, .int .i64 x60, .int .i64 x61, .int .i64 x62, .int .i64 x63, .int .i64 x64, .int .i64 x65, .int .i64 x66, .int .i64 x67, .int .i64 x68, .int .i64 x69, .int .i64 x70, .int .i64 x71, .int .i64 x72, .int .i64 x73, .int .i64 x74, .int .i64 x75, .int .i64 x76, .int .i64 x77, .int .i64 x78, .int .i64 x79, .int .i64 x80, .int .i64 x81] : List Value)[0 + ((IntKind.i64.wrap (16 - x2)).toNat * 8) + 7]?).bind (Value.int? .i64)) fun x198 =>
 ob ((r8.2 ++ [⟨.fx, [.int .i64 0, .int .i64 0, .int .i64 0, .int .i64 0, .int .i64 0, .int .i64 0, .int .i64 0, .int .i64 0]⟩] : Mem).st lo ⟨r8.2.length, 0, none⟩ [.int .i64 x191, .int .i64 x192, .int .i64 x193, .int .i64 x194, .int .i64 x195, .int .i64 x196, .int .i64 x197, .int .i64 x198]) fun M199 =>
 pb ((none : Option Nat) = none)
 (pb (0 ≤ (0 : Int) ∧ (0 : Int) ≤ (8 : Int))
 (ob (acall P T k lo F.slices_Reverse__int_int [.slice (slAddr 1 (some ⟨r8.2.length, 0, none⟩) 0 8) 8 8] M199) fun r200 =>
 ob (r200.1.tup? 0) fun l201 =>
 ob ((r200.2.ld ⟨r8.2.length, 0, none⟩).bind (Value.int? .i64)) fun x202 =>
 ob ((r200.2.ld (plus ⟨r8.2.length, 0, none⟩ 1)).bind (Value.int? .i64)) fun x203 =>
 ob ((r200.2.ld (plus ⟨r8.2.length, 0, none⟩ 2)).bind (Value.int? .i64)) fun x204 =>
 ob ((r200.2.ld (plus ⟨r8.2.length, 0, none⟩ 3)).bind (Value.int? .i64)) fun x205 =>
 ob ((r200.2.ld (plus ⟨r8.2.length, 0, none⟩ 4)).bind (Value.int? .i64)) fun x206 =>
 ob ((r200.2.ld (plus ⟨r8.2.length, 0, none⟩ 5)).bind (Value.int? .i64)) fun x207 =>
 ob ((r200.2.ld (plus ⟨r8.2.length, 0, none⟩ 6)).bind (Value.int? .i64)) fun x208 =>
 ob ((r200.2.ld (plus ⟨r8.2.length, 0, none⟩ 7)).bind (Value.int? .i64)) fun x209 =>
 some (.ret (.tuple ⟨[.agg ⟨[.int .i64 x202, .int .i64 x203, .int .i64 x204, .int .i64 x205, .int .i64 x206, .int .i64 x207, .int .i64 x208, .int .i64 x209]⟩, .int .i64 0]⟩) r200.2)) none) none) none))
 (some (.ret (.tuple ⟨[.agg ⟨[.int .i64 0, .int .i64 0, .int .i64 0, .int .i64 0, .int .i64 0, .int .i64 0, .int .i64 0, .int .i64 0]⟩, .int .i64 2]⟩) r8.2)))))) := by kernel_rfl
theorem zoetroperef14_Taps.entry (k lo : Nat) (x1 : Int) (x2 : Int) (M : Mem) : entry P T k lo F.zoetroperef14_Taps [.int .i64 x1, .int .i64 x2] M =
 bb (decide (x1 < 0))
 (some (.ret (.tuple ⟨[.agg ⟨[.int .i64 0, .int .i64 0, .int .i64 0, .int .i64 0, .int .i64 0, .int .i64 0, .int .i64 0, .int .i64 0]⟩, .int .i64 2]⟩) M))
 (bb (decide (x1 > 2))
 (some (.ret (.tuple ⟨[.agg ⟨[.int .i64 0, .int .i64 0, .int .i64 0, .int .i64 0, .int .i64 0, .int .i64 0, .int .i64 0, .int .i64 0]⟩, .int .i64 2]⟩) M))
 (bb (decide (x2 < 0))
 (some (.ret (.tuple ⟨[.agg ⟨[.int .i64 0, .int .i64 0, .int .i64 0, .int .i64 0, .int .i64 0, .int .i64 0, .int .i64 0, .int .i64 0]⟩, .int .i64 2]⟩) M))
 (bb (decide (x2 > 15))
 (some (.ret (.tuple ⟨[.agg ⟨[.int .i64 0, .int .i64 0, .int .i64 0, .int .i64 0, .int .i64 0, .int .i64 0, .int .i64 0, .int .i64 0]⟩, .int .i64 2]⟩) M))
 (bb (x1 == 2)
 (some (.ret (.tuple ⟨[.agg ⟨[.int .i64 0, .int .i64 0, .int .i64 0, .int .i64 (IntKind.i64.wrap (128 - (IntKind.i64.wrap (8 * x2)))), .int .i64 (IntKind.i64.wrap (8 * x2)), .int .i64 0, .int .i64 0, .int .i64 0]⟩, .int .i64 0]⟩) M))
 (bb (decide (x2 ≤ 8))
 (ob (acall P T k lo F.zoetroperef14_half [.int .i64 x1, .int .i64 x2] M) fun r8 =>
 ob ((some r8.1).bind (Value.agg? 8)) fun l9 =>
 ob ((l9[0]?).bind (Value.int? .i64)) fun x10 =>
 ob ((l9[1]?).bind (Value.int? .i64)) fun x11 =>
 ob ((l9[2]?).bind (Value.int? .i64)) fun x12 =>
 ob ((l9[3]?).bind (Value.int? .i64)) fun x13 =>
 ob ((l9[4]?).bind (Value.int? .i64)) fun x14 =>
 ob ((l9[5]?).bind (Value.int? .i64)) fun x15 =>
 ob ((l9[6]?).bind (Value.int? .i64)) fun x16 =>
 ob ((l9[7]?).bind (Value.int? .i64)) fun x17 =>
 some (.ret (.tuple ⟨[.agg ⟨[.int .i64 x10, .int .i64 x11, .int .i64 x12, .int .i64 x13, .int .i64 x14, .int .i64 x15, .int .i64 x16, .int .i64 x17]⟩, .int .i64 0]⟩) r8.2))
 (ob (acall P T k lo F.zoetroperef14_half [.int .i64 x1, .int .i64 (IntKind.i64.wrap (16 - x2))] M) fun r18 =>
 ob ((some r18.1).bind (Value.agg? 8)) fun l19 =>
 ob ((l19[0]?).bind (Value.int? .i64)) fun x20 =>
 ob ((l19[1]?).bind (Value.int? .i64)) fun x21 =>
 ob ((l19[2]?).bind (Value.int? .i64)) fun x22 =>
 ob ((l19[3]?).bind (Value.int? .i64)) fun x23 =>
 ob ((l19[4]?).bind (Value.int? .i64)) fun x24 =>
 ob ((l19[5]?).bind (Value.int? .i64)) fun x25 =>
 ob ((l19[6]?).bind (Value.int? .i64)) fun x26 =>
 ob ((l19[7]?).bind (Value.int? .i64)) fun x27 =>
 some (zoetroperef14_Taps.c2036 0 0 0 0 0 0 0 0 0 x20 x21 x22 x23 x24 x25 x26 x27 ([.int .i64 0, .int .i64 0, .int .i64 0, .int .i64 0, .int .i64 0, .int .i64 0, .int .i64 0, .int .i64 0]) r18.2))))))) := by kernel_rfl
theorem zoetroperef14_Taps.p2036 (k lo : Nat) (x1 : Int) (x2 : Int) (x3 : Int) (x4 : Int) (x5 : Int) (x6 : Int) (x7 : Int) (x8 : Int) (x9 : Int) (x10 : Int) (x11 : Int) (x12 : Int) (x13 : Int) (x14 : Int) (x15 : Int) (x16 : Int) (x17 : Int) (cs18 : List Value) (M : Mem) : piece P T k lo F.zoetroperef14_Taps 2036 [.l 4 0, .l 6 0, .l 7 0, .v (.int .i64 x1)] [[.int .i64 x2, .int .i64 x3, .int .i64 x4, .int .i64 x5, .int .i64 x6, .int .i64 x7, .int .i64 x8, .int .i64 x9], [.int .i64 x10, .int .i64 x11, .int .i64 x12, .int .i64 x13, .int .i64 x14, .int .i64 x15, .int .i64 x16, .int .i64 x17], cs18] M =
 bb (decide (x1 < 8))
 (pb (0 ≤ IntKind.i64.wrap (7 - x1) ∧ IntKind.i64.wrap (7 - x1) < (8 : Int))
 (ob ((([.int .i64 x10, .int .i64 x11, .int .i64 x12, .int .i64 x13, .int .i64 x14, .int .i64 x15, .int .i64 x16, .int .i64 x17] : List Value)[0 + ((IntKind.i64.wrap (7 - x1)).toNat) + 0]?).bind (Value.int? .i64)) fun x28 =>
 pb (0 ≤ x1 ∧ x1 < (8 : Int))
 (pb (0 + x1.toNat + 1 ≤ cs18.length)
 (some (zoetroperef14_Taps.c2036 (IntKind.i64.wrap (x1 + 1)) x2 x3 x4 x5 x6 x7 x8 x9 x10 x11 x12 x13 x14 x15 x16 x17 (setL cs18 (0 + x1.toNat) [.int .i64 x28]) M)) none) none) none)
 (ob ((cs18[0]?).bind (Value.int? .i64)) fun x29 =>
 ob ((cs18[1]?).bind (Value.int? .i64)) fun x30 =>
 ob ((cs18[2]?).bind (Value.int? .i64)) fun x31 =>
 ob ((cs18[3]?).bind (Value.int? .i64)) fun x32 =>
 ob ((cs18[4]?).bind (Value.int? .i64)) fun x33 =>
 ob ((cs18[5]?).bind (Value.int? .i64)) fun x34 =>
 ob ((cs18[6]?).bind (Value.int? .i64)) fun x35 =>
 ob ((cs18[7]?).bind (Value.int? .i64)) fun x36 =>
 some (.ret (.tuple ⟨[.agg ⟨[.int .i64 x29, .int .i64 x30, .int .i64 x31, .int .i64 x32, .int .i64 x33, .int .i64 x34, .int .i64 x35, .int .i64 x36]⟩, .int .i64 0]⟩) M)) := by kernel_rfl
end Go.Zt
