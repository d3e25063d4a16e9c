/- What functions come to, from cut to cut. -/
import Derived.Test.YtgpobephldelaaaEq0
import Derived.KernelRfl
set_option maxRecDepth 100000
set_option maxHeartbeats 4000000
set_option linter.unusedVariables false
namespace Go.Zt
theorem plane_Whole.entry (k lo : Nat) (x1 : Int) (x2 : Int) (A3 : Option Addr) (n4 : Nat) (c5 : Nat) (x6 : Int) (x7 : Int) (A8 : Option Addr) (n9 : Nat) (c10 : Nat) (x11 : Int) (x12 : Int) (A13 : Option Addr) (n14 : Nat) (c15 : Nat) (M : Mem) : entry P T k lo F.plane_Whole [.agg ⟨[.int .i64 x1, .int .i64 x2, .slice A3 n4 c5, .int .i64 x6, .int .i64 x7, .slice A8 n9 c10, .int .i64 x11, .int .i64 x12, .slice A13 n14 c15]⟩] M =
 some (plane_Whole.c116 x1 x2 x1 x2 A3 n4 c5 x6 x7 A8 n9 c10 x11 x12 A13 n14 c15 0 M) := by kernel_rfl
theorem plane_Whole.p116 (k lo : Nat) (x1 : Int) (x2 : Int) (x3 : Int) (x4 : Int) (A5 : Option Addr) (n6 : Nat) (c7 : Nat) (x8 : Int) (x9 : Int) (A10 : Option Addr) (n11 : Nat) (c12 : Nat) (x13 : Int) (x14 : Int) (A15 : Option Addr) (n16 : Nat) (c17 : Nat) (x18 : Int) (M : Mem) : piece P T k lo F.plane_Whole 116 [.v (.int .i64 x1), .v (.int .i64 x2), .v (.agg ⟨[.int .i64 x3, .int .i64 x4, .slice A5 n6 c7, .int .i64 x8, .int .i64 x9, .slice A10 n11 c12, .int .i64 x13, .int .i64 x14, .slice A15 n16 c17]⟩), .v (.int .i64 x18)] [] M =
 bb (decide (x18 < 3))
 (pb (0 ≤ x18 ∧ x18 < (3 : Int))
 (ob ((([.int .i64 x3, .int .i64 x4, .slice A5 n6 c7, .int .i64 x8, .int .i64 x9, .slice A10 n11 c12, .int .i64 x13, .int .i64 x14, .slice A15 n16 c17] : List Value)[x18.toNat * 3 + 0]?).bind (Value.int? .i64)) fun x21 =>
 ob ((([.int .i64 x3, .int .i64 x4, .slice A5 n6 c7, .int .i64 x8, .int .i64 x9, .slice A10 n11 c12, .int .i64 x13, .int .i64 x14, .slice A15 n16 c17] : List Value)[x18.toNat * 3 + 1]?).bind (Value.int? .i64)) fun x22 =>
 ob ((([.int .i64 x3, .int .i64 x4, .slice A5 n6 c7, .int .i64 x8, .int .i64 x9, .slice A10 n11 c12, .int .i64 x13, .int .i64 x14, .slice A15 n16 c17] : List Value)[x18.toNat * 3 + 2]?).bind Value.slc?) fun s23 =>
 ob (acall P T k lo F.plane_Check [.agg ⟨[.int .i64 x21, .int .i64 x22, .slice s23.a s23.n s23.c]⟩] M) fun r24 =>
 ob ((some r24.1).bind (Value.int? .i64)) fun x25 =>
 bb (x25 != 0)
 (some (.ret (.int .i64 2) r24.2))
 (ob (acall P T k lo F.plane_sides [.int .i64 x1, .int .i64 x2] r24.2) fun r26 =>
 ob ((some r26.1).bind Value.bool?) fun b27 =>
 bb (!b27)
 (some (.ret (.int .i64 2) r26.2))
 (pb ((minI x18 1) < 0) none
 (bb (x21 != shrI .i64 x1 ((minI x18 1).toNat))
 (some (.ret (.int .i64 2) r26.2))
 (pb ((minI x18 1) < 0) none
 (bb (x22 != shrI .i64 x2 ((minI x18 1).toNat))
 (some (.ret (.int .i64 2) r26.2))
 (some (plane_Whole.c116 x1 x2 x3 x4 A5 n6 c7 x8 x9 A10 n11 c12 x13 x14 A15 n16 c17 (IntKind.i64.wrap (x18 + 1)) r26.2)))))))) none)
 (some (.ret (.int .i64 0) M)) := by kernel_rfl
theorem zoetropelaw15_may.entry (k lo : Nat) (x1 : Int) (x2 : Int) (x3 : Int) (x4 : Int) (x5 : Int) (x6 : Int) (x7 : Int) (x8 : Int) (M : Mem) : entry P T k lo F.zoetropelaw15_may [.agg ⟨[.int .i64 x1, .int .i64 x2, .int .i64 x3, .int .i64 x4, .int .i64 x5, .int .i64 x6, .int .i64 x7, .int .i64 x8]⟩] M =
 ob (acall P T k M.length F.zoetroperef00_Bring [.int .i64 x1, .int .i64 3] M) fun r14 =>
 ob ((some r14.1).bind (Value.int? .i64)) fun x15 =>
 ob (acall P T k M.length F.zoetroperef00_Bring [.int .i64 x8, .int .i64 3] r14.2) fun r16 =>
 ob ((some r16.1).bind (Value.int? .i64)) fun x17 =>
 ob (acall P T k r16.2.length F.zoetroperef00_Bring [.int .i64 x2, .int .i64 60] r16.2) fun r18 =>
 ob ((some r18.1).bind (Value.int? .i64)) fun x19 =>
 ob (acall P T k r16.2.length F.zoetroperef00_Bring [.int .i64 x3, .int .i64 60] r18.2) fun r20 =>
 ob ((some r20.1).bind (Value.int? .i64)) fun x21 =>
 ob (acall P T k r16.2.length F.zoetroperef00_Bring [.int .i64 x4, .int .i64 29] r20.2) fun r22 =>
 ob ((some r22.1).bind (Value.int? .i64)) fun x23 =>
 ob (acall P T k r16.2.length F.zoetroperef00_Bring [.int .i64 x5, .int .i64 29] r22.2) fun r24 =>
 ob ((some r24.1).bind (Value.int? .i64)) fun x25 =>
 ob (acall P T k r24.2.length F.zoetroperef00_Bring [.int .i64 x6, .int .i64 8191] r24.2) fun r26 =>
 ob ((some r26.1).bind (Value.int? .i64)) fun x27 =>
 ob (acall P T k r24.2.length F.zoetroperef00_Bring [.int .i64 x7, .int .i64 8191] r26.2) fun r28 =>
 ob ((some r28.1).bind (Value.int? .i64)) fun x29 =>
 some (.ret (.agg ⟨[.int .i64 x15, .int .i64 x19, .int .i64 x21, .int .i64 (IntKind.i64.wrap (4 + x23)), .int .i64 (IntKind.i64.wrap (4 + x25)), .int .i64 (IntKind.i64.wrap (x27 - 4095)), .int .i64 (IntKind.i64.wrap (x29 - 4095)), .int .i64 x17]⟩) r28.2) := by kernel_rfl
theorem zoetroperef00_Bring.entry (k lo : Nat) (x1 : Int) (x2 : Int) (M : Mem) : entry P T k lo F.zoetroperef00_Bring [.int .i64 x1, .int .i64 x2] M =
 bb (decide (x2 ≤ 0))
 (some (.ret (.int .i64 0) M))
 (pb (x2 = 0) none
 (bb (decide (Int.tmod x1 x2 < 0))
 (some (zoetroperef00_Bring.c31 (IntKind.i64.wrap ((Int.tmod x1 x2) + x2)) M))
 (some (zoetroperef00_Bring.c31 (Int.tmod x1 x2) M)))) := by kernel_rfl
theorem zoetroperef00_Bring.p31 (k lo : Nat) (x1 : Int) (M : Mem) : piece P T k lo F.zoetroperef00_Bring 31 [.v (.int .i64 x1)] [] M =
 some (.ret (.int .i64 x1) M) := by kernel_rfl
theorem zoetropelaw15_between.entry (k lo : Nat) (x1 : Int) (x2 : Int) (x3 : Int) (M : Mem) : entry P T k lo F.zoetropelaw15_between [.int .u8 x1, .int .u8 x2, .int .u8 x3] M =
 bb (decide (x1 ≥ (minI x2 x3)))
 (some (.ret (.bool (decide (x1 ≤ (maxI x2 x3)))) M))
 (some (.ret (.bool false) M)) := by kernel_rfl
theorem zoetropelaw15_transposed.entry (k lo : Nat) (A1 : Option Addr) (n2 : Nat) (c3 : Nat) (x4 : Int) (M : Mem) : entry P T k lo F.zoetropelaw15_transposed [.slice A1 n2 c3, .int .i64 x4] M =
 pb (x4 = 0) none
 (pb (0 ≤ (n2 : Int) ∧ room ((n2 : Int).toNat) 1)
 (some (zoetropelaw15_transposed.c244 A1 n2 c3 x4 (IntKind.i64.wrap (Int.tdiv (n2 : Int) x4)) (some ⟨M.length, 0, none⟩) ((n2 : Int).toNat) ((n2 : Int).toNat) 0 (M ++ [⟨.fx, zerosL [.int .u8 0] ((n2 : Int).toNat)⟩] : Mem))) none) := by kernel_rfl
theorem zoetropelaw15_transposed.p244 (k lo : Nat) (A1 : Option Addr) (n2 : Nat) (c3 : Nat) (x4 : Int) (x5 : Int) (A6 : Option Addr) (n7 : Nat) (c8 : Nat) (x9 : Int) (M : Mem) : piece P T k lo F.zoetropelaw15_transposed 244 [.v (.slice A1 n2 c3), .v (.int .i64 x4), .v (.int .i64 x5), .v (.slice A6 n7 c8), .v (.int .i64 x9)] [] M =
 bb (decide (x9 < (n2 : Int)))
 (pb (x4 = 0) none
 (pb (x4 = 0) none
 (pb (0 ≤ x9 ∧ x9 < (n2 : Int))
 (ob A1 fun a10 =>
 ob ((M.ld (plus a10 x9.toNat)).bind (Value.int? .u8)) fun x11 =>
 pb (0 ≤ IntKind.i64.wrap ((IntKind.i64.wrap ((Int.tmod x9 x4) * x5)) + (IntKind.i64.wrap (Int.tdiv x9 x4))) ∧ IntKind.i64.wrap ((IntKind.i64.wrap ((Int.tmod x9 x4) * x5)) + (IntKind.i64.wrap (Int.tdiv x9 x4))) < (n7 : Int))
 (ob A6 fun a12 =>
 ob (M.st lo (plus a12 ((IntKind.i64.wrap ((IntKind.i64.wrap ((Int.tmod x9 x4) * x5)) + (IntKind.i64.wrap (Int.tdiv x9 x4)))).toNat)) [.int .u8 x11]) fun M13 =>
 some (zoetropelaw15_transposed.c244 A1 n2 c3 x4 x5 A6 n7 c8 (IntKind.i64.wrap (x9 + 1)) M13)) none) none)))
 (some (.ret (.slice A6 n7 c8) M)) := by kernel_rfl
theorem plane_Frame.entry (k lo : Nat) (x1 : Int) (x2 : Int) (x3 : Int) (M : Mem) : entry P T k lo F.plane_Frame [.int .i64 x1, .int .i64 x2, .int .u8 x3] M =
 ob (acall P T k lo F.plane_sides [.int .i64 x1, .int .i64 x2] M) fun r9 =>
 ob ((some r9.1).bind Value.bool?) fun b10 =>
 bb (!b10)
 (some (.ret (.tuple ⟨[.agg ⟨[.int .i64 0, .int .i64 0, .slice none 0 0, .int .i64 0, .int .i64 0, .slice none 0 0, .int .i64 0, .int .i64 0, .slice none 0 0]⟩, .int .i64 2]⟩) r9.2))
 (some (plane_Frame.c244 x1 x2 x3 0 0 0 none 0 0 0 0 none 0 0 0 0 none 0 0 ([.int .i64 0, .int .i64 0, .slice none 0 0, .int .i64 0, .int .i64 0, .slice none 0 0, .int .i64 0, .int .i64 0, .slice none 0 0]) r9.2)) := by kernel_rfl
theorem plane_Frame.p244 (k lo : Nat) (x1 : Int) (x2 : Int) (x3 : Int) (x4 : Int) (x5 : Int) (x6 : Int) (A7 : Option Addr) (n8 : Nat) (c9 : Nat) (x10 : Int) (x11 : Int) (A12 : Option Addr) (n13 : Nat) (c14 : Nat) (x15 : Int) (x16 : Int) (A17 : Option Addr) (n18 : Nat) (c19 : Nat) (cs20 : List Value) (M : Mem) : piece P T k lo F.plane_Frame 244 [.v (.int .i64 x1), .v (.int .i64 x2), .v (.int .u8 x3), .l 6 0, .l 8 0, .v (.int .i64 x4)] [[.int .i64 x5, .int .i64 x6, .slice A7 n8 c9, .int .i64 x10, .int .i64 x11, .slice A12 n13 c14, .int .i64 x15, .int .i64 x16, .slice A17 n18 c19], cs20] M =
 bb (decide (x4 < 3))
 (ob (acall P T k lo F.plane_New [.int .i64 x1, .int .i64 x2, .int .u8 x3] M) fun r21 =>
 ob (r21.1.tup? 2) fun l22 =>
 ob ((l22[0]?).bind (Value.agg? 3)) fun l23 =>
 ob ((l23[0]?).bind (Value.int? .i64)) fun x24 =>
 ob ((l23[1]?).bind (Value.int? .i64)) fun x25 =>
 ob ((l23[2]?).bind Value.slc?) fun s26 =>
 ob ((l22[1]?).bind (Value.int? .i64)) fun x27 =>
 bb (x27 != 0)
 (some (.ret (.tuple ⟨[.agg ⟨[.int .i64 0, .int .i64 0, .slice none 0 0, .int .i64 0, .int .i64 0, .slice none 0 0, .int .i64 0, .int .i64 0, .slice none 0 0]⟩, .int .i64 x27]⟩) r21.2))
 (pb (0 ≤ x4 ∧ x4 < (3 : Int))
 (pb (0 + (x4.toNat * 3) + 3 ≤ cs20.length)
 (bb (x4 == 0)
 (some (plane_Frame.c1959 (IntKind.i64.wrap (Int.tdiv x1 2)) (IntKind.i64.wrap (Int.tdiv x2 2)) x3 x4 x5 x6 A7 n8 c9 x10 x11 A12 n13 c14 x15 x16 A17 n18 c19 (setL cs20 (0 + (x4.toNat * 3)) [.int .i64 x24, .int .i64 x25, .slice s26.a s26.n s26.c]) r21.2))
 (some (plane_Frame.c1959 x1 x2 x3 x4 x5 x6 A7 n8 c9 x10 x11 A12 n13 c14 x15 x16 A17 n18 c19 (setL cs20 (0 + (x4.toNat * 3)) [.int .i64 x24, .int .i64 x25, .slice s26.a s26.n s26.c]) r21.2))) none) none))
 (ob ((cs20[0]?).bind (Value.int? .i64)) fun x28 =>
 ob ((cs20[1]?).bind (Value.int? .i64)) fun x29 =>
 ob ((cs20[2]?).bind Value.slc?) fun s30 =>
 ob ((cs20[3]?).bind (Value.int? .i64)) fun x31 =>
 ob ((cs20[4]?).bind (Value.int? .i64)) fun x32 =>
 ob ((cs20[5]?).bind Value.slc?) fun s33 =>
 ob ((cs20[6]?).bind (Value.int? .i64)) fun x34 =>
 ob ((cs20[7]?).bind (Value.int? .i64)) fun x35 =>
 ob ((cs20[8]?).bind Value.slc?) fun s36 =>
 some (.ret (.tuple ⟨[.agg ⟨[.int .i64 x28, .int .i64 x29, .slice s30.a s30.n s30.c, .int .i64 x31, .int .i64 x32, .slice s33.a s33.n s33.c, .int .i64 x34, .int .i64 x35, .slice s36.a s36.n s36.c]⟩, .int .i64 0]⟩) M)) := by kernel_rfl
theorem plane_Frame.p1959 (k lo : Nat) (x1 : Int) (x2 : Int) (x3 : Int) (x4 : Int) (x5 : Int) (x6 : Int) (A7 : Option Addr) (n8 : Nat) (c9 : Nat) (x10 : Int) (x11 : Int) (A12 : Option Addr) (n13 : Nat) (c14 : Nat) (x15 : Int) (x16 : Int) (A17 : Option Addr) (n18 : Nat) (c19 : Nat) (cs20 : List Value) (M : Mem) : piece P T k lo F.plane_Frame 1959 [.v (.int .i64 x1), .v (.int .i64 x2), .v (.int .u8 x3), .l 6 0, .l 8 0, .v (.int .i64 x4)] [[.int .i64 x5, .int .i64 x6, .slice A7 n8 c9, .int .i64 x10, .int .i64 x11, .slice A12 n13 c14, .int .i64 x15, .int .i64 x16, .slice A17 n18 c19], cs20] M =
 some (plane_Frame.c244 x1 x2 x3 (IntKind.i64.wrap (x4 + 1)) x5 x6 A7 n8 c9 x10 x11 A12 n13 c14 x15 x16 A17 n18 c19 cs20 M) := by kernel_rfl
theorem zoetropelaw15_flat.entry (k lo : Nat) (x1 : Int) (x2 : Int) (M : Mem) : entry P T k lo F.zoetropelaw15_flat [.int .i64 x1, .int .u8 x2] M =
 pb (0 ≤ x1 ∧ room x1.toNat 1)
 (some (zoetropelaw15_flat.c116 x1 x2 (some ⟨M.length, 0, none⟩) x1.toNat x1.toNat 0 (M ++ [⟨.fx, zerosL [.int .u8 0] x1.toNat⟩] : Mem))) none := by kernel_rfl
theorem zoetropelaw15_flat.p116 (k lo : Nat) (x1 : Int) (x2 : Int) (A3 : Option Addr) (n4 : Nat) (c5 : Nat) (x6 : Int) (M : Mem) : piece P T k lo F.zoetropelaw15_flat 116 [.v (.int .i64 x1), .v (.int .u8 x2), .v (.slice A3 n4 c5), .v (.int .i64 x6)] [] M =
 bb (decide (x6 < x1))
 (pb (0 ≤ x6 ∧ x6 < (n4 : Int))
 (ob A3 fun a8 =>
 ob (M.st lo (plus a8 x6.toNat) [.int .u8 x2]) fun M9 =>
 some (zoetropelaw15_flat.c116 x1 x2 A3 n4 c5 (IntKind.i64.wrap (x6 + 1)) M9)) none)
 (some (.ret (.slice A3 n4 c5) M)) := by kernel_rfl
theorem plane_At.entry (k lo : Nat) (x1 : Int) (x2 : Int) (A3 : Option Addr) (n4 : Nat) (c5 : Nat) (x6 : Int) (x7 : Int) (M : Mem) : entry P T k lo F.plane_At [.agg ⟨[.int .i64 x1, .int .i64 x2, .slice A3 n4 c5]⟩, .int .i64 x6, .int .i64 x7] M =
 ob (acall P T k lo F.plane_Check [.agg ⟨[.int .i64 x1, .int .i64 x2, .slice A3 n4 c5]⟩] M) fun r13 =>
 ob ((some r13.1).bind (Value.int? .i64)) fun x14 =>
 bb (x14 != 0)
 (some (.ret (.int .u8 0) r13.2))
 (pb (0 ≤ IntKind.i64.wrap ((IntKind.i64.wrap ((minI (maxI x7 0) (IntKind.i64.wrap (x2 - 1))) * x1)) + (minI (maxI x6 0) (IntKind.i64.wrap (x1 - 1)))) ∧ IntKind.i64.wrap ((IntKind.i64.wrap ((minI (maxI x7 0) (IntKind.i64.wrap (x2 - 1))) * x1)) + (minI (maxI x6 0) (IntKind.i64.wrap (x1 - 1)))) < (n4 : Int))
 (ob A3 fun a15 =>
 ob ((r13.2.ld (plus a15 ((IntKind.i64.wrap ((IntKind.i64.wrap ((minI (maxI x7 0) (IntKind.i64.wrap (x2 - 1))) * x1)) + (minI (maxI x6 0) (IntKind.i64.wrap (x1 - 1))))).toNat))).bind (Value.int? .u8)) fun x16 =>
 some (.ret (.int .u8 x16) r13.2)) none) := by kernel_rfl
theorem zoetroperef05_CopyPlane.entry (k lo : Nat) (x1 : Int) (x2 : Int) (A3 : Option Addr) (n4 : Nat) (c5 : Nat) (M : Mem) : entry P T k lo F.zoetroperef05_CopyPlane [.agg ⟨[.int .i64 x1, .int .i64 x2, .slice A3 n4 c5]⟩] M =
 ob (acall P T k M.length F.zoetroperef00_CopyBytes [.slice A3 n4 c5] M) fun r11 =>
 ob ((some r11.1).bind Value.slc?) fun s12 =>
 some (.ret (.agg ⟨[.int .i64 x1, .int .i64 x2, .slice s12.a s12.n s12.c]⟩) r11.2) := by kernel_rfl
theorem motion_within.entry (k lo : Nat) (x1 : Int) (x2 : Int) (x3 : Int) (M : Mem) : entry P T k lo F.motion_within [.int .i64 x1, .int .i64 x2, .int .i64 x3] M =
 bb (decide (x1 ≥ x2))
 (some (.ret (.bool (decide (x1 ≤ x3))) M))
 (some (.ret (.bool false) M)) := by kernel_rfl
theorem subpel_Fetch.entry (k lo : Nat) (x1 : Int) (x2 : Int) (A3 : Option Addr) (n4 : Nat) (c5 : Nat) (x6 : Int) (x7 : Int) (x8 : Int) (x9 : Int) (x10 : Int) (M : Mem) : entry P T k lo F.subpel_Fetch [.agg ⟨[.int .i64 x1, .int .i64 x2, .slice A3 n4 c5]⟩, .int .i64 x6, .int .i64 x7, .int .i64 x8, .int .i64 x9, .int .i64 x10] M =
 ob (((M ++ [⟨.fx, [.int .i64 x1, .int .i64 x2, .slice A3 n4 c5]⟩] : Mem).ld ⟨M.length, 0, none⟩).bind (Value.int? .i64)) fun x16 =>
 ob (((M ++ [⟨.fx, [.int .i64 x1, .int .i64 x2, .slice A3 n4 c5]⟩] : Mem).ld (plus ⟨M.length, 0, none⟩ 1)).bind (Value.int? .i64)) fun x17 =>
 ob (((M ++ [⟨.fx, [.int .i64 x1, .int .i64 x2, .slice A3 n4 c5]⟩] : Mem).ld (plus ⟨M.length, 0, none⟩ 2)).bind Value.slc?) fun s18 =>
 ob (acall P T k lo F.plane_Check [.agg ⟨[.int .i64 x16, .int .i64 x17, .slice s18.a s18.n s18.c]⟩] (M ++ [⟨.fx, [.int .i64 x1, .int .i64 x2, .slice A3 n4 c5]⟩] : Mem)) fun r19 =>
 ob ((some r19.1).bind (Value.int? .i64)) fun x20 =>
 bb (x20 != 0)
 (some (.ret (.tuple ⟨[.slice none 0 0, .int .i64 2]⟩) r19.2))
 (bb (decide ((minI x6 x7) < (-1048576)))
 (some (.ret (.tuple ⟨[.slice none 0 0, .int .i64 2]⟩) r19.2))
 (bb (decide ((maxI x6 x7) > 1048576))
 (some (.ret (.tuple ⟨[.slice none 0 0, .int .i64 2]⟩) r19.2))
 (bb (decide ((minI x8 x9) < 4))
 (some (.ret (.tuple ⟨[.slice none 0 0, .int .i64 2]⟩) r19.2))
 (bb (decide ((maxI x8 x9) > 64))
 (some (.ret (.tuple ⟨[.slice none 0 0, .int .i64 2]⟩) r19.2))
 (ob (acall P T k lo F.subpel_Taps [.int .i64 x10, .int .i64 (andI .i64 x6 15)] r19.2) fun r21 =>
 ob (r21.1.tup? 2) fun l22 =>
 ob ((l22[0]?).bind (Value.agg? 8)) fun l23 =>
 ob ((l23[0]?).bind (Value.int? .i64)) fun x24 =>
 ob ((l23[1]?).bind (Value.int? .i64)) fun x25 =>
 ob ((l23[2]?).bind (Value.int? .i64)) fun x26 =>
 ob ((l23[3]?).bind (Value.int? .i64)) fun x27 =>
 ob ((l23[4]?).bind (Value.int? .i64)) fun x28 =>
 ob ((l23[5]?).bind (Value.int? .i64)) fun x29 =>
 ob ((l23[6]?).bind (Value.int? .i64)) fun x30 =>
 ob ((l23[7]?).bind (Value.int? .i64)) fun x31 =>
 ob ((l22[1]?).bind (Value.int? .i64)) fun x32 =>
 ob (acall P T k lo F.subpel_Taps [.int .i64 x10, .int .i64 (andI .i64 x7 15)] r21.2) fun r33 =>
 ob (r33.1.tup? 2) fun l34 =>
 ob ((l34[0]?).bind (Value.agg? 8)) fun l35 =>
 ob ((l35[0]?).bind (Value.int? .i64)) fun x36 =>
 ob ((l35[1]?).bind (Value.int? .i64)) fun x37 =>
 ob ((l35[2]?).bind (Value.int? .i64)) fun x38 =>
 ob ((l35[3]?).bind (Value.int? .i64)) fun x39 =>
 ob ((l35[4]?).bind (Value.int? .i64)) fun x40 =>
 ob ((l35[5]?).bind (Value.int? .i64)) fun x41 =>
 ob ((l35[6]?).bind (Value.int? .i64)) fun x42 =>
 ob ((l35[7]?).bind (Value.int? .i64)) fun x43 =>
 ob ((l34[1]?).bind (Value.int? .i64)) fun x44 =>
 bb (x32 != 0)
 (some (.ret (.tuple ⟨[.slice none 0 0, .int .i64 2]⟩) r33.2))
 (bb (x44 != 0)
 (some (.ret (.tuple ⟨[.slice none 0 0, .int .i64 2]⟩) r33.2))
 (ob (acall P T k r33.2.length F.subpel_sum [.agg ⟨[.int .i64 x24, .int .i64 x25, .int .i64 x26, .int .i64 x27, .int .i64 x28, .int .i64 x29, .int .i64 x30, .int .i64 x31]⟩, .int .i64 3] r33.2) fun r45 =>
 ob ((some r45.1).bind Value.one?) fun v46 =>
 ob (acall P T k r33.2.length F.subpel_sum [.agg ⟨[.int .i64 x36, .int .i64 x37, .int .i64 x38, .int .i64 x39, .int .i64 x40, .int .i64 x41, .int .i64 x42, .int .i64 x43]⟩, .int .i64 11] r45.2) fun r47 =>
 ob ((some r47.1).bind Value.one?) fun v48 =>
 pb (0 ≤ IntKind.i64.wrap ((IntKind.i64.wrap (x9 + 8)) - 1) ∧ room ((IntKind.i64.wrap ((IntKind.i64.wrap (x9 + 8)) - 1)).toNat) 24)
 (ob (((r47.2 ++ [⟨.fx, zerosL [.slice none 0 0] ((IntKind.i64.wrap ((IntKind.i64.wrap (x9 + 8)) - 1)).toNat)⟩] : Mem) ++ [⟨.fx, [.slice none 0 0]⟩] : Mem).st lo ⟨(r47.2 ++ [⟨.fx, zerosL [.slice none 0 0] ((IntKind.i64.wrap ((IntKind.i64.wrap (x9 + 8)) - 1)).toNat)⟩] : Mem).length, 0, none⟩ [.slice (some ⟨r47.2.length, 0, none⟩) ((IntKind.i64.wrap ((IntKind.i64.wrap (x9 + 8)) - 1)).toNat) ((IntKind.i64.wrap ((IntKind.i64.wrap (x9 + 8)) - 1)).toNat)]) fun M49 =>
 ob ((M49.ld ⟨(r47.2 ++ [⟨.fx, zerosL [.slice none 0 0] ((IntKind.i64.wrap ((IntKind.i64.wrap (x9 + 8)) - 1)).toNat)⟩] : Mem).length, 0, none⟩).bind Value.slc?) fun s50 =>
 some (subpel_Fetch.c4084 x6 x7 x8 x9 ⟨M.length, 0, none⟩ v46 v48 ⟨(r47.2 ++ [⟨.fx, zerosL [.slice none 0 0] ((IntKind.i64.wrap ((IntKind.i64.wrap (x9 + 8)) - 1)).toNat)⟩] : Mem).length, 0, none⟩ (s50.n : Int) 0 M49)) none))))))) := by kernel_rfl
theorem subpel_Fetch.p4084 (k lo : Nat) (x1 : Int) (x2 : Int) (x3 : Int) (x4 : Int) (a5 : Addr) (v6 : Value) (v7 : Value) (a8 : Addr) (x9 : Int) (x10 : Int) (M : Mem) : piece P T k lo F.subpel_Fetch 4084 [.v (.int .i64 x1), .v (.int .i64 x2), .v (.int .i64 x3), .v (.int .i64 x4), .v (.pointer (some a5)), .v v6, .v v7, .v (.pointer (some a8)), .v (.int .i64 x9), .v (.int .i64 x10)] [] M =
 bb (decide (x10 < x9))
 (ob ((if ((plus a5 2).block) < M.length then M.ld (plus a5 2) else none).bind Value.slc?) fun s51 =>
 ob ((if ((plus a5 1).block) < M.length then M.ld (plus a5 1) else none).bind (Value.int? .i64)) fun x52 =>
 ob ((if a5.block < M.length then M.ld a5 else none).bind (Value.int? .i64)) fun x53 =>
 pb (0 ≤ IntKind.i64.wrap ((minI (maxI (IntKind.i64.wrap ((IntKind.i64.wrap ((shrI .i64 x2 4) + x10)) - 3)) 0) (IntKind.i64.wrap (x52 - 1))) * x53) ∧ IntKind.i64.wrap ((minI (maxI (IntKind.i64.wrap ((IntKind.i64.wrap ((shrI .i64 x2 4) + x10)) - 3)) 0) (IntKind.i64.wrap (x52 - 1))) * x53) ≤ (s51.n : Int))
 (ob ((if a5.block < M.length then M.ld a5 else none).bind (Value.int? .i64)) fun x54 =>
 pb (0 ≤ (0 : Int) ∧ (0 : Int) ≤ x54 ∧ x54 ≤ ((s51.c - ((IntKind.i64.wrap ((minI (maxI (IntKind.i64.wrap ((IntKind.i64.wrap ((shrI .i64 x2 4) + x10)) - 3)) 0) (IntKind.i64.wrap (x52 - 1))) * x53)).toNat) : Nat) : Int))
 (ob ((M ++ [⟨.fx, [.slice none 0 0]⟩] : Mem).st lo ⟨M.length, 0, none⟩ [.slice (slAddr 1 (slAddr 1 s51.a ((IntKind.i64.wrap ((minI (maxI (IntKind.i64.wrap ((IntKind.i64.wrap ((shrI .i64 x2 4) + x10)) - 3)) 0) (IntKind.i64.wrap (x52 - 1))) * x53)).toNat) s51.c) 0 (s51.c - ((IntKind.i64.wrap ((minI (maxI (IntKind.i64.wrap ((IntKind.i64.wrap ((shrI .i64 x2 4) + x10)) - 3)) 0) (IntKind.i64.wrap (x52 - 1))) * x53)).toNat))) (x54.toNat - 0) ((s51.c - ((IntKind.i64.wrap ((minI (maxI (IntKind.i64.wrap ((IntKind.i64.wrap ((shrI .i64 x2 4) + x10)) - 3)) 0) (IntKind.i64.wrap (x52 - 1))) * x53)).toNat)) - 0)]) fun M55 =>
 ob ((if a8.block < M55.length then M55.ld a8 else none).bind Value.slc?) fun s56 =>
 pb (0 ≤ x3 ∧ room x3.toNat 8)
 (pb (0 ≤ x10 ∧ x10 < (s56.n : Int))
 (ob s56.a fun a57 =>
 ob ((M55 ++ [⟨.fx, zerosL [.int .i64 0] x3.toNat⟩] : Mem).st lo (plus a57 x10.toNat) [.slice (some ⟨M55.length, 0, none⟩) x3.toNat x3.toNat]) fun M58 =>
 ob ((M58.ld a8).bind Value.slc?) fun s59 =>
 pb (0 ≤ x10 ∧ x10 < (s59.n : Int))
 (ob s59.a fun a60 =>
 ob ((M58.ld (plus a60 x10.toNat)).bind Value.slc?) fun s61 =>
 some (subpel_Fetch.c4182844 x1 x2 x3 x4 a5 v6 v7 a8 x10 ⟨M.length, 0, none⟩ x9 x10 (s61.n : Int) 0 M58)) none) none) none) none) none)
 (pb (0 ≤ IntKind.i64.wrap (x3 * x4) ∧ room ((IntKind.i64.wrap (x3 * x4)).toNat) 1)
 (some (subpel_Fetch.c16372 x3 v7 a8 (some ⟨M.length, 0, some 0⟩) 0 0 x4 0 (M ++ [⟨.op 1, []⟩] : Mem))) none) := by kernel_rfl
theorem subpel_Fetch.p16372 (k lo : Nat) (x1 : Int) (v2 : Value) (a3 : Addr) (A4 : Option Addr) (n5 : Nat) (c6 : Nat) (x7 : Int) (x8 : Int) (M : Mem) : piece P T k lo F.subpel_Fetch 16372 [.v (.int .i64 x1), .v v2, .v (.pointer (some a3)), .v (.slice A4 n5 c6), .v (.int .i64 x7), .v (.int .i64 x8)] [] M =
 bb (decide (x8 < x7))
 (ob ((M ++ [⟨.fx, [.int .i64 0]⟩] : Mem).st lo ⟨M.length, 0, none⟩ [.int .i64 x8]) fun M62 =>
 some (subpel_Fetch.c4191436 x1 v2 a3 A4 n5 c6 ⟨M.length, 0, none⟩ x7 x8 x1 0 M62))
 (some (.ret (.tuple ⟨[.slice A4 n5 c6, .int .i64 0]⟩) M)) := by kernel_rfl
theorem subpel_Fetch.p4182844 (k lo : Nat) (x1 : Int) (x2 : Int) (x3 : Int) (x4 : Int) (a5 : Addr) (v6 : Value) (v7 : Value) (a8 : Addr) (x9 : Int) (a10 : Addr) (x11 : Int) (x12 : Int) (x13 : Int) (x14 : Int) (M : Mem) : piece P T k lo F.subpel_Fetch 4182844 [.v (.int .i64 x1), .v (.int .i64 x2), .v (.int .i64 x3), .v (.int .i64 x4), .v (.pointer (some a5)), .v v6, .v v7, .v (.pointer (some a8)), .v (.int .i64 x9), .v (.pointer (some a10)), .v (.int .i64 x11), .v (.int .i64 x12), .v (.int .i64 x13), .v (.int .i64 x14)] [] M =
 bb (decide (x14 < x13))
 (ob ((M ++ [⟨.fx, [.int .i64 0]⟩] : Mem).st lo ⟨M.length, 0, none⟩ [.int .i64 (IntKind.i64.wrap ((IntKind.i64.wrap ((shrI .i64 x1 4) + x14)) - 3))]) fun M63 =>
 ob ((if a8.block < M63.length then M63.ld a8 else none).bind Value.slc?) fun s64 =>
 pb (0 ≤ x9 ∧ x9 < (s64.n : Int))
 (ob s64.a fun a65 =>
 ob ((if ((plus a65 x9.toNat).block) < M63.length then M63.ld (plus a65 x9.toNat) else none).bind Value.slc?) fun s66 =>
 ob (Value.fun? v6) fun q68 =>
 ob (acall P T k M63.length q68.1 (q68.2.1 ++ [.func (.func F.subpel_Fetch_1) ⟨[]⟩ ⟨[.pointer (some a10), .pointer (some ⟨M.length, 0, none⟩), .pointer (some a5)]⟩] ++ q68.2.2) M63) fun r67 =>
 ob ((some r67.1).bind (Value.int? .i64)) fun x69 =>
 pb (0 ≤ x14 ∧ x14 < (s66.n : Int))
 (ob s66.a fun a70 =>
 ob (r67.2.st lo (plus a70 x14.toNat) [.int .i64 x69]) fun M71 =>
 some (subpel_Fetch.c4182844 x1 x2 x3 x4 a5 v6 v7 a8 x9 a10 x11 x12 x13 (IntKind.i64.wrap (x14 + 1)) M71)) none) none)
 (some (subpel_Fetch.c4084 x1 x2 x3 x4 a5 v6 v7 a8 x11 (IntKind.i64.wrap (x12 + 1)) M)) := by kernel_rfl
theorem subpel_Fetch.p4191436 (k lo : Nat) (x1 : Int) (v2 : Value) (a3 : Addr) (A4 : Option Addr) (n5 : Nat) (c6 : Nat) (a7 : Addr) (x8 : Int) (x9 : Int) (x10 : Int) (x11 : Int) (M : Mem) : piece P T k lo F.subpel_Fetch 4191436 [.v (.int .i64 x1), .v v2, .v (.pointer (some a3)), .v (.slice A4 n5 c6), .v (.pointer (some a7)), .v (.int .i64 x8), .v (.int .i64 x9), .v (.int .i64 x10), .v (.int .i64 x11)] [] M =
 bb (decide (x11 < x10))
 (ob ((M ++ [⟨.fx, [.int .i64 0]⟩] : Mem).st lo ⟨M.length, 0, none⟩ [.int .i64 x11]) fun M72 =>
 ob (Value.fun? v2) fun q74 =>
 ob (acall P T k lo q74.1 (q74.2.1 ++ [.func (.func F.subpel_Fetch_2) ⟨[]⟩ ⟨[.pointer (some a3), .pointer (some a7), .pointer (some ⟨M.length, 0, none⟩)]⟩] ++ q74.2.2) M72) fun r73 =>
 ob ((some r73.1).bind (Value.int? .i64)) fun x75 =>
 ob (r73.2.app lo 1 1 ⟨A4, n5, c6⟩ ([.int .u8 (IntKind.u8.wrap (minI (maxI x75 0) 255))]) 1) fun r76 =>
 some (subpel_Fetch.c4191436 x1 v2 a3 r76.1.a r76.1.n r76.1.c a7 x8 x9 x10 (IntKind.i64.wrap (x11 + 1)) r76.2))
 (some (subpel_Fetch.c16372 x1 v2 a3 A4 n5 c6 x8 (IntKind.i64.wrap (x9 + 1)) M)) := by kernel_rfl
theorem zoetroperef05_Whole.entry (k lo : Nat) (x1 : Int) (x2 : Int) (A3 : Option Addr) (n4 : Nat) (c5 : Nat) (x6 : Int) (x7 : Int) (A8 : Option Addr) (n9 : Nat) (c10 : Nat) (x11 : Int) (x12 : Int) (A13 : Option Addr) (n14 : Nat) (c15 : Nat) (M : Mem) : entry P T k lo F.zoetroperef05_Whole [.agg ⟨[.int .i64 x1, .int .i64 x2, .slice A3 n4 c5, .int .i64 x6, .int .i64 x7, .slice A8 n9 c10, .int .i64 x11, .int .i64 x12, .slice A13 n14 c15]⟩] M =
 ob (acall P T k lo F.zoetroperef05_Check [.agg ⟨[.int .i64 x1, .int .i64 x2, .slice A3 n4 c5]⟩] M) fun r21 =>
 ob ((some r21.1).bind (Value.int? .i64)) fun x22 =>
 bb (x22 != 0)
 (some (.ret (.int .i64 2) r21.2))
 (ob (acall P T k lo F.zoetroperef05_side [.int .i64 x1] r21.2) fun r23 =>
 ob ((some r23.1).bind Value.bool?) fun b24 =>
 bb (!b24)
 (some (.ret (.int .i64 2) r23.2))
 (ob (acall P T k lo F.zoetroperef05_side [.int .i64 x2] r23.2) fun r25 =>
 ob ((some r25.1).bind Value.bool?) fun b26 =>
 bb (!b26)
 (some (.ret (.int .i64 2) r25.2))
 (some (zoetroperef05_Whole.c116 1 x1 x2 A3 n4 c5 x6 x7 A8 n9 c10 x11 x12 A13 n14 c15 r25.2)))) := by kernel_rfl
theorem zoetroperef05_Whole.p116 (k lo : Nat) (x1 : Int) (x2 : Int) (x3 : Int) (A4 : Option Addr) (n5 : Nat) (c6 : Nat) (x7 : Int) (x8 : Int) (A9 : Option Addr) (n10 : Nat) (c11 : Nat) (x12 : Int) (x13 : Int) (A14 : Option Addr) (n15 : Nat) (c16 : Nat) (M : Mem) : piece P T k lo F.zoetroperef05_Whole 116 [.l 1 0, .v (.int .i64 x1)] [[.int .i64 x2, .int .i64 x3, .slice A4 n5 c6, .int .i64 x7, .int .i64 x8, .slice A9 n10 c11, .int .i64 x12, .int .i64 x13, .slice A14 n15 c16]] M =
 bb (decide (x1 < 3))
 (pb (0 ≤ x1 ∧ x1 < (3 : Int))
 (ob ((([.int .i64 x2, .int .i64 x3, .slice A4 n5 c6, .int .i64 x7, .int .i64 x8, .slice A9 n10 c11, .int .i64 x12, .int .i64 x13, .slice A14 n15 c16] : List Value)[0 + (x1.toNat * 3) + 0]?).bind (Value.int? .i64)) fun x27 =>
 ob ((([.int .i64 x2, .int .i64 x3, .slice A4 n5 c6, .int .i64 x7, .int .i64 x8, .slice A9 n10 c11, .int .i64 x12, .int .i64 x13, .slice A14 n15 c16] : List Value)[0 + (x1.toNat * 3) + 1]?).bind (Value.int? .i64)) fun x28 =>
 ob ((([.int .i64 x2, .int .i64 x3, .slice A4 n5 c6, .int .i64 x7, .int .i64 x8, .slice A9 n10 c11, .int .i64 x12, .int .i64 x13, .slice A14 n15 c16] : List Value)[0 + (x1.toNat * 3) + 2]?).bind Value.slc?) fun s29 =>
 ob (acall P T k lo F.zoetroperef05_Check [.agg ⟨[.int .i64 x27, .int .i64 x28, .slice s29.a s29.n s29.c]⟩] M) fun r30 =>
 ob ((some r30.1).bind (Value.int? .i64)) fun x31 =>
 bb (x31 != 0)
 (some (.ret (.int .i64 2) r30.2))
 (pb (0 ≤ x1 ∧ x1 < (3 : Int))
 (ob ((([.int .i64 x2, .int .i64 x3, .slice A4 n5 c6, .int .i64 x7, .int .i64 x8, .slice A9 n10 c11, .int .i64 x12, .int .i64 x13, .slice A14 n15 c16] : List Value)[0 + (x1.toNat * 3) + 0 + 0]?).bind (Value.int? .i64)) fun x32 =>
 bb (x32 != IntKind.i64.wrap (Int.tdiv x2 2))
 (some (.ret (.int .i64 2) r30.2))
 (pb (0 ≤ x1 ∧ x1 < (3 : Int))
 (ob ((([.int .i64 x2, .int .i64 x3, .slice A4 n5 c6, .int .i64 x7, .int .i64 x8, .slice A9 n10 c11, .int .i64 x12, .int .i64 x13, .slice A14 n15 c16] : List Value)[0 + (x1.toNat * 3) + 1 + 0]?).bind (Value.int? .i64)) fun x33 =>
 bb (x33 != IntKind.i64.wrap (Int.tdiv x3 2))
 (some (.ret (.int .i64 2) r30.2))
 (some (zoetroperef05_Whole.c116 (IntKind.i64.wrap (x1 + 1)) x2 x3 A4 n5 c6 x7 x8 A9 n10 c11 x12 x13 A14 n15 c16 r30.2))) none)) none)) none)
 (some (.ret (.int .i64 0) M)) := by kernel_rfl
theorem zoetroperef15_part.entry (k lo : Nat) (x1 : Int) (M : Mem) : entry P T k lo F.zoetroperef15_part [.int .i64 x1] M =
 bb (decide (x1 ≥ (-4095)))
 (some (.ret (.bool (decide (x1 ≤ 4095))) M))
 (some (.ret (.bool false) M)) := by kernel_rfl
theorem zoetroperef14_Fetch.entry (k lo : Nat) (x1 : Int) (x2 : Int) (A3 : Option Addr) (n4 : Nat) (c5 : Nat) (x6 : Int) (x7 : Int) (x8 : Int) (x9 : Int) (x10 : Int) (M : Mem) : entry P T k lo F.zoetroperef14_Fetch [.agg ⟨[.int .i64 x1, .int .i64 x2, .slice A3 n4 c5]⟩, .int .i64 x6, .int .i64 x7, .int .i64 x8, .int .i64 x9, .int .i64 x10] M =
 ob (acall P T k lo F.zoetroperef05_Check [.agg ⟨[.int .i64 x1, .int .i64 x2, .slice A3 n4 c5]⟩] M) fun r16 =>
 ob ((some r16.1).bind (Value.int? .i64)) fun x17 =>
 bb (x17 != 0)
 (some (.ret (.tuple ⟨[.slice none 0 0, .int .i64 2]⟩) r16.2))
 (bb (decide (x6 < (-1048576)))
 (some (.ret (.tuple ⟨[.slice none 0 0, .int .i64 2]⟩) r16.2))
 (bb (decide (x6 > 1048576))
 (some (.ret (.tuple ⟨[.slice none 0 0, .int .i64 2]⟩) r16.2))
 (bb (decide (x7 < (-1048576)))
 (some (.ret (.tuple ⟨[.slice none 0 0, .int .i64 2]⟩) r16.2))
 (bb (decide (x7 > 1048576))
 (some (.ret (.tuple ⟨[.slice none 0 0, .int .i64 2]⟩) r16.2))
 (bb (decide (x8 < 4))
 (some (.ret (.tuple ⟨[.slice none 0 0, .int .i64 2]⟩) r16.2))
 (bb (decide (x8 > 64))
 (some (.ret (.tuple ⟨[.slice none 0 0, .int .i64 2]⟩) r16.2))
 (bb (decide (x9 < 4))
 (some (.ret (.tuple ⟨[.slice none 0 0, .int .i64 2]⟩) r16.2))
 (bb (decide (x9 > 64))
 (some (.ret (.tuple ⟨[.slice none 0 0, .int .i64 2]⟩) r16.2))
 (bb (decide (x10 < 0))
 (some (.ret (.tuple ⟨[.slice none 0 0, .int .i64 2]⟩) r16.2))
 (bb (decide (x10 > 2))
 (some (.ret (.tuple ⟨[.slice none 0 0, .int .i64 2]⟩) r16.2))
 (ob (acall P T k lo F.zoetroperef14_Taps [.int .i64 x10, .int .i64 (andI .i64 x6 15)] r16.2) fun r18 =>
 ob (r18.1.tup? 2) fun l19 =>
 ob ((l19[0]?).bind (Value.agg? 8)) fun l20 =>
 ob ((l20[0]?).bind (Value.int? .i64)) fun x21 =>
 ob ((l20[1]?).bind (Value.int? .i64)) fun x22 =>
 ob ((l20[2]?).bind (Value.int? .i64)) fun x23 =>
 ob ((l20[3]?).bind (Value.int? .i64)) fun x24 =>
 ob ((l20[4]?).bind (Value.int? .i64)) fun x25 =>
 ob ((l20[5]?).bind (Value.int? .i64)) fun x26 =>
 ob ((l20[6]?).bind (Value.int? .i64)) fun x27 =>
 ob ((l20[7]?).bind (Value.int? .i64)) fun x28 =>
 ob ((l19[1]?).bind (Value.int? .i64)) fun x29 =>
 ob (acall P T k lo F.zoetroperef14_Taps [.int .i64 x10, .int .i64 (andI .i64 x7 15)] r18.2) fun r30 =>
 ob (r30.1.tup? 2) fun l31 =>
 ob ((l31[0]?).bind (Value.agg? 8)) fun l32 =>
 ob ((l32[0]?).bind (Value.int? .i64)) fun x33 =>
 ob ((l32[1]?).bind (Value.int? .i64)) fun x34 =>
 ob ((l32[2]?).bind (Value.int? .i64)) fun x35 =>
 ob ((l32[3]?).bind (Value.int? .i64)) fun x36 =>
 ob ((l32[4]?).bind (Value.int? .i64)) fun x37 =>
 ob ((l32[5]?).bind (Value.int? .i64)) fun x38 =>
 ob ((l32[6]?).bind (Value.int? .i64)) fun x39 =>
 ob ((l32[7]?).bind (Value.int? .i64)) fun x40 =>
 ob ((l31[1]?).bind (Value.int? .i64)) fun x41 =>
 pb (0 ≤ IntKind.i64.wrap (x8 * (IntKind.i64.wrap (x9 + 7))) ∧ room ((IntKind.i64.wrap (x8 * (IntKind.i64.wrap (x9 + 7)))).toNat) 8)
 (some (zoetroperef14_Fetch.c1012 x6 x7 x8 x9 (some ⟨r30.2.length, 0, none⟩) ((IntKind.i64.wrap (x8 * (IntKind.i64.wrap (x9 + 7)))).toNat) ((IntKind.i64.wrap (x8 * (IntKind.i64.wrap (x9 + 7)))).toNat) 0 x1 x2 A3 n4 c5 x21 x22 x23 x24 x25 x26 x27 x28 x33 x34 x35 x36 x37 x38 x39 x40 (r30.2 ++ [⟨.fx, zerosL [.int .i64 0] ((IntKind.i64.wrap (x8 * (IntKind.i64.wrap (x9 + 7)))).toNat)⟩] : Mem))) none))))))))))) := by kernel_rfl
theorem zoetroperef14_Fetch.p1012 (k lo : Nat) (x1 : Int) (x2 : Int) (x3 : Int) (x4 : Int) (A5 : Option Addr) (n6 : Nat) (c7 : Nat) (x8 : Int) (x9 : Int) (x10 : Int) (A11 : Option Addr) (n12 : Nat) (c13 : Nat) (x14 : Int) (x15 : Int) (x16 : Int) (x17 : Int) (x18 : Int) (x19 : Int) (x20 : Int) (x21 : Int) (x22 : Int) (x23 : Int) (x24 : Int) (x25 : Int) (x26 : Int) (x27 : Int) (x28 : Int) (x29 : Int) (M : Mem) : piece P T k lo F.zoetroperef14_Fetch 1012 [.v (.int .i64 x1), .v (.int .i64 x2), .v (.int .i64 x3), .v (.int .i64 x4), .l 6 0, .l 14 0, .l 16 0, .v (.slice A5 n6 c7), .v (.int .i64 x8)] [[.int .i64 x9, .int .i64 x10, .slice A11 n12 c13], [.int .i64 x14, .int .i64 x15, .int .i64 x16, .int .i64 x17, .int .i64 x18, .int .i64 x19, .int .i64 x20, .int .i64 x21], [.int .i64 x22, .int .i64 x23, .int .i64 x24, .int .i64 x25, .int .i64 x26, .int .i64 x27, .int .i64 x28, .int .i64 x29]] M =
 bb (decide (x8 < IntKind.i64.wrap (x4 + 7)))
 (ob (acall P T k M.length F.zoetroperef00_Clip [.int .i64 (IntKind.i64.wrap ((IntKind.i64.wrap ((shrI .i64 x2 4) + x8)) - 3)), .int .i64 0, .int .i64 (IntKind.i64.wrap (x10 - 1))] M) fun r42 =>
 ob ((some r42.1).bind (Value.int? .i64)) fun x43 =>
 some (zoetroperef14_Fetch.c129612 x1 x2 x3 x4 A5 n6 c7 x8 (IntKind.i64.wrap (x43 * x9)) 0 x9 x10 A11 n12 c13 x14 x15 x16 x17 x18 x19 x20 x21 x22 x23 x24 x25 x26 x27 x28 x29 r42.2))
 (some (zoetroperef14_Fetch.c4084 x3 x4 A5 n6 c7 none 0 0 0 x22 x23 x24 x25 x26 x27 x28 x29 M)) := by kernel_rfl
theorem zoetroperef14_Fetch.p4084 (k lo : Nat) (x1 : Int) (x2 : Int) (A3 : Option Addr) (n4 : Nat) (c5 : Nat) (A6 : Option Addr) (n7 : Nat) (c8 : Nat) (x9 : Int) (x10 : Int) (x11 : Int) (x12 : Int) (x13 : Int) (x14 : Int) (x15 : Int) (x16 : Int) (x17 : Int) (M : Mem) : piece P T k lo F.zoetroperef14_Fetch 4084 [.v (.int .i64 x1), .v (.int .i64 x2), .l 16 0, .v (.slice A3 n4 c5), .v (.slice A6 n7 c8), .v (.int .i64 x9)] [[.int .i64 x10, .int .i64 x11, .int .i64 x12, .int .i64 x13, .int .i64 x14, .int .i64 x15, .int .i64 x16, .int .i64 x17]] M =
 bb (decide (x9 < IntKind.i64.wrap (x1 * x2)))
 (some (zoetroperef14_Fetch.c1045652 x1 x2 A3 n4 c5 A6 n7 c8 x9 1024 0 x10 x11 x12 x13 x14 x15 x16 x17 M))
 (some (.ret (.tuple ⟨[.slice A6 n7 c8, .int .i64 0]⟩) M)) := by kernel_rfl
theorem zoetroperef14_Fetch.p129612 (k lo : Nat) (x1 : Int) (x2 : Int) (x3 : Int) (x4 : Int) (A5 : Option Addr) (n6 : Nat) (c7 : Nat) (x8 : Int) (x9 : Int) (x10 : Int) (x11 : Int) (x12 : Int) (A13 : Option Addr) (n14 : Nat) (c15 : Nat) (x16 : Int) (x17 : Int) (x18 : Int) (x19 : Int) (x20 : Int) (x21 : Int) (x22 : Int) (x23 : Int) (x24 : Int) (x25 : Int) (x26 : Int) (x27 : Int) (x28 : Int) (x29 : Int) (x30 : Int) (x31 : Int) (M : Mem) : piece P T k lo F.zoetroperef14_Fetch 129612 [.v (.int .i64 x1), .v (.int .i64 x2), .v (.int .i64 x3), .v (.int .i64 x4), .l 6 0, .l 14 0, .l 16 0, .v (.slice A5 n6 c7), .v (.int .i64 x8), .v (.int .i64 x9), .v (.int .i64 x10)] [[.int .i64 x11, .int .i64 x12, .slice A13 n14 c15], [.int .i64 x16, .int .i64 x17, .int .i64 x18, .int .i64 x19, .int .i64 x20, .int .i64 x21, .int .i64 x22, .int .i64 x23], [.int .i64 x24, .int .i64 x25, .int .i64 x26, .int .i64 x27, .int .i64 x28, .int .i64 x29, .int .i64 x30, .int .i64 x31]] M =
 bb (decide (x10 < x3))
 (some (zoetroperef14_Fetch.c33180820 x1 x2 x3 x4 A5 n6 c7 x8 x9 x10 4 0 x11 x12 A13 n14 c15 x16 x17 x18 x19 x20 x21 x22 x23 x24 x25 x26 x27 x28 x29 x30 x31 M))
 (some (zoetroperef14_Fetch.c1012 x1 x2 x3 x4 A5 n6 c7 (IntKind.i64.wrap (x8 + 1)) x11 x12 A13 n14 c15 x16 x17 x18 x19 x20 x21 x22 x23 x24 x25 x26 x27 x28 x29 x30 x31 M)) := by kernel_rfl
theorem zoetroperef14_Fetch.p1045652 (k lo : Nat) (x1 : Int) (x2 : Int) (A3 : Option Addr) (n4 : Nat) (c5 : Nat) (A6 : Option Addr) (n7 : Nat) (c8 : Nat) (x9 : Int) (x10 : Int) (x11 : Int) (x12 : Int) (x13 : Int) (x14 : Int) (x15 : Int) (x16 : Int) (x17 : Int) (x18 : Int) (x19 : Int) (M : Mem) : piece P T k lo F.zoetroperef14_Fetch 1045652 [.v (.int .i64 x1), .v (.int .i64 x2), .l 16 0, .v (.slice A3 n4 c5), .v (.slice A6 n7 c8), .v (.int .i64 x9), .v (.int .i64 x10), .v (.int .i64 x11)] [[.int .i64 x12, .int .i64 x13, .int .i64 x14, .int .i64 x15, .int .i64 x16, .int .i64 x17, .int .i64 x18, .int .i64 x19]] M =
 bb (decide (x11 < 8))
 (pb (0 ≤ x11 ∧ x11 < (8 : Int))
 (ob ((([.int .i64 x12, .int .i64 x13, .int .i64 x14, .int .i64 x15, .int .i64 x16, .int .i64 x17, .int .i64 x18, .int .i64 x19] : List Value)[0 + x11.toNat + 0]?).bind (Value.int? .i64)) fun x44 =>
 pb (0 ≤ IntKind.i64.wrap (x9 + (IntKind.i64.wrap (x11 * x1))) ∧ IntKind.i64.wrap (x9 + (IntKind.i64.wrap (x11 * x1))) < (n4 : Int))
 (ob A3 fun a45 =>
 ob ((M.ld (plus a45 ((IntKind.i64.wrap (x9 + (IntKind.i64.wrap (x11 * x1)))).toNat))).bind (Value.int? .i64)) fun x46 =>
 some (zoetroperef14_Fetch.c1045652 x1 x2 A3 n4 c5 A6 n7 c8 x9 (IntKind.i64.wrap (x10 + (IntKind.i64.wrap (x44 * x46)))) (IntKind.i64.wrap (x11 + 1)) x12 x13 x14 x15 x16 x17 x18 x19 M)) none) none)
 (ob (acall P T k lo F.zoetroperef00_Clip [.int .i64 (shrI .i64 x10 11), .int .i64 0, .int .i64 255] M) fun r47 =>
 ob ((some r47.1).bind (Value.int? .i64)) fun x48 =>
 ob (r47.2.app lo 1 1 ⟨A6, n7, c8⟩ ([.int .u8 (IntKind.u8.wrap x48)]) 1) fun r49 =>
 some (zoetroperef14_Fetch.c4084 x1 x2 A3 n4 c5 r49.1.a r49.1.n r49.1.c (IntKind.i64.wrap (x9 + 1)) x12 x13 x14 x15 x16 x17 x18 x19 r49.2)) := by kernel_rfl
theorem zoetroperef14_Fetch.p33180820 (k lo : Nat) (x1 : Int) (x2 : Int) (x3 : Int) (x4 : Int) (A5 : Option Addr) (n6 : Nat) (c7 : Nat) (x8 : Int) (x9 : Int) (x10 : Int) (x11 : Int) (x12 : Int) (x13 : Int) (x14 : Int) (A15 : Option Addr) (n16 : Nat) (c17 : Nat) (x18 : Int) (x19 : Int) (x20 : Int) (x21 : Int) (x22 : Int) (x23 : Int) (x24 : Int) (x25 : Int) (x26 : Int) (x27 : Int) (x28 : Int) (x29 : Int) (x30 : Int) (x31 : Int) (x32 : Int) (x33 : Int) (M : Mem) : piece P T k lo F.zoetroperef14_Fetch 33180820 [.v (.int .i64 x1), .v (.int .i64 x2), .v (.int .i64 x3), .v (.int .i64 x4), .l 6 0, .l 14 0, .l 16 0, .v (.slice A5 n6 c7), .v (.int .i64 x8), .v (.int .i64 x9), .v (.int .i64 x10), .v (.int .i64 x11), .v (.int .i64 x12)] [[.int .i64 x13, .int .i64 x14, .slice A15 n16 c17], [.int .i64 x18, .int .i64 x19, .int .i64 x20, .int .i64 x21, .int .i64 x22, .int .i64 x23, .int .i64 x24, .int .i64 x25], [.int .i64 x26, .int .i64 x27, .int .i64 x28, .int .i64 x29, .int .i64 x30, .int .i64 x31, .int .i64 x32, .int .i64 x33]] M =
 bb (decide (x12 < 8))
 (pb (0 ≤ x12 ∧ x12 < (8 : Int))
 (ob ((([.int .i64 x18, .int .i64 x19, .int .i64 x20, .int .i64 x21, .int .i64 x22, .int .i64 x23, .int .i64 x24, .int .i64 x25] : List Value)[0 + x12.toNat + 0]?).bind (Value.int? .i64)) fun x50 =>
 ob (acall P T k M.length F.zoetroperef00_Clip [.int .i64 (IntKind.i64.wrap ((IntKind.i64.wrap ((IntKind.i64.wrap ((shrI .i64 x1 4) + x10)) + x12)) - 3)), .int .i64 0, .int .i64 (IntKind.i64.wrap (x13 - 1))] M) fun r51 =>
 ob ((some r51.1).bind (Value.int? .i64)) fun x52 =>
 pb (0 ≤ IntKind.i64.wrap (x9 + x52) ∧ IntKind.i64.wrap (x9 + x52) < (n16 : Int))
 (ob A15 fun a53 =>
 ob ((r51.2.ld (plus a53 ((IntKind.i64.wrap (x9 + x52)).toNat))).bind (Value.int? .u8)) fun x54 =>
 some (zoetroperef14_Fetch.c33180820 x1 x2 x3 x4 A5 n6 c7 x8 x9 x10 (IntKind.i64.wrap (x11 + (IntKind.i64.wrap (x50 * (IntKind.i64.wrap x54))))) (IntKind.i64.wrap (x12 + 1)) x13 x14 A15 n16 c17 x18 x19 x20 x21 x22 x23 x24 x25 x26 x27 x28 x29 x30 x31 x32 x33 r51.2)) none) none)
 (pb (0 ≤ IntKind.i64.wrap ((IntKind.i64.wrap (x8 * x3)) + x10) ∧ IntKind.i64.wrap ((IntKind.i64.wrap (x8 * x3)) + x10) < (n6 : Int))
 (ob A5 fun a55 =>
 ob (M.st lo (plus a55 ((IntKind.i64.wrap ((IntKind.i64.wrap (x8 * x3)) + x10)).toNat)) [.int .i64 (shrI .i64 x11 3)]) fun M56 =>
 some (zoetroperef14_Fetch.c129612 x1 x2 x3 x4 A5 n6 c7 x8 x9 (IntKind.i64.wrap (x10 + 1)) x13 x14 A15 n16 c17 x18 x19 x20 x21 x22 x23 x24 x25 x26 x27 x28 x29 x30 x31 x32 x33 M56)) none) := by kernel_rfl
theorem zoetroperef05_Same.entry (k lo : Nat) (x1 : Int) (x2 : Int) (A3 : Option Addr) (n4 : Nat) (c5 : Nat) (x6 : Int) (x7 : Int) (A8 : Option Addr) (n9 : Nat) (c10 : Nat) (M : Mem) : entry P T k lo F.zoetroperef05_Same [.agg ⟨[.int .i64 x1, .int .i64 x2, .slice A3 n4 c5]⟩, .agg ⟨[.int .i64 x6, .int .i64 x7, .slice A8 n9 c10]⟩] M =
 bb (x1 == x6)
 (bb (x2 == x7)
 (ob (acall P T k lo F.zoetroperef00_EqBytes [.slice A3 n4 c5, .slice A8 n9 c10] M) fun r16 =>
 ob ((some r16.1).bind Value.bool?) fun b17 =>
 some (.ret (.bool b17) r16.2))
 (some (.ret (.bool false) M)))
 (some (.ret (.bool false) M)) := by kernel_rfl
theorem slices_Clone__uint8_uint8.entry (k lo : Nat) (A1 : Option Addr) (n2 : Nat) (c3 : Nat) (M : Mem) : entry P T k lo F.slices_Clone__uint8_uint8 [.slice A1 n2 c3] M =
 bb A1.isNone
 (some (.ret (.slice none 0 0) M))
 (ob (Mem.src (M ++ [⟨.fx, []⟩] : Mem) A1 n2 n2) fun l9 =>
 ob ((M ++ [⟨.fx, []⟩] : Mem).app lo 1 1 ⟨some ⟨M.length, 0, none⟩, 0, 0⟩ l9 n2) fun r10 =>
 some (.ret (.slice r10.1.a r10.1.n r10.1.c) r10.2)) := by kernel_rfl
theorem motion_blend.entry (k lo : Nat) (A1 : Option Addr) (n2 : Nat) (c3 : Nat) (x4 : Int) (x5 : Int) (x6 : Int) (x7 : Int) (x8 : Int) (A9 : Option Addr) (n10 : Nat) (c11 : Nat) (x12 : Int) (v13 : Value) (M : Mem) : entry P T k lo F.motion_blend [.slice A1 n2 c3, .int .i64 x4, .agg ⟨[.int .i64 x5, .int .i64 x6, .int .i64 x7, .int .i64 x8]⟩, .slice A9 n10 c11, .int .i64 x12, v13] M =
 ob (acall P T k lo F.motion_Weights [.int .i64 x12] M) fun r19 =>
 ob (r19.1.tup? 2) fun l20 =>
 ob ((l20[0]?).bind Value.slc?) fun s21 =>
 ob ((l20[1]?).bind (Value.int? .i64)) fun x22 =>
 bb (x22 != 0)
 (some (.ret (.tuple ⟨[.slice none 0 0, .int .i64 2]⟩) r19.2))
 (ob (acall P T k lo F.motion_lies [.slice A1 n2 c3, .int .i64 x4, .agg ⟨[.int .i64 x5, .int .i64 x6, .int .i64 x7, .int .i64 x8]⟩] r19.2) fun r23 =>
 ob ((some r23.1).bind Value.bool?) fun b24 =>
 bb (!b24)
 (some (.ret (.tuple ⟨[.slice none 0 0, .int .i64 2]⟩) r23.2))
 (bb ((n10 : Int) != IntKind.i64.wrap (x7 * x8))
 (some (.ret (.tuple ⟨[.slice none 0 0, .int .i64 2]⟩) r23.2))
 (ob (acall P T k lo F.slices_Clone__uint8_uint8 [.slice A1 n2 c3] r23.2) fun r25 =>
 ob ((some r25.1).bind Value.slc?) fun s26 =>
 some (motion_blend.c500 x4 v13 s21.a s21.n s21.c s26.a s26.n s26.c A9 n10 c11 (n10 : Int) 0 x5 x6 x7 x8 r25.2)))) := by kernel_rfl
theorem motion_blend.p500 (k lo : Nat) (x1 : Int) (v2 : Value) (A3 : Option Addr) (n4 : Nat) (c5 : Nat) (A6 : Option Addr) (n7 : Nat) (c8 : Nat) (A9 : Option Addr) (n10 : Nat) (c11 : Nat) (x12 : Int) (x13 : Int) (x14 : Int) (x15 : Int) (x16 : Int) (x17 : Int) (M : Mem) : piece P T k lo F.motion_blend 500 [.v (.int .i64 x1), .v v2, .l 8 0, .v (.slice A3 n4 c5), .v (.slice A6 n7 c8), .v (.slice A9 n10 c11), .v (.int .i64 x12), .v (.int .i64 x13)] [[.int .i64 x14, .int .i64 x15, .int .i64 x16, .int .i64 x17]] M =
 bb (decide (x13 < x12))
 (pb (0 ≤ x13 ∧ x13 < (n10 : Int))
 (ob A9 fun a27 =>
 ob ((M.ld (plus a27 x13.toNat)).bind (Value.int? .u8)) fun x28 =>
 pb (x16 = 0) none
 (pb (x16 = 0) none
 (ob (Value.fun? v2) fun q30 =>
 ob (acall P T k lo q30.1 (q30.2.1 ++ [.int .i64 (Int.tmod x13 x16), .int .i64 (IntKind.i64.wrap (Int.tdiv x13 x16))] ++ q30.2.2) M) fun r29 =>
 ob ((some r29.1).bind (Value.int? .i64)) fun x31 =>
 pb (0 ≤ x31 ∧ x31 < (n4 : Int))
 (ob A3 fun a32 =>
 ob ((r29.2.ld (plus a32 x31.toNat)).bind (Value.int? .i64)) fun x33 =>
 pb (0 ≤ IntKind.i64.wrap ((IntKind.i64.wrap ((IntKind.i64.wrap ((IntKind.i64.wrap (x15 + (IntKind.i64.wrap (Int.tdiv x13 x16)))) * x1)) + x14)) + (Int.tmod x13 x16)) ∧ IntKind.i64.wrap ((IntKind.i64.wrap ((IntKind.i64.wrap ((IntKind.i64.wrap (x15 + (IntKind.i64.wrap (Int.tdiv x13 x16)))) * x1)) + x14)) + (Int.tmod x13 x16)) < (n7 : Int))
 (ob A6 fun a34 =>
 ob ((r29.2.ld (plus a34 ((IntKind.i64.wrap ((IntKind.i64.wrap ((IntKind.i64.wrap ((IntKind.i64.wrap (x15 + (IntKind.i64.wrap (Int.tdiv x13 x16)))) * x1)) + x14)) + (Int.tmod x13 x16))).toNat))).bind (Value.int? .u8)) fun x35 =>
 pb (0 ≤ IntKind.i64.wrap ((IntKind.i64.wrap ((IntKind.i64.wrap ((IntKind.i64.wrap (x15 + (IntKind.i64.wrap (Int.tdiv x13 x16)))) * x1)) + x14)) + (Int.tmod x13 x16)) ∧ IntKind.i64.wrap ((IntKind.i64.wrap ((IntKind.i64.wrap ((IntKind.i64.wrap (x15 + (IntKind.i64.wrap (Int.tdiv x13 x16)))) * x1)) + x14)) + (Int.tmod x13 x16)) < (n7 : Int))
 (ob A6 fun a36 =>
 ob (r29.2.st lo (plus a36 ((IntKind.i64.wrap ((IntKind.i64.wrap ((IntKind.i64.wrap ((IntKind.i64.wrap (x15 + (IntKind.i64.wrap (Int.tdiv x13 x16)))) * x1)) + x14)) + (Int.tmod x13 x16))).toNat)) [.int .u8 (IntKind.u8.wrap (shrI .i64 (IntKind.i64.wrap ((IntKind.i64.wrap ((IntKind.i64.wrap (x33 * (IntKind.i64.wrap x35))) + (IntKind.i64.wrap ((IntKind.i64.wrap (64 - x33)) * (IntKind.i64.wrap x28))))) + 32)) 6))]) fun M37 =>
 some (motion_blend.c500 x1 v2 A3 n4 c5 A6 n7 c8 A9 n10 c11 x12 (IntKind.i64.wrap (x13 + 1)) x14 x15 x16 x17 M37)) none) none) none))) none)
 (some (.ret (.tuple ⟨[.slice A6 n7 c8, .int .i64 0]⟩) M)) := by kernel_rfl
theorem motion_Above_1.entry (k lo : Nat) (x1 : Int) (x2 : Int) (M : Mem) : entry P T k lo F.motion_Above_1 [.int .i64 x1, .int .i64 x2] M =
 some (.ret (.int .i64 x2) M) := by kernel_rfl
theorem zoetroperef15_within.entry (k lo : Nat) (A1 : Option Addr) (n2 : Nat) (c3 : Nat) (x4 : Int) (x5 : Int) (x6 : Int) (x7 : Int) (x8 : Int) (M : Mem) : entry P T k lo F.zoetroperef15_within [.slice A1 n2 c3, .int .i64 x4, .agg ⟨[.int .i64 x5, .int .i64 x6, .int .i64 x7, .int .i64 x8]⟩] M =
 bb (decide (x4 < 1))
 (some (.ret (.bool false) M))
 (bb (decide (x4 > 64))
 (some (.ret (.bool false) M))
 (bb ((n2 : Int) == 0)
 (some (.ret (.bool false) M))
 (pb (x4 = 0) none
 (bb (Int.tmod (n2 : Int) x4 != 0)
 (some (.ret (.bool false) M))
 (pb (x4 = 0) none
 (bb (decide (IntKind.i64.wrap (Int.tdiv (n2 : Int) x4) > 64))
 (some (.ret (.bool false) M))
 (pb (x4 = 0) none
 (ob (acall P T k lo F.zoetroperef05_Within [.agg ⟨[.int .i64 x4, .int .i64 (IntKind.i64.wrap (Int.tdiv (n2 : Int) x4)), .slice none 0 0]⟩, .agg ⟨[.int .i64 x5, .int .i64 x6, .int .i64 x7, .int .i64 x8]⟩] M) fun r14 =>
 ob ((some r14.1).bind Value.bool?) fun b15 =>
 some (.ret (.bool b15) r14.2))))))))) := by kernel_rfl
theorem zoetroperef15_blend.entry (k lo : Nat) (A1 : Option Addr) (n2 : Nat) (c3 : Nat) (x4 : Int) (x5 : Int) (x6 : Int) (M : Mem) : entry P T k lo F.zoetroperef15_blend [.slice A1 n2 c3, .int .i64 x4, .int .i64 x5, .int .u8 x6] M =
 pb (0 ≤ x4 ∧ x4 < (n2 : Int))
 (ob A1 fun a12 =>
 ob ((M.ld (plus a12 x4.toNat)).bind (Value.int? .u8)) fun x13 =>
 pb (0 ≤ x4 ∧ x4 < (n2 : Int))
 (ob A1 fun a14 =>
 ob (M.st lo (plus a14 x4.toNat) [.int .u8 (IntKind.u8.wrap (IntKind.i64.wrap (Int.tdiv (IntKind.i64.wrap ((IntKind.i64.wrap ((IntKind.i64.wrap (x5 * (IntKind.i64.wrap x13))) + (IntKind.i64.wrap ((IntKind.i64.wrap (64 - x5)) * (IntKind.i64.wrap x6))))) + 32)) 64)))]) fun M15 =>
 some (.ret (.tuple ⟨[]⟩) M15)) none) none := by kernel_rfl
theorem motion_Left_1.entry (k lo : Nat) (x1 : Int) (x2 : Int) (M : Mem) : entry P T k lo F.motion_Left_1 [.int .i64 x1, .int .i64 x2] M =
 some (.ret (.int .i64 x1) M) := by kernel_rfl
theorem plane_Check.entry (k lo : Nat) (x1 : Int) (x2 : Int) (A3 : Option Addr) (n4 : Nat) (c5 : Nat) (M : Mem) : entry P T k lo F.plane_Check [.agg ⟨[.int .i64 x1, .int .i64 x2, .slice A3 n4 c5]⟩] M =
 ob (acall P T k lo F.plane_sizes [.int .i64 x1, .int .i64 x2] M) fun r11 =>
 ob ((some r11.1).bind Value.bool?) fun b12 =>
 bb (!b12)
 (some (.ret (.int .i64 2) r11.2))
 (bb ((n4 : Int) != IntKind.i64.wrap (x1 * x2))
 (some (.ret (.int .i64 2) r11.2))
 (some (.ret (.int .i64 0) r11.2))) := by kernel_rfl
theorem plane_sides.entry (k lo : Nat) (x1 : Int) (x2 : Int) (M : Mem) : entry P T k lo F.plane_sides [.int .i64 x1, .int .i64 x2] M =
 bb (andI .i64 x1 1 == 0)
 (bb (andI .i64 x2 1 == 0)
 (bb (decide ((minI x1 x2) ≥ 16))
 (some (.ret (.bool (decide ((maxI x1 x2) ≤ 256))) M))
 (some (.ret (.bool false) M)))
 (some (.ret (.bool false) M)))
 (some (.ret (.bool false) M)) := by kernel_rfl
theorem plane_New.entry (k lo : Nat) (x1 : Int) (x2 : Int) (x3 : Int) (M : Mem) : entry P T k lo F.plane_New [.int .i64 x1, .int .i64 x2, .int .u8 x3] M =
 ob (acall P T k lo F.plane_sizes [.int .i64 x1, .int .i64 x2] M) fun r9 =>
 ob ((some r9.1).bind Value.bool?) fun b10 =>
 bb (!b10)
 (some (.ret (.tuple ⟨[.agg ⟨[.int .i64 0, .int .i64 0, .slice none 0 0]⟩, .int .i64 2]⟩) r9.2))
 (ob (acall P T k lo F.slices_Repeat__uint8_uint8 [.slice (some ⟨r9.2.length, 0, none⟩) 1 1, .int .i64 (IntKind.i64.wrap (x1 * x2))] (r9.2 ++ [⟨.fx, [.int .u8 x3]⟩] : Mem)) fun r11 =>
 ob ((some r11.1).bind Value.slc?) fun s12 =>
 some (.ret (.tuple ⟨[.agg ⟨[.int .i64 x1, .int .i64 x2, .slice s12.a s12.n s12.c]⟩, .int .i64 0]⟩) r11.2)) := by kernel_rfl
theorem subpel_Taps.entry (k lo : Nat) (x1 : Int) (x2 : Int) (M : Mem) : entry P T k lo F.subpel_Taps [.int .i64 x1, .int .i64 x2] M =
 bb (decide (x2 < 0))
 (some (.ret (.tuple ⟨[.agg ⟨[.int .i64 0, .int .i64 0, .int .i64 0, .int .i64 0, .int .i64 0, .int .i64 0, .int .i64 0, .int .i64 0]⟩, .int .i64 2]⟩) M))
 (bb (decide (x2 > 15))
 (some (.ret (.tuple ⟨[.agg ⟨[.int .i64 0, .int .i64 0, .int .i64 0, .int .i64 0, .int .i64 0, .int .i64 0, .int .i64 0, .int .i64 0]⟩, .int .i64 2]⟩) M))
 (ob (acall P T k lo F.subpel_soft [] M) fun r8 =>
 ob ((some r8.1).bind (Value.agg? 72)) fun l9 =>
 ob ((l9[0]?).bind (Value.int? .i64)) fun x10 =>
 ob ((l9[1]?).bind (Value.int? .i64)) fun x11 =>
 ob ((l9[2]?).bind (Value.int? .i64)) fun x12 =>
 ob ((l9[3]?).bind (Value.int? .i64)) fun x13 =>
 ob ((l9[4]?).bind (Value.int? .i64)) fun x14 =>
 ob ((l9[5]?).bind (Value.int? .i64)) fun x15 =>
 ob ((l9[6]?).bind (Value.int? .i64)) fun x16 =>
 ob ((l9[7]?).bind (Value.int? .i64)) fun x17 =>
 ob ((l9[8]?).bind (Value.int? .i64)) fun x18 =>
 ob ((l9[9]?).bind (Value.int? .i64)) fun x19 =>
 ob ((l9[10]?).bind (Value.int? .i64)) fun x20 =>
 ob ((l9[11]?).bind (Value.int? .i64)) fun x21 =>
 ob ((l9[12]?).bind (Value.int? .i64)) fun x22 =>
 ob ((l9[13]?).bind (Value.int? .i64)) fun x23 =>
 ob ((l9[14]?).bind (Value.int? .i64)) fun x24 =>
 ob ((l9[15]?).bind (Value.int? .i64)) fun x25 =>
 ob ((l9[16]?).bind (Value.int? .i64)) fun x26 =>
 ob ((l9[17]?).bind (Value.int? .i64)) fun x27 =>
 ob ((l9[18]?).bind (Value.int? .i64)) fun x28 =>
 ob ((l9[19]?).bind (Value.int? .i64)) fun x29 =>
 ob ((l9[20]?).bind (Value.int? .i64)) fun x30 =>
 ob ((l9[21]?).bind (Value.int? .i64)) fun x31 =>
 ob ((l9[22]?).bind (Value.int? .i64)) fun x32 =>
 ob ((l9[23]?).bind (Value.int? .i64)) fun x33 =>
 ob ((l9[24]?).bind (Value.int? .i64)) fun x34 =>
 ob ((l9[25]?).bind (Value.int? .i64)) fun x35 =>
 ob ((l9[26]?).bind (Value.int? .i64)) fun x36 =>
 ob ((l9[27]?).bind (Value.int? .i64)) fun x37 =>
 ob ((l9[28]?).bind (Value.int? .i64)) fun x38 =>
 ob ((l9[29]?).bind (Value.int? .i64)) fun x39 =>
 ob ((l9[30]?).bind (Value.int? .i64)) fun x40 =>
 ob ((l9[31]?).bind (Value.int? .i64)) fun x41 =>
 ob ((l9[32]?).bind (Value.int? .i64)) fun x42 =>
 ob ((l9[33]?).bind (Value.int? .i64)) fun x43 =>
 ob ((l9[34]?).bind (Value.int? .i64)) fun x44 =>
 ob ((l9[35]?).bind (Value.int? .i64)) fun x45 =>
 ob ((l9[36]?).bind (Value.int? .i64)) fun x46 =>
 ob ((l9[37]?).bind (Value.int? .i64)) fun x47 =>
 ob ((l9[38]?).bind (Value.int? .i64)) fun x48 =>
 ob ((l9[39]?).bind (Value.int? .i64)) fun x49 =>
 ob ((l9[40]?).bind (Value.int? .i64)) fun x50 =>
 ob ((l9[41]?).bind (Value.int? .i64)) fun x51 =>
 ob ((l9[42]?).bind (Value.int? .i64)) fun x52 =>
 ob ((l9[43]?).bind (Value.int? .i64)) fun x53 =>
 ob ((l9[44]?).bind (Value.int? .i64)) fun x54 =>
 ob ((l9[45]?).bind (Value.int? .i64)) fun x55 =>
 ob ((l9[46]?).bind (Value.int? .i64)) fun x56 =>
 ob ((l9[47]?).bind (Value.int? .i64)) fun x57 =>
 ob ((l9[48]?).bind (Value.int? .i64)) fun x58 =>
 ob ((l9[49]?).bind (Value.int? .i64)) fun x59 =>
 ob ((l9[50]?).bind (Value.int? .i64)) fun x60 =>
 ob ((l9[51]?).bind (Value.int? .i64)) fun x61 =>
 ob ((l9[52]?).bind (Value.int? .i64)) fun x62 =>
 ob ((l9[53]?).bind (Value.int? .i64)) fun x63 =>
 ob ((l9[54]?).bind (Value.int? .i64)) fun x64 =>
 ob ((l9[55]?).bind (Value.int? .i64)) fun x65 =>
 ob ((l9[56]?).bind (Value.int? .i64)) fun x66 =>
 ob ((l9[57]?).bind (Value.int? .i64)) fun x67 =>
 ob ((l9[58]?).bind (Value.int? .i64)) fun x68 =>
 ob ((l9[59]?).bind (Value.int? .i64)) fun x69 =>
 ob ((l9[60]?).bind (Value.int? .i64)) fun x70 =>
 ob ((l9[61]?).bind (Value.int? .i64)) fun x71 =>
 ob ((l9[62]?).bind (Value.int? .i64)) fun x72 =>
 ob ((l9[63]?).bind (Value.int? .i64)) fun x73 =>
 ob ((l9[64]?).bind (Value.int? .i64)) fun x74 =>
 ob ((l9[65]?).bind (Value.int? .i64)) fun x75 =>
 ob ((l9[66]?).bind (Value.int? .i64)) fun x76 =>
 ob ((l9[67]?).bind (Value.int? .i64)) fun x77 =>
 ob ((l9[68]?).bind (Value.int? .i64)) fun x78 =>
 ob ((l9[69]?).bind (Value.int? .i64)) fun x79 =>
 ob ((l9[70]?).bind (Value.int? .i64)) fun x80 =>
 ob ((l9[71]?).bind (Value.int? .i64)) fun x81 =>
 bb (x1 == 2)
 (some (.ret (.tuple ⟨[.agg ⟨[.int .i64 0, .int .i64 0, .int .i64 0, .int .i64 (IntKind.i64.wrap (128 - (IntKind.i64.wrap (8 * x2)))), .int .i64 (IntKind.i64.wrap (8 * x2)), .int .i64 0, .int .i64 0, .int .i64 0]⟩, .int .i64 0]⟩) r8.2))
 (bb (x1 == 0)
 (ob (acall P T k lo F.subpel_sharp [] r8.2) fun r82 =>
 ob ((some r82.1).bind (Value.agg? 72)) fun l83 =>
 ob ((l83[0]?).bind (Value.int? .i64)) fun x84 =>
 ob ((l83[1]?).bind (Value.int? .i64)) fun x85 =>
 ob ((l83[2]?).bind (Value.int? .i64)) fun x86 =>
 ob ((l83[3]?).bind (Value.int? .i64)) fun x87 =>
 ob ((l83[4]?).bind (Value.int? .i64)) fun x88 =>
 ob ((l83[5]?).bind (Value.int? .i64)) fun x89 =>
 ob ((l83[6]?).bind (Value.int? .i64)) fun x90 =>
 ob ((l83[7]?).bind (Value.int? .i64)) fun x91 =>
 ob ((l83[8]?).bind (Value.int? .i64)) fun x92 =>
 ob ((l83[9]?).bind (Value.int? .i64)) fun x93 =>
 ob ((l83[10]?).bind (Value.int? .i64)) fun x94 =>
 ob ((l83[11]?).bind (Value.int? .i64)) fun x95 =>
 ob ((l83[12]?).bind (Value.int? .i64)) fun x96 =>
 ob ((l83[13]?).bind (Value.int? .i64)) fun x97 =>
 ob ((l83[14]?).bind (Value.int? .i64)) fun x98 =>
 ob ((l83[15]?).bind (Value.int? .i64)) fun x99 =>
 ob ((l83[16]?).bind (Value.int? .i64)) fun x100 =>
 ob ((l83[17]?).bind (Value.int? .i64)) fun x101 =>
 ob ((l83[18]?).bind (Value.int? .i64)) fun x102 =>
 ob ((l83[19]?).bind (Value.int? .i64)) fun x103 =>
 ob ((l83[20]?).bind (Value.int? .i64)) fun x104 =>
 ob ((l83[21]?).bind (Value.int? .i64)) fun x105 =>
 ob ((l83[22]?).bind (Value.int? .i64)) fun x106 =>
 ob ((l83[23]?).bind (Value.int? .i64)) fun x107 =>
 ob ((l83[24]?).bind (Value.int? .i64)) fun x108 =>
 ob ((l83[25]?).bind (Value.int? .i64)) fun x109 =>
 ob ((l83[26]?).bind (Value.int? .i64)) fun x110 =>
 ob ((l83[27]?).bind (Value.int? .i64)) fun x111 =>
 ob ((l83[28]?).bind (Value.int? .i64)) fun x112 =>
 ob ((l83[29]?).bind (Value.int? .i64)) fun x113 =>
 ob ((l83[30]?).bind (Value.int? .i64)) fun x114 =>
 ob ((l83[31]?).bind (Value.int? .i64)) fun x115 =>
 ob ((l83[32]?).bind (Value.int? .i64)) fun x116 =>
 ob ((l83[33]?).bind (Value.int? .i64)) fun x117 =>
 ob ((l83[34]?).bind (Value.int? .i64)) fun x118 =>
 ob ((l83[35]?).bind (Value.int? .i64)) fun x119 =>
 ob ((l83[36]?).bind (Value.int? .i64)) fun x120 =>
 ob ((l83[37]?).bind (Value.int? .i64)) fun x121 =>
 ob ((l83[38]?).bind (Value.int? .i64)) fun x122 =>
 ob ((l83[39]?).bind (Value.int? .i64)) fun x123 =>
 ob ((l83[40]?).bind (Value.int? .i64)) fun x124 =>
 ob ((l83[41]?).bind (Value.int? .i64)) fun x125 =>
 ob ((l83[42]?).bind (Value.int? .i64)) fun x126 =>
 ob ((l83[43]?).bind (Value.int? .i64)) fun x127 =>
 ob ((l83[44]?).bind (Value.int? .i64)) fun x128 =>
 ob ((l83[45]?).bind (Value.int? .i64)) fun x129 =>
 ob ((l83[46]?).bind (Value.int? .i64)) fun x130 =>
 ob ((l83[47]?).bind (Value.int? .i64)) fun x131 =>
 ob ((l83[48]?).bind (Value.int? .i64)) fun x132 =>
 ob ((l83[49]?).bind (Value.int? .i64)) fun x133 =>
 ob ((l83[50]?).bind (Value.int? .i64)) fun x134 =>
 ob ((l83[51]?).bind (Value.int? .i64)) fun x135 =>
 ob ((l83[52]?).bind (Value.int? .i64)) fun x136 =>
 ob ((l83[53]?).bind (Value.int? .i64)) fun x137 =>
 ob ((l83[54]?).bind (Value.int? .i64)) fun x138 =>
 ob ((l83[55]?).bind (Value.int? .i64)) fun x139 =>
 ob ((l83[56]?).bind (Value.int? .i64)) fun x140 =>
 ob ((l83[57]?).bind (Value.int? .i64)) fun x141 =>
 ob ((l83[58]?).bind (Value.int? .i64)) fun x142 =>
 ob ((l83[59]?).bind (Value.int? .i64)) fun x143 =>
 ob ((l83[60]?).bind (Value.int? .i64)) fun x144 =>
 ob ((l83[61]?).bind (Value.int? .i64)) fun x145 =>
 ob ((l83[62]?).bind (Value.int? .i64)) fun x146 =>
 ob ((l83[63]?).bind (Value.int? .i64)) fun x147 =>
 ob ((l83[64]?).bind (Value.int? .i64)) fun x148 =>
 ob ((l83[65]?).bind (Value.int? .i64)) fun x149 =>
 ob ((l83[66]?).bind (Value.int? .i64)) fun x150 =>
 ob ((l83[67]?).bind (Value.int? .i64)) fun x151 =>
 ob ((l83[68]?).bind (Value.int? .i64)) fun x152 =>
 ob ((l83[69]?).bind (Value.int? .i64)) fun x153 =>
 ob ((l83[70]?).bind (Value.int? .i64)) fun x154 =>
 ob ((l83[71]?).bind (Value.int? .i64)) fun x155 =>
 bb (decide (x2 < 9))
 (pb (0 ≤ x2 ∧ x2 < (9 : Int))
 (ob ((([.int .i64 x84, .int .i64 x85, .int .i64 x86, .int .i64 x87, .int .i64 x88, .int .i64 x89, .int .i64 x90, .int .i64 x91, .int .i64 x92, .int .i64 x93, .int .i64 x94, .int .i64 x95, .int .i64 x96, .int .i64 x97, .int .i64 x98, .int .i64 x99, .int .i64 x100, .int .i64 x101, .int .i64 x102, .int .i64 x103, .int .i64 x104, .int .i64 x105, .int .i64 x106, .int .i64 x107, .int .i64 x108, .int .i64 x109, .int .i64 x110, .int .i64 x111, .int .i64 x112, .int .i64 x113, .int .i64 x114, .int .i64 x115, .int .i64 x116, .int .i64 x117, .int .i64 x118, .int .i64 x119, .int .i64 x120, .int .i64 x121, .int .i64 x122, .int .i64 x123, .int .i64 x124, .int .i64 x125, .int .i64 x126, .int .i64 x127, .int .i64 x128, .int .i64 x129, .int .i64 x130, .int .i64 x131, .int .i64 x132, .int .i64 x133, .int .i64 x134, .int .i64 x135, .int .i64 x136, .int .i64 x137, .int .i64 x138, .int .i64 x139, .int .i64 x140, .int .i64 x141, .int .i64 x142, .int .i64 x143, .int .i64 x144, .int .i64 x145, .int .i64 x146, .int .i64 x147, .int .i64 x148, .int .i64 x149, .int .i64 x150, .int .i64 x151, .int .i64 x152, .int .i64 x153, .int .i64 x154, .int .i64 x155] : List Value)[0 + (x2.toNat * 8) + 0]?).bind (Value.int? .i64)) fun x156 =>
 ob ((([.int .i64 x84, .int .i64 x85, .int .i64 x86, .int .i64 x87, .int .i64 x88, .int .i64 x89, .int .i64 x90, .int .i64 x91, .int .i64 x92, .int .i64 x93, .int .i64 x94, .int .i64 x95, .int .i64 x96, .int .i64 x97, .int .i64 x98, .int .i64 x99, .int .i64 x100, .int .i64 x101, .int .i64 x102, .int .i64 x103, .int .i64 x104, .int .i64 x105, .int .i64 x106, .int .i64 x107, .int .i64 x108, .int .i64 x109, .int .i64 x110, .int .i64 x111, .int .i64 x112, .int .i64 x113, .int .i64 x114, .int .i64 x115, .int .i64 x116, .int .i64 x117, .int .i64 x118, .int .i64 x119, .int .i64 x120, .int .i64 x121, .int .i64 x122, .int .i64 x123, .int .i64 x124, .int .i64 x125, .int .i64 x126, .int .i64 x127, .int .i64 x128, .int .i64 x129, .int .i64 x130, .int .i64 x131, .int .i64 x132, .int .i64 x133, .int .i64 x134, .int .i64 x135, .int .i64 x136, .int .i64 x137, .int .i64 x138, .int .i64 x139, .int .i64 x140, .int .i64 x141, .int .i64 x142, .int .i64 x143, .int .i64 x144, .int .i64 x145, .int .i64 x146, .int .i64 x147, .int .i64 x148, .int .i64 x149, .int .i64 x150, .int .i64 x151, .int .i64 x152, .int .i64 x153, .int .i64 x154, .int .i64 x155] : List Value)[0 + (x2.toNat * 8) + 1]?).bind (Value.int? .i64)) fun x157 =>
 ob ((([.int .i64 x84, .int .i64 x85, .int .i64 x86, .int .i64 x87, .int .i64 x88, .int .i64 x89, .int .i64 x90, .int .i64 x91, .int .i64 x92, .int .i64 x93, .int .i64 x94, .int .i64 x95, .int .i64 x96, .int .i64 x97, .int .i64 x98, .int .i64 x99, .int .i64 x100, .int .i64 x101, .int .i64 x102, .int .i64 x103, .int .i64 x104, .int .i64 x105, .int .i64 x106, .int .i64 x107, .int .i64 x108, .int .i64 x109, .int .i64 x110, .int .i64 x111, .int .i64 x112, .int .i64 x113, .int .i64 x114, .int .i64 x115, .int .i64 x116, .int .i64 x117, .int .i64 x118, .int .i64 x119, .int .i64 x120, .int .i64 x121, .int .i64 x122, .int .i64 x123, .int .i64 x124, .int .i64 x125, .int .i64 x126, .int .i64 x127, .int .i64 x128, .int .i64 x129, .int .i64 x130, .int .i64 x131, .int .i64 x132, .int .i64 x133, .int .i64 x134, .int .i64 x135, .int .i64 x136, .int .i64 x137, .int .i64 x138, .int .i64 x139, .int .i64 x140, .int .i64 x141, .int .i64 x142, .int .i64 x143, .int .i64 x144, .int .i64 x145, .int .i64 x146, .int .i64 x147, .int .i64 x148, .int .i64 x149, .int .i64 x150, .int .i64 x151, .int .i64 x152, .int .i64 x153, .int .i64 x154, .int .i64 x155] : List Value)[0 + (x2.toNat * 8) + 2]?).bind (Value.int? .i64)) fun x158 =>
 ob ((([.int .i64 x84, .int .i64 x85, .int .i64 x86, .int .i64 x87, .int .i64 x88, .int .i64 x89, .int .i64 x90, .int .i64 x91, .int .i64 x92, .int .i64 x93, .int .i64 x94, .int .i64 x95, .int .i64 x96, .int .i64 x97, .int .i64 x98, .int .i64 x99, .int .i64 x100, .int .i64 x101, .int .i64 x102, .int .i64 x103, .int .i64 x104, .int .i64 x105, .int .i64 x106, .int .i64 x107, .int .i64 x108, .int .i64 x109, .int .i64 x110, .int .i64 x111, .int .i64 x112, .int .i64 x113, .int .i64 x114, .int .i64 x115, .int .i64 x116, .int .i64 x117, .int .i64 x118, .int .i64 x119, .int .i64 x120, .int .i64 x121, .int .i64 x122, .int .i64 x123, .int .i64 x124, .int .i64 x125, .int .i64 x126, .int .i64 x127, .int .i64 x128, .int .i64 x129, .int .i64 x130, .int .i64 x131, .int .i64 x132, .int .i64 x133, .int .i64 x134, .int .i64 x135, .int .i64 x136, .int .i64 x137, .int .i64 x138, .int .i64 x139, .int .i64 x140, .int .i64 x141, .int .i64 x142, .int .i64 x143, .int .i64 x144, .int .i64 x145, .int .i64 x146, .int .i64 x147, .int .i64 x148, .int .i64 x149, .int .i64 x150, .int .i64 x151, .int .i64 x152, .int .i64 x153, .int .i64 x154, .int .i64 x155] : List Value)[0 + (x2.toNat * 8) + 3]?).bind (Value.int? .i64)) fun x159 =>
 ob ((([.int .i64 x84, .int .i64 x85, .int .i64 x86, .int .i64 x87, .int .i64 x88, .int .i64 x89, .int .i64 x90, .int .i64 x91, .int .i64 x92, .int .i64 x93, .int .i64 x94, .int .i64 x95, .int .i64 x96, .int .i64 x97, .int .i64 x98, .int .i64 x99, .int .i64 x100, .int .i64 x101, .int .i64 x102, .int .i64 x103, .int .i64 x104, .int .i64 x105, .int .i64 x106, .int .i64 x107, .int .i64 x108, .int .i64 x109, .int .i64 x110, .int .i64 x111, .int .i64 x112, .int .i64 x113, .int .i64 x114, .int .i64 x115, .int .i64 x116, .int .i64 x117, .int .i64 x118, .int .i64 x119, .int .i64 x120, .int .i64 x121, .int .i64 x122, .int .i64 x123, .int .i64 x124, .int .i64 x125, .int .i64 x126, .int .i64 x127, .int .i64 x128, .int .i64 x129, .int .i64 x130, .int .i64 x131, .int .i64 x132, .int .i64 x133, .int .i64 x134, .int .i64 x135, .int .i64 x136, .int .i64 x137, .int .i64 x138, .int .i64 x139, .int .i64 x140, .int .i64 x141, .int .i64 x142, .int .i64 x143, .int .i64 x144, .int .i64 x145, .int .i64 x146, .int .i64 x147, .int .i64 x148, .int .i64 x149, .int .i64 x150, .int .i64 x151, .int .i64 x152, .int .i64 x153, .int .i64 x154, .int .i64 x155] : List Value)[0 + (x2.toNat * 8) + 4]?).bind (Value.int? .i64)) fun x160 =>
 ob ((([.int .i64 x84, .int .i64 x85, .int .i64 x86, .int .i64 x87, .int .i64 x88, .int .i64 x89, .int .i64 x90, .int .i64 x91, .int .i64 x92, .int .i64 x93, .int .i64 x94, .int .i64 x95, .int .i64 x96, .int .i64 x97, .int .i64 x98, .int .i64 x99, .int .i64 x100, .int .i64 x101, .int .i64 x102, .int .i64 x103, .int .i64 x104, .int .i64 x105, .int .i64 x106, .int .i64 x107, .int .i64 x108, .int .i64 x109, .int .i64 x110, .int .i64 x111, .int .i64 x112, .int .i64 x113, .int .i64 x114, .int .i64 x115, .int .i64 x116, .int .i64 x117, .int .i64 x118, .int .i64 x119, .int .i64 x120, .int .i64 x121, .int .i64 x122, .int .i64 x123, .int .i64 x124, .int .i64 x125, .int .i64 x126, .int .i64 x127, .int .i64 x128, .int .i64 x129, .int .i64 x130, .int .i64 x131, .int .i64 x132, .int .i64 x133, .int .i64 x134, .int .i64 x135, .int .i64 x136, .int .i64 x137, .int .i64 x138, .int .i64 x139, .int .i64 x140, .int .i64 x141, .int .i64 x142, .int .i64 x143, .int .i64 x144, .int .i64 x145, .int .i64 x146, .int .i64 x147, .int .i64 x148, .int .i64 x149, .int .i64 x150, .int .i64 x151, .int .i64 x152, .int .i64 x153, .int .i64 x154, .int .i64 x155] : List Value)[0 + (x2.toNat * 8) + 5]?).bind (Value.int? .i64)) fun x161 =>
 ob ((([.int .i64 x84, .int .i64 x85, .int .i64 x86, .int .i64 x87, .int .i64 x88, .int .i64 x89, .int .i64 x90, .int .i64 x91, .int .i64 x92, .int .i64 x93, .int .i64 x94, .int .i64 x95, .int .i64 x96, .int .i64 x97, .int .i64 x98, .int .i64 x99, .int .i64 x100, .int .i64 x101, .int .i64 x102, .int .i64 x103, .int .i64 x104, .int .i64 x105, .int .i64 x106, .int .i64 x107, .int .i64 x108, .int .i64 x109, .int .i64 x110, .int .i64 x111, .int .i64 x112, .int .i64 x113, .int .i64 x114, .int .i64 x115, .int .i64 x116, .int .i64 x117, .int .i64 x118, .int .i64 x119, .int .i64 x120, .int .i64 x121, .int .i64 x122, .int .i64 x123, .int .i64 x124, .int .i64 x125, .int .i64 x126, .int .i64 x127, .int .i64 x128, .int .i64 x129, .int .i64 x130, .int .i64 x131, .int .i64 x132, .int .i64 x133, .int .i64 x134, .int .i64 x135, .int .i64 x136, .int .i64 x137, .int .i64 x138, .int .i64 x139, .int .i64 x140, .int .i64 x141, .int .i64 x142, .int .i64 x143, .int .i64 x144, .int .i64 x145, .int .i64 x146, .int .i64 x147, .int .i64 x148, .int .i64 x149, .int .i64 x150, .int .i64 x151, .int .i64 x152, .int .i64 x153, .int .i64 x154, .int .i64 x155] : List Value)[0 + (x2.toNat * 8) + 6]?).bind (Value.int? .i64)) fun x162 =>
 ob ((([.int .i64 x84, .int .i64 x85, .int .i64 x86, .int .i64 x87, .int .i64 x88, .int .i64 x89, .int .i64 x90, .int .i64 x91, .int .i64 x92, .int .i64 x93, .int .i64 x94, .int .i64 x95, .int .i64 x96, .int .i64 x97, .int .i64 x98, .int .i64 x99, .int .i64 x100, .int .i64 x101, .int .i64 x102, .int .i64 x103, .int .i64 x104, .int .i64 x105, .int .i64 x106, .int .i64 x107, .int .i64 x108, .int .i64 x109, .int .i64 x110, .int .i64 x111, .int .i64 x112, .int .i64 x113, .int .i64 x114, .int .i64 x115, .int .i64 x116, .int .i64 x117, .int .i64 x118, .int .i64 x119, .int .i64 x120, .int .i64 x121, .int .i64 x122, .int .i64 x123, .int .i64 x124, .int .i64 x125, .int .i64 x126, .int .i64 x127, .int .i64 x128, .int .i64 x129, .int .i64 x130, .int .i64 x131, .int .i64 x132, .int .i64 x133, .int .i64 x134, .int .i64 x135, .int .i64 x136, .int .i64 x137, .int .i64 x138, .int .i64 x139, .int .i64 x140, .int .i64 x141, .int .i64 x142, .int .i64 x143, .int .i64 x144, .int .i64 x145, .int .i64 x146, .int .i64 x147, .int .i64 x148, .int .i64 x149, .int .i64 x150, .int .i64 x151, .int .i64 x152, .int .i64 x153, .int .i64 x154, .int .i64 x155] : List Value)[0 + (x2.toNat * 8) + 7]?).bind (Value.int? .i64)) fun x163 =>
 some (.ret (.tuple ⟨[.agg ⟨[.int .i64 x156, .int .i64 x157, .int .i64 x158, .int .i64 x159, .int .i64 x160, .int .i64 x161, .int .i64 x162, .int .i64 x163]⟩, .int .i64 0]⟩) r82.2)) none)
 (pb (0 ≤ IntKind.i64.wrap (16 - x2) ∧ IntKind.i64.wrap (16 - x2) < (9 : Int))
 (ob ((([.int .i64 x84, .int .i64 x85, .int .i64 x86, .int .i64 x87, .int .i64 x88, .int .i64 x89, .int .i64 x90, .int .i64 x91, .int .i64 x92, .int .i64 x93, .int .i64 x94, .int .i64 x95, .int .i64 x96, .int .i64 x97, .int .i64 x98, .int .i64 x99, .int .i64 x100, .int .i64 x101, .int .i64 x102, .int .i64 x103, .int .i64 x104, .int .i64 x105, .int .i64 x106, .int .i64 x107, .int .i64 x108, .int .i64 x109, .int .i64 x110, .int .i64 x111, .int .i64 x112, .int .i64 x113, .int .i64 x114, .int .i64 x115, .int .i64 x116, .int .i64 x117, .int .i64 x118, .int .i64 x119, .int .i64 x120, .int .i64 x121, .int .i64 x122, .int .i64 x123, .int .i64 x124, .int .i64 x125, .int .i64 x126, .int .i64 x127, .int .i64 x128, .int .i64 x129, .int .i64 x130, .int .i64 x131, .int .i64 x132, .int .i64 x133, .int .i64 x134, .int .i64 x135, .int .i64 x136, .int .i64 x137, .int .i64 x138, .int .i64 x139, .int .i64 x140, .int .i64 x141, .int .i64 x142, .int .i64 x143, .int .i64 x144, .int .i64 x145, .int .i64 x146, .int .i64 x147, .int .i64 x148, .int .i64 x149, .int .i64 x150, .int .i64 x151, .int .i64 x152, .int .i64 x153, .int .i64 x154, .int .i64 x155] : List Value)[0 + ((IntKind.i64.wrap (16 - x2)).toNat * 8) + 0]?).bind (Value.int? .i64)) fun x164 =>
 ob ((([.int .i64 x84, .int .i64 x85, .int .i64 x86, .int .i64 x87, .int .i64 x88, .int .i64 x89, .int .i64 x90, .int .i64 x91, .int .i64 x92, .int .i64 x93, .int .i64 x94, .int .i64 x95, .int .i64 x96, .int .i64 x97, .int .i64 x98, .int .i64 x99, .int .i64 x100, .int .i64 x101, .int .i64 x102, .int .i64 x103, .int .i64 x104, .int .i64 x105, .int .i64 x106, .int .i64 x107, .int .i64 x108, .int .i64 x109, .int .i64 x110, .int .i64 x111, .int .i64 x112, .int .i64 x113, .int .i64 x114, .int .i64 x115, .int .i64 x116, .int .i64 x117, .int .i64 x118, .int .i64 x119, .int .i64 x120, .int .i64 x121, .int .i64 x122, .int .i64 x123, .int .i64 x124, .int .i64 x125, .int .i64 x126, .int .i64 x127, .int .i64 x128, .int .i64 x129, .int .i64 x130, .int .i64 x131, .int .i64 x132, .int .i64 x133, .int .i64 x134, .int .i64 x135, .int .i64 x136, .int .i64 x137, .int .i64 x138, .int .i64 x139, .int .i64 x140, .int .i64 x141, .int .i64 x142, .int .i64 x143, .int .i64 x144, .int .i64 x145, .int .i64 x146, .int .i64 x147, .int .i64 x148, .int .i64 x149, .int .i64 x150, .int .i64 x151, .int .i64 x152, .int .i64 x153, .int .i64 x154, .int .i64 x155] : List Value)[0 + ((IntKind.i64.wrap (16 - x2)).toNat * 8) + 1]?).bind (Value.int? .i64)) fun x165 =>
 ob ((([.int .i64 x84, .int .i64 x85, .int .i64 x86, .int .i64 x87, .int .i64 x88, .int .i64 x89, .int .i64 x90, .int .i64 x91, .int .i64 x92, .int .i64 x93, .int .i64 x94, .int .i64 x95, .int .i64 x96, .int .i64 x97, .int .i64 x98, .int .i64 x99, .int .i64 x100, .int .i64 x101, .int .i64 x102, .int .i64 x103, .int .i64 x104, .int .i64 x105, .int .i64 x106, .int .i64 x107, .int .i64 x108, .int .i64 x109, .int .i64 x110, .int .i64 x111, .int .i64 x112, .int .i64 x113, .int .i64 x114, .int .i64 x115, .int .i64 x116, .int .i64 x117, .int .i64 x118, .int .i64 x119, .int .i64 x120, .int .i64 x121, .int .i64 x122, .int .i64 x123, .int .i64 x124, .int .i64 x125, .int .i64 x126, .int .i64 x127, .int .i64 x128, .int .i64 x129, .int .i64 x130, .int .i64 x131, .int .i64 x132, .int .i64 x133, .int .i64 x134, .int .i64 x135, .int .i64 x136, .int .i64 x137, .int .i64 x138, .int .i64 x139, .int .i64 x140, .int .i64 x141, .int .i64 x142, .int .i64 x143, .int .i64 x144, .int .i64 x145, .int .i64 x146, .int .i64 x147, .int .i64 x148, .int .i64 x149, .int .i64 x150, .int .i64 x151, .int .i64 x152, .int .i64 x153, .int .i64 x154, .int .i64 x155] : List Value)[0 + ((IntKind.i64.wrap (16 - x2)).toNat * 8) + 2]?).bind (Value.int? .i64)) fun x166 =>
 ob ((([.int .i64 x84, .int .i64 x85, .int .i64 x86, .int .i64 x87, .int .i64 x88, .int .i64 x89, .int .i64 x90, .int .i64 x91, .int .i64 x92, .int .i64 x93, .int .i64 x94, .int .i64 x95, .int .i64 x96, .int .i64 x97, .int .i64 x98, .int .i64 x99, .int .i64 x100, .int .i64 x101, .int .i64 x102, .int .i64 x103, .int .i64 x104, .int .i64 x105, .int .i64 x106, .int .i64 x107, .int .i64 x108, .int .i64 x109, .int .i64 x110, .int .i64 x111, .int .i64 x112, .int .i64 x113, .int .i64 x114, .int .i64 x115, .int .i64 x116, .int .i64 x117, .int .i64 x118, .int .i64 x119, .int .i64 x120, .int .i64 x121, .int .i64 x122, .int .i64 x123, .int .i64 x124, .int .i64 x125, .int .i64 x126, .int .i64 x127, .int .i64 x128, .int .i64 x129, .int .i64 x130, .int .i64 x131, .int .i64 x132, .int .i64 x133, .int .i64 x134, .int .i64 x135, .int .i64 x136, .int .i64 x137, .int .i64 x138, .int .i64 x139, .int .i64 x140, .int .i64 x141, .int .i64 x142, .int .i64 x143, .int .i64 x144, .int .i64 x145, .int .i64 x146, .int .i64 x147, .int .i64 x148, .int .i64 x149, .int .i64 x150, .int .i64 x151, .int .i64 x152, .int .i64 x153, .int .i64 x154, .int .i64 x155] : List Value)[0 + ((IntKind.i64.wrap (16 - x2)).toNat * 8) + 3]?).bind (Value.int? .i64)) fun x167 =>
 ob ((([.int .i64 x84, .int .i64 x85, .int .i64 x86, .int .i64 x87, .int .i64 x88, .int .i64 x89, .int .i64 x90, .int .i64 x91, .int .i64 x92, .int .i64 x93, .int .i64 x94, .int .i64 x95, .int .i64 x96, .int .i64 x97, .int .i64 x98, .int .i64 x99, .int .i64 x100, .int .i64 x101, .int .i64 x102, .int .i64 x103, .int .i64 x104, .int .i64 x105, .int .i64 x106, .int .i64 x107, .int .i64 x108, .int .i64 x109, .int .i64 x110, .int .i64 x111, .int .i64 x112, .int .i64 x113, .int .i64 x114, .int .i64 x115, .int .i64 x116, .int .i64 x117, .int .i64 x118, .int .i64 x119, .int .i64 x120, .int .i64 x121, .int .i64 x122, .int .i64 x123, .int .i64 x124, .int .i64 x125, .int .i64 x126, .int .i64 x127, .int .i64 x128, .int .i64 x129, .int .i64 x130, .int .i64 x131, .int .i64 x132, .int .i64 x133, .int .i64 x134, .int .i64 x135, .int .i64 x136, .int .i64 x137, .int .i64 x138, .int .i64 x139, .int .i64 x140, .int .i64 x141, .int .i64 x142, .int .i64 x143, .int .i64 x144, .int .i64 x145, .int .i64 x146, .int .i64 x147, .int .i64 x148, .int .i64 x149, .int .i64 x150, .int .i64 x151, .int .i64 x152, .int .i64 x153, .int .i64 x154, .int .i64 x155] : List Value)[0 + ((IntKind.i64.wrap (16 - x2)).toNat * 8) + 4]?).bind (Value.int? .i64)) fun x168 =>
 ob ((([.int .i64 x84, .int .i64 x85, .int .i64 x86, .int .i64 x87, .int .i64 x88, .int .i64 x89, .int .i64 x90, .int .i64 x91, .int .i64 x92, .int .i64 x93, .int .i64 x94, .int .i64 x95, .int .i64 x96, .int .i64 x97, .int .i64 x98, .int .i64 x99, .int .i64 x100, .int .i64 x101, .int .i64 x102, .int .i64 x103, .int .i64 x104, .int .i64 x105, .int .i64 x106, .int .i64 x107, .int .i64 x108, .int .i64 x109, .int .i64 x110, .int .i64 x111, .int .i64 x112, .int .i64 x113, .int .i64 x114, .int .i64 x115, .int .i64 x116, .int .i64 x117, .int .i64 x118, .int .i64 x119, .int .i64 x120, .int .i64 x121, .int .i64 x122, .int .i64 x123, .int .i64 x124, .int .i64 x125, .int .i64 x126, .int .i64 x127, .int .i64 x128, .int .i64 x129, .int .i64 x130, .int .i64 x131, .int .i64 x132, .int .i64 x133, .int .i64 x134, .int .i64 x135, .int .i64 x136, .int .i64 x137, .int .i64 x138, .int .i64 x139, .int .i64 x140, .int .i64 x141, .int .i64 x142, .int .i64 x143, .int .i64 x144, .int .i64 x145, .int .i64 x146, .int .i64 x147, .int .i64 x148, .int .i64 x149, .int .i64 x150, .int .i64 x151, .int .i64 x152, .int .i64 x153, .int .i64 x154, .int .i64 x155] : List Value)[0 + ((IntKind.i64.wrap (16 - x2)).toNat * 8) + 5]?).bind (Value.int? .i64)) fun x169 =>
 ob ((([.int .i64 x84, .int .i64 x85, .int .i64 x86, .int .i64 x87, .int .i64 x88, .int .i64 x89, .int .i64 x90, .int .i64 x91, .int .i64 x92, .int .i64 x93, .int .i64 x94, .int .i64 x95, .int .i64 x96, .int .i64 x97, .int .i64 x98, .int .i64 x99, .int .i64 x100, .int .i64 x101, .int .i64 x102, .int .i64 x103, .int .i64 x104, .int .i64 x105, .int .i64 x106, .int .i64 x107, .int .i64 x108, .int .i64 x109, .int .i64 x110, .int .i64 x111, .int .i64 x112, .int .i64 x113, .int .i64 x114, .int .i64 x115, .int .i64 x116, .int .i64 x117, .int .i64 x118, .int .i64 x119, .int .i64 x120, .int .i64 x121, .int .i64 x122, .int .i64 x123, .int .i64 x124, .int .i64 x125, .int .i64 x126, .int .i64 x127, .int .i64 x128, .int .i64 x129, .int .i64 x130, .int .i64 x131, .int .i64 x132, .int .i64 x133, .int .i64 x134, .int .i64 x135, .int .i64 x136, .int .i64 x137, .int .i64 x138, .int .i64 x139, .int .i64 x140, .int .i64 x141, .int .i64 x142, .int .i64 x143, .int .i64 x144, .int .i64 x145, .int .i64 x146, .int .i64 x147, .int .i64 x148, .int .i64 x149, .int .i64 x150, .int .i64 x151, .int .i64 x152, .int .i64 x153, .int .i64 x154, .int .i64 x155] : List Value)[0 + ((IntKind.i64.wrap (16 - x2)).toNat * 8) + 6]?).bind (Value.int? .i64)) fun x170 =>
 ob ((([.int .i64 x84, .int .i64 x85, .int .i64 x86, .int .i64 x87, .int .i64 x88, .int .i64 x89, .int .i64 x90, .int .i64 x91, .int .i64 x92, .int .i64 x93, .int .i64 x94, .int .i64 x95, .int .i64 x96, .int .i64 x97, .int .i64 x98, .int .i64 x99, .int .i64 x100, .int .i64 x101, .int .i64 x102, .int .i64 x103, .int .i64 x104, .int .i64 x105, .int .i64 x106, .int .i64 x107, .int .i64 x108, .int .i64 x109, .int .i64 x110, .int .i64 x111, .int .i64 x112, .int .i64 x113, .int .i64 x114, .int .i64 x115, .int .i64 x116, .int .i64 x117, .int .i64 x118, .int .i64 x119, .int .i64 x120, .int .i64 x121, .int .i64 x122, .int .i64 x123, .int .i64 x124, .int .i64 x125, .int .i64 x126, .int .i64 x127, .int .i64 x128, .int .i64 x129, .int .i64 x130, .int .i64 x131, .int .i64 x132, .int .i64 x133, .int .i64 x134, .int .i64 x135, .int .i64 x136, .int .i64 x137, .int .i64 x138, .int .i64 x139, .int .i64 x140, .int .i64 x141, .int .i64 x142, .int .i64 x143, .int .i64 x144, .int .i64 x145, .int .i64 x146, .int .i64 x147, .int .i64 x148, .int .i64 x149, .int .i64 x150, .int .i64 x151, .int .i64 x152, .int .i64 x153, .int .i64 x154, .int .i64 x155] : List Value)[0 + ((IntKind.i64.wrap (16 - x2)).toNat * 8) + 7]?).bind (Value.int? .i64)) fun x171 =>
 ob ((r82.2 ++ [⟨.fx, [.int .i64 0, .int .i64 0, .int .i64 0, .int .i64 0, .int .i64 0, .int .i64 0, .int .i64 0, .int .i64 0]⟩] : Mem).st lo ⟨r82.2.length, 0, none⟩ [.int .i64 x164, .int .i64 x165, .int .i64 x166, .int .i64 x167, .int .i64 x168, .int .i64 x169, .int .i64 x170, .int .i64 x171]) fun M172 =>
 pb ((none : Option Nat) = none)
 (pb (0 ≤ (0 : Int) ∧ (0 : Int) ≤ (8 : Int))
 (ob (acall P T k lo F.slices_Reverse__int_int [.slice (slAddr 1 (some ⟨r82.2.length, 0, none⟩) 0 8) 8 8] M172) fun r173 =>
 ob (r173.1.tup? 0) fun l174 =>
 ob ((r173.2.ld ⟨r82.2.length, 0, none⟩).bind (Value.int? .i64)) fun x175 =>
 ob ((r173.2.ld (plus ⟨r82.2.length, 0, none⟩ 1)).bind (Value.int? .i64)) fun x176 =>
 ob ((r173.2.ld (plus ⟨r82.2.length, 0, none⟩ 2)).bind (Value.int? .i64)) fun x177 =>
 ob ((r173.2.ld (plus ⟨r82.2.length, 0, none⟩ 3)).bind (Value.int? .i64)) fun x178 =>
 ob ((r173.2.ld (plus ⟨r82.2.length, 0, none⟩ 4)).bind (Value.int? .i64)) fun x179 =>
 ob ((r173.2.ld (plus ⟨r82.2.length, 0, none⟩ 5)).bind (Value.int? .i64)) fun x180 =>
 ob ((r173.2.ld (plus ⟨r82.2.length, 0, none⟩ 6)).bind (Value.int? .i64)) fun x181 =>
 ob ((r173.2.ld (plus ⟨r82.2.length, 0, none⟩ 7)).bind (Value.int? .i64)) fun x182 =>
 some (.ret (.tuple ⟨[.agg ⟨[.int .i64 x175, .int .i64 x176, .int .i64 x177, .int .i64 x178, .int .i64 x179, .int .i64 x180, .int .i64 x181, .int .i64 x182]⟩, .int .i64 0]⟩) r173.2)) none) none) none))
 (bb (x1 == 1)
 (bb (decide (x2 < 9))
 (pb (0 ≤ x2 ∧ x2 < (9 : Int))
 (ob ((([.int .i64 x10, .int .i64 x11, .int .i64 x12, .int .i64 x13, .int .i64 x14, .int .i64 x15, .int .i64 x16, .int .i64 x17, .int .i64 x18, .int .i64 x19, .int .i64 x20, .int .i64 x21, .int .i64 x22, .int .i64 x23, .int .i64 x24, .int .i64 x25, .int .i64 x26, .int .i64 x27, .int .i64 x28, .int .i64 x29, .int .i64 x30, .int .i64 x31, .int .i64 x32, .int .i64 x33, .int .i64 x34, .int .i64 x35, .int .i64 x36, .int .i64 x37, .int .i64 x38, .int .i64 x39, .int .i64 x40, .int .i64 x41, .int .i64 x42, .int .i64 x43, .int .i64 x44, .int .i64 x45, .int .i64 x46, .int .i64 x47, .int .i64 x48, .int .i64 x49, .int .i64 x50, .int .i64 x51, .int .i64 x52, .int .i64 x53, .int .i64 x54, .int .i64 x55, .int .i64 x56, .int .i64 x57, .int .i64 x58, .int .i64 x59, .int .i64 x60, .int .i64 x61, .int .i64 x62, .int .i64 x63, .int .i64 x64, .int .i64 x65, .int .i64 x66, .int .i64 x67, .int .i64 x68, .int .i64 x69, .int .i64 x70, .int .i64 x71, .int .i64 x72, .int .i64 x73, .int .i64 x74, .int .i64 x75, .int .i64 x76, .int .i64 x77, .int .i64 x78, .int .i64 x79, .int .i64 x80, .int .i64 x81] : List Value)[0 + (x2.toNat * 8) + 0]?).bind (Value.int? .i64)) fun x183 =>
 ob ((([.int .i64 x10, .int .i64 x11, .int .i64 x12, .int .i64 x13, .int .i64 x14, .int .i64 x15, .int .i64 x16, .int .i64 x17, .int .i64 x18, .int .i64 x19, .int .i64 x20, .int .i64 x21, .int .i64 x22, .int .i64 x23, .int .i64 x24, .int .i64 x25, .int .i64 x26, .int .i64 x27, .int .i64 x28, .int .i64 x29, .int .i64 x30, .int .i64 x31, .int .i64 x32, .int .i64 x33, .int .i64 x34, .int .i64 x35, .int .i64 x36, .int .i64 x37, .int .i64 x38, .int .i64 x39, .int .i64 x40, .int .i64 x41, .int .i64 x42, .int .i64 x43, .int .i64 x44, .int .i64 x45, .int .i64 x46, .int .i64 x47, .int .i64 x48, .int .i64 x49, .int .i64 x50, .int .i64 x51, .int .i64 x52, .int .i64 x53, .int .i64 x54, .int .i64 x55, .int .i64 x56, .int .i64 x57, .int .i64 x58, .int .i64 x59, .int .i64 x60, .int .i64 x61, .int .i64 x62, .int .i64 x63, .int .i64 x64, .int .i64 x65, .int .i64 x66, .int .i64 x67, .int .i64 x68, .int .i64 x69, .int .i64 x70, .int .i64 x71, .int .i64 x72, .int .i64 x73, .int .i64 x74, .int .i64 x75, .int .i64 x76, .int .i64 x77, .int .i64 x78, .int .i64 x79, .int .i64 x80, .int .i64 x81] : List Value)[0 + (x2.toNat * 8) + 1]?).bind (Value.int? .i64)) fun x184 =>
 ob ((([.int .i64 x10, .int .i64 x11, .int .i64 x12, .int .i64 x13, .int .i64 x14, .int .i64 x15, .int .i64 x16, .int .i64 x17, .int .i64 x18, .int .i64 x19, .int .i64 x20, .int .i64 x21, .int .i64 x22, .int .i64 x23, .int .i64 x24, .int .i64 x25, .int .i64 x26, .int .i64 x27, .int .i64 x28, .int .i64 x29, .int .i64 x30, .int .i64 x31, .int .i64 x32, .int .i64 x33, .int .i64 x34, .int .i64 x35, .int .i64 x36, .int .i64 x37, .int .i64 x38, .int .i64 x39, .int .i64 x40, .int .i64 x41, .int .i64 x42, .int .i64 x43, .int .i64 x44, .int .i64 x45, .int .i64 x46, .int .i64 x47, .int .i64 x48, .int .i64 x49, .int .i64 x50, .int .i64 x51, .int .i64 x52, .int .i64 x53, .int .i64 x54, .int .i64 x55, .int .i64 x56, .int .i64 x57, .int .i64 x58, .int .i64 x59, .int .i64 x60, .int .i64 x61, .int .i64 x62, .int .i64 x63, .int .i64 x64, .int .i64 x65, .int .i64 x66, .int .i64 x67, .int .i64 x68, .int .i64 x69, .int .i64 x70, .int .i64 x71, .int .i64 x72, .int .i64 x73, .int .i64 x74, .int .i64 x75, .int .i64 x76, .int .i64 x77, .int .i64 x78, .int .i64 x79, .int .i64 x80, .int .i64 x81] : List Value)[0 + (x2.toNat * 8) + 2]?).bind (Value.int? .i64)) fun x185 =>
 ob ((([.int .i64 x10, .int .i64 x11, .int .i64 x12, .int .i64 x13, .int .i64 x14, .int .i64 x15, .int .i64 x16, .int .i64 x17, .int .i64 x18, .int .i64 x19, .int .i64 x20, .int .i64 x21, .int .i64 x22, .int .i64 x23, .int .i64 x24, .int .i64 x25, .int .i64 x26, .int .i64 x27, .int .i64 x28, .int .i64 x29, .int .i64 x30, .int .i64 x31, .int .i64 x32, .int .i64 x33, .int .i64 x34, .int .i64 x35, .int .i64 x36, .int .i64 x37, .int .i64 x38, .int .i64 x39, .int .i64 x40, .int .i64 x41, .int .i64 x42, .int .i64 x43, .int .i64 x44, .int .i64 x45, .int .i64 x46, .int .i64 x47, .int .i64 x48, .int .i64 x49, .int .i64 x50, .int .i64 x51, .int .i64 x52, .int .i64 x53, .int .i64 x54, .int .i64 x55, .int .i64 x56, .int .i64 x57, .int .i64 x58, .int .i64 x59, .int .i64 x60, .int .i64 x61, .int .i64 x62, .int .i64 x63, .int .i64 x64, .int .i64 x65, .int .i64 x66, .int .i64 x67, .int .i64 x68, .int .i64 x69, .int .i64 x70, .int .i64 x71, .int .i64 x72, .int .i64 x73, .int .i64 x74, .int .i64 x75, .int .i64 x76, .int .i64 x77, .int .i64 x78, .int .i64 x79, .int .i64 x80, .int .i64 x81] : List Value)[0 + (x2.toNat * 8) + 3]?).bind (Value.int? .i64)) fun x186 =>
 ob ((([.int .i64 x10, .int .i64 x11, .int .i64 x12, .int .i64 x13, .int .i64 x14, .int .i64 x15, .int .i64 x16, .int .i64 x17, .int .i64 x18, .int .i64 x19, .int .i64 x20, .int .i64 x21, .int .i64 x22, .int .i64 x23, .int .i64 x24, .int .i64 x25, .int .i64 x26, .int .i64 x27, .int .i64 x28, .int .i64 x29, .int .i64 x30, .int .i64 x31, .int .i64 x32, .int .i64 x33, .int .i64 x34, .int .i64 x35, .int .i64 x36, .int .i64 x37, .int .i64 x38, .int .i64 x39, .int .i64 x40, .int .i64 x41, .int .i64 x42, .int .i64 x43, .int .i64 x44, .int .i64 x45, .int .i64 x46, .int .i64 x47, .int .i64 x48, .int .i64 x49, .int .i64 x50, .int .i64 x51, .int .i64 x52, .int .i64 x53, .int .i64 x54, .int .i64 x55, .int .i64 x56, .int .i64 x57, .int .i64 x58, .int .i64 x59, .int .i64 x60, .int .i64 x61, .int .i64 x62, .int .i64 x63, .int .i64 x64, .int .i64 x65, .int .i64 x66, .int .i64 x67, .int .i64 x68, .int .i64 x69, .int .i64 x70, .int .i64 x71, .int .i64 x72, .int .i64 x73, .int .i64 x74, .int .i64 x75, .int .i64 x76, .int .i64 x77, .int .i64 x78, .int .i64 x79, .int .i64 x80, .int .i64 x81] : List Value)[0 + (x2.toNat * 8) + 4]?).bind (Value.int? .i64)) fun x187 =>
 ob ((([.int .i64 x10, .int .i64 x11, .int .i64 x12, .int .i64 x13, .int .i64 x14, .int .i64 x15, .int .i64 x16, .int .i64 x17, .int .i64 x18, .int .i64 x19, .int .i64 x20, .int .i64 x21, .int .i64 x22, .int .i64 x23, .int .i64 x24, .int .i64 x25, .int .i64 x26, .int .i64 x27, .int .i64 x28, .int .i64 x29, .int .i64 x30, .int .i64 x31, .int .i64 x32, .int .i64 x33, .int .i64 x34, .int .i64 x35, .int .i64 x36, .int .i64 x37, .int .i64 x38, .int .i64 x39, .int .i64 x40, .int .i64 x41, .int .i64 x42, .int .i64 x43, .int .i64 x44, .int .i64 x45, .int .i64 x46, .int .i64 x47, .int .i64 x48, .int .i64 x49, .int .i64 x50, .int .i64 x51, .int .i64 x52, .int .i64 x53, .int .i64 x54, .int .i64 x55, .int .i64 x56, .int .i64 x57, .int .i64 x58, .int .i64 x59, .int .i64 x60, .int .i64 x61, .int .i64 x62, .int .i64 x63, .int .i64 x64, .int .i64 x65, .int .i64 x66, .int .i64 x67, .int .i64 x68, .int .i64 x69, .int .i64 x70, .int .i64 x71, .int .i64 x72, .int .i64 x73, .int .i64 x74, .int .i64 x75, .int .i64 x76, .int .i64 x77, .int .i64 x78, .int .i64 x79, .int .i64 x80, .int .i64 x81] : List Value)[0 + (x2.toNat * 8) + 5]?).bind (Value.int? .i64)) fun x188 =>
 ob ((([.int .i64 x10, .int .i64 x11, .int .i64 x12, .int .i64 x13, .int .i64 x14, .int .i64 x15, .int .i64 x16, .int .i64 x17, .int .i64 x18, .int .i64 x19, .int .i64 x20, .int .i64 x21, .int .i64 x22, .int .i64 x23, .int .i64 x24, .int .i64 x25, .int .i64 x26, .int .i64 x27, .int .i64 x28, .int .i64 x29, .int .i64 x30, .int .i64 x31, .int .i64 x32, .int .i64 x33, .int .i64 x34, .int .i64 x35, .int .i64 x36, .int .i64 x37, .int .i64 x38, .int .i64 x39, .int .i64 x40, .int .i64 x41, .int .i64 x42, .int .i64 x43, .int .i64 x44, .int .i64 x45, .int .i64 x46, .int .i64 x47, .int .i64 x48, .int .i64 x49, .int .i64 x50, .int .i64 x51, .int .i64 x52, .int .i64 x53, .int .i64 x54, .int .i64 x55, .int .i64 x56, .int .i64 x57, .int .i64 x58, .int .i64 x59, .int .i64 x60, .int .i64 x61, .int .i64 x62, .int .i64 x63, .int .i64 x64, .int .i64 x65, .int .i64 x66, .int .i64 x67, .int .i64 x68, .int .i64 x69, .int .i64 x70, .int .i64 x71, .int .i64 x72, .int .i64 x73, .int .i64 x74, .int .i64 x75, .int .i64 x76, .int .i64 x77, .int .i64 x78, .int .i64 x79, .int .i64 x80, .int .i64 x81] : List Value)[0 + (x2.toNat * 8) + 6]?).bind (Value.int? .i64)) fun x189 =>
 ob ((([.int .i64 x10, .int .i64 x11, .int .i64 x12, .int .i64 x13, .int .i64 x14, .int .i64 x15, .int .i64 x16, .int .i64 x17, .int .i64 x18, .int .i64 x19, .int .i64 x20, .int .i64 x21, .int .i64 x22, .int .i64 x23, .int .i64 x24, .int .i64 x25, .int .i64 x26, .int .i64 x27, .int .i64 x28, .int .i64 x29, .int .i64 x30, .int .i64 x31, .int .i64 x32, .int .i64 x33, .int .i64 x34, .int .i64 x35, .int .i64 x36, .int .i64 x37, .int .i64 x38, .int .i64 x39, .int .i64 x40, .int .i64 x41, .int .i64 x42, .int .i64 x43, .int .i64 x44, .int .i64 x45, .int .i64 x46, .int .i64 x47, .int .i64 x48, .int .i64 x49, .int .i64 x50, .int .i64 x51, .int .i64 x52, .int .i64 x53, .int .i64 x54, .int .i64 x55, .int .i64 x56, .int .i64 x57, .int .i64 x58, .int .i64 x59, .int .i64 x60, .int .i64 x61, .int .i64 x62, .int .i64 x63, .int .i64 x64, .int .i64 x65, .int .i64 x66, .int .i64 x67, .int .i64 x68, .int .i64 x69, .int .i64 x70, .int .i64 x71, .int .i64 x72, .int .i64 x73, .int .i64 x74, .int .i64 x75, .int .i64 x76, .int .i64 x77, .int .i64 x78, .int .i64 x79, .int .i64 x80, .int .i64 x81] : List Value)[0 + (x2.toNat * 8) + 7]?).bind (Value.int? .i64)) fun x190 =>
 some (.ret (.tuple ⟨[.agg ⟨[.int .i64 x183, .int .i64 x184, .int .i64 x185, .int .i64 x186, .int .i64 x187, .int .i64 x188, .int .i64 x189, .int .i64 x190]⟩, .int .i64 0]⟩) r8.2)) none)
 (pb (0 ≤ IntKind.i64.wrap (16 - x2) ∧ IntKind.i64.wrap (16 - x2) < (9 : Int))
 (ob ((([.int .i64 x10, .int .i64 x11, .int .i64 x12, .int .i64 x13, .int .i64 x14, .int .i64 x15, .int .i64 x16, .int .i64 x17, .int .i64 x18, .int .i64 x19, .int .i64 x20, .int .i64 x21, .int .i64 x22, .int .i64 x23, .int .i64 x24, .int .i64 x25, .int .i64 x26, .int .i64 x27, .int .i64 x28, .int .i64 x29, .int .i64 x30, .int .i64 x31, .int .i64 x32, .int .i64 x33, .int .i64 x34, .int .i64 x35, .int .i64 x36, .int .i64 x37, .int .i64 x38, .int .i64 x39, .int .i64 x40, .int .i64 x41, .int .i64 x42, .int .i64 x43, .int .i64 x44, .int .i64 x45, .int .i64 x46, .int .i64 x47, .int .i64 x48, .int .i64 x49, .int .i64 x50, .int .i64 x51, .int .i64 x52, .int .i64 x53, .int .i64 x54, .int .i64 x55, .int .i64 x56, .int .i64 x57, .int .i64 x58, .int .i64 x59, .int .i64 x60, .int .i64 x61, .int .i64 x62, .int .i64 x63, .int .i64 x64, .int .i64 x65, .int .i64 x66, .int .i64 x67, .int .i64 x68, .int .i64 x69, .int .i64 x70, .int .i64 x71, .int .i64 x72, .int .i64 x73, .int .i64 x74, .int .i64 x75, .int .i64 x76, .int .i64 x77, .int .i64 x78, .int .i64 x79, .int .i64 x80, .int .i64 x81] : List Value)[0 + ((IntKind.i64.wrap (16 - x2)).toNat * 8) + 0]?).bind (Value.int? .i64)) fun x191 =>
 ob ((([.int .i64 x10, .int .i64 x11, .int .i64 x12, .int .i64 x13, .int .i64 x14, .int .i64 x15, .int .i64 x16, .int .i64 x17, .int .i64 x18, .int .i64 x19, .int .i64 x20, .int .i64 x21, .int .i64 x22, .int .i64 x23, .int .i64 x24, .int .i64 x25, .int .i64 x26, .int .i64 x27, .int .i64 x28, .int .i64 x29, .int .i64 x30, .int .i64 x31, .int .i64 x32, .int .i64 x33, .int .i64 x34, .int .i64 x35, .int .i64 x36, .int .i64 x37, .int .i64 x38, .int .i64 x39, .int .i64 x40, .int .i64 x41, .int .i64 x42, .int .i64 x43, .int .i64 x44, .int .i64 x45, .int .i64 x46, .int .i64 x47, .int .i64 x48, .int .i64 x49, .int .i64 x50, .int .i64 x51, .int .i64 x52, .int .i64 x53, .int .i64 x54, .int .i64 x55, .int .i64 x56, .int .i64 x57, .int .i64 x58, .int .i64 x59, .int .i64 x60, .int .i64 x61, .int .i64 x62, .int .i64 x63, .int .i64 x64, .int .i64 x65, .int .i64 x66, .int .i64 x67, .int .i64 x68, .int .i64 x69, .int .i64 x70, .int .i64 x71, .int .i64 x72, .int .i64 x73, .int .i64 x74, .int .i64 x75, .int .i64 x76, .int .i64 x77, .int .i64 x78, .int .i64 x79, .int .i64 x80, .int .i64 x81] : List Value)[0 + ((IntKind.i64.wrap (16 - x2)).toNat * 8) + 1]?).bind (Value.int? .i64)) fun x192 =>
 ob ((([.int .i64 x10, .int .i64 x11, .int .i64 x12, .int .i64 x13, .int .i64 x14, .int .i64 x15, .int .i64 x16, .int .i64 x17, .int .i64 x18, .int .i64 x19, .int .i64 x20, .int .i64 x21, .int .i64 x22, .int .i64 x23, .int .i64 x24, .int .i64 x25, .int .i64 x26, .int .i64 x27, .int .i64 x28, .int .i64 x29, .int .i64 x30, .int .i64 x31, .int .i64 x32, .int .i64 x33, .int .i64 x34, .int .i64 x35, .int .i64 x36, .int .i64 x37, .int .i64 x38, .int .i64 x39, .int .i64 x40, .int .i64 x41, .int .i64 x42, .int .i64 x43, .int .i64 x44, .int .i64 x45, .int .i64 x46, .int .i64 x47, .int .i64 x48, .int .i64 x49, .int .i64 x50, .int .i64 x51, .int .i64 x52, .int .i64 x53, .int .i64 x54, .int .i64 x55, .int .i64 x56, .int .i64 x57, .int .i64 x58, .int .i64 x59, .int .i64 x60, .int .i64 x61, .int .i64 x62, .int .i64 x63, .int .i64 x64, .int .i64 x65, .int .i64 x66, .int .i64 x67, .int .i64 x68, .int .i64 x69, .int .i64 x70, .int .i64 x71, .int .i64 x72, .int .i64 x73, .int .i64 x74, .int .i64 x75, .int .i64 x76, .int .i64 x77, .int .i64 x78, .int .i64 x79, .int .i64 x80, .int .i64 x81] : List Value)[0 + ((IntKind.i64.wrap (16 - x2)).toNat * 8) + 2]?).bind (Value.int? .i64)) fun x193 =>
 ob ((([.int .i64 x10, .int .i64 x11, .int .i64 x12, .int .i64 x13, .int .i64 x14, .int .i64 x15, .int .i64 x16, .int .i64 x17, .int .i64 x18, .int .i64 x19, .int .i64 x20, .int .i64 x21, .int .i64 x22, .int .i64 x23, .int .i64 x24, .int .i64 x25, .int .i64 x26, .int .i64 x27, .int .i64 x28, .int .i64 x29, .int .i64 x30, .int .i64 x31, .int .i64 x32, .int .i64 x33, .int .i64 x34, .int .i64 x35, .int .i64 x36, .int .i64 x37, .int .i64 x38, .int .i64 x39, .int .i64 x40, .int .i64 x41, .int .i64 x42, .int .i64 x43, .int .i64 x44, .int .i64 x45, .int .i64 x46, .int .i64 x47, .int .i64 x48, .int .i64 x49, .int .i64 x50, .int .i64 x51, .int .i64 x52, .int .i64 x53, .int .i64 x54, .int .i64 x55, .int .i64 x56, .int .i64 x57, .int .i64 x58, .int .i64 x59, .int .i64 x60, .int .i64 x61, .int .i64 x62, .int .i64 x63, .int .i64 x64, .int .i64 x65, .int .i64 x66, .int .i64 x67, .int .i64 x68, .int .i64 x69, .int .i64 x70, .int .i64 x71, .int .i64 x72, .int .i64 x73, .int .i64 x74, .int .i64 x75, .int .i64 x76, .int .i64 x77, .int .i64 x78, .int .i64 x79, .int .i64 x80, .int .i64 x81] : List Value)[0 + ((IntKind.i64.wrap (16 - x2)).toNat * 8) + 3]?).bind (Value.int? .i64)) fun x194 =>
 ob ((([.int .i64 x10, .int .i64 x11, .int .i64 x12, .int .i64 x13, .int .i64 x14, .int .i64 x15, .int .i64 x16, .int .i64 x17, .int .i64 x18, .int .i64 x19, .int .i64 x20, .int .i64 x21, .int .i64 x22, .int .i64 x23, .int .i64 x24, .int .i64 x25, .int .i64 x26, .int .i64 x27, .int .i64 x28, .int .i64 x29, .int .i64 x30, .int .i64 x31, .int .i64 x32, .int .i64 x33, .int .i64 x34, .int .i64 x35, .int .i64 x36, .int .i64 x37, .int .i64 x38, .int .i64 x39, .int .i64 x40, .int .i64 x41, .int .i64 x42, .int .i64 x43, .int .i64 x44, .int .i64 x45, .int .i64 x46, .int .i64 x47, .int .i64 x48, .int .i64 x49, .int .i64 x50, .int .i64 x51, .int .i64 x52, .int .i64 x53, .int .i64 x54, .int .i64 x55, .int .i64 x56, .int .i64 x57, .int .i64 x58, .int .i64 x59, .int .i64 x60, .int .i64 x61, .int .i64 x62, .int .i64 x63, .int .i64 x64, .int .i64 x65, .int .i64 x66, .int .i64 x67, .int .i64 x68, .int .i64 x69, .int .i64 x70, .int .i64 x71, .int .i64 x72, .int .i64 x73, .int .i64 x74, .int .i64 x75, .int .i64 x76, .int .i64 x77, .int .i64 x78, .int .i64 x79, .int .i64 x80, .int .i64 x81] : List Value)[0 + ((IntKind.i64.wrap (16 - x2)).toNat * 8) + 4]?).bind (Value.int? .i64)) fun x195 =>
 ob ((([.int .i64 x10, .int .i64 x11, .int .i64 x12, .int .i64 x13, .int .i64 x14, .int .i64 x15, .int .i64 x16, .int .i64 x17, .int .i64 x18, .int .i64 x19, .int .i64 x20, .int .i64 x21, .int .i64 x22, .int .i64 x23, .int .i64 x24, .int .i64 x25, .int .i64 x26, .int .i64 x27, .int .i64 x28, .int .i64 x29, .int .i64 x30, .int .i64 x31, .int .i64 x32, .int .i64 x33, .int .i64 x34, .int .i64 x35, .int .i64 x36, .int .i64 x37, .int .i64 x38, .int .i64 x39, .int .i64 x40, .int .i64 x41, .int .i64 x42, .int .i64 x43, .int .i64 x44, .int .i64 x45, .int .i64 x46, .int .i64 x47, .int .i64 x48, .int .i64 x49, .int .i64 x50, .int .i64 x51, .int .i64 x52, .int .i64 x53, .int .i64 x54, .int .i64 x55, .int .i64 x56, .int .i64 x57, .int .i64 x58, .int .i64 x59, .int .i64 x60, .int .i64 x61, .int .i64 x62, .int .i64 x63, .int .i64 x64, .int .i64 x65, .int .i64 x66, .int .i64 x67, .int .i64 x68, .int .i64 x69, .int .i64 x70, .int .i64 x71, .int .i64 x72, .int .i64 x73, .int .i64 x74, .int .i64 x75, .int .i64 x76, .int .i64 x77, .int .i64 x78, .int .i64 x79, .int .i64 x80, .int .i64 x81] : List Value)[0 + ((IntKind.i64.wrap (16 - x2)).toNat * 8) + 5]?).bind (Value.int? .i64)) fun x196 =>
 ob ((([.int .i64 x10, .int .i64 x11, .int .i64 x12, .int .i64 x13, .int .i64 x14, .int .i64 x15, .int .i64 x16, .int .i64 x17, .int .i64 x18, .int .i64 x19, .int .i64 x20, .int .i64 x21, .int .i64 x22, .int .i64 x23, .int .i64 x24, .int .i64 x25, .int .i64 x26, .int .i64 x27, .int .i64 x28, .int .i64 x29, .int .i64 x30, .int .i64 x31, .int .i64 x32, .int .i64 x33, .int .i64 x34, .int .i64 x35, .int .i64 x36, .int .i64 x37, .int .i64 x38, .int .i64 x39, .int .i64 x40, .int .i64 x41, .int .i64 x42, .int .i64 x43, .int .i64 x44, .int .i64 x45, .int .i64 x46, .int .i64 x47, .int .i64 x48, .int .i64 x49, .int .i64 x50, .int .i64 x51, .int .i64 x52, .int .i64 x53, .int .i64 x54, .int .i64 x55, .int .i64 x56, .int .i64 x57, .int .i64 x58, .int .i64 x59, .int .i64 x60, .int .i64 x61, .int .i64 x62, .int .i64 x63, .int .i64 x64, .int .i64 x65, .int .i64 x66, .int .i64 x67, .int .i64 x68, .int .i64 x69, .int .i64 x70, .int .i64 x71, .int .i64 x72, .int .i64 x73, .int .i64 x74, .int .i64 x75, .int .i64 x76, .int .i64 x77, .int .i64 x78, .int .i64 x79, .int .i64 x80, .int .i64 x81] : List Value)[0 + ((IntKind.i64.wrap (16 - x2)).toNat * 8) + 6]?).bind (Value.int? .i64)) fun x197 =>
 ob ((([.int .i64 x10, .int .i64 x11, .int .i64 x12, .int .i64 x13, .int .i64 x14, .int .i64 x15, .int .i64 x16, .int .i64 x17, .int .i64 x18, .int .i64 x19, .int .i64 x20, .int .i64 x21, .int .i64 x22, .int .i64 x23, .int .i64 x24, .int .i64 x25, .int .i64 x26, .int .i64 x27, .int .i64 x28, .int .i64 x29, .int .i64 x30, .int .i64 x31, .int .i64 x32, .int .i64 x33, .int .i64 x34, .int .i64 x35, .int .i64 x36, .int .i64 x37, .int .i64 x38, .int .i64 x39, .int .i64 x40, .int .i64 x41, .int .i64 x42, .int .i64 x43, .int .i64 x44, .int .i64 x45, .int .i64 x46, .int .i64 x47, .int .i64 x48, .int .i64 x49, .int .i64 x50, .int .i64 x51, .int .i64 x52, .int .i64 x53, .int .i64 x54, .int .i64 x55, .int .i64 x56, .int .i64 x57, .int .i64 x58, .int .i64 x59, .int .i64 x60, .int .i64 x61, .int .i64 x62, .int .i64 x63, .int .i64 x64, .int .i64 x65, .int .i64 x66, .int .i64 x67, .int .i64 x68, .int .i64 x69, .int .i64 x70, .int .i64 x71, .int .i64 x72, .int .i64 x73, .int .i64 x74, .int .i64 x75, .int .i64 x76, .int .i64 x77, .int .i64 x78, .int .i64 x79, .int .i64 x80, .int .i64 x81] : List Value)[0 + ((IntKind.i64.wrap (16 - x2)).toNat * 8) + 7]?).bind (Value.int? .i64)) fun x198 =>
 ob ((r8.2 ++ [⟨.fx, [.int .i64 0, .int .i64 0, .int .i64 0, .int .i64 0, .int .i64 0, .int .i64 0, .int .i64 0, .int .i64 0]⟩] : Mem).st lo ⟨r8.2.length, 0, none⟩ [.int .i64 x191, .int .i64 x192, .int .i64 x193, .int .i64 x194, .int .i64 x195, .int .i64 x196, .int .i64 x197, .int .i64 x198]) fun M199 =>
 pb ((none : Option Nat) = none)
 (pb (0 ≤ (0 : Int) ∧ (0 : Int) ≤ (8 : Int))
 (ob (acall P T k lo F.slices_Reverse__int_int [.slice (slAddr 1 (some ⟨r8.2.length, 0, none⟩) 0 8) 8 8] M199) fun r200 =>
 ob (r200.1.tup? 0) fun l201 =>
 ob ((r200.2.ld ⟨r8.2.length, 0, none⟩).bind (Value.int? .i64)) fun x202 =>
 ob ((r200.2.ld (plus ⟨r8.2.length, 0, none⟩ 1)).bind (Value.int? .i64)) fun x203 =>
 ob ((r200.2.ld (plus ⟨r8.2.length, 0, none⟩ 2)).bind (Value.int? .i64)) fun x204 =>
 ob ((r200.2.ld (plus ⟨r8.2.length, 0, none⟩ 3)).bind (Value.int? .i64)) fun x205 =>
 ob ((r200.2.ld (plus ⟨r8.2.length, 0, none⟩ 4)).bind (Value.int? .i64)) fun x206 =>
 ob ((r200.2.ld (plus ⟨r8.2.length, 0, none⟩ 5)).bind (Value.int? .i64)) fun x207 =>
 ob ((r200.2.ld (plus ⟨r8.2.length, 0, none⟩ 6)).bind (Value.int? .i64)) fun x208 =>
 ob ((r200.2.ld (plus ⟨r8.2.length, 0, none⟩ 7)).bind (Value.int? .i64)) fun x209 =>
 some (.ret (.tuple ⟨[.agg ⟨[.int .i64 x202, .int .i64 x203, .int .i64 x204, .int .i64 x205, .int .i64 x206, .int .i64 x207, .int .i64 x208, .int .i64 x209]⟩, .int .i64 0]⟩) r200.2)) none) none) none))
 (some (.ret (.tuple ⟨[.agg ⟨[.int .i64 0, .int .i64 0, .int .i64 0, .int .i64 0, .int .i64 0, .int .i64 0, .int .i64 0, .int .i64 0]⟩, .int .i64 2]⟩) r8.2)))))) := by kernel_rfl
theorem subpel_sum.entry (k lo : Nat) (x1 : Int) (x2 : Int) (x3 : Int) (x4 : Int) (x5 : Int) (x6 : Int) (x7 : Int) (x8 : Int) (x9 : Int) (M : Mem) : entry P T k lo F.subpel_sum [.agg ⟨[.int .i64 x1, .int .i64 x2, .int .i64 x3, .int .i64 x4, .int .i64 x5, .int .i64 x6, .int .i64 x7, .int .i64 x8]⟩, .int .i64 x9] M =
 some (.ret (.func (.func F.subpel_sum_1) ⟨[]⟩ ⟨[.pointer (some ⟨(M ++ [⟨.fx, [.int .i64 x1, .int .i64 x2, .int .i64 x3, .int .i64 x4, .int .i64 x5, .int .i64 x6, .int .i64 x7, .int .i64 x8]⟩] : Mem).length, 0, none⟩), .pointer (some ⟨M.length, 0, none⟩)]⟩) ((M ++ [⟨.fx, [.int .i64 x1, .int .i64 x2, .int .i64 x3, .int .i64 x4, .int .i64 x5, .int .i64 x6, .int .i64 x7, .int .i64 x8]⟩] : Mem) ++ [⟨.fx, [.int .i64 x9]⟩] : Mem)) := by kernel_rfl
theorem subpel_Fetch_1.entry (k lo : Nat) (x1 : Int) (a2 : Addr) (a3 : Addr) (a4 : Addr) (M : Mem) : entry P T k lo F.subpel_Fetch_1 [.int .i64 x1, .pointer (some a2), .pointer (some a3), .pointer (some a4)] M =
 ob ((M.ld a2).bind Value.slc?) fun s10 =>
 ob ((M.ld a3).bind (Value.int? .i64)) fun x11 =>
 ob ((M.ld a4).bind (Value.int? .i64)) fun x12 =>
 pb (0 ≤ (minI (maxI (IntKind.i64.wrap (x11 + x1)) 0) (IntKind.i64.wrap (x12 - 1))) ∧ (minI (maxI (IntKind.i64.wrap (x11 + x1)) 0) (IntKind.i64.wrap (x12 - 1))) < (s10.n : Int))
 (ob s10.a fun a13 =>
 ob ((M.ld (plus a13 ((minI (maxI (IntKind.i64.wrap (x11 + x1)) 0) (IntKind.i64.wrap (x12 - 1))).toNat))).bind (Value.int? .u8)) fun x14 =>
 some (.ret (.int .i64 (IntKind.i64.wrap x14)) M)) none := by kernel_rfl
theorem subpel_Fetch_2.entry (k lo : Nat) (x1 : Int) (a2 : Addr) (a3 : Addr) (a4 : Addr) (M : Mem) : entry P T k lo F.subpel_Fetch_2 [.int .i64 x1, .pointer (some a2), .pointer (some a3), .pointer (some a4)] M =
 ob ((M.ld a2).bind Value.slc?) fun s10 =>
 ob ((M.ld a3).bind (Value.int? .i64)) fun x11 =>
 pb (0 ≤ IntKind.i64.wrap (x11 + x1) ∧ IntKind.i64.wrap (x11 + x1) < (s10.n : Int))
 (ob s10.a fun a12 =>
 ob ((M.ld (plus a12 ((IntKind.i64.wrap (x11 + x1)).toNat))).bind Value.slc?) fun s13 =>
 ob ((M.ld a4).bind (Value.int? .i64)) fun x14 =>
 pb (0 ≤ x14 ∧ x14 < (s13.n : Int))
 (ob s13.a fun a15 =>
 ob ((M.ld (plus a15 x14.toNat)).bind (Value.int? .i64)) fun x16 =>
 some (.ret (.int .i64 x16) M)) none) none := by kernel_rfl
theorem zoetroperef05_Check.entry (k lo : Nat) (x1 : Int) (x2 : Int) (A3 : Option Addr) (n4 : Nat) (c5 : Nat) (M : Mem) : entry P T k lo F.zoetroperef05_Check [.agg ⟨[.int .i64 x1, .int .i64 x2, .slice A3 n4 c5]⟩] M =
 bb (decide (x1 < 1))
 (some (.ret (.int .i64 2) M))
 (bb (decide (x1 > 512))
 (some (.ret (.int .i64 2) M))
 (bb (decide (x2 < 1))
 (some (.ret (.int .i64 2) M))
 (bb (decide (x2 > 512))
 (some (.ret (.int .i64 2) M))
 (bb ((n4 : Int) != IntKind.i64.wrap (x1 * x2))
 (some (.ret (.int .i64 2) M))
 (some (.ret (.int .i64 0) M)))))) := by kernel_rfl
theorem zoetroperef05_side.entry (k lo : Nat) (x1 : Int) (M : Mem) : entry P T k lo F.zoetroperef05_side [.int .i64 x1] M =
 bb (Int.tmod x1 2 == 0)
 (bb (decide (x1 ≥ 16))
 (some (.ret (.bool (decide (x1 ≤ 256))) M))
 (some (.ret (.bool false) M)))
 (some (.ret (.bool false) M)) := by kernel_rfl
theorem zoetroperef14_Taps.entry (k lo : Nat) (x1 : Int) (x2 : Int) (M : Mem) : entry P T k lo F.zoetroperef14_Taps [.int .i64 x1, .int .i64 x2] M =
 bb (decide (x1 < 0))
 (some (.ret (.tuple ⟨[.agg ⟨[.int .i64 0, .int .i64 0, .int .i64 0, .int .i64 0, .int .i64 0, .int .i64 0, .int .i64 0, .int .i64 0]⟩, .int .i64 2]⟩) M))
 (bb (decide (x1 > 2))
 (some (.ret (.tuple ⟨[.agg ⟨[.int .i64 0, .int .i64 0, .int .i64 0, .int .i64 0, .int .i64 0, .int .i64 0, .int .i64 0, .int .i64 0]⟩, .int .i64 2]⟩) M))
 (bb (decide (x2 < 0))
 (some (.ret (.tuple ⟨[.agg ⟨[.int .i64 0, .int .i64 0, .int .i64 0, .int .i64 0, .int .i64 0, .int .i64 0, .int .i64 0, .int .i64 0]⟩, .int .i64 2]⟩) M))
 (bb (decide (x2 > 15))
 (some (.ret (.tuple ⟨[.agg ⟨[.int .i64 0, .int .i64 0, .int .i64 0, .int .i64 0, .int .i64 0, .int .i64 0, .int .i64 0, .int .i64 0]⟩, .int .i64 2]⟩) M))
 (bb (x1 == 2)
 (some (.ret (.tuple ⟨[.agg ⟨[.int .i64 0, .int .i64 0, .int .i64 0, .int .i64 (IntKind.i64.wrap (128 - (IntKind.i64.wrap (8 * x2)))), .int .i64 (IntKind.i64.wrap (8 * x2)), .int .i64 0, .int .i64 0, .int .i64 0]⟩, .int .i64 0]⟩) M))
 (bb (decide (x2 ≤ 8))
 (ob (acall P T k lo F.zoetroperef14_half [.int .i64 x1, .int .i64 x2] M) fun r8 =>
 ob ((some r8.1).bind (Value.agg? 8)) fun l9 =>
 ob ((l9[0]?).bind (Value.int? .i64)) fun x10 =>
 ob ((l9[1]?).bind (Value.int? .i64)) fun x11 =>
 ob ((l9[2]?).bind (Value.int? .i64)) fun x12 =>
 ob ((l9[3]?).bind (Value.int? .i64)) fun x13 =>
 ob ((l9[4]?).bind (Value.int? .i64)) fun x14 =>
 ob ((l9[5]?).bind (Value.int? .i64)) fun x15 =>
 ob ((l9[6]?).bind (Value.int? .i64)) fun x16 =>
 ob ((l9[7]?).bind (Value.int? .i64)) fun x17 =>
 some (.ret (.tuple ⟨[.agg ⟨[.int .i64 x10, .int .i64 x11, .int .i64 x12, .int .i64 x13, .int .i64 x14, .int .i64 x15, .int .i64 x16, .int .i64 x17]⟩, .int .i64 0]⟩) r8.2))
 (ob (acall P T k lo F.zoetroperef14_half [.int .i64 x1, .int .i64 (IntKind.i64.wrap (16 - x2))] M) fun r18 =>
 ob ((some r18.1).bind (Value.agg? 8)) fun l19 =>
 ob ((l19[0]?).bind (Value.int? .i64)) fun x20 =>
 ob ((l19[1]?).bind (Value.int? .i64)) fun x21 =>
 ob ((l19[2]?).bind (Value.int? .i64)) fun x22 =>
 ob ((l19[3]?).bind (Value.int? .i64)) fun x23 =>
 ob ((l19[4]?).bind (Value.int? .i64)) fun x24 =>
 ob ((l19[5]?).bind (Value.int? .i64)) fun x25 =>
 ob ((l19[6]?).bind (Value.int? .i64)) fun x26 =>
 ob ((l19[7]?).bind (Value.int? .i64)) fun x27 =>
 some (zoetroperef14_Taps.c2036 0 0 0 0 0 0 0 0 0 x20 x21 x22 x23 x24 x25 x26 x27 ([.int .i64 0, .int .i64 0, .int .i64 0, .int .i64 0, .int .i64 0, .int .i64 0, .int .i64 0, .int .i64 0]) r18.2))))))) := by kernel_rfl
theorem zoetroperef14_Taps.p2036 (k lo : Nat) (x1 : Int) (x2 : Int) (x3 : Int) (x4 : Int) (x5 : Int) (x6 : Int) (x7 : Int) (x8 : Int) (x9 : Int) (x10 : Int) (x11 : Int) (x12 : Int) (x13 : Int) (x14 : Int) (x15 : Int) (x16 : Int) (x17 : Int) (cs18 : List Value) (M : Mem) : piece P T k lo F.zoetroperef14_Taps 2036 [.l 4 0, .l 6 0, .l 7 0, .v (.int .i64 x1)] [[.int .i64 x2, .int .i64 x3, .int .i64 x4, .int .i64 x5, .int .i64 x6, .int .i64 x7, .int .i64 x8, .int .i64 x9], [.int .i64 x10, .int .i64 x11, .int .i64 x12, .int .i64 x13, .int .i64 x14, .int .i64 x15, .int .i64 x16, .int .i64 x17], cs18] M =
 bb (decide (x1 < 8))
 (pb (0 ≤ IntKind.i64.wrap (7 - x1) ∧ IntKind.i64.wrap (7 - x1) < (8 : Int))
 (ob ((([.int .i64 x10, .int .i64 x11, .int .i64 x12, .int .i64 x13, .int .i64 x14, .int .i64 x15, .int .i64 x16, .int .i64 x17] : List Value)[0 + ((IntKind.i64.wrap (7 - x1)).toNat) + 0]?).bind (Value.int? .i64)) fun x28 =>
 pb (0 ≤ x1 ∧ x1 < (8 : Int))
 (pb (0 + x1.toNat + 1 ≤ cs18.length)
 (some (zoetroperef14_Taps.c2036 (IntKind.i64.wrap (x1 + 1)) x2 x3 x4 x5 x6 x7 x8 x9 x10 x11 x12 x13 x14 x15 x16 x17 (setL cs18 (0 + x1.toNat) [.int .i64 x28]) M)) none) none) none)
 (ob ((cs18[0]?).bind (Value.int? .i64)) fun x29 =>
 ob ((cs18[1]?).bind (Value.int? .i64)) fun x30 =>
 ob ((cs18[2]?).bind (Value.int? .i64)) fun x31 =>
 ob ((cs18[3]?).bind (Value.int? .i64)) fun x32 =>
 ob ((cs18[4]?).bind (Value.int? .i64)) fun x33 =>
 ob ((cs18[5]?).bind (Value.int? .i64)) fun x34 =>
 ob ((cs18[6]?).bind (Value.int? .i64)) fun x35 =>
 ob ((cs18[7]?).bind (Value.int? .i64)) fun x36 =>
 some (.ret (.tuple ⟨[.agg ⟨[.int .i64 x29, .int .i64 x30, .int .i64 x31, .int .i64 x32, .int .i64 x33, .int .i64 x34, .int .i64 x35, .int .i64 x36]⟩, .int .i64 0]⟩) M)) := by kernel_rfl
theorem zoetroperef00_Clip.entry (k lo : Nat) (x1 : Int) (x2 : Int) (x3 : Int) (M : Mem) : entry P T k lo F.zoetroperef00_Clip [.int .i64 x1, .int .i64 x2, .int .i64 x3] M =
 bb (decide (x1 < x2))
 (some (.ret (.int .i64 x2) M))
 (bb (decide (x1 > x3))
 (some (.ret (.int .i64 x3) M))
 (some (.ret (.int .i64 x1) M))) := by kernel_rfl
theorem motion_lies.entry (k lo : Nat) (A1 : Option Addr) (n2 : Nat) (c3 : Nat) (x4 : Int) (x5 : Int) (x6 : Int) (x7 : Int) (x8 : Int) (M : Mem) : entry P T k lo F.motion_lies [.slice A1 n2 c3, .int .i64 x4, .agg ⟨[.int .i64 x5, .int .i64 x6, .int .i64 x7, .int .i64 x8]⟩] M =
 ob (acall P T k lo F.motion_within [.int .i64 x4, .int .i64 1, .int .i64 64] M) fun r14 =>
 ob ((some r14.1).bind Value.bool?) fun b15 =>
 bb (!b15)
 (some (.ret (.bool false) r14.2))
 (pb (x4 = 0) none
 (bb (Int.tmod (n2 : Int) x4 != 0)
 (some (.ret (.bool false) r14.2))
 (pb (x4 = 0) none
 (ob (acall P T k lo F.motion_within [.int .i64 (IntKind.i64.wrap (Int.tdiv (n2 : Int) x4)), .int .i64 1, .int .i64 64] r14.2) fun r16 =>
 ob ((some r16.1).bind Value.bool?) fun b17 =>
 bb (!b17)
 (some (.ret (.bool false) r16.2))
 (ob (acall P T k lo F.motion_within [.int .i64 x7, .int .i64 1, .int .i64 x4] r16.2) fun r18 =>
 ob ((some r18.1).bind Value.bool?) fun b19 =>
 bb b19
 (ob (acall P T k lo F.motion_within [.int .i64 x5, .int .i64 0, .int .i64 (IntKind.i64.wrap (x4 - x7))] r18.2) fun r20 =>
 ob ((some r20.1).bind Value.bool?) fun b21 =>
 bb b21
 (pb (x4 = 0) none
 (ob (acall P T k lo F.motion_within [.int .i64 x8, .int .i64 1, .int .i64 (IntKind.i64.wrap (Int.tdiv (n2 : Int) x4))] r20.2) fun r22 =>
 ob ((some r22.1).bind Value.bool?) fun b23 =>
 bb b23
 (pb (x4 = 0) none
 (ob (acall P T k lo F.motion_within [.int .i64 x6, .int .i64 0, .int .i64 (IntKind.i64.wrap ((IntKind.i64.wrap (Int.tdiv (n2 : Int) x4)) - x8))] r22.2) fun r24 =>
 ob ((some r24.1).bind Value.bool?) fun b25 =>
 some (.ret (.bool b25) r24.2)))
 (some (.ret (.bool false) r22.2))))
 (some (.ret (.bool false) r20.2)))
 (some (.ret (.bool false) r18.2))))))) := by kernel_rfl
theorem zoetroperef05_Within.entry (k lo : Nat) (x1 : Int) (x2 : Int) (A3 : Option Addr) (n4 : Nat) (c5 : Nat) (x6 : Int) (x7 : Int) (x8 : Int) (x9 : Int) (M : Mem) : entry P T k lo F.zoetroperef05_Within [.agg ⟨[.int .i64 x1, .int .i64 x2, .slice A3 n4 c5]⟩, .agg ⟨[.int .i64 x6, .int .i64 x7, .int .i64 x8, .int .i64 x9]⟩] M =
 bb (decide (x8 ≥ 1))
 (bb (decide (x9 ≥ 1))
 (bb (decide (x6 ≥ 0))
 (bb (decide (x7 ≥ 0))
 (bb (decide (x8 ≤ x1))
 (bb (decide (x9 ≤ x2))
 (bb (decide (x6 ≤ IntKind.i64.wrap (x1 - x8)))
 (some (.ret (.bool (decide (x7 ≤ IntKind.i64.wrap (x2 - x9)))) M))
 (some (.ret (.bool false) M)))
 (some (.ret (.bool false) M)))
 (some (.ret (.bool false) M)))
 (some (.ret (.bool false) M)))
 (some (.ret (.bool false) M)))
 (some (.ret (.bool false) M)))
 (some (.ret (.bool false) M)) := by kernel_rfl
theorem plane_sizes.entry (k lo : Nat) (x1 : Int) (x2 : Int) (M : Mem) : entry P T k lo F.plane_sizes [.int .i64 x1, .int .i64 x2] M =
 bb (decide (x1 ≥ 1))
 (bb (decide (x1 ≤ 512))
 (bb (decide (x2 ≥ 1))
 (some (.ret (.bool (decide (x2 ≤ 512))) M))
 (some (.ret (.bool false) M)))
 (some (.ret (.bool false) M)))
 (some (.ret (.bool false) M)) := by kernel_rfl
theorem slices_Repeat__uint8_uint8.entry (k lo : Nat) (A1 : Option Addr) (n2 : Nat) (c3 : Nat) (x4 : Int) (M : Mem) : entry P T k lo F.slices_Repeat__uint8_uint8 [.slice A1 n2 c3, .int .i64 x4] M =
 bb (decide (x4 < 0))
 (none)
 (some (slices_Repeat__uint8_uint8.c7 A1 n2 c3 x4 M)) := by kernel_rfl
theorem slices_Repeat__uint8_uint8.p7 (k lo : Nat) (A1 : Option Addr) (n2 : Nat) (c3 : Nat) (x4 : Int) (M : Mem) : piece P T k lo F.slices_Repeat__uint8_uint8 7 [.v (.slice A1 n2 c3), .v (.int .i64 x4)] [] M =
 ob (acall P T k lo F.math_bits_Mul [.int .u64 (IntKind.u64.wrap (n2 : Int)), .int .u64 (IntKind.u64.wrap x4)] M) fun r10 =>
 ob (r10.1.tup? 2) fun l11 =>
 ob ((l11[0]?).bind (Value.int? .u64)) fun x12 =>
 ob ((l11[1]?).bind (Value.int? .u64)) fun x13 =>
 bb (decide (x12 > 0))
 (none)
 (bb (decide (x13 > 9223372036854775807))
 (none)
 (some (slices_Repeat__uint8_uint8.c31 A1 n2 c3 x13 r10.2))) := by kernel_rfl
theorem slices_Repeat__uint8_uint8.p31 (k lo : Nat) (A1 : Option Addr) (n2 : Nat) (c3 : Nat) (x4 : Int) (M : Mem) : piece P T k lo F.slices_Repeat__uint8_uint8 31 [.v (.slice A1 n2 c3), .v (.int .u64 x4)] [] M =
 pb (0 ≤ IntKind.i64.wrap x4 ∧ room ((IntKind.i64.wrap x4).toNat) 1)
 (ob (Mem.src (M ++ [⟨.fx, zerosL [.int .u8 0] ((IntKind.i64.wrap x4).toNat)⟩] : Mem) A1 (Nat.min n2 ((IntKind.i64.wrap x4).toNat)) (Nat.min n2 ((IntKind.i64.wrap x4).toNat))) fun l14 =>
 pb (Nat.min n2 ((IntKind.i64.wrap x4).toNat) = 0) (some (slices_Repeat__uint8_uint8.c1016 (some ⟨M.length, 0, none⟩) ((IntKind.i64.wrap x4).toNat) ((IntKind.i64.wrap x4).toNat) 0 (M ++ [⟨.fx, zerosL [.int .u8 0] ((IntKind.i64.wrap x4).toNat)⟩] : Mem)))
 (ob ((M ++ [⟨.fx, zerosL [.int .u8 0] ((IntKind.i64.wrap x4).toNat)⟩] : Mem).st lo ⟨M.length, 0, none⟩ l14) fun M15 =>
 some (slices_Repeat__uint8_uint8.c1016 (some ⟨M.length, 0, none⟩) ((IntKind.i64.wrap x4).toNat) ((IntKind.i64.wrap x4).toNat) ((Nat.min n2 ((IntKind.i64.wrap x4).toNat) : Nat) : Int) M15))) none := by kernel_rfl
theorem slices_Repeat__uint8_uint8.p1016 (k lo : Nat) (A1 : Option Addr) (n2 : Nat) (c3 : Nat) (x4 : Int) (M : Mem) : piece P T k lo F.slices_Repeat__uint8_uint8 1016 [.v (.slice A1 n2 c3), .v (.int .i64 x4)] [] M =
 bb (decide (x4 < (n2 : Int)))
 (pb (0 ≤ x4 ∧ x4 ≤ (n2 : Int))
 (pb (0 ≤ (0 : Int) ∧ (0 : Int) ≤ x4 ∧ x4 ≤ (c3 : Int))
 (ob (Mem.src M (slAddr 1 A1 0 c3) (Nat.min (x4.toNat - 0) (n2 - x4.toNat)) (Nat.min (x4.toNat - 0) (n2 - x4.toNat))) fun l17 =>
 pb (Nat.min (x4.toNat - 0) (n2 - x4.toNat) = 0) (some (slices_Repeat__uint8_uint8.c1016 A1 n2 c3 (IntKind.i64.wrap (x4 + 0)) M))
 (ob (slAddr 1 A1 x4.toNat c3) fun a19 =>
 ob (M.st lo a19 l17) fun M18 =>
 some (slices_Repeat__uint8_uint8.c1016 A1 n2 c3 (IntKind.i64.wrap (x4 + ((Nat.min (x4.toNat - 0) (n2 - x4.toNat) : Nat) : Int))) M18))) none) none)
 (some (.ret (.slice A1 n2 c3) M)) := by kernel_rfl
theorem subpel_soft.entry (k lo : Nat) (M : Mem) : entry P T k lo F.subpel_soft [] M =
 some (.ret (.agg ⟨[.int .i64 0, .int .i64 0, .int .i64 0, .int .i64 128, .int .i64 0, .int .i64 0, .int .i64 0, .int .i64 0, .int .i64 0, .int .i64 2, .int .i64 28, .int .i64 62, .int .i64 34, .int .i64 2, .int .i64 0, .int .i64 0, .int .i64 0, .int .i64 0, .int .i64 26, .int .i64 62, .int .i64 36, .int .i64 4, .int .i64 0, .int .i64 0, .int .i64 0, .int .i64 0, .int .i64 22, .int .i64 62, .int .i64 40, .int .i64 4, .int .i64 0, .int .i64 0, .int .i64 0, .int .i64 0, .int .i64 20, .int .i64 60, .int .i64 42, .int .i64 6, .int .i64 0, .int .i64 0, .int .i64 0, .int .i64 0, .int .i64 18, .int .i64 58, .int .i64 44, .int .i64 8, .int .i64 0, .int .i64 0, .int .i64 0, .int .i64 0, .int .i64 16, .int .i64 56, .int .i64 46, .int .i64 10, .int .i64 0, .int .i64 0, .int .i64 0, .int .i64 (-2), .int .i64 16, .int .i64 54, .int .i64 48, .int .i64 12, .int .i64 0, .int .i64 0, .int .i64 0, .int .i64 (-2), .int .i64 14, .int .i64 52, .int .i64 52, .int .i64 14, .int .i64 (-2), .int .i64 0]⟩) M) := by kernel_rfl
theorem subpel_sharp.entry (k lo : Nat) (M : Mem) : entry P T k lo F.subpel_sharp [] M =
 some (.ret (.agg ⟨[.int .i64 0, .int .i64 0, .int .i64 0, .int .i64 128, .int .i64 0, .int .i64 0, .int .i64 0, .int .i64 0, .int .i64 0, .int .i64 2, .int .i64 (-6), .int .i64 126, .int .i64 8, .int .i64 (-2), .int .i64 0, .int .i64 0, .int .i64 0, .int .i64 2, .int .i64 (-10), .int .i64 122, .int .i64 18, .int .i64 (-4), .int .i64 0, .int .i64 0, .int .i64 0, .int .i64 2, .int .i64 (-12), .int .i64 116, .int .i64 28, .int .i64 (-8), .int .i64 2, .int .i64 0, .int .i64 0, .int .i64 2, .int .i64 (-14), .int .i64 110, .int .i64 38, .int .i64 (-10), .int .i64 2, .int .i64 0, .int .i64 0, .int .i64 2, .int .i64 (-14), .int .i64 102, .int .i64 48, .int .i64 (-12), .int .i64 2, .int .i64 0, .int .i64 0, .int .i64 2, .int .i64 (-16), .int .i64 94, .int .i64 58, .int .i64 (-12), .int .i64 2, .int .i64 0, .int .i64 0, .int .i64 2, .int .i64 (-14), .int .i64 84, .int .i64 66, .int .i64 (-12), .int .i64 2, .int .i64 0, .int .i64 0, .int .i64 2, .int .i64 (-14), .int .i64 76, .int .i64 76, .int .i64 (-14), .int .i64 2, .int .i64 0]⟩) M) := by kernel_rfl
theorem slices_Reverse__int_int.entry (k lo : Nat) (A1 : Option Addr) (n2 : Nat) (c3 : Nat) (M : Mem) : entry P T k lo F.slices_Reverse__int_int [.slice A1 n2 c3] M =
 some (slices_Reverse__int_int.c12 A1 n2 c3 0 (IntKind.i64.wrap ((n2 : Int) - 1)) M) := by kernel_rfl
theorem slices_Reverse__int_int.p12 (k lo : Nat) (A1 : Option Addr) (n2 : Nat) (c3 : Nat) (x4 : Int) (x5 : Int) (M : Mem) : piece P T k lo F.slices_Reverse__int_int 12 [.v (.slice A1 n2 c3), .v (.int .i64 x4), .v (.int .i64 x5)] [] M =
 bb (decide (x4 < x5))
 (pb (0 ≤ x5 ∧ x5 < (n2 : Int))
 (ob A1 fun a9 =>
 ob ((M.ld (plus a9 x5.toNat)).bind (Value.int? .i64)) fun x10 =>
 pb (0 ≤ x4 ∧ x4 < (n2 : Int))
 (ob A1 fun a11 =>
 ob ((M.ld (plus a11 x4.toNat)).bind (Value.int? .i64)) fun x12 =>
 pb (0 ≤ x4 ∧ x4 < (n2 : Int))
 (ob A1 fun a13 =>
 ob (M.st lo (plus a13 x4.toNat) [.int .i64 x10]) fun M14 =>
 pb (0 ≤ x5 ∧ x5 < (n2 : Int))
 (ob A1 fun a15 =>
 ob (M14.st lo (plus a15 x5.toNat) [.int .i64 x12]) fun M16 =>
 some (slices_Reverse__int_int.c12 A1 n2 c3 (IntKind.i64.wrap (x4 + 1)) (IntKind.i64.wrap (x5 - 1)) M16)) none) none) none) none)
 (some (.ret (.tuple ⟨[]⟩) M)) := by kernel_rfl
theorem subpel_sum_1.entry (k lo : Nat) (v1 : Value) (a2 : Addr) (a3 : Addr) (M : Mem) : entry P T k lo F.subpel_sum_1 [v1, .pointer (some a2), .pointer (some a3)] M =
 ob ((M.ld a2).bind (Value.int? .i64)) fun x9 =>
 pb (IntKind.i64.wrap (x9 - 1) < 0) none
 (ob ((M.ld a3).bind (Value.int? .i64)) fun x10 =>
 ob ((M.ld (plus a3 1)).bind (Value.int? .i64)) fun x11 =>
 ob ((M.ld (plus a3 2)).bind (Value.int? .i64)) fun x12 =>
 ob ((M.ld (plus a3 3)).bind (Value.int? .i64)) fun x13 =>
 ob ((M.ld (plus a3 4)).bind (Value.int? .i64)) fun x14 =>
 ob ((M.ld (plus a3 5)).bind (Value.int? .i64)) fun x15 =>
 ob ((M.ld (plus a3 6)).bind (Value.int? .i64)) fun x16 =>
 ob ((M.ld (plus a3 7)).bind (Value.int? .i64)) fun x17 =>
 some (subpel_sum_1.c116 v1 a2 (shlI .i64 (1 : Int) ((IntKind.i64.wrap (x9 - 1)).toNat)) x10 x11 x12 x13 x14 x15 x16 x17 0 M)) := by kernel_rfl
theorem subpel_sum_1.p116 (k lo : Nat) (v1 : Value) (a2 : Addr) (x3 : Int) (x4 : Int) (x5 : Int) (x6 : Int) (x7 : Int) (x8 : Int) (x9 : Int) (x10 : Int) (x11 : Int) (x12 : Int) (M : Mem) : piece P T k lo F.subpel_sum_1 116 [.v v1, .v (.pointer (some a2)), .v (.int .i64 x3), .v (.agg ⟨[.int .i64 x4, .int .i64 x5, .int .i64 x6, .int .i64 x7, .int .i64 x8, .int .i64 x9, .int .i64 x10, .int .i64 x11]⟩), .v (.int .i64 x12)] [] M =
 bb (decide (x12 < 8))
 (pb (0 ≤ x12 ∧ x12 < (8 : Int))
 (ob ((([.int .i64 x4, .int .i64 x5, .int .i64 x6, .int .i64 x7, .int .i64 x8, .int .i64 x9, .int .i64 x10, .int .i64 x11] : List Value)[x12.toNat + 0]?).bind (Value.int? .i64)) fun x18 =>
 bb (x18 != 0)
 (ob (Value.fun? v1) fun q20 =>
 ob (acall P T k lo q20.1 (q20.2.1 ++ [.int .i64 x12] ++ q20.2.2) M) fun r19 =>
 ob ((some r19.1).bind (Value.int? .i64)) fun x21 =>
 some (subpel_sum_1.c935 v1 a2 (IntKind.i64.wrap (x3 + (IntKind.i64.wrap (x18 * x21)))) x4 x5 x6 x7 x8 x9 x10 x11 x12 r19.2))
 (some (subpel_sum_1.c935 v1 a2 x3 x4 x5 x6 x7 x8 x9 x10 x11 x12 M))) none)
 (ob ((M.ld a2).bind (Value.int? .i64)) fun x22 =>
 pb (x22 < 0) none
 (some (.ret (.int .i64 (shrI .i64 x3 x22.toNat)) M))) := by kernel_rfl
theorem subpel_sum_1.p935 (k lo : Nat) (v1 : Value) (a2 : Addr) (x3 : Int) (x4 : Int) (x5 : Int) (x6 : Int) (x7 : Int) (x8 : Int) (x9 : Int) (x10 : Int) (x11 : Int) (x12 : Int) (M : Mem) : piece P T k lo F.subpel_sum_1 935 [.v v1, .v (.pointer (some a2)), .v (.int .i64 x3), .v (.agg ⟨[.int .i64 x4, .int .i64 x5, .int .i64 x6, .int .i64 x7, .int .i64 x8, .int .i64 x9, .int .i64 x10, .int .i64 x11]⟩), .v (.int .i64 x12)] [] M =
 some (subpel_sum_1.c116 v1 a2 x3 x4 x5 x6 x7 x8 x9 x10 x11 (IntKind.i64.wrap (x12 + 1)) M) := by kernel_rfl
end Go.Zt
