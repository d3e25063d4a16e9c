/- What functions come to, from cut to cut. -/
import Derived.Test.YtibbmknipkifeaaEq0
import Derived.KernelRfl
set_option maxRecDepth 100000
set_option maxHeartbeats 4000000
set_option linter.unusedVariables false
namespace Go.Zt
theorem zoetroperef22_filtered.entry (k lo : Nat) (A1 : Option Addr) (n2 : Nat) (c3 : Nat) (x4 : Int) (x5 : Int) (x6 : Int) (M : Mem) : entry P T k lo F.zoetroperef22_filtered [.slice A1 n2 c3, .int .i64 x4, .int .i64 x5, .int .i64 x6] M =
 bb (x5 == 0)
 (some (.ret (.bool false) M))
 (ob (acall P T k lo F.zoetroperef22_limit [.int .i64 x5, .int .i64 x6] M) fun r12 =>
 ob ((some r12.1).bind (Value.int? .i64)) fun x13 =>
 ob (acall P T k lo F.zoetroperef22_far [.slice A1 n2 c3, .int .i64 (-2), .int .i64 (-1)] r12.2) fun r14 =>
 ob ((some r14.1).bind (Value.int? .i64)) fun x15 =>
 bb (decide (x15 > x13))
 (some (.ret (.bool false) r14.2))
 (ob (acall P T k lo F.zoetroperef22_far [.slice A1 n2 c3, .int .i64 1, .int .i64 0] r14.2) fun r16 =>
 ob ((some r16.1).bind (Value.int? .i64)) fun x17 =>
 bb (decide (x17 > x13))
 (some (.ret (.bool false) r16.2))
 (bb (decide (x4 ≥ 6))
 (ob (acall P T k lo F.zoetroperef22_far [.slice A1 n2 c3, .int .i64 (-3), .int .i64 (-2)] r16.2) fun r18 =>
 ob ((some r18.1).bind (Value.int? .i64)) fun x19 =>
 bb (decide (x19 > x13))
 (some (.ret (.bool false) r18.2))
 (ob (acall P T k lo F.zoetroperef22_far [.slice A1 n2 c3, .int .i64 2, .int .i64 1] r18.2) fun r20 =>
 ob ((some r20.1).bind (Value.int? .i64)) fun x21 =>
 bb (decide (x21 > x13))
 (some (.ret (.bool false) r20.2))
 (bb (decide (x4 ≥ 8))
 (ob (acall P T k lo F.zoetroperef22_far [.slice A1 n2 c3, .int .i64 (-4), .int .i64 (-3)] r20.2) fun r22 =>
 ob ((some r22.1).bind (Value.int? .i64)) fun x23 =>
 bb (decide (x23 > x13))
 (some (.ret (.bool false) r22.2))
 (ob (acall P T k lo F.zoetroperef22_far [.slice A1 n2 c3, .int .i64 3, .int .i64 2] r22.2) fun r24 =>
 ob ((some r24.1).bind (Value.int? .i64)) fun x25 =>
 bb (decide (x25 > x13))
 (some (.ret (.bool false) r24.2))
 (ob (acall P T k lo F.zoetroperef22_far [.slice A1 n2 c3, .int .i64 (-1), .int .i64 0] r24.2) fun r26 =>
 ob ((some r26.1).bind (Value.int? .i64)) fun x27 =>
 ob (acall P T k lo F.zoetroperef22_far [.slice A1 n2 c3, .int .i64 (-2), .int .i64 1] r26.2) fun r28 =>
 ob ((some r28.1).bind (Value.int? .i64)) fun x29 =>
 some (.ret (.bool (decide (IntKind.i64.wrap ((IntKind.i64.wrap (2 * x27)) + (IntKind.i64.wrap (Int.tdiv x29 2))) ≤ IntKind.i64.wrap ((IntKind.i64.wrap (2 * (IntKind.i64.wrap (x5 + 2)))) + x13)))) r28.2))))
 (ob (acall P T k lo F.zoetroperef22_far [.slice A1 n2 c3, .int .i64 (-1), .int .i64 0] r20.2) fun r30 =>
 ob ((some r30.1).bind (Value.int? .i64)) fun x31 =>
 ob (acall P T k lo F.zoetroperef22_far [.slice A1 n2 c3, .int .i64 (-2), .int .i64 1] r30.2) fun r32 =>
 ob ((some r32.1).bind (Value.int? .i64)) fun x33 =>
 some (.ret (.bool (decide (IntKind.i64.wrap ((IntKind.i64.wrap (2 * x31)) + (IntKind.i64.wrap (Int.tdiv x33 2))) ≤ IntKind.i64.wrap ((IntKind.i64.wrap (2 * (IntKind.i64.wrap (x5 + 2)))) + x13)))) r32.2)))))
 (bb (decide (x4 ≥ 8))
 (ob (acall P T k lo F.zoetroperef22_far [.slice A1 n2 c3, .int .i64 (-4), .int .i64 (-3)] r16.2) fun r34 =>
 ob ((some r34.1).bind (Value.int? .i64)) fun x35 =>
 bb (decide (x35 > x13))
 (some (.ret (.bool false) r34.2))
 (ob (acall P T k lo F.zoetroperef22_far [.slice A1 n2 c3, .int .i64 3, .int .i64 2] r34.2) fun r36 =>
 ob ((some r36.1).bind (Value.int? .i64)) fun x37 =>
 bb (decide (x37 > x13))
 (some (.ret (.bool false) r36.2))
 (ob (acall P T k lo F.zoetroperef22_far [.slice A1 n2 c3, .int .i64 (-1), .int .i64 0] r36.2) fun r38 =>
 ob ((some r38.1).bind (Value.int? .i64)) fun x39 =>
 ob (acall P T k lo F.zoetroperef22_far [.slice A1 n2 c3, .int .i64 (-2), .int .i64 1] r38.2) fun r40 =>
 ob ((some r40.1).bind (Value.int? .i64)) fun x41 =>
 some (.ret (.bool (decide (IntKind.i64.wrap ((IntKind.i64.wrap (2 * x39)) + (IntKind.i64.wrap (Int.tdiv x41 2))) ≤ IntKind.i64.wrap ((IntKind.i64.wrap (2 * (IntKind.i64.wrap (x5 + 2)))) + x13)))) r40.2))))
 (ob (acall P T k lo F.zoetroperef22_far [.slice A1 n2 c3, .int .i64 (-1), .int .i64 0] r16.2) fun r42 =>
 ob ((some r42.1).bind (Value.int? .i64)) fun x43 =>
 ob (acall P T k lo F.zoetroperef22_far [.slice A1 n2 c3, .int .i64 (-2), .int .i64 1] r42.2) fun r44 =>
 ob ((some r44.1).bind (Value.int? .i64)) fun x45 =>
 some (.ret (.bool (decide (IntKind.i64.wrap ((IntKind.i64.wrap (2 * x43)) + (IntKind.i64.wrap (Int.tdiv x45 2))) ≤ IntKind.i64.wrap ((IntKind.i64.wrap (2 * (IntKind.i64.wrap (x5 + 2)))) + x13)))) r44.2)))))) := by kernel_rfl
theorem zoetroperef22_flat.entry (k lo : Nat) (A1 : Option Addr) (n2 : Nat) (c3 : Nat) (x4 : Int) (x5 : Int) (M : Mem) : entry P T k lo F.zoetroperef22_flat [.slice A1 n2 c3, .int .i64 x4, .int .i64 x5] M =
 some (zoetroperef22_flat.c52 A1 n2 c3 x5 x4 M) := by kernel_rfl
theorem zoetroperef22_flat.p52 (k lo : Nat) (A1 : Option Addr) (n2 : Nat) (c3 : Nat) (x4 : Int) (x5 : Int) (M : Mem) : piece P T k lo F.zoetroperef22_flat 52 [.v (.slice A1 n2 c3), .v (.int .i64 x4), .v (.int .i64 x5)] [] M =
 bb (decide (x5 ≤ x4))
 (ob (acall P T k lo F.zoetroperef22_far [.slice A1 n2 c3, .int .i64 (IntKind.i64.wrap ((IntKind.i64.wrap (0 - x5)) - 1)), .int .i64 (-1)] M) fun r11 =>
 ob ((some r11.1).bind (Value.int? .i64)) fun x12 =>
 bb (decide (x12 > 1))
 (some (.ret (.bool false) r11.2))
 (ob (acall P T k lo F.zoetroperef22_far [.slice A1 n2 c3, .int .i64 x5, .int .i64 0] r11.2) fun r13 =>
 ob ((some r13.1).bind (Value.int? .i64)) fun x14 =>
 bb (decide (x14 > 1))
 (some (.ret (.bool false) r13.2))
 (some (zoetroperef22_flat.c52 A1 n2 c3 x4 (IntKind.i64.wrap (x5 + 1)) r13.2))))
 (some (.ret (.bool true) M)) := by kernel_rfl
theorem zoetroperef22_wide.entry (k lo : Nat) (A1 : Option Addr) (n2 : Nat) (c3 : Nat) (x4 : Int) (M : Mem) : entry P T k lo F.zoetroperef22_wide [.slice A1 n2 c3, .int .i64 x4] M =
 bb (x4 == 3)
 (some (zoetroperef22_wide.c15 A1 n2 c3 x4 0 3 M))
 (some (zoetroperef22_wide.c15 A1 n2 c3 x4 1 3 M)) := by kernel_rfl
theorem zoetroperef22_wide.p15 (k lo : Nat) (A1 : Option Addr) (n2 : Nat) (c3 : Nat) (x4 : Int) (x5 : Int) (x6 : Int) (M : Mem) : piece P T k lo F.zoetroperef22_wide 15 [.v (.slice A1 n2 c3), .v (.int .i64 x4), .v (.int .i64 x5), .v (.int .i64 x6)] [] M =
 bb (x4 == 6)
 (some (zoetroperef22_wide.c31 A1 n2 c3 x4 x5 4 M))
 (some (zoetroperef22_wide.c31 A1 n2 c3 x4 x5 x6 M)) := by kernel_rfl
theorem zoetroperef22_wide.p31 (k lo : Nat) (A1 : Option Addr) (n2 : Nat) (c3 : Nat) (x4 : Int) (x5 : Int) (x6 : Int) (M : Mem) : piece P T k lo F.zoetroperef22_wide 31 [.v (.slice A1 n2 c3), .v (.int .i64 x4), .v (.int .i64 x5), .v (.int .i64 x6)] [] M =
 ob (acall P T k lo F.zoetroperef00_CopyBytes [.slice A1 n2 c3] M) fun r10 =>
 ob ((some r10.1).bind Value.slc?) fun s11 =>
 some (zoetroperef22_wide.c1012 A1 n2 c3 x4 x5 x6 s11.a s11.n s11.c (IntKind.i64.wrap (0 - x4)) r10.2) := by kernel_rfl
theorem zoetroperef22_wide.p1012 (k lo : Nat) (A1 : Option Addr) (n2 : Nat) (c3 : Nat) (x4 : Int) (x5 : Int) (x6 : Int) (A7 : Option Addr) (n8 : Nat) (c9 : Nat) (x10 : Int) (M : Mem) : piece P T k lo F.zoetroperef22_wide 1012 [.v (.slice A1 n2 c3), .v (.int .i64 x4), .v (.int .i64 x5), .v (.int .i64 x6), .v (.slice A7 n8 c9), .v (.int .i64 x10)] [] M =
 bb (decide (x10 < x4))
 (some (zoetroperef22_wide.c259220 A1 n2 c3 x4 x5 x6 A7 n8 c9 x10 0 (IntKind.i64.wrap (0 - x4)) M))
 (some (.ret (.slice A7 n8 c9) M)) := by kernel_rfl
theorem zoetroperef22_wide.p259220 (k lo : Nat) (A1 : Option Addr) (n2 : Nat) (c3 : Nat) (x4 : Int) (x5 : Int) (x6 : Int) (A7 : Option Addr) (n8 : Nat) (c9 : Nat) (x10 : Int) (x11 : Int) (x12 : Int) (M : Mem) : piece P T k lo F.zoetroperef22_wide 259220 [.v (.slice A1 n2 c3), .v (.int .i64 x4), .v (.int .i64 x5), .v (.int .i64 x6), .v (.slice A7 n8 c9), .v (.int .i64 x10), .v (.int .i64 x11), .v (.int .i64 x12)] [] M =
 bb (decide (x12 ≤ x4))
 (ob (acall P T k lo F.zoetroperef00_Abs [.int .i64 x12] M) fun r13 =>
 ob ((some r13.1).bind (Value.int? .i64)) fun x14 =>
 bb (decide (x14 ≤ x5))
 (some (zoetroperef22_wide.c8295059 A1 n2 c3 x4 x5 x6 A7 n8 c9 x10 x11 x12 2 r13.2))
 (some (zoetroperef22_wide.c8295059 A1 n2 c3 x4 x5 x6 A7 n8 c9 x10 x11 x12 1 r13.2)))
 (pb (IntKind.i64.wrap (x6 - 1) < 0) none
 (pb (x6 < 0) none
 (pb (0 ≤ IntKind.i64.wrap ((IntKind.i64.wrap (Int.tdiv (n2 : Int) 2)) + x10) ∧ IntKind.i64.wrap ((IntKind.i64.wrap (Int.tdiv (n2 : Int) 2)) + x10) < (n8 : Int))
 (ob A7 fun a15 =>
 ob (M.st lo (plus a15 ((IntKind.i64.wrap ((IntKind.i64.wrap (Int.tdiv (n2 : Int) 2)) + x10)).toNat)) [.int .u8 (IntKind.u8.wrap (shrI .i64 (IntKind.i64.wrap (x11 + (shlI .i64 (1 : Int) ((IntKind.i64.wrap (x6 - 1)).toNat)))) x6.toNat))]) fun M16 =>
 some (zoetroperef22_wide.c1012 A1 n2 c3 x4 x5 x6 A7 n8 c9 (IntKind.i64.wrap (x10 + 1)) M16)) none))) := by kernel_rfl
theorem zoetroperef22_wide.p8295059 (k lo : Nat) (A1 : Option Addr) (n2 : Nat) (c3 : Nat) (x4 : Int) (x5 : Int) (x6 : Int) (A7 : Option Addr) (n8 : Nat) (c9 : Nat) (x10 : Int) (x11 : Int) (x12 : Int) (x13 : Int) (M : Mem) : piece P T k lo F.zoetroperef22_wide 8295059 [.v (.slice A1 n2 c3), .v (.int .i64 x4), .v (.int .i64 x5), .v (.int .i64 x6), .v (.slice A7 n8 c9), .v (.int .i64 x10), .v (.int .i64 x11), .v (.int .i64 x12), .v (.int .i64 x13)] [] M =
 ob (acall P T k lo F.zoetroperef00_Clip [.int .i64 (IntKind.i64.wrap (x10 + x12)), .int .i64 (IntKind.i64.wrap ((IntKind.i64.wrap (0 - x4)) - 1)), .int .i64 x4] M) fun r17 =>
 ob ((some r17.1).bind (Value.int? .i64)) fun x18 =>
 ob (acall P T k lo F.zoetroperef22_at [.slice A1 n2 c3, .int .i64 x18] r17.2) fun r19 =>
 ob ((some r19.1).bind (Value.int? .i64)) fun x20 =>
 some (zoetroperef22_wide.c259220 A1 n2 c3 x4 x5 x6 A7 n8 c9 x10 (IntKind.i64.wrap (x11 + (IntKind.i64.wrap (x13 * x20)))) (IntKind.i64.wrap (x12 + 1)) r19.2) := by kernel_rfl
theorem zoetroperef22_narrow.entry (k lo : Nat) (A1 : Option Addr) (n2 : Nat) (c3 : Nat) (x4 : Int) (M : Mem) : entry P T k lo F.zoetroperef22_narrow [.slice A1 n2 c3, .int .i64 x4] M =
 ob (acall P T k lo F.zoetroperef22_far [.slice A1 n2 c3, .int .i64 (-2), .int .i64 (-1)] M) fun r10 =>
 ob ((some r10.1).bind (Value.int? .i64)) fun x11 =>
 bb (decide (x11 > IntKind.i64.wrap (Int.tdiv x4 16)))
 (ob (acall P T k lo F.zoetroperef22_at [.slice A1 n2 c3, .int .i64 (-2)] r10.2) fun r12 =>
 ob ((some r12.1).bind (Value.int? .i64)) fun x13 =>
 ob (acall P T k lo F.zoetroperef22_at [.slice A1 n2 c3, .int .i64 1] r12.2) fun r14 =>
 ob ((some r14.1).bind (Value.int? .i64)) fun x15 =>
 ob (acall P T k lo F.zoetroperef22_c [.int .i64 (IntKind.i64.wrap (x13 - x15))] r14.2) fun r16 =>
 ob ((some r16.1).bind (Value.int? .i64)) fun x17 =>
 some (zoetroperef22_narrow.c63 A1 n2 c3 true x17 r16.2))
 (ob (acall P T k lo F.zoetroperef22_far [.slice A1 n2 c3, .int .i64 1, .int .i64 0] r10.2) fun r18 =>
 ob ((some r18.1).bind (Value.int? .i64)) fun x19 =>
 bb (decide (x19 > IntKind.i64.wrap (Int.tdiv x4 16)))
 (ob (acall P T k lo F.zoetroperef22_at [.slice A1 n2 c3, .int .i64 (-2)] r18.2) fun r20 =>
 ob ((some r20.1).bind (Value.int? .i64)) fun x21 =>
 ob (acall P T k lo F.zoetroperef22_at [.slice A1 n2 c3, .int .i64 1] r20.2) fun r22 =>
 ob ((some r22.1).bind (Value.int? .i64)) fun x23 =>
 ob (acall P T k lo F.zoetroperef22_c [.int .i64 (IntKind.i64.wrap (x21 - x23))] r22.2) fun r24 =>
 ob ((some r24.1).bind (Value.int? .i64)) fun x25 =>
 some (zoetroperef22_narrow.c63 A1 n2 c3 (decide (x19 > IntKind.i64.wrap (Int.tdiv x4 16))) x25 r24.2))
 (some (zoetroperef22_narrow.c63 A1 n2 c3 (decide (x19 > IntKind.i64.wrap (Int.tdiv x4 16))) 0 r18.2))) := by kernel_rfl
theorem zoetroperef22_narrow.p63 (k lo : Nat) (A1 : Option Addr) (n2 : Nat) (c3 : Nat) (b4 : Bool) (x5 : Int) (M : Mem) : piece P T k lo F.zoetroperef22_narrow 63 [.v (.slice A1 n2 c3), .v (.bool b4), .v (.int .i64 x5)] [] M =
 ob (acall P T k lo F.zoetroperef22_at [.slice A1 n2 c3, .int .i64 0] M) fun r26 =>
 ob ((some r26.1).bind (Value.int? .i64)) fun x27 =>
 ob (acall P T k lo F.zoetroperef22_at [.slice A1 n2 c3, .int .i64 (-1)] r26.2) fun r28 =>
 ob ((some r28.1).bind (Value.int? .i64)) fun x29 =>
 ob (acall P T k lo F.zoetroperef22_c [.int .i64 (IntKind.i64.wrap (x5 + (IntKind.i64.wrap (3 * (IntKind.i64.wrap (x27 - x29))))))] r28.2) fun r30 =>
 ob ((some r30.1).bind (Value.int? .i64)) fun x31 =>
 ob (acall P T k lo F.zoetroperef22_c [.int .i64 (IntKind.i64.wrap (x31 + 4))] r30.2) fun r32 =>
 ob ((some r32.1).bind (Value.int? .i64)) fun x33 =>
 ob (acall P T k lo F.zoetroperef22_c [.int .i64 (IntKind.i64.wrap (x31 + 3))] r32.2) fun r34 =>
 ob ((some r34.1).bind (Value.int? .i64)) fun x35 =>
 ob (acall P T k lo F.zoetroperef00_CopyBytes [.slice A1 n2 c3] r34.2) fun r36 =>
 ob ((some r36.1).bind Value.slc?) fun s37 =>
 ob (acall P T k lo F.zoetroperef22_at [.slice A1 n2 c3, .int .i64 0] r36.2) fun r38 =>
 ob ((some r38.1).bind (Value.int? .i64)) fun x39 =>
 ob (acall P T k lo F.zoetroperef00_Clip [.int .i64 (IntKind.i64.wrap (x39 - (shrI .i64 x33 3))), .int .i64 0, .int .i64 255] r38.2) fun r40 =>
 ob ((some r40.1).bind (Value.int? .i64)) fun x41 =>
 pb (0 ≤ IntKind.i64.wrap (Int.tdiv (n2 : Int) 2) ∧ IntKind.i64.wrap (Int.tdiv (n2 : Int) 2) < (s37.n : Int))
 (ob s37.a fun a42 =>
 ob (r40.2.st lo (plus a42 ((IntKind.i64.wrap (Int.tdiv (n2 : Int) 2)).toNat)) [.int .u8 (IntKind.u8.wrap x41)]) fun M43 =>
 ob (acall P T k lo F.zoetroperef22_at [.slice A1 n2 c3, .int .i64 (-1)] M43) fun r44 =>
 ob ((some r44.1).bind (Value.int? .i64)) fun x45 =>
 ob (acall P T k lo F.zoetroperef00_Clip [.int .i64 (IntKind.i64.wrap (x45 + (shrI .i64 x35 3))), .int .i64 0, .int .i64 255] r44.2) fun r46 =>
 ob ((some r46.1).bind (Value.int? .i64)) fun x47 =>
 pb (0 ≤ IntKind.i64.wrap ((IntKind.i64.wrap (Int.tdiv (n2 : Int) 2)) - 1) ∧ IntKind.i64.wrap ((IntKind.i64.wrap (Int.tdiv (n2 : Int) 2)) - 1) < (s37.n : Int))
 (ob s37.a fun a48 =>
 ob (r46.2.st lo (plus a48 ((IntKind.i64.wrap ((IntKind.i64.wrap (Int.tdiv (n2 : Int) 2)) - 1)).toNat)) [.int .u8 (IntKind.u8.wrap x47)]) fun M49 =>
 bb (!b4)
 (ob (acall P T k lo F.zoetroperef22_at [.slice A1 n2 c3, .int .i64 1] M49) fun r50 =>
 ob ((some r50.1).bind (Value.int? .i64)) fun x51 =>
 ob (acall P T k lo F.zoetroperef00_Clip [.int .i64 (IntKind.i64.wrap (x51 - (shrI .i64 (IntKind.i64.wrap ((shrI .i64 x33 3) + 1)) 1))), .int .i64 0, .int .i64 255] r50.2) fun r52 =>
 ob ((some r52.1).bind (Value.int? .i64)) fun x53 =>
 pb (0 ≤ IntKind.i64.wrap ((IntKind.i64.wrap (Int.tdiv (n2 : Int) 2)) + 1) ∧ IntKind.i64.wrap ((IntKind.i64.wrap (Int.tdiv (n2 : Int) 2)) + 1) < (s37.n : Int))
 (ob s37.a fun a54 =>
 ob (r52.2.st lo (plus a54 ((IntKind.i64.wrap ((IntKind.i64.wrap (Int.tdiv (n2 : Int) 2)) + 1)).toNat)) [.int .u8 (IntKind.u8.wrap x53)]) fun M55 =>
 ob (acall P T k lo F.zoetroperef22_at [.slice A1 n2 c3, .int .i64 (-2)] M55) fun r56 =>
 ob ((some r56.1).bind (Value.int? .i64)) fun x57 =>
 ob (acall P T k lo F.zoetroperef00_Clip [.int .i64 (IntKind.i64.wrap (x57 + (shrI .i64 (IntKind.i64.wrap ((shrI .i64 x33 3) + 1)) 1))), .int .i64 0, .int .i64 255] r56.2) fun r58 =>
 ob ((some r58.1).bind (Value.int? .i64)) fun x59 =>
 pb (0 ≤ IntKind.i64.wrap ((IntKind.i64.wrap (Int.tdiv (n2 : Int) 2)) - 2) ∧ IntKind.i64.wrap ((IntKind.i64.wrap (Int.tdiv (n2 : Int) 2)) - 2) < (s37.n : Int))
 (ob s37.a fun a60 =>
 ob (r58.2.st lo (plus a60 ((IntKind.i64.wrap ((IntKind.i64.wrap (Int.tdiv (n2 : Int) 2)) - 2)).toNat)) [.int .u8 (IntKind.u8.wrap x59)]) fun M61 =>
 some (zoetroperef22_narrow.c16383 s37.a s37.n s37.c M61)) none) none)
 (some (zoetroperef22_narrow.c16383 s37.a s37.n s37.c M49))) none) none := by kernel_rfl
theorem zoetroperef22_narrow.p16383 (k lo : Nat) (A1 : Option Addr) (n2 : Nat) (c3 : Nat) (M : Mem) : piece P T k lo F.zoetroperef22_narrow 16383 [.v (.slice A1 n2 c3)] [] M =
 some (.ret (.slice A1 n2 c3) M) := by kernel_rfl
theorem deblock_may.entry (k lo : Nat) (x1 : Int) (x2 : Int) (A3 : Option Addr) (n4 : Nat) (c5 : Nat) (x6 : Int) (x7 : Int) (A8 : Option Addr) (n9 : Nat) (c10 : Nat) (A11 : Option Addr) (n12 : Nat) (c13 : Nat) (A14 : Option Addr) (n15 : Nat) (c16 : Nat) (M : Mem) : entry P T k lo F.deblock_may [.agg ⟨[.int .i64 x1, .int .i64 x2, .slice A3 n4 c5]⟩, .agg ⟨[.int .i64 x6, .int .i64 x7, .slice A8 n9 c10, .slice A11 n12 c13, .slice A14 n15 c16]⟩] M =
 ob (acall P T k lo F.plane_Check [.agg ⟨[.int .i64 x1, .int .i64 x2, .slice A3 n4 c5]⟩] M) fun r22 =>
 ob ((some r22.1).bind (Value.int? .i64)) fun x23 =>
 bb (x23 != 0)
 (some (.ret (.bool false) r22.2))
 (bb (Int.tmod x1 4 != 0)
 (some (.ret (.bool false) r22.2))
 (bb (Int.tmod x2 4 != 0)
 (some (.ret (.bool false) r22.2))
 (bb (x6 != IntKind.i64.wrap (Int.tdiv x1 4))
 (some (.ret (.bool false) r22.2))
 (bb (x7 != IntKind.i64.wrap (Int.tdiv x2 4))
 (some (.ret (.bool false) r22.2))
 (ob (((r22.2 ++ [⟨.fx, [.int .u8 4, .int .u8 8, .int .u8 16, .int .u8 32, .int .u8 64]⟩] : Mem) ++ [⟨.fx, [.slice none 0 0]⟩] : Mem).st lo ⟨(r22.2 ++ [⟨.fx, [.int .u8 4, .int .u8 8, .int .u8 16, .int .u8 32, .int .u8 64]⟩] : Mem).length, 0, none⟩ [.slice (some ⟨r22.2.length, 0, none⟩) 5 5]) fun M24 =>
 bb ((n9 : Int) == IntKind.i64.wrap (x6 * x7))
 (bb ((n12 : Int) == IntKind.i64.wrap (x6 * x7))
 (bb ((n15 : Int) == IntKind.i64.wrap (x6 * x7))
 (ob (acall P T k lo F.slices_ContainsFunc__uint8_uint8 [.slice A8 n9 c10, .func (.func F.deblock_may_1) ⟨[]⟩ ⟨[.pointer (some ⟨(r22.2 ++ [⟨.fx, [.int .u8 4, .int .u8 8, .int .u8 16, .int .u8 32, .int .u8 64]⟩] : Mem).length, 0, none⟩)]⟩] M24) fun r25 =>
 ob ((some r25.1).bind Value.bool?) fun b26 =>
 some (.ret (.bool (!b26)) r25.2))
 (some (.ret (.bool false) M24)))
 (some (.ret (.bool false) M24)))
 (some (.ret (.bool false) M24))))))) := by kernel_rfl
theorem deblock_reachTaps.entry (k lo : Nat) (x1 : Int) (b2 : Bool) (M : Mem) : entry P T k lo F.deblock_reachTaps [.int .i64 x1, .bool b2] M =
 bb (decide (x1 < 8))
 (some (.ret (.int .i64 4) M))
 (bb b2
 (some (.ret (.int .i64 6) M))
 (bb (decide (x1 < 16))
 (some (.ret (.int .i64 8) M))
 (some (.ret (.int .i64 14) M)))) := by kernel_rfl
theorem zoetroperef00_CopyInts.entry (k lo : Nat) (A1 : Option Addr) (n2 : Nat) (c3 : Nat) (M : Mem) : entry P T k lo F.zoetroperef00_CopyInts [.slice A1 n2 c3] M =
 ob (Mem.src M A1 n2 n2) fun l9 =>
 ob (M.app lo 1 8 ⟨none, 0, 0⟩ l9 n2) fun r10 =>
 some (.ret (.slice r10.1.a r10.1.n r10.1.c) r10.2) := by kernel_rfl
theorem zoetroperef22_may.entry (k lo : Nat) (x1 : Int) (x2 : Int) (A3 : Option Addr) (n4 : Nat) (c5 : Nat) (x6 : Int) (x7 : Int) (A8 : Option Addr) (n9 : Nat) (c10 : Nat) (A11 : Option Addr) (n12 : Nat) (c13 : Nat) (A14 : Option Addr) (n15 : Nat) (c16 : Nat) (M : Mem) : entry P T k lo F.zoetroperef22_may [.agg ⟨[.int .i64 x1, .int .i64 x2, .slice A3 n4 c5]⟩, .agg ⟨[.int .i64 x6, .int .i64 x7, .slice A8 n9 c10, .slice A11 n12 c13, .slice A14 n15 c16]⟩] M =
 ob (acall P T k lo F.zoetroperef05_Check [.agg ⟨[.int .i64 x1, .int .i64 x2, .slice A3 n4 c5]⟩] M) fun r22 =>
 ob ((some r22.1).bind (Value.int? .i64)) fun x23 =>
 bb (x23 != 0)
 (some (.ret (.bool false) r22.2))
 (bb (Int.tmod x1 4 != 0)
 (some (.ret (.bool false) r22.2))
 (bb (Int.tmod x2 4 != 0)
 (some (.ret (.bool false) r22.2))
 (bb (x6 != IntKind.i64.wrap (Int.tdiv x1 4))
 (some (.ret (.bool false) r22.2))
 (bb (x7 != IntKind.i64.wrap (Int.tdiv x2 4))
 (some (.ret (.bool false) r22.2))
 (bb ((n9 : Int) != IntKind.i64.wrap (x6 * x7))
 (some (.ret (.bool false) r22.2))
 (bb ((n12 : Int) != IntKind.i64.wrap (x6 * x7))
 (some (.ret (.bool false) r22.2))
 (bb ((n15 : Int) != IntKind.i64.wrap (x6 * x7))
 (some (.ret (.bool false) r22.2))
 (some (zoetroperef22_may.c500 (IntKind.i64.wrap (x6 * x7)) 0 x6 x7 A8 n9 c10 A11 n12 c13 A14 n15 c16 r22.2))))))))) := by kernel_rfl
theorem zoetroperef22_may.p500 (k lo : Nat) (x1 : Int) (x2 : Int) (x3 : Int) (x4 : Int) (A5 : Option Addr) (n6 : Nat) (c7 : Nat) (A8 : Option Addr) (n9 : Nat) (c10 : Nat) (A11 : Option Addr) (n12 : Nat) (c13 : Nat) (M : Mem) : piece P T k lo F.zoetroperef22_may 500 [.l 3 0, .v (.int .i64 x1), .v (.int .i64 x2)] [[.int .i64 x3, .int .i64 x4, .slice A5 n6 c7, .slice A8 n9 c10, .slice A11 n12 c13]] M =
 bb (decide (x2 < x1))
 (pb (0 ≤ x2 ∧ x2 < (n6 : Int))
 (ob A5 fun a24 =>
 ob ((M.ld (plus a24 x2.toNat)).bind (Value.int? .u8)) fun x25 =>
 ob (acall P T k lo F.zoetroperef22_tx [.int .u8 x25] M) fun r26 =>
 ob ((some r26.1).bind Value.bool?) fun b27 =>
 bb (!b27)
 (some (.ret (.bool false) r26.2))
 (some (zoetroperef22_may.c500 x1 (IntKind.i64.wrap (x2 + 1)) x3 x4 A5 n6 c7 A8 n9 c10 A11 n12 c13 r26.2))) none)
 (some (.ret (.bool true) M)) := by kernel_rfl
theorem zoetroperef05_CopyPlane.entry (k lo : Nat) (x1 : Int) (x2 : Int) (A3 : Option Addr) (n4 : Nat) (c5 : Nat) (M : Mem) : entry P T k lo F.zoetroperef05_CopyPlane [.agg ⟨[.int .i64 x1, .int .i64 x2, .slice A3 n4 c5]⟩] M =
 ob (acall P T k M.length F.zoetroperef00_CopyBytes [.slice A3 n4 c5] M) fun r11 =>
 ob ((some r11.1).bind Value.slc?) fun s12 =>
 some (.ret (.agg ⟨[.int .i64 x1, .int .i64 x2, .slice s12.a s12.n s12.c]⟩) r11.2) := by kernel_rfl
theorem zoetroperef22_line.entry (k lo : Nat) (x1 : Int) (x2 : Int) (A3 : Option Addr) (n4 : Nat) (c5 : Nat) (x6 : Int) (x7 : Int) (x8 : Int) (x9 : Int) (x10 : Int) (M : Mem) : entry P T k lo F.zoetroperef22_line [.agg ⟨[.int .i64 x1, .int .i64 x2, .slice A3 n4 c5]⟩, .int .i64 x6, .int .i64 x7, .int .i64 x8, .int .i64 x9, .int .i64 x10] M =
 some (zoetroperef22_line.c116 x6 x7 x8 x9 x10 none 0 0 (IntKind.i64.wrap (Int.tdiv (IntKind.i64.wrap (0 - x8)) 2)) x1 x2 A3 n4 c5 M) := by kernel_rfl
theorem zoetroperef22_line.p116 (k lo : Nat) (x1 : Int) (x2 : Int) (x3 : Int) (x4 : Int) (x5 : Int) (A6 : Option Addr) (n7 : Nat) (c8 : Nat) (x9 : Int) (x10 : Int) (x11 : Int) (A12 : Option Addr) (n13 : Nat) (c14 : Nat) (M : Mem) : piece P T k lo F.zoetroperef22_line 116 [.v (.int .i64 x1), .v (.int .i64 x2), .v (.int .i64 x3), .v (.int .i64 x4), .v (.int .i64 x5), .l 6 0, .v (.slice A6 n7 c8), .v (.int .i64 x9)] [[.int .i64 x10, .int .i64 x11, .slice A12 n13 c14]] M =
 bb (decide (x9 < IntKind.i64.wrap (Int.tdiv x3 2)))
 (pb (0 ≤ IntKind.i64.wrap (x1 + (IntKind.i64.wrap (x9 * x2))) ∧ IntKind.i64.wrap (x1 + (IntKind.i64.wrap (x9 * x2))) < (n13 : Int))
 (ob A12 fun a16 =>
 ob ((M.ld (plus a16 ((IntKind.i64.wrap (x1 + (IntKind.i64.wrap (x9 * x2)))).toNat))).bind (Value.int? .u8)) fun x17 =>
 ob (M.app lo 1 1 ⟨A6, n7, c8⟩ ([.int .u8 x17]) 1) fun r18 =>
 some (zoetroperef22_line.c116 x1 x2 x3 x4 x5 r18.1.a r18.1.n r18.1.c (IntKind.i64.wrap (x9 + 1)) x10 x11 A12 n13 c14 r18.2)) none)
 (ob (acall P T k lo F.zoetroperef22_Edge [.slice A6 n7 c8, .int .i64 x3, .int .i64 x4, .int .i64 x5] M) fun r19 =>
 ob (r19.1.tup? 2) fun l20 =>
 ob ((l20[0]?).bind Value.slc?) fun s21 =>
 ob ((l20[1]?).bind (Value.int? .i64)) fun x22 =>
 some (zoetroperef22_line.c252 x1 x2 x3 s21.a s21.n s21.c (IntKind.i64.wrap (Int.tdiv (IntKind.i64.wrap (0 - x3)) 2)) x10 x11 A12 n13 c14 r19.2)) := by kernel_rfl
theorem zoetroperef22_line.p252 (k lo : Nat) (x1 : Int) (x2 : Int) (x3 : Int) (A4 : Option Addr) (n5 : Nat) (c6 : Nat) (x7 : Int) (x8 : Int) (x9 : Int) (A10 : Option Addr) (n11 : Nat) (c12 : Nat) (M : Mem) : piece P T k lo F.zoetroperef22_line 252 [.v (.int .i64 x1), .v (.int .i64 x2), .v (.int .i64 x3), .l 6 0, .v (.slice A4 n5 c6), .v (.int .i64 x7)] [[.int .i64 x8, .int .i64 x9, .slice A10 n11 c12]] M =
 bb (decide (x7 < IntKind.i64.wrap (Int.tdiv x3 2)))
 (pb (0 ≤ IntKind.i64.wrap (x7 + (IntKind.i64.wrap (Int.tdiv x3 2))) ∧ IntKind.i64.wrap (x7 + (IntKind.i64.wrap (Int.tdiv x3 2))) < (n5 : Int))
 (ob A4 fun a23 =>
 ob ((M.ld (plus a23 ((IntKind.i64.wrap (x7 + (IntKind.i64.wrap (Int.tdiv x3 2)))).toNat))).bind (Value.int? .u8)) fun x24 =>
 pb (0 ≤ IntKind.i64.wrap (x1 + (IntKind.i64.wrap (x7 * x2))) ∧ IntKind.i64.wrap (x1 + (IntKind.i64.wrap (x7 * x2))) < (n11 : Int))
 (ob A10 fun a25 =>
 ob (M.st lo (plus a25 ((IntKind.i64.wrap (x1 + (IntKind.i64.wrap (x7 * x2)))).toNat)) [.int .u8 x24]) fun M26 =>
 some (zoetroperef22_line.c252 x1 x2 x3 A4 n5 c6 (IntKind.i64.wrap (x7 + 1)) x8 x9 A10 n11 c12 M26)) none) none)
 (some (.ret (.tuple ⟨[]⟩) M)) := by kernel_rfl
theorem zoetroperef22_taps.entry (k lo : Nat) (x1 : Int) (b2 : Bool) (M : Mem) : entry P T k lo F.zoetroperef22_taps [.int .i64 x1, .bool b2] M =
 bb (decide (x1 < 8))
 (some (.ret (.int .i64 4) M))
 (bb b2
 (some (.ret (.int .i64 6) M))
 (bb (decide (x1 < 16))
 (some (.ret (.int .i64 8) M))
 (some (.ret (.int .i64 14) M)))) := by kernel_rfl
theorem slices_Equal__uint8_uint8.entry (k lo : Nat) (A1 : Option Addr) (n2 : Nat) (c3 : Nat) (A4 : Option Addr) (n5 : Nat) (c6 : Nat) (M : Mem) : entry P T k lo F.slices_Equal__uint8_uint8 [.slice A1 n2 c3, .slice A4 n5 c6] M =
 bb ((n2 : Int) != (n5 : Int))
 (some (.ret (.bool false) M))
 (some (slices_Equal__uint8_uint8.c116 A1 n2 c3 A4 n5 c6 (n2 : Int) 0 M)) := by kernel_rfl
theorem slices_Equal__uint8_uint8.p116 (k lo : Nat) (A1 : Option Addr) (n2 : Nat) (c3 : Nat) (A4 : Option Addr) (n5 : Nat) (c6 : Nat) (x7 : Int) (x8 : Int) (M : Mem) : piece P T k lo F.slices_Equal__uint8_uint8 116 [.v (.slice A1 n2 c3), .v (.slice A4 n5 c6), .v (.int .i64 x7), .v (.int .i64 x8)] [] M =
 bb (decide (x8 < x7))
 (pb (0 ≤ x8 ∧ x8 < (n2 : Int))
 (ob A1 fun a12 =>
 ob ((M.ld (plus a12 x8.toNat)).bind (Value.int? .u8)) fun x13 =>
 pb (0 ≤ x8 ∧ x8 < (n5 : Int))
 (ob A4 fun a14 =>
 ob ((M.ld (plus a14 x8.toNat)).bind (Value.int? .u8)) fun x15 =>
 bb (x13 != x15)
 (some (.ret (.bool false) M))
 (some (slices_Equal__uint8_uint8.c116 A1 n2 c3 A4 n5 c6 x7 (IntKind.i64.wrap (x8 + 1)) M))) none) none)
 (some (.ret (.bool true) M)) := by kernel_rfl
theorem slices_Index__int_int.entry (k lo : Nat) (A1 : Option Addr) (n2 : Nat) (c3 : Nat) (x4 : Int) (M : Mem) : entry P T k lo F.slices_Index__int_int [.slice A1 n2 c3, .int .i64 x4] M =
 some (slices_Index__int_int.c52 A1 n2 c3 x4 (n2 : Int) 0 M) := by kernel_rfl
theorem slices_Index__int_int.p52 (k lo : Nat) (A1 : Option Addr) (n2 : Nat) (c3 : Nat) (x4 : Int) (x5 : Int) (x6 : Int) (M : Mem) : piece P T k lo F.slices_Index__int_int 52 [.v (.slice A1 n2 c3), .v (.int .i64 x4), .v (.int .i64 x5), .v (.int .i64 x6)] [] M =
 bb (decide (x6 < x5))
 (pb (0 ≤ x6 ∧ x6 < (n2 : Int))
 (ob A1 fun a10 =>
 ob ((M.ld (plus a10 x6.toNat)).bind (Value.int? .i64)) fun x11 =>
 bb (x4 == x11)
 (some (.ret (.int .i64 x6) M))
 (some (slices_Index__int_int.c52 A1 n2 c3 x4 x5 (IntKind.i64.wrap (x6 + 1)) M))) none)
 (some (.ret (.int .i64 (-1)) M)) := by kernel_rfl
theorem deblock_line_rough.entry (k lo : Nat) (A1 : Option Addr) (n2 : Nat) (c3 : Nat) (x4 : Int) (x5 : Int) (x6 : Int) (x7 : Int) (M : Mem) : entry P T k lo F.deblock_line_rough [.agg ⟨[.slice A1 n2 c3, .int .i64 x4]⟩, .agg ⟨[.int .i64 x5, .int .i64 x6, .int .i64 x7]⟩] M =
 some (deblock_line_rough.c116 (minI (IntKind.i64.wrap (Int.tdiv (n2 : Int) 2)) 4) 1 A1 n2 c3 x4 x5 x6 x7 M) := by kernel_rfl
theorem deblock_line_rough.p116 (k lo : Nat) (x1 : Int) (x2 : Int) (A3 : Option Addr) (n4 : Nat) (c5 : Nat) (x6 : Int) (x7 : Int) (x8 : Int) (x9 : Int) (M : Mem) : piece P T k lo F.deblock_line_rough 116 [.l 2 0, .l 3 0, .v (.int .i64 x1), .v (.int .i64 x2)] [[.slice A3 n4 c5, .int .i64 x6], [.int .i64 x7, .int .i64 x8, .int .i64 x9]] M =
 bb (decide (x2 < x1))
 (ob (acall P T k M.length F.deblock_line_p [.agg ⟨[.slice A3 n4 c5, .int .i64 x6]⟩, .int .i64 x2] M) fun r13 =>
 ob ((some r13.1).bind (Value.int? .u8)) fun x14 =>
 ob (acall P T k M.length F.deblock_line_p [.agg ⟨[.slice A3 n4 c5, .int .i64 x6]⟩, .int .i64 (IntKind.i64.wrap (x2 - 1))] r13.2) fun r15 =>
 ob ((some r15.1).bind (Value.int? .u8)) fun x16 =>
 ob (acall P T k M.length F.deblock_far [.int .u8 x14, .int .u8 x16] r15.2) fun r17 =>
 ob ((some r17.1).bind (Value.int? .i64)) fun x18 =>
 bb (decide (x18 > x7))
 (some (.ret (.bool true) r17.2))
 (ob (acall P T k M.length F.deblock_line_q [.agg ⟨[.slice A3 n4 c5, .int .i64 x6]⟩, .int .i64 x2] r17.2) fun r19 =>
 ob ((some r19.1).bind (Value.int? .u8)) fun x20 =>
 ob (acall P T k M.length F.deblock_line_q [.agg ⟨[.slice A3 n4 c5, .int .i64 x6]⟩, .int .i64 (IntKind.i64.wrap (x2 - 1))] r19.2) fun r21 =>
 ob ((some r21.1).bind (Value.int? .u8)) fun x22 =>
 ob (acall P T k M.length F.deblock_far [.int .u8 x20, .int .u8 x22] r21.2) fun r23 =>
 ob ((some r23.1).bind (Value.int? .i64)) fun x24 =>
 bb (decide (x24 > x7))
 (some (.ret (.bool true) r23.2))
 (some (deblock_line_rough.c116 x1 (IntKind.i64.wrap (x2 + 1)) A3 n4 c5 x6 x7 x8 x9 r23.2))))
 (ob (acall P T k M.length F.deblock_line_p [.agg ⟨[.slice A3 n4 c5, .int .i64 x6]⟩, .int .i64 0] M) fun r25 =>
 ob ((some r25.1).bind (Value.int? .u8)) fun x26 =>
 ob (acall P T k M.length F.deblock_line_q [.agg ⟨[.slice A3 n4 c5, .int .i64 x6]⟩, .int .i64 0] r25.2) fun r27 =>
 ob ((some r27.1).bind (Value.int? .u8)) fun x28 =>
 ob (acall P T k M.length F.deblock_far [.int .u8 x26, .int .u8 x28] r27.2) fun r29 =>
 ob ((some r29.1).bind (Value.int? .i64)) fun x30 =>
 ob (acall P T k M.length F.deblock_line_p [.agg ⟨[.slice A3 n4 c5, .int .i64 x6]⟩, .int .i64 1] r29.2) fun r31 =>
 ob ((some r31.1).bind (Value.int? .u8)) fun x32 =>
 ob (acall P T k M.length F.deblock_line_q [.agg ⟨[.slice A3 n4 c5, .int .i64 x6]⟩, .int .i64 1] r31.2) fun r33 =>
 ob ((some r33.1).bind (Value.int? .u8)) fun x34 =>
 ob (acall P T k M.length F.deblock_far [.int .u8 x32, .int .u8 x34] r33.2) fun r35 =>
 ob ((some r35.1).bind (Value.int? .i64)) fun x36 =>
 some (.ret (.bool (decide (IntKind.i64.wrap ((IntKind.i64.wrap (2 * x30)) + (IntKind.i64.wrap (Int.tdiv x36 2))) > x8))) r35.2)) := by kernel_rfl
theorem deblock_line_flat.entry (k lo : Nat) (A1 : Option Addr) (n2 : Nat) (c3 : Nat) (x4 : Int) (x5 : Int) (x6 : Int) (M : Mem) : entry P T k lo F.deblock_line_flat [.agg ⟨[.slice A1 n2 c3, .int .i64 x4]⟩, .int .i64 x5, .int .i64 x6] M =
 some (deblock_line_flat.c52 x6 x5 A1 n2 c3 x4 M) := by kernel_rfl
theorem deblock_line_flat.p52 (k lo : Nat) (x1 : Int) (x2 : Int) (A3 : Option Addr) (n4 : Nat) (c5 : Nat) (x6 : Int) (M : Mem) : piece P T k lo F.deblock_line_flat 52 [.v (.int .i64 x1), .l 3 0, .v (.int .i64 x2)] [[.slice A3 n4 c5, .int .i64 x6]] M =
 bb (decide (x2 ≤ x1))
 (ob (acall P T k M.length F.deblock_line_p [.agg ⟨[.slice A3 n4 c5, .int .i64 x6]⟩, .int .i64 x2] M) fun r12 =>
 ob ((some r12.1).bind (Value.int? .u8)) fun x13 =>
 ob (acall P T k M.length F.deblock_line_p [.agg ⟨[.slice A3 n4 c5, .int .i64 x6]⟩, .int .i64 0] r12.2) fun r14 =>
 ob ((some r14.1).bind (Value.int? .u8)) fun x15 =>
 ob (acall P T k M.length F.deblock_far [.int .u8 x13, .int .u8 x15] r14.2) fun r16 =>
 ob ((some r16.1).bind (Value.int? .i64)) fun x17 =>
 bb (decide (x17 > 1))
 (some (.ret (.bool false) r16.2))
 (ob (acall P T k M.length F.deblock_line_q [.agg ⟨[.slice A3 n4 c5, .int .i64 x6]⟩, .int .i64 x2] r16.2) fun r18 =>
 ob ((some r18.1).bind (Value.int? .u8)) fun x19 =>
 ob (acall P T k M.length F.deblock_line_q [.agg ⟨[.slice A3 n4 c5, .int .i64 x6]⟩, .int .i64 0] r18.2) fun r20 =>
 ob ((some r20.1).bind (Value.int? .u8)) fun x21 =>
 ob (acall P T k M.length F.deblock_far [.int .u8 x19, .int .u8 x21] r20.2) fun r22 =>
 ob ((some r22.1).bind (Value.int? .i64)) fun x23 =>
 bb (decide (x23 > 1))
 (some (.ret (.bool false) r22.2))
 (some (deblock_line_flat.c52 x1 (IntKind.i64.wrap (x2 + 1)) A3 n4 c5 x6 r22.2))))
 (some (.ret (.bool true) M)) := by kernel_rfl
theorem deblock_line_wide.entry (k lo : Nat) (A1 : Option Addr) (n2 : Nat) (c3 : Nat) (x4 : Int) (x5 : Int) (x6 : Int) (x7 : Int) (M : Mem) : entry P T k lo F.deblock_line_wide [.agg ⟨[.slice A1 n2 c3, .int .i64 x4]⟩, .int .i64 x5, .int .i64 x6, .int .i64 x7] M =
 ob (acall P T k lo F.slices_Clone__uint8_uint8 [.slice A1 n2 c3] M) fun r13 =>
 ob ((some r13.1).bind Value.slc?) fun s14 =>
 some (deblock_line_wide.c116 x5 x6 x7 s14.a s14.n s14.c (IntKind.i64.wrap (0 - x5)) A1 n2 c3 x4 r13.2) := by kernel_rfl
theorem deblock_line_wide.p116 (k lo : Nat) (x1 : Int) (x2 : Int) (x3 : Int) (A4 : Option Addr) (n5 : Nat) (c6 : Nat) (x7 : Int) (A8 : Option Addr) (n9 : Nat) (c10 : Nat) (x11 : Int) (M : Mem) : piece P T k lo F.deblock_line_wide 116 [.v (.int .i64 x1), .v (.int .i64 x2), .v (.int .i64 x3), .l 4 0, .v (.slice A4 n5 c6), .v (.int .i64 x7)] [[.slice A8 n9 c10, .int .i64 x11]] M =
 bb (decide (x7 < x1))
 (some (deblock_line_wide.c29844 x1 x2 x3 A4 n5 c6 x7 0 (IntKind.i64.wrap (0 - x1)) A8 n9 c10 x11 M))
 (some (.ret (.slice A4 n5 c6) M)) := by kernel_rfl
theorem deblock_line_wide.p29844 (k lo : Nat) (x1 : Int) (x2 : Int) (x3 : Int) (A4 : Option Addr) (n5 : Nat) (c6 : Nat) (x7 : Int) (x8 : Int) (x9 : Int) (A10 : Option Addr) (n11 : Nat) (c12 : Nat) (x13 : Int) (M : Mem) : piece P T k lo F.deblock_line_wide 29844 [.v (.int .i64 x1), .v (.int .i64 x2), .v (.int .i64 x3), .l 4 0, .v (.slice A4 n5 c6), .v (.int .i64 x7), .v (.int .i64 x8), .v (.int .i64 x9)] [[.slice A10 n11 c12, .int .i64 x13]] M =
 bb (decide (x9 ≤ x1))
 (ob (acall P T k M.length F.deblock_clip [.int .i64 (IntKind.i64.wrap (x7 + x9)), .int .i64 (IntKind.i64.wrap ((IntKind.i64.wrap (0 - x1)) - 1)), .int .i64 x1] M) fun r15 =>
 ob ((some r15.1).bind (Value.int? .i64)) fun x16 =>
 pb (0 ≤ IntKind.i64.wrap (x13 + x16) ∧ IntKind.i64.wrap (x13 + x16) < (n11 : Int))
 (ob A10 fun a17 =>
 ob ((r15.2.ld (plus a17 ((IntKind.i64.wrap (x13 + x16)).toNat))).bind (Value.int? .u8)) fun x18 =>
 ob (acall P T k lo F.deblock_within [.int .i64 x9, .int .i64 (IntKind.i64.wrap (0 - x2)), .int .i64 x2] r15.2) fun r19 =>
 ob ((some r19.1).bind Value.bool?) fun b20 =>
 bb b20
 (some (deblock_line_wide.c119379 x1 x2 x3 A4 n5 c6 x7 (IntKind.i64.wrap ((IntKind.i64.wrap (x8 + (IntKind.i64.wrap x18))) + (IntKind.i64.wrap x18))) x9 A10 n11 c12 x13 r19.2))
 (some (deblock_line_wide.c119379 x1 x2 x3 A4 n5 c6 x7 (IntKind.i64.wrap (x8 + (IntKind.i64.wrap x18))) x9 A10 n11 c12 x13 r19.2))) none)
 (pb (IntKind.i64.wrap (x3 - 1) < 0) none
 (pb (x3 < 0) none
 (pb (0 ≤ IntKind.i64.wrap (x13 + x7) ∧ IntKind.i64.wrap (x13 + x7) < (n5 : Int))
 (ob A4 fun a21 =>
 ob (M.st lo (plus a21 ((IntKind.i64.wrap (x13 + x7)).toNat)) [.int .u8 (IntKind.u8.wrap (shrI .i64 (IntKind.i64.wrap (x8 + (shlI .i64 (1 : Int) ((IntKind.i64.wrap (x3 - 1)).toNat)))) x3.toNat))]) fun M22 =>
 some (deblock_line_wide.c116 x1 x2 x3 A4 n5 c6 (IntKind.i64.wrap (x7 + 1)) A10 n11 c12 x13 M22)) none))) := by kernel_rfl
theorem deblock_line_wide.p119379 (k lo : Nat) (x1 : Int) (x2 : Int) (x3 : Int) (A4 : Option Addr) (n5 : Nat) (c6 : Nat) (x7 : Int) (x8 : Int) (x9 : Int) (A10 : Option Addr) (n11 : Nat) (c12 : Nat) (x13 : Int) (M : Mem) : piece P T k lo F.deblock_line_wide 119379 [.v (.int .i64 x1), .v (.int .i64 x2), .v (.int .i64 x3), .l 4 0, .v (.slice A4 n5 c6), .v (.int .i64 x7), .v (.int .i64 x8), .v (.int .i64 x9)] [[.slice A10 n11 c12, .int .i64 x13]] M =
 some (deblock_line_wide.c29844 x1 x2 x3 A4 n5 c6 x7 x8 (IntKind.i64.wrap (x9 + 1)) A10 n11 c12 x13 M) := by kernel_rfl
theorem deblock_line_narrow.entry (k lo : Nat) (A1 : Option Addr) (n2 : Nat) (c3 : Nat) (x4 : Int) (x5 : Int) (x6 : Int) (x7 : Int) (M : Mem) : entry P T k lo F.deblock_line_narrow [.agg ⟨[.slice A1 n2 c3, .int .i64 x4]⟩, .agg ⟨[.int .i64 x5, .int .i64 x6, .int .i64 x7]⟩] M =
 ob (((M ++ [⟨.fx, [.slice A1 n2 c3, .int .i64 x4]⟩] : Mem).ld ⟨M.length, 0, none⟩).bind Value.slc?) fun s13 =>
 ob (((M ++ [⟨.fx, [.slice A1 n2 c3, .int .i64 x4]⟩] : Mem).ld (plus ⟨M.length, 0, none⟩ 1)).bind (Value.int? .i64)) fun x14 =>
 ob (acall P T k ((M ++ [⟨.fx, [.slice A1 n2 c3, .int .i64 x4]⟩] : Mem).length) F.deblock_line_p [.agg ⟨[.slice s13.a s13.n s13.c, .int .i64 x14]⟩, .int .i64 1] (M ++ [⟨.fx, [.slice A1 n2 c3, .int .i64 x4]⟩] : Mem)) fun r15 =>
 ob ((some r15.1).bind (Value.int? .u8)) fun x16 =>
 ob ((if M.length < (M ++ [⟨.fx, [.slice A1 n2 c3, .int .i64 x4]⟩] : Mem).length then r15.2.ld ⟨M.length, 0, none⟩ else none).bind Value.slc?) fun s17 =>
 ob ((if M.length < (M ++ [⟨.fx, [.slice A1 n2 c3, .int .i64 x4]⟩] : Mem).length then r15.2.ld (plus ⟨M.length, 0, none⟩ 1) else none).bind (Value.int? .i64)) fun x18 =>
 ob (acall P T k ((M ++ [⟨.fx, [.slice A1 n2 c3, .int .i64 x4]⟩] : Mem).length) F.deblock_line_p [.agg ⟨[.slice s17.a s17.n s17.c, .int .i64 x18]⟩, .int .i64 0] r15.2) fun r19 =>
 ob ((some r19.1).bind (Value.int? .u8)) fun x20 =>
 ob ((if M.length < (M ++ [⟨.fx, [.slice A1 n2 c3, .int .i64 x4]⟩] : Mem).length then r19.2.ld ⟨M.length, 0, none⟩ else none).bind Value.slc?) fun s21 =>
 ob ((if M.length < (M ++ [⟨.fx, [.slice A1 n2 c3, .int .i64 x4]⟩] : Mem).length then r19.2.ld (plus ⟨M.length, 0, none⟩ 1) else none).bind (Value.int? .i64)) fun x22 =>
 ob (acall P T k ((M ++ [⟨.fx, [.slice A1 n2 c3, .int .i64 x4]⟩] : Mem).length) F.deblock_line_q [.agg ⟨[.slice s21.a s21.n s21.c, .int .i64 x22]⟩, .int .i64 0] r19.2) fun r23 =>
 ob ((some r23.1).bind (Value.int? .u8)) fun x24 =>
 ob ((if M.length < (M ++ [⟨.fx, [.slice A1 n2 c3, .int .i64 x4]⟩] : Mem).length then r23.2.ld ⟨M.length, 0, none⟩ else none).bind Value.slc?) fun s25 =>
 ob ((if M.length < (M ++ [⟨.fx, [.slice A1 n2 c3, .int .i64 x4]⟩] : Mem).length then r23.2.ld (plus ⟨M.length, 0, none⟩ 1) else none).bind (Value.int? .i64)) fun x26 =>
 ob (acall P T k ((M ++ [⟨.fx, [.slice A1 n2 c3, .int .i64 x4]⟩] : Mem).length) F.deblock_line_q [.agg ⟨[.slice s25.a s25.n s25.c, .int .i64 x26]⟩, .int .i64 1] r23.2) fun r27 =>
 ob ((some r27.1).bind (Value.int? .u8)) fun x28 =>
 ob ((r27.2.ld ⟨M.length, 0, none⟩).bind Value.slc?) fun s29 =>
 ob ((r27.2.ld (plus ⟨M.length, 0, none⟩ 1)).bind (Value.int? .i64)) fun x30 =>
 ob (acall P T k r27.2.length F.deblock_line_p [.agg ⟨[.slice s29.a s29.n s29.c, .int .i64 x30]⟩, .int .i64 1] r27.2) fun r31 =>
 ob ((some r31.1).bind (Value.int? .u8)) fun x32 =>
 ob ((if M.length < r27.2.length then r31.2.ld ⟨M.length, 0, none⟩ else none).bind Value.slc?) fun s33 =>
 ob ((if M.length < r27.2.length then r31.2.ld (plus ⟨M.length, 0, none⟩ 1) else none).bind (Value.int? .i64)) fun x34 =>
 ob (acall P T k r27.2.length F.deblock_line_p [.agg ⟨[.slice s33.a s33.n s33.c, .int .i64 x34]⟩, .int .i64 0] r31.2) fun r35 =>
 ob ((some r35.1).bind (Value.int? .u8)) fun x36 =>
 ob (acall P T k r27.2.length F.deblock_far [.int .u8 x32, .int .u8 x36] r35.2) fun r37 =>
 ob ((some r37.1).bind (Value.int? .i64)) fun x38 =>
 bb (decide (x38 > x7))
 (ob (acall P T k lo F.deblock_line_narrow_1 [.int .i64 (IntKind.i64.wrap ((IntKind.i64.wrap x16) - (IntKind.i64.wrap x28)))] r37.2) fun r39 =>
 ob ((some r39.1).bind (Value.int? .i64)) fun x40 =>
 some (deblock_line_narrow.c127 ⟨M.length, 0, none⟩ (IntKind.i64.wrap x16) (IntKind.i64.wrap x20) (IntKind.i64.wrap x24) (IntKind.i64.wrap x28) true x40 r39.2))
 (ob ((r37.2.ld ⟨M.length, 0, none⟩).bind Value.slc?) fun s41 =>
 ob ((r37.2.ld (plus ⟨M.length, 0, none⟩ 1)).bind (Value.int? .i64)) fun x42 =>
 ob (acall P T k r27.2.length F.deblock_line_q [.agg ⟨[.slice s41.a s41.n s41.c, .int .i64 x42]⟩, .int .i64 1] r37.2) fun r43 =>
 ob ((some r43.1).bind (Value.int? .u8)) fun x44 =>
 ob ((if M.length < r27.2.length then r43.2.ld ⟨M.length, 0, none⟩ else none).bind Value.slc?) fun s45 =>
 ob ((if M.length < r27.2.length then r43.2.ld (plus ⟨M.length, 0, none⟩ 1) else none).bind (Value.int? .i64)) fun x46 =>
 ob (acall P T k r27.2.length F.deblock_line_q [.agg ⟨[.slice s45.a s45.n s45.c, .int .i64 x46]⟩, .int .i64 0] r43.2) fun r47 =>
 ob ((some r47.1).bind (Value.int? .u8)) fun x48 =>
 ob (acall P T k r27.2.length F.deblock_far [.int .u8 x44, .int .u8 x48] r47.2) fun r49 =>
 ob ((some r49.1).bind (Value.int? .i64)) fun x50 =>
 bb (decide (x50 > x7))
 (ob (acall P T k lo F.deblock_line_narrow_1 [.int .i64 (IntKind.i64.wrap ((IntKind.i64.wrap x16) - (IntKind.i64.wrap x28)))] r49.2) fun r51 =>
 ob ((some r51.1).bind (Value.int? .i64)) fun x52 =>
 some (deblock_line_narrow.c127 ⟨M.length, 0, none⟩ (IntKind.i64.wrap x16) (IntKind.i64.wrap x20) (IntKind.i64.wrap x24) (IntKind.i64.wrap x28) (decide (x50 > x7)) x52 r51.2))
 (some (deblock_line_narrow.c127 ⟨M.length, 0, none⟩ (IntKind.i64.wrap x16) (IntKind.i64.wrap x20) (IntKind.i64.wrap x24) (IntKind.i64.wrap x28) (decide (x50 > x7)) 0 r49.2))) := by kernel_rfl
theorem deblock_line_narrow.p127 (k lo : Nat) (a1 : Addr) (x2 : Int) (x3 : Int) (x4 : Int) (x5 : Int) (b6 : Bool) (x7 : Int) (M : Mem) : piece P T k lo F.deblock_line_narrow 127 [.v (.pointer (some a1)), .v (.func (.func F.deblock_line_narrow_1) ⟨[]⟩ ⟨[]⟩), .v (.int .i64 x2), .v (.int .i64 x3), .v (.int .i64 x4), .v (.int .i64 x5), .v (.bool b6), .v (.int .i64 x7)] [] M =
 ob (acall P T k lo F.deblock_line_narrow_1 [.int .i64 (IntKind.i64.wrap (x7 + (IntKind.i64.wrap (3 * (IntKind.i64.wrap (x4 - x3))))))] M) fun r53 =>
 ob ((some r53.1).bind (Value.int? .i64)) fun x54 =>
 ob (acall P T k lo F.deblock_line_narrow_1 [.int .i64 (IntKind.i64.wrap (x54 + 4))] r53.2) fun r55 =>
 ob ((some r55.1).bind (Value.int? .i64)) fun x56 =>
 ob ((r55.2.ld a1).bind Value.slc?) fun s57 =>
 ob (acall P T k lo F.slices_Clone__uint8_uint8 [.slice s57.a s57.n s57.c] r55.2) fun r58 =>
 ob ((some r58.1).bind Value.slc?) fun s59 =>
 ob ((r58.2 ++ [⟨.fx, [.slice none 0 0]⟩] : Mem).st lo ⟨r58.2.length, 0, none⟩ [.slice s59.a s59.n s59.c]) fun M60 =>
 ob (acall P T k lo F.deblock_line_narrow_2 [.int .i64 0, .int .i64 (IntKind.i64.wrap (x4 - (shrI .i64 x56 3))), .pointer (some ⟨r58.2.length, 0, none⟩), .pointer (some a1)] M60) fun r61 =>
 ob (r61.1.tup? 0) fun l62 =>
 ob (acall P T k lo F.deblock_line_narrow_1 [.int .i64 (IntKind.i64.wrap (x54 + 3))] r61.2) fun r63 =>
 ob ((some r63.1).bind (Value.int? .i64)) fun x64 =>
 ob (acall P T k lo F.deblock_line_narrow_2 [.int .i64 (-1), .int .i64 (IntKind.i64.wrap (x3 + (shrI .i64 x64 3))), .pointer (some ⟨r58.2.length, 0, none⟩), .pointer (some a1)] r63.2) fun r65 =>
 ob (r65.1.tup? 0) fun l66 =>
 bb (!b6)
 (ob (acall P T k lo F.deblock_line_narrow_2 [.int .i64 1, .int .i64 (IntKind.i64.wrap (x5 - (shrI .i64 (IntKind.i64.wrap ((shrI .i64 x56 3) + 1)) 1))), .pointer (some ⟨r58.2.length, 0, none⟩), .pointer (some a1)] r65.2) fun r67 =>
 ob (r67.1.tup? 0) fun l68 =>
 ob (acall P T k lo F.deblock_line_narrow_2 [.int .i64 (-2), .int .i64 (IntKind.i64.wrap (x2 + (shrI .i64 (IntKind.i64.wrap ((shrI .i64 x56 3) + 1)) 1))), .pointer (some ⟨r58.2.length, 0, none⟩), .pointer (some a1)] r67.2) fun r69 =>
 ob (r69.1.tup? 0) fun l70 =>
 some (deblock_line_narrow.c16383 ⟨r58.2.length, 0, none⟩ r69.2))
 (some (deblock_line_narrow.c16383 ⟨r58.2.length, 0, none⟩ r65.2)) := by kernel_rfl
theorem deblock_line_narrow.p16383 (k lo : Nat) (a1 : Addr) (M : Mem) : piece P T k lo F.deblock_line_narrow 16383 [.v (.pointer (some a1))] [] M =
 ob ((M.ld a1).bind Value.slc?) fun s71 =>
 some (.ret (.slice s71.a s71.n s71.c) M) := by kernel_rfl
theorem zoetroperef22_limit.entry (k lo : Nat) (x1 : Int) (x2 : Int) (M : Mem) : entry P T k lo F.zoetroperef22_limit [.int .i64 x1, .int .i64 x2] M =
 bb (decide (x2 > 4))
 (some (zoetroperef22_limit.c15 x2 (IntKind.i64.wrap (Int.tdiv x1 4)) M))
 (bb (decide (x2 > 0))
 (some (zoetroperef22_limit.c15 x2 (IntKind.i64.wrap (Int.tdiv x1 2)) M))
 (some (zoetroperef22_limit.c15 x2 x1 M))) := by kernel_rfl
theorem zoetroperef22_limit.p15 (k lo : Nat) (x1 : Int) (x2 : Int) (M : Mem) : piece P T k lo F.zoetroperef22_limit 15 [.v (.int .i64 x1), .v (.int .i64 x2)] [] M =
 bb (decide (x1 > 0))
 (some (zoetroperef22_limit.c31 (minI x2 (IntKind.i64.wrap (9 - x1))) M))
 (some (zoetroperef22_limit.c31 x2 M)) := by kernel_rfl
theorem zoetroperef22_limit.p31 (k lo : Nat) (x1 : Int) (M : Mem) : piece P T k lo F.zoetroperef22_limit 31 [.v (.int .i64 x1)] [] M =
 some (.ret (.int .i64 (maxI x1 1)) M) := by kernel_rfl
theorem zoetroperef22_far.entry (k lo : Nat) (A1 : Option Addr) (n2 : Nat) (c3 : Nat) (x4 : Int) (x5 : Int) (M : Mem) : entry P T k lo F.zoetroperef22_far [.slice A1 n2 c3, .int .i64 x4, .int .i64 x5] M =
 ob (acall P T k lo F.zoetroperef22_at [.slice A1 n2 c3, .int .i64 x4] M) fun r11 =>
 ob ((some r11.1).bind (Value.int? .i64)) fun x12 =>
 ob (acall P T k lo F.zoetroperef22_at [.slice A1 n2 c3, .int .i64 x5] r11.2) fun r13 =>
 ob ((some r13.1).bind (Value.int? .i64)) fun x14 =>
 ob (acall P T k lo F.zoetroperef00_Abs [.int .i64 (IntKind.i64.wrap (x12 - x14))] r13.2) fun r15 =>
 ob ((some r15.1).bind (Value.int? .i64)) fun x16 =>
 some (.ret (.int .i64 x16) r15.2) := by kernel_rfl
theorem zoetroperef00_Abs.entry (k lo : Nat) (x1 : Int) (M : Mem) : entry P T k lo F.zoetroperef00_Abs [.int .i64 x1] M =
 bb (decide (x1 < 0))
 (some (.ret (.int .i64 (IntKind.i64.wrap (0 - x1))) M))
 (some (.ret (.int .i64 x1) M)) := by kernel_rfl
theorem zoetroperef22_at.entry (k lo : Nat) (A1 : Option Addr) (n2 : Nat) (c3 : Nat) (x4 : Int) (M : Mem) : entry P T k lo F.zoetroperef22_at [.slice A1 n2 c3, .int .i64 x4] M =
 pb (0 ≤ IntKind.i64.wrap ((IntKind.i64.wrap (Int.tdiv (n2 : Int) 2)) + x4) ∧ IntKind.i64.wrap ((IntKind.i64.wrap (Int.tdiv (n2 : Int) 2)) + x4) < (n2 : Int))
 (ob A1 fun a10 =>
 ob ((M.ld (plus a10 ((IntKind.i64.wrap ((IntKind.i64.wrap (Int.tdiv (n2 : Int) 2)) + x4)).toNat))).bind (Value.int? .u8)) fun x11 =>
 some (.ret (.int .i64 (IntKind.i64.wrap x11)) M)) none := by kernel_rfl
theorem zoetroperef00_Clip.entry (k lo : Nat) (x1 : Int) (x2 : Int) (x3 : Int) (M : Mem) : entry P T k lo F.zoetroperef00_Clip [.int .i64 x1, .int .i64 x2, .int .i64 x3] M =
 bb (decide (x1 < x2))
 (some (.ret (.int .i64 x2) M))
 (bb (decide (x1 > x3))
 (some (.ret (.int .i64 x3) M))
 (some (.ret (.int .i64 x1) M))) := by kernel_rfl
theorem zoetroperef22_c.entry (k lo : Nat) (x1 : Int) (M : Mem) : entry P T k lo F.zoetroperef22_c [.int .i64 x1] M =
 ob (acall P T k lo F.zoetroperef00_Clip [.int .i64 x1, .int .i64 (-128), .int .i64 127] M) fun r7 =>
 ob ((some r7.1).bind (Value.int? .i64)) fun x8 =>
 some (.ret (.int .i64 x8) r7.2) := by kernel_rfl
theorem plane_Check.entry (k lo : Nat) (x1 : Int) (x2 : Int) (A3 : Option Addr) (n4 : Nat) (c5 : Nat) (M : Mem) : entry P T k lo F.plane_Check [.agg ⟨[.int .i64 x1, .int .i64 x2, .slice A3 n4 c5]⟩] M =
 ob (acall P T k lo F.plane_sizes [.int .i64 x1, .int .i64 x2] M) fun r11 =>
 ob ((some r11.1).bind Value.bool?) fun b12 =>
 bb (!b12)
 (some (.ret (.int .i64 2) r11.2))
 (bb ((n4 : Int) != IntKind.i64.wrap (x1 * x2))
 (some (.ret (.int .i64 2) r11.2))
 (some (.ret (.int .i64 0) r11.2))) := by kernel_rfl
theorem slices_ContainsFunc__uint8_uint8.entry (k lo : Nat) (A1 : Option Addr) (n2 : Nat) (c3 : Nat) (v4 : Value) (M : Mem) : entry P T k lo F.slices_ContainsFunc__uint8_uint8 [.slice A1 n2 c3, v4] M =
 ob (acall P T k lo F.slices_IndexFunc__uint8_uint8 [.slice A1 n2 c3, v4] M) fun r10 =>
 ob ((some r10.1).bind (Value.int? .i64)) fun x11 =>
 some (.ret (.bool (decide (x11 ≥ 0))) r10.2) := by kernel_rfl
theorem deblock_may_1.entry (k lo : Nat) (x1 : Int) (a2 : Addr) (M : Mem) : entry P T k lo F.deblock_may_1 [.int .u8 x1, .pointer (some a2)] M =
 ob ((M.ld a2).bind Value.slc?) fun s8 =>
 ob (acall P T k lo F.slices_Contains__uint8_uint8 [.slice s8.a s8.n s8.c, .int .u8 x1] M) fun r9 =>
 ob ((some r9.1).bind Value.bool?) fun b10 =>
 some (.ret (.bool (!b10)) r9.2) := by kernel_rfl
theorem slices_Contains__uint8_uint8.entry (k lo : Nat) (A1 : Option Addr) (n2 : Nat) (c3 : Nat) (x4 : Int) (M : Mem) : entry P T k lo F.slices_Contains__uint8_uint8 [.slice A1 n2 c3, .int .u8 x4] M =
 ob (acall P T k lo F.slices_Index__uint8_uint8 [.slice A1 n2 c3, .int .u8 x4] M) fun r10 =>
 ob ((some r10.1).bind (Value.int? .i64)) fun x11 =>
 some (.ret (.bool (decide (x11 ≥ 0))) r10.2) := by kernel_rfl
theorem zoetroperef05_Check.entry (k lo : Nat) (x1 : Int) (x2 : Int) (A3 : Option Addr) (n4 : Nat) (c5 : Nat) (M : Mem) : entry P T k lo F.zoetroperef05_Check [.agg ⟨[.int .i64 x1, .int .i64 x2, .slice A3 n4 c5]⟩] M =
 bb (decide (x1 < 1))
 (some (.ret (.int .i64 2) M))
 (bb (decide (x1 > 512))
 (some (.ret (.int .i64 2) M))
 (bb (decide (x2 < 1))
 (some (.ret (.int .i64 2) M))
 (bb (decide (x2 > 512))
 (some (.ret (.int .i64 2) M))
 (bb ((n4 : Int) != IntKind.i64.wrap (x1 * x2))
 (some (.ret (.int .i64 2) M))
 (some (.ret (.int .i64 0) M)))))) := by kernel_rfl
theorem zoetroperef22_tx.entry (k lo : Nat) (x1 : Int) (M : Mem) : entry P T k lo F.zoetroperef22_tx [.int .u8 x1] M =
 bb (x1 == 4)
 (some (.ret (.bool true) M))
 (bb (x1 == 8)
 (some (.ret (.bool true) M))
 (bb (x1 == 16)
 (some (.ret (.bool true) M))
 (bb (x1 == 32)
 (some (.ret (.bool true) M))
 (some (.ret (.bool (x1 == 64)) M))))) := by kernel_rfl
theorem deblock_far.entry (k lo : Nat) (x1 : Int) (x2 : Int) (M : Mem) : entry P T k lo F.deblock_far [.int .u8 x1, .int .u8 x2] M =
 some (.ret (.int .i64 (maxI (IntKind.i64.wrap ((IntKind.i64.wrap x1) - (IntKind.i64.wrap x2))) (IntKind.i64.wrap ((IntKind.i64.wrap x2) - (IntKind.i64.wrap x1))))) M) := by kernel_rfl
theorem deblock_line_p.entry (k lo : Nat) (A1 : Option Addr) (n2 : Nat) (c3 : Nat) (x4 : Int) (x5 : Int) (M : Mem) : entry P T k lo F.deblock_line_p [.agg ⟨[.slice A1 n2 c3, .int .i64 x4]⟩, .int .i64 x5] M =
 pb (0 ≤ IntKind.i64.wrap ((IntKind.i64.wrap (x4 - 1)) - x5) ∧ IntKind.i64.wrap ((IntKind.i64.wrap (x4 - 1)) - x5) < (n2 : Int))
 (ob A1 fun a11 =>
 ob ((M.ld (plus a11 ((IntKind.i64.wrap ((IntKind.i64.wrap (x4 - 1)) - x5)).toNat))).bind (Value.int? .u8)) fun x12 =>
 some (.ret (.int .u8 x12) M)) none := by kernel_rfl
theorem deblock_line_q.entry (k lo : Nat) (A1 : Option Addr) (n2 : Nat) (c3 : Nat) (x4 : Int) (x5 : Int) (M : Mem) : entry P T k lo F.deblock_line_q [.agg ⟨[.slice A1 n2 c3, .int .i64 x4]⟩, .int .i64 x5] M =
 pb (0 ≤ IntKind.i64.wrap (x4 + x5) ∧ IntKind.i64.wrap (x4 + x5) < (n2 : Int))
 (ob A1 fun a11 =>
 ob ((M.ld (plus a11 ((IntKind.i64.wrap (x4 + x5)).toNat))).bind (Value.int? .u8)) fun x12 =>
 some (.ret (.int .u8 x12) M)) none := by kernel_rfl
theorem deblock_clip.entry (k lo : Nat) (x1 : Int) (x2 : Int) (x3 : Int) (M : Mem) : entry P T k lo F.deblock_clip [.int .i64 x1, .int .i64 x2, .int .i64 x3] M =
 some (.ret (.int .i64 (minI (maxI x1 x2) x3)) M) := by kernel_rfl
theorem deblock_line_narrow_1.entry (k lo : Nat) (x1 : Int) (M : Mem) : entry P T k lo F.deblock_line_narrow_1 [.int .i64 x1] M =
 ob (acall P T k lo F.deblock_clip [.int .i64 x1, .int .i64 (-128), .int .i64 127] M) fun r7 =>
 ob ((some r7.1).bind (Value.int? .i64)) fun x8 =>
 some (.ret (.int .i64 x8) r7.2) := by kernel_rfl
theorem deblock_line_narrow_2.entry (k lo : Nat) (x1 : Int) (x2 : Int) (a3 : Addr) (a4 : Addr) (M : Mem) : entry P T k lo F.deblock_line_narrow_2 [.int .i64 x1, .int .i64 x2, .pointer (some a3), .pointer (some a4)] M =
 ob ((if a3.block < M.length then M.ld a3 else none).bind Value.slc?) fun s10 =>
 ob ((if ((plus a4 1).block) < M.length then M.ld (plus a4 1) else none).bind (Value.int? .i64)) fun x11 =>
 ob (acall P T k M.length F.deblock_clip [.int .i64 x2, .int .i64 0, .int .i64 255] M) fun r12 =>
 ob ((some r12.1).bind (Value.int? .i64)) fun x13 =>
 pb (0 ≤ IntKind.i64.wrap (x11 + x1) ∧ IntKind.i64.wrap (x11 + x1) < (s10.n : Int))
 (ob s10.a fun a14 =>
 ob (r12.2.st lo (plus a14 ((IntKind.i64.wrap (x11 + x1)).toNat)) [.int .u8 (IntKind.u8.wrap x13)]) fun M15 =>
 some (.ret (.tuple ⟨[]⟩) M15)) none := by kernel_rfl
theorem plane_sizes.entry (k lo : Nat) (x1 : Int) (x2 : Int) (M : Mem) : entry P T k lo F.plane_sizes [.int .i64 x1, .int .i64 x2] M =
 bb (decide (x1 ≥ 1))
 (bb (decide (x1 ≤ 512))
 (bb (decide (x2 ≥ 1))
 (some (.ret (.bool (decide (x2 ≤ 512))) M))
 (some (.ret (.bool false) M)))
 (some (.ret (.bool false) M)))
 (some (.ret (.bool false) M)) := by kernel_rfl
theorem slices_IndexFunc__uint8_uint8.entry (k lo : Nat) (A1 : Option Addr) (n2 : Nat) (c3 : Nat) (v4 : Value) (M : Mem) : entry P T k lo F.slices_IndexFunc__uint8_uint8 [.slice A1 n2 c3, v4] M =
 some (slices_IndexFunc__uint8_uint8.c52 A1 n2 c3 v4 (n2 : Int) 0 M) := by kernel_rfl
theorem slices_IndexFunc__uint8_uint8.p52 (k lo : Nat) (A1 : Option Addr) (n2 : Nat) (c3 : Nat) (v4 : Value) (x5 : Int) (x6 : Int) (M : Mem) : piece P T k lo F.slices_IndexFunc__uint8_uint8 52 [.v (.slice A1 n2 c3), .v v4, .v (.int .i64 x5), .v (.int .i64 x6)] [] M =
 bb (decide (x6 < x5))
 (pb (0 ≤ x6 ∧ x6 < (n2 : Int))
 (ob A1 fun a10 =>
 ob ((M.ld (plus a10 x6.toNat)).bind (Value.int? .u8)) fun x11 =>
 ob (Value.fun? v4) fun q13 =>
 ob (acall P T k lo q13.1 (q13.2.1 ++ [.int .u8 x11] ++ q13.2.2) M) fun r12 =>
 ob ((some r12.1).bind Value.bool?) fun b14 =>
 bb b14
 (some (.ret (.int .i64 x6) r12.2))
 (some (slices_IndexFunc__uint8_uint8.c52 A1 n2 c3 v4 x5 (IntKind.i64.wrap (x6 + 1)) r12.2))) none)
 (some (.ret (.int .i64 (-1)) M)) := by kernel_rfl
theorem slices_Index__uint8_uint8.entry (k lo : Nat) (A1 : Option Addr) (n2 : Nat) (c3 : Nat) (x4 : Int) (M : Mem) : entry P T k lo F.slices_Index__uint8_uint8 [.slice A1 n2 c3, .int .u8 x4] M =
 some (slices_Index__uint8_uint8.c52 A1 n2 c3 x4 (n2 : Int) 0 M) := by kernel_rfl
theorem slices_Index__uint8_uint8.p52 (k lo : Nat) (A1 : Option Addr) (n2 : Nat) (c3 : Nat) (x4 : Int) (x5 : Int) (x6 : Int) (M : Mem) : piece P T k lo F.slices_Index__uint8_uint8 52 [.v (.slice A1 n2 c3), .v (.int .u8 x4), .v (.int .i64 x5), .v (.int .i64 x6)] [] M =
 bb (decide (x6 < x5))
 (pb (0 ≤ x6 ∧ x6 < (n2 : Int))
 (ob A1 fun a10 =>
 ob ((M.ld (plus a10 x6.toNat)).bind (Value.int? .u8)) fun x11 =>
 bb (x4 == x11)
 (some (.ret (.int .i64 x6) M))
 (some (slices_Index__uint8_uint8.c52 A1 n2 c3 x4 x5 (IntKind.i64.wrap (x6 + 1)) M))) none)
 (some (.ret (.int .i64 (-1)) M)) := by kernel_rfl
end Go.Zt
