/- What functions come to, from cut to cut. -/
import Derived.Test.YtfghnhhhlckafaaEq0
import Derived.KernelRfl
set_option maxRecDepth 100000
set_option maxHeartbeats 4000000
set_option linter.unusedVariables false
namespace Go.Zt
theorem zoetropelaw24_WienerTaps.entry (k lo : Nat) (b1 : Bool) (x2 : Int) (x3 : Int) (x4 : Int) (x5 : Int) (x6 : Int) (x7 : Int) (M : Mem) : entry P T k lo F.zoetropelaw24_WienerTaps [.agg ⟨[.bool b1, .int .i64 x2, .int .i64 x3, .int .i64 x4, .int .i64 x5, .int .i64 x6, .int .i64 x7]⟩] M =
 ob (acall P T k lo F.wiener_Seven [.agg ⟨[.int .i64 x2, .int .i64 x3, .int .i64 x4]⟩] M) fun r13 =>
 ob (r13.1.tup? 2) fun l14 =>
 ob ((l14[0]?).bind (Value.agg? 7)) fun l15 =>
 ob ((l15[0]?).bind (Value.int? .i64)) fun x16 =>
 ob ((l15[1]?).bind (Value.int? .i64)) fun x17 =>
 ob ((l15[2]?).bind (Value.int? .i64)) fun x18 =>
 ob ((l15[3]?).bind (Value.int? .i64)) fun x19 =>
 ob ((l15[4]?).bind (Value.int? .i64)) fun x20 =>
 ob ((l15[5]?).bind (Value.int? .i64)) fun x21 =>
 ob ((l15[6]?).bind (Value.int? .i64)) fun x22 =>
 ob ((l14[1]?).bind (Value.int? .i64)) fun x23 =>
 ob (acall P T k lo F.zoetroperef24_Seven [.agg ⟨[.int .i64 x2, .int .i64 x3, .int .i64 x4]⟩] r13.2) fun r24 =>
 ob (r24.1.tup? 2) fun l25 =>
 ob ((l25[0]?).bind (Value.agg? 7)) fun l26 =>
 ob ((l26[0]?).bind (Value.int? .i64)) fun x27 =>
 ob ((l26[1]?).bind (Value.int? .i64)) fun x28 =>
 ob ((l26[2]?).bind (Value.int? .i64)) fun x29 =>
 ob ((l26[3]?).bind (Value.int? .i64)) fun x30 =>
 ob ((l26[4]?).bind (Value.int? .i64)) fun x31 =>
 ob ((l26[5]?).bind (Value.int? .i64)) fun x32 =>
 ob ((l26[6]?).bind (Value.int? .i64)) fun x33 =>
 ob ((l25[1]?).bind (Value.int? .i64)) fun x34 =>
 ob (acall P T k lo F.wiener_Seven [.agg ⟨[.int .i64 x5, .int .i64 x6, .int .i64 x7]⟩] r24.2) fun r35 =>
 ob (r35.1.tup? 2) fun l36 =>
 ob ((l36[0]?).bind (Value.agg? 7)) fun l37 =>
 ob ((l37[0]?).bind (Value.int? .i64)) fun x38 =>
 ob ((l37[1]?).bind (Value.int? .i64)) fun x39 =>
 ob ((l37[2]?).bind (Value.int? .i64)) fun x40 =>
 ob ((l37[3]?).bind (Value.int? .i64)) fun x41 =>
 ob ((l37[4]?).bind (Value.int? .i64)) fun x42 =>
 ob ((l37[5]?).bind (Value.int? .i64)) fun x43 =>
 ob ((l37[6]?).bind (Value.int? .i64)) fun x44 =>
 ob ((l36[1]?).bind (Value.int? .i64)) fun x45 =>
 ob (acall P T k lo F.zoetroperef24_Seven [.agg ⟨[.int .i64 x5, .int .i64 x6, .int .i64 x7]⟩] r35.2) fun r46 =>
 ob (r46.1.tup? 2) fun l47 =>
 ob ((l47[0]?).bind (Value.agg? 7)) fun l48 =>
 ob ((l48[0]?).bind (Value.int? .i64)) fun x49 =>
 ob ((l48[1]?).bind (Value.int? .i64)) fun x50 =>
 ob ((l48[2]?).bind (Value.int? .i64)) fun x51 =>
 ob ((l48[3]?).bind (Value.int? .i64)) fun x52 =>
 ob ((l48[4]?).bind (Value.int? .i64)) fun x53 =>
 ob ((l48[5]?).bind (Value.int? .i64)) fun x54 =>
 ob ((l48[6]?).bind (Value.int? .i64)) fun x55 =>
 ob ((l47[1]?).bind (Value.int? .i64)) fun x56 =>
 ob (acall P T k r46.2.length F.wiener_Check [.agg ⟨[.bool b1, .int .i64 x2, .int .i64 x3, .int .i64 x4, .int .i64 x5, .int .i64 x6, .int .i64 x7]⟩] r46.2) fun r57 =>
 ob ((some r57.1).bind (Value.int? .i64)) fun x58 =>
 ob (acall P T k r46.2.length F.zoetroperef24_Check [.agg ⟨[.bool b1, .int .i64 x2, .int .i64 x3, .int .i64 x4, .int .i64 x5, .int .i64 x6, .int .i64 x7]⟩] r57.2) fun r59 =>
 ob ((some r59.1).bind (Value.int? .i64)) fun x60 =>
 bb (x58 == x60)
 (ob (Program.keyLits P 9 26 [.int .i64 x16, .int .i64 x17, .int .i64 x18, .int .i64 x19, .int .i64 x20, .int .i64 x21, .int .i64 x22]) fun q61 => ob (Program.keyLits P 9 26 [.int .i64 x27, .int .i64 x28, .int .i64 x29, .int .i64 x30, .int .i64 x31, .int .i64 x32, .int .i64 x33]) fun q62 =>
 bb (sameLits q61 q62)
 (bb (x23 == x34)
 (ob (Program.keyLits P 9 26 [.int .i64 x38, .int .i64 x39, .int .i64 x40, .int .i64 x41, .int .i64 x42, .int .i64 x43, .int .i64 x44]) fun q63 => ob (Program.keyLits P 9 26 [.int .i64 x49, .int .i64 x50, .int .i64 x51, .int .i64 x52, .int .i64 x53, .int .i64 x54, .int .i64 x55]) fun q64 =>
 bb (sameLits q63 q64)
 (bb (x45 == x56)
 (ob (acall P T k r46.2.length F.zoetropelaw24_awake [] r59.2) fun r65 =>
 ob ((some r65.1).bind Value.bool?) fun b66 =>
 some (.ret (.bool b66) r65.2))
 (some (.ret (.bool false) r59.2)))
 (some (.ret (.bool false) r59.2)))
 (some (.ret (.bool false) r59.2)))
 (some (.ret (.bool false) r59.2)))
 (some (.ret (.bool false) r59.2)) := by kernel_rfl
theorem zoetropelaw24_WienerPlanes.entry (k lo : Nat) (x1 : Int) (x2 : Int) (A3 : Option Addr) (n4 : Nat) (c5 : Nat) (x6 : Int) (x7 : Int) (A8 : Option Addr) (n9 : Nat) (c10 : Nat) (A11 : Option Addr) (n12 : Nat) (c13 : Nat) (x14 : Int) (M : Mem) : entry P T k lo F.zoetropelaw24_WienerPlanes [.agg ⟨[.int .i64 x1, .int .i64 x2, .slice A3 n4 c5, .int .i64 x6, .int .i64 x7, .slice A8 n9 c10]⟩, .slice A11 n12 c13, .int .i64 x14] M =
 ob (acall P T k M.length F.zoetroperef05_CopyPlane [.agg ⟨[.int .i64 x1, .int .i64 x2, .slice A3 n4 c5]⟩] M) fun r20 =>
 ob ((some r20.1).bind (Value.agg? 3)) fun l21 =>
 ob ((l21[0]?).bind (Value.int? .i64)) fun x22 =>
 ob ((l21[1]?).bind (Value.int? .i64)) fun x23 =>
 ob ((l21[2]?).bind Value.slc?) fun s24 =>
 ob (acall P T k M.length F.zoetroperef05_CopyPlane [.agg ⟨[.int .i64 x6, .int .i64 x7, .slice A8 n9 c10]⟩] r20.2) fun r25 =>
 ob ((some r25.1).bind (Value.agg? 3)) fun l26 =>
 ob ((l26[0]?).bind (Value.int? .i64)) fun x27 =>
 ob ((l26[1]?).bind (Value.int? .i64)) fun x28 =>
 ob ((l26[2]?).bind Value.slc?) fun s29 =>
 ob (Mem.src r25.2 A11 n12 (n12 * 7)) fun l30 =>
 ob (r25.2.app lo 7 56 ⟨none, 0, 0⟩ l30 n12) fun r31 =>
 ob (acall P T k lo F.wiener_Plane [.agg ⟨[.int .i64 x22, .int .i64 x23, .slice s24.a s24.n s24.c]⟩, .agg ⟨[.int .i64 x27, .int .i64 x28, .slice s29.a s29.n s29.c]⟩, .slice r31.1.a r31.1.n r31.1.c, .int .i64 x14] r31.2) fun r32 =>
 ob (r32.1.tup? 2) fun l33 =>
 ob ((l33[0]?).bind (Value.agg? 3)) fun l34 =>
 ob ((l34[0]?).bind (Value.int? .i64)) fun x35 =>
 ob ((l34[1]?).bind (Value.int? .i64)) fun x36 =>
 ob ((l34[2]?).bind Value.slc?) fun s37 =>
 ob ((l33[1]?).bind (Value.int? .i64)) fun x38 =>
 ob (acall P T k lo F.zoetroperef24_Plane [.agg ⟨[.int .i64 x1, .int .i64 x2, .slice A3 n4 c5]⟩, .agg ⟨[.int .i64 x6, .int .i64 x7, .slice A8 n9 c10]⟩, .slice A11 n12 c13, .int .i64 x14] r32.2) fun r39 =>
 ob (r39.1.tup? 2) fun l40 =>
 ob ((l40[0]?).bind (Value.agg? 3)) fun l41 =>
 ob ((l41[0]?).bind (Value.int? .i64)) fun x42 =>
 ob ((l41[1]?).bind (Value.int? .i64)) fun x43 =>
 ob ((l41[2]?).bind Value.slc?) fun s44 =>
 ob ((l40[1]?).bind (Value.int? .i64)) fun x45 =>
 bb (x38 != x45)
 (some (.ret (.bool false) r39.2))
 (bb (x35 != x42)
 (some (.ret (.bool false) r39.2))
 (bb (x36 != x43)
 (some (.ret (.bool false) r39.2))
 (ob (acall P T k lo F.zoetroperef00_EqBytes [.slice s37.a s37.n s37.c, .slice s44.a s44.n s44.c] r39.2) fun r46 =>
 ob ((some r46.1).bind Value.bool?) fun b47 =>
 bb (!b47)
 (some (.ret (.bool false) r46.2))
 (some (zoetropelaw24_WienerPlanes.c4084 0 x1 x2 A3 n4 c5 x6 x7 A8 n9 c10 x22 x23 s24.a s24.n s24.c x27 x28 s29.a s29.n s29.c x35 x36 s37.a s37.n s37.c r46.2))))) := by kernel_rfl
theorem zoetropelaw24_WienerPlanes.p4084 (k lo : Nat) (x1 : Int) (x2 : Int) (x3 : Int) (A4 : Option Addr) (n5 : Nat) (c6 : Nat) (x7 : Int) (x8 : Int) (A9 : Option Addr) (n10 : Nat) (c11 : Nat) (x12 : Int) (x13 : Int) (A14 : Option Addr) (n15 : Nat) (c16 : Nat) (x17 : Int) (x18 : Int) (A19 : Option Addr) (n20 : Nat) (c21 : Nat) (x22 : Int) (x23 : Int) (A24 : Option Addr) (n25 : Nat) (c26 : Nat) (M : Mem) : piece P T k lo F.zoetropelaw24_WienerPlanes 4084 [.l 3 0, .l 7 0, .l 8 0, .l 10 0, .v (.int .i64 x1)] [[.int .i64 x2, .int .i64 x3, .slice A4 n5 c6, .int .i64 x7, .int .i64 x8, .slice A9 n10 c11], [.int .i64 x12, .int .i64 x13, .slice A14 n15 c16], [.int .i64 x17, .int .i64 x18, .slice A19 n20 c21], [.int .i64 x22, .int .i64 x23, .slice A24 n25 c26]] M =
 bb (decide (x1 < (n25 : Int)))
 (pb (0 ≤ x1 ∧ x1 < (n25 : Int))
 (ob A24 fun a48 =>
 ob ((M.ld (plus a48 x1.toNat)).bind (Value.int? .u8)) fun x49 =>
 pb (0 ≤ x1 ∧ x1 < (n25 : Int))
 (ob A24 fun a50 =>
 ob (M.st lo (plus a50 x1.toNat) [.int .u8 (xorI .u8 x49 90)]) fun M51 =>
 some (zoetropelaw24_WienerPlanes.c4084 (IntKind.i64.wrap (x1 + 1)) x2 x3 A4 n5 c6 x7 x8 A9 n10 c11 x12 x13 A14 n15 c16 x17 x18 A19 n20 c21 x22 x23 A24 n25 c26 M51)) none) none)
 (ob (acall P T k lo F.zoetroperef00_EqBytes [.slice A14 n15 c16, .slice A4 n5 c6] M) fun r52 =>
 ob ((some r52.1).bind Value.bool?) fun b53 =>
 bb b53
 (ob (acall P T k lo F.zoetroperef00_EqBytes [.slice A19 n20 c21, .slice A9 n10 c11] r52.2) fun r54 =>
 ob ((some r54.1).bind Value.bool?) fun b55 =>
 bb b55
 (ob (acall P T k lo F.zoetropelaw24_awake [] r54.2) fun r56 =>
 ob ((some r56.1).bind Value.bool?) fun b57 =>
 some (.ret (.bool b57) r56.2))
 (some (.ret (.bool false) r54.2)))
 (some (.ret (.bool false) r52.2))) := by kernel_rfl
theorem zoetropelaw24_WienerNear.entry (k lo : Nat) (x1 : Int) (x2 : Int) (A3 : Option Addr) (n4 : Nat) (c5 : Nat) (x6 : Int) (x7 : Int) (A8 : Option Addr) (n9 : Nat) (c10 : Nat) (x11 : Int) (x12 : Int) (x13 : Int) (x14 : Int) (x15 : Int) (x16 : Int) (x17 : Int) (x18 : Int) (x19 : Int) (M : Mem) : entry P T k lo F.zoetropelaw24_WienerNear [.agg ⟨[.int .i64 x1, .int .i64 x2, .slice A3 n4 c5, .int .i64 x6, .int .i64 x7, .slice A8 n9 c10]⟩, .agg ⟨[.int .i64 x11, .int .i64 x12, .int .i64 x13]⟩, .agg ⟨[.int .i64 x14, .int .i64 x15, .int .i64 x16, .int .i64 x17, .int .i64 x18, .int .i64 x19]⟩] M =
 ob (acall P T k lo F.zoetropelaw24_awake [] M) fun r25 =>
 ob ((some r25.1).bind Value.bool?) fun b26 =>
 bb (!b26)
 (some (.ret (.bool false) r25.2))
 (ob (acall P T k lo F.plane_Check [.agg ⟨[.int .i64 x1, .int .i64 x2, .slice A3 n4 c5]⟩] r25.2) fun r27 =>
 ob ((some r27.1).bind (Value.int? .i64)) fun x28 =>
 bb (x28 != 0)
 (some (.ret (.bool true) r27.2))
 (ob (acall P T k lo F.plane_Check [.agg ⟨[.int .i64 x6, .int .i64 x7, .slice A8 n9 c10]⟩] r27.2) fun r29 =>
 ob ((some r29.1).bind (Value.int? .i64)) fun x30 =>
 bb (x30 != 0)
 (some (.ret (.bool true) r29.2))
 (bb (x1 != x6)
 (some (.ret (.bool true) r29.2))
 (bb (x2 != x7)
 (some (.ret (.bool true) r29.2))
 (ob (acall P T k lo F.zoetroperef00_Bring [.int .i64 x13, .int .i64 2] r29.2) fun r31 =>
 ob ((some r31.1).bind (Value.int? .i64)) fun x32 =>
 ob (acall P T k r31.2.length F.zoetropelaw24_made [.agg ⟨[.int .i64 x14, .int .i64 x15, .int .i64 x16]⟩] r31.2) fun r33 =>
 ob ((some r33.1).bind (Value.agg? 3)) fun l34 =>
 ob ((l34[0]?).bind (Value.int? .i64)) fun x35 =>
 ob ((l34[1]?).bind (Value.int? .i64)) fun x36 =>
 ob ((l34[2]?).bind (Value.int? .i64)) fun x37 =>
 ob (acall P T k r31.2.length F.zoetropelaw24_made [.agg ⟨[.int .i64 x17, .int .i64 x18, .int .i64 x19]⟩] r33.2) fun r38 =>
 ob ((some r38.1).bind (Value.agg? 3)) fun l39 =>
 ob ((l39[0]?).bind (Value.int? .i64)) fun x40 =>
 ob ((l39[1]?).bind (Value.int? .i64)) fun x41 =>
 ob ((l39[2]?).bind (Value.int? .i64)) fun x42 =>
 ob (acall P T k r31.2.length F.zoetropelaw24_all [.agg ⟨[.int .i64 x1, .int .i64 x2, .slice A3 n4 c5]⟩, .int .i64 (IntKind.i64.wrap (32 + (IntKind.i64.wrap (32 * x32)))), .agg ⟨[.bool true, .int .i64 x35, .int .i64 x36, .int .i64 x37, .int .i64 x40, .int .i64 x41, .int .i64 x42]⟩] r38.2) fun r43 =>
 ob ((some r43.1).bind Value.slc?) fun s44 =>
 ob (acall P T k lo F.wiener_Plane [.agg ⟨[.int .i64 x1, .int .i64 x2, .slice A3 n4 c5]⟩, .agg ⟨[.int .i64 x6, .int .i64 x7, .slice A8 n9 c10]⟩, .slice s44.a s44.n s44.c, .int .i64 (IntKind.i64.wrap (32 + (IntKind.i64.wrap (32 * x32))))] r43.2) fun r45 =>
 ob (r45.1.tup? 2) fun l46 =>
 ob ((l46[0]?).bind (Value.agg? 3)) fun l47 =>
 ob ((l47[0]?).bind (Value.int? .i64)) fun x48 =>
 ob ((l47[1]?).bind (Value.int? .i64)) fun x49 =>
 ob ((l47[2]?).bind Value.slc?) fun s50 =>
 ob ((l46[1]?).bind (Value.int? .i64)) fun x51 =>
 ob (acall P T k r45.2.length F.zoetroperef00_Bring [.int .i64 x11, .int .i64 x1] r45.2) fun r52 =>
 ob ((some r52.1).bind (Value.int? .i64)) fun x53 =>
 ob (acall P T k r45.2.length F.zoetroperef00_Bring [.int .i64 x12, .int .i64 x2] r52.2) fun r54 =>
 ob ((some r54.1).bind (Value.int? .i64)) fun x55 =>
 ob (acall P T k r54.2.length F.zoetroperef00_CopyBytes [.slice A3 n4 c5] r54.2) fun r56 =>
 ob ((some r56.1).bind Value.slc?) fun s57 =>
 ob (acall P T k r56.2.length F.zoetroperef00_CopyBytes [.slice A8 n9 c10] r56.2) fun r58 =>
 ob ((some r58.1).bind Value.slc?) fun s59 =>
 bb (andI .i64 x13 2 == 0)
 (pb (0 ≤ IntKind.i64.wrap ((IntKind.i64.wrap (x55 * x1)) + x53) ∧ IntKind.i64.wrap ((IntKind.i64.wrap (x55 * x1)) + x53) < (s57.n : Int))
 (ob s57.a fun a60 =>
 ob ((r58.2.ld (plus a60 ((IntKind.i64.wrap ((IntKind.i64.wrap (x55 * x1)) + x53)).toNat))).bind (Value.int? .u8)) fun x61 =>
 pb (0 ≤ IntKind.i64.wrap ((IntKind.i64.wrap (x55 * x1)) + x53) ∧ IntKind.i64.wrap ((IntKind.i64.wrap (x55 * x1)) + x53) < (s57.n : Int))
 (ob s57.a fun a62 =>
 ob (r58.2.st lo (plus a62 ((IntKind.i64.wrap ((IntKind.i64.wrap (x55 * x1)) + x53)).toNat)) [.int .u8 (xorI .u8 x61 128)]) fun M63 =>
 some (zoetropelaw24_WienerNear.c2047 (IntKind.i64.wrap (32 + (IntKind.i64.wrap (32 * x32)))) s44.a s44.n s44.c x51 x53 x55 x48 x49 s50.a s50.n s50.c x1 x2 s57.a s57.n s57.c x1 x2 s59.a s59.n s59.c M63)) none) none)
 (pb (0 ≤ IntKind.i64.wrap ((IntKind.i64.wrap (x55 * x1)) + x53) ∧ IntKind.i64.wrap ((IntKind.i64.wrap (x55 * x1)) + x53) < (s59.n : Int))
 (ob s59.a fun a64 =>
 ob ((r58.2.ld (plus a64 ((IntKind.i64.wrap ((IntKind.i64.wrap (x55 * x1)) + x53)).toNat))).bind (Value.int? .u8)) fun x65 =>
 pb (0 ≤ IntKind.i64.wrap ((IntKind.i64.wrap (x55 * x1)) + x53) ∧ IntKind.i64.wrap ((IntKind.i64.wrap (x55 * x1)) + x53) < (s59.n : Int))
 (ob s59.a fun a66 =>
 ob (r58.2.st lo (plus a66 ((IntKind.i64.wrap ((IntKind.i64.wrap (x55 * x1)) + x53)).toNat)) [.int .u8 (xorI .u8 x65 128)]) fun M67 =>
 some (zoetropelaw24_WienerNear.c2047 (IntKind.i64.wrap (32 + (IntKind.i64.wrap (32 * x32)))) s44.a s44.n s44.c x51 x53 x55 x48 x49 s50.a s50.n s50.c x1 x2 s57.a s57.n s57.c x1 x2 s59.a s59.n s59.c M67)) none) none)))))) := by kernel_rfl
theorem zoetropelaw24_WienerNear.p2047 (k lo : Nat) (x1 : Int) (A2 : Option Addr) (n3 : Nat) (c4 : Nat) (x5 : Int) (x6 : Int) (x7 : Int) (x8 : Int) (x9 : Int) (A10 : Option Addr) (n11 : Nat) (c12 : Nat) (x13 : Int) (x14 : Int) (A15 : Option Addr) (n16 : Nat) (c17 : Nat) (x18 : Int) (x19 : Int) (A20 : Option Addr) (n21 : Nat) (c22 : Nat) (M : Mem) : piece P T k lo F.zoetropelaw24_WienerNear 2047 [.v (.int .i64 x1), .v (.slice A2 n3 c4), .l 9 0, .v (.int .i64 x5), .v (.int .i64 x6), .v (.int .i64 x7), .l 13 0, .l 14 0] [[.int .i64 x8, .int .i64 x9, .slice A10 n11 c12], [.int .i64 x13, .int .i64 x14, .slice A15 n16 c17], [.int .i64 x18, .int .i64 x19, .slice A20 n21 c22]] M =
 ob (acall P T k lo F.wiener_Plane [.agg ⟨[.int .i64 x13, .int .i64 x14, .slice A15 n16 c17]⟩, .agg ⟨[.int .i64 x18, .int .i64 x19, .slice A20 n21 c22]⟩, .slice A2 n3 c4, .int .i64 x1] M) fun r68 =>
 ob (r68.1.tup? 2) fun l69 =>
 ob ((l69[0]?).bind (Value.agg? 3)) fun l70 =>
 ob ((l70[0]?).bind (Value.int? .i64)) fun x71 =>
 ob ((l70[1]?).bind (Value.int? .i64)) fun x72 =>
 ob ((l70[2]?).bind Value.slc?) fun s73 =>
 ob ((l69[1]?).bind (Value.int? .i64)) fun x74 =>
 bb (x5 != 0)
 (some (.ret (.bool false) r68.2))
 (bb (x74 != 0)
 (some (.ret (.bool false) r68.2))
 (bb ((n11 : Int) != (n16 : Int))
 (some (.ret (.bool false) r68.2))
 (bb ((s73.n : Int) != (n16 : Int))
 (some (.ret (.bool false) r68.2))
 (some (zoetropelaw24_WienerNear.c131060 x6 x7 0 x8 x9 A10 n11 c12 x13 x14 A15 n16 c17 x71 x72 s73.a s73.n s73.c r68.2))))) := by kernel_rfl
theorem zoetropelaw24_WienerNear.p131060 (k lo : Nat) (x1 : Int) (x2 : Int) (x3 : Int) (x4 : Int) (x5 : Int) (A6 : Option Addr) (n7 : Nat) (c8 : Nat) (x9 : Int) (x10 : Int) (A11 : Option Addr) (n12 : Nat) (c13 : Nat) (x14 : Int) (x15 : Int) (A16 : Option Addr) (n17 : Nat) (c18 : Nat) (M : Mem) : piece P T k lo F.zoetropelaw24_WienerNear 131060 [.l 9 0, .v (.int .i64 x1), .v (.int .i64 x2), .l 13 0, .l 15 0, .v (.int .i64 x3)] [[.int .i64 x4, .int .i64 x5, .slice A6 n7 c8], [.int .i64 x9, .int .i64 x10, .slice A11 n12 c13], [.int .i64 x14, .int .i64 x15, .slice A16 n17 c18]] M =
 bb (decide (x3 < (n12 : Int)))
 (pb (x9 = 0) none
 (pb (x9 = 0) none
 (pb (x9 = 0) none
 (pb (x9 = 0) none
 (bb (decide ((maxI (maxI (maxI (IntKind.i64.wrap ((Int.tmod x3 x9) - x1)) (IntKind.i64.wrap (x1 - (Int.tmod x3 x9)))) (IntKind.i64.wrap ((IntKind.i64.wrap (Int.tdiv x3 x9)) - x2))) (IntKind.i64.wrap (x2 - (IntKind.i64.wrap (Int.tdiv x3 x9))))) > 3))
 (pb (0 ≤ x3 ∧ x3 < (n7 : Int))
 (ob A6 fun a75 =>
 ob ((M.ld (plus a75 x3.toNat)).bind (Value.int? .u8)) fun x76 =>
 pb (0 ≤ x3 ∧ x3 < (n17 : Int))
 (ob A16 fun a77 =>
 ob ((M.ld (plus a77 x3.toNat)).bind (Value.int? .u8)) fun x78 =>
 bb (x76 != x78)
 (some (.ret (.bool false) M))
 (some (zoetropelaw24_WienerNear.c131060 x1 x2 (IntKind.i64.wrap (x3 + 1)) x4 x5 A6 n7 c8 x9 x10 A11 n12 c13 x14 x15 A16 n17 c18 M))) none) none)
 (some (zoetropelaw24_WienerNear.c131060 x1 x2 (IntKind.i64.wrap (x3 + 1)) x4 x5 A6 n7 c8 x9 x10 A11 n12 c13 x14 x15 A16 n17 c18 M)))))))
 (some (.ret (.bool true) M)) := by kernel_rfl
theorem zoetropelaw24_WienerSquares.entry (k lo : Nat) (x1 : Int) (x2 : Int) (A3 : Option Addr) (n4 : Nat) (c5 : Nat) (x6 : Int) (x7 : Int) (A8 : Option Addr) (n9 : Nat) (c10 : Nat) (A11 : Option Addr) (n12 : Nat) (c13 : Nat) (A14 : Option Addr) (n15 : Nat) (c16 : Nat) (M : Mem) : entry P T k lo F.zoetropelaw24_WienerSquares [.agg ⟨[.int .i64 x1, .int .i64 x2, .slice A3 n4 c5, .int .i64 x6, .int .i64 x7, .slice A8 n9 c10]⟩, .slice A11 n12 c13, .slice A14 n15 c16] M =
 ob (acall P T k lo F.zoetropelaw24_awake [] M) fun r22 =>
 ob ((some r22.1).bind Value.bool?) fun b23 =>
 bb (!b23)
 (some (.ret (.bool false) r22.2))
 (ob (acall P T k lo F.plane_Check [.agg ⟨[.int .i64 x1, .int .i64 x2, .slice A3 n4 c5]⟩] r22.2) fun r24 =>
 ob ((some r24.1).bind (Value.int? .i64)) fun x25 =>
 bb (x25 != 0)
 (some (.ret (.bool true) r24.2))
 (ob (acall P T k lo F.plane_Check [.agg ⟨[.int .i64 x6, .int .i64 x7, .slice A8 n9 c10]⟩] r24.2) fun r26 =>
 ob ((some r26.1).bind (Value.int? .i64)) fun x27 =>
 bb (x27 != 0)
 (some (.ret (.bool true) r26.2))
 (bb (x1 != x6)
 (some (.ret (.bool true) r26.2))
 (bb (x2 != x7)
 (some (.ret (.bool true) r26.2))
 (ob (acall P T k lo F.zoetropelaw24_all [.agg ⟨[.int .i64 x1, .int .i64 x2, .slice A3 n4 c5]⟩, .int .i64 32, .agg ⟨[.bool false, .int .i64 0, .int .i64 0, .int .i64 0, .int .i64 0, .int .i64 0, .int .i64 0]⟩] r26.2) fun r28 =>
 ob ((some r28.1).bind Value.slc?) fun s29 =>
 ob (acall P T k lo F.zoetropelaw24_all [.agg ⟨[.int .i64 x1, .int .i64 x2, .slice A3 n4 c5]⟩, .int .i64 32, .agg ⟨[.bool false, .int .i64 0, .int .i64 0, .int .i64 0, .int .i64 0, .int .i64 0, .int .i64 0]⟩] r28.2) fun r30 =>
 ob ((some r30.1).bind Value.slc?) fun s31 =>
 some (zoetropelaw24_WienerSquares.c1012 A11 n12 c13 A14 n15 c16 s29.a s29.n s29.c s31.a s31.n s31.c 0 x1 x2 A3 n4 c5 x6 x7 A8 n9 c10 r30.2)))))) := by kernel_rfl
theorem zoetropelaw24_WienerSquares.p1012 (k lo : Nat) (A1 : Option Addr) (n2 : Nat) (c3 : Nat) (A4 : Option Addr) (n5 : Nat) (c6 : Nat) (A7 : Option Addr) (n8 : Nat) (c9 : Nat) (A10 : Option Addr) (n11 : Nat) (c12 : Nat) (x13 : Int) (x14 : Int) (x15 : Int) (A16 : Option Addr) (n17 : Nat) (c18 : Nat) (x19 : Int) (x20 : Int) (A21 : Option Addr) (n22 : Nat) (c23 : Nat) (M : Mem) : piece P T k lo F.zoetropelaw24_WienerSquares 1012 [.v (.slice A1 n2 c3), .v (.slice A4 n5 c6), .l 3 0, .v (.slice A7 n8 c9), .v (.slice A10 n11 c12), .v (.int .i64 x13)] [[.int .i64 x14, .int .i64 x15, .slice A16 n17 c18, .int .i64 x19, .int .i64 x20, .slice A21 n22 c23]] M =
 bb (decide (x13 < (n8 : Int)))
 (bb (decide ((n2 : Int) > 0))
 (pb ((n2 : Int) = 0) none
 (pb (0 ≤ Int.tmod x13 (n2 : Int) ∧ Int.tmod x13 (n2 : Int) < (n2 : Int))
 (ob A1 fun a32 =>
 ob ((M.ld (plus a32 ((Int.tmod x13 (n2 : Int)).toNat * 3))).bind (Value.int? .i64)) fun x33 =>
 ob ((M.ld (plus (plus a32 ((Int.tmod x13 (n2 : Int)).toNat * 3)) 1)).bind (Value.int? .i64)) fun x34 =>
 ob ((M.ld (plus (plus a32 ((Int.tmod x13 (n2 : Int)).toNat * 3)) 2)).bind (Value.int? .i64)) fun x35 =>
 some (zoetropelaw24_WienerSquares.c32403 A1 n2 c3 A4 n5 c6 A7 n8 c9 A10 n11 c12 x13 x14 x15 A16 n17 c18 x19 x20 A21 n22 c23 x33 x34 x35 M)) none))
 (some (zoetropelaw24_WienerSquares.c32403 A1 n2 c3 A4 n5 c6 A7 n8 c9 A10 n11 c12 x13 x14 x15 A16 n17 c18 x19 x20 A21 n22 c23 0 0 0 M)))
 (ob (acall P T k lo F.wiener_Plane [.agg ⟨[.int .i64 x14, .int .i64 x15, .slice A16 n17 c18]⟩, .agg ⟨[.int .i64 x19, .int .i64 x20, .slice A21 n22 c23]⟩, .slice A7 n8 c9, .int .i64 32] M) fun r36 =>
 ob (r36.1.tup? 2) fun l37 =>
 ob ((l37[0]?).bind (Value.agg? 3)) fun l38 =>
 ob ((l38[0]?).bind (Value.int? .i64)) fun x39 =>
 ob ((l38[1]?).bind (Value.int? .i64)) fun x40 =>
 ob ((l38[2]?).bind Value.slc?) fun s41 =>
 ob ((l37[1]?).bind (Value.int? .i64)) fun x42 =>
 ob (acall P T k lo F.wiener_Plane [.agg ⟨[.int .i64 x14, .int .i64 x15, .slice A16 n17 c18]⟩, .agg ⟨[.int .i64 x19, .int .i64 x20, .slice A21 n22 c23]⟩, .slice A10 n11 c12, .int .i64 32] r36.2) fun r43 =>
 ob (r43.1.tup? 2) fun l44 =>
 ob ((l44[0]?).bind (Value.agg? 3)) fun l45 =>
 ob ((l45[0]?).bind (Value.int? .i64)) fun x46 =>
 ob ((l45[1]?).bind (Value.int? .i64)) fun x47 =>
 ob ((l45[2]?).bind Value.slc?) fun s48 =>
 ob ((l44[1]?).bind (Value.int? .i64)) fun x49 =>
 bb (x42 != 0)
 (some (.ret (.bool false) r43.2))
 (bb (x49 != 0)
 (some (.ret (.bool false) r43.2))
 (some (zoetropelaw24_WienerSquares.c32756 A10 n11 c12 (IntKind.i64.wrap (Int.tdiv (IntKind.i64.wrap (x14 + 31)) 32)) 0 x14 x15 A16 n17 c18 x19 x20 A21 n22 c23 x39 x40 s41.a s41.n s41.c x46 x47 s48.a s48.n s48.c r43.2)))) := by kernel_rfl
theorem zoetropelaw24_WienerSquares.p4051 (k lo : Nat) (A1 : Option Addr) (n2 : Nat) (c3 : Nat) (A4 : Option Addr) (n5 : Nat) (c6 : Nat) (A7 : Option Addr) (n8 : Nat) (c9 : Nat) (A10 : Option Addr) (n11 : Nat) (c12 : Nat) (x13 : Int) (x14 : Int) (x15 : Int) (A16 : Option Addr) (n17 : Nat) (c18 : Nat) (x19 : Int) (x20 : Int) (A21 : Option Addr) (n22 : Nat) (c23 : Nat) (M : Mem) : piece P T k lo F.zoetropelaw24_WienerSquares 4051 [.v (.slice A1 n2 c3), .v (.slice A4 n5 c6), .l 3 0, .v (.slice A7 n8 c9), .v (.slice A10 n11 c12), .v (.int .i64 x13)] [[.int .i64 x14, .int .i64 x15, .slice A16 n17 c18, .int .i64 x19, .int .i64 x20, .slice A21 n22 c23]] M =
 some (zoetropelaw24_WienerSquares.c1012 A1 n2 c3 A4 n5 c6 A7 n8 c9 A10 n11 c12 (IntKind.i64.wrap (x13 + 1)) x14 x15 A16 n17 c18 x19 x20 A21 n22 c23 M) := by kernel_rfl
theorem zoetropelaw24_WienerSquares.p32403 (k lo : Nat) (A1 : Option Addr) (n2 : Nat) (c3 : Nat) (A4 : Option Addr) (n5 : Nat) (c6 : Nat) (A7 : Option Addr) (n8 : Nat) (c9 : Nat) (A10 : Option Addr) (n11 : Nat) (c12 : Nat) (x13 : Int) (x14 : Int) (x15 : Int) (A16 : Option Addr) (n17 : Nat) (c18 : Nat) (x19 : Int) (x20 : Int) (A21 : Option Addr) (n22 : Nat) (c23 : Nat) (x24 : Int) (x25 : Int) (x26 : Int) (M : Mem) : piece P T k lo F.zoetropelaw24_WienerSquares 32403 [.v (.slice A1 n2 c3), .v (.slice A4 n5 c6), .l 3 0, .v (.slice A7 n8 c9), .v (.slice A10 n11 c12), .v (.int .i64 x13), .l 10 0] [[.int .i64 x14, .int .i64 x15, .slice A16 n17 c18, .int .i64 x19, .int .i64 x20, .slice A21 n22 c23], [.int .i64 x24, .int .i64 x25, .int .i64 x26]] M =
 ob (acall P T k M.length F.zoetropelaw24_made [.agg ⟨[.int .i64 x24, .int .i64 x25, .int .i64 x26]⟩] M) fun r50 =>
 ob ((some r50.1).bind (Value.agg? 3)) fun l51 =>
 ob ((l51[0]?).bind (Value.int? .i64)) fun x52 =>
 ob ((l51[1]?).bind (Value.int? .i64)) fun x53 =>
 ob ((l51[2]?).bind (Value.int? .i64)) fun x54 =>
 ob (acall P T k M.length F.zoetropelaw24_made [.agg ⟨[.int .i64 x26, .int .i64 x24, .int .i64 x25]⟩] r50.2) fun r55 =>
 ob ((some r55.1).bind (Value.agg? 3)) fun l56 =>
 ob ((l56[0]?).bind (Value.int? .i64)) fun x57 =>
 ob ((l56[1]?).bind (Value.int? .i64)) fun x58 =>
 ob ((l56[2]?).bind (Value.int? .i64)) fun x59 =>
 pb (0 ≤ x13 ∧ x13 < (n8 : Int))
 (ob A7 fun a60 =>
 ob (r55.2.st lo (plus a60 (x13.toNat * 7)) [.bool true, .int .i64 x52, .int .i64 x53, .int .i64 x54, .int .i64 x57, .int .i64 x58, .int .i64 x59]) fun M61 =>
 pb (0 ≤ x13 ∧ x13 < (n8 : Int))
 (ob A7 fun a62 =>
 ob ((M61.ld (plus a62 (x13.toNat * 7))).bind Value.bool?) fun b63 =>
 ob ((M61.ld (plus (plus a62 (x13.toNat * 7)) 1)).bind (Value.int? .i64)) fun x64 =>
 ob ((M61.ld (plus (plus a62 (x13.toNat * 7)) 2)).bind (Value.int? .i64)) fun x65 =>
 ob ((M61.ld (plus (plus a62 (x13.toNat * 7)) 3)).bind (Value.int? .i64)) fun x66 =>
 ob ((M61.ld (plus (plus a62 (x13.toNat * 7)) 4)).bind (Value.int? .i64)) fun x67 =>
 ob ((M61.ld (plus (plus a62 (x13.toNat * 7)) 5)).bind (Value.int? .i64)) fun x68 =>
 ob ((M61.ld (plus (plus a62 (x13.toNat * 7)) 6)).bind (Value.int? .i64)) fun x69 =>
 pb (0 ≤ x13 ∧ x13 < (n11 : Int))
 (ob A10 fun a70 =>
 ob (M61.st lo (plus a70 (x13.toNat * 7)) [.bool b63, .int .i64 x64, .int .i64 x65, .int .i64 x66, .int .i64 x67, .int .i64 x68, .int .i64 x69]) fun M71 =>
 bb (decide ((n5 : Int) > 0))
 (pb ((n5 : Int) = 0) none
 (pb (0 ≤ Int.tmod x13 (n5 : Int) ∧ Int.tmod x13 (n5 : Int) < (n5 : Int))
 (ob A4 fun a72 =>
 ob ((M71.ld (plus a72 ((Int.tmod x13 (n5 : Int)).toNat))).bind Value.bool?) fun b73 =>
 bb b73
 (pb (0 ≤ x13 ∧ x13 < (n11 : Int))
 (ob A10 fun a74 =>
 ob (M71.st lo (plus a74 (x13.toNat * 7)) [.bool false, .int .i64 0, .int .i64 0, .int .i64 0, .int .i64 0, .int .i64 0, .int .i64 0]) fun M75 =>
 some (zoetropelaw24_WienerSquares.c4051 A1 n2 c3 A4 n5 c6 A7 n8 c9 A10 n11 c12 x13 x14 x15 A16 n17 c18 x19 x20 A21 n22 c23 M75)) none)
 (some (zoetropelaw24_WienerSquares.c4051 A1 n2 c3 A4 n5 c6 A7 n8 c9 A10 n11 c12 x13 x14 x15 A16 n17 c18 x19 x20 A21 n22 c23 M71))) none))
 (some (zoetropelaw24_WienerSquares.c4051 A1 n2 c3 A4 n5 c6 A7 n8 c9 A10 n11 c12 x13 x14 x15 A16 n17 c18 x19 x20 A21 n22 c23 M71))) none) none) none := by kernel_rfl
theorem zoetropelaw24_WienerSquares.p32756 (k lo : Nat) (A1 : Option Addr) (n2 : Nat) (c3 : Nat) (x4 : Int) (x5 : Int) (x6 : Int) (x7 : Int) (A8 : Option Addr) (n9 : Nat) (c10 : Nat) (x11 : Int) (x12 : Int) (A13 : Option Addr) (n14 : Nat) (c15 : Nat) (x16 : Int) (x17 : Int) (A18 : Option Addr) (n19 : Nat) (c20 : Nat) (x21 : Int) (x22 : Int) (A23 : Option Addr) (n24 : Nat) (c25 : Nat) (M : Mem) : piece P T k lo F.zoetropelaw24_WienerSquares 32756 [.l 3 0, .v (.slice A1 n2 c3), .l 11 0, .l 13 0, .v (.int .i64 x4), .v (.int .i64 x5)] [[.int .i64 x6, .int .i64 x7, .slice A8 n9 c10, .int .i64 x11, .int .i64 x12, .slice A13 n14 c15], [.int .i64 x16, .int .i64 x17, .slice A18 n19 c20], [.int .i64 x21, .int .i64 x22, .slice A23 n24 c25]] M =
 bb (decide (x5 < (n9 : Int)))
 (pb (x6 = 0) none
 (pb (x6 = 0) none
 (pb (0 ≤ IntKind.i64.wrap ((IntKind.i64.wrap ((IntKind.i64.wrap (Int.tdiv (IntKind.i64.wrap (Int.tdiv x5 x6)) 32)) * x4)) + (IntKind.i64.wrap (Int.tdiv (Int.tmod x5 x6) 32))) ∧ IntKind.i64.wrap ((IntKind.i64.wrap ((IntKind.i64.wrap (Int.tdiv (IntKind.i64.wrap (Int.tdiv x5 x6)) 32)) * x4)) + (IntKind.i64.wrap (Int.tdiv (Int.tmod x5 x6) 32))) < (n2 : Int))
 (ob A1 fun a76 =>
 ob ((M.ld (plus a76 ((IntKind.i64.wrap ((IntKind.i64.wrap ((IntKind.i64.wrap (Int.tdiv (IntKind.i64.wrap (Int.tdiv x5 x6)) 32)) * x4)) + (IntKind.i64.wrap (Int.tdiv (Int.tmod x5 x6) 32)))).toNat * 7))).bind Value.bool?) fun b77 =>
 bb b77
 (pb (0 ≤ x5 ∧ x5 < (n19 : Int))
 (ob A18 fun a78 =>
 ob ((M.ld (plus a78 x5.toNat)).bind (Value.int? .u8)) fun x79 =>
 pb (0 ≤ x5 ∧ x5 < (n24 : Int))
 (ob A23 fun a80 =>
 ob ((M.ld (plus a80 x5.toNat)).bind (Value.int? .u8)) fun x81 =>
 bb (x79 != x81)
 (some (.ret (.bool false) M))
 (pb (0 ≤ IntKind.i64.wrap ((IntKind.i64.wrap ((IntKind.i64.wrap (Int.tdiv (IntKind.i64.wrap (Int.tdiv x5 x6)) 32)) * x4)) + (IntKind.i64.wrap (Int.tdiv (Int.tmod x5 x6) 32))) ∧ IntKind.i64.wrap ((IntKind.i64.wrap ((IntKind.i64.wrap (Int.tdiv (IntKind.i64.wrap (Int.tdiv x5 x6)) 32)) * x4)) + (IntKind.i64.wrap (Int.tdiv (Int.tmod x5 x6) 32))) < (n2 : Int))
 (ob A1 fun a82 =>
 ob ((M.ld (plus a82 ((IntKind.i64.wrap ((IntKind.i64.wrap ((IntKind.i64.wrap (Int.tdiv (IntKind.i64.wrap (Int.tdiv x5 x6)) 32)) * x4)) + (IntKind.i64.wrap (Int.tdiv (Int.tmod x5 x6) 32)))).toNat * 7))).bind Value.bool?) fun b83 =>
 bb (!b83)
 (pb (0 ≤ x5 ∧ x5 < (n24 : Int))
 (ob A23 fun a84 =>
 ob ((M.ld (plus a84 x5.toNat)).bind (Value.int? .u8)) fun x85 =>
 pb (0 ≤ x5 ∧ x5 < (n9 : Int))
 (ob A8 fun a86 =>
 ob ((M.ld (plus a86 x5.toNat)).bind (Value.int? .u8)) fun x87 =>
 bb (x85 != x87)
 (some (.ret (.bool false) M))
 (some (zoetropelaw24_WienerSquares.c32756 A1 n2 c3 x4 (IntKind.i64.wrap (x5 + 1)) x6 x7 A8 n9 c10 x11 x12 A13 n14 c15 x16 x17 A18 n19 c20 x21 x22 A23 n24 c25 M))) none) none)
 (some (zoetropelaw24_WienerSquares.c32756 A1 n2 c3 x4 (IntKind.i64.wrap (x5 + 1)) x6 x7 A8 n9 c10 x11 x12 A13 n14 c15 x16 x17 A18 n19 c20 x21 x22 A23 n24 c25 M))) none)) none) none)
 (pb (0 ≤ IntKind.i64.wrap ((IntKind.i64.wrap ((IntKind.i64.wrap (Int.tdiv (IntKind.i64.wrap (Int.tdiv x5 x6)) 32)) * x4)) + (IntKind.i64.wrap (Int.tdiv (Int.tmod x5 x6) 32))) ∧ IntKind.i64.wrap ((IntKind.i64.wrap ((IntKind.i64.wrap (Int.tdiv (IntKind.i64.wrap (Int.tdiv x5 x6)) 32)) * x4)) + (IntKind.i64.wrap (Int.tdiv (Int.tmod x5 x6) 32))) < (n2 : Int))
 (ob A1 fun a88 =>
 ob ((M.ld (plus a88 ((IntKind.i64.wrap ((IntKind.i64.wrap ((IntKind.i64.wrap (Int.tdiv (IntKind.i64.wrap (Int.tdiv x5 x6)) 32)) * x4)) + (IntKind.i64.wrap (Int.tdiv (Int.tmod x5 x6) 32)))).toNat * 7))).bind Value.bool?) fun b89 =>
 bb (!b89)
 (pb (0 ≤ x5 ∧ x5 < (n24 : Int))
 (ob A23 fun a90 =>
 ob ((M.ld (plus a90 x5.toNat)).bind (Value.int? .u8)) fun x91 =>
 pb (0 ≤ x5 ∧ x5 < (n9 : Int))
 (ob A8 fun a92 =>
 ob ((M.ld (plus a92 x5.toNat)).bind (Value.int? .u8)) fun x93 =>
 bb (x91 != x93)
 (some (.ret (.bool false) M))
 (some (zoetropelaw24_WienerSquares.c32756 A1 n2 c3 x4 (IntKind.i64.wrap (x5 + 1)) x6 x7 A8 n9 c10 x11 x12 A13 n14 c15 x16 x17 A18 n19 c20 x21 x22 A23 n24 c25 M))) none) none)
 (some (zoetropelaw24_WienerSquares.c32756 A1 n2 c3 x4 (IntKind.i64.wrap (x5 + 1)) x6 x7 A8 n9 c10 x11 x12 A13 n14 c15 x16 x17 A18 n19 c20 x21 x22 A23 n24 c25 M))) none)) none)))
 (some (.ret (.bool true) M)) := by kernel_rfl
theorem zoetropelaw24_WienerNames.entry (k lo : Nat) (M : Mem) : entry P T k lo F.zoetropelaw24_WienerNames [] M =
 some (zoetropelaw24_WienerNames.c116 (some ⟨M.length, 0, none⟩) 12 12 0 (M ++ [⟨.fx, [.bool true, .int .i64 0, .int .i64 0, .int .i64 0, .int .i64 0, .int .i64 0, .int .i64 0, .bool false, .int .i64 0, .int .i64 0, .int .i64 0, .int .i64 0, .int .i64 0, .int .i64 0, .bool false, .int .i64 1, .int .i64 0, .int .i64 0, .int .i64 0, .int .i64 0, .int .i64 0, .bool true, .int .i64 0, .int .i64 9, .int .i64 0, .int .i64 0, .int .i64 0, .int .i64 0, .bool true, .int .i64 (-5), .int .i64 (-23), .int .i64 (-17), .int .i64 10, .int .i64 8, .int .i64 46, .bool true, .int .i64 0, .int .i64 0, .int .i64 0, .int .i64 11, .int .i64 0, .int .i64 0, .bool true, .int .i64 0, .int .i64 0, .int .i64 0, .int .i64 (-6), .int .i64 0, .int .i64 0, .bool true, .int .i64 0, .int .i64 0, .int .i64 0, .int .i64 0, .int .i64 (-24), .int .i64 0, .bool true, .int .i64 0, .int .i64 0, .int .i64 0, .int .i64 0, .int .i64 0, .int .i64 (-18), .bool true, .int .i64 0, .int .i64 0, .int .i64 0, .int .i64 0, .int .i64 0, .int .i64 47, .bool true, .int .i64 4611686018427387904, .int .i64 4611686018427387904, .int .i64 4611686018427387904, .int .i64 0, .int .i64 0, .int .i64 0, .bool false, .int .i64 0, .int .i64 0, .int .i64 0, .int .i64 (-9223372036854775808), .int .i64 0, .int .i64 0]⟩] : Mem)) := by kernel_rfl
theorem zoetropelaw24_WienerNames.p116 (k lo : Nat) (A1 : Option Addr) (n2 : Nat) (c3 : Nat) (x4 : Int) (M : Mem) : piece P T k lo F.zoetropelaw24_WienerNames 116 [.v (.slice A1 n2 c3), .v (.int .i64 x4)] [] M =
 bb (decide (x4 < (n2 : Int)))
 (pb (0 ≤ x4 ∧ x4 < (n2 : Int))
 (ob A1 fun a6 =>
 ob ((M.ld (plus a6 (x4.toNat * 7))).bind Value.bool?) fun b7 =>
 ob ((M.ld (plus (plus a6 (x4.toNat * 7)) 1)).bind (Value.int? .i64)) fun x8 =>
 ob ((M.ld (plus (plus a6 (x4.toNat * 7)) 2)).bind (Value.int? .i64)) fun x9 =>
 ob ((M.ld (plus (plus a6 (x4.toNat * 7)) 3)).bind (Value.int? .i64)) fun x10 =>
 ob ((M.ld (plus (plus a6 (x4.toNat * 7)) 4)).bind (Value.int? .i64)) fun x11 =>
 ob ((M.ld (plus (plus a6 (x4.toNat * 7)) 5)).bind (Value.int? .i64)) fun x12 =>
 ob ((M.ld (plus (plus a6 (x4.toNat * 7)) 6)).bind (Value.int? .i64)) fun x13 =>
 ob (acall P T k lo F.zoetropelaw24_WienerTaps [.agg ⟨[.bool b7, .int .i64 x8, .int .i64 x9, .int .i64 x10, .int .i64 x11, .int .i64 x12, .int .i64 x13]⟩] M) fun r14 =>
 ob ((some r14.1).bind Value.bool?) fun b15 =>
 bb (!b15)
 (some (.ret (.bool false) r14.2))
 (ob (acall P T k lo F.zoetropelaw24_usual [] r14.2) fun r16 =>
 ob ((some r16.1).bind (Value.agg? 3)) fun l17 =>
 ob ((l17[0]?).bind (Value.int? .i64)) fun x18 =>
 ob ((l17[1]?).bind (Value.int? .i64)) fun x19 =>
 ob ((l17[2]?).bind Value.slc?) fun s20 =>
 ob (acall P T k lo F.zoetropelaw24_usual [] r16.2) fun r21 =>
 ob ((some r21.1).bind (Value.agg? 3)) fun l22 =>
 ob ((l22[0]?).bind (Value.int? .i64)) fun x23 =>
 ob ((l22[1]?).bind (Value.int? .i64)) fun x24 =>
 ob ((l22[2]?).bind Value.slc?) fun s25 =>
 pb (0 ≤ x4 ∧ x4 ≤ IntKind.i64.wrap (x4 + 1) ∧ IntKind.i64.wrap (x4 + 1) ≤ (c3 : Int))
 (ob (acall P T k lo F.zoetropelaw24_WienerPlanes [.agg ⟨[.int .i64 x18, .int .i64 x19, .slice s20.a s20.n s20.c, .int .i64 x23, .int .i64 x24, .slice s25.a s25.n s25.c]⟩, .slice (slAddr 7 A1 x4.toNat c3) (((IntKind.i64.wrap (x4 + 1)).toNat) - x4.toNat) (c3 - x4.toNat), .int .i64 64] r21.2) fun r26 =>
 ob ((some r26.1).bind Value.bool?) fun b27 =>
 bb (!b27)
 (some (.ret (.bool false) r26.2))
 (ob (acall P T k lo F.zoetropelaw24_usual [] r26.2) fun r28 =>
 ob ((some r28.1).bind (Value.agg? 3)) fun l29 =>
 ob ((l29[0]?).bind (Value.int? .i64)) fun x30 =>
 ob ((l29[1]?).bind (Value.int? .i64)) fun x31 =>
 ob ((l29[2]?).bind Value.slc?) fun s32 =>
 ob (acall P T k lo F.zoetropelaw24_usual [] r28.2) fun r33 =>
 ob ((some r33.1).bind (Value.agg? 3)) fun l34 =>
 ob ((l34[0]?).bind (Value.int? .i64)) fun x35 =>
 ob ((l34[1]?).bind (Value.int? .i64)) fun x36 =>
 ob ((l34[2]?).bind Value.slc?) fun s37 =>
 pb (0 ≤ x4 ∧ x4 ≤ IntKind.i64.wrap (x4 + 1) ∧ IntKind.i64.wrap (x4 + 1) ≤ (c3 : Int))
 (ob (acall P T k lo F.zoetropelaw24_WienerPlanes [.agg ⟨[.int .i64 x30, .int .i64 x31, .slice s32.a s32.n s32.c, .int .i64 x35, .int .i64 x36, .slice s37.a s37.n s37.c]⟩, .slice (slAddr 7 A1 x4.toNat c3) (((IntKind.i64.wrap (x4 + 1)).toNat) - x4.toNat) (c3 - x4.toNat), .int .i64 32] r33.2) fun r38 =>
 ob ((some r38.1).bind Value.bool?) fun b39 =>
 bb (!b39)
 (some (.ret (.bool false) r38.2))
 (some (zoetropelaw24_WienerNames.c116 A1 n2 c3 (IntKind.i64.wrap (x4 + 1)) r38.2))) none)) none)) none)
 (ob (acall P T k lo F.wiener_Seven [.agg ⟨[.int .i64 (-5), .int .i64 8, .int .i64 46]⟩] M) fun r40 =>
 ob (r40.1.tup? 2) fun l41 =>
 ob ((l41[0]?).bind (Value.agg? 7)) fun l42 =>
 ob ((l42[0]?).bind (Value.int? .i64)) fun x43 =>
 ob ((l42[1]?).bind (Value.int? .i64)) fun x44 =>
 ob ((l42[2]?).bind (Value.int? .i64)) fun x45 =>
 ob ((l42[3]?).bind (Value.int? .i64)) fun x46 =>
 ob ((l42[4]?).bind (Value.int? .i64)) fun x47 =>
 ob ((l42[5]?).bind (Value.int? .i64)) fun x48 =>
 ob ((l42[6]?).bind (Value.int? .i64)) fun x49 =>
 ob ((l41[1]?).bind (Value.int? .i64)) fun x50 =>
 ob (acall P T k lo F.wiener_Seven [.agg ⟨[.int .i64 0, .int .i64 0, .int .i64 0]⟩] r40.2) fun r51 =>
 ob (r51.1.tup? 2) fun l52 =>
 ob ((l52[0]?).bind (Value.agg? 7)) fun l53 =>
 ob ((l53[0]?).bind (Value.int? .i64)) fun x54 =>
 ob ((l53[1]?).bind (Value.int? .i64)) fun x55 =>
 ob ((l53[2]?).bind (Value.int? .i64)) fun x56 =>
 ob ((l53[3]?).bind (Value.int? .i64)) fun x57 =>
 ob ((l53[4]?).bind (Value.int? .i64)) fun x58 =>
 ob ((l53[5]?).bind (Value.int? .i64)) fun x59 =>
 ob ((l53[6]?).bind (Value.int? .i64)) fun x60 =>
 ob ((l52[1]?).bind (Value.int? .i64)) fun x61 =>
 pb (0 ≤ (2310 : Int) ∧ room 2310 1)
 (some (zoetropelaw24_WienerNames.c2036 A1 n2 c3 x50 x61 0 x43 x44 x45 x46 x47 x48 x49 x54 x55 x56 x57 x58 x59 x60 33 70 (some ⟨r51.2.length, 0, none⟩) 2310 2310 (r51.2 ++ [⟨.fx, zerosL [.int .u8 0] 2310⟩] : Mem))) none) := by kernel_rfl
theorem zoetropelaw24_WienerNames.p2036 (k lo : Nat) (A1 : Option Addr) (n2 : Nat) (c3 : Nat) (x4 : Int) (x5 : Int) (x6 : Int) (x7 : Int) (x8 : Int) (x9 : Int) (x10 : Int) (x11 : Int) (x12 : Int) (x13 : Int) (x14 : Int) (x15 : Int) (x16 : Int) (x17 : Int) (x18 : Int) (x19 : Int) (x20 : Int) (x21 : Int) (x22 : Int) (A23 : Option Addr) (n24 : Nat) (c25 : Nat) (M : Mem) : piece P T k lo F.zoetropelaw24_WienerNames 2036 [.v (.slice A1 n2 c3), .l 3 0, .v (.int .i64 x4), .l 5 0, .v (.int .i64 x5), .l 7 0, .v (.int .i64 x6)] [[.int .i64 x7, .int .i64 x8, .int .i64 x9, .int .i64 x10, .int .i64 x11, .int .i64 x12, .int .i64 x13], [.int .i64 x14, .int .i64 x15, .int .i64 x16, .int .i64 x17, .int .i64 x18, .int .i64 x19, .int .i64 x20], [.int .i64 x21, .int .i64 x22, .slice A23 n24 c25]] M =
 bb (decide (x6 < (n24 : Int)))
 (pb (0 ≤ x6 ∧ x6 < (n24 : Int))
 (ob A23 fun a62 =>
 ob (M.st lo (plus a62 x6.toNat) [.int .u8 (IntKind.u8.wrap (IntKind.i64.wrap (Int.tdiv (IntKind.i64.wrap (x6 * x6)) 7)))]) fun M63 =>
 some (zoetropelaw24_WienerNames.c2036 A1 n2 c3 x4 x5 (IntKind.i64.wrap (x6 + 1)) x7 x8 x9 x10 x11 x12 x13 x14 x15 x16 x17 x18 x19 x20 x21 x22 A23 n24 c25 M63)) none)
 (ob (acall P T k lo F.plane_New [.int .i64 33, .int .i64 70, .int .u8 9] M) fun r64 =>
 ob (r64.1.tup? 2) fun l65 =>
 ob ((l65[0]?).bind (Value.agg? 3)) fun l66 =>
 ob ((l66[0]?).bind (Value.int? .i64)) fun x67 =>
 ob ((l66[1]?).bind (Value.int? .i64)) fun x68 =>
 ob ((l66[2]?).bind Value.slc?) fun s69 =>
 ob ((l65[1]?).bind (Value.int? .i64)) fun x70 =>
 some (zoetropelaw24_WienerNames.c16372 A1 n2 c3 x4 x5 (some ⟨r64.2.length, 0, none⟩) 6 6 0 x7 x8 x9 x10 x11 x12 x13 x14 x15 x16 x17 x18 x19 x20 x21 x22 A23 n24 c25 x67 x68 s69.a s69.n s69.c (r64.2 ++ [⟨.fx, [.int .i64 64, .int .i64 32, .int .i64 16, .int .i64 0, .int .i64 (-32), .int .i64 65]⟩] : Mem))) := by kernel_rfl
theorem zoetropelaw24_WienerNames.p16372 (k lo : Nat) (A1 : Option Addr) (n2 : Nat) (c3 : Nat) (x4 : Int) (x5 : Int) (A6 : Option Addr) (n7 : Nat) (c8 : Nat) (x9 : Int) (x10 : Int) (x11 : Int) (x12 : Int) (x13 : Int) (x14 : Int) (x15 : Int) (x16 : Int) (x17 : Int) (x18 : Int) (x19 : Int) (x20 : Int) (x21 : Int) (x22 : Int) (x23 : Int) (x24 : Int) (x25 : Int) (A26 : Option Addr) (n27 : Nat) (c28 : Nat) (x29 : Int) (x30 : Int) (A31 : Option Addr) (n32 : Nat) (c33 : Nat) (M : Mem) : piece P T k lo F.zoetropelaw24_WienerNames 16372 [.v (.slice A1 n2 c3), .l 3 0, .v (.int .i64 x4), .l 5 0, .v (.int .i64 x5), .l 7 0, .l 9 0, .v (.slice A6 n7 c8), .v (.int .i64 x9)] [[.int .i64 x10, .int .i64 x11, .int .i64 x12, .int .i64 x13, .int .i64 x14, .int .i64 x15, .int .i64 x16], [.int .i64 x17, .int .i64 x18, .int .i64 x19, .int .i64 x20, .int .i64 x21, .int .i64 x22, .int .i64 x23], [.int .i64 x24, .int .i64 x25, .slice A26 n27 c28], [.int .i64 x29, .int .i64 x30, .slice A31 n32 c33]] M =
 bb (decide (x9 < (n7 : Int)))
 (pb (0 ≤ (4 : Int) ∧ (4 : Int) ≤ 6 ∧ (6 : Int) ≤ (c3 : Int))
 (pb (0 ≤ x9 ∧ x9 < (n7 : Int))
 (ob A6 fun a71 =>
 ob ((M.ld (plus a71 x9.toNat)).bind (Value.int? .i64)) fun x72 =>
 ob (acall P T k M.length F.zoetropelaw24_WienerPlanes [.agg ⟨[.int .i64 x24, .int .i64 x25, .slice A26 n27 c28, .int .i64 x29, .int .i64 x30, .slice A31 n32 c33]⟩, .slice (slAddr 7 A1 4 c3) 2 (c3 - 4), .int .i64 x72] M) fun r73 =>
 ob ((some r73.1).bind Value.bool?) fun b74 =>
 bb (!b74)
 (some (.ret (.bool false) r73.2))
 (pb (0 ≤ (4 : Int) ∧ (4 : Int) < (n2 : Int))
 (ob A1 fun a75 =>
 ob ((r73.2.ld (plus a75 28)).bind Value.bool?) fun b76 =>
 ob ((r73.2.ld (plus (plus a75 28) 1)).bind (Value.int? .i64)) fun x77 =>
 ob ((r73.2.ld (plus (plus a75 28) 2)).bind (Value.int? .i64)) fun x78 =>
 ob ((r73.2.ld (plus (plus a75 28) 3)).bind (Value.int? .i64)) fun x79 =>
 ob ((r73.2.ld (plus (plus a75 28) 4)).bind (Value.int? .i64)) fun x80 =>
 ob ((r73.2.ld (plus (plus a75 28) 5)).bind (Value.int? .i64)) fun x81 =>
 ob ((r73.2.ld (plus (plus a75 28) 6)).bind (Value.int? .i64)) fun x82 =>
 pb (0 ≤ (4 : Int) ∧ (4 : Int) < (n2 : Int))
 (ob A1 fun a83 =>
 ob ((r73.2.ld (plus a83 28)).bind Value.bool?) fun b84 =>
 ob ((r73.2.ld (plus (plus a83 28) 1)).bind (Value.int? .i64)) fun x85 =>
 ob ((r73.2.ld (plus (plus a83 28) 2)).bind (Value.int? .i64)) fun x86 =>
 ob ((r73.2.ld (plus (plus a83 28) 3)).bind (Value.int? .i64)) fun x87 =>
 ob ((r73.2.ld (plus (plus a83 28) 4)).bind (Value.int? .i64)) fun x88 =>
 ob ((r73.2.ld (plus (plus a83 28) 5)).bind (Value.int? .i64)) fun x89 =>
 ob ((r73.2.ld (plus (plus a83 28) 6)).bind (Value.int? .i64)) fun x90 =>
 pb (0 ≤ (1 : Int) ∧ (1 : Int) < (n2 : Int))
 (ob A1 fun a91 =>
 ob ((r73.2.ld (plus a91 7)).bind Value.bool?) fun b92 =>
 ob ((r73.2.ld (plus (plus a91 7) 1)).bind (Value.int? .i64)) fun x93 =>
 ob ((r73.2.ld (plus (plus a91 7) 2)).bind (Value.int? .i64)) fun x94 =>
 ob ((r73.2.ld (plus (plus a91 7) 3)).bind (Value.int? .i64)) fun x95 =>
 ob ((r73.2.ld (plus (plus a91 7) 4)).bind (Value.int? .i64)) fun x96 =>
 ob ((r73.2.ld (plus (plus a91 7) 5)).bind (Value.int? .i64)) fun x97 =>
 ob ((r73.2.ld (plus (plus a91 7) 6)).bind (Value.int? .i64)) fun x98 =>
 pb (0 ≤ (0 : Int) ∧ (0 : Int) < (n2 : Int))
 (ob A1 fun a99 =>
 ob ((r73.2.ld a99).bind Value.bool?) fun b100 =>
 ob ((r73.2.ld (plus a99 1)).bind (Value.int? .i64)) fun x101 =>
 ob ((r73.2.ld (plus a99 2)).bind (Value.int? .i64)) fun x102 =>
 ob ((r73.2.ld (plus a99 3)).bind (Value.int? .i64)) fun x103 =>
 ob ((r73.2.ld (plus a99 4)).bind (Value.int? .i64)) fun x104 =>
 ob ((r73.2.ld (plus a99 5)).bind (Value.int? .i64)) fun x105 =>
 ob ((r73.2.ld (plus a99 6)).bind (Value.int? .i64)) fun x106 =>
 pb (0 ≤ (4 : Int) ∧ (4 : Int) < (n2 : Int))
 (ob A1 fun a107 =>
 ob ((r73.2.ld (plus a107 28)).bind Value.bool?) fun b108 =>
 ob ((r73.2.ld (plus (plus a107 28) 1)).bind (Value.int? .i64)) fun x109 =>
 ob ((r73.2.ld (plus (plus a107 28) 2)).bind (Value.int? .i64)) fun x110 =>
 ob ((r73.2.ld (plus (plus a107 28) 3)).bind (Value.int? .i64)) fun x111 =>
 ob ((r73.2.ld (plus (plus a107 28) 4)).bind (Value.int? .i64)) fun x112 =>
 ob ((r73.2.ld (plus (plus a107 28) 5)).bind (Value.int? .i64)) fun x113 =>
 ob ((r73.2.ld (plus (plus a107 28) 6)).bind (Value.int? .i64)) fun x114 =>
 pb (0 ≤ (4 : Int) ∧ (4 : Int) < (n2 : Int))
 (ob A1 fun a115 =>
 ob ((r73.2.ld (plus a115 28)).bind Value.bool?) fun b116 =>
 ob ((r73.2.ld (plus (plus a115 28) 1)).bind (Value.int? .i64)) fun x117 =>
 ob ((r73.2.ld (plus (plus a115 28) 2)).bind (Value.int? .i64)) fun x118 =>
 ob ((r73.2.ld (plus (plus a115 28) 3)).bind (Value.int? .i64)) fun x119 =>
 ob ((r73.2.ld (plus (plus a115 28) 4)).bind (Value.int? .i64)) fun x120 =>
 ob ((r73.2.ld (plus (plus a115 28) 5)).bind (Value.int? .i64)) fun x121 =>
 ob ((r73.2.ld (plus (plus a115 28) 6)).bind (Value.int? .i64)) fun x122 =>
 pb (0 ≤ x9 ∧ x9 < (n7 : Int))
 (ob A6 fun a123 =>
 ob ((if ((plus a123 x9.toNat).block) < M.length then (r73.2 ++ [⟨.fx, [.bool b76, .int .i64 x77, .int .i64 x78, .int .i64 x79, .int .i64 x80, .int .i64 x81, .int .i64 x82, .bool b84, .int .i64 x85, .int .i64 x86, .int .i64 x87, .int .i64 x88, .int .i64 x89, .int .i64 x90, .bool b92, .int .i64 x93, .int .i64 x94, .int .i64 x95, .int .i64 x96, .int .i64 x97, .int .i64 x98, .bool b100, .int .i64 x101, .int .i64 x102, .int .i64 x103, .int .i64 x104, .int .i64 x105, .int .i64 x106, .bool b108, .int .i64 x109, .int .i64 x110, .int .i64 x111, .int .i64 x112, .int .i64 x113, .int .i64 x114, .bool b116, .int .i64 x117, .int .i64 x118, .int .i64 x119, .int .i64 x120, .int .i64 x121, .int .i64 x122]⟩] : Mem).ld (plus a123 x9.toNat) else none).bind (Value.int? .i64)) fun x124 =>
 ob (acall P T k M.length F.zoetropelaw24_WienerPlanes [.agg ⟨[.int .i64 x24, .int .i64 x25, .slice A26 n27 c28, .int .i64 x29, .int .i64 x30, .slice A31 n32 c33]⟩, .slice (some ⟨r73.2.length, 0, none⟩) 6 6, .int .i64 x124] (r73.2 ++ [⟨.fx, [.bool b76, .int .i64 x77, .int .i64 x78, .int .i64 x79, .int .i64 x80, .int .i64 x81, .int .i64 x82, .bool b84, .int .i64 x85, .int .i64 x86, .int .i64 x87, .int .i64 x88, .int .i64 x89, .int .i64 x90, .bool b92, .int .i64 x93, .int .i64 x94, .int .i64 x95, .int .i64 x96, .int .i64 x97, .int .i64 x98, .bool b100, .int .i64 x101, .int .i64 x102, .int .i64 x103, .int .i64 x104, .int .i64 x105, .int .i64 x106, .bool b108, .int .i64 x109, .int .i64 x110, .int .i64 x111, .int .i64 x112, .int .i64 x113, .int .i64 x114, .bool b116, .int .i64 x117, .int .i64 x118, .int .i64 x119, .int .i64 x120, .int .i64 x121, .int .i64 x122]⟩] : Mem)) fun r125 =>
 ob ((some r125.1).bind Value.bool?) fun b126 =>
 bb (!b126)
 (some (.ret (.bool false) r125.2))
 (pb (0 ≤ (4 : Int) ∧ (4 : Int) < (n2 : Int))
 (ob A1 fun a127 =>
 ob ((r125.2.ld (plus a127 28)).bind Value.bool?) fun b128 =>
 ob ((r125.2.ld (plus (plus a127 28) 1)).bind (Value.int? .i64)) fun x129 =>
 ob ((r125.2.ld (plus (plus a127 28) 2)).bind (Value.int? .i64)) fun x130 =>
 ob ((r125.2.ld (plus (plus a127 28) 3)).bind (Value.int? .i64)) fun x131 =>
 ob ((r125.2.ld (plus (plus a127 28) 4)).bind (Value.int? .i64)) fun x132 =>
 ob ((r125.2.ld (plus (plus a127 28) 5)).bind (Value.int? .i64)) fun x133 =>
 ob ((r125.2.ld (plus (plus a127 28) 6)).bind (Value.int? .i64)) fun x134 =>
 pb (0 ≤ (4 : Int) ∧ (4 : Int) < (n2 : Int))
 (ob A1 fun a135 =>
 ob ((r125.2.ld (plus a135 28)).bind Value.bool?) fun b136 =>
 ob ((r125.2.ld (plus (plus a135 28) 1)).bind (Value.int? .i64)) fun x137 =>
 ob ((r125.2.ld (plus (plus a135 28) 2)).bind (Value.int? .i64)) fun x138 =>
 ob ((r125.2.ld (plus (plus a135 28) 3)).bind (Value.int? .i64)) fun x139 =>
 ob ((r125.2.ld (plus (plus a135 28) 4)).bind (Value.int? .i64)) fun x140 =>
 ob ((r125.2.ld (plus (plus a135 28) 5)).bind (Value.int? .i64)) fun x141 =>
 ob ((r125.2.ld (plus (plus a135 28) 6)).bind (Value.int? .i64)) fun x142 =>
 pb (0 ≤ x9 ∧ x9 < (n7 : Int))
 (ob A6 fun a143 =>
 ob ((if ((plus a143 x9.toNat).block) < M.length then (r125.2 ++ [⟨.fx, [.bool b128, .int .i64 x129, .int .i64 x130, .int .i64 x131, .int .i64 x132, .int .i64 x133, .int .i64 x134, .bool b136, .int .i64 x137, .int .i64 x138, .int .i64 x139, .int .i64 x140, .int .i64 x141, .int .i64 x142]⟩] : Mem).ld (plus a143 x9.toNat) else none).bind (Value.int? .i64)) fun x144 =>
 ob (acall P T k M.length F.zoetropelaw24_WienerPlanes [.agg ⟨[.int .i64 x24, .int .i64 x25, .slice A26 n27 c28, .int .i64 x29, .int .i64 x30, .slice A31 n32 c33]⟩, .slice (some ⟨r125.2.length, 0, none⟩) 2 2, .int .i64 x144] (r125.2 ++ [⟨.fx, [.bool b128, .int .i64 x129, .int .i64 x130, .int .i64 x131, .int .i64 x132, .int .i64 x133, .int .i64 x134, .bool b136, .int .i64 x137, .int .i64 x138, .int .i64 x139, .int .i64 x140, .int .i64 x141, .int .i64 x142]⟩] : Mem)) fun r145 =>
 ob ((some r145.1).bind Value.bool?) fun b146 =>
 bb (!b146)
 (some (.ret (.bool false) r145.2))
 (ob (acall P T k M.length F.zoetropelaw24_usual [] r145.2) fun r147 =>
 ob ((some r147.1).bind (Value.agg? 3)) fun l148 =>
 ob ((l148[0]?).bind (Value.int? .i64)) fun x149 =>
 ob ((l148[1]?).bind (Value.int? .i64)) fun x150 =>
 ob ((l148[2]?).bind Value.slc?) fun s151 =>
 pb (0 ≤ (0 : Int) ∧ (0 : Int) ≤ 2 ∧ (2 : Int) ≤ (c3 : Int))
 (pb (0 ≤ x9 ∧ x9 < (n7 : Int))
 (ob A6 fun a152 =>
 ob ((if ((plus a152 x9.toNat).block) < M.length then r147.2.ld (plus a152 x9.toNat) else none).bind (Value.int? .i64)) fun x153 =>
 ob (acall P T k M.length F.zoetropelaw24_WienerPlanes [.agg ⟨[.int .i64 x24, .int .i64 x25, .slice A26 n27 c28, .int .i64 x149, .int .i64 x150, .slice s151.a s151.n s151.c]⟩, .slice (slAddr 7 A1 0 c3) 2 (c3 - 0), .int .i64 x153] r147.2) fun r154 =>
 ob ((some r154.1).bind Value.bool?) fun b155 =>
 bb (!b155)
 (some (.ret (.bool false) r154.2))
 (pb (0 ≤ x9 ∧ x9 < (n7 : Int))
 (ob A6 fun a156 =>
 ob ((r154.2.ld (plus a156 x9.toNat)).bind (Value.int? .i64)) fun x157 =>
 ob (acall P T k M.length F.zoetropelaw24_WienerPlanes [.agg ⟨[.int .i64 0, .int .i64 0, .slice none 0 0, .int .i64 0, .int .i64 0, .slice none 0 0]⟩, .slice none 0 0, .int .i64 x157] r154.2) fun r158 =>
 ob ((some r158.1).bind Value.bool?) fun b159 =>
 bb (!b159)
 (some (.ret (.bool false) r158.2))
 (some (zoetropelaw24_WienerNames.c16372 A1 n2 c3 x4 x5 A6 n7 c8 (IntKind.i64.wrap (x9 + 1)) x10 x11 x12 x13 x14 x15 x16 x17 x18 x19 x20 x21 x22 x23 x24 x25 A26 n27 c28 x29 x30 A31 n32 c33 r158.2))) none)) none) none)) none) none) none)) none) none) none) none) none) none) none)) none) none)
 (ob (acall P T k lo F.zoetropelaw24_awake [] M) fun r160 =>
 ob ((some r160.1).bind Value.bool?) fun b161 =>
 bb b161
 (bb (x4 == 0)
 (bb (x5 == 0)
 (ob (Program.keyLits P 9 26 [.int .i64 x10, .int .i64 x11, .int .i64 x12, .int .i64 x13, .int .i64 x14, .int .i64 x15, .int .i64 x16]) fun q162 => ob (Program.keyLits P 9 26 [.int .i64 (-5), .int .i64 8, .int .i64 46, .int .i64 30, .int .i64 46, .int .i64 8, .int .i64 (-5)]) fun q163 =>
 bb (sameLits q162 q163)
 (ob (Program.keyLits P 9 26 [.int .i64 x17, .int .i64 x18, .int .i64 x19, .int .i64 x20, .int .i64 x21, .int .i64 x22, .int .i64 x23]) fun q164 => ob (Program.keyLits P 9 26 [.int .i64 0, .int .i64 0, .int .i64 0, .int .i64 128, .int .i64 0, .int .i64 0, .int .i64 0]) fun q165 =>
 some (.ret (.bool (sameLits q164 q165)) r160.2))
 (some (.ret (.bool false) r160.2)))
 (some (.ret (.bool false) r160.2)))
 (some (.ret (.bool false) r160.2)))
 (some (.ret (.bool false) r160.2))) := by kernel_rfl
theorem zoetropelaw24_WienerStays.entry (k lo : Nat) (x1 : Int) (x2 : Int) (A3 : Option Addr) (n4 : Nat) (c5 : Nat) (x6 : Int) (x7 : Int) (x8 : Int) (x9 : Int) (x10 : Int) (x11 : Int) (x12 : Int) (M : Mem) : entry P T k lo F.zoetropelaw24_WienerStays [.agg ⟨[.int .i64 x1, .int .i64 x2, .slice A3 n4 c5]⟩, .int .u8 x6, .agg ⟨[.int .i64 x7, .int .i64 x8, .int .i64 x9, .int .i64 x10, .int .i64 x11, .int .i64 x12]⟩] M =
 ob (acall P T k lo F.zoetropelaw24_awake [] M) fun r18 =>
 ob ((some r18.1).bind Value.bool?) fun b19 =>
 bb (!b19)
 (some (.ret (.bool false) r18.2))
 (ob (acall P T k lo F.plane_Check [.agg ⟨[.int .i64 x1, .int .i64 x2, .slice A3 n4 c5]⟩] r18.2) fun r20 =>
 ob ((some r20.1).bind (Value.int? .i64)) fun x21 =>
 bb (x21 != 0)
 (some (.ret (.bool true) r20.2))
 (ob (acall P T k lo F.plane_New [.int .i64 x1, .int .i64 x2, .int .u8 x6] r20.2) fun r22 =>
 ob (r22.1.tup? 2) fun l23 =>
 ob ((l23[0]?).bind (Value.agg? 3)) fun l24 =>
 ob ((l24[0]?).bind (Value.int? .i64)) fun x25 =>
 ob ((l24[1]?).bind (Value.int? .i64)) fun x26 =>
 ob ((l24[2]?).bind Value.slc?) fun s27 =>
 ob ((l23[1]?).bind (Value.int? .i64)) fun x28 =>
 bb (x28 != 0)
 (some (.ret (.bool false) r22.2))
 (some (zoetropelaw24_WienerStays.c1012 32 x1 x2 A3 n4 c5 x7 x8 x9 x10 x11 x12 x25 x26 s27.a s27.n s27.c r22.2)))) := by kernel_rfl
theorem zoetropelaw24_WienerStays.p1012 (k lo : Nat) (x1 : Int) (x2 : Int) (x3 : Int) (A4 : Option Addr) (n5 : Nat) (c6 : Nat) (x7 : Int) (x8 : Int) (x9 : Int) (x10 : Int) (x11 : Int) (x12 : Int) (x13 : Int) (x14 : Int) (A15 : Option Addr) (n16 : Nat) (c17 : Nat) (M : Mem) : piece P T k lo F.zoetropelaw24_WienerStays 1012 [.l 3 0, .l 5 0, .l 7 0, .v (.int .i64 x1)] [[.int .i64 x2, .int .i64 x3, .slice A4 n5 c6], [.int .i64 x7, .int .i64 x8, .int .i64 x9, .int .i64 x10, .int .i64 x11, .int .i64 x12], [.int .i64 x13, .int .i64 x14, .slice A15 n16 c17]] M =
 bb (decide (x1 ≤ 64))
 (ob (acall P T k M.length F.zoetropelaw24_made [.agg ⟨[.int .i64 x7, .int .i64 x8, .int .i64 x9]⟩] M) fun r29 =>
 ob ((some r29.1).bind (Value.agg? 3)) fun l30 =>
 ob ((l30[0]?).bind (Value.int? .i64)) fun x31 =>
 ob ((l30[1]?).bind (Value.int? .i64)) fun x32 =>
 ob ((l30[2]?).bind (Value.int? .i64)) fun x33 =>
 ob (acall P T k M.length F.zoetropelaw24_made [.agg ⟨[.int .i64 x10, .int .i64 x11, .int .i64 x12]⟩] r29.2) fun r34 =>
 ob ((some r34.1).bind (Value.agg? 3)) fun l35 =>
 ob ((l35[0]?).bind (Value.int? .i64)) fun x36 =>
 ob ((l35[1]?).bind (Value.int? .i64)) fun x37 =>
 ob ((l35[2]?).bind (Value.int? .i64)) fun x38 =>
 ob (acall P T k M.length F.zoetropelaw24_all [.agg ⟨[.int .i64 x13, .int .i64 x14, .slice A15 n16 c17]⟩, .int .i64 x1, .agg ⟨[.bool true, .int .i64 x31, .int .i64 x32, .int .i64 x33, .int .i64 x36, .int .i64 x37, .int .i64 x38]⟩] r34.2) fun r39 =>
 ob ((some r39.1).bind Value.slc?) fun s40 =>
 ob (acall P T k M.length F.wiener_Plane [.agg ⟨[.int .i64 x13, .int .i64 x14, .slice A15 n16 c17]⟩, .agg ⟨[.int .i64 x13, .int .i64 x14, .slice A15 n16 c17]⟩, .slice s40.a s40.n s40.c, .int .i64 x1] r39.2) fun r41 =>
 ob (r41.1.tup? 2) fun l42 =>
 ob ((l42[0]?).bind (Value.agg? 3)) fun l43 =>
 ob ((l43[0]?).bind (Value.int? .i64)) fun x44 =>
 ob ((l43[1]?).bind (Value.int? .i64)) fun x45 =>
 ob ((l43[2]?).bind Value.slc?) fun s46 =>
 ob ((l42[1]?).bind (Value.int? .i64)) fun x47 =>
 ob (acall P T k r41.2.length F.zoetropelaw24_all [.agg ⟨[.int .i64 x2, .int .i64 x3, .slice A4 n5 c6]⟩, .int .i64 x1, .agg ⟨[.bool false, .int .i64 0, .int .i64 0, .int .i64 0, .int .i64 0, .int .i64 0, .int .i64 0]⟩] r41.2) fun r48 =>
 ob ((some r48.1).bind Value.slc?) fun s49 =>
 ob (acall P T k r41.2.length F.wiener_Plane [.agg ⟨[.int .i64 x2, .int .i64 x3, .slice A4 n5 c6]⟩, .agg ⟨[.int .i64 x13, .int .i64 x14, .slice A15 n16 c17]⟩, .slice s49.a s49.n s49.c, .int .i64 x1] r48.2) fun r50 =>
 ob (r50.1.tup? 2) fun l51 =>
 ob ((l51[0]?).bind (Value.agg? 3)) fun l52 =>
 ob ((l52[0]?).bind (Value.int? .i64)) fun x53 =>
 ob ((l52[1]?).bind (Value.int? .i64)) fun x54 =>
 ob ((l52[2]?).bind Value.slc?) fun s55 =>
 ob ((l51[1]?).bind (Value.int? .i64)) fun x56 =>
 ob (acall P T k r50.2.length F.zoetropelaw24_all [.agg ⟨[.int .i64 x2, .int .i64 x3, .slice A4 n5 c6]⟩, .int .i64 x1, .agg ⟨[.bool true, .int .i64 0, .int .i64 0, .int .i64 0, .int .i64 0, .int .i64 0, .int .i64 0]⟩] r50.2) fun r57 =>
 ob ((some r57.1).bind Value.slc?) fun s58 =>
 ob (acall P T k r50.2.length F.wiener_Plane [.agg ⟨[.int .i64 x2, .int .i64 x3, .slice A4 n5 c6]⟩, .agg ⟨[.int .i64 x2, .int .i64 x3, .slice A4 n5 c6]⟩, .slice s58.a s58.n s58.c, .int .i64 x1] r57.2) fun r59 =>
 ob (r59.1.tup? 2) fun l60 =>
 ob ((l60[0]?).bind (Value.agg? 3)) fun l61 =>
 ob ((l61[0]?).bind (Value.int? .i64)) fun x62 =>
 ob ((l61[1]?).bind (Value.int? .i64)) fun x63 =>
 ob ((l61[2]?).bind Value.slc?) fun s64 =>
 ob ((l60[1]?).bind (Value.int? .i64)) fun x65 =>
 bb (x47 != 0)
 (some (.ret (.bool false) r59.2))
 (bb (x56 != 0)
 (some (.ret (.bool false) r59.2))
 (bb (x65 != 0)
 (some (.ret (.bool false) r59.2))
 (ob (acall P T k lo F.plane_Same [.agg ⟨[.int .i64 x44, .int .i64 x45, .slice s46.a s46.n s46.c]⟩, .agg ⟨[.int .i64 x13, .int .i64 x14, .slice A15 n16 c17]⟩] r59.2) fun r66 =>
 ob ((some r66.1).bind Value.bool?) fun b67 =>
 bb (!b67)
 (some (.ret (.bool false) r66.2))
 (ob (acall P T k lo F.plane_Same [.agg ⟨[.int .i64 x53, .int .i64 x54, .slice s55.a s55.n s55.c]⟩, .agg ⟨[.int .i64 x2, .int .i64 x3, .slice A4 n5 c6]⟩] r66.2) fun r68 =>
 ob ((some r68.1).bind Value.bool?) fun b69 =>
 bb (!b69)
 (some (.ret (.bool false) r68.2))
 (ob (acall P T k lo F.plane_Same [.agg ⟨[.int .i64 x62, .int .i64 x63, .slice s64.a s64.n s64.c]⟩, .agg ⟨[.int .i64 x2, .int .i64 x3, .slice A4 n5 c6]⟩] r68.2) fun r70 =>
 ob ((some r70.1).bind Value.bool?) fun b71 =>
 bb (!b71)
 (some (.ret (.bool false) r70.2))
 (some (zoetropelaw24_WienerStays.c1012 (IntKind.i64.wrap (x1 * 2)) x2 x3 A4 n5 c6 x7 x8 x9 x10 x11 x12 x13 x14 A15 n16 c17 r70.2))))))))
 (some (.ret (.bool true) M)) := by kernel_rfl
theorem wiener_Seven.entry (k lo : Nat) (x1 : Int) (x2 : Int) (x3 : Int) (M : Mem) : entry P T k lo F.wiener_Seven [.agg ⟨[.int .i64 x1, .int .i64 x2, .int .i64 x3]⟩] M =
 ob (acall P T k lo F.wiener_tapsMay [.agg ⟨[.int .i64 x1, .int .i64 x2, .int .i64 x3]⟩] M) fun r9 =>
 ob ((some r9.1).bind Value.bool?) fun b10 =>
 bb (!b10)
 (some (.ret (.tuple ⟨[.agg ⟨[.int .i64 0, .int .i64 0, .int .i64 0, .int .i64 0, .int .i64 0, .int .i64 0, .int .i64 0]⟩, .int .i64 2]⟩) r9.2))
 (some (wiener_Seven.c244 x1 x2 x3 0 0 0 0 0 0 0 0 x1 x2 x3 128 x3 x2 x1 r9.2)) := by kernel_rfl
theorem wiener_Seven.p244 (k lo : Nat) (x1 : Int) (x2 : Int) (x3 : Int) (x4 : Int) (x5 : Int) (x6 : Int) (x7 : Int) (x8 : Int) (x9 : Int) (x10 : Int) (x11 : Int) (x12 : Int) (x13 : Int) (x14 : Int) (x15 : Int) (x16 : Int) (x17 : Int) (x18 : Int) (M : Mem) : piece P T k lo F.wiener_Seven 244 [.l 2 0, .l 4 0, .v (.agg ⟨[.int .i64 x1, .int .i64 x2, .int .i64 x3]⟩), .v (.int .i64 x4)] [[.int .i64 x5, .int .i64 x6, .int .i64 x7, .int .i64 x8, .int .i64 x9, .int .i64 x10, .int .i64 x11], [.int .i64 x12, .int .i64 x13, .int .i64 x14, .int .i64 x15, .int .i64 x16, .int .i64 x17, .int .i64 x18]] M =
 bb (decide (x4 < 3))
 (pb (0 ≤ x4 ∧ x4 < (3 : Int))
 (ob ((([.int .i64 x1, .int .i64 x2, .int .i64 x3] : List Value)[x4.toNat + 0]?).bind (Value.int? .i64)) fun x19 =>
 some (wiener_Seven.c244 x1 x2 x3 (IntKind.i64.wrap (x4 + 1)) x5 x6 x7 x8 x9 x10 x11 x12 x13 x14 (IntKind.i64.wrap (x15 - (IntKind.i64.wrap (2 * x19)))) x16 x17 x18 M)) none)
 (some (.ret (.tuple ⟨[.agg ⟨[.int .i64 x12, .int .i64 x13, .int .i64 x14, .int .i64 x15, .int .i64 x16, .int .i64 x17, .int .i64 x18]⟩, .int .i64 0]⟩) M)) := by kernel_rfl
theorem zoetroperef24_Seven.entry (k lo : Nat) (x1 : Int) (x2 : Int) (x3 : Int) (M : Mem) : entry P T k lo F.zoetroperef24_Seven [.agg ⟨[.int .i64 x1, .int .i64 x2, .int .i64 x3]⟩] M =
 ob (acall P T k lo F.zoetroperef24_taps [.agg ⟨[.int .i64 x1, .int .i64 x2, .int .i64 x3]⟩] M) fun r9 =>
 ob ((some r9.1).bind Value.bool?) fun b10 =>
 bb (!b10)
 (some (.ret (.tuple ⟨[.agg ⟨[.int .i64 0, .int .i64 0, .int .i64 0, .int .i64 0, .int .i64 0, .int .i64 0, .int .i64 0]⟩, .int .i64 2]⟩) r9.2))
 (some (.ret (.tuple ⟨[.agg ⟨[.int .i64 x1, .int .i64 x2, .int .i64 x3, .int .i64 (IntKind.i64.wrap (128 - (IntKind.i64.wrap (2 * (IntKind.i64.wrap ((IntKind.i64.wrap (x1 + x2)) + x3)))))), .int .i64 x3, .int .i64 x2, .int .i64 x1]⟩, .int .i64 0]⟩) r9.2)) := by kernel_rfl
theorem wiener_Check.entry (k lo : Nat) (b1 : Bool) (x2 : Int) (x3 : Int) (x4 : Int) (x5 : Int) (x6 : Int) (x7 : Int) (M : Mem) : entry P T k lo F.wiener_Check [.agg ⟨[.bool b1, .int .i64 x2, .int .i64 x3, .int .i64 x4, .int .i64 x5, .int .i64 x6, .int .i64 x7]⟩] M =
 bb b1
 (ob (acall P T k lo F.wiener_tapsMay [.agg ⟨[.int .i64 x2, .int .i64 x3, .int .i64 x4]⟩] M) fun r13 =>
 ob ((some r13.1).bind Value.bool?) fun b14 =>
 bb b14
 (ob (acall P T k lo F.wiener_tapsMay [.agg ⟨[.int .i64 x5, .int .i64 x6, .int .i64 x7]⟩] r13.2) fun r15 =>
 ob ((some r15.1).bind Value.bool?) fun b16 =>
 bb b16
 (some (.ret (.int .i64 0) r15.2))
 (ob (Program.keyLits P 9 25 [.bool b1, .int .i64 x2, .int .i64 x3, .int .i64 x4, .int .i64 x5, .int .i64 x6, .int .i64 x7]) fun q17 => ob (Program.keyLits P 9 25 [.bool false, .int .i64 0, .int .i64 0, .int .i64 0, .int .i64 0, .int .i64 0, .int .i64 0]) fun q18 =>
 bb (sameLits q17 q18)
 (some (.ret (.int .i64 0) r15.2))
 (some (.ret (.int .i64 2) r15.2))))
 (ob (Program.keyLits P 9 25 [.bool b1, .int .i64 x2, .int .i64 x3, .int .i64 x4, .int .i64 x5, .int .i64 x6, .int .i64 x7]) fun q19 => ob (Program.keyLits P 9 25 [.bool false, .int .i64 0, .int .i64 0, .int .i64 0, .int .i64 0, .int .i64 0, .int .i64 0]) fun q20 =>
 bb (sameLits q19 q20)
 (some (.ret (.int .i64 0) r13.2))
 (some (.ret (.int .i64 2) r13.2))))
 (ob (Program.keyLits P 9 25 [.bool b1, .int .i64 x2, .int .i64 x3, .int .i64 x4, .int .i64 x5, .int .i64 x6, .int .i64 x7]) fun q21 => ob (Program.keyLits P 9 25 [.bool false, .int .i64 0, .int .i64 0, .int .i64 0, .int .i64 0, .int .i64 0, .int .i64 0]) fun q22 =>
 bb (sameLits q21 q22)
 (some (.ret (.int .i64 0) M))
 (some (.ret (.int .i64 2) M))) := by kernel_rfl
theorem zoetroperef24_Check.entry (k lo : Nat) (b1 : Bool) (x2 : Int) (x3 : Int) (x4 : Int) (x5 : Int) (x6 : Int) (x7 : Int) (M : Mem) : entry P T k lo F.zoetroperef24_Check [.agg ⟨[.bool b1, .int .i64 x2, .int .i64 x3, .int .i64 x4, .int .i64 x5, .int .i64 x6, .int .i64 x7]⟩] M =
 bb b1
 (ob (acall P T k lo F.zoetroperef24_taps [.agg ⟨[.int .i64 x2, .int .i64 x3, .int .i64 x4]⟩] M) fun r13 =>
 ob ((some r13.1).bind Value.bool?) fun b14 =>
 bb b14
 (ob (acall P T k lo F.zoetroperef24_taps [.agg ⟨[.int .i64 x5, .int .i64 x6, .int .i64 x7]⟩] r13.2) fun r15 =>
 ob ((some r15.1).bind Value.bool?) fun b16 =>
 bb b16
 (some (.ret (.int .i64 0) r15.2))
 (ob (Program.keyLits P 9 25 [.bool b1, .int .i64 x2, .int .i64 x3, .int .i64 x4, .int .i64 x5, .int .i64 x6, .int .i64 x7]) fun q17 => ob (Program.keyLits P 9 25 [.bool false, .int .i64 0, .int .i64 0, .int .i64 0, .int .i64 0, .int .i64 0, .int .i64 0]) fun q18 =>
 bb (sameLits q17 q18)
 (some (.ret (.int .i64 0) r15.2))
 (some (.ret (.int .i64 2) r15.2))))
 (ob (Program.keyLits P 9 25 [.bool b1, .int .i64 x2, .int .i64 x3, .int .i64 x4, .int .i64 x5, .int .i64 x6, .int .i64 x7]) fun q19 => ob (Program.keyLits P 9 25 [.bool false, .int .i64 0, .int .i64 0, .int .i64 0, .int .i64 0, .int .i64 0, .int .i64 0]) fun q20 =>
 bb (sameLits q19 q20)
 (some (.ret (.int .i64 0) r13.2))
 (some (.ret (.int .i64 2) r13.2))))
 (ob (Program.keyLits P 9 25 [.bool b1, .int .i64 x2, .int .i64 x3, .int .i64 x4, .int .i64 x5, .int .i64 x6, .int .i64 x7]) fun q21 => ob (Program.keyLits P 9 25 [.bool false, .int .i64 0, .int .i64 0, .int .i64 0, .int .i64 0, .int .i64 0, .int .i64 0]) fun q22 =>
 bb (sameLits q21 q22)
 (some (.ret (.int .i64 0) M))
 (some (.ret (.int .i64 2) M))) := by kernel_rfl
theorem zoetropelaw24_awake.entry (k lo : Nat) (M : Mem) : entry P T k lo F.zoetropelaw24_awake [] M =
 ob (acall P T k lo F.zoetropelaw24_usual [] M) fun r6 =>
 ob ((some r6.1).bind (Value.agg? 3)) fun l7 =>
 ob ((l7[0]?).bind (Value.int? .i64)) fun x8 =>
 ob ((l7[1]?).bind (Value.int? .i64)) fun x9 =>
 ob ((l7[2]?).bind Value.slc?) fun s10 =>
 ob (acall P T k lo F.zoetropelaw24_usual [] r6.2) fun r11 =>
 ob ((some r11.1).bind (Value.agg? 3)) fun l12 =>
 ob ((l12[0]?).bind (Value.int? .i64)) fun x13 =>
 ob ((l12[1]?).bind (Value.int? .i64)) fun x14 =>
 ob ((l12[2]?).bind Value.slc?) fun s15 =>
 ob (acall P T k lo F.wiener_Plane [.agg ⟨[.int .i64 x8, .int .i64 x9, .slice s10.a s10.n s10.c]⟩, .agg ⟨[.int .i64 x13, .int .i64 x14, .slice s15.a s15.n s15.c]⟩, .slice (some ⟨r11.2.length, 0, none⟩) 1 1, .int .i64 64] (r11.2 ++ [⟨.fx, [.bool true, .int .i64 0, .int .i64 0, .int .i64 0, .int .i64 1, .int .i64 (-2), .int .i64 3]⟩] : Mem)) fun r16 =>
 ob (r16.1.tup? 2) fun l17 =>
 ob ((l17[0]?).bind (Value.agg? 3)) fun l18 =>
 ob ((l18[0]?).bind (Value.int? .i64)) fun x19 =>
 ob ((l18[1]?).bind (Value.int? .i64)) fun x20 =>
 ob ((l18[2]?).bind Value.slc?) fun s21 =>
 ob ((l17[1]?).bind (Value.int? .i64)) fun x22 =>
 ob (acall P T k lo F.wiener_Seven [.agg ⟨[.int .i64 1, .int .i64 (-2), .int .i64 3]⟩] r16.2) fun r23 =>
 ob (r23.1.tup? 2) fun l24 =>
 ob ((l24[0]?).bind (Value.agg? 7)) fun l25 =>
 ob ((l25[0]?).bind (Value.int? .i64)) fun x26 =>
 ob ((l25[1]?).bind (Value.int? .i64)) fun x27 =>
 ob ((l25[2]?).bind (Value.int? .i64)) fun x28 =>
 ob ((l25[3]?).bind (Value.int? .i64)) fun x29 =>
 ob ((l25[4]?).bind (Value.int? .i64)) fun x30 =>
 ob ((l25[5]?).bind (Value.int? .i64)) fun x31 =>
 ob ((l25[6]?).bind (Value.int? .i64)) fun x32 =>
 ob ((l24[1]?).bind (Value.int? .i64)) fun x33 =>
 bb (x22 == 0)
 (bb (x33 == 0)
 (ob (acall P T k lo F.zoetroperef00_EqBytes [.slice s21.a s21.n s21.c, .slice (some ⟨r23.2.length, 0, none⟩) 7 7] (r23.2 ++ [⟨.fx, [.int .u8 1, .int .u8 0, .int .u8 3, .int .u8 124, .int .u8 3, .int .u8 0, .int .u8 1]⟩] : Mem)) fun r34 =>
 ob ((some r34.1).bind Value.bool?) fun b35 =>
 bb b35
 (ob (Program.keyLits P 9 26 [.int .i64 x26, .int .i64 x27, .int .i64 x28, .int .i64 x29, .int .i64 x30, .int .i64 x31, .int .i64 x32]) fun q36 => ob (Program.keyLits P 9 26 [.int .i64 1, .int .i64 (-2), .int .i64 3, .int .i64 124, .int .i64 3, .int .i64 (-2), .int .i64 1]) fun q37 =>
 some (.ret (.bool (sameLits q36 q37)) r34.2))
 (some (.ret (.bool false) r34.2)))
 (some (.ret (.bool false) r23.2)))
 (some (.ret (.bool false) r23.2)) := by kernel_rfl
theorem zoetroperef05_CopyPlane.entry (k lo : Nat) (x1 : Int) (x2 : Int) (A3 : Option Addr) (n4 : Nat) (c5 : Nat) (M : Mem) : entry P T k lo F.zoetroperef05_CopyPlane [.agg ⟨[.int .i64 x1, .int .i64 x2, .slice A3 n4 c5]⟩] M =
 ob (acall P T k M.length F.zoetroperef00_CopyBytes [.slice A3 n4 c5] M) fun r11 =>
 ob ((some r11.1).bind Value.slc?) fun s12 =>
 some (.ret (.agg ⟨[.int .i64 x1, .int .i64 x2, .slice s12.a s12.n s12.c]⟩) r11.2) := by kernel_rfl
theorem wiener_Plane.entry (k lo : Nat) (x1 : Int) (x2 : Int) (A3 : Option Addr) (n4 : Nat) (c5 : Nat) (x6 : Int) (x7 : Int) (A8 : Option Addr) (n9 : Nat) (c10 : Nat) (A11 : Option Addr) (n12 : Nat) (c13 : Nat) (x14 : Int) (M : Mem) : entry P T k lo F.wiener_Plane [.agg ⟨[.int .i64 x1, .int .i64 x2, .slice A3 n4 c5]⟩, .agg ⟨[.int .i64 x6, .int .i64 x7, .slice A8 n9 c10]⟩, .slice A11 n12 c13, .int .i64 x14] M =
 ob (acall P T k lo F.plane_Check [.agg ⟨[.int .i64 x1, .int .i64 x2, .slice A3 n4 c5]⟩] M) fun r20 =>
 ob ((some r20.1).bind (Value.int? .i64)) fun x21 =>
 bb (x21 != 0)
 (some (.ret (.tuple ⟨[.agg ⟨[.int .i64 0, .int .i64 0, .slice none 0 0]⟩, .int .i64 2]⟩) r20.2))
 (ob (acall P T k lo F.plane_Check [.agg ⟨[.int .i64 x6, .int .i64 x7, .slice A8 n9 c10]⟩] r20.2) fun r22 =>
 ob ((some r22.1).bind (Value.int? .i64)) fun x23 =>
 bb (x23 != 0)
 (some (.ret (.tuple ⟨[.agg ⟨[.int .i64 0, .int .i64 0, .slice none 0 0]⟩, .int .i64 2]⟩) r22.2))
 (bb (x1 != x6)
 (some (.ret (.tuple ⟨[.agg ⟨[.int .i64 0, .int .i64 0, .slice none 0 0]⟩, .int .i64 2]⟩) r22.2))
 (bb (x2 != x7)
 (some (.ret (.tuple ⟨[.agg ⟨[.int .i64 0, .int .i64 0, .slice none 0 0]⟩, .int .i64 2]⟩) r22.2))
 (bb (x14 != 64)
 (bb (x14 != 32)
 (some (.ret (.tuple ⟨[.agg ⟨[.int .i64 0, .int .i64 0, .slice none 0 0]⟩, .int .i64 2]⟩) r22.2))
 (pb (x14 = 0) none
 (pb (x14 = 0) none
 (bb ((n12 : Int) != IntKind.i64.wrap ((IntKind.i64.wrap (Int.tdiv (IntKind.i64.wrap ((IntKind.i64.wrap (x1 + x14)) - 1)) x14)) * (IntKind.i64.wrap (Int.tdiv (IntKind.i64.wrap ((IntKind.i64.wrap (x2 + x14)) - 1)) x14))))
 (some (.ret (.tuple ⟨[.agg ⟨[.int .i64 0, .int .i64 0, .slice none 0 0]⟩, .int .i64 2]⟩) r22.2))
 (ob (acall P T k lo F.slices_ContainsFunc__api_Unit_api_Unit [.slice A11 n12 c13, .func (.func F.wiener_Plane_1) ⟨[]⟩ ⟨[]⟩] r22.2) fun r24 =>
 ob ((some r24.1).bind Value.bool?) fun b25 =>
 bb b25
 (some (.ret (.tuple ⟨[.agg ⟨[.int .i64 0, .int .i64 0, .slice none 0 0]⟩, .int .i64 2]⟩) r24.2))
 (ob (acall P T k r24.2.length F.slices_Clone__uint8_uint8 [.slice A3 n4 c5] r24.2) fun r26 =>
 ob ((some r26.1).bind Value.slc?) fun s27 =>
 pb (0 ≤ x14 ∧ room x14.toNat 8)
 (some (wiener_Plane.c7156 A11 n12 c13 x14 (IntKind.i64.wrap (Int.tdiv (IntKind.i64.wrap ((IntKind.i64.wrap (x1 + x14)) - 1)) x14)) (some ⟨r26.2.length, 0, none⟩) x14.toNat x14.toNat x2 0 x1 x2 A3 n4 c5 x6 x7 A8 n9 c10 0 0 none 0 0 x1 x2 s27.a s27.n s27.c (r26.2 ++ [⟨.fx, zerosL [.int .i64 0] x14.toNat⟩] : Mem))) none))))))
 (pb (x14 = 0) none
 (pb (x14 = 0) none
 (bb ((n12 : Int) != IntKind.i64.wrap ((IntKind.i64.wrap (Int.tdiv (IntKind.i64.wrap ((IntKind.i64.wrap (x1 + x14)) - 1)) x14)) * (IntKind.i64.wrap (Int.tdiv (IntKind.i64.wrap ((IntKind.i64.wrap (x2 + x14)) - 1)) x14))))
 (some (.ret (.tuple ⟨[.agg ⟨[.int .i64 0, .int .i64 0, .slice none 0 0]⟩, .int .i64 2]⟩) r22.2))
 (ob (acall P T k lo F.slices_ContainsFunc__api_Unit_api_Unit [.slice A11 n12 c13, .func (.func F.wiener_Plane_1) ⟨[]⟩ ⟨[]⟩] r22.2) fun r28 =>
 ob ((some r28.1).bind Value.bool?) fun b29 =>
 bb b29
 (some (.ret (.tuple ⟨[.agg ⟨[.int .i64 0, .int .i64 0, .slice none 0 0]⟩, .int .i64 2]⟩) r28.2))
 (ob (acall P T k r28.2.length F.slices_Clone__uint8_uint8 [.slice A3 n4 c5] r28.2) fun r30 =>
 ob ((some r30.1).bind Value.slc?) fun s31 =>
 pb (0 ≤ x14 ∧ room x14.toNat 8)
 (some (wiener_Plane.c7156 A11 n12 c13 x14 (IntKind.i64.wrap (Int.tdiv (IntKind.i64.wrap ((IntKind.i64.wrap (x1 + x14)) - 1)) x14)) (some ⟨r30.2.length, 0, none⟩) x14.toNat x14.toNat x2 0 x1 x2 A3 n4 c5 x6 x7 A8 n9 c10 0 0 none 0 0 x1 x2 s31.a s31.n s31.c (r30.2 ++ [⟨.fx, zerosL [.int .i64 0] x14.toNat⟩] : Mem))) none))))))))) := by kernel_rfl
theorem wiener_Plane.p7156 (k lo : Nat) (A1 : Option Addr) (n2 : Nat) (c3 : Nat) (x4 : Int) (x5 : Int) (A6 : Option Addr) (n7 : Nat) (c8 : Nat) (x9 : Int) (x10 : Int) (x11 : Int) (x12 : Int) (A13 : Option Addr) (n14 : Nat) (c15 : Nat) (x16 : Int) (x17 : Int) (A18 : Option Addr) (n19 : Nat) (c20 : Nat) (x21 : Int) (x22 : Int) (A23 : Option Addr) (n24 : Nat) (c25 : Nat) (x26 : Int) (x27 : Int) (A28 : Option Addr) (n29 : Nat) (c30 : Nat) (M : Mem) : piece P T k lo F.wiener_Plane 7156 [.v (.slice A1 n2 c3), .v (.int .i64 x4), .l 4 0, .l 5 0, .l 8 0, .v (.int .i64 x5), .l 11 0, .v (.slice A6 n7 c8), .v (.int .i64 x9), .v (.int .i64 x10)] [[.int .i64 x11, .int .i64 x12, .slice A13 n14 c15], [.int .i64 x16, .int .i64 x17, .slice A18 n19 c20], [.int .i64 x21, .int .i64 x22, .slice A23 n24 c25], [.int .i64 x26, .int .i64 x27, .slice A28 n29 c30]] M =
 bb (decide (x10 < x9))
 (ob (acall P T k lo F.wiener_stripeOf [.int .i64 x10, .int .i64 x4] M) fun r32 =>
 ob ((some r32.1).bind (Value.agg? 2)) fun l33 =>
 ob ((l33[0]?).bind (Value.int? .i64)) fun x34 =>
 ob ((l33[1]?).bind (Value.int? .i64)) fun x35 =>
 some (wiener_Plane.c3664284 A1 n2 c3 x4 x5 A6 n7 c8 x10 x9 x10 x5 0 x11 x12 A13 n14 c15 x16 x17 A18 n19 c20 x21 x22 A23 n24 c25 x26 x27 A28 n29 c30 x34 x35 r32.2))
 (some (.ret (.tuple ⟨[.agg ⟨[.int .i64 x26, .int .i64 x27, .slice A28 n29 c30]⟩, .int .i64 0]⟩) M)) := by kernel_rfl
theorem wiener_Plane.p57255 (k lo : Nat) (A1 : Option Addr) (n2 : Nat) (c3 : Nat) (x4 : Int) (x5 : Int) (A6 : Option Addr) (n7 : Nat) (c8 : Nat) (x9 : Int) (x10 : Int) (x11 : Int) (x12 : Int) (A13 : Option Addr) (n14 : Nat) (c15 : Nat) (x16 : Int) (x17 : Int) (A18 : Option Addr) (n19 : Nat) (c20 : Nat) (x21 : Int) (x22 : Int) (A23 : Option Addr) (n24 : Nat) (c25 : Nat) (x26 : Int) (x27 : Int) (A28 : Option Addr) (n29 : Nat) (c30 : Nat) (M : Mem) : piece P T k lo F.wiener_Plane 57255 [.v (.slice A1 n2 c3), .v (.int .i64 x4), .l 4 0, .l 5 0, .l 8 0, .v (.int .i64 x5), .l 11 0, .v (.slice A6 n7 c8), .v (.int .i64 x9), .v (.int .i64 x10)] [[.int .i64 x11, .int .i64 x12, .slice A13 n14 c15], [.int .i64 x16, .int .i64 x17, .slice A18 n19 c20], [.int .i64 x21, .int .i64 x22, .slice A23 n24 c25], [.int .i64 x26, .int .i64 x27, .slice A28 n29 c30]] M =
 some (wiener_Plane.c7156 A1 n2 c3 x4 x5 A6 n7 c8 x9 (IntKind.i64.wrap (x10 + 1)) x11 x12 A13 n14 c15 x16 x17 A18 n19 c20 x21 x22 A23 n24 c25 x26 x27 A28 n29 c30 M) := by kernel_rfl
theorem wiener_Plane.p3664284 (k lo : Nat) (A1 : Option Addr) (n2 : Nat) (c3 : Nat) (x4 : Int) (x5 : Int) (A6 : Option Addr) (n7 : Nat) (c8 : Nat) (x9 : Int) (x10 : Int) (x11 : Int) (x12 : Int) (x13 : Int) (x14 : Int) (x15 : Int) (A16 : Option Addr) (n17 : Nat) (c18 : Nat) (x19 : Int) (x20 : Int) (A21 : Option Addr) (n22 : Nat) (c23 : Nat) (x24 : Int) (x25 : Int) (A26 : Option Addr) (n27 : Nat) (c28 : Nat) (x29 : Int) (x30 : Int) (A31 : Option Addr) (n32 : Nat) (c33 : Nat) (x34 : Int) (x35 : Int) (M : Mem) : piece P T k lo F.wiener_Plane 3664284 [.v (.slice A1 n2 c3), .v (.int .i64 x4), .l 4 0, .l 5 0, .l 8 0, .v (.int .i64 x5), .l 11 0, .v (.slice A6 n7 c8), .v (.int .i64 x9), .l 14 0, .v (.int .i64 x10), .v (.int .i64 x11), .v (.int .i64 x12), .v (.int .i64 x13)] [[.int .i64 x14, .int .i64 x15, .slice A16 n17 c18], [.int .i64 x19, .int .i64 x20, .slice A21 n22 c23], [.int .i64 x24, .int .i64 x25, .slice A26 n27 c28], [.int .i64 x29, .int .i64 x30, .slice A31 n32 c33], [.int .i64 x34, .int .i64 x35]] M =
 bb (decide (x13 < x12))
 (pb (x4 = 0) none
 (pb (0 ≤ IntKind.i64.wrap ((IntKind.i64.wrap ((IntKind.i64.wrap (Int.tdiv x9 x4)) * x5)) + x13) ∧ IntKind.i64.wrap ((IntKind.i64.wrap ((IntKind.i64.wrap (Int.tdiv x9 x4)) * x5)) + x13) < (n2 : Int))
 (ob A1 fun a36 =>
 ob ((M.ld (plus a36 ((IntKind.i64.wrap ((IntKind.i64.wrap ((IntKind.i64.wrap (Int.tdiv x9 x4)) * x5)) + x13)).toNat * 7))).bind Value.bool?) fun b37 =>
 ob ((M.ld (plus (plus a36 ((IntKind.i64.wrap ((IntKind.i64.wrap ((IntKind.i64.wrap (Int.tdiv x9 x4)) * x5)) + x13)).toNat * 7)) 1)).bind (Value.int? .i64)) fun x38 =>
 ob ((M.ld (plus (plus a36 ((IntKind.i64.wrap ((IntKind.i64.wrap ((IntKind.i64.wrap (Int.tdiv x9 x4)) * x5)) + x13)).toNat * 7)) 2)).bind (Value.int? .i64)) fun x39 =>
 ob ((M.ld (plus (plus a36 ((IntKind.i64.wrap ((IntKind.i64.wrap ((IntKind.i64.wrap (Int.tdiv x9 x4)) * x5)) + x13)).toNat * 7)) 3)).bind (Value.int? .i64)) fun x40 =>
 ob ((M.ld (plus (plus a36 ((IntKind.i64.wrap ((IntKind.i64.wrap ((IntKind.i64.wrap (Int.tdiv x9 x4)) * x5)) + x13)).toNat * 7)) 4)).bind (Value.int? .i64)) fun x41 =>
 ob ((M.ld (plus (plus a36 ((IntKind.i64.wrap ((IntKind.i64.wrap ((IntKind.i64.wrap (Int.tdiv x9 x4)) * x5)) + x13)).toNat * 7)) 5)).bind (Value.int? .i64)) fun x42 =>
 ob ((M.ld (plus (plus a36 ((IntKind.i64.wrap ((IntKind.i64.wrap ((IntKind.i64.wrap (Int.tdiv x9 x4)) * x5)) + x13)).toNat * 7)) 6)).bind (Value.int? .i64)) fun x43 =>
 bb (!b37)
 (bb (x13 == IntKind.i64.wrap (x5 - 1))
 (some (wiener_Plane.c57255 A1 n2 c3 x4 x5 A6 n7 c8 x10 x11 x14 x15 A16 n17 c18 x19 x20 A21 n22 c23 x24 x25 A26 n27 c28 x29 x30 A31 n32 c33 M))
 (some (wiener_Plane.c29314279 A1 n2 c3 x4 x5 A6 n7 c8 x9 x10 x11 x12 x13 x14 x15 A16 n17 c18 x19 x20 A21 n22 c23 x24 x25 A26 n27 c28 x29 x30 A31 n32 c33 x34 x35 M)))
 (ob (acall P T k lo F.wiener_Seven [.agg ⟨[.int .i64 x38, .int .i64 x39, .int .i64 x40]⟩] M) fun r44 =>
 ob (r44.1.tup? 2) fun l45 =>
 ob ((l45[0]?).bind (Value.agg? 7)) fun l46 =>
 ob ((l46[0]?).bind (Value.int? .i64)) fun x47 =>
 ob ((l46[1]?).bind (Value.int? .i64)) fun x48 =>
 ob ((l46[2]?).bind (Value.int? .i64)) fun x49 =>
 ob ((l46[3]?).bind (Value.int? .i64)) fun x50 =>
 ob ((l46[4]?).bind (Value.int? .i64)) fun x51 =>
 ob ((l46[5]?).bind (Value.int? .i64)) fun x52 =>
 ob ((l46[6]?).bind (Value.int? .i64)) fun x53 =>
 ob ((l45[1]?).bind (Value.int? .i64)) fun x54 =>
 ob (acall P T k lo F.wiener_Seven [.agg ⟨[.int .i64 x41, .int .i64 x42, .int .i64 x43]⟩] r44.2) fun r55 =>
 ob (r55.1.tup? 2) fun l56 =>
 ob ((l56[0]?).bind (Value.agg? 7)) fun l57 =>
 ob ((l57[0]?).bind (Value.int? .i64)) fun x58 =>
 ob ((l57[1]?).bind (Value.int? .i64)) fun x59 =>
 ob ((l57[2]?).bind (Value.int? .i64)) fun x60 =>
 ob ((l57[3]?).bind (Value.int? .i64)) fun x61 =>
 ob ((l57[4]?).bind (Value.int? .i64)) fun x62 =>
 ob ((l57[5]?).bind (Value.int? .i64)) fun x63 =>
 ob ((l57[6]?).bind (Value.int? .i64)) fun x64 =>
 ob ((l56[1]?).bind (Value.int? .i64)) fun x65 =>
 pb (0 ≤ (0 : Int) ∧ (0 : Int) ≤ IntKind.i64.wrap ((minI (IntKind.i64.wrap ((IntKind.i64.wrap (x13 + 1)) * x4)) x14) - (IntKind.i64.wrap (x13 * x4))) ∧ IntKind.i64.wrap ((minI (IntKind.i64.wrap ((IntKind.i64.wrap (x13 + 1)) * x4)) x14) - (IntKind.i64.wrap (x13 * x4))) ≤ (c8 : Int))
 (pb (((IntKind.i64.wrap ((minI (IntKind.i64.wrap ((IntKind.i64.wrap (x13 + 1)) * x4)) x14) - (IntKind.i64.wrap (x13 * x4)))).toNat) - 0 = 0) (some (wiener_Plane.c240142569460 A1 n2 c3 x4 x5 A6 n7 c8 x9 (IntKind.i64.wrap (x13 * x4)) (minI (IntKind.i64.wrap ((IntKind.i64.wrap (x13 + 1)) * x4)) x14) (slAddr 1 A6 0 c8) (((IntKind.i64.wrap ((minI (IntKind.i64.wrap ((IntKind.i64.wrap (x13 + 1)) * x4)) x14) - (IntKind.i64.wrap (x13 * x4)))).toNat) - 0) (c8 - 0) x10 x11 x12 x13 x47 x48 x49 x50 x51 x52 x53 0 x14 x15 A16 n17 c18 x19 x20 A21 n22 c23 x24 x25 A26 n27 c28 x29 x30 A31 n32 c33 x34 x35 x58 x59 x60 x61 x62 x63 x64 r55.2))
 (ob (slAddr 1 A6 0 c8) fun a67 =>
 ob (r55.2.st lo a67 (zerosL [.int .i64 0] (((IntKind.i64.wrap ((minI (IntKind.i64.wrap ((IntKind.i64.wrap (x13 + 1)) * x4)) x14) - (IntKind.i64.wrap (x13 * x4)))).toNat) - 0))) fun M66 =>
 some (wiener_Plane.c240142569460 A1 n2 c3 x4 x5 A6 n7 c8 x9 (IntKind.i64.wrap (x13 * x4)) (minI (IntKind.i64.wrap ((IntKind.i64.wrap (x13 + 1)) * x4)) x14) (slAddr 1 A6 0 c8) (((IntKind.i64.wrap ((minI (IntKind.i64.wrap ((IntKind.i64.wrap (x13 + 1)) * x4)) x14) - (IntKind.i64.wrap (x13 * x4)))).toNat) - 0) (c8 - 0) x10 x11 x12 x13 x47 x48 x49 x50 x51 x52 x53 0 x14 x15 A16 n17 c18 x19 x20 A21 n22 c23 x24 x25 A26 n27 c28 x29 x30 A31 n32 c33 x34 x35 x58 x59 x60 x61 x62 x63 x64 M66))) none)) none))
 (some (wiener_Plane.c57255 A1 n2 c3 x4 x5 A6 n7 c8 x10 x11 x14 x15 A16 n17 c18 x19 x20 A21 n22 c23 x24 x25 A26 n27 c28 x29 x30 A31 n32 c33 M)) := by kernel_rfl
theorem wiener_Plane.p29314279 (k lo : Nat) (A1 : Option Addr) (n2 : Nat) (c3 : Nat) (x4 : Int) (x5 : Int) (A6 : Option Addr) (n7 : Nat) (c8 : Nat) (x9 : Int) (x10 : Int) (x11 : Int) (x12 : Int) (x13 : Int) (x14 : Int) (x15 : Int) (A16 : Option Addr) (n17 : Nat) (c18 : Nat) (x19 : Int) (x20 : Int) (A21 : Option Addr) (n22 : Nat) (c23 : Nat) (x24 : Int) (x25 : Int) (A26 : Option Addr) (n27 : Nat) (c28 : Nat) (x29 : Int) (x30 : Int) (A31 : Option Addr) (n32 : Nat) (c33 : Nat) (x34 : Int) (x35 : Int) (M : Mem) : piece P T k lo F.wiener_Plane 29314279 [.v (.slice A1 n2 c3), .v (.int .i64 x4), .l 4 0, .l 5 0, .l 8 0, .v (.int .i64 x5), .l 11 0, .v (.slice A6 n7 c8), .v (.int .i64 x9), .l 14 0, .v (.int .i64 x10), .v (.int .i64 x11), .v (.int .i64 x12), .v (.int .i64 x13)] [[.int .i64 x14, .int .i64 x15, .slice A16 n17 c18], [.int .i64 x19, .int .i64 x20, .slice A21 n22 c23], [.int .i64 x24, .int .i64 x25, .slice A26 n27 c28], [.int .i64 x29, .int .i64 x30, .slice A31 n32 c33], [.int .i64 x34, .int .i64 x35]] M =
 some (wiener_Plane.c3664284 A1 n2 c3 x4 x5 A6 n7 c8 x9 x10 x11 x12 (IntKind.i64.wrap (x13 + 1)) x14 x15 A16 n17 c18 x19 x20 A21 n22 c23 x24 x25 A26 n27 c28 x29 x30 A31 n32 c33 x34 x35 M) := by kernel_rfl
theorem wiener_Plane.p240142569460 (k lo : Nat) (A1 : Option Addr) (n2 : Nat) (c3 : Nat) (x4 : Int) (x5 : Int) (A6 : Option Addr) (n7 : Nat) (c8 : Nat) (x9 : Int) (x10 : Int) (x11 : Int) (A12 : Option Addr) (n13 : Nat) (c14 : Nat) (x15 : Int) (x16 : Int) (x17 : Int) (x18 : Int) (x19 : Int) (x20 : Int) (x21 : Int) (x22 : Int) (x23 : Int) (x24 : Int) (x25 : Int) (x26 : Int) (x27 : Int) (x28 : Int) (A29 : Option Addr) (n30 : Nat) (c31 : Nat) (x32 : Int) (x33 : Int) (A34 : Option Addr) (n35 : Nat) (c36 : Nat) (x37 : Int) (x38 : Int) (A39 : Option Addr) (n40 : Nat) (c41 : Nat) (x42 : Int) (x43 : Int) (A44 : Option Addr) (n45 : Nat) (c46 : Nat) (x47 : Int) (x48 : Int) (x49 : Int) (x50 : Int) (x51 : Int) (x52 : Int) (x53 : Int) (x54 : Int) (x55 : Int) (M : Mem) : piece P T k lo F.wiener_Plane 240142569460 [.v (.slice A1 n2 c3), .v (.int .i64 x4), .l 4 0, .l 5 0, .l 8 0, .v (.int .i64 x5), .l 11 0, .v (.slice A6 n7 c8), .v (.int .i64 x9), .l 14 0, .l 19 0, .v (.int .i64 x10), .v (.int .i64 x11), .v (.slice A12 n13 c14), .v (.int .i64 x15), .v (.int .i64 x16), .v (.int .i64 x17), .v (.int .i64 x18), .v (.agg ⟨[.int .i64 x19, .int .i64 x20, .int .i64 x21, .int .i64 x22, .int .i64 x23, .int .i64 x24, .int .i64 x25]⟩), .v (.int .i64 x26)] [[.int .i64 x27, .int .i64 x28, .slice A29 n30 c31], [.int .i64 x32, .int .i64 x33, .slice A34 n35 c36], [.int .i64 x37, .int .i64 x38, .slice A39 n40 c41], [.int .i64 x42, .int .i64 x43, .slice A44 n45 c46], [.int .i64 x47, .int .i64 x48], [.int .i64 x49, .int .i64 x50, .int .i64 x51, .int .i64 x52, .int .i64 x53, .int .i64 x54, .int .i64 x55]] M =
 bb (decide (x26 < 7))
 (pb (0 ≤ x26 ∧ x26 < (7 : Int))
 (ob ((([.int .i64 x19, .int .i64 x20, .int .i64 x21, .int .i64 x22, .int .i64 x23, .int .i64 x24, .int .i64 x25] : List Value)[x26.toNat + 0]?).bind (Value.int? .i64)) fun x68 =>
 ob (acall P T k M.length F.wiener_clip [.int .i64 (IntKind.i64.wrap ((IntKind.i64.wrap (x9 + x26)) - 3)), .int .i64 0, .int .i64 (IntKind.i64.wrap (x28 - 1))] M) fun r69 =>
 ob ((some r69.1).bind (Value.int? .i64)) fun x70 =>
 ob (acall P T k M.length F.wiener_clip [.int .i64 x70, .int .i64 (IntKind.i64.wrap (x47 - 2)), .int .i64 (IntKind.i64.wrap (x48 + 1))] r69.2) fun r71 =>
 ob ((some r71.1).bind (Value.int? .i64)) fun x72 =>
 ob (acall P T k lo F.wiener_within [.int .i64 x72, .int .i64 x47, .int .i64 (IntKind.i64.wrap (x48 - 1))] r71.2) fun r73 =>
 ob ((some r73.1).bind Value.bool?) fun b74 =>
 bb (!b74)
 (some (wiener_Plane.c30738248890983 A1 n2 c3 x4 x5 A6 n7 c8 x9 x10 x11 A12 n13 c14 x68 x72 x15 x16 x17 x18 x19 x20 x21 x22 x23 x24 x25 x26 x27 x28 A29 n30 c31 x32 x33 A34 n35 c36 x37 x38 A39 n40 c41 x42 x43 A44 n45 c46 x47 x48 x49 x50 x51 x52 x53 x54 x55 x32 x33 A34 n35 c36 r73.2))
 (some (wiener_Plane.c30738248890983 A1 n2 c3 x4 x5 A6 n7 c8 x9 x10 x11 A12 n13 c14 x68 x72 x15 x16 x17 x18 x19 x20 x21 x22 x23 x24 x25 x26 x27 x28 A29 n30 c31 x32 x33 A34 n35 c36 x37 x38 A39 n40 c41 x42 x43 A44 n45 c46 x47 x48 x49 x50 x51 x52 x53 x54 x55 x27 x28 A29 n30 c31 r73.2))) none)
 (some (wiener_Plane.c240142569468 A1 n2 c3 x4 x5 A6 n7 c8 x9 x10 x15 x16 x17 x18 A12 n13 c14 (n13 : Int) 0 x27 x28 A29 n30 c31 x32 x33 A34 n35 c36 x37 x38 A39 n40 c41 x42 x43 A44 n45 c46 x47 x48 M)) := by kernel_rfl
theorem wiener_Plane.p240142569468 (k lo : Nat) (A1 : Option Addr) (n2 : Nat) (c3 : Nat) (x4 : Int) (x5 : Int) (A6 : Option Addr) (n7 : Nat) (c8 : Nat) (x9 : Int) (x10 : Int) (x11 : Int) (x12 : Int) (x13 : Int) (x14 : Int) (A15 : Option Addr) (n16 : Nat) (c17 : Nat) (x18 : Int) (x19 : Int) (x20 : Int) (x21 : Int) (A22 : Option Addr) (n23 : Nat) (c24 : Nat) (x25 : Int) (x26 : Int) (A27 : Option Addr) (n28 : Nat) (c29 : Nat) (x30 : Int) (x31 : Int) (A32 : Option Addr) (n33 : Nat) (c34 : Nat) (x35 : Int) (x36 : Int) (A37 : Option Addr) (n38 : Nat) (c39 : Nat) (x40 : Int) (x41 : Int) (M : Mem) : piece P T k lo F.wiener_Plane 240142569468 [.v (.slice A1 n2 c3), .v (.int .i64 x4), .l 4 0, .l 5 0, .l 8 0, .v (.int .i64 x5), .l 11 0, .v (.slice A6 n7 c8), .v (.int .i64 x9), .l 14 0, .v (.int .i64 x10), .v (.int .i64 x11), .v (.int .i64 x12), .v (.int .i64 x13), .v (.int .i64 x14), .v (.slice A15 n16 c17), .v (.int .i64 x18), .v (.int .i64 x19)] [[.int .i64 x20, .int .i64 x21, .slice A22 n23 c24], [.int .i64 x25, .int .i64 x26, .slice A27 n28 c29], [.int .i64 x30, .int .i64 x31, .slice A32 n33 c34], [.int .i64 x35, .int .i64 x36, .slice A37 n38 c39], [.int .i64 x40, .int .i64 x41]] M =
 bb (decide (x19 < x18))
 (pb (0 ≤ x19 ∧ x19 < (n16 : Int))
 (ob A15 fun a75 =>
 ob ((M.ld (plus a75 x19.toNat)).bind (Value.int? .i64)) fun x76 =>
 ob (acall P T k M.length F.wiener_round [.int .i64 x76, .int .i64 11] M) fun r77 =>
 ob ((some r77.1).bind (Value.int? .i64)) fun x78 =>
 ob (acall P T k M.length F.wiener_clip [.int .i64 x78, .int .i64 0, .int .i64 255] r77.2) fun r79 =>
 ob ((some r79.1).bind (Value.int? .i64)) fun x80 =>
 pb (0 ≤ IntKind.i64.wrap ((IntKind.i64.wrap ((IntKind.i64.wrap (x9 * x20)) + x10)) + x19) ∧ IntKind.i64.wrap ((IntKind.i64.wrap ((IntKind.i64.wrap (x9 * x20)) + x10)) + x19) < (n38 : Int))
 (ob A37 fun a81 =>
 ob (r79.2.st lo (plus a81 ((IntKind.i64.wrap ((IntKind.i64.wrap ((IntKind.i64.wrap (x9 * x20)) + x10)) + x19)).toNat)) [.int .u8 (IntKind.u8.wrap x80)]) fun M82 =>
 some (wiener_Plane.c240142569468 A1 n2 c3 x4 x5 A6 n7 c8 x9 x10 x11 x12 x13 x14 A15 n16 c17 x18 (IntKind.i64.wrap (x19 + 1)) x20 x21 A22 n23 c24 x25 x26 A27 n28 c29 x30 x31 A32 n33 c34 x35 x36 A37 n38 c39 x40 x41 M82)) none) none)
 (some (wiener_Plane.c29314279 A1 n2 c3 x4 x5 A6 n7 c8 x9 x11 x12 x13 x14 x20 x21 A22 n23 c24 x25 x26 A27 n28 c29 x30 x31 A32 n33 c34 x35 x36 A37 n38 c39 x40 x41 M)) := by kernel_rfl
theorem wiener_Plane.p30738248890983 (k lo : Nat) (A1 : Option Addr) (n2 : Nat) (c3 : Nat) (x4 : Int) (x5 : Int) (A6 : Option Addr) (n7 : Nat) (c8 : Nat) (x9 : Int) (x10 : Int) (x11 : Int) (A12 : Option Addr) (n13 : Nat) (c14 : Nat) (x15 : Int) (x16 : Int) (x17 : Int) (x18 : Int) (x19 : Int) (x20 : Int) (x21 : Int) (x22 : Int) (x23 : Int) (x24 : Int) (x25 : Int) (x26 : Int) (x27 : Int) (x28 : Int) (x29 : Int) (x30 : Int) (A31 : Option Addr) (n32 : Nat) (c33 : Nat) (x34 : Int) (x35 : Int) (A36 : Option Addr) (n37 : Nat) (c38 : Nat) (x39 : Int) (x40 : Int) (A41 : Option Addr) (n42 : Nat) (c43 : Nat) (x44 : Int) (x45 : Int) (A46 : Option Addr) (n47 : Nat) (c48 : Nat) (x49 : Int) (x50 : Int) (x51 : Int) (x52 : Int) (x53 : Int) (x54 : Int) (x55 : Int) (x56 : Int) (x57 : Int) (x58 : Int) (x59 : Int) (A60 : Option Addr) (n61 : Nat) (c62 : Nat) (M : Mem) : piece P T k lo F.wiener_Plane 30738248890983 [.v (.slice A1 n2 c3), .v (.int .i64 x4), .l 4 0, .l 5 0, .l 8 0, .v (.int .i64 x5), .l 11 0, .v (.slice A6 n7 c8), .v (.int .i64 x9), .l 14 0, .l 19 0, .v (.int .i64 x10), .v (.int .i64 x11), .v (.slice A12 n13 c14), .v (.int .i64 x15), .v (.int .i64 x16), .l 27 0, .v (.int .i64 x17), .v (.int .i64 x18), .v (.int .i64 x19), .v (.int .i64 x20), .v (.agg ⟨[.int .i64 x21, .int .i64 x22, .int .i64 x23, .int .i64 x24, .int .i64 x25, .int .i64 x26, .int .i64 x27]⟩), .v (.int .i64 x28)] [[.int .i64 x29, .int .i64 x30, .slice A31 n32 c33], [.int .i64 x34, .int .i64 x35, .slice A36 n37 c38], [.int .i64 x39, .int .i64 x40, .slice A41 n42 c43], [.int .i64 x44, .int .i64 x45, .slice A46 n47 c48], [.int .i64 x49, .int .i64 x50], [.int .i64 x51, .int .i64 x52, .int .i64 x53, .int .i64 x54, .int .i64 x55, .int .i64 x56, .int .i64 x57], [.int .i64 x58, .int .i64 x59, .slice A60 n61 c62]] M =
 ob (acall P T k lo F.wiener_across [.agg ⟨[.int .i64 x58, .int .i64 x59, .slice A60 n61 c62]⟩, .int .i64 x16, .agg ⟨[.int .i64 x51, .int .i64 x52, .int .i64 x53, .int .i64 x54, .int .i64 x55, .int .i64 x56, .int .i64 x57]⟩, .int .i64 x10, .int .i64 x11] M) fun r83 =>
 ob ((some r83.1).bind Value.slc?) fun s84 =>
 some (wiener_Plane.c245905991127868 A1 n2 c3 x4 x5 A6 n7 c8 x9 x10 x11 A12 n13 c14 x15 x17 x18 x19 x20 x21 x22 x23 x24 x25 x26 x27 x28 s84.a s84.n s84.c (s84.n : Int) 0 x29 x30 A31 n32 c33 x34 x35 A36 n37 c38 x39 x40 A41 n42 c43 x44 x45 A46 n47 c48 x49 x50 x51 x52 x53 x54 x55 x56 x57 r83.2) := by kernel_rfl
theorem wiener_Plane.p245905991127868 (k lo : Nat) (A1 : Option Addr) (n2 : Nat) (c3 : Nat) (x4 : Int) (x5 : Int) (A6 : Option Addr) (n7 : Nat) (c8 : Nat) (x9 : Int) (x10 : Int) (x11 : Int) (A12 : Option Addr) (n13 : Nat) (c14 : Nat) (x15 : Int) (x16 : Int) (x17 : Int) (x18 : Int) (x19 : Int) (x20 : Int) (x21 : Int) (x22 : Int) (x23 : Int) (x24 : Int) (x25 : Int) (x26 : Int) (x27 : Int) (A28 : Option Addr) (n29 : Nat) (c30 : Nat) (x31 : Int) (x32 : Int) (x33 : Int) (x34 : Int) (A35 : Option Addr) (n36 : Nat) (c37 : Nat) (x38 : Int) (x39 : Int) (A40 : Option Addr) (n41 : Nat) (c42 : Nat) (x43 : Int) (x44 : Int) (A45 : Option Addr) (n46 : Nat) (c47 : Nat) (x48 : Int) (x49 : Int) (A50 : Option Addr) (n51 : Nat) (c52 : Nat) (x53 : Int) (x54 : Int) (x55 : Int) (x56 : Int) (x57 : Int) (x58 : Int) (x59 : Int) (x60 : Int) (x61 : Int) (M : Mem) : piece P T k lo F.wiener_Plane 245905991127868 [.v (.slice A1 n2 c3), .v (.int .i64 x4), .l 4 0, .l 5 0, .l 8 0, .v (.int .i64 x5), .l 11 0, .v (.slice A6 n7 c8), .v (.int .i64 x9), .l 14 0, .l 19 0, .v (.int .i64 x10), .v (.int .i64 x11), .v (.slice A12 n13 c14), .v (.int .i64 x15), .v (.int .i64 x16), .v (.int .i64 x17), .v (.int .i64 x18), .v (.int .i64 x19), .v (.agg ⟨[.int .i64 x20, .int .i64 x21, .int .i64 x22, .int .i64 x23, .int .i64 x24, .int .i64 x25, .int .i64 x26]⟩), .v (.int .i64 x27), .v (.slice A28 n29 c30), .v (.int .i64 x31), .v (.int .i64 x32)] [[.int .i64 x33, .int .i64 x34, .slice A35 n36 c37], [.int .i64 x38, .int .i64 x39, .slice A40 n41 c42], [.int .i64 x43, .int .i64 x44, .slice A45 n46 c47], [.int .i64 x48, .int .i64 x49, .slice A50 n51 c52], [.int .i64 x53, .int .i64 x54], [.int .i64 x55, .int .i64 x56, .int .i64 x57, .int .i64 x58, .int .i64 x59, .int .i64 x60, .int .i64 x61]] M =
 bb (decide (x32 < x31))
 (pb (0 ≤ x32 ∧ x32 < (n29 : Int))
 (ob A28 fun a85 =>
 ob ((M.ld (plus a85 x32.toNat)).bind (Value.int? .i64)) fun x86 =>
 pb (0 ≤ x32 ∧ x32 < (n13 : Int))
 (ob A12 fun a87 =>
 ob ((M.ld (plus a87 x32.toNat)).bind (Value.int? .i64)) fun x88 =>
 pb (0 ≤ x32 ∧ x32 < (n13 : Int))
 (ob A12 fun a89 =>
 ob (M.st lo (plus a89 x32.toNat) [.int .i64 (IntKind.i64.wrap (x88 + (IntKind.i64.wrap (x15 * x86))))]) fun M90 =>
 some (wiener_Plane.c245905991127868 A1 n2 c3 x4 x5 A6 n7 c8 x9 x10 x11 A12 n13 c14 x15 x16 x17 x18 x19 x20 x21 x22 x23 x24 x25 x26 x27 A28 n29 c30 x31 (IntKind.i64.wrap (x32 + 1)) x33 x34 A35 n36 c37 x38 x39 A40 n41 c42 x43 x44 A45 n46 c47 x48 x49 A50 n51 c52 x53 x54 x55 x56 x57 x58 x59 x60 x61 M90)) none) none) none)
 (some (wiener_Plane.c240142569460 A1 n2 c3 x4 x5 A6 n7 c8 x9 x10 x11 A12 n13 c14 x16 x17 x18 x19 x20 x21 x22 x23 x24 x25 x26 (IntKind.i64.wrap (x27 + 1)) x33 x34 A35 n36 c37 x38 x39 A40 n41 c42 x43 x44 A45 n46 c47 x48 x49 A50 n51 c52 x53 x54 x55 x56 x57 x58 x59 x60 x61 M)) := by kernel_rfl
theorem zoetroperef24_Plane.entry (k lo : Nat) (x1 : Int) (x2 : Int) (A3 : Option Addr) (n4 : Nat) (c5 : Nat) (x6 : Int) (x7 : Int) (A8 : Option Addr) (n9 : Nat) (c10 : Nat) (A11 : Option Addr) (n12 : Nat) (c13 : Nat) (x14 : Int) (M : Mem) : entry P T k lo F.zoetroperef24_Plane [.agg ⟨[.int .i64 x1, .int .i64 x2, .slice A3 n4 c5]⟩, .agg ⟨[.int .i64 x6, .int .i64 x7, .slice A8 n9 c10]⟩, .slice A11 n12 c13, .int .i64 x14] M =
 ob (acall P T k lo F.zoetroperef05_Check [.agg ⟨[.int .i64 x1, .int .i64 x2, .slice A3 n4 c5]⟩] M) fun r20 =>
 ob ((some r20.1).bind (Value.int? .i64)) fun x21 =>
 bb (x21 != 0)
 (some (.ret (.tuple ⟨[.agg ⟨[.int .i64 0, .int .i64 0, .slice none 0 0]⟩, .int .i64 2]⟩) r20.2))
 (ob (acall P T k lo F.zoetroperef05_Check [.agg ⟨[.int .i64 x6, .int .i64 x7, .slice A8 n9 c10]⟩] r20.2) fun r22 =>
 ob ((some r22.1).bind (Value.int? .i64)) fun x23 =>
 bb (x23 != 0)
 (some (.ret (.tuple ⟨[.agg ⟨[.int .i64 0, .int .i64 0, .slice none 0 0]⟩, .int .i64 2]⟩) r22.2))
 (bb (x1 != x6)
 (some (.ret (.tuple ⟨[.agg ⟨[.int .i64 0, .int .i64 0, .slice none 0 0]⟩, .int .i64 2]⟩) r22.2))
 (bb (x2 != x7)
 (some (.ret (.tuple ⟨[.agg ⟨[.int .i64 0, .int .i64 0, .slice none 0 0]⟩, .int .i64 2]⟩) r22.2))
 (bb (x14 != 64)
 (bb (x14 != 32)
 (some (.ret (.tuple ⟨[.agg ⟨[.int .i64 0, .int .i64 0, .slice none 0 0]⟩, .int .i64 2]⟩) r22.2))
 (pb (x14 = 0) none
 (pb (x14 = 0) none
 (bb ((n12 : Int) != IntKind.i64.wrap ((IntKind.i64.wrap (Int.tdiv (IntKind.i64.wrap ((IntKind.i64.wrap (x1 + x14)) - 1)) x14)) * (IntKind.i64.wrap (Int.tdiv (IntKind.i64.wrap ((IntKind.i64.wrap (x2 + x14)) - 1)) x14))))
 (some (.ret (.tuple ⟨[.agg ⟨[.int .i64 0, .int .i64 0, .slice none 0 0]⟩, .int .i64 2]⟩) r22.2))
 (some (zoetroperef24_Plane.c500 A11 n12 c13 x14 (IntKind.i64.wrap (Int.tdiv (IntKind.i64.wrap ((IntKind.i64.wrap (x1 + x14)) - 1)) x14)) 0 x1 x2 A3 n4 c5 x6 x7 A8 n9 c10 0 0 none 0 0 r22.2))))))
 (pb (x14 = 0) none
 (pb (x14 = 0) none
 (bb ((n12 : Int) != IntKind.i64.wrap ((IntKind.i64.wrap (Int.tdiv (IntKind.i64.wrap ((IntKind.i64.wrap (x1 + x14)) - 1)) x14)) * (IntKind.i64.wrap (Int.tdiv (IntKind.i64.wrap ((IntKind.i64.wrap (x2 + x14)) - 1)) x14))))
 (some (.ret (.tuple ⟨[.agg ⟨[.int .i64 0, .int .i64 0, .slice none 0 0]⟩, .int .i64 2]⟩) r22.2))
 (some (zoetroperef24_Plane.c500 A11 n12 c13 x14 (IntKind.i64.wrap (Int.tdiv (IntKind.i64.wrap ((IntKind.i64.wrap (x1 + x14)) - 1)) x14)) 0 x1 x2 A3 n4 c5 x6 x7 A8 n9 c10 0 0 none 0 0 r22.2))))))))) := by kernel_rfl
theorem zoetroperef24_Plane.p500 (k lo : Nat) (A1 : Option Addr) (n2 : Nat) (c3 : Nat) (x4 : Int) (x5 : Int) (x6 : Int) (x7 : Int) (x8 : Int) (A9 : Option Addr) (n10 : Nat) (c11 : Nat) (x12 : Int) (x13 : Int) (A14 : Option Addr) (n15 : Nat) (c16 : Nat) (x17 : Int) (x18 : Int) (A19 : Option Addr) (n20 : Nat) (c21 : Nat) (M : Mem) : piece P T k lo F.zoetroperef24_Plane 500 [.v (.slice A1 n2 c3), .v (.int .i64 x4), .l 4 0, .l 5 0, .l 8 0, .v (.int .i64 x5), .v (.int .i64 x6)] [[.int .i64 x7, .int .i64 x8, .slice A9 n10 c11], [.int .i64 x12, .int .i64 x13, .slice A14 n15 c16], [.int .i64 x17, .int .i64 x18, .slice A19 n20 c21]] M =
 bb (decide (x6 < (n2 : Int)))
 (pb (0 ≤ x6 ∧ x6 < (n2 : Int))
 (ob A1 fun a24 =>
 ob ((M.ld (plus a24 (x6.toNat * 7))).bind Value.bool?) fun b25 =>
 ob ((M.ld (plus (plus a24 (x6.toNat * 7)) 1)).bind (Value.int? .i64)) fun x26 =>
 ob ((M.ld (plus (plus a24 (x6.toNat * 7)) 2)).bind (Value.int? .i64)) fun x27 =>
 ob ((M.ld (plus (plus a24 (x6.toNat * 7)) 3)).bind (Value.int? .i64)) fun x28 =>
 ob ((M.ld (plus (plus a24 (x6.toNat * 7)) 4)).bind (Value.int? .i64)) fun x29 =>
 ob ((M.ld (plus (plus a24 (x6.toNat * 7)) 5)).bind (Value.int? .i64)) fun x30 =>
 ob ((M.ld (plus (plus a24 (x6.toNat * 7)) 6)).bind (Value.int? .i64)) fun x31 =>
 ob (acall P T k lo F.zoetroperef24_Check [.agg ⟨[.bool b25, .int .i64 x26, .int .i64 x27, .int .i64 x28, .int .i64 x29, .int .i64 x30, .int .i64 x31]⟩] M) fun r32 =>
 ob ((some r32.1).bind (Value.int? .i64)) fun x33 =>
 bb (x33 != 0)
 (some (.ret (.tuple ⟨[.agg ⟨[.int .i64 0, .int .i64 0, .slice none 0 0]⟩, .int .i64 2]⟩) r32.2))
 (some (zoetroperef24_Plane.c500 A1 n2 c3 x4 x5 (IntKind.i64.wrap (x6 + 1)) x7 x8 A9 n10 c11 x12 x13 A14 n15 c16 x17 x18 A19 n20 c21 r32.2))) none)
 (ob (acall P T k lo F.zoetroperef05_CopyPlane [.agg ⟨[.int .i64 x7, .int .i64 x8, .slice A9 n10 c11]⟩] M) fun r34 =>
 ob ((some r34.1).bind (Value.agg? 3)) fun l35 =>
 ob ((l35[0]?).bind (Value.int? .i64)) fun x36 =>
 ob ((l35[1]?).bind (Value.int? .i64)) fun x37 =>
 ob ((l35[2]?).bind Value.slc?) fun s38 =>
 some (zoetroperef24_Plane.c2036 A1 n2 c3 x4 x5 0 x7 x8 A9 n10 c11 x12 x13 A14 n15 c16 x17 x18 A19 n20 c21 x36 x37 s38.a s38.n s38.c r34.2)) := by kernel_rfl
theorem zoetroperef24_Plane.p2036 (k lo : Nat) (A1 : Option Addr) (n2 : Nat) (c3 : Nat) (x4 : Int) (x5 : Int) (x6 : Int) (x7 : Int) (x8 : Int) (A9 : Option Addr) (n10 : Nat) (c11 : Nat) (x12 : Int) (x13 : Int) (A14 : Option Addr) (n15 : Nat) (c16 : Nat) (x17 : Int) (x18 : Int) (A19 : Option Addr) (n20 : Nat) (c21 : Nat) (x22 : Int) (x23 : Int) (A24 : Option Addr) (n25 : Nat) (c26 : Nat) (M : Mem) : piece P T k lo F.zoetroperef24_Plane 2036 [.v (.slice A1 n2 c3), .v (.int .i64 x4), .l 4 0, .l 5 0, .l 8 0, .v (.int .i64 x5), .l 12 0, .v (.int .i64 x6)] [[.int .i64 x7, .int .i64 x8, .slice A9 n10 c11], [.int .i64 x12, .int .i64 x13, .slice A14 n15 c16], [.int .i64 x17, .int .i64 x18, .slice A19 n20 c21], [.int .i64 x22, .int .i64 x23, .slice A24 n25 c26]] M =
 bb (decide (x6 < x8))
 (some (zoetroperef24_Plane.c130340 A1 n2 c3 x4 x5 x6 0 x7 x8 A9 n10 c11 x12 x13 A14 n15 c16 x17 x18 A19 n20 c21 x22 x23 A24 n25 c26 M))
 (some (.ret (.tuple ⟨[.agg ⟨[.int .i64 x22, .int .i64 x23, .slice A24 n25 c26]⟩, .int .i64 0]⟩) M)) := by kernel_rfl
theorem zoetroperef24_Plane.p130340 (k lo : Nat) (A1 : Option Addr) (n2 : Nat) (c3 : Nat) (x4 : Int) (x5 : Int) (x6 : Int) (x7 : Int) (x8 : Int) (x9 : Int) (A10 : Option Addr) (n11 : Nat) (c12 : Nat) (x13 : Int) (x14 : Int) (A15 : Option Addr) (n16 : Nat) (c17 : Nat) (x18 : Int) (x19 : Int) (A20 : Option Addr) (n21 : Nat) (c22 : Nat) (x23 : Int) (x24 : Int) (A25 : Option Addr) (n26 : Nat) (c27 : Nat) (M : Mem) : piece P T k lo F.zoetroperef24_Plane 130340 [.v (.slice A1 n2 c3), .v (.int .i64 x4), .l 4 0, .l 5 0, .l 8 0, .v (.int .i64 x5), .l 12 0, .v (.int .i64 x6), .v (.int .i64 x7)] [[.int .i64 x8, .int .i64 x9, .slice A10 n11 c12], [.int .i64 x13, .int .i64 x14, .slice A15 n16 c17], [.int .i64 x18, .int .i64 x19, .slice A20 n21 c22], [.int .i64 x23, .int .i64 x24, .slice A25 n26 c27]] M =
 bb (decide (x7 < x8))
 (pb (x4 = 0) none
 (pb (x4 = 0) none
 (pb (0 ≤ IntKind.i64.wrap ((IntKind.i64.wrap ((IntKind.i64.wrap (Int.tdiv x6 x4)) * x5)) + (IntKind.i64.wrap (Int.tdiv x7 x4))) ∧ IntKind.i64.wrap ((IntKind.i64.wrap ((IntKind.i64.wrap (Int.tdiv x6 x4)) * x5)) + (IntKind.i64.wrap (Int.tdiv x7 x4))) < (n2 : Int))
 (ob A1 fun a39 =>
 ob ((M.ld (plus a39 ((IntKind.i64.wrap ((IntKind.i64.wrap ((IntKind.i64.wrap (Int.tdiv x6 x4)) * x5)) + (IntKind.i64.wrap (Int.tdiv x7 x4)))).toNat * 7))).bind Value.bool?) fun b40 =>
 ob ((M.ld (plus (plus a39 ((IntKind.i64.wrap ((IntKind.i64.wrap ((IntKind.i64.wrap (Int.tdiv x6 x4)) * x5)) + (IntKind.i64.wrap (Int.tdiv x7 x4)))).toNat * 7)) 1)).bind (Value.int? .i64)) fun x41 =>
 ob ((M.ld (plus (plus a39 ((IntKind.i64.wrap ((IntKind.i64.wrap ((IntKind.i64.wrap (Int.tdiv x6 x4)) * x5)) + (IntKind.i64.wrap (Int.tdiv x7 x4)))).toNat * 7)) 2)).bind (Value.int? .i64)) fun x42 =>
 ob ((M.ld (plus (plus a39 ((IntKind.i64.wrap ((IntKind.i64.wrap ((IntKind.i64.wrap (Int.tdiv x6 x4)) * x5)) + (IntKind.i64.wrap (Int.tdiv x7 x4)))).toNat * 7)) 3)).bind (Value.int? .i64)) fun x43 =>
 ob ((M.ld (plus (plus a39 ((IntKind.i64.wrap ((IntKind.i64.wrap ((IntKind.i64.wrap (Int.tdiv x6 x4)) * x5)) + (IntKind.i64.wrap (Int.tdiv x7 x4)))).toNat * 7)) 4)).bind (Value.int? .i64)) fun x44 =>
 ob ((M.ld (plus (plus a39 ((IntKind.i64.wrap ((IntKind.i64.wrap ((IntKind.i64.wrap (Int.tdiv x6 x4)) * x5)) + (IntKind.i64.wrap (Int.tdiv x7 x4)))).toNat * 7)) 5)).bind (Value.int? .i64)) fun x45 =>
 ob ((M.ld (plus (plus a39 ((IntKind.i64.wrap ((IntKind.i64.wrap ((IntKind.i64.wrap (Int.tdiv x6 x4)) * x5)) + (IntKind.i64.wrap (Int.tdiv x7 x4)))).toNat * 7)) 6)).bind (Value.int? .i64)) fun x46 =>
 bb b40
 (ob (acall P T k M.length F.zoetroperef24_sample [.agg ⟨[.int .i64 x8, .int .i64 x9, .slice A10 n11 c12]⟩, .agg ⟨[.int .i64 x13, .int .i64 x14, .slice A15 n16 c17]⟩, .int .i64 x7, .int .i64 x6, .agg ⟨[.bool b40, .int .i64 x41, .int .i64 x42, .int .i64 x43, .int .i64 x44, .int .i64 x45, .int .i64 x46]⟩, .int .i64 x4] M) fun r47 =>
 ob ((some r47.1).bind (Value.int? .u8)) fun x48 =>
 pb (0 ≤ IntKind.i64.wrap ((IntKind.i64.wrap (x6 * x8)) + x7) ∧ IntKind.i64.wrap ((IntKind.i64.wrap (x6 * x8)) + x7) < (n26 : Int))
 (ob A25 fun a49 =>
 ob (r47.2.st lo (plus a49 ((IntKind.i64.wrap ((IntKind.i64.wrap (x6 * x8)) + x7)).toNat)) [.int .u8 x48]) fun M50 =>
 some (zoetroperef24_Plane.c521363 A1 n2 c3 x4 x5 x6 x7 x8 x9 A10 n11 c12 x13 x14 A15 n16 c17 x18 x19 A20 n21 c22 x23 x24 A25 n26 c27 M50)) none)
 (some (zoetroperef24_Plane.c521363 A1 n2 c3 x4 x5 x6 x7 x8 x9 A10 n11 c12 x13 x14 A15 n16 c17 x18 x19 A20 n21 c22 x23 x24 A25 n26 c27 M))) none)))
 (some (zoetroperef24_Plane.c2036 A1 n2 c3 x4 x5 (IntKind.i64.wrap (x6 + 1)) x8 x9 A10 n11 c12 x13 x14 A15 n16 c17 x18 x19 A20 n21 c22 x23 x24 A25 n26 c27 M)) := by kernel_rfl
theorem zoetroperef24_Plane.p521363 (k lo : Nat) (A1 : Option Addr) (n2 : Nat) (c3 : Nat) (x4 : Int) (x5 : Int) (x6 : Int) (x7 : Int) (x8 : Int) (x9 : Int) (A10 : Option Addr) (n11 : Nat) (c12 : Nat) (x13 : Int) (x14 : Int) (A15 : Option Addr) (n16 : Nat) (c17 : Nat) (x18 : Int) (x19 : Int) (A20 : Option Addr) (n21 : Nat) (c22 : Nat) (x23 : Int) (x24 : Int) (A25 : Option Addr) (n26 : Nat) (c27 : Nat) (M : Mem) : piece P T k lo F.zoetroperef24_Plane 521363 [.v (.slice A1 n2 c3), .v (.int .i64 x4), .l 4 0, .l 5 0, .l 8 0, .v (.int .i64 x5), .l 12 0, .v (.int .i64 x6), .v (.int .i64 x7)] [[.int .i64 x8, .int .i64 x9, .slice A10 n11 c12], [.int .i64 x13, .int .i64 x14, .slice A15 n16 c17], [.int .i64 x18, .int .i64 x19, .slice A20 n21 c22], [.int .i64 x23, .int .i64 x24, .slice A25 n26 c27]] M =
 some (zoetroperef24_Plane.c130340 A1 n2 c3 x4 x5 x6 (IntKind.i64.wrap (x7 + 1)) x8 x9 A10 n11 c12 x13 x14 A15 n16 c17 x18 x19 A20 n21 c22 x23 x24 A25 n26 c27 M) := by kernel_rfl
theorem zoetroperef00_EqBytes.entry (k lo : Nat) (A1 : Option Addr) (n2 : Nat) (c3 : Nat) (A4 : Option Addr) (n5 : Nat) (c6 : Nat) (M : Mem) : entry P T k lo F.zoetroperef00_EqBytes [.slice A1 n2 c3, .slice A4 n5 c6] M =
 bb ((n2 : Int) != (n5 : Int))
 (some (.ret (.bool false) M))
 (some (zoetroperef00_EqBytes.c116 A1 n2 c3 A4 n5 c6 0 M)) := by kernel_rfl
theorem zoetroperef00_EqBytes.p116 (k lo : Nat) (A1 : Option Addr) (n2 : Nat) (c3 : Nat) (A4 : Option Addr) (n5 : Nat) (c6 : Nat) (x7 : Int) (M : Mem) : piece P T k lo F.zoetroperef00_EqBytes 116 [.v (.slice A1 n2 c3), .v (.slice A4 n5 c6), .v (.int .i64 x7)] [] M =
 bb (decide (x7 < (n2 : Int)))
 (pb (0 ≤ x7 ∧ x7 < (n2 : Int))
 (ob A1 fun a12 =>
 ob ((M.ld (plus a12 x7.toNat)).bind (Value.int? .u8)) fun x13 =>
 pb (0 ≤ x7 ∧ x7 < (n5 : Int))
 (ob A4 fun a14 =>
 ob ((M.ld (plus a14 x7.toNat)).bind (Value.int? .u8)) fun x15 =>
 bb (x13 != x15)
 (some (.ret (.bool false) M))
 (some (zoetroperef00_EqBytes.c116 A1 n2 c3 A4 n5 c6 (IntKind.i64.wrap (x7 + 1)) M))) none) none)
 (some (.ret (.bool true) M)) := by kernel_rfl
theorem plane_Check.entry (k lo : Nat) (x1 : Int) (x2 : Int) (A3 : Option Addr) (n4 : Nat) (c5 : Nat) (M : Mem) : entry P T k lo F.plane_Check [.agg ⟨[.int .i64 x1, .int .i64 x2, .slice A3 n4 c5]⟩] M =
 ob (acall P T k lo F.plane_sizes [.int .i64 x1, .int .i64 x2] M) fun r11 =>
 ob ((some r11.1).bind Value.bool?) fun b12 =>
 bb (!b12)
 (some (.ret (.int .i64 2) r11.2))
 (bb ((n4 : Int) != IntKind.i64.wrap (x1 * x2))
 (some (.ret (.int .i64 2) r11.2))
 (some (.ret (.int .i64 0) r11.2))) := by kernel_rfl
theorem zoetroperef00_Bring.entry (k lo : Nat) (x1 : Int) (x2 : Int) (M : Mem) : entry P T k lo F.zoetroperef00_Bring [.int .i64 x1, .int .i64 x2] M =
 bb (decide (x2 ≤ 0))
 (some (.ret (.int .i64 0) M))
 (pb (x2 = 0) none
 (bb (decide (Int.tmod x1 x2 < 0))
 (some (zoetroperef00_Bring.c31 (IntKind.i64.wrap ((Int.tmod x1 x2) + x2)) M))
 (some (zoetroperef00_Bring.c31 (Int.tmod x1 x2) M)))) := by kernel_rfl
theorem zoetroperef00_Bring.p31 (k lo : Nat) (x1 : Int) (M : Mem) : piece P T k lo F.zoetroperef00_Bring 31 [.v (.int .i64 x1)] [] M =
 some (.ret (.int .i64 x1) M) := by kernel_rfl
theorem zoetropelaw24_all.entry (k lo : Nat) (x1 : Int) (x2 : Int) (A3 : Option Addr) (n4 : Nat) (c5 : Nat) (x6 : Int) (b7 : Bool) (x8 : Int) (x9 : Int) (x10 : Int) (x11 : Int) (x12 : Int) (x13 : Int) (M : Mem) : entry P T k lo F.zoetropelaw24_all [.agg ⟨[.int .i64 x1, .int .i64 x2, .slice A3 n4 c5]⟩, .int .i64 x6, .agg ⟨[.bool b7, .int .i64 x8, .int .i64 x9, .int .i64 x10, .int .i64 x11, .int .i64 x12, .int .i64 x13]⟩] M =
 some (zoetropelaw24_all.c116 x6 none 0 0 0 x1 x2 A3 n4 c5 b7 x8 x9 x10 x11 x12 x13 M) := by kernel_rfl
theorem zoetropelaw24_all.p116 (k lo : Nat) (x1 : Int) (A2 : Option Addr) (n3 : Nat) (c4 : Nat) (x5 : Int) (x6 : Int) (x7 : Int) (A8 : Option Addr) (n9 : Nat) (c10 : Nat) (b11 : Bool) (x12 : Int) (x13 : Int) (x14 : Int) (x15 : Int) (x16 : Int) (x17 : Int) (M : Mem) : piece P T k lo F.zoetropelaw24_all 116 [.v (.int .i64 x1), .l 3 0, .l 5 0, .v (.slice A2 n3 c4), .v (.int .i64 x5)] [[.int .i64 x6, .int .i64 x7, .slice A8 n9 c10], [.bool b11, .int .i64 x12, .int .i64 x13, .int .i64 x14, .int .i64 x15, .int .i64 x16, .int .i64 x17]] M =
 pb (x1 = 0) none
 (pb (x1 = 0) none
 (bb (decide (x5 < IntKind.i64.wrap ((IntKind.i64.wrap (Int.tdiv (IntKind.i64.wrap ((IntKind.i64.wrap (x6 + x1)) - 1)) x1)) * (IntKind.i64.wrap (Int.tdiv (IntKind.i64.wrap ((IntKind.i64.wrap (x7 + x1)) - 1)) x1)))))
 (ob (M.app lo 7 56 ⟨A2, n3, c4⟩ ([.bool b11, .int .i64 x12, .int .i64 x13, .int .i64 x14, .int .i64 x15, .int .i64 x16, .int .i64 x17]) 1) fun r19 =>
 some (zoetropelaw24_all.c116 x1 r19.1.a r19.1.n r19.1.c (IntKind.i64.wrap (x5 + 1)) x6 x7 A8 n9 c10 b11 x12 x13 x14 x15 x16 x17 r19.2))
 (some (.ret (.slice A2 n3 c4) M)))) := by kernel_rfl
theorem zoetropelaw24_made.entry (k lo : Nat) (x1 : Int) (x2 : Int) (x3 : Int) (M : Mem) : entry P T k lo F.zoetropelaw24_made [.agg ⟨[.int .i64 x1, .int .i64 x2, .int .i64 x3]⟩] M =
 ob (acall P T k M.length F.zoetroperef00_Bring [.int .i64 x1, .int .i64 16] M) fun r9 =>
 ob ((some r9.1).bind (Value.int? .i64)) fun x10 =>
 ob (acall P T k M.length F.zoetroperef00_Bring [.int .i64 x2, .int .i64 32] r9.2) fun r11 =>
 ob ((some r11.1).bind (Value.int? .i64)) fun x12 =>
 ob (acall P T k M.length F.zoetroperef00_Bring [.int .i64 x3, .int .i64 64] r11.2) fun r13 =>
 ob ((some r13.1).bind (Value.int? .i64)) fun x14 =>
 some (.ret (.agg ⟨[.int .i64 (IntKind.i64.wrap (x10 - 5)), .int .i64 (IntKind.i64.wrap (x12 - 23)), .int .i64 (IntKind.i64.wrap (x14 - 17))]⟩) r13.2) := by kernel_rfl
theorem zoetroperef00_CopyBytes.entry (k lo : Nat) (A1 : Option Addr) (n2 : Nat) (c3 : Nat) (M : Mem) : entry P T k lo F.zoetroperef00_CopyBytes [.slice A1 n2 c3] M =
 ob (Mem.src M A1 n2 n2) fun l9 =>
 ob (M.app lo 1 1 ⟨none, 0, 0⟩ l9 n2) fun r10 =>
 some (.ret (.slice r10.1.a r10.1.n r10.1.c) r10.2) := by kernel_rfl
theorem zoetropelaw24_usual.entry (k lo : Nat) (M : Mem) : entry P T k lo F.zoetropelaw24_usual [] M =
 some (.ret (.agg ⟨[.int .i64 7, .int .i64 1, .slice (some ⟨M.length, 0, none⟩) 7 7]⟩) (M ++ [⟨.fx, [.int .u8 0, .int .u8 0, .int .u8 0, .int .u8 128, .int .u8 0, .int .u8 0, .int .u8 0]⟩] : Mem)) := by kernel_rfl
theorem plane_New.entry (k lo : Nat) (x1 : Int) (x2 : Int) (x3 : Int) (M : Mem) : entry P T k lo F.plane_New [.int .i64 x1, .int .i64 x2, .int .u8 x3] M =
 ob (acall P T k lo F.plane_sizes [.int .i64 x1, .int .i64 x2] M) fun r9 =>
 ob ((some r9.1).bind Value.bool?) fun b10 =>
 bb (!b10)
 (some (.ret (.tuple ⟨[.agg ⟨[.int .i64 0, .int .i64 0, .slice none 0 0]⟩, .int .i64 2]⟩) r9.2))
 (ob (acall P T k lo F.slices_Repeat__uint8_uint8 [.slice (some ⟨r9.2.length, 0, none⟩) 1 1, .int .i64 (IntKind.i64.wrap (x1 * x2))] (r9.2 ++ [⟨.fx, [.int .u8 x3]⟩] : Mem)) fun r11 =>
 ob ((some r11.1).bind Value.slc?) fun s12 =>
 some (.ret (.tuple ⟨[.agg ⟨[.int .i64 x1, .int .i64 x2, .slice s12.a s12.n s12.c]⟩, .int .i64 0]⟩) r11.2)) := by kernel_rfl
theorem plane_Same.entry (k lo : Nat) (x1 : Int) (x2 : Int) (A3 : Option Addr) (n4 : Nat) (c5 : Nat) (x6 : Int) (x7 : Int) (A8 : Option Addr) (n9 : Nat) (c10 : Nat) (M : Mem) : entry P T k lo F.plane_Same [.agg ⟨[.int .i64 x1, .int .i64 x2, .slice A3 n4 c5]⟩, .agg ⟨[.int .i64 x6, .int .i64 x7, .slice A8 n9 c10]⟩] M =
 bb (x1 == x6)
 (bb (x2 == x7)
 (ob (acall P T k lo F.slices_Equal__uint8_uint8 [.slice A3 n4 c5, .slice A8 n9 c10] M) fun r16 =>
 ob ((some r16.1).bind Value.bool?) fun b17 =>
 some (.ret (.bool b17) r16.2))
 (some (.ret (.bool false) M)))
 (some (.ret (.bool false) M)) := by kernel_rfl
theorem wiener_tapsMay.entry (k lo : Nat) (x1 : Int) (x2 : Int) (x3 : Int) (M : Mem) : entry P T k lo F.wiener_tapsMay [.agg ⟨[.int .i64 x1, .int .i64 x2, .int .i64 x3]⟩] M =
 ob (acall P T k lo F.wiener_within [.int .i64 x1, .int .i64 (-5), .int .i64 10] M) fun r9 =>
 ob ((some r9.1).bind Value.bool?) fun b10 =>
 bb b10
 (ob (acall P T k lo F.wiener_within [.int .i64 x2, .int .i64 (-23), .int .i64 8] r9.2) fun r11 =>
 ob ((some r11.1).bind Value.bool?) fun b12 =>
 bb b12
 (ob (acall P T k lo F.wiener_within [.int .i64 x3, .int .i64 (-17), .int .i64 46] r11.2) fun r13 =>
 ob ((some r13.1).bind Value.bool?) fun b14 =>
 some (.ret (.bool b14) r13.2))
 (some (.ret (.bool false) r11.2)))
 (some (.ret (.bool false) r9.2)) := by kernel_rfl
theorem zoetroperef24_taps.entry (k lo : Nat) (x1 : Int) (x2 : Int) (x3 : Int) (M : Mem) : entry P T k lo F.zoetroperef24_taps [.agg ⟨[.int .i64 x1, .int .i64 x2, .int .i64 x3]⟩] M =
 bb (decide (x1 ≥ (-5)))
 (bb (decide (x1 ≤ 10))
 (bb (decide (x2 ≥ (-23)))
 (bb (decide (x2 ≤ 8))
 (bb (decide (x3 ≥ (-17)))
 (some (.ret (.bool (decide (x3 ≤ 46))) M))
 (some (.ret (.bool false) M)))
 (some (.ret (.bool false) M)))
 (some (.ret (.bool false) M)))
 (some (.ret (.bool false) M)))
 (some (.ret (.bool false) M)) := by kernel_rfl
theorem slices_ContainsFunc__api_Unit_api_Unit.entry (k lo : Nat) (A1 : Option Addr) (n2 : Nat) (c3 : Nat) (v4 : Value) (M : Mem) : entry P T k lo F.slices_ContainsFunc__api_Unit_api_Unit [.slice A1 n2 c3, v4] M =
 ob (acall P T k lo F.slices_IndexFunc__api_Unit_api_Unit [.slice A1 n2 c3, v4] M) fun r10 =>
 ob ((some r10.1).bind (Value.int? .i64)) fun x11 =>
 some (.ret (.bool (decide (x11 ≥ 0))) r10.2) := by kernel_rfl
theorem wiener_Plane_1.entry (k lo : Nat) (b1 : Bool) (x2 : Int) (x3 : Int) (x4 : Int) (x5 : Int) (x6 : Int) (x7 : Int) (M : Mem) : entry P T k lo F.wiener_Plane_1 [.agg ⟨[.bool b1, .int .i64 x2, .int .i64 x3, .int .i64 x4, .int .i64 x5, .int .i64 x6, .int .i64 x7]⟩] M =
 ob (acall P T k lo F.wiener_Check [.agg ⟨[.bool b1, .int .i64 x2, .int .i64 x3, .int .i64 x4, .int .i64 x5, .int .i64 x6, .int .i64 x7]⟩] M) fun r13 =>
 ob ((some r13.1).bind (Value.int? .i64)) fun x14 =>
 some (.ret (.bool (x14 != 0)) r13.2) := by kernel_rfl
theorem slices_Clone__uint8_uint8.entry (k lo : Nat) (A1 : Option Addr) (n2 : Nat) (c3 : Nat) (M : Mem) : entry P T k lo F.slices_Clone__uint8_uint8 [.slice A1 n2 c3] M =
 bb A1.isNone
 (some (.ret (.slice none 0 0) M))
 (ob (Mem.src (M ++ [⟨.fx, []⟩] : Mem) A1 n2 n2) fun l9 =>
 ob ((M ++ [⟨.fx, []⟩] : Mem).app lo 1 1 ⟨some ⟨M.length, 0, none⟩, 0, 0⟩ l9 n2) fun r10 =>
 some (.ret (.slice r10.1.a r10.1.n r10.1.c) r10.2)) := by kernel_rfl
theorem wiener_stripeOf.entry (k lo : Nat) (x1 : Int) (x2 : Int) (M : Mem) : entry P T k lo F.wiener_stripeOf [.int .i64 x1, .int .i64 x2] M =
 pb (x2 = 0) none
 (some (.ret (.agg ⟨[.int .i64 (IntKind.i64.wrap ((IntKind.i64.wrap ((IntKind.i64.wrap (Int.tdiv (IntKind.i64.wrap (x1 + (IntKind.i64.wrap (Int.tdiv x2 8)))) x2)) * x2)) - (IntKind.i64.wrap (Int.tdiv x2 8)))), .int .i64 (IntKind.i64.wrap ((IntKind.i64.wrap ((IntKind.i64.wrap ((IntKind.i64.wrap (Int.tdiv (IntKind.i64.wrap (x1 + (IntKind.i64.wrap (Int.tdiv x2 8)))) x2)) * x2)) - (IntKind.i64.wrap (Int.tdiv x2 8)))) + x2))]⟩) M)) := by kernel_rfl
theorem wiener_clip.entry (k lo : Nat) (x1 : Int) (x2 : Int) (x3 : Int) (M : Mem) : entry P T k lo F.wiener_clip [.int .i64 x1, .int .i64 x2, .int .i64 x3] M =
 some (.ret (.int .i64 (minI (maxI x1 x2) x3)) M) := by kernel_rfl
theorem wiener_within.entry (k lo : Nat) (x1 : Int) (x2 : Int) (x3 : Int) (M : Mem) : entry P T k lo F.wiener_within [.int .i64 x1, .int .i64 x2, .int .i64 x3] M =
 bb (decide (x1 ≥ x2))
 (some (.ret (.bool (decide (x1 ≤ x3))) M))
 (some (.ret (.bool false) M)) := by kernel_rfl
theorem wiener_across.entry (k lo : Nat) (x1 : Int) (x2 : Int) (A3 : Option Addr) (n4 : Nat) (c5 : Nat) (x6 : Int) (x7 : Int) (x8 : Int) (x9 : Int) (x10 : Int) (x11 : Int) (x12 : Int) (x13 : Int) (x14 : Int) (x15 : Int) (M : Mem) : entry P T k lo F.wiener_across [.agg ⟨[.int .i64 x1, .int .i64 x2, .slice A3 n4 c5]⟩, .int .i64 x6, .agg ⟨[.int .i64 x7, .int .i64 x8, .int .i64 x9, .int .i64 x10, .int .i64 x11, .int .i64 x12, .int .i64 x13]⟩, .int .i64 x14, .int .i64 x15] M =
 pb (0 ≤ IntKind.i64.wrap (x15 - x14) ∧ room ((IntKind.i64.wrap (x15 - x14)).toNat) 8)
 (pb (0 ≤ IntKind.i64.wrap (x6 * x1) ∧ IntKind.i64.wrap (x6 * x1) ≤ IntKind.i64.wrap ((IntKind.i64.wrap (x6 + 1)) * x1) ∧ IntKind.i64.wrap ((IntKind.i64.wrap (x6 + 1)) * x1) ≤ (c5 : Int))
 (some (wiener_across.c244 x15 (some ⟨M.length, 0, some 0⟩) 0 0 (slAddr 1 A3 ((IntKind.i64.wrap (x6 * x1)).toNat) c5) (((IntKind.i64.wrap ((IntKind.i64.wrap (x6 + 1)) * x1)).toNat) - ((IntKind.i64.wrap (x6 * x1)).toNat)) (c5 - ((IntKind.i64.wrap (x6 * x1)).toNat)) x14 x1 x2 A3 n4 c5 x7 x8 x9 x10 x11 x12 x13 (M ++ [⟨.op 1, []⟩] : Mem))) none) none := by kernel_rfl
theorem wiener_across.p244 (k lo : Nat) (x1 : Int) (A2 : Option Addr) (n3 : Nat) (c4 : Nat) (A5 : Option Addr) (n6 : Nat) (c7 : Nat) (x8 : Int) (x9 : Int) (x10 : Int) (A11 : Option Addr) (n12 : Nat) (c13 : Nat) (x14 : Int) (x15 : Int) (x16 : Int) (x17 : Int) (x18 : Int) (x19 : Int) (x20 : Int) (M : Mem) : piece P T k lo F.wiener_across 244 [.v (.int .i64 x1), .l 5 0, .l 7 0, .v (.slice A2 n3 c4), .v (.slice A5 n6 c7), .v (.int .i64 x8)] [[.int .i64 x9, .int .i64 x10, .slice A11 n12 c13], [.int .i64 x14, .int .i64 x15, .int .i64 x16, .int .i64 x17, .int .i64 x18, .int .i64 x19, .int .i64 x20]] M =
 bb (decide (x8 < x1))
 (some (wiener_across.c62612 x1 A2 n3 c4 A5 n6 c7 x8 0 x14 x15 x16 x17 x18 x19 x20 0 x9 x10 A11 n12 c13 x14 x15 x16 x17 x18 x19 x20 M))
 (some (.ret (.slice A2 n3 c4) M)) := by kernel_rfl
theorem wiener_across.p62612 (k lo : Nat) (x1 : Int) (A2 : Option Addr) (n3 : Nat) (c4 : Nat) (A5 : Option Addr) (n6 : Nat) (c7 : Nat) (x8 : Int) (x9 : Int) (x10 : Int) (x11 : Int) (x12 : Int) (x13 : Int) (x14 : Int) (x15 : Int) (x16 : Int) (x17 : Int) (x18 : Int) (x19 : Int) (A20 : Option Addr) (n21 : Nat) (c22 : Nat) (x23 : Int) (x24 : Int) (x25 : Int) (x26 : Int) (x27 : Int) (x28 : Int) (x29 : Int) (M : Mem) : piece P T k lo F.wiener_across 62612 [.v (.int .i64 x1), .l 5 0, .l 7 0, .v (.slice A2 n3 c4), .v (.slice A5 n6 c7), .v (.int .i64 x8), .v (.int .i64 x9), .v (.agg ⟨[.int .i64 x10, .int .i64 x11, .int .i64 x12, .int .i64 x13, .int .i64 x14, .int .i64 x15, .int .i64 x16]⟩), .v (.int .i64 x17)] [[.int .i64 x18, .int .i64 x19, .slice A20 n21 c22], [.int .i64 x23, .int .i64 x24, .int .i64 x25, .int .i64 x26, .int .i64 x27, .int .i64 x28, .int .i64 x29]] M =
 bb (decide (x17 < 7))
 (pb (0 ≤ x17 ∧ x17 < (7 : Int))
 (ob ((([.int .i64 x10, .int .i64 x11, .int .i64 x12, .int .i64 x13, .int .i64 x14, .int .i64 x15, .int .i64 x16] : List Value)[x17.toNat + 0]?).bind (Value.int? .i64)) fun x30 =>
 ob (acall P T k lo F.wiener_clip [.int .i64 (IntKind.i64.wrap ((IntKind.i64.wrap (x8 + x17)) - 3)), .int .i64 0, .int .i64 (IntKind.i64.wrap (x18 - 1))] M) fun r31 =>
 ob ((some r31.1).bind (Value.int? .i64)) fun x32 =>
 pb (0 ≤ x32 ∧ x32 < (n6 : Int))
 (ob A5 fun a33 =>
 ob ((r31.2.ld (plus a33 x32.toNat)).bind (Value.int? .u8)) fun x34 =>
 some (wiener_across.c62612 x1 A2 n3 c4 A5 n6 c7 x8 (IntKind.i64.wrap (x9 + (IntKind.i64.wrap (x30 * (IntKind.i64.wrap x34))))) x10 x11 x12 x13 x14 x15 x16 (IntKind.i64.wrap (x17 + 1)) x18 x19 A20 n21 c22 x23 x24 x25 x26 x27 x28 x29 r31.2)) none) none)
 (ob (acall P T k lo F.wiener_round [.int .i64 x9, .int .i64 3] M) fun r35 =>
 ob ((some r35.1).bind (Value.int? .i64)) fun x36 =>
 ob (acall P T k lo F.wiener_clip [.int .i64 x36, .int .i64 (-4096), .int .i64 8191] r35.2) fun r37 =>
 ob ((some r37.1).bind (Value.int? .i64)) fun x38 =>
 ob (r37.2.app lo 1 8 ⟨A2, n3, c4⟩ ([.int .i64 x38]) 1) fun r39 =>
 some (wiener_across.c244 x1 r39.1.a r39.1.n r39.1.c A5 n6 c7 (IntKind.i64.wrap (x8 + 1)) x18 x19 A20 n21 c22 x23 x24 x25 x26 x27 x28 x29 r39.2)) := by kernel_rfl
theorem wiener_round.entry (k lo : Nat) (x1 : Int) (x2 : Int) (M : Mem) : entry P T k lo F.wiener_round [.int .i64 x1, .int .i64 x2] M =
 pb (IntKind.i64.wrap (x2 - 1) < 0) none
 (pb (x2 < 0) none
 (some (.ret (.int .i64 (shrI .i64 (IntKind.i64.wrap (x1 + (shlI .i64 (1 : Int) ((IntKind.i64.wrap (x2 - 1)).toNat)))) x2.toNat)) M))) := by kernel_rfl
theorem zoetroperef05_Check.entry (k lo : Nat) (x1 : Int) (x2 : Int) (A3 : Option Addr) (n4 : Nat) (c5 : Nat) (M : Mem) : entry P T k lo F.zoetroperef05_Check [.agg ⟨[.int .i64 x1, .int .i64 x2, .slice A3 n4 c5]⟩] M =
 bb (decide (x1 < 1))
 (some (.ret (.int .i64 2) M))
 (bb (decide (x1 > 512))
 (some (.ret (.int .i64 2) M))
 (bb (decide (x2 < 1))
 (some (.ret (.int .i64 2) M))
 (bb (decide (x2 > 512))
 (some (.ret (.int .i64 2) M))
 (bb ((n4 : Int) != IntKind.i64.wrap (x1 * x2))
 (some (.ret (.int .i64 2) M))
 (some (.ret (.int .i64 0) M)))))) := by kernel_rfl
end Go.Zt
