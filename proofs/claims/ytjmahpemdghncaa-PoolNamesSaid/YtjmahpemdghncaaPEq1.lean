/- What the law PoolNames needs of the text Eq1. -/
import Derived.Test.YtjmahpemdghncaaPEq0
import Derived.KernelRfl
set_option maxRecDepth 100000
set_option maxHeartbeats 4000000
set_option linter.unusedVariables false
namespace Go.Zt
theorem zoetropelaw26_PoolPlays.entry (k lo : Nat) (A1 : Option Addr) (n2 : Nat) (c3 : Nat) (x4 : Int) (M : Mem) : entry P T k lo F.zoetropelaw26_PoolPlays [.slice A1 n2 c3, .int .i64 x4] M =
 ob (acall P T k lo F.pool_New [] M) fun r10 =>
 ob ((some r10.1).bind Value.ptr?) fun p11 =>
 ob (acall P T k lo F.zoetroperef26_New [] r10.2) fun r12 =>
 ob ((some r12.1).bind Value.ptr?) fun p13 =>
 bb p11.isNone
 (some (.ret (.bool false) r12.2))
 (some (zoetropelaw26_PoolPlays.c2036 A1 n2 c3 x4 p11 p13 none none 0 r12.2)) := by kernel_rfl
theorem zoetropelaw26_PoolPlays.p2036 (k lo : Nat) (A1 : Option Addr) (n2 : Nat) (c3 : Nat) (x4 : Int) (p5 : Option Addr) (p6 : Option Addr) (p7 : Option Addr) (p8 : Option Addr) (x9 : Int) (M : Mem) : piece P T k lo F.zoetropelaw26_PoolPlays 2036 [.v (.slice A1 n2 c3), .v (.int .i64 x4), .v (.pointer p5), .v (.pointer p6), .v (.pointer p7), .v (.pointer p8), .v (.int .i64 x9)] [] M =
 bb (decide (x9 < (n2 : Int)))
 (bb (decide (x9 < 20))
 (pb (0 ≤ x9 ∧ x9 < (n2 : Int))
 (ob A1 fun a14 =>
 ob ((M.ld (plus a14 (x9.toNat * 8))).bind (Value.int? .i64)) fun x15 =>
 ob ((M.ld (plus (plus a14 (x9.toNat * 8)) 1)).bind (Value.int? .i64)) fun x16 =>
 ob ((M.ld (plus (plus a14 (x9.toNat * 8)) 2)).bind (Value.int? .i64)) fun x17 =>
 ob ((M.ld (plus (plus a14 (x9.toNat * 8)) 3)).bind (Value.int? .i64)) fun x18 =>
 ob ((M.ld (plus (plus a14 (x9.toNat * 8)) 4)).bind (Value.int? .i64)) fun x19 =>
 ob ((M.ld (plus (plus a14 (x9.toNat * 8)) 5)).bind (Value.int? .i64)) fun x20 =>
 ob ((M.ld (plus (plus a14 (x9.toNat * 8)) 6)).bind (Value.int? .i64)) fun x21 =>
 ob ((M.ld (plus (plus a14 (x9.toNat * 8)) 7)).bind (Value.int? .i64)) fun x22 =>
 ob (acall P T k lo F.zoetropelaw26_Do_frame [.agg ⟨[.int .i64 x15, .int .i64 x16, .int .i64 x17, .int .i64 x18, .int .i64 x19, .int .i64 x20, .int .i64 x21, .int .i64 x22]⟩] M) fun r23 =>
 ob ((some r23.1).bind (Value.agg? 9)) fun l24 =>
 ob ((l24[0]?).bind (Value.int? .i64)) fun x25 =>
 ob ((l24[1]?).bind (Value.int? .i64)) fun x26 =>
 ob ((l24[2]?).bind Value.slc?) fun s27 =>
 ob ((l24[3]?).bind (Value.int? .i64)) fun x28 =>
 ob ((l24[4]?).bind (Value.int? .i64)) fun x29 =>
 ob ((l24[5]?).bind Value.slc?) fun s30 =>
 ob ((l24[6]?).bind (Value.int? .i64)) fun x31 =>
 ob ((l24[7]?).bind (Value.int? .i64)) fun x32 =>
 ob ((l24[8]?).bind Value.slc?) fun s33 =>
 pb (0 ≤ x9 ∧ x9 < (n2 : Int))
 (ob A1 fun a34 =>
 ob ((if ((plus a34 (x9.toNat * 8)).block) < lo then r23.2.ld (plus a34 (x9.toNat * 8)) else none).bind (Value.int? .i64)) fun x35 =>
 ob ((if ((plus a34 (x9.toNat * 8)).block) < lo then r23.2.ld (plus (plus a34 (x9.toNat * 8)) 1) else none).bind (Value.int? .i64)) fun x36 =>
 ob ((if ((plus a34 (x9.toNat * 8)).block) < lo then r23.2.ld (plus (plus a34 (x9.toNat * 8)) 2) else none).bind (Value.int? .i64)) fun x37 =>
 ob ((if ((plus a34 (x9.toNat * 8)).block) < lo then r23.2.ld (plus (plus a34 (x9.toNat * 8)) 3) else none).bind (Value.int? .i64)) fun x38 =>
 ob ((if ((plus a34 (x9.toNat * 8)).block) < lo then r23.2.ld (plus (plus a34 (x9.toNat * 8)) 4) else none).bind (Value.int? .i64)) fun x39 =>
 ob ((if ((plus a34 (x9.toNat * 8)).block) < lo then r23.2.ld (plus (plus a34 (x9.toNat * 8)) 5) else none).bind (Value.int? .i64)) fun x40 =>
 ob ((if ((plus a34 (x9.toNat * 8)).block) < lo then r23.2.ld (plus (plus a34 (x9.toNat * 8)) 6) else none).bind (Value.int? .i64)) fun x41 =>
 ob ((if ((plus a34 (x9.toNat * 8)).block) < lo then r23.2.ld (plus (plus a34 (x9.toNat * 8)) 7) else none).bind (Value.int? .i64)) fun x42 =>
 ob (acall P T k lo F.zoetropelaw26_Do_set [.agg ⟨[.int .i64 x35, .int .i64 x36, .int .i64 x37, .int .i64 x38, .int .i64 x39, .int .i64 x40, .int .i64 x41, .int .i64 x42]⟩] r23.2) fun r43 =>
 ob ((some r43.1).bind (Value.agg? 1)) fun l44 =>
 ob ((l44[0]?).bind Value.slc?) fun s45 =>
 pb (0 ≤ x9 ∧ x9 < (n2 : Int))
 (ob A1 fun a46 =>
 ob ((r43.2.ld (plus a46 (x9.toNat * 8))).bind (Value.int? .i64)) fun x47 =>
 ob (acall P T k lo F.pool_Pool_Put [.pointer p5, .int .i64 x47, .agg ⟨[.int .i64 x25, .int .i64 x26, .slice s27.a s27.n s27.c, .int .i64 x28, .int .i64 x29, .slice s30.a s30.n s30.c, .int .i64 x31, .int .i64 x32, .slice s33.a s33.n s33.c]⟩, .agg ⟨[.slice s45.a s45.n s45.c]⟩] r43.2) fun r48 =>
 ob ((some r48.1).bind (Value.int? .i64)) fun x49 =>
 pb (0 ≤ x9 ∧ x9 < (n2 : Int))
 (ob A1 fun a50 =>
 ob ((if ((plus a50 (x9.toNat * 8)).block) < lo then r48.2.ld (plus a50 (x9.toNat * 8)) else none).bind (Value.int? .i64)) fun x51 =>
 ob (acall P T k lo F.zoetroperef26_Pool_Put [.pointer p6, .int .i64 x51, .agg ⟨[.int .i64 x25, .int .i64 x26, .slice s27.a s27.n s27.c, .int .i64 x28, .int .i64 x29, .slice s30.a s30.n s30.c, .int .i64 x31, .int .i64 x32, .slice s33.a s33.n s33.c]⟩, .agg ⟨[.slice s45.a s45.n s45.c]⟩] r48.2) fun r52 =>
 ob ((some r52.1).bind (Value.int? .i64)) fun x53 =>
 bb (x49 != x53)
 (some (.ret (.bool false) r52.2))
 (some (zoetropelaw26_PoolPlays.c1042740 A1 n2 c3 x4 p5 p6 p7 p8 x9 0 x25 x26 s27.a s27.n s27.c x28 x29 s30.a s30.n s30.c x31 x32 s33.a s33.n s33.c s45.a s45.n s45.c r52.2))) none) none) none) none)
 (some (zoetropelaw26_PoolPlays.c4084 p5 p6 p7 p8 (-1) M)))
 (some (zoetropelaw26_PoolPlays.c4084 p5 p6 p7 p8 (-1) M)) := by kernel_rfl
theorem zoetropelaw26_PoolPlays.p4084 (k lo : Nat) (p1 : Option Addr) (p2 : Option Addr) (p3 : Option Addr) (p4 : Option Addr) (x5 : Int) (M : Mem) : piece P T k lo F.zoetropelaw26_PoolPlays 4084 [.v (.pointer p1), .v (.pointer p2), .v (.pointer p3), .v (.pointer p4), .v (.int .i64 x5)] [] M =
 bb (decide (x5 < 9))
 (ob (acall P T k lo F.zoetropelaw26_told [.pointer p1, .pointer p2, .int .i64 x5] M) fun r54 =>
 ob ((some r54.1).bind Value.bool?) fun b55 =>
 bb (!b55)
 (some (.ret (.bool false) r54.2))
 (bb (!p3.isNone)
 (ob (acall P T k lo F.zoetropelaw26_told [.pointer p3, .pointer p4, .int .i64 x5] r54.2) fun r56 =>
 ob ((some r56.1).bind Value.bool?) fun b57 =>
 bb (!b57)
 (some (.ret (.bool false) r56.2))
 (some (zoetropelaw26_PoolPlays.c4084 p1 p2 p3 p4 (IntKind.i64.wrap (x5 + 1)) r56.2)))
 (some (zoetropelaw26_PoolPlays.c4084 p1 p2 p3 p4 (IntKind.i64.wrap (x5 + 1)) r54.2))))
 (bb p3.isNone
 (ob (acall P T k lo F.zoetropelaw26_awake [] M) fun r58 =>
 ob ((some r58.1).bind Value.bool?) fun b59 =>
 some (.ret (.bool b59) r58.2))
 (ob (acall P T k lo F.pool_Same [.pointer p1, .pointer p3] M) fun r60 =>
 ob ((some r60.1).bind Value.bool?) fun b61 =>
 ob (acall P T k lo F.zoetroperef26_Same [.pointer p2, .pointer p4] r60.2) fun r62 =>
 ob ((some r62.1).bind Value.bool?) fun b63 =>
 bb (b61 == b63)
 (ob (acall P T k lo F.zoetropelaw26_awake [] r62.2) fun r64 =>
 ob ((some r64.1).bind Value.bool?) fun b65 =>
 some (.ret (.bool b65) r64.2))
 (some (.ret (.bool false) r62.2)))) := by kernel_rfl
theorem zoetropelaw26_PoolPlays.p8147 (k lo : Nat) (A1 : Option Addr) (n2 : Nat) (c3 : Nat) (x4 : Int) (p5 : Option Addr) (p6 : Option Addr) (p7 : Option Addr) (p8 : Option Addr) (x9 : Int) (M : Mem) : piece P T k lo F.zoetropelaw26_PoolPlays 8147 [.v (.slice A1 n2 c3), .v (.int .i64 x4), .v (.pointer p5), .v (.pointer p6), .v (.pointer p7), .v (.pointer p8), .v (.int .i64 x9)] [] M =
 some (zoetropelaw26_PoolPlays.c2036 A1 n2 c3 x4 p5 p6 p7 p8 (IntKind.i64.wrap (x9 + 1)) M) := by kernel_rfl
theorem zoetropelaw26_PoolPlays.p260687 (k lo : Nat) (A1 : Option Addr) (n2 : Nat) (c3 : Nat) (x4 : Int) (p5 : Option Addr) (p6 : Option Addr) (p7 : Option Addr) (p8 : Option Addr) (x9 : Int) (M : Mem) : piece P T k lo F.zoetropelaw26_PoolPlays 260687 [.v (.slice A1 n2 c3), .v (.int .i64 x4), .v (.pointer p5), .v (.pointer p6), .v (.pointer p7), .v (.pointer p8), .v (.int .i64 x9)] [] M =
 pb (0 ≤ x9 ∧ x9 < (n2 : Int))
 (ob A1 fun a82 =>
 ob ((M.ld (plus (plus a82 (x9.toNat * 8)) 7)).bind (Value.int? .i64)) fun x83 =>
 ob (acall P T k lo F.pool_Pool_Frame [.pointer p5, .int .i64 x83] M) fun r84 =>
 ob (r84.1.tup? 2) fun l85 =>
 ob ((l85[0]?).bind (Value.agg? 9)) fun l86 =>
 ob ((l86[0]?).bind (Value.int? .i64)) fun x87 =>
 ob ((l86[1]?).bind (Value.int? .i64)) fun x88 =>
 ob ((l86[2]?).bind Value.slc?) fun s89 =>
 ob ((l86[3]?).bind (Value.int? .i64)) fun x90 =>
 ob ((l86[4]?).bind (Value.int? .i64)) fun x91 =>
 ob ((l86[5]?).bind Value.slc?) fun s92 =>
 ob ((l86[6]?).bind (Value.int? .i64)) fun x93 =>
 ob ((l86[7]?).bind (Value.int? .i64)) fun x94 =>
 ob ((l86[8]?).bind Value.slc?) fun s95 =>
 ob ((l85[1]?).bind (Value.int? .i64)) fun x96 =>
 some (zoetropelaw26_PoolPlays.c8342004 A1 n2 c3 x4 p5 p6 p7 p8 x9 0 x87 x88 s89.a s89.n s89.c x90 x91 s92.a s92.n s92.c x93 x94 s95.a s95.n s95.c r84.2)) none := by kernel_rfl
theorem zoetropelaw26_PoolPlays.p1042740 (k lo : Nat) (A1 : Option Addr) (n2 : Nat) (c3 : Nat) (x4 : Int) (p5 : Option Addr) (p6 : Option Addr) (p7 : Option Addr) (p8 : Option Addr) (x9 : Int) (x10 : Int) (x11 : Int) (x12 : Int) (A13 : Option Addr) (n14 : Nat) (c15 : Nat) (x16 : Int) (x17 : Int) (A18 : Option Addr) (n19 : Nat) (c20 : Nat) (x21 : Int) (x22 : Int) (A23 : Option Addr) (n24 : Nat) (c25 : Nat) (A26 : Option Addr) (n27 : Nat) (c28 : Nat) (M : Mem) : piece P T k lo F.zoetropelaw26_PoolPlays 1042740 [.v (.slice A1 n2 c3), .v (.int .i64 x4), .v (.pointer p5), .v (.pointer p6), .v (.pointer p7), .v (.pointer p8), .v (.int .i64 x9), .l 10 0, .l 11 0, .v (.int .i64 x10)] [[.int .i64 x11, .int .i64 x12, .slice A13 n14 c15, .int .i64 x16, .int .i64 x17, .slice A18 n19 c20, .int .i64 x21, .int .i64 x22, .slice A23 n24 c25], [.slice A26 n27 c28]] M =
 bb (decide (x10 < (n14 : Int)))
 (pb (0 ≤ x10 ∧ x10 < (n14 : Int))
 (ob A13 fun a66 =>
 ob ((M.ld (plus a66 x10.toNat)).bind (Value.int? .u8)) fun x67 =>
 pb (0 ≤ x10 ∧ x10 < (n14 : Int))
 (ob A13 fun a68 =>
 ob (M.st lo (plus a68 x10.toNat) [.int .u8 (xorI .u8 x67 90)]) fun M69 =>
 some (zoetropelaw26_PoolPlays.c1042740 A1 n2 c3 x4 p5 p6 p7 p8 x9 (IntKind.i64.wrap (x10 + 1)) x11 x12 A13 n14 c15 x16 x17 A18 n19 c20 x21 x22 A23 n24 c25 A26 n27 c28 M69)) none) none)
 (bb (decide ((n27 : Int) > 0))
 (pb (0 ≤ (0 : Int) ∧ (0 : Int) < (n27 : Int))
 (ob A26 fun a70 =>
 ob ((M.ld a70).bind Value.slc?) fun s71 =>
 bb (decide ((s71.n : Int) > 0))
 (pb (0 ≤ (0 : Int) ∧ (0 : Int) < (n27 : Int))
 (ob A26 fun a72 =>
 ob ((M.ld a72).bind Value.slc?) fun s73 =>
 pb (0 ≤ (0 : Int) ∧ (0 : Int) < (s73.n : Int))
 (ob s73.a fun a74 =>
 ob ((M.ld a74).bind Value.slc?) fun s75 =>
 bb (decide ((s75.n : Int) > 0))
 (pb (0 ≤ (0 : Int) ∧ (0 : Int) < (n27 : Int))
 (ob A26 fun a76 =>
 ob ((M.ld a76).bind Value.slc?) fun s77 =>
 pb (0 ≤ (0 : Int) ∧ (0 : Int) < (s77.n : Int))
 (ob s77.a fun a78 =>
 ob ((M.ld a78).bind Value.slc?) fun s79 =>
 pb (0 ≤ (0 : Int) ∧ (0 : Int) < (s79.n : Int))
 (ob s79.a fun a80 =>
 ob (M.st lo a80 [.int .u16 1]) fun M81 =>
 some (zoetropelaw26_PoolPlays.c260687 A1 n2 c3 x4 p5 p6 p7 p8 x9 M81)) none) none) none)
 (some (zoetropelaw26_PoolPlays.c260687 A1 n2 c3 x4 p5 p6 p7 p8 x9 M))) none) none)
 (some (zoetropelaw26_PoolPlays.c260687 A1 n2 c3 x4 p5 p6 p7 p8 x9 M))) none)
 (some (zoetropelaw26_PoolPlays.c260687 A1 n2 c3 x4 p5 p6 p7 p8 x9 M))) := by kernel_rfl
theorem zoetropelaw26_PoolPlays.p8342004 (k lo : Nat) (A1 : Option Addr) (n2 : Nat) (c3 : Nat) (x4 : Int) (p5 : Option Addr) (p6 : Option Addr) (p7 : Option Addr) (p8 : Option Addr) (x9 : Int) (x10 : Int) (x11 : Int) (x12 : Int) (A13 : Option Addr) (n14 : Nat) (c15 : Nat) (x16 : Int) (x17 : Int) (A18 : Option Addr) (n19 : Nat) (c20 : Nat) (x21 : Int) (x22 : Int) (A23 : Option Addr) (n24 : Nat) (c25 : Nat) (M : Mem) : piece P T k lo F.zoetropelaw26_PoolPlays 8342004 [.v (.slice A1 n2 c3), .v (.int .i64 x4), .v (.pointer p5), .v (.pointer p6), .v (.pointer p7), .v (.pointer p8), .v (.int .i64 x9), .l 13 0, .v (.int .i64 x10)] [[.int .i64 x11, .int .i64 x12, .slice A13 n14 c15, .int .i64 x16, .int .i64 x17, .slice A18 n19 c20, .int .i64 x21, .int .i64 x22, .slice A23 n24 c25]] M =
 bb (decide (x10 < (n19 : Int)))
 (pb (0 ≤ x10 ∧ x10 < (n19 : Int))
 (ob A18 fun a97 =>
 ob ((M.ld (plus a97 x10.toNat)).bind (Value.int? .u8)) fun x98 =>
 pb (0 ≤ x10 ∧ x10 < (n19 : Int))
 (ob A18 fun a99 =>
 ob (M.st lo (plus a99 x10.toNat) [.int .u8 (xorI .u8 x98 90)]) fun M100 =>
 some (zoetropelaw26_PoolPlays.c8342004 A1 n2 c3 x4 p5 p6 p7 p8 x9 (IntKind.i64.wrap (x10 + 1)) x11 x12 A13 n14 c15 x16 x17 A18 n19 c20 x21 x22 A23 n24 c25 M100)) none) none)
 (pb (0 ≤ x9 ∧ x9 < (n2 : Int))
 (ob A1 fun a101 =>
 ob ((M.ld (plus (plus a101 (x9.toNat * 8)) 7)).bind (Value.int? .i64)) fun x102 =>
 ob (acall P T k lo F.zoetropelaw26_told [.pointer p5, .pointer p6, .int .i64 x102] M) fun r103 =>
 ob ((some r103.1).bind Value.bool?) fun b104 =>
 bb (!b104)
 (some (.ret (.bool false) r103.2))
 (bb (x9 == x4)
 (ob (acall P T k lo F.pool_Pool_Copy [.pointer p5] r103.2) fun r105 =>
 ob (r105.1.tup? 2) fun l106 =>
 ob ((l106[0]?).bind Value.ptr?) fun p107 =>
 ob ((l106[1]?).bind (Value.int? .i64)) fun x108 =>
 bb (x108 != 0)
 (some (.ret (.bool false) r105.2))
 (bb p107.isNone
 (some (.ret (.bool false) r105.2))
 (ob (acall P T k lo F.pool_Same [.pointer p107, .pointer p5] r105.2) fun r109 =>
 ob ((some r109.1).bind Value.bool?) fun b110 =>
 bb (!b110)
 (some (.ret (.bool false) r109.2))
 (ob (acall P T k lo F.zoetroperef26_Pool_Copy [.pointer p6] r109.2) fun r111 =>
 ob ((some r111.1).bind Value.ptr?) fun p112 =>
 some (zoetropelaw26_PoolPlays.c8147 A1 n2 c3 x4 p5 p6 p107 p112 x9 r111.2)))))
 (some (zoetropelaw26_PoolPlays.c8147 A1 n2 c3 x4 p5 p6 p7 p8 x9 r103.2)))) none) := by kernel_rfl
theorem zoetropelaw26_PoolNames.entry (k lo : Nat) (M : Mem) : entry P T k lo F.zoetropelaw26_PoolNames [] M =
 ob (acall P T k lo F.zoetropelaw26_usual [] M) fun r6 =>
 ob (r6.1.tup? 2) fun l7 =>
 ob ((l7[0]?).bind (Value.agg? 9)) fun l8 =>
 ob ((l8[0]?).bind (Value.int? .i64)) fun x9 =>
 ob ((l8[1]?).bind (Value.int? .i64)) fun x10 =>
 ob ((l8[2]?).bind Value.slc?) fun s11 =>
 ob ((l8[3]?).bind (Value.int? .i64)) fun x12 =>
 ob ((l8[4]?).bind (Value.int? .i64)) fun x13 =>
 ob ((l8[5]?).bind Value.slc?) fun s14 =>
 ob ((l8[6]?).bind (Value.int? .i64)) fun x15 =>
 ob ((l8[7]?).bind (Value.int? .i64)) fun x16 =>
 ob ((l8[8]?).bind Value.slc?) fun s17 =>
 ob ((l7[1]?).bind (Value.agg? 1)) fun l18 =>
 ob ((l18[0]?).bind Value.slc?) fun s19 =>
 some (zoetropelaw26_PoolNames.c244 none 0 x9 x10 s11.a s11.n s11.c x12 x13 s14.a s14.n s14.c x15 x16 s17.a s17.n s17.c s19.a s19.n s19.c r6.2) := by kernel_rfl
theorem zoetropelaw26_PoolNames.p244 (k lo : Nat) (p1 : Option Addr) (x2 : Int) (x3 : Int) (x4 : Int) (A5 : Option Addr) (n6 : Nat) (c7 : Nat) (x8 : Int) (x9 : Int) (A10 : Option Addr) (n11 : Nat) (c12 : Nat) (x13 : Int) (x14 : Int) (A15 : Option Addr) (n16 : Nat) (c17 : Nat) (A18 : Option Addr) (n19 : Nat) (c20 : Nat) (M : Mem) : piece P T k lo F.zoetropelaw26_PoolNames 244 [.v (.pointer p1), .l 2 0, .l 3 0, .v (.int .i64 x2)] [[.int .i64 x3, .int .i64 x4, .slice A5 n6 c7, .int .i64 x8, .int .i64 x9, .slice A10 n11 c12, .int .i64 x13, .int .i64 x14, .slice A15 n16 c17], [.slice A18 n19 c20]] M =
 bb (decide (x2 < 2))
 (ob (acall P T k lo F.pool_Pool_Frame [.pointer p1, .int .i64 9] M) fun r21 =>
 ob (r21.1.tup? 2) fun l22 =>
 ob ((l22[0]?).bind (Value.agg? 9)) fun l23 =>
 ob ((l23[0]?).bind (Value.int? .i64)) fun x24 =>
 ob ((l23[1]?).bind (Value.int? .i64)) fun x25 =>
 ob ((l23[2]?).bind Value.slc?) fun s26 =>
 ob ((l23[3]?).bind (Value.int? .i64)) fun x27 =>
 ob ((l23[4]?).bind (Value.int? .i64)) fun x28 =>
 ob ((l23[5]?).bind Value.slc?) fun s29 =>
 ob ((l23[6]?).bind (Value.int? .i64)) fun x30 =>
 ob ((l23[7]?).bind (Value.int? .i64)) fun x31 =>
 ob ((l23[8]?).bind Value.slc?) fun s32 =>
 ob ((l22[1]?).bind (Value.int? .i64)) fun x33 =>
 ob (acall P T k lo F.pool_Pool_Set [.pointer p1, .int .i64 (-1)] r21.2) fun r34 =>
 ob (r34.1.tup? 2) fun l35 =>
 ob ((l35[0]?).bind (Value.agg? 1)) fun l36 =>
 ob ((l36[0]?).bind Value.slc?) fun s37 =>
 ob ((l35[1]?).bind (Value.int? .i64)) fun x38 =>
 ob (acall P T k lo F.pool_Pool_Copy [.pointer p1] r34.2) fun r39 =>
 ob (r39.1.tup? 2) fun l40 =>
 ob ((l40[0]?).bind Value.ptr?) fun p41 =>
 ob ((l40[1]?).bind (Value.int? .i64)) fun x42 =>
 bb ((s26.n : Int) != 0)
 (some (.ret (.bool false) r39.2))
 (bb ((s37.n : Int) != 0)
 (some (.ret (.bool false) r39.2))
 (bb (!p41.isNone)
 (some (.ret (.bool false) r39.2))
 (bb (x33 != 1)
 (some (.ret (.bool false) r39.2))
 (bb (x38 != 1)
 (some (.ret (.bool false) r39.2))
 (bb (x42 != 1)
 (some (.ret (.bool false) r39.2))
 (ob (acall P T k lo F.pool_Pool_Has [.pointer p1] r39.2) fun r43 =>
 ob ((some r43.1).bind (Value.int? .i64)) fun x44 =>
 bb (x44 != 0)
 (some (.ret (.bool false) r43.2))
 (ob (acall P T k lo F.pool_Pool_Put [.pointer p1, .int .i64 (-1), .agg ⟨[.int .i64 0, .int .i64 0, .slice none 0 0, .int .i64 0, .int .i64 0, .slice none 0 0, .int .i64 0, .int .i64 0, .slice none 0 0]⟩, .agg ⟨[.slice none 0 0]⟩] r43.2) fun r45 =>
 ob ((some r45.1).bind (Value.int? .i64)) fun x46 =>
 bb (x46 != 1)
 (some (.ret (.bool false) r45.2))
 (some (zoetropelaw26_PoolNames.c244 (some ⟨r45.2.length, 0, none⟩) (IntKind.i64.wrap (x2 + 1)) x3 x4 A5 n6 c7 x8 x9 A10 n11 c12 x13 x14 A15 n16 c17 A18 n19 c20 (r45.2 ++ [⟨.fx, [.bool false, .bool false, .int .i64 0, .int .i64 0, .slice none 0 0, .int .i64 0, .int .i64 0, .slice none 0 0, .int .i64 0, .int .i64 0, .slice none 0 0, .slice none 0 0, .bool false, .int .i64 0, .int .i64 0, .slice none 0 0, .int .i64 0, .int .i64 0, .slice none 0 0, .int .i64 0, .int .i64 0, .slice none 0 0, .slice none 0 0, .bool false, .int .i64 0, .int .i64 0, .slice none 0 0, .int .i64 0, .int .i64 0, .slice none 0 0, .int .i64 0, .int .i64 0, .slice none 0 0, .slice none 0 0, .bool false, .int .i64 0, .int .i64 0, .slice none 0 0, .int .i64 0, .int .i64 0, .slice none 0 0, .int .i64 0, .int .i64 0, .slice none 0 0, .slice none 0 0, .bool false, .int .i64 0, .int .i64 0, .slice none 0 0, .int .i64 0, .int .i64 0, .slice none 0 0, .int .i64 0, .int .i64 0, .slice none 0 0, .slice none 0 0, .bool false, .int .i64 0, .int .i64 0, .slice none 0 0, .int .i64 0, .int .i64 0, .slice none 0 0, .int .i64 0, .int .i64 0, .slice none 0 0, .slice none 0 0, .bool false, .int .i64 0, .int .i64 0, .slice none 0 0, .int .i64 0, .int .i64 0, .slice none 0 0, .int .i64 0, .int .i64 0, .slice none 0 0, .slice none 0 0, .bool false, .int .i64 0, .int .i64 0, .slice none 0 0, .int .i64 0, .int .i64 0, .slice none 0 0, .int .i64 0, .int .i64 0, .slice none 0 0, .slice none 0 0]⟩] : Mem)))))))))))
 (ob (acall P T k lo F.pool_New [] M) fun r47 =>
 ob ((some r47.1).bind Value.ptr?) fun p48 =>
 ob (acall P T k lo F.pool_Same [.pointer none, .pointer p1] r47.2) fun r49 =>
 ob ((some r49.1).bind Value.bool?) fun b50 =>
 bb (!b50)
 (some (.ret (.bool false) r49.2))
 (ob (acall P T k lo F.pool_Same [.pointer none, .pointer p48] r49.2) fun r51 =>
 ob ((some r51.1).bind Value.bool?) fun b52 =>
 bb b52
 (some (.ret (.bool false) r51.2))
 (ob (acall P T k lo F.pool_Same [.pointer p48, .pointer p1] r51.2) fun r53 =>
 ob ((some r53.1).bind Value.bool?) fun b54 =>
 bb b54
 (some (.ret (.bool false) r53.2))
 (ob (acall P T k lo F.pool_Pool_Put [.pointer p48, .int .i64 256, .agg ⟨[.int .i64 x3, .int .i64 x4, .slice A5 n6 c7, .int .i64 x8, .int .i64 x9, .slice A10 n11 c12, .int .i64 x13, .int .i64 x14, .slice A15 n16 c17]⟩, .agg ⟨[.slice A18 n19 c20]⟩] r53.2) fun r55 =>
 ob ((some r55.1).bind (Value.int? .i64)) fun x56 =>
 bb (x56 != 2)
 (some (.ret (.bool false) r55.2))
 (ob (acall P T k lo F.pool_Pool_Put [.pointer p48, .int .i64 (-1), .agg ⟨[.int .i64 x3, .int .i64 x4, .slice A5 n6 c7, .int .i64 x8, .int .i64 x9, .slice A10 n11 c12, .int .i64 x13, .int .i64 x14, .slice A15 n16 c17]⟩, .agg ⟨[.slice A18 n19 c20]⟩] r55.2) fun r57 =>
 ob ((some r57.1).bind (Value.int? .i64)) fun x58 =>
 bb (x58 != 2)
 (some (.ret (.bool false) r57.2))
 (ob (acall P T k lo F.pool_Pool_Put [.pointer p48, .int .i64 1, .agg ⟨[.int .i64 0, .int .i64 0, .slice none 0 0, .int .i64 0, .int .i64 0, .slice none 0 0, .int .i64 0, .int .i64 0, .slice none 0 0]⟩, .agg ⟨[.slice A18 n19 c20]⟩] r57.2) fun r59 =>
 ob ((some r59.1).bind (Value.int? .i64)) fun x60 =>
 bb (x60 != 2)
 (some (.ret (.bool false) r59.2))
 (ob (acall P T k lo F.pool_Pool_Put [.pointer p48, .int .i64 1, .agg ⟨[.int .i64 x3, .int .i64 x4, .slice A5 n6 c7, .int .i64 x8, .int .i64 x9, .slice A10 n11 c12, .int .i64 x13, .int .i64 x14, .slice A15 n16 c17]⟩, .agg ⟨[.slice none 0 0]⟩] r59.2) fun r61 =>
 ob ((some r61.1).bind (Value.int? .i64)) fun x62 =>
 bb (x62 != 2)
 (some (.ret (.bool false) r61.2))
 (ob (acall P T k lo F.pool_Pool_Has [.pointer p48] r61.2) fun r63 =>
 ob ((some r63.1).bind (Value.int? .i64)) fun x64 =>
 bb (x64 != 0)
 (some (.ret (.bool false) r63.2))
 (ob (acall P T k lo F.pool_Pool_Put [.pointer p48, .int .i64 0, .agg ⟨[.int .i64 x3, .int .i64 x4, .slice A5 n6 c7, .int .i64 x8, .int .i64 x9, .slice A10 n11 c12, .int .i64 x13, .int .i64 x14, .slice A15 n16 c17]⟩, .agg ⟨[.slice A18 n19 c20]⟩] r63.2) fun r65 =>
 ob ((some r65.1).bind (Value.int? .i64)) fun x66 =>
 bb (x66 != 0)
 (some (.ret (.bool false) r65.2))
 (ob (acall P T k lo F.pool_Pool_Has [.pointer p48] r65.2) fun r67 =>
 ob ((some r67.1).bind (Value.int? .i64)) fun x68 =>
 bb (x68 != 0)
 (some (.ret (.bool false) r67.2))
 (ob (acall P T k lo F.pool_Pool_Put [.pointer p48, .int .i64 255, .agg ⟨[.int .i64 x3, .int .i64 x4, .slice A5 n6 c7, .int .i64 x8, .int .i64 x9, .slice A10 n11 c12, .int .i64 x13, .int .i64 x14, .slice A15 n16 c17]⟩, .agg ⟨[.slice A18 n19 c20]⟩] r67.2) fun r69 =>
 ob ((some r69.1).bind (Value.int? .i64)) fun x70 =>
 bb (x70 != 0)
 (some (.ret (.bool false) r69.2))
 (ob (acall P T k lo F.pool_Pool_Has [.pointer p48] r69.2) fun r71 =>
 ob ((some r71.1).bind (Value.int? .i64)) fun x72 =>
 bb (x72 != 255)
 (some (.ret (.bool false) r71.2))
 (ob (acall P T k lo F.zoetropelaw26_awake [] (r71.2 ++ [⟨.fx, [.int .i64 5, .int .i64 16, .int .i64 16, .int .i64 7, .int .i64 0, .int .i64 0, .int .i64 0, .int .i64 2, .int .i64 1, .int .i64 32, .int .i64 16, .int .i64 9, .int .i64 1, .int .i64 0, .int .i64 0, .int .i64 0, .int .i64 256, .int .i64 16, .int .i64 16, .int .i64 0, .int .i64 0, .int .i64 0, .int .i64 0, .int .i64 0, .int .i64 128, .int .i64 16, .int .i64 16, .int .i64 0, .int .i64 0, .int .i64 0, .int .i64 1, .int .i64 7, .int .i64 128, .int .i64 16, .int .i64 16, .int .i64 0, .int .i64 0, .int .i64 0, .int .i64 2, .int .i64 8, .int .i64 128, .int .i64 0, .int .i64 0, .int .i64 0, .int .i64 0, .int .i64 0, .int .i64 0, .int .i64 7, .int .i64 255, .int .i64 16, .int .i64 18, .int .i64 0, .int .i64 0, .int .i64 7, .int .i64 0, .int .i64 0]⟩] : Mem)) fun r73 =>
 ob ((some r73.1).bind Value.bool?) fun b74 =>
 bb b74
 (ob (acall P T k r73.2.length F.zoetropelaw26_PoolPlays [.slice (some ⟨r71.2.length, 0, none⟩) 7 7, .int .i64 0] r73.2) fun r75 =>
 ob ((some r75.1).bind Value.bool?) fun b76 =>
 bb b76
 (ob (acall P T k r75.2.length F.zoetropelaw26_PoolPlays [.slice (some ⟨r71.2.length, 0, none⟩) 7 7, .int .i64 1] r75.2) fun r77 =>
 ob ((some r77.1).bind Value.bool?) fun b78 =>
 bb b78
 (ob (acall P T k r77.2.length F.zoetropelaw26_PoolPlays [.slice none 0 0, .int .i64 0] r77.2) fun r79 =>
 ob ((some r79.1).bind Value.bool?) fun b80 =>
 some (.ret (.bool b80) r79.2))
 (some (.ret (.bool false) r77.2)))
 (some (.ret (.bool false) r75.2)))
 (some (.ret (.bool false) r73.2))))))))))))))) := by kernel_rfl
theorem zoetropelaw26_awake.entry (k lo : Nat) (M : Mem) : entry P T k lo F.zoetropelaw26_awake [] M =
 ob (acall P T k lo F.pool_New [] M) fun r6 =>
 ob ((some r6.1).bind Value.ptr?) fun p7 =>
 ob (acall P T k lo F.zoetropelaw26_usual [] r6.2) fun r8 =>
 ob (r8.1.tup? 2) fun l9 =>
 ob ((l9[0]?).bind (Value.agg? 9)) fun l10 =>
 ob ((l10[0]?).bind (Value.int? .i64)) fun x11 =>
 ob ((l10[1]?).bind (Value.int? .i64)) fun x12 =>
 ob ((l10[2]?).bind Value.slc?) fun s13 =>
 ob ((l10[3]?).bind (Value.int? .i64)) fun x14 =>
 ob ((l10[4]?).bind (Value.int? .i64)) fun x15 =>
 ob ((l10[5]?).bind Value.slc?) fun s16 =>
 ob ((l10[6]?).bind (Value.int? .i64)) fun x17 =>
 ob ((l10[7]?).bind (Value.int? .i64)) fun x18 =>
 ob ((l10[8]?).bind Value.slc?) fun s19 =>
 ob ((l9[1]?).bind (Value.agg? 1)) fun l20 =>
 ob ((l20[0]?).bind Value.slc?) fun s21 =>
 bb p7.isNone
 (some (.ret (.bool false) r8.2))
 (bb ((s13.n : Int) != 256)
 (some (.ret (.bool false) r8.2))
 (ob (acall P T k lo F.plane_Whole [.agg ⟨[.int .i64 x11, .int .i64 x12, .slice s13.a s13.n s13.c, .int .i64 x14, .int .i64 x15, .slice s16.a s16.n s16.c, .int .i64 x17, .int .i64 x18, .slice s19.a s19.n s19.c]⟩] r8.2) fun r22 =>
 ob ((some r22.1).bind (Value.int? .i64)) fun x23 =>
 bb (x23 != 0)
 (some (.ret (.bool false) r22.2))
 (ob (acall P T k lo F.pool_Pool_Frame [.pointer p7, .int .i64 0] r22.2) fun r24 =>
 ob (r24.1.tup? 2) fun l25 =>
 ob ((l25[0]?).bind (Value.agg? 9)) fun l26 =>
 ob ((l26[0]?).bind (Value.int? .i64)) fun x27 =>
 ob ((l26[1]?).bind (Value.int? .i64)) fun x28 =>
 ob ((l26[2]?).bind Value.slc?) fun s29 =>
 ob ((l26[3]?).bind (Value.int? .i64)) fun x30 =>
 ob ((l26[4]?).bind (Value.int? .i64)) fun x31 =>
 ob ((l26[5]?).bind Value.slc?) fun s32 =>
 ob ((l26[6]?).bind (Value.int? .i64)) fun x33 =>
 ob ((l26[7]?).bind (Value.int? .i64)) fun x34 =>
 ob ((l26[8]?).bind Value.slc?) fun s35 =>
 ob ((l25[1]?).bind (Value.int? .i64)) fun x36 =>
 ob (acall P T k lo F.pool_Pool_Put [.pointer p7, .int .i64 5, .agg ⟨[.int .i64 x11, .int .i64 x12, .slice s13.a s13.n s13.c, .int .i64 x14, .int .i64 x15, .slice s16.a s16.n s16.c, .int .i64 x17, .int .i64 x18, .slice s19.a s19.n s19.c]⟩, .agg ⟨[.slice s21.a s21.n s21.c]⟩] r24.2) fun r37 =>
 ob ((some r37.1).bind (Value.int? .i64)) fun x38 =>
 ob (acall P T k lo F.pool_Pool_Frame [.pointer p7, .int .i64 2] r37.2) fun r39 =>
 ob (r39.1.tup? 2) fun l40 =>
 ob ((l40[0]?).bind (Value.agg? 9)) fun l41 =>
 ob ((l41[0]?).bind (Value.int? .i64)) fun x42 =>
 ob ((l41[1]?).bind (Value.int? .i64)) fun x43 =>
 ob ((l41[2]?).bind Value.slc?) fun s44 =>
 ob ((l41[3]?).bind (Value.int? .i64)) fun x45 =>
 ob ((l41[4]?).bind (Value.int? .i64)) fun x46 =>
 ob ((l41[5]?).bind Value.slc?) fun s47 =>
 ob ((l41[6]?).bind (Value.int? .i64)) fun x48 =>
 ob ((l41[7]?).bind (Value.int? .i64)) fun x49 =>
 ob ((l41[8]?).bind Value.slc?) fun s50 =>
 ob ((l40[1]?).bind (Value.int? .i64)) fun x51 =>
 ob (acall P T k lo F.pool_Pool_Frame [.pointer p7, .int .i64 1] r39.2) fun r52 =>
 ob (r52.1.tup? 2) fun l53 =>
 ob ((l53[0]?).bind (Value.agg? 9)) fun l54 =>
 ob ((l54[0]?).bind (Value.int? .i64)) fun x55 =>
 ob ((l54[1]?).bind (Value.int? .i64)) fun x56 =>
 ob ((l54[2]?).bind Value.slc?) fun s57 =>
 ob ((l54[3]?).bind (Value.int? .i64)) fun x58 =>
 ob ((l54[4]?).bind (Value.int? .i64)) fun x59 =>
 ob ((l54[5]?).bind Value.slc?) fun s60 =>
 ob ((l54[6]?).bind (Value.int? .i64)) fun x61 =>
 ob ((l54[7]?).bind (Value.int? .i64)) fun x62 =>
 ob ((l54[8]?).bind Value.slc?) fun s63 =>
 ob ((l53[1]?).bind (Value.int? .i64)) fun x64 =>
 bb (x36 == 6)
 (bb (x38 == 0)
 (bb (x51 == 0)
 (bb (x64 == 6)
 (ob (acall P T k lo F.pool_Pool_Has [.pointer p7] r52.2) fun r65 =>
 ob ((some r65.1).bind (Value.int? .i64)) fun x66 =>
 bb (x66 == 5)
 (ob (acall P T k lo F.zoetropelaw26_alike [.agg ⟨[.int .i64 x42, .int .i64 x43, .slice s44.a s44.n s44.c, .int .i64 x45, .int .i64 x46, .slice s47.a s47.n s47.c, .int .i64 x48, .int .i64 x49, .slice s50.a s50.n s50.c]⟩, .agg ⟨[.int .i64 x11, .int .i64 x12, .slice s13.a s13.n s13.c, .int .i64 x14, .int .i64 x15, .slice s16.a s16.n s16.c, .int .i64 x17, .int .i64 x18, .slice s19.a s19.n s19.c]⟩] r65.2) fun r67 =>
 ob ((some r67.1).bind Value.bool?) fun b68 =>
 some (.ret (.bool b68) r67.2))
 (some (.ret (.bool false) r65.2)))
 (some (.ret (.bool false) r52.2)))
 (some (.ret (.bool false) r52.2)))
 (some (.ret (.bool false) r52.2)))
 (some (.ret (.bool false) r52.2))))) := by kernel_rfl
theorem pool_New.entry (k lo : Nat) (M : Mem) : entry P T k lo F.pool_New [] M =
 some (.ret (.pointer (some ⟨M.length, 0, none⟩)) (M ++ [⟨.fx, [.bool true, .bool false, .int .i64 0, .int .i64 0, .slice none 0 0, .int .i64 0, .int .i64 0, .slice none 0 0, .int .i64 0, .int .i64 0, .slice none 0 0, .slice none 0 0, .bool false, .int .i64 0, .int .i64 0, .slice none 0 0, .int .i64 0, .int .i64 0, .slice none 0 0, .int .i64 0, .int .i64 0, .slice none 0 0, .slice none 0 0, .bool false, .int .i64 0, .int .i64 0, .slice none 0 0, .int .i64 0, .int .i64 0, .slice none 0 0, .int .i64 0, .int .i64 0, .slice none 0 0, .slice none 0 0, .bool false, .int .i64 0, .int .i64 0, .slice none 0 0, .int .i64 0, .int .i64 0, .slice none 0 0, .int .i64 0, .int .i64 0, .slice none 0 0, .slice none 0 0, .bool false, .int .i64 0, .int .i64 0, .slice none 0 0, .int .i64 0, .int .i64 0, .slice none 0 0, .int .i64 0, .int .i64 0, .slice none 0 0, .slice none 0 0, .bool false, .int .i64 0, .int .i64 0, .slice none 0 0, .int .i64 0, .int .i64 0, .slice none 0 0, .int .i64 0, .int .i64 0, .slice none 0 0, .slice none 0 0, .bool false, .int .i64 0, .int .i64 0, .slice none 0 0, .int .i64 0, .int .i64 0, .slice none 0 0, .int .i64 0, .int .i64 0, .slice none 0 0, .slice none 0 0, .bool false, .int .i64 0, .int .i64 0, .slice none 0 0, .int .i64 0, .int .i64 0, .slice none 0 0, .int .i64 0, .int .i64 0, .slice none 0 0, .slice none 0 0]⟩] : Mem)) := by kernel_rfl
theorem plane_Frame.entry (k lo : Nat) (x1 : Int) (x2 : Int) (x3 : Int) (M : Mem) : entry P T k lo F.plane_Frame [.int .i64 x1, .int .i64 x2, .int .u8 x3] M =
 ob (acall P T k lo F.plane_sides [.int .i64 x1, .int .i64 x2] M) fun r9 =>
 ob ((some r9.1).bind Value.bool?) fun b10 =>
 bb (!b10)
 (some (.ret (.tuple ⟨[.agg ⟨[.int .i64 0, .int .i64 0, .slice none 0 0, .int .i64 0, .int .i64 0, .slice none 0 0, .int .i64 0, .int .i64 0, .slice none 0 0]⟩, .int .i64 2]⟩) r9.2))
 (some (plane_Frame.c244 x1 x2 x3 0 0 0 none 0 0 0 0 none 0 0 0 0 none 0 0 ([.int .i64 0, .int .i64 0, .slice none 0 0, .int .i64 0, .int .i64 0, .slice none 0 0, .int .i64 0, .int .i64 0, .slice none 0 0]) r9.2)) := by kernel_rfl
theorem plane_Frame.p244 (k lo : Nat) (x1 : Int) (x2 : Int) (x3 : Int) (x4 : Int) (x5 : Int) (x6 : Int) (A7 : Option Addr) (n8 : Nat) (c9 : Nat) (x10 : Int) (x11 : Int) (A12 : Option Addr) (n13 : Nat) (c14 : Nat) (x15 : Int) (x16 : Int) (A17 : Option Addr) (n18 : Nat) (c19 : Nat) (cs20 : List Value) (M : Mem) : piece P T k lo F.plane_Frame 244 [.v (.int .i64 x1), .v (.int .i64 x2), .v (.int .u8 x3), .l 6 0, .l 8 0, .v (.int .i64 x4)] [[.int .i64 x5, .int .i64 x6, .slice A7 n8 c9, .int .i64 x10, .int .i64 x11, .slice A12 n13 c14, .int .i64 x15, .int .i64 x16, .slice A17 n18 c19], cs20] M =
 bb (decide (x4 < 3))
 (ob (acall P T k lo F.plane_New [.int .i64 x1, .int .i64 x2, .int .u8 x3] M) fun r21 =>
 ob (r21.1.tup? 2) fun l22 =>
 ob ((l22[0]?).bind (Value.agg? 3)) fun l23 =>
 ob ((l23[0]?).bind (Value.int? .i64)) fun x24 =>
 ob ((l23[1]?).bind (Value.int? .i64)) fun x25 =>
 ob ((l23[2]?).bind Value.slc?) fun s26 =>
 ob ((l22[1]?).bind (Value.int? .i64)) fun x27 =>
 bb (x27 != 0)
 (some (.ret (.tuple ⟨[.agg ⟨[.int .i64 0, .int .i64 0, .slice none 0 0, .int .i64 0, .int .i64 0, .slice none 0 0, .int .i64 0, .int .i64 0, .slice none 0 0]⟩, .int .i64 x27]⟩) r21.2))
 (pb (0 ≤ x4 ∧ x4 < (3 : Int))
 (pb (0 + (x4.toNat * 3) + 3 ≤ cs20.length)
 (bb (x4 == 0)
 (some (plane_Frame.c1959 (IntKind.i64.wrap (Int.tdiv x1 2)) (IntKind.i64.wrap (Int.tdiv x2 2)) x3 x4 x5 x6 A7 n8 c9 x10 x11 A12 n13 c14 x15 x16 A17 n18 c19 (setL cs20 (0 + (x4.toNat * 3)) [.int .i64 x24, .int .i64 x25, .slice s26.a s26.n s26.c]) r21.2))
 (some (plane_Frame.c1959 x1 x2 x3 x4 x5 x6 A7 n8 c9 x10 x11 A12 n13 c14 x15 x16 A17 n18 c19 (setL cs20 (0 + (x4.toNat * 3)) [.int .i64 x24, .int .i64 x25, .slice s26.a s26.n s26.c]) r21.2))) none) none))
 (ob ((cs20[0]?).bind (Value.int? .i64)) fun x28 =>
 ob ((cs20[1]?).bind (Value.int? .i64)) fun x29 =>
 ob ((cs20[2]?).bind Value.slc?) fun s30 =>
 ob ((cs20[3]?).bind (Value.int? .i64)) fun x31 =>
 ob ((cs20[4]?).bind (Value.int? .i64)) fun x32 =>
 ob ((cs20[5]?).bind Value.slc?) fun s33 =>
 ob ((cs20[6]?).bind (Value.int? .i64)) fun x34 =>
 ob ((cs20[7]?).bind (Value.int? .i64)) fun x35 =>
 ob ((cs20[8]?).bind Value.slc?) fun s36 =>
 some (.ret (.tuple ⟨[.agg ⟨[.int .i64 x28, .int .i64 x29, .slice s30.a s30.n s30.c, .int .i64 x31, .int .i64 x32, .slice s33.a s33.n s33.c, .int .i64 x34, .int .i64 x35, .slice s36.a s36.n s36.c]⟩, .int .i64 0]⟩) M)) := by kernel_rfl
theorem plane_Frame.p1959 (k lo : Nat) (x1 : Int) (x2 : Int) (x3 : Int) (x4 : Int) (x5 : Int) (x6 : Int) (A7 : Option Addr) (n8 : Nat) (c9 : Nat) (x10 : Int) (x11 : Int) (A12 : Option Addr) (n13 : Nat) (c14 : Nat) (x15 : Int) (x16 : Int) (A17 : Option Addr) (n18 : Nat) (c19 : Nat) (cs20 : List Value) (M : Mem) : piece P T k lo F.plane_Frame 1959 [.v (.int .i64 x1), .v (.int .i64 x2), .v (.int .u8 x3), .l 6 0, .l 8 0, .v (.int .i64 x4)] [[.int .i64 x5, .int .i64 x6, .slice A7 n8 c9, .int .i64 x10, .int .i64 x11, .slice A12 n13 c14, .int .i64 x15, .int .i64 x16, .slice A17 n18 c19], cs20] M =
 some (plane_Frame.c244 x1 x2 x3 (IntKind.i64.wrap (x4 + 1)) x5 x6 A7 n8 c9 x10 x11 A12 n13 c14 x15 x16 A17 n18 c19 cs20 M) := by kernel_rfl
theorem pool_Pool_Put.entry (k lo : Nat) (a1 : Addr) (x2 : Int) (x3 : Int) (x4 : Int) (A5 : Option Addr) (n6 : Nat) (c7 : Nat) (x8 : Int) (x9 : Int) (A10 : Option Addr) (n11 : Nat) (c12 : Nat) (x13 : Int) (x14 : Int) (A15 : Option Addr) (n16 : Nat) (c17 : Nat) (A18 : Option Addr) (n19 : Nat) (c20 : Nat) (M : Mem) : entry P T k lo F.pool_Pool_Put [.pointer (some a1), .int .i64 x2, .agg ⟨[.int .i64 x3, .int .i64 x4, .slice A5 n6 c7, .int .i64 x8, .int .i64 x9, .slice A10 n11 c12, .int .i64 x13, .int .i64 x14, .slice A15 n16 c17]⟩, .agg ⟨[.slice A18 n19 c20]⟩] M =
 ob (acall P T k lo F.pool_Pool_none [.pointer (some a1)] M) fun r26 =>
 ob ((some r26.1).bind Value.bool?) fun b27 =>
 bb b27
 (some (.ret (.int .i64 1) r26.2))
 (bb (decide (x2 < 0))
 (some (.ret (.int .i64 2) r26.2))
 (bb (decide (x2 > 255))
 (some (.ret (.int .i64 2) r26.2))
 (ob (acall P T k lo F.plane_Whole [.agg ⟨[.int .i64 x3, .int .i64 x4, .slice A5 n6 c7, .int .i64 x8, .int .i64 x9, .slice A10 n11 c12, .int .i64 x13, .int .i64 x14, .slice A15 n16 c17]⟩] r26.2) fun r28 =>
 ob ((some r28.1).bind (Value.int? .i64)) fun x29 =>
 bb (x29 != 0)
 (some (.ret (.int .i64 2) r28.2))
 (ob (acall P T k lo F.syms_Check [.agg ⟨[.slice A18 n19 c20]⟩] r28.2) fun r30 =>
 ob ((some r30.1).bind (Value.int? .i64)) fun x31 =>
 bb (x31 != 0)
 (some (.ret (.int .i64 2) r30.2))
 (ob (acall P T k r30.2.length F.pool_copied [.agg ⟨[.int .i64 x3, .int .i64 x4, .slice A5 n6 c7, .int .i64 x8, .int .i64 x9, .slice A10 n11 c12, .int .i64 x13, .int .i64 x14, .slice A15 n16 c17]⟩] r30.2) fun r32 =>
 ob ((some r32.1).bind (Value.agg? 9)) fun l33 =>
 ob ((l33[0]?).bind (Value.int? .i64)) fun x34 =>
 ob ((l33[1]?).bind (Value.int? .i64)) fun x35 =>
 ob ((l33[2]?).bind Value.slc?) fun s36 =>
 ob ((l33[3]?).bind (Value.int? .i64)) fun x37 =>
 ob ((l33[4]?).bind (Value.int? .i64)) fun x38 =>
 ob ((l33[5]?).bind Value.slc?) fun s39 =>
 ob ((l33[6]?).bind (Value.int? .i64)) fun x40 =>
 ob ((l33[7]?).bind (Value.int? .i64)) fun x41 =>
 ob ((l33[8]?).bind Value.slc?) fun s42 =>
 ob (acall P T k lo F.syms_Copy [.agg ⟨[.slice A18 n19 c20]⟩] r32.2) fun r43 =>
 ob ((some r43.1).bind (Value.agg? 1)) fun l44 =>
 ob ((l44[0]?).bind Value.slc?) fun s45 =>
 some (pool_Pool_Put.c244 a1 x2 0 true x34 x35 s36.a s36.n s36.c x37 x38 s39.a s39.n s39.c x40 x41 s42.a s42.n s42.c s45.a s45.n s45.c r43.2)))))) := by kernel_rfl
theorem pool_Pool_Put.p244 (k lo : Nat) (a1 : Addr) (x2 : Int) (x3 : Int) (b4 : Bool) (x5 : Int) (x6 : Int) (A7 : Option Addr) (n8 : Nat) (c9 : Nat) (x10 : Int) (x11 : Int) (A12 : Option Addr) (n13 : Nat) (c14 : Nat) (x15 : Int) (x16 : Int) (A17 : Option Addr) (n18 : Nat) (c19 : Nat) (A20 : Option Addr) (n21 : Nat) (c22 : Nat) (M : Mem) : piece P T k lo F.pool_Pool_Put 244 [.v (.pointer (some a1)), .v (.int .i64 x2), .l 9 0, .v (.int .i64 x3)] [[.bool b4, .int .i64 x5, .int .i64 x6, .slice A7 n8 c9, .int .i64 x10, .int .i64 x11, .slice A12 n13 c14, .int .i64 x15, .int .i64 x16, .slice A17 n18 c19, .slice A20 n21 c22]] M =
 bb (decide (x3 < 8))
 (pb (x3 < 0) none
 (bb (andI .i64 (shrI .i64 x2 x3.toNat) 1 == 1)
 (pb (0 ≤ x3 ∧ x3 < (8 : Int))
 (ob (M.st lo (plus (plus a1 1) (x3.toNat * 11)) [.bool b4, .int .i64 x5, .int .i64 x6, .slice A7 n8 c9, .int .i64 x10, .int .i64 x11, .slice A12 n13 c14, .int .i64 x15, .int .i64 x16, .slice A17 n18 c19, .slice A20 n21 c22]) fun M46 =>
 some (pool_Pool_Put.c1959 a1 x2 x3 b4 x5 x6 A7 n8 c9 x10 x11 A12 n13 c14 x15 x16 A17 n18 c19 A20 n21 c22 M46)) none)
 (some (pool_Pool_Put.c1959 a1 x2 x3 b4 x5 x6 A7 n8 c9 x10 x11 A12 n13 c14 x15 x16 A17 n18 c19 A20 n21 c22 M))))
 (some (.ret (.int .i64 0) M)) := by kernel_rfl
theorem pool_Pool_Put.p1959 (k lo : Nat) (a1 : Addr) (x2 : Int) (x3 : Int) (b4 : Bool) (x5 : Int) (x6 : Int) (A7 : Option Addr) (n8 : Nat) (c9 : Nat) (x10 : Int) (x11 : Int) (A12 : Option Addr) (n13 : Nat) (c14 : Nat) (x15 : Int) (x16 : Int) (A17 : Option Addr) (n18 : Nat) (c19 : Nat) (A20 : Option Addr) (n21 : Nat) (c22 : Nat) (M : Mem) : piece P T k lo F.pool_Pool_Put 1959 [.v (.pointer (some a1)), .v (.int .i64 x2), .l 9 0, .v (.int .i64 x3)] [[.bool b4, .int .i64 x5, .int .i64 x6, .slice A7 n8 c9, .int .i64 x10, .int .i64 x11, .slice A12 n13 c14, .int .i64 x15, .int .i64 x16, .slice A17 n18 c19, .slice A20 n21 c22]] M =
 some (pool_Pool_Put.c244 a1 x2 (IntKind.i64.wrap (x3 + 1)) b4 x5 x6 A7 n8 c9 x10 x11 A12 n13 c14 x15 x16 A17 n18 c19 A20 n21 c22 M) := by kernel_rfl
theorem syms_Default.entry (k lo : Nat) (M : Mem) : entry P T k lo F.syms_Default [] M =
 ob (acall P T k lo F.syms_shapes [] M) fun r6 =>
 ob ((some r6.1).bind (Value.agg? 96)) fun l7 =>
 ob ((l7[0]?).bind (Value.int? .i64)) fun x8 =>
 ob ((l7[1]?).bind (Value.int? .i64)) fun x9 =>
 ob ((l7[2]?).bind Value.bool?) fun b10 =>
 ob ((l7[3]?).bind (Value.int? .i64)) fun x11 =>
 ob ((l7[4]?).bind (Value.int? .i64)) fun x12 =>
 ob ((l7[5]?).bind Value.bool?) fun b13 =>
 ob ((l7[6]?).bind (Value.int? .i64)) fun x14 =>
 ob ((l7[7]?).bind (Value.int? .i64)) fun x15 =>
 ob ((l7[8]?).bind Value.bool?) fun b16 =>
 ob ((l7[9]?).bind (Value.int? .i64)) fun x17 =>
 ob ((l7[10]?).bind (Value.int? .i64)) fun x18 =>
 ob ((l7[11]?).bind Value.bool?) fun b19 =>
 ob ((l7[12]?).bind (Value.int? .i64)) fun x20 =>
 ob ((l7[13]?).bind (Value.int? .i64)) fun x21 =>
 ob ((l7[14]?).bind Value.bool?) fun b22 =>
 ob ((l7[15]?).bind (Value.int? .i64)) fun x23 =>
 ob ((l7[16]?).bind (Value.int? .i64)) fun x24 =>
 ob ((l7[17]?).bind Value.bool?) fun b25 =>
 ob ((l7[18]?).bind (Value.int? .i64)) fun x26 =>
 ob ((l7[19]?).bind (Value.int? .i64)) fun x27 =>
 ob ((l7[20]?).bind Value.bool?) fun b28 =>
 ob ((l7[21]?).bind (Value.int? .i64)) fun x29 =>
 ob ((l7[22]?).bind (Value.int? .i64)) fun x30 =>
 ob ((l7[23]?).bind Value.bool?) fun b31 =>
 ob ((l7[24]?).bind (Value.int? .i64)) fun x32 =>
 ob ((l7[25]?).bind (Value.int? .i64)) fun x33 =>
 ob ((l7[26]?).bind Value.bool?) fun b34 =>
 ob ((l7[27]?).bind (Value.int? .i64)) fun x35 =>
 ob ((l7[28]?).bind (Value.int? .i64)) fun x36 =>
 ob ((l7[29]?).bind Value.bool?) fun b37 =>
 ob ((l7[30]?).bind (Value.int? .i64)) fun x38 =>
 ob ((l7[31]?).bind (Value.int? .i64)) fun x39 =>
 ob ((l7[32]?).bind Value.bool?) fun b40 =>
 ob ((l7[33]?).bind (Value.int? .i64)) fun x41 =>
 ob ((l7[34]?).bind (Value.int? .i64)) fun x42 =>
 ob ((l7[35]?).bind Value.bool?) fun b43 =>
 ob ((l7[36]?).bind (Value.int? .i64)) fun x44 =>
 ob ((l7[37]?).bind (Value.int? .i64)) fun x45 =>
 ob ((l7[38]?).bind Value.bool?) fun b46 =>
 ob ((l7[39]?).bind (Value.int? .i64)) fun x47 =>
 ob ((l7[40]?).bind (Value.int? .i64)) fun x48 =>
 ob ((l7[41]?).bind Value.bool?) fun b49 =>
 ob ((l7[42]?).bind (Value.int? .i64)) fun x50 =>
 ob ((l7[43]?).bind (Value.int? .i64)) fun x51 =>
 ob ((l7[44]?).bind Value.bool?) fun b52 =>
 ob ((l7[45]?).bind (Value.int? .i64)) fun x53 =>
 ob ((l7[46]?).bind (Value.int? .i64)) fun x54 =>
 ob ((l7[47]?).bind Value.bool?) fun b55 =>
 ob ((l7[48]?).bind (Value.int? .i64)) fun x56 =>
 ob ((l7[49]?).bind (Value.int? .i64)) fun x57 =>
 ob ((l7[50]?).bind Value.bool?) fun b58 =>
 ob ((l7[51]?).bind (Value.int? .i64)) fun x59 =>
 ob ((l7[52]?).bind (Value.int? .i64)) fun x60 =>
 ob ((l7[53]?).bind Value.bool?) fun b61 =>
 ob ((l7[54]?).bind (Value.int? .i64)) fun x62 =>
 ob ((l7[55]?).bind (Value.int? .i64)) fun x63 =>
 ob ((l7[56]?).bind Value.bool?) fun b64 =>
 ob ((l7[57]?).bind (Value.int? .i64)) fun x65 =>
 ob ((l7[58]?).bind (Value.int? .i64)) fun x66 =>
 ob ((l7[59]?).bind Value.bool?) fun b67 =>
 ob ((l7[60]?).bind (Value.int? .i64)) fun x68 =>
 ob ((l7[61]?).bind (Value.int? .i64)) fun x69 =>
 ob ((l7[62]?).bind Value.bool?) fun b70 =>
 ob ((l7[63]?).bind (Value.int? .i64)) fun x71 =>
 ob ((l7[64]?).bind (Value.int? .i64)) fun x72 =>
 ob ((l7[65]?).bind Value.bool?) fun b73 =>
 ob ((l7[66]?).bind (Value.int? .i64)) fun x74 =>
 ob ((l7[67]?).bind (Value.int? .i64)) fun x75 =>
 ob ((l7[68]?).bind Value.bool?) fun b76 =>
 ob ((l7[69]?).bind (Value.int? .i64)) fun x77 =>
 ob ((l7[70]?).bind (Value.int? .i64)) fun x78 =>
 ob ((l7[71]?).bind Value.bool?) fun b79 =>
 ob ((l7[72]?).bind (Value.int? .i64)) fun x80 =>
 ob ((l7[73]?).bind (Value.int? .i64)) fun x81 =>
 ob ((l7[74]?).bind Value.bool?) fun b82 =>
 ob ((l7[75]?).bind (Value.int? .i64)) fun x83 =>
 ob ((l7[76]?).bind (Value.int? .i64)) fun x84 =>
 ob ((l7[77]?).bind Value.bool?) fun b85 =>
 ob ((l7[78]?).bind (Value.int? .i64)) fun x86 =>
 ob ((l7[79]?).bind (Value.int? .i64)) fun x87 =>
 ob ((l7[80]?).bind Value.bool?) fun b88 =>
 ob ((l7[81]?).bind (Value.int? .i64)) fun x89 =>
 ob ((l7[82]?).bind (Value.int? .i64)) fun x90 =>
 ob ((l7[83]?).bind Value.bool?) fun b91 =>
 ob ((l7[84]?).bind (Value.int? .i64)) fun x92 =>
 ob ((l7[85]?).bind (Value.int? .i64)) fun x93 =>
 ob ((l7[86]?).bind Value.bool?) fun b94 =>
 ob ((l7[87]?).bind (Value.int? .i64)) fun x95 =>
 ob ((l7[88]?).bind (Value.int? .i64)) fun x96 =>
 ob ((l7[89]?).bind Value.bool?) fun b97 =>
 ob ((l7[90]?).bind (Value.int? .i64)) fun x98 =>
 ob ((l7[91]?).bind (Value.int? .i64)) fun x99 =>
 ob ((l7[92]?).bind Value.bool?) fun b100 =>
 ob ((l7[93]?).bind (Value.int? .i64)) fun x101 =>
 ob ((l7[94]?).bind (Value.int? .i64)) fun x102 =>
 ob ((l7[95]?).bind Value.bool?) fun b103 =>
 some (syms_Default.c116 x8 x9 b10 x11 x12 b13 x14 x15 b16 x17 x18 b19 x20 x21 b22 x23 x24 b25 x26 x27 b28 x29 x30 b31 x32 x33 b34 x35 x36 b37 x38 x39 b40 x41 x42 b43 x44 x45 b46 x47 x48 b49 x50 x51 b52 x53 x54 b55 x56 x57 b58 x59 x60 b61 x62 x63 b64 x65 x66 b67 x68 x69 b70 x71 x72 b73 x74 x75 b76 x77 x78 b79 x80 x81 b82 x83 x84 b85 x86 x87 b88 x89 x90 b91 x92 x93 b94 x95 x96 b97 x98 x99 b100 x101 x102 b103 0 none 0 0 none 0 0 r6.2) := by kernel_rfl
theorem syms_Default.p116 (k lo : Nat) (x1 : Int) (x2 : Int) (b3 : Bool) (x4 : Int) (x5 : Int) (b6 : Bool) (x7 : Int) (x8 : Int) (b9 : Bool) (x10 : Int) (x11 : Int) (b12 : Bool) (x13 : Int) (x14 : Int) (b15 : Bool) (x16 : Int) (x17 : Int) (b18 : Bool) (x19 : Int) (x20 : Int) (b21 : Bool) (x22 : Int) (x23 : Int) (b24 : Bool) (x25 : Int) (x26 : Int) (b27 : Bool) (x28 : Int) (x29 : Int) (b30 : Bool) (x31 : Int) (x32 : Int) (b33 : Bool) (x34 : Int) (x35 : Int) (b36 : Bool) (x37 : Int) (x38 : Int) (b39 : Bool) (x40 : Int) (x41 : Int) (b42 : Bool) (x43 : Int) (x44 : Int) (b45 : Bool) (x46 : Int) (x47 : Int) (b48 : Bool) (x49 : Int) (x50 : Int) (b51 : Bool) (x52 : Int) (x53 : Int) (b54 : Bool) (x55 : Int) (x56 : Int) (b57 : Bool) (x58 : Int) (x59 : Int) (b60 : Bool) (x61 : Int) (x62 : Int) (b63 : Bool) (x64 : Int) (x65 : Int) (b66 : Bool) (x67 : Int) (x68 : Int) (b69 : Bool) (x70 : Int) (x71 : Int) (b72 : Bool) (x73 : Int) (x74 : Int) (b75 : Bool) (x76 : Int) (x77 : Int) (b78 : Bool) (x79 : Int) (x80 : Int) (b81 : Bool) (x82 : Int) (x83 : Int) (b84 : Bool) (x85 : Int) (x86 : Int) (b87 : Bool) (x88 : Int) (x89 : Int) (b90 : Bool) (x91 : Int) (x92 : Int) (b93 : Bool) (x94 : Int) (x95 : Int) (b96 : Bool) (x97 : Int) (A98 : Option Addr) (n99 : Nat) (c100 : Nat) (A101 : Option Addr) (n102 : Nat) (c103 : Nat) (M : Mem) : piece P T k lo F.syms_Default 116 [.l 0 0, .l 1 0, .v (.agg ⟨[.int .i64 x1, .int .i64 x2, .bool b3, .int .i64 x4, .int .i64 x5, .bool b6, .int .i64 x7, .int .i64 x8, .bool b9, .int .i64 x10, .int .i64 x11, .bool b12, .int .i64 x13, .int .i64 x14, .bool b15, .int .i64 x16, .int .i64 x17, .bool b18, .int .i64 x19, .int .i64 x20, .bool b21, .int .i64 x22, .int .i64 x23, .bool b24, .int .i64 x25, .int .i64 x26, .bool b27, .int .i64 x28, .int .i64 x29, .bool b30, .int .i64 x31, .int .i64 x32, .bool b33, .int .i64 x34, .int .i64 x35, .bool b36, .int .i64 x37, .int .i64 x38, .bool b39, .int .i64 x40, .int .i64 x41, .bool b42, .int .i64 x43, .int .i64 x44, .bool b45, .int .i64 x46, .int .i64 x47, .bool b48, .int .i64 x49, .int .i64 x50, .bool b51, .int .i64 x52, .int .i64 x53, .bool b54, .int .i64 x55, .int .i64 x56, .bool b57, .int .i64 x58, .int .i64 x59, .bool b60, .int .i64 x61, .int .i64 x62, .bool b63, .int .i64 x64, .int .i64 x65, .bool b66, .int .i64 x67, .int .i64 x68, .bool b69, .int .i64 x70, .int .i64 x71, .bool b72, .int .i64 x73, .int .i64 x74, .bool b75, .int .i64 x76, .int .i64 x77, .bool b78, .int .i64 x79, .int .i64 x80, .bool b81, .int .i64 x82, .int .i64 x83, .bool b84, .int .i64 x85, .int .i64 x86, .bool b87, .int .i64 x88, .int .i64 x89, .bool b90, .int .i64 x91, .int .i64 x92, .bool b93, .int .i64 x94, .int .i64 x95, .bool b96]⟩), .v (.int .i64 x97)] [[.slice A98 n99 c100], [.slice A101 n102 c103]] M =
 bb (decide (x97 < 32))
 (pb (0 ≤ x97 ∧ x97 < (32 : Int))
 (ob ((([.int .i64 x1, .int .i64 x2, .bool b3, .int .i64 x4, .int .i64 x5, .bool b6, .int .i64 x7, .int .i64 x8, .bool b9, .int .i64 x10, .int .i64 x11, .bool b12, .int .i64 x13, .int .i64 x14, .bool b15, .int .i64 x16, .int .i64 x17, .bool b18, .int .i64 x19, .int .i64 x20, .bool b21, .int .i64 x22, .int .i64 x23, .bool b24, .int .i64 x25, .int .i64 x26, .bool b27, .int .i64 x28, .int .i64 x29, .bool b30, .int .i64 x31, .int .i64 x32, .bool b33, .int .i64 x34, .int .i64 x35, .bool b36, .int .i64 x37, .int .i64 x38, .bool b39, .int .i64 x40, .int .i64 x41, .bool b42, .int .i64 x43, .int .i64 x44, .bool b45, .int .i64 x46, .int .i64 x47, .bool b48, .int .i64 x49, .int .i64 x50, .bool b51, .int .i64 x52, .int .i64 x53, .bool b54, .int .i64 x55, .int .i64 x56, .bool b57, .int .i64 x58, .int .i64 x59, .bool b60, .int .i64 x61, .int .i64 x62, .bool b63, .int .i64 x64, .int .i64 x65, .bool b66, .int .i64 x67, .int .i64 x68, .bool b69, .int .i64 x70, .int .i64 x71, .bool b72, .int .i64 x73, .int .i64 x74, .bool b75, .int .i64 x76, .int .i64 x77, .bool b78, .int .i64 x79, .int .i64 x80, .bool b81, .int .i64 x82, .int .i64 x83, .bool b84, .int .i64 x85, .int .i64 x86, .bool b87, .int .i64 x88, .int .i64 x89, .bool b90, .int .i64 x91, .int .i64 x92, .bool b93, .int .i64 x94, .int .i64 x95, .bool b96] : List Value)[x97.toNat * 3 + 0]?).bind (Value.int? .i64)) fun x104 =>
 ob ((([.int .i64 x1, .int .i64 x2, .bool b3, .int .i64 x4, .int .i64 x5, .bool b6, .int .i64 x7, .int .i64 x8, .bool b9, .int .i64 x10, .int .i64 x11, .bool b12, .int .i64 x13, .int .i64 x14, .bool b15, .int .i64 x16, .int .i64 x17, .bool b18, .int .i64 x19, .int .i64 x20, .bool b21, .int .i64 x22, .int .i64 x23, .bool b24, .int .i64 x25, .int .i64 x26, .bool b27, .int .i64 x28, .int .i64 x29, .bool b30, .int .i64 x31, .int .i64 x32, .bool b33, .int .i64 x34, .int .i64 x35, .bool b36, .int .i64 x37, .int .i64 x38, .bool b39, .int .i64 x40, .int .i64 x41, .bool b42, .int .i64 x43, .int .i64 x44, .bool b45, .int .i64 x46, .int .i64 x47, .bool b48, .int .i64 x49, .int .i64 x50, .bool b51, .int .i64 x52, .int .i64 x53, .bool b54, .int .i64 x55, .int .i64 x56, .bool b57, .int .i64 x58, .int .i64 x59, .bool b60, .int .i64 x61, .int .i64 x62, .bool b63, .int .i64 x64, .int .i64 x65, .bool b66, .int .i64 x67, .int .i64 x68, .bool b69, .int .i64 x70, .int .i64 x71, .bool b72, .int .i64 x73, .int .i64 x74, .bool b75, .int .i64 x76, .int .i64 x77, .bool b78, .int .i64 x79, .int .i64 x80, .bool b81, .int .i64 x82, .int .i64 x83, .bool b84, .int .i64 x85, .int .i64 x86, .bool b87, .int .i64 x88, .int .i64 x89, .bool b90, .int .i64 x91, .int .i64 x92, .bool b93, .int .i64 x94, .int .i64 x95, .bool b96] : List Value)[x97.toNat * 3 + 1]?).bind (Value.int? .i64)) fun x105 =>
 ob ((([.int .i64 x1, .int .i64 x2, .bool b3, .int .i64 x4, .int .i64 x5, .bool b6, .int .i64 x7, .int .i64 x8, .bool b9, .int .i64 x10, .int .i64 x11, .bool b12, .int .i64 x13, .int .i64 x14, .bool b15, .int .i64 x16, .int .i64 x17, .bool b18, .int .i64 x19, .int .i64 x20, .bool b21, .int .i64 x22, .int .i64 x23, .bool b24, .int .i64 x25, .int .i64 x26, .bool b27, .int .i64 x28, .int .i64 x29, .bool b30, .int .i64 x31, .int .i64 x32, .bool b33, .int .i64 x34, .int .i64 x35, .bool b36, .int .i64 x37, .int .i64 x38, .bool b39, .int .i64 x40, .int .i64 x41, .bool b42, .int .i64 x43, .int .i64 x44, .bool b45, .int .i64 x46, .int .i64 x47, .bool b48, .int .i64 x49, .int .i64 x50, .bool b51, .int .i64 x52, .int .i64 x53, .bool b54, .int .i64 x55, .int .i64 x56, .bool b57, .int .i64 x58, .int .i64 x59, .bool b60, .int .i64 x61, .int .i64 x62, .bool b63, .int .i64 x64, .int .i64 x65, .bool b66, .int .i64 x67, .int .i64 x68, .bool b69, .int .i64 x70, .int .i64 x71, .bool b72, .int .i64 x73, .int .i64 x74, .bool b75, .int .i64 x76, .int .i64 x77, .bool b78, .int .i64 x79, .int .i64 x80, .bool b81, .int .i64 x82, .int .i64 x83, .bool b84, .int .i64 x85, .int .i64 x86, .bool b87, .int .i64 x88, .int .i64 x89, .bool b90, .int .i64 x91, .int .i64 x92, .bool b93, .int .i64 x94, .int .i64 x95, .bool b96] : List Value)[x97.toNat * 3 + 2]?).bind Value.bool?) fun b106 =>
 bb b106
 (some (syms_Default.c14951 (.func (.func F.cdf_Steep) ⟨[]⟩ ⟨[]⟩) x1 x2 b3 x4 x5 b6 x7 x8 b9 x10 x11 b12 x13 x14 b15 x16 x17 b18 x19 x20 b21 x22 x23 b24 x25 x26 b27 x28 x29 b30 x31 x32 b33 x34 x35 b36 x37 x38 b39 x40 x41 b42 x43 x44 b45 x46 x47 b48 x49 x50 b51 x52 x53 b54 x55 x56 b57 x58 x59 b60 x61 x62 b63 x64 x65 b66 x67 x68 b69 x70 x71 b72 x73 x74 b75 x76 x77 b78 x79 x80 b81 x82 x83 b84 x85 x86 b87 x88 x89 b90 x91 x92 b93 x94 x95 b96 x97 A98 n99 c100 A101 n102 c103 x104 x105 b106 M))
 (some (syms_Default.c14951 (.func (.func F.cdf_Flat) ⟨[]⟩ ⟨[]⟩) x1 x2 b3 x4 x5 b6 x7 x8 b9 x10 x11 b12 x13 x14 b15 x16 x17 b18 x19 x20 b21 x22 x23 b24 x25 x26 b27 x28 x29 b30 x31 x32 b33 x34 x35 b36 x37 x38 b39 x40 x41 b42 x43 x44 b45 x46 x47 b48 x49 x50 b51 x52 x53 b54 x55 x56 b57 x58 x59 b60 x61 x62 b63 x64 x65 b66 x67 x68 b69 x70 x71 b72 x73 x74 b75 x76 x77 b78 x79 x80 b81 x82 x83 b84 x85 x86 b87 x88 x89 b90 x91 x92 b93 x94 x95 b96 x97 A98 n99 c100 A101 n102 c103 x104 x105 b106 M))) none)
 (some (.ret (.agg ⟨[.slice A101 n102 c103]⟩) M)) := by kernel_rfl
theorem syms_Default.p14951 (k lo : Nat) (v1 : Value) (x2 : Int) (x3 : Int) (b4 : Bool) (x5 : Int) (x6 : Int) (b7 : Bool) (x8 : Int) (x9 : Int) (b10 : Bool) (x11 : Int) (x12 : Int) (b13 : Bool) (x14 : Int) (x15 : Int) (b16 : Bool) (x17 : Int) (x18 : Int) (b19 : Bool) (x20 : Int) (x21 : Int) (b22 : Bool) (x23 : Int) (x24 : Int) (b25 : Bool) (x26 : Int) (x27 : Int) (b28 : Bool) (x29 : Int) (x30 : Int) (b31 : Bool) (x32 : Int) (x33 : Int) (b34 : Bool) (x35 : Int) (x36 : Int) (b37 : Bool) (x38 : Int) (x39 : Int) (b40 : Bool) (x41 : Int) (x42 : Int) (b43 : Bool) (x44 : Int) (x45 : Int) (b46 : Bool) (x47 : Int) (x48 : Int) (b49 : Bool) (x50 : Int) (x51 : Int) (b52 : Bool) (x53 : Int) (x54 : Int) (b55 : Bool) (x56 : Int) (x57 : Int) (b58 : Bool) (x59 : Int) (x60 : Int) (b61 : Bool) (x62 : Int) (x63 : Int) (b64 : Bool) (x65 : Int) (x66 : Int) (b67 : Bool) (x68 : Int) (x69 : Int) (b70 : Bool) (x71 : Int) (x72 : Int) (b73 : Bool) (x74 : Int) (x75 : Int) (b76 : Bool) (x77 : Int) (x78 : Int) (b79 : Bool) (x80 : Int) (x81 : Int) (b82 : Bool) (x83 : Int) (x84 : Int) (b85 : Bool) (x86 : Int) (x87 : Int) (b88 : Bool) (x89 : Int) (x90 : Int) (b91 : Bool) (x92 : Int) (x93 : Int) (b94 : Bool) (x95 : Int) (x96 : Int) (b97 : Bool) (x98 : Int) (A99 : Option Addr) (n100 : Nat) (c101 : Nat) (A102 : Option Addr) (n103 : Nat) (c104 : Nat) (x105 : Int) (x106 : Int) (b107 : Bool) (M : Mem) : piece P T k lo F.syms_Default 14951 [.l 0 0, .l 1 0, .l 3 0, .v v1, .v (.agg ⟨[.int .i64 x2, .int .i64 x3, .bool b4, .int .i64 x5, .int .i64 x6, .bool b7, .int .i64 x8, .int .i64 x9, .bool b10, .int .i64 x11, .int .i64 x12, .bool b13, .int .i64 x14, .int .i64 x15, .bool b16, .int .i64 x17, .int .i64 x18, .bool b19, .int .i64 x20, .int .i64 x21, .bool b22, .int .i64 x23, .int .i64 x24, .bool b25, .int .i64 x26, .int .i64 x27, .bool b28, .int .i64 x29, .int .i64 x30, .bool b31, .int .i64 x32, .int .i64 x33, .bool b34, .int .i64 x35, .int .i64 x36, .bool b37, .int .i64 x38, .int .i64 x39, .bool b40, .int .i64 x41, .int .i64 x42, .bool b43, .int .i64 x44, .int .i64 x45, .bool b46, .int .i64 x47, .int .i64 x48, .bool b49, .int .i64 x50, .int .i64 x51, .bool b52, .int .i64 x53, .int .i64 x54, .bool b55, .int .i64 x56, .int .i64 x57, .bool b58, .int .i64 x59, .int .i64 x60, .bool b61, .int .i64 x62, .int .i64 x63, .bool b64, .int .i64 x65, .int .i64 x66, .bool b67, .int .i64 x68, .int .i64 x69, .bool b70, .int .i64 x71, .int .i64 x72, .bool b73, .int .i64 x74, .int .i64 x75, .bool b76, .int .i64 x77, .int .i64 x78, .bool b79, .int .i64 x80, .int .i64 x81, .bool b82, .int .i64 x83, .int .i64 x84, .bool b85, .int .i64 x86, .int .i64 x87, .bool b88, .int .i64 x89, .int .i64 x90, .bool b91, .int .i64 x92, .int .i64 x93, .bool b94, .int .i64 x95, .int .i64 x96, .bool b97]⟩), .v (.int .i64 x98)] [[.slice A99 n100 c101], [.slice A102 n103 c104], [.int .i64 x105, .int .i64 x106, .bool b107]] M =
 pb (0 ≤ x105 ∧ room x105.toNat 32)
 (some (syms_Default.c478452 v1 (some ⟨M.length, 0, none⟩) x105.toNat x105.toNat x2 x3 b4 x5 x6 b7 x8 x9 b10 x11 x12 b13 x14 x15 b16 x17 x18 b19 x20 x21 b22 x23 x24 b25 x26 x27 b28 x29 x30 b31 x32 x33 b34 x35 x36 b37 x38 x39 b40 x41 x42 b43 x44 x45 b46 x47 x48 b49 x50 x51 b52 x53 x54 b55 x56 x57 b58 x59 x60 b61 x62 x63 b64 x65 x66 b67 x68 x69 b70 x71 x72 b73 x74 x75 b76 x77 x78 b79 x80 x81 b82 x83 x84 b85 x86 x87 b88 x89 x90 b91 x92 x93 b94 x95 x96 b97 x98 (x105.toNat : Int) 0 A99 n100 c101 A102 n103 c104 x105 x106 b107 (M ++ [⟨.fx, zerosL [.slice none 0 0, .int .i64 0] x105.toNat⟩] : Mem))) none := by kernel_rfl
theorem syms_Default.p478452 (k lo : Nat) (v1 : Value) (A2 : Option Addr) (n3 : Nat) (c4 : Nat) (x5 : Int) (x6 : Int) (b7 : Bool) (x8 : Int) (x9 : Int) (b10 : Bool) (x11 : Int) (x12 : Int) (b13 : Bool) (x14 : Int) (x15 : Int) (b16 : Bool) (x17 : Int) (x18 : Int) (b19 : Bool) (x20 : Int) (x21 : Int) (b22 : Bool) (x23 : Int) (x24 : Int) (b25 : Bool) (x26 : Int) (x27 : Int) (b28 : Bool) (x29 : Int) (x30 : Int) (b31 : Bool) (x32 : Int) (x33 : Int) (b34 : Bool) (x35 : Int) (x36 : Int) (b37 : Bool) (x38 : Int) (x39 : Int) (b40 : Bool) (x41 : Int) (x42 : Int) (b43 : Bool) (x44 : Int) (x45 : Int) (b46 : Bool) (x47 : Int) (x48 : Int) (b49 : Bool) (x50 : Int) (x51 : Int) (b52 : Bool) (x53 : Int) (x54 : Int) (b55 : Bool) (x56 : Int) (x57 : Int) (b58 : Bool) (x59 : Int) (x60 : Int) (b61 : Bool) (x62 : Int) (x63 : Int) (b64 : Bool) (x65 : Int) (x66 : Int) (b67 : Bool) (x68 : Int) (x69 : Int) (b70 : Bool) (x71 : Int) (x72 : Int) (b73 : Bool) (x74 : Int) (x75 : Int) (b76 : Bool) (x77 : Int) (x78 : Int) (b79 : Bool) (x80 : Int) (x81 : Int) (b82 : Bool) (x83 : Int) (x84 : Int) (b85 : Bool) (x86 : Int) (x87 : Int) (b88 : Bool) (x89 : Int) (x90 : Int) (b91 : Bool) (x92 : Int) (x93 : Int) (b94 : Bool) (x95 : Int) (x96 : Int) (b97 : Bool) (x98 : Int) (x99 : Int) (b100 : Bool) (x101 : Int) (x102 : Int) (x103 : Int) (A104 : Option Addr) (n105 : Nat) (c106 : Nat) (A107 : Option Addr) (n108 : Nat) (c109 : Nat) (x110 : Int) (x111 : Int) (b112 : Bool) (M : Mem) : piece P T k lo F.syms_Default 478452 [.l 0 0, .l 1 0, .l 3 0, .v v1, .v (.slice A2 n3 c4), .v (.agg ⟨[.int .i64 x5, .int .i64 x6, .bool b7, .int .i64 x8, .int .i64 x9, .bool b10, .int .i64 x11, .int .i64 x12, .bool b13, .int .i64 x14, .int .i64 x15, .bool b16, .int .i64 x17, .int .i64 x18, .bool b19, .int .i64 x20, .int .i64 x21, .bool b22, .int .i64 x23, .int .i64 x24, .bool b25, .int .i64 x26, .int .i64 x27, .bool b28, .int .i64 x29, .int .i64 x30, .bool b31, .int .i64 x32, .int .i64 x33, .bool b34, .int .i64 x35, .int .i64 x36, .bool b37, .int .i64 x38, .int .i64 x39, .bool b40, .int .i64 x41, .int .i64 x42, .bool b43, .int .i64 x44, .int .i64 x45, .bool b46, .int .i64 x47, .int .i64 x48, .bool b49, .int .i64 x50, .int .i64 x51, .bool b52, .int .i64 x53, .int .i64 x54, .bool b55, .int .i64 x56, .int .i64 x57, .bool b58, .int .i64 x59, .int .i64 x60, .bool b61, .int .i64 x62, .int .i64 x63, .bool b64, .int .i64 x65, .int .i64 x66, .bool b67, .int .i64 x68, .int .i64 x69, .bool b70, .int .i64 x71, .int .i64 x72, .bool b73, .int .i64 x74, .int .i64 x75, .bool b76, .int .i64 x77, .int .i64 x78, .bool b79, .int .i64 x80, .int .i64 x81, .bool b82, .int .i64 x83, .int .i64 x84, .bool b85, .int .i64 x86, .int .i64 x87, .bool b88, .int .i64 x89, .int .i64 x90, .bool b91, .int .i64 x92, .int .i64 x93, .bool b94, .int .i64 x95, .int .i64 x96, .bool b97, .int .i64 x98, .int .i64 x99, .bool b100]⟩), .v (.int .i64 x101), .v (.int .i64 x102), .v (.int .i64 x103)] [[.slice A104 n105 c106], [.slice A107 n108 c109], [.int .i64 x110, .int .i64 x111, .bool b112]] M =
 bb (decide (x103 < x102))
 (ob (Value.fun? v1) fun q114 =>
 ob (acall P T k lo q114.1 (q114.2.1 ++ [.int .i64 x111] ++ q114.2.2) M) fun r113 =>
 ob (r113.1.tup? 2) fun l115 =>
 ob ((l115[0]?).bind (Value.agg? 2)) fun l116 =>
 ob ((l116[0]?).bind Value.slc?) fun s117 =>
 ob ((l116[1]?).bind (Value.int? .i64)) fun x118 =>
 ob ((l115[1]?).bind (Value.int? .i64)) fun x119 =>
 pb (0 ≤ x103 ∧ x103 < (n3 : Int))
 (ob A2 fun a120 =>
 ob (r113.2.st lo (plus a120 (x103.toNat * 2)) [.slice s117.a s117.n s117.c, .int .i64 x118]) fun M121 =>
 some (syms_Default.c478452 v1 A2 n3 c4 x5 x6 b7 x8 x9 b10 x11 x12 b13 x14 x15 b16 x17 x18 b19 x20 x21 b22 x23 x24 b25 x26 x27 b28 x29 x30 b31 x32 x33 b34 x35 x36 b37 x38 x39 b40 x41 x42 b43 x44 x45 b46 x47 x48 b49 x50 x51 b52 x53 x54 b55 x56 x57 b58 x59 x60 b61 x62 x63 b64 x65 x66 b67 x68 x69 b70 x71 x72 b73 x74 x75 b76 x77 x78 b79 x80 x81 b82 x83 x84 b85 x86 x87 b88 x89 x90 b91 x92 x93 b94 x95 x96 b97 x98 x99 b100 x101 x102 (IntKind.i64.wrap (x103 + 1)) A104 n105 c106 A107 n108 c109 x110 x111 b112 M121)) none)
 (ob (M.app lo 1 24 ⟨A107, n108, c109⟩ ([.slice A2 n3 c4]) 1) fun r122 =>
 some (syms_Default.c116 x5 x6 b7 x8 x9 b10 x11 x12 b13 x14 x15 b16 x17 x18 b19 x20 x21 b22 x23 x24 b25 x26 x27 b28 x29 x30 b31 x32 x33 b34 x35 x36 b37 x38 x39 b40 x41 x42 b43 x44 x45 b46 x47 x48 b49 x50 x51 b52 x53 x54 b55 x56 x57 b58 x59 x60 b61 x62 x63 b64 x65 x66 b67 x68 x69 b70 x71 x72 b73 x74 x75 b76 x77 x78 b79 x80 x81 b82 x83 x84 b85 x86 x87 b88 x89 x90 b91 x92 x93 b94 x95 x96 b97 x98 x99 b100 (IntKind.i64.wrap (x101 + 1)) A104 n105 c106 r122.1.a r122.1.n r122.1.c r122.2)) := by kernel_rfl
theorem pool_Pool_Frame.entry (k lo : Nat) (a1 : Addr) (x2 : Int) (M : Mem) : entry P T k lo F.pool_Pool_Frame [.pointer (some a1), .int .i64 x2] M =
 ob (acall P T k lo F.pool_Pool_slot [.pointer (some a1), .int .i64 x2] M) fun r8 =>
 ob (r8.1.tup? 2) fun l9 =>
 ob ((l9[0]?).bind (Value.agg? 11)) fun l10 =>
 ob ((l10[0]?).bind Value.bool?) fun b11 =>
 ob ((l10[1]?).bind (Value.int? .i64)) fun x12 =>
 ob ((l10[2]?).bind (Value.int? .i64)) fun x13 =>
 ob ((l10[3]?).bind Value.slc?) fun s14 =>
 ob ((l10[4]?).bind (Value.int? .i64)) fun x15 =>
 ob ((l10[5]?).bind (Value.int? .i64)) fun x16 =>
 ob ((l10[6]?).bind Value.slc?) fun s17 =>
 ob ((l10[7]?).bind (Value.int? .i64)) fun x18 =>
 ob ((l10[8]?).bind (Value.int? .i64)) fun x19 =>
 ob ((l10[9]?).bind Value.slc?) fun s20 =>
 ob ((l10[10]?).bind Value.slc?) fun s21 =>
 ob ((l9[1]?).bind (Value.int? .i64)) fun x22 =>
 bb (x22 != 0)
 (some (.ret (.tuple ⟨[.agg ⟨[.int .i64 0, .int .i64 0, .slice none 0 0, .int .i64 0, .int .i64 0, .slice none 0 0, .int .i64 0, .int .i64 0, .slice none 0 0]⟩, .int .i64 x22]⟩) r8.2))
 (ob (acall P T k lo F.pool_copied [.agg ⟨[.int .i64 x12, .int .i64 x13, .slice s14.a s14.n s14.c, .int .i64 x15, .int .i64 x16, .slice s17.a s17.n s17.c, .int .i64 x18, .int .i64 x19, .slice s20.a s20.n s20.c]⟩] r8.2) fun r23 =>
 ob ((some r23.1).bind (Value.agg? 9)) fun l24 =>
 ob ((l24[0]?).bind (Value.int? .i64)) fun x25 =>
 ob ((l24[1]?).bind (Value.int? .i64)) fun x26 =>
 ob ((l24[2]?).bind Value.slc?) fun s27 =>
 ob ((l24[3]?).bind (Value.int? .i64)) fun x28 =>
 ob ((l24[4]?).bind (Value.int? .i64)) fun x29 =>
 ob ((l24[5]?).bind Value.slc?) fun s30 =>
 ob ((l24[6]?).bind (Value.int? .i64)) fun x31 =>
 ob ((l24[7]?).bind (Value.int? .i64)) fun x32 =>
 ob ((l24[8]?).bind Value.slc?) fun s33 =>
 some (.ret (.tuple ⟨[.agg ⟨[.int .i64 x25, .int .i64 x26, .slice s27.a s27.n s27.c, .int .i64 x28, .int .i64 x29, .slice s30.a s30.n s30.c, .int .i64 x31, .int .i64 x32, .slice s33.a s33.n s33.c]⟩, .int .i64 0]⟩) r23.2)) := by kernel_rfl
end Go.Zt
