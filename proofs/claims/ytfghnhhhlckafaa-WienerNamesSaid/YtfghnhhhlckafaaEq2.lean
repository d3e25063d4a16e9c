/- What functions come to, from cut to cut. -/
import Derived.Test.YtfghnhhhlckafaaEq0
import Derived.KernelRfl
set_option maxRecDepth 100000
set_option maxHeartbeats 4000000
set_option linter.unusedVariables false
namespace Go.Zt
theorem zoetroperef24_sample.entry (k lo : Nat) (x1 : Int) (x2 : Int) (A3 : Option Addr) (n4 : Nat) (c5 : Nat) (x6 : Int) (x7 : Int) (A8 : Option Addr) (n9 : Nat) (c10 : Nat) (x11 : Int) (x12 : Int) (b13 : Bool) (x14 : Int) (x15 : Int) (x16 : Int) (x17 : Int) (x18 : Int) (x19 : Int) (x20 : Int) (M : Mem) : entry P T k lo F.zoetroperef24_sample [.agg ⟨[.int .i64 x1, .int .i64 x2, .slice A3 n4 c5]⟩, .agg ⟨[.int .i64 x6, .int .i64 x7, .slice A8 n9 c10]⟩, .int .i64 x11, .int .i64 x12, .agg ⟨[.bool b13, .int .i64 x14, .int .i64 x15, .int .i64 x16, .int .i64 x17, .int .i64 x18, .int .i64 x19]⟩, .int .i64 x20] M =
 ob (acall P T k lo F.zoetroperef24_Seven [.agg ⟨[.int .i64 x14, .int .i64 x15, .int .i64 x16]⟩] M) fun r26 =>
 ob (r26.1.tup? 2) fun l27 =>
 ob ((l27[0]?).bind (Value.agg? 7)) fun l28 =>
 ob ((l28[0]?).bind (Value.int? .i64)) fun x29 =>
 ob ((l28[1]?).bind (Value.int? .i64)) fun x30 =>
 ob ((l28[2]?).bind (Value.int? .i64)) fun x31 =>
 ob ((l28[3]?).bind (Value.int? .i64)) fun x32 =>
 ob ((l28[4]?).bind (Value.int? .i64)) fun x33 =>
 ob ((l28[5]?).bind (Value.int? .i64)) fun x34 =>
 ob ((l28[6]?).bind (Value.int? .i64)) fun x35 =>
 ob ((l27[1]?).bind (Value.int? .i64)) fun x36 =>
 ob (acall P T k lo F.zoetroperef24_Seven [.agg ⟨[.int .i64 x17, .int .i64 x18, .int .i64 x19]⟩] r26.2) fun r37 =>
 ob (r37.1.tup? 2) fun l38 =>
 ob ((l38[0]?).bind (Value.agg? 7)) fun l39 =>
 ob ((l39[0]?).bind (Value.int? .i64)) fun x40 =>
 ob ((l39[1]?).bind (Value.int? .i64)) fun x41 =>
 ob ((l39[2]?).bind (Value.int? .i64)) fun x42 =>
 ob ((l39[3]?).bind (Value.int? .i64)) fun x43 =>
 ob ((l39[4]?).bind (Value.int? .i64)) fun x44 =>
 ob ((l39[5]?).bind (Value.int? .i64)) fun x45 =>
 ob ((l39[6]?).bind (Value.int? .i64)) fun x46 =>
 ob ((l38[1]?).bind (Value.int? .i64)) fun x47 =>
 pb (x20 = 0) none
 (some (zoetroperef24_sample.c4084 x11 x12 (IntKind.i64.wrap ((IntKind.i64.wrap ((IntKind.i64.wrap (Int.tdiv (IntKind.i64.wrap (x12 + (IntKind.i64.wrap (Int.tdiv x20 8)))) x20)) * x20)) - (IntKind.i64.wrap (Int.tdiv x20 8)))) (IntKind.i64.wrap ((IntKind.i64.wrap ((IntKind.i64.wrap ((IntKind.i64.wrap (Int.tdiv (IntKind.i64.wrap (x12 + (IntKind.i64.wrap (Int.tdiv x20 8)))) x20)) * x20)) - (IntKind.i64.wrap (Int.tdiv x20 8)))) + x20)) 0 0 x1 x2 A3 n4 c5 x6 x7 A8 n9 c10 x29 x30 x31 x32 x33 x34 x35 x40 x41 x42 x43 x44 x45 x46 r37.2)) := by kernel_rfl
theorem zoetroperef24_sample.p4084 (k lo : Nat) (x1 : Int) (x2 : Int) (x3 : Int) (x4 : Int) (x5 : Int) (x6 : Int) (x7 : Int) (x8 : Int) (A9 : Option Addr) (n10 : Nat) (c11 : Nat) (x12 : Int) (x13 : Int) (A14 : Option Addr) (n15 : Nat) (c16 : Nat) (x17 : Int) (x18 : Int) (x19 : Int) (x20 : Int) (x21 : Int) (x22 : Int) (x23 : Int) (x24 : Int) (x25 : Int) (x26 : Int) (x27 : Int) (x28 : Int) (x29 : Int) (x30 : Int) (M : Mem) : piece P T k lo F.zoetroperef24_sample 4084 [.v (.int .i64 x1), .v (.int .i64 x2), .l 6 0, .l 7 0, .l 13 0, .l 15 0, .v (.int .i64 x3), .v (.int .i64 x4), .v (.int .i64 x5), .v (.int .i64 x6)] [[.int .i64 x7, .int .i64 x8, .slice A9 n10 c11], [.int .i64 x12, .int .i64 x13, .slice A14 n15 c16], [.int .i64 x17, .int .i64 x18, .int .i64 x19, .int .i64 x20, .int .i64 x21, .int .i64 x22, .int .i64 x23], [.int .i64 x24, .int .i64 x25, .int .i64 x26, .int .i64 x27, .int .i64 x28, .int .i64 x29, .int .i64 x30]] M =
 bb (decide (x6 < 7))
 (ob (acall P T k lo F.zoetroperef00_Clip [.int .i64 (IntKind.i64.wrap ((IntKind.i64.wrap (x2 + x6)) - 3)), .int .i64 0, .int .i64 (IntKind.i64.wrap (x8 - 1))] M) fun r48 =>
 ob ((some r48.1).bind (Value.int? .i64)) fun x49 =>
 ob (acall P T k lo F.zoetroperef00_Clip [.int .i64 x49, .int .i64 (IntKind.i64.wrap (x3 - 2)), .int .i64 (IntKind.i64.wrap (x4 + 1))] r48.2) fun r50 =>
 ob ((some r50.1).bind (Value.int? .i64)) fun x51 =>
 bb (decide (x51 ≥ x3))
 (bb (decide (x51 < x4))
 (pb (0 ≤ x6 ∧ x6 < (7 : Int))
 (ob ((([.int .i64 x17, .int .i64 x18, .int .i64 x19, .int .i64 x20, .int .i64 x21, .int .i64 x22, .int .i64 x23] : List Value)[0 + x6.toNat + 0]?).bind (Value.int? .i64)) fun x52 =>
 ob (acall P T k r50.2.length F.zoetroperef24_across [.agg ⟨[.int .i64 x7, .int .i64 x8, .slice A9 n10 c11]⟩, .int .i64 x1, .int .i64 x51, .agg ⟨[.int .i64 x24, .int .i64 x25, .int .i64 x26, .int .i64 x27, .int .i64 x28, .int .i64 x29, .int .i64 x30]⟩] r50.2) fun r53 =>
 ob ((some r53.1).bind (Value.int? .i64)) fun x54 =>
 some (zoetroperef24_sample.c16339 x1 x2 x3 x4 (IntKind.i64.wrap (x5 + (IntKind.i64.wrap (x52 * x54)))) x6 x7 x8 A9 n10 c11 x12 x13 A14 n15 c16 x17 x18 x19 x20 x21 x22 x23 x24 x25 x26 x27 x28 x29 x30 r53.2)) none)
 (pb (0 ≤ x6 ∧ x6 < (7 : Int))
 (ob ((([.int .i64 x17, .int .i64 x18, .int .i64 x19, .int .i64 x20, .int .i64 x21, .int .i64 x22, .int .i64 x23] : List Value)[0 + x6.toNat + 0]?).bind (Value.int? .i64)) fun x55 =>
 ob (acall P T k r50.2.length F.zoetroperef24_across [.agg ⟨[.int .i64 x12, .int .i64 x13, .slice A14 n15 c16]⟩, .int .i64 x1, .int .i64 x51, .agg ⟨[.int .i64 x24, .int .i64 x25, .int .i64 x26, .int .i64 x27, .int .i64 x28, .int .i64 x29, .int .i64 x30]⟩] r50.2) fun r56 =>
 ob ((some r56.1).bind (Value.int? .i64)) fun x57 =>
 some (zoetroperef24_sample.c16339 x1 x2 x3 x4 (IntKind.i64.wrap (x5 + (IntKind.i64.wrap (x55 * x57)))) x6 x7 x8 A9 n10 c11 x12 x13 A14 n15 c16 x17 x18 x19 x20 x21 x22 x23 x24 x25 x26 x27 x28 x29 x30 r56.2)) none))
 (pb (0 ≤ x6 ∧ x6 < (7 : Int))
 (ob ((([.int .i64 x17, .int .i64 x18, .int .i64 x19, .int .i64 x20, .int .i64 x21, .int .i64 x22, .int .i64 x23] : List Value)[0 + x6.toNat + 0]?).bind (Value.int? .i64)) fun x58 =>
 ob (acall P T k r50.2.length F.zoetroperef24_across [.agg ⟨[.int .i64 x12, .int .i64 x13, .slice A14 n15 c16]⟩, .int .i64 x1, .int .i64 x51, .agg ⟨[.int .i64 x24, .int .i64 x25, .int .i64 x26, .int .i64 x27, .int .i64 x28, .int .i64 x29, .int .i64 x30]⟩] r50.2) fun r59 =>
 ob ((some r59.1).bind (Value.int? .i64)) fun x60 =>
 some (zoetroperef24_sample.c16339 x1 x2 x3 x4 (IntKind.i64.wrap (x5 + (IntKind.i64.wrap (x58 * x60)))) x6 x7 x8 A9 n10 c11 x12 x13 A14 n15 c16 x17 x18 x19 x20 x21 x22 x23 x24 x25 x26 x27 x28 x29 x30 r59.2)) none))
 (ob (acall P T k lo F.zoetroperef24_round [.int .i64 x5, .int .i64 11] M) fun r61 =>
 ob ((some r61.1).bind (Value.int? .i64)) fun x62 =>
 ob (acall P T k lo F.zoetroperef00_Clip [.int .i64 x62, .int .i64 0, .int .i64 255] r61.2) fun r63 =>
 ob ((some r63.1).bind (Value.int? .i64)) fun x64 =>
 some (.ret (.int .u8 (IntKind.u8.wrap x64)) r63.2)) := by kernel_rfl
theorem zoetroperef24_sample.p16339 (k lo : Nat) (x1 : Int) (x2 : Int) (x3 : Int) (x4 : Int) (x5 : Int) (x6 : Int) (x7 : Int) (x8 : Int) (A9 : Option Addr) (n10 : Nat) (c11 : Nat) (x12 : Int) (x13 : Int) (A14 : Option Addr) (n15 : Nat) (c16 : Nat) (x17 : Int) (x18 : Int) (x19 : Int) (x20 : Int) (x21 : Int) (x22 : Int) (x23 : Int) (x24 : Int) (x25 : Int) (x26 : Int) (x27 : Int) (x28 : Int) (x29 : Int) (x30 : Int) (M : Mem) : piece P T k lo F.zoetroperef24_sample 16339 [.v (.int .i64 x1), .v (.int .i64 x2), .l 6 0, .l 7 0, .l 13 0, .l 15 0, .v (.int .i64 x3), .v (.int .i64 x4), .v (.int .i64 x5), .v (.int .i64 x6)] [[.int .i64 x7, .int .i64 x8, .slice A9 n10 c11], [.int .i64 x12, .int .i64 x13, .slice A14 n15 c16], [.int .i64 x17, .int .i64 x18, .int .i64 x19, .int .i64 x20, .int .i64 x21, .int .i64 x22, .int .i64 x23], [.int .i64 x24, .int .i64 x25, .int .i64 x26, .int .i64 x27, .int .i64 x28, .int .i64 x29, .int .i64 x30]] M =
 some (zoetroperef24_sample.c4084 x1 x2 x3 x4 x5 (IntKind.i64.wrap (x6 + 1)) x7 x8 A9 n10 c11 x12 x13 A14 n15 c16 x17 x18 x19 x20 x21 x22 x23 x24 x25 x26 x27 x28 x29 x30 M) := by kernel_rfl
theorem plane_sizes.entry (k lo : Nat) (x1 : Int) (x2 : Int) (M : Mem) : entry P T k lo F.plane_sizes [.int .i64 x1, .int .i64 x2] M =
 bb (decide (x1 ≥ 1))
 (bb (decide (x1 ≤ 512))
 (bb (decide (x2 ≥ 1))
 (some (.ret (.bool (decide (x2 ≤ 512))) M))
 (some (.ret (.bool false) M)))
 (some (.ret (.bool false) M)))
 (some (.ret (.bool false) M)) := by kernel_rfl
theorem slices_Repeat__uint8_uint8.entry (k lo : Nat) (A1 : Option Addr) (n2 : Nat) (c3 : Nat) (x4 : Int) (M : Mem) : entry P T k lo F.slices_Repeat__uint8_uint8 [.slice A1 n2 c3, .int .i64 x4] M =
 bb (decide (x4 < 0))
 (none)
 (some (slices_Repeat__uint8_uint8.c7 A1 n2 c3 x4 M)) := by kernel_rfl
theorem slices_Repeat__uint8_uint8.p7 (k lo : Nat) (A1 : Option Addr) (n2 : Nat) (c3 : Nat) (x4 : Int) (M : Mem) : piece P T k lo F.slices_Repeat__uint8_uint8 7 [.v (.slice A1 n2 c3), .v (.int .i64 x4)] [] M =
 ob (acall P T k lo F.math_bits_Mul [.int .u64 (IntKind.u64.wrap (n2 : Int)), .int .u64 (IntKind.u64.wrap x4)] M) fun r10 =>
 ob (r10.1.tup? 2) fun l11 =>
 ob ((l11[0]?).bind (Value.int? .u64)) fun x12 =>
 ob ((l11[1]?).bind (Value.int? .u64)) fun x13 =>
 bb (decide (x12 > 0))
 (none)
 (bb (decide (x13 > 9223372036854775807))
 (none)
 (some (slices_Repeat__uint8_uint8.c31 A1 n2 c3 x13 r10.2))) := by kernel_rfl
theorem slices_Repeat__uint8_uint8.p31 (k lo : Nat) (A1 : Option Addr) (n2 : Nat) (c3 : Nat) (x4 : Int) (M : Mem) : piece P T k lo F.slices_Repeat__uint8_uint8 31 [.v (.slice A1 n2 c3), .v (.int .u64 x4)] [] M =
 pb (0 ≤ IntKind.i64.wrap x4 ∧ room ((IntKind.i64.wrap x4).toNat) 1)
 (ob (Mem.src (M ++ [⟨.fx, zerosL [.int .u8 0] ((IntKind.i64.wrap x4).toNat)⟩] : Mem) A1 (Nat.min n2 ((IntKind.i64.wrap x4).toNat)) (Nat.min n2 ((IntKind.i64.wrap x4).toNat))) fun l14 =>
 pb (Nat.min n2 ((IntKind.i64.wrap x4).toNat) = 0) (some (slices_Repeat__uint8_uint8.c1016 (some ⟨M.length, 0, none⟩) ((IntKind.i64.wrap x4).toNat) ((IntKind.i64.wrap x4).toNat) 0 (M ++ [⟨.fx, zerosL [.int .u8 0] ((IntKind.i64.wrap x4).toNat)⟩] : Mem)))
 (ob ((M ++ [⟨.fx, zerosL [.int .u8 0] ((IntKind.i64.wrap x4).toNat)⟩] : Mem).st lo ⟨M.length, 0, none⟩ l14) fun M15 =>
 some (slices_Repeat__uint8_uint8.c1016 (some ⟨M.length, 0, none⟩) ((IntKind.i64.wrap x4).toNat) ((IntKind.i64.wrap x4).toNat) ((Nat.min n2 ((IntKind.i64.wrap x4).toNat) : Nat) : Int) M15))) none := by kernel_rfl
theorem slices_Repeat__uint8_uint8.p1016 (k lo : Nat) (A1 : Option Addr) (n2 : Nat) (c3 : Nat) (x4 : Int) (M : Mem) : piece P T k lo F.slices_Repeat__uint8_uint8 1016 [.v (.slice A1 n2 c3), .v (.int .i64 x4)] [] M =
 bb (decide (x4 < (n2 : Int)))
 (pb (0 ≤ x4 ∧ x4 ≤ (n2 : Int))
 (pb (0 ≤ (0 : Int) ∧ (0 : Int) ≤ x4 ∧ x4 ≤ (c3 : Int))
 (ob (Mem.src M (slAddr 1 A1 0 c3) (Nat.min (x4.toNat - 0) (n2 - x4.toNat)) (Nat.min (x4.toNat - 0) (n2 - x4.toNat))) fun l17 =>
 pb (Nat.min (x4.toNat - 0) (n2 - x4.toNat) = 0) (some (slices_Repeat__uint8_uint8.c1016 A1 n2 c3 (IntKind.i64.wrap (x4 + 0)) M))
 (ob (slAddr 1 A1 x4.toNat c3) fun a19 =>
 ob (M.st lo a19 l17) fun M18 =>
 some (slices_Repeat__uint8_uint8.c1016 A1 n2 c3 (IntKind.i64.wrap (x4 + ((Nat.min (x4.toNat - 0) (n2 - x4.toNat) : Nat) : Int))) M18))) none) none)
 (some (.ret (.slice A1 n2 c3) M)) := by kernel_rfl
theorem slices_Equal__uint8_uint8.entry (k lo : Nat) (A1 : Option Addr) (n2 : Nat) (c3 : Nat) (A4 : Option Addr) (n5 : Nat) (c6 : Nat) (M : Mem) : entry P T k lo F.slices_Equal__uint8_uint8 [.slice A1 n2 c3, .slice A4 n5 c6] M =
 bb ((n2 : Int) != (n5 : Int))
 (some (.ret (.bool false) M))
 (some (slices_Equal__uint8_uint8.c116 A1 n2 c3 A4 n5 c6 (n2 : Int) 0 M)) := by kernel_rfl
theorem slices_Equal__uint8_uint8.p116 (k lo : Nat) (A1 : Option Addr) (n2 : Nat) (c3 : Nat) (A4 : Option Addr) (n5 : Nat) (c6 : Nat) (x7 : Int) (x8 : Int) (M : Mem) : piece P T k lo F.slices_Equal__uint8_uint8 116 [.v (.slice A1 n2 c3), .v (.slice A4 n5 c6), .v (.int .i64 x7), .v (.int .i64 x8)] [] M =
 bb (decide (x8 < x7))
 (pb (0 ≤ x8 ∧ x8 < (n2 : Int))
 (ob A1 fun a12 =>
 ob ((M.ld (plus a12 x8.toNat)).bind (Value.int? .u8)) fun x13 =>
 pb (0 ≤ x8 ∧ x8 < (n5 : Int))
 (ob A4 fun a14 =>
 ob ((M.ld (plus a14 x8.toNat)).bind (Value.int? .u8)) fun x15 =>
 bb (x13 != x15)
 (some (.ret (.bool false) M))
 (some (slices_Equal__uint8_uint8.c116 A1 n2 c3 A4 n5 c6 x7 (IntKind.i64.wrap (x8 + 1)) M))) none) none)
 (some (.ret (.bool true) M)) := by kernel_rfl
theorem slices_IndexFunc__api_Unit_api_Unit.entry (k lo : Nat) (A1 : Option Addr) (n2 : Nat) (c3 : Nat) (v4 : Value) (M : Mem) : entry P T k lo F.slices_IndexFunc__api_Unit_api_Unit [.slice A1 n2 c3, v4] M =
 some (slices_IndexFunc__api_Unit_api_Unit.c52 A1 n2 c3 v4 (n2 : Int) 0 M) := by kernel_rfl
theorem slices_IndexFunc__api_Unit_api_Unit.p52 (k lo : Nat) (A1 : Option Addr) (n2 : Nat) (c3 : Nat) (v4 : Value) (x5 : Int) (x6 : Int) (M : Mem) : piece P T k lo F.slices_IndexFunc__api_Unit_api_Unit 52 [.v (.slice A1 n2 c3), .v v4, .v (.int .i64 x5), .v (.int .i64 x6)] [] M =
 bb (decide (x6 < x5))
 (pb (0 ≤ x6 ∧ x6 < (n2 : Int))
 (ob A1 fun a10 =>
 ob ((M.ld (plus a10 (x6.toNat * 7))).bind Value.bool?) fun b11 =>
 ob ((M.ld (plus (plus a10 (x6.toNat * 7)) 1)).bind (Value.int? .i64)) fun x12 =>
 ob ((M.ld (plus (plus a10 (x6.toNat * 7)) 2)).bind (Value.int? .i64)) fun x13 =>
 ob ((M.ld (plus (plus a10 (x6.toNat * 7)) 3)).bind (Value.int? .i64)) fun x14 =>
 ob ((M.ld (plus (plus a10 (x6.toNat * 7)) 4)).bind (Value.int? .i64)) fun x15 =>
 ob ((M.ld (plus (plus a10 (x6.toNat * 7)) 5)).bind (Value.int? .i64)) fun x16 =>
 ob ((M.ld (plus (plus a10 (x6.toNat * 7)) 6)).bind (Value.int? .i64)) fun x17 =>
 ob (Value.fun? v4) fun q19 =>
 ob (acall P T k lo q19.1 (q19.2.1 ++ [.agg ⟨[.bool b11, .int .i64 x12, .int .i64 x13, .int .i64 x14, .int .i64 x15, .int .i64 x16, .int .i64 x17]⟩] ++ q19.2.2) M) fun r18 =>
 ob ((some r18.1).bind Value.bool?) fun b20 =>
 bb b20
 (some (.ret (.int .i64 x6) r18.2))
 (some (slices_IndexFunc__api_Unit_api_Unit.c52 A1 n2 c3 v4 x5 (IntKind.i64.wrap (x6 + 1)) r18.2))) none)
 (some (.ret (.int .i64 (-1)) M)) := by kernel_rfl
theorem zoetroperef00_Clip.entry (k lo : Nat) (x1 : Int) (x2 : Int) (x3 : Int) (M : Mem) : entry P T k lo F.zoetroperef00_Clip [.int .i64 x1, .int .i64 x2, .int .i64 x3] M =
 bb (decide (x1 < x2))
 (some (.ret (.int .i64 x2) M))
 (bb (decide (x1 > x3))
 (some (.ret (.int .i64 x3) M))
 (some (.ret (.int .i64 x1) M))) := by kernel_rfl
theorem zoetroperef24_across.entry (k lo : Nat) (x1 : Int) (x2 : Int) (A3 : Option Addr) (n4 : Nat) (c5 : Nat) (x6 : Int) (x7 : Int) (x8 : Int) (x9 : Int) (x10 : Int) (x11 : Int) (x12 : Int) (x13 : Int) (x14 : Int) (M : Mem) : entry P T k lo F.zoetroperef24_across [.agg ⟨[.int .i64 x1, .int .i64 x2, .slice A3 n4 c5]⟩, .int .i64 x6, .int .i64 x7, .agg ⟨[.int .i64 x8, .int .i64 x9, .int .i64 x10, .int .i64 x11, .int .i64 x12, .int .i64 x13, .int .i64 x14]⟩] M =
 some (zoetroperef24_across.c116 x6 x7 0 0 x1 x2 A3 n4 c5 x8 x9 x10 x11 x12 x13 x14 M) := by kernel_rfl
theorem zoetroperef24_across.p116 (k lo : Nat) (x1 : Int) (x2 : Int) (x3 : Int) (x4 : Int) (x5 : Int) (x6 : Int) (A7 : Option Addr) (n8 : Nat) (c9 : Nat) (x10 : Int) (x11 : Int) (x12 : Int) (x13 : Int) (x14 : Int) (x15 : Int) (x16 : Int) (M : Mem) : piece P T k lo F.zoetroperef24_across 116 [.v (.int .i64 x1), .v (.int .i64 x2), .l 4 0, .l 7 0, .v (.int .i64 x3), .v (.int .i64 x4)] [[.int .i64 x5, .int .i64 x6, .slice A7 n8 c9], [.int .i64 x10, .int .i64 x11, .int .i64 x12, .int .i64 x13, .int .i64 x14, .int .i64 x15, .int .i64 x16]] M =
 bb (decide (x4 < 7))
 (pb (0 ≤ x4 ∧ x4 < (7 : Int))
 (ob ((([.int .i64 x10, .int .i64 x11, .int .i64 x12, .int .i64 x13, .int .i64 x14, .int .i64 x15, .int .i64 x16] : List Value)[0 + x4.toNat + 0]?).bind (Value.int? .i64)) fun x20 =>
 ob (acall P T k M.length F.zoetroperef00_Clip [.int .i64 (IntKind.i64.wrap ((IntKind.i64.wrap (x1 + x4)) - 3)), .int .i64 0, .int .i64 (IntKind.i64.wrap (x5 - 1))] M) fun r21 =>
 ob ((some r21.1).bind (Value.int? .i64)) fun x22 =>
 pb (0 ≤ IntKind.i64.wrap ((IntKind.i64.wrap (x2 * x5)) + x22) ∧ IntKind.i64.wrap ((IntKind.i64.wrap (x2 * x5)) + x22) < (n8 : Int))
 (ob A7 fun a23 =>
 ob ((r21.2.ld (plus a23 ((IntKind.i64.wrap ((IntKind.i64.wrap (x2 * x5)) + x22)).toNat))).bind (Value.int? .u8)) fun x24 =>
 some (zoetroperef24_across.c116 x1 x2 (IntKind.i64.wrap (x3 + (IntKind.i64.wrap (x20 * (IntKind.i64.wrap x24))))) (IntKind.i64.wrap (x4 + 1)) x5 x6 A7 n8 c9 x10 x11 x12 x13 x14 x15 x16 r21.2)) none) none)
 (ob (acall P T k lo F.zoetroperef24_round [.int .i64 x3, .int .i64 3] M) fun r25 =>
 ob ((some r25.1).bind (Value.int? .i64)) fun x26 =>
 ob (acall P T k lo F.zoetroperef00_Clip [.int .i64 x26, .int .i64 (-4096), .int .i64 8191] r25.2) fun r27 =>
 ob ((some r27.1).bind (Value.int? .i64)) fun x28 =>
 some (.ret (.int .i64 x28) r27.2)) := by kernel_rfl
theorem zoetroperef24_round.entry (k lo : Nat) (x1 : Int) (x2 : Int) (M : Mem) : entry P T k lo F.zoetroperef24_round [.int .i64 x1, .int .i64 x2] M =
 pb (IntKind.i64.wrap (x2 - 1) < 0) none
 (pb (x2 < 0) none
 (some (.ret (.int .i64 (shrI .i64 (IntKind.i64.wrap (x1 + (shlI .i64 (1 : Int) ((IntKind.i64.wrap (x2 - 1)).toNat)))) x2.toNat)) M))) := by kernel_rfl
theorem math_bits_Mul.entry (k lo : Nat) (x1 : Int) (x2 : Int) (M : Mem) : entry P T k lo F.math_bits_Mul [.int .u64 x1, .int .u64 x2] M =
 ob (acall P T k lo F.math_bits_Mul64 [.int .u64 x1, .int .u64 x2] M) fun r8 =>
 ob (r8.1.tup? 2) fun l9 =>
 ob ((l9[0]?).bind (Value.int? .u64)) fun x10 =>
 ob ((l9[1]?).bind (Value.int? .u64)) fun x11 =>
 some (.ret (.tuple ⟨[.int .u64 x10, .int .u64 x11]⟩) r8.2) := by kernel_rfl
theorem math_bits_Mul32.entry (k lo : Nat) (x1 : Int) (x2 : Int) (M : Mem) : entry P T k lo F.math_bits_Mul32 [.int .u32 x1, .int .u32 x2] M =
 some (.ret (.tuple ⟨[.int .u32 (IntKind.u32.wrap (shrI .u64 (IntKind.u64.wrap ((IntKind.u64.wrap x1) * (IntKind.u64.wrap x2))) 32)), .int .u32 (IntKind.u32.wrap (IntKind.u64.wrap ((IntKind.u64.wrap x1) * (IntKind.u64.wrap x2))))]⟩) M) := by kernel_rfl
theorem math_bits_Mul64.entry (k lo : Nat) (x1 : Int) (x2 : Int) (M : Mem) : entry P T k lo F.math_bits_Mul64 [.int .u64 x1, .int .u64 x2] M =
 some (.ret (.tuple ⟨[.int .u64 (IntKind.u64.wrap ((IntKind.u64.wrap ((IntKind.u64.wrap ((shrI .u64 x1 32) * (shrI .u64 x2 32))) + (shrI .u64 (IntKind.u64.wrap ((IntKind.u64.wrap ((shrI .u64 x1 32) * (andI .u64 x2 4294967295))) + (shrI .u64 (IntKind.u64.wrap ((andI .u64 x1 4294967295) * (andI .u64 x2 4294967295))) 32))) 32))) + (shrI .u64 (IntKind.u64.wrap ((andI .u64 (IntKind.u64.wrap ((IntKind.u64.wrap ((shrI .u64 x1 32) * (andI .u64 x2 4294967295))) + (shrI .u64 (IntKind.u64.wrap ((andI .u64 x1 4294967295) * (andI .u64 x2 4294967295))) 32))) 4294967295) + (IntKind.u64.wrap ((andI .u64 x1 4294967295) * (shrI .u64 x2 32))))) 32))), .int .u64 (IntKind.u64.wrap (x1 * x2))]⟩) M) := by kernel_rfl
end Go.Zt
