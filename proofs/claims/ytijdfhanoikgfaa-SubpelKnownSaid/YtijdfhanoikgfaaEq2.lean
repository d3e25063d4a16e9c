/- What functions come to, from cut to cut. -/
import Derived.Test.YtijdfhanoikgfaaEq0
import Derived.KernelRfl
set_option maxRecDepth 100000
set_option maxHeartbeats 4000000
set_option linter.unusedVariables false
namespace Go.Zt
theorem zoetropelaw14_works.entry (k lo : Nat) (M : Mem) : entry P T k lo F.zoetropelaw14_works [] M =
 ob (acall P T k lo F.subpel_Taps [.int .i64 0, .int .i64 15] M) fun r6 =>
 ob (r6.1.tup? 2) fun l7 =>
 ob ((l7[0]?).bind (Value.agg? 8)) fun l8 =>
 ob ((l8[0]?).bind (Value.int? .i64)) fun x9 =>
 ob ((l8[1]?).bind (Value.int? .i64)) fun x10 =>
 ob ((l8[2]?).bind (Value.int? .i64)) fun x11 =>
 ob ((l8[3]?).bind (Value.int? .i64)) fun x12 =>
 ob ((l8[4]?).bind (Value.int? .i64)) fun x13 =>
 ob ((l8[5]?).bind (Value.int? .i64)) fun x14 =>
 ob ((l8[6]?).bind (Value.int? .i64)) fun x15 =>
 ob ((l8[7]?).bind (Value.int? .i64)) fun x16 =>
 ob ((l7[1]?).bind (Value.int? .i64)) fun x17 =>
 bb (x17 == 0)
 (ob (Program.keyLits P 9 22 [.int .i64 x9, .int .i64 x10, .int .i64 x11, .int .i64 x12, .int .i64 x13, .int .i64 x14, .int .i64 x15, .int .i64 x16]) fun q18 => ob (Program.keyLits P 9 22 [.int .i64 0, .int .i64 0, .int .i64 (-2), .int .i64 8, .int .i64 126, .int .i64 (-6), .int .i64 2, .int .i64 0]) fun q19 =>
 bb (sameLits q18 q19)
 (ob (acall P T k lo F.zoetropelaw14_row [.int .i64 16, .int .i64 99, .int .i64 1] r6.2) fun r20 =>
 ob ((some r20.1).bind Value.slc?) fun s21 =>
 ob (acall P T k lo F.zoetroperef00_EqBytes [.slice s21.a s21.n s21.c, .slice (some ⟨r20.2.length, 0, none⟩) 4 4] (r20.2 ++ [⟨.fx, [.int .u8 100, .int .u8 100, .int .u8 0, .int .u8 0]⟩] : Mem)) fun r22 =>
 ob ((some r22.1).bind Value.bool?) fun b23 =>
 bb b23
 (ob (acall P T k lo F.zoetropelaw14_row [.int .i64 8, .int .i64 0, .int .i64 2] r22.2) fun r24 =>
 ob ((some r24.1).bind Value.slc?) fun s25 =>
 ob (acall P T k lo F.zoetroperef00_EqBytes [.slice s25.a s25.n s25.c, .slice (some ⟨r24.2.length, 0, none⟩) 4 4] (r24.2 ++ [⟨.fx, [.int .u8 50, .int .u8 100, .int .u8 50, .int .u8 0]⟩] : Mem)) fun r26 =>
 ob ((some r26.1).bind Value.bool?) fun b27 =>
 some (.ret (.bool b27) r26.2))
 (some (.ret (.bool false) r22.2)))
 (some (.ret (.bool false) r6.2)))
 (some (.ret (.bool false) r6.2)) := by kernel_rfl
theorem zoetroperef05_CopyPlane.entry (k lo : Nat) (x1 : Int) (x2 : Int) (A3 : Option Addr) (n4 : Nat) (c5 : Nat) (M : Mem) : entry P T k lo F.zoetroperef05_CopyPlane [.agg ⟨[.int .i64 x1, .int .i64 x2, .slice A3 n4 c5]⟩] M =
 ob (acall P T k M.length F.zoetroperef00_CopyBytes [.slice A3 n4 c5] M) fun r11 =>
 ob ((some r11.1).bind Value.slc?) fun s12 =>
 some (.ret (.agg ⟨[.int .i64 x1, .int .i64 x2, .slice s12.a s12.n s12.c]⟩) r11.2) := by kernel_rfl
theorem subpel_Fetch.entry (k lo : Nat) (x1 : Int) (x2 : Int) (A3 : Option Addr) (n4 : Nat) (c5 : Nat) (x6 : Int) (x7 : Int) (x8 : Int) (x9 : Int) (x10 : Int) (M : Mem) : entry P T k lo F.subpel_Fetch [.agg ⟨[.int .i64 x1, .int .i64 x2, .slice A3 n4 c5]⟩, .int .i64 x6, .int .i64 x7, .int .i64 x8, .int .i64 x9, .int .i64 x10] M =
 ob (((M ++ [⟨.fx, [.int .i64 x1, .int .i64 x2, .slice A3 n4 c5]⟩] : Mem).ld ⟨M.length, 0, none⟩).bind (Value.int? .i64)) fun x16 =>
 ob (((M ++ [⟨.fx, [.int .i64 x1, .int .i64 x2, .slice A3 n4 c5]⟩] : Mem).ld (plus ⟨M.length, 0, none⟩ 1)).bind (Value.int? .i64)) fun x17 =>
 ob (((M ++ [⟨.fx, [.int .i64 x1, .int .i64 x2, .slice A3 n4 c5]⟩] : Mem).ld (plus ⟨M.length, 0, none⟩ 2)).bind Value.slc?) fun s18 =>
 ob (acall P T k lo F.plane_Check [.agg ⟨[.int .i64 x16, .int .i64 x17, .slice s18.a s18.n s18.c]⟩] (M ++ [⟨.fx, [.int .i64 x1, .int .i64 x2, .slice A3 n4 c5]⟩] : Mem)) fun r19 =>
 ob ((some r19.1).bind (Value.int? .i64)) fun x20 =>
 bb (x20 != 0)
 (some (.ret (.tuple ⟨[.slice none 0 0, .int .i64 2]⟩) r19.2))
 (bb (decide ((minI x6 x7) < (-1048576)))
 (some (.ret (.tuple ⟨[.slice none 0 0, .int .i64 2]⟩) r19.2))
 (bb (decide ((maxI x6 x7) > 1048576))
 (some (.ret (.tuple ⟨[.slice none 0 0, .int .i64 2]⟩) r19.2))
 (bb (decide ((minI x8 x9) < 4))
 (some (.ret (.tuple ⟨[.slice none 0 0, .int .i64 2]⟩) r19.2))
 (bb (decide ((maxI x8 x9) > 64))
 (some (.ret (.tuple ⟨[.slice none 0 0, .int .i64 2]⟩) r19.2))
 (ob (acall P T k lo F.subpel_Taps [.int .i64 x10, .int .i64 (andI .i64 x6 15)] r19.2) fun r21 =>
 ob (r21.1.tup? 2) fun l22 =>
 ob ((l22[0]?).bind (Value.agg? 8)) fun l23 =>
 ob ((l23[0]?).bind (Value.int? .i64)) fun x24 =>
 ob ((l23[1]?).bind (Value.int? .i64)) fun x25 =>
 ob ((l23[2]?).bind (Value.int? .i64)) fun x26 =>
 ob ((l23[3]?).bind (Value.int? .i64)) fun x27 =>
 ob ((l23[4]?).bind (Value.int? .i64)) fun x28 =>
 ob ((l23[5]?).bind (Value.int? .i64)) fun x29 =>
 ob ((l23[6]?).bind (Value.int? .i64)) fun x30 =>
 ob ((l23[7]?).bind (Value.int? .i64)) fun x31 =>
 ob ((l22[1]?).bind (Value.int? .i64)) fun x32 =>
 ob (acall P T k lo F.subpel_Taps [.int .i64 x10, .int .i64 (andI .i64 x7 15)] r21.2) fun r33 =>
 ob (r33.1.tup? 2) fun l34 =>
 ob ((l34[0]?).bind (Value.agg? 8)) fun l35 =>
 ob ((l35[0]?).bind (Value.int? .i64)) fun x36 =>
 ob ((l35[1]?).bind (Value.int? .i64)) fun x37 =>
 ob ((l35[2]?).bind (Value.int? .i64)) fun x38 =>
 ob ((l35[3]?).bind (Value.int? .i64)) fun x39 =>
 ob ((l35[4]?).bind (Value.int? .i64)) fun x40 =>
 ob ((l35[5]?).bind (Value.int? .i64)) fun x41 =>
 ob ((l35[6]?).bind (Value.int? .i64)) fun x42 =>
 ob ((l35[7]?).bind (Value.int? .i64)) fun x43 =>
 ob ((l34[1]?).bind (Value.int? .i64)) fun x44 =>
 bb (x32 != 0)
 (some (.ret (.tuple ⟨[.slice none 0 0, .int .i64 2]⟩) r33.2))
 (bb (x44 != 0)
 (some (.ret (.tuple ⟨[.slice none 0 0, .int .i64 2]⟩) r33.2))
 (ob (acall P T k r33.2.length F.subpel_sum [.agg ⟨[.int .i64 x24, .int .i64 x25, .int .i64 x26, .int .i64 x27, .int .i64 x28, .int .i64 x29, .int .i64 x30, .int .i64 x31]⟩, .int .i64 3] r33.2) fun r45 =>
 ob ((some r45.1).bind Value.one?) fun v46 =>
 ob (acall P T k r33.2.length F.subpel_sum [.agg ⟨[.int .i64 x36, .int .i64 x37, .int .i64 x38, .int .i64 x39, .int .i64 x40, .int .i64 x41, .int .i64 x42, .int .i64 x43]⟩, .int .i64 11] r45.2) fun r47 =>
 ob ((some r47.1).bind Value.one?) fun v48 =>
 pb (0 ≤ IntKind.i64.wrap ((IntKind.i64.wrap (x9 + 8)) - 1) ∧ room ((IntKind.i64.wrap ((IntKind.i64.wrap (x9 + 8)) - 1)).toNat) 24)
 (ob (((r47.2 ++ [⟨.fx, zerosL [.slice none 0 0] ((IntKind.i64.wrap ((IntKind.i64.wrap (x9 + 8)) - 1)).toNat)⟩] : Mem) ++ [⟨.fx, [.slice none 0 0]⟩] : Mem).st lo ⟨(r47.2 ++ [⟨.fx, zerosL [.slice none 0 0] ((IntKind.i64.wrap ((IntKind.i64.wrap (x9 + 8)) - 1)).toNat)⟩] : Mem).length, 0, none⟩ [.slice (some ⟨r47.2.length, 0, none⟩) ((IntKind.i64.wrap ((IntKind.i64.wrap (x9 + 8)) - 1)).toNat) ((IntKind.i64.wrap ((IntKind.i64.wrap (x9 + 8)) - 1)).toNat)]) fun M49 =>
 ob ((M49.ld ⟨(r47.2 ++ [⟨.fx, zerosL [.slice none 0 0] ((IntKind.i64.wrap ((IntKind.i64.wrap (x9 + 8)) - 1)).toNat)⟩] : Mem).length, 0, none⟩).bind Value.slc?) fun s50 =>
 some (subpel_Fetch.c4084 x6 x7 x8 x9 ⟨M.length, 0, none⟩ v46 v48 ⟨(r47.2 ++ [⟨.fx, zerosL [.slice none 0 0] ((IntKind.i64.wrap ((IntKind.i64.wrap (x9 + 8)) - 1)).toNat)⟩] : Mem).length, 0, none⟩ (s50.n : Int) 0 M49)) none))))))) := by kernel_rfl
theorem subpel_Fetch.p4084 (k lo : Nat) (x1 : Int) (x2 : Int) (x3 : Int) (x4 : Int) (a5 : Addr) (v6 : Value) (v7 : Value) (a8 : Addr) (x9 : Int) (x10 : Int) (M : Mem) : piece P T k lo F.subpel_Fetch 4084 [.v (.int .i64 x1), .v (.int .i64 x2), .v (.int .i64 x3), .v (.int .i64 x4), .v (.pointer (some a5)), .v v6, .v v7, .v (.pointer (some a8)), .v (.int .i64 x9), .v (.int .i64 x10)] [] M =
 bb (decide (x10 < x9))
 (ob ((if ((plus a5 2).block) < M.length then M.ld (plus a5 2) else none).bind Value.slc?) fun s51 =>
 ob ((if ((plus a5 1).block) < M.length then M.ld (plus a5 1) else none).bind (Value.int? .i64)) fun x52 =>
 ob ((if a5.block < M.length then M.ld a5 else none).bind (Value.int? .i64)) fun x53 =>
 pb (0 ≤ IntKind.i64.wrap ((minI (maxI (IntKind.i64.wrap ((IntKind.i64.wrap ((shrI .i64 x2 4) + x10)) - 3)) 0) (IntKind.i64.wrap (x52 - 1))) * x53) ∧ IntKind.i64.wrap ((minI (maxI (IntKind.i64.wrap ((IntKind.i64.wrap ((shrI .i64 x2 4) + x10)) - 3)) 0) (IntKind.i64.wrap (x52 - 1))) * x53) ≤ (s51.n : Int))
 (ob ((if a5.block < M.length then M.ld a5 else none).bind (Value.int? .i64)) fun x54 =>
 pb (0 ≤ (0 : Int) ∧ (0 : Int) ≤ x54 ∧ x54 ≤ ((s51.c - ((IntKind.i64.wrap ((minI (maxI (IntKind.i64.wrap ((IntKind.i64.wrap ((shrI .i64 x2 4) + x10)) - 3)) 0) (IntKind.i64.wrap (x52 - 1))) * x53)).toNat) : Nat) : Int))
 (ob ((M ++ [⟨.fx, [.slice none 0 0]⟩] : Mem).st lo ⟨M.length, 0, none⟩ [.slice (slAddr 1 (slAddr 1 s51.a ((IntKind.i64.wrap ((minI (maxI (IntKind.i64.wrap ((IntKind.i64.wrap ((shrI .i64 x2 4) + x10)) - 3)) 0) (IntKind.i64.wrap (x52 - 1))) * x53)).toNat) s51.c) 0 (s51.c - ((IntKind.i64.wrap ((minI (maxI (IntKind.i64.wrap ((IntKind.i64.wrap ((shrI .i64 x2 4) + x10)) - 3)) 0) (IntKind.i64.wrap (x52 - 1))) * x53)).toNat))) (x54.toNat - 0) ((s51.c - ((IntKind.i64.wrap ((minI (maxI (IntKind.i64.wrap ((IntKind.i64.wrap ((shrI .i64 x2 4) + x10)) - 3)) 0) (IntKind.i64.wrap (x52 - 1))) * x53)).toNat)) - 0)]) fun M55 =>
 ob ((if a8.block < M55.length then M55.ld a8 else none).bind Value.slc?) fun s56 =>
 pb (0 ≤ x3 ∧ room x3.toNat 8)
 (pb (0 ≤ x10 ∧ x10 < (s56.n : Int))
 (ob s56.a fun a57 =>
 ob ((M55 ++ [⟨.fx, zerosL [.int .i64 0] x3.toNat⟩] : Mem).st lo (plus a57 x10.toNat) [.slice (some ⟨M55.length, 0, none⟩) x3.toNat x3.toNat]) fun M58 =>
 ob ((M58.ld a8).bind Value.slc?) fun s59 =>
 pb (0 ≤ x10 ∧ x10 < (s59.n : Int))
 (ob s59.a fun a60 =>
 ob ((M58.ld (plus a60 x10.toNat)).bind Value.slc?) fun s61 =>
 some (subpel_Fetch.c4182844 x1 x2 x3 x4 a5 v6 v7 a8 x10 ⟨M.length, 0, none⟩ x9 x10 (s61.n : Int) 0 M58)) none) none) none) none) none)
 (pb (0 ≤ IntKind.i64.wrap (x3 * x4) ∧ room ((IntKind.i64.wrap (x3 * x4)).toNat) 1)
 (some (subpel_Fetch.c16372 x3 v7 a8 (some ⟨M.length, 0, some 0⟩) 0 0 x4 0 (M ++ [⟨.op 1, []⟩] : Mem))) none) := by kernel_rfl
theorem subpel_Fetch.p16372 (k lo : Nat) (x1 : Int) (v2 : Value) (a3 : Addr) (A4 : Option Addr) (n5 : Nat) (c6 : Nat) (x7 : Int) (x8 : Int) (M : Mem) : piece P T k lo F.subpel_Fetch 16372 [.v (.int .i64 x1), .v v2, .v (.pointer (some a3)), .v (.slice A4 n5 c6), .v (.int .i64 x7), .v (.int .i64 x8)] [] M =
 bb (decide (x8 < x7))
 (ob ((M ++ [⟨.fx, [.int .i64 0]⟩] : Mem).st lo ⟨M.length, 0, none⟩ [.int .i64 x8]) fun M62 =>
 some (subpel_Fetch.c4191436 x1 v2 a3 A4 n5 c6 ⟨M.length, 0, none⟩ x7 x8 x1 0 M62))
 (some (.ret (.tuple ⟨[.slice A4 n5 c6, .int .i64 0]⟩) M)) := by kernel_rfl
theorem subpel_Fetch.p4182844 (k lo : Nat) (x1 : Int) (x2 : Int) (x3 : Int) (x4 : Int) (a5 : Addr) (v6 : Value) (v7 : Value) (a8 : Addr) (x9 : Int) (a10 : Addr) (x11 : Int) (x12 : Int) (x13 : Int) (x14 : Int) (M : Mem) : piece P T k lo F.subpel_Fetch 4182844 [.v (.int .i64 x1), .v (.int .i64 x2), .v (.int .i64 x3), .v (.int .i64 x4), .v (.pointer (some a5)), .v v6, .v v7, .v (.pointer (some a8)), .v (.int .i64 x9), .v (.pointer (some a10)), .v (.int .i64 x11), .v (.int .i64 x12), .v (.int .i64 x13), .v (.int .i64 x14)] [] M =
 bb (decide (x14 < x13))
 (ob ((M ++ [⟨.fx, [.int .i64 0]⟩] : Mem).st lo ⟨M.length, 0, none⟩ [.int .i64 (IntKind.i64.wrap ((IntKind.i64.wrap ((shrI .i64 x1 4) + x14)) - 3))]) fun M63 =>
 ob ((if a8.block < M63.length then M63.ld a8 else none).bind Value.slc?) fun s64 =>
 pb (0 ≤ x9 ∧ x9 < (s64.n : Int))
 (ob s64.a fun a65 =>
 ob ((if ((plus a65 x9.toNat).block) < M63.length then M63.ld (plus a65 x9.toNat) else none).bind Value.slc?) fun s66 =>
 ob (Value.fun? v6) fun q68 =>
 ob (acall P T k M63.length q68.1 (q68.2.1 ++ [.func (.func F.subpel_Fetch_1) ⟨[]⟩ ⟨[.pointer (some a10), .pointer (some ⟨M.length, 0, none⟩), .pointer (some a5)]⟩] ++ q68.2.2) M63) fun r67 =>
 ob ((some r67.1).bind (Value.int? .i64)) fun x69 =>
 pb (0 ≤ x14 ∧ x14 < (s66.n : Int))
 (ob s66.a fun a70 =>
 ob (r67.2.st lo (plus a70 x14.toNat) [.int .i64 x69]) fun M71 =>
 some (subpel_Fetch.c4182844 x1 x2 x3 x4 a5 v6 v7 a8 x9 a10 x11 x12 x13 (IntKind.i64.wrap (x14 + 1)) M71)) none) none)
 (some (subpel_Fetch.c4084 x1 x2 x3 x4 a5 v6 v7 a8 x11 (IntKind.i64.wrap (x12 + 1)) M)) := by kernel_rfl
theorem subpel_Fetch.p4191436 (k lo : Nat) (x1 : Int) (v2 : Value) (a3 : Addr) (A4 : Option Addr) (n5 : Nat) (c6 : Nat) (a7 : Addr) (x8 : Int) (x9 : Int) (x10 : Int) (x11 : Int) (M : Mem) : piece P T k lo F.subpel_Fetch 4191436 [.v (.int .i64 x1), .v v2, .v (.pointer (some a3)), .v (.slice A4 n5 c6), .v (.pointer (some a7)), .v (.int .i64 x8), .v (.int .i64 x9), .v (.int .i64 x10), .v (.int .i64 x11)] [] M =
 bb (decide (x11 < x10))
 (ob ((M ++ [⟨.fx, [.int .i64 0]⟩] : Mem).st lo ⟨M.length, 0, none⟩ [.int .i64 x11]) fun M72 =>
 ob (Value.fun? v2) fun q74 =>
 ob (acall P T k lo q74.1 (q74.2.1 ++ [.func (.func F.subpel_Fetch_2) ⟨[]⟩ ⟨[.pointer (some a3), .pointer (some a7), .pointer (some ⟨M.length, 0, none⟩)]⟩] ++ q74.2.2) M72) fun r73 =>
 ob ((some r73.1).bind (Value.int? .i64)) fun x75 =>
 ob (r73.2.app lo 1 1 ⟨A4, n5, c6⟩ ([.int .u8 (IntKind.u8.wrap (minI (maxI x75 0) 255))]) 1) fun r76 =>
 some (subpel_Fetch.c4191436 x1 v2 a3 r76.1.a r76.1.n r76.1.c a7 x8 x9 x10 (IntKind.i64.wrap (x11 + 1)) r76.2))
 (some (subpel_Fetch.c16372 x1 v2 a3 A4 n5 c6 x8 (IntKind.i64.wrap (x9 + 1)) M)) := by kernel_rfl
theorem zoetroperef14_Fetch.entry (k lo : Nat) (x1 : Int) (x2 : Int) (A3 : Option Addr) (n4 : Nat) (c5 : Nat) (x6 : Int) (x7 : Int) (x8 : Int) (x9 : Int) (x10 : Int) (M : Mem) : entry P T k lo F.zoetroperef14_Fetch [.agg ⟨[.int .i64 x1, .int .i64 x2, .slice A3 n4 c5]⟩, .int .i64 x6, .int .i64 x7, .int .i64 x8, .int .i64 x9, .int .i64 x10] M =
 ob (acall P T k lo F.zoetroperef05_Check [.agg ⟨[.int .i64 x1, .int .i64 x2, .slice A3 n4 c5]⟩] M) fun r16 =>
 ob ((some r16.1).bind (Value.int? .i64)) fun x17 =>
 bb (x17 != 0)
 (some (.ret (.tuple ⟨[.slice none 0 0, .int .i64 2]⟩) r16.2))
 (bb (decide (x6 < (-1048576)))
 (some (.ret (.tuple ⟨[.slice none 0 0, .int .i64 2]⟩) r16.2))
 (bb (decide (x6 > 1048576))
 (some (.ret (.tuple ⟨[.slice none 0 0, .int .i64 2]⟩) r16.2))
 (bb (decide (x7 < (-1048576)))
 (some (.ret (.tuple ⟨[.slice none 0 0, .int .i64 2]⟩) r16.2))
 (bb (decide (x7 > 1048576))
 (some (.ret (.tuple ⟨[.slice none 0 0, .int .i64 2]⟩) r16.2))
 (bb (decide (x8 < 4))
 (some (.ret (.tuple ⟨[.slice none 0 0, .int .i64 2]⟩) r16.2))
 (bb (decide (x8 > 64))
 (some (.ret (.tuple ⟨[.slice none 0 0, .int .i64 2]⟩) r16.2))
 (bb (decide (x9 < 4))
 (some (.ret (.tuple ⟨[.slice none 0 0, .int .i64 2]⟩) r16.2))
 (bb (decide (x9 > 64))
 (some (.ret (.tuple ⟨[.slice none 0 0, .int .i64 2]⟩) r16.2))
 (bb (decide (x10 < 0))
 (some (.ret (.tuple ⟨[.slice none 0 0, .int .i64 2]⟩) r16.2))
 (bb (decide (x10 > 2))
 (some (.ret (.tuple ⟨[.slice none 0 0, .int .i64 2]⟩) r16.2))
 (ob (acall P T k lo F.zoetroperef14_Taps [.int .i64 x10, .int .i64 (andI .i64 x6 15)] r16.2) fun r18 =>
 ob (r18.1.tup? 2) fun l19 =>
 ob ((l19[0]?).bind (Value.agg? 8)) fun l20 =>
 ob ((l20[0]?).bind (Value.int? .i64)) fun x21 =>
 ob ((l20[1]?).bind (Value.int? .i64)) fun x22 =>
 ob ((l20[2]?).bind (Value.int? .i64)) fun x23 =>
 ob ((l20[3]?).bind (Value.int? .i64)) fun x24 =>
 ob ((l20[4]?).bind (Value.int? .i64)) fun x25 =>
 ob ((l20[5]?).bind (Value.int? .i64)) fun x26 =>
 ob ((l20[6]?).bind (Value.int? .i64)) fun x27 =>
 ob ((l20[7]?).bind (Value.int? .i64)) fun x28 =>
 ob ((l19[1]?).bind (Value.int? .i64)) fun x29 =>
 ob (acall P T k lo F.zoetroperef14_Taps [.int .i64 x10, .int .i64 (andI .i64 x7 15)] r18.2) fun r30 =>
 ob (r30.1.tup? 2) fun l31 =>
 ob ((l31[0]?).bind (Value.agg? 8)) fun l32 =>
 ob ((l32[0]?).bind (Value.int? .i64)) fun x33 =>
 ob ((l32[1]?).bind (Value.int? .i64)) fun x34 =>
 ob ((l32[2]?).bind (Value.int? .i64)) fun x35 =>
 ob ((l32[3]?).bind (Value.int? .i64)) fun x36 =>
 ob ((l32[4]?).bind (Value.int? .i64)) fun x37 =>
 ob ((l32[5]?).bind (Value.int? .i64)) fun x38 =>
 ob ((l32[6]?).bind (Value.int? .i64)) fun x39 =>
 ob ((l32[7]?).bind (Value.int? .i64)) fun x40 =>
 ob ((l31[1]?).bind (Value.int? .i64)) fun x41 =>
 pb (0 ≤ IntKind.i64.wrap (x8 * (IntKind.i64.wrap (x9 + 7))) ∧ room ((IntKind.i64.wrap (x8 * (IntKind.i64.wrap (x9 + 7)))).toNat) 8)
 (some (zoetroperef14_Fetch.c1012 x6 x7 x8 x9 (some ⟨r30.2.length, 0, none⟩) ((IntKind.i64.wrap (x8 * (IntKind.i64.wrap (x9 + 7)))).toNat) ((IntKind.i64.wrap (x8 * (IntKind.i64.wrap (x9 + 7)))).toNat) 0 x1 x2 A3 n4 c5 x21 x22 x23 x24 x25 x26 x27 x28 x33 x34 x35 x36 x37 x38 x39 x40 (r30.2 ++ [⟨.fx, zerosL [.int .i64 0] ((IntKind.i64.wrap (x8 * (IntKind.i64.wrap (x9 + 7)))).toNat)⟩] : Mem))) none))))))))))) := by kernel_rfl
theorem zoetroperef14_Fetch.p1012 (k lo : Nat) (x1 : Int) (x2 : Int) (x3 : Int) (x4 : Int) (A5 : Option Addr) (n6 : Nat) (c7 : Nat) (x8 : Int) (x9 : Int) (x10 : Int) (A11 : Option Addr) (n12 : Nat) (c13 : Nat) (x14 : Int) (x15 : Int) (x16 : Int) (x17 : Int) (x18 : Int) (x19 : Int) (x20 : Int) (x21 : Int) (x22 : Int) (x23 : Int) (x24 : Int) (x25 : Int) (x26 : Int) (x27 : Int) (x28 : Int) (x29 : Int) (M : Mem) : piece P T k lo F.zoetroperef14_Fetch 1012 [.v (.int .i64 x1), .v (.int .i64 x2), .v (.int .i64 x3), .v (.int .i64 x4), .l 6 0, .l 14 0, .l 16 0, .v (.slice A5 n6 c7), .v (.int .i64 x8)] [[.int .i64 x9, .int .i64 x10, .slice A11 n12 c13], [.int .i64 x14, .int .i64 x15, .int .i64 x16, .int .i64 x17, .int .i64 x18, .int .i64 x19, .int .i64 x20, .int .i64 x21], [.int .i64 x22, .int .i64 x23, .int .i64 x24, .int .i64 x25, .int .i64 x26, .int .i64 x27, .int .i64 x28, .int .i64 x29]] M =
 bb (decide (x8 < IntKind.i64.wrap (x4 + 7)))
 (ob (acall P T k M.length F.zoetroperef00_Clip [.int .i64 (IntKind.i64.wrap ((IntKind.i64.wrap ((shrI .i64 x2 4) + x8)) - 3)), .int .i64 0, .int .i64 (IntKind.i64.wrap (x10 - 1))] M) fun r42 =>
 ob ((some r42.1).bind (Value.int? .i64)) fun x43 =>
 some (zoetroperef14_Fetch.c129612 x1 x2 x3 x4 A5 n6 c7 x8 (IntKind.i64.wrap (x43 * x9)) 0 x9 x10 A11 n12 c13 x14 x15 x16 x17 x18 x19 x20 x21 x22 x23 x24 x25 x26 x27 x28 x29 r42.2))
 (some (zoetroperef14_Fetch.c4084 x3 x4 A5 n6 c7 none 0 0 0 x22 x23 x24 x25 x26 x27 x28 x29 M)) := by kernel_rfl
theorem zoetroperef14_Fetch.p4084 (k lo : Nat) (x1 : Int) (x2 : Int) (A3 : Option Addr) (n4 : Nat) (c5 : Nat) (A6 : Option Addr) (n7 : Nat) (c8 : Nat) (x9 : Int) (x10 : Int) (x11 : Int) (x12 : Int) (x13 : Int) (x14 : Int) (x15 : Int) (x16 : Int) (x17 : Int) (M : Mem) : piece P T k lo F.zoetroperef14_Fetch 4084 [.v (.int .i64 x1), .v (.int .i64 x2), .l 16 0, .v (.slice A3 n4 c5), .v (.slice A6 n7 c8), .v (.int .i64 x9)] [[.int .i64 x10, .int .i64 x11, .int .i64 x12, .int .i64 x13, .int .i64 x14, .int .i64 x15, .int .i64 x16, .int .i64 x17]] M =
 bb (decide (x9 < IntKind.i64.wrap (x1 * x2)))
 (some (zoetroperef14_Fetch.c1045652 x1 x2 A3 n4 c5 A6 n7 c8 x9 1024 0 x10 x11 x12 x13 x14 x15 x16 x17 M))
 (some (.ret (.tuple ⟨[.slice A6 n7 c8, .int .i64 0]⟩) M)) := by kernel_rfl
theorem zoetroperef14_Fetch.p129612 (k lo : Nat) (x1 : Int) (x2 : Int) (x3 : Int) (x4 : Int) (A5 : Option Addr) (n6 : Nat) (c7 : Nat) (x8 : Int) (x9 : Int) (x10 : Int) (x11 : Int) (x12 : Int) (A13 : Option Addr) (n14 : Nat) (c15 : Nat) (x16 : Int) (x17 : Int) (x18 : Int) (x19 : Int) (x20 : Int) (x21 : Int) (x22 : Int) (x23 : Int) (x24 : Int) (x25 : Int) (x26 : Int) (x27 : Int) (x28 : Int) (x29 : Int) (x30 : Int) (x31 : Int) (M : Mem) : piece P T k lo F.zoetroperef14_Fetch 129612 [.v (.int .i64 x1), .v (.int .i64 x2), .v (.int .i64 x3), .v (.int .i64 x4), .l 6 0, .l 14 0, .l 16 0, .v (.slice A5 n6 c7), .v (.int .i64 x8), .v (.int .i64 x9), .v (.int .i64 x10)] [[.int .i64 x11, .int .i64 x12, .slice A13 n14 c15], [.int .i64 x16, .int .i64 x17, .int .i64 x18, .int .i64 x19, .int .i64 x20, .int .i64 x21, .int .i64 x22, .int .i64 x23], [.int .i64 x24, .int .i64 x25, .int .i64 x26, .int .i64 x27, .int .i64 x28, .int .i64 x29, .int .i64 x30, .int .i64 x31]] M =
 bb (decide (x10 < x3))
 (some (zoetroperef14_Fetch.c33180820 x1 x2 x3 x4 A5 n6 c7 x8 x9 x10 4 0 x11 x12 A13 n14 c15 x16 x17 x18 x19 x20 x21 x22 x23 x24 x25 x26 x27 x28 x29 x30 x31 M))
 (some (zoetroperef14_Fetch.c1012 x1 x2 x3 x4 A5 n6 c7 (IntKind.i64.wrap (x8 + 1)) x11 x12 A13 n14 c15 x16 x17 x18 x19 x20 x21 x22 x23 x24 x25 x26 x27 x28 x29 x30 x31 M)) := by kernel_rfl
theorem zoetroperef14_Fetch.p1045652 (k lo : Nat) (x1 : Int) (x2 : Int) (A3 : Option Addr) (n4 : Nat) (c5 : Nat) (A6 : Option Addr) (n7 : Nat) (c8 : Nat) (x9 : Int) (x10 : Int) (x11 : Int) (x12 : Int) (x13 : Int) (x14 : Int) (x15 : Int) (x16 : Int) (x17 : Int) (x18 : Int) (x19 : Int) (M : Mem) : piece P T k lo F.zoetroperef14_Fetch 1045652 [.v (.int .i64 x1), .v (.int .i64 x2), .l 16 0, .v (.slice A3 n4 c5), .v (.slice A6 n7 c8), .v (.int .i64 x9), .v (.int .i64 x10), .v (.int .i64 x11)] [[.int .i64 x12, .int .i64 x13, .int .i64 x14, .int .i64 x15, .int .i64 x16, .int .i64 x17, .int .i64 x18, .int .i64 x19]] M =
 bb (decide (x11 < 8))
 (pb (0 ≤ x11 ∧ x11 < (8 : Int))
 (ob ((([.int .i64 x12, .int .i64 x13, .int .i64 x14, .int .i64 x15, .int .i64 x16, .int .i64 x17, .int .i64 x18, .int .i64 x19] : List Value)[0 + x11.toNat + 0]?).bind (Value.int? .i64)) fun x44 =>
 pb (0 ≤ IntKind.i64.wrap (x9 + (IntKind.i64.wrap (x11 * x1))) ∧ IntKind.i64.wrap (x9 + (IntKind.i64.wrap (x11 * x1))) < (n4 : Int))
 (ob A3 fun a45 =>
 ob ((M.ld (plus a45 ((IntKind.i64.wrap (x9 + (IntKind.i64.wrap (x11 * x1)))).toNat))).bind (Value.int? .i64)) fun x46 =>
 some (zoetroperef14_Fetch.c1045652 x1 x2 A3 n4 c5 A6 n7 c8 x9 (IntKind.i64.wrap (x10 + (IntKind.i64.wrap (x44 * x46)))) (IntKind.i64.wrap (x11 + 1)) x12 x13 x14 x15 x16 x17 x18 x19 M)) none) none)
 (ob (acall P T k lo F.zoetroperef00_Clip [.int .i64 (shrI .i64 x10 11), .int .i64 0, .int .i64 255] M) fun r47 =>
 ob ((some r47.1).bind (Value.int? .i64)) fun x48 =>
 ob (r47.2.app lo 1 1 ⟨A6, n7, c8⟩ ([.int .u8 (IntKind.u8.wrap x48)]) 1) fun r49 =>
 some (zoetroperef14_Fetch.c4084 x1 x2 A3 n4 c5 r49.1.a r49.1.n r49.1.c (IntKind.i64.wrap (x9 + 1)) x12 x13 x14 x15 x16 x17 x18 x19 r49.2)) := by kernel_rfl
theorem zoetroperef14_Fetch.p33180820 (k lo : Nat) (x1 : Int) (x2 : Int) (x3 : Int) (x4 : Int) (A5 : Option Addr) (n6 : Nat) (c7 : Nat) (x8 : Int) (x9 : Int) (x10 : Int) (x11 : Int) (x12 : Int) (x13 : Int) (x14 : Int) (A15 : Option Addr) (n16 : Nat) (c17 : Nat) (x18 : Int) (x19 : Int) (x20 : Int) (x21 : Int) (x22 : Int) (x23 : Int) (x24 : Int) (x25 : Int) (x26 : Int) (x27 : Int) (x28 : Int) (x29 : Int) (x30 : Int) (x31 : Int) (x32 : Int) (x33 : Int) (M : Mem) : piece P T k lo F.zoetroperef14_Fetch 33180820 [.v (.int .i64 x1), .v (.int .i64 x2), .v (.int .i64 x3), .v (.int .i64 x4), .l 6 0, .l 14 0, .l 16 0, .v (.slice A5 n6 c7), .v (.int .i64 x8), .v (.int .i64 x9), .v (.int .i64 x10), .v (.int .i64 x11), .v (.int .i64 x12)] [[.int .i64 x13, .int .i64 x14, .slice A15 n16 c17], [.int .i64 x18, .int .i64 x19, .int .i64 x20, .int .i64 x21, .int .i64 x22, .int .i64 x23, .int .i64 x24, .int .i64 x25], [.int .i64 x26, .int .i64 x27, .int .i64 x28, .int .i64 x29, .int .i64 x30, .int .i64 x31, .int .i64 x32, .int .i64 x33]] M =
 bb (decide (x12 < 8))
 (pb (0 ≤ x12 ∧ x12 < (8 : Int))
 (ob ((([.int .i64 x18, .int .i64 x19, .int .i64 x20, .int .i64 x21, .int .i64 x22, .int .i64 x23, .int .i64 x24, .int .i64 x25] : List Value)[0 + x12.toNat + 0]?).bind (Value.int? .i64)) fun x50 =>
 ob (acall P T k M.length F.zoetroperef00_Clip [.int .i64 (IntKind.i64.wrap ((IntKind.i64.wrap ((IntKind.i64.wrap ((shrI .i64 x1 4) + x10)) + x12)) - 3)), .int .i64 0, .int .i64 (IntKind.i64.wrap (x13 - 1))] M) fun r51 =>
 ob ((some r51.1).bind (Value.int? .i64)) fun x52 =>
 pb (0 ≤ IntKind.i64.wrap (x9 + x52) ∧ IntKind.i64.wrap (x9 + x52) < (n16 : Int))
 (ob A15 fun a53 =>
 ob ((r51.2.ld (plus a53 ((IntKind.i64.wrap (x9 + x52)).toNat))).bind (Value.int? .u8)) fun x54 =>
 some (zoetroperef14_Fetch.c33180820 x1 x2 x3 x4 A5 n6 c7 x8 x9 x10 (IntKind.i64.wrap (x11 + (IntKind.i64.wrap (x50 * (IntKind.i64.wrap x54))))) (IntKind.i64.wrap (x12 + 1)) x13 x14 A15 n16 c17 x18 x19 x20 x21 x22 x23 x24 x25 x26 x27 x28 x29 x30 x31 x32 x33 r51.2)) none) none)
 (pb (0 ≤ IntKind.i64.wrap ((IntKind.i64.wrap (x8 * x3)) + x10) ∧ IntKind.i64.wrap ((IntKind.i64.wrap (x8 * x3)) + x10) < (n6 : Int))
 (ob A5 fun a55 =>
 ob (M.st lo (plus a55 ((IntKind.i64.wrap ((IntKind.i64.wrap (x8 * x3)) + x10)).toNat)) [.int .i64 (shrI .i64 x11 3)]) fun M56 =>
 some (zoetroperef14_Fetch.c129612 x1 x2 x3 x4 A5 n6 c7 x8 x9 (IntKind.i64.wrap (x10 + 1)) x13 x14 A15 n16 c17 x18 x19 x20 x21 x22 x23 x24 x25 x26 x27 x28 x29 x30 x31 x32 x33 M56)) none) := by kernel_rfl
theorem zoetroperef00_EqBytes.entry (k lo : Nat) (A1 : Option Addr) (n2 : Nat) (c3 : Nat) (A4 : Option Addr) (n5 : Nat) (c6 : Nat) (M : Mem) : entry P T k lo F.zoetroperef00_EqBytes [.slice A1 n2 c3, .slice A4 n5 c6] M =
 bb ((n2 : Int) != (n5 : Int))
 (some (.ret (.bool false) M))
 (some (zoetroperef00_EqBytes.c116 A1 n2 c3 A4 n5 c6 0 M)) := by kernel_rfl
theorem zoetroperef00_EqBytes.p116 (k lo : Nat) (A1 : Option Addr) (n2 : Nat) (c3 : Nat) (A4 : Option Addr) (n5 : Nat) (c6 : Nat) (x7 : Int) (M : Mem) : piece P T k lo F.zoetroperef00_EqBytes 116 [.v (.slice A1 n2 c3), .v (.slice A4 n5 c6), .v (.int .i64 x7)] [] M =
 bb (decide (x7 < (n2 : Int)))
 (pb (0 ≤ x7 ∧ x7 < (n2 : Int))
 (ob A1 fun a12 =>
 ob ((M.ld (plus a12 x7.toNat)).bind (Value.int? .u8)) fun x13 =>
 pb (0 ≤ x7 ∧ x7 < (n5 : Int))
 (ob A4 fun a14 =>
 ob ((M.ld (plus a14 x7.toNat)).bind (Value.int? .u8)) fun x15 =>
 bb (x13 != x15)
 (some (.ret (.bool false) M))
 (some (zoetroperef00_EqBytes.c116 A1 n2 c3 A4 n5 c6 (IntKind.i64.wrap (x7 + 1)) M))) none) none)
 (some (.ret (.bool true) M)) := by kernel_rfl
theorem zoetroperef05_Same.entry (k lo : Nat) (x1 : Int) (x2 : Int) (A3 : Option Addr) (n4 : Nat) (c5 : Nat) (x6 : Int) (x7 : Int) (A8 : Option Addr) (n9 : Nat) (c10 : Nat) (M : Mem) : entry P T k lo F.zoetroperef05_Same [.agg ⟨[.int .i64 x1, .int .i64 x2, .slice A3 n4 c5]⟩, .agg ⟨[.int .i64 x6, .int .i64 x7, .slice A8 n9 c10]⟩] M =
 bb (x1 == x6)
 (bb (x2 == x7)
 (ob (acall P T k lo F.zoetroperef00_EqBytes [.slice A3 n4 c5, .slice A8 n9 c10] M) fun r16 =>
 ob ((some r16.1).bind Value.bool?) fun b17 =>
 some (.ret (.bool b17) r16.2))
 (some (.ret (.bool false) M)))
 (some (.ret (.bool false) M)) := by kernel_rfl
theorem zoetroperef00_Bring.entry (k lo : Nat) (x1 : Int) (x2 : Int) (M : Mem) : entry P T k lo F.zoetroperef00_Bring [.int .i64 x1, .int .i64 x2] M =
 bb (decide (x2 ≤ 0))
 (some (.ret (.int .i64 0) M))
 (pb (x2 = 0) none
 (bb (decide (Int.tmod x1 x2 < 0))
 (some (zoetroperef00_Bring.c31 (IntKind.i64.wrap ((Int.tmod x1 x2) + x2)) M))
 (some (zoetroperef00_Bring.c31 (Int.tmod x1 x2) M)))) := by kernel_rfl
theorem zoetroperef00_Bring.p31 (k lo : Nat) (x1 : Int) (M : Mem) : piece P T k lo F.zoetroperef00_Bring 31 [.v (.int .i64 x1)] [] M =
 some (.ret (.int .i64 x1) M) := by kernel_rfl
theorem plane_Check.entry (k lo : Nat) (x1 : Int) (x2 : Int) (A3 : Option Addr) (n4 : Nat) (c5 : Nat) (M : Mem) : entry P T k lo F.plane_Check [.agg ⟨[.int .i64 x1, .int .i64 x2, .slice A3 n4 c5]⟩] M =
 ob (acall P T k lo F.plane_sizes [.int .i64 x1, .int .i64 x2] M) fun r11 =>
 ob ((some r11.1).bind Value.bool?) fun b12 =>
 bb (!b12)
 (some (.ret (.int .i64 2) r11.2))
 (bb ((n4 : Int) != IntKind.i64.wrap (x1 * x2))
 (some (.ret (.int .i64 2) r11.2))
 (some (.ret (.int .i64 0) r11.2))) := by kernel_rfl
theorem zoetropelaw14_may.entry (k lo : Nat) (x1 : Int) (x2 : Int) (x3 : Int) (x4 : Int) (x5 : Int) (M : Mem) : entry P T k lo F.zoetropelaw14_may [.agg ⟨[.int .i64 x1, .int .i64 x2, .int .i64 x3, .int .i64 x4, .int .i64 x5]⟩] M =
 ob (acall P T k M.length F.zoetroperef00_Bring [.int .i64 x1, .int .i64 2000] M) fun r11 =>
 ob ((some r11.1).bind (Value.int? .i64)) fun x12 =>
 ob (acall P T k M.length F.zoetroperef00_Bring [.int .i64 x2, .int .i64 2000] r11.2) fun r13 =>
 ob ((some r13.1).bind (Value.int? .i64)) fun x14 =>
 ob (acall P T k M.length F.zoetroperef00_Bring [.int .i64 x3, .int .i64 13] r13.2) fun r15 =>
 ob ((some r15.1).bind (Value.int? .i64)) fun x16 =>
 ob (acall P T k M.length F.zoetroperef00_Bring [.int .i64 x4, .int .i64 13] r15.2) fun r17 =>
 ob ((some r17.1).bind (Value.int? .i64)) fun x18 =>
 ob (acall P T k M.length F.zoetroperef00_Bring [.int .i64 x5, .int .i64 3] r17.2) fun r19 =>
 ob ((some r19.1).bind (Value.int? .i64)) fun x20 =>
 some (.ret (.agg ⟨[.int .i64 (IntKind.i64.wrap (x12 - 500)), .int .i64 (IntKind.i64.wrap (x14 - 500)), .int .i64 (IntKind.i64.wrap (4 + x16)), .int .i64 (IntKind.i64.wrap (4 + x18)), .int .i64 x20]⟩) r19.2) := by kernel_rfl
theorem zoetropelaw14_mirrored.entry (k lo : Nat) (x1 : Int) (x2 : Int) (A3 : Option Addr) (n4 : Nat) (c5 : Nat) (b6 : Bool) (M : Mem) : entry P T k lo F.zoetropelaw14_mirrored [.agg ⟨[.int .i64 x1, .int .i64 x2, .slice A3 n4 c5]⟩, .bool b6] M =
 pb (0 ≤ (n4 : Int) ∧ room ((n4 : Int).toNat) 1)
 (some (zoetropelaw14_mirrored.c116 b6 0 x1 x2 A3 n4 c5 0 0 none 0 0 x1 x2 (some ⟨M.length, 0, none⟩) ((n4 : Int).toNat) ((n4 : Int).toNat) (M ++ [⟨.fx, zerosL [.int .u8 0] ((n4 : Int).toNat)⟩] : Mem))) none := by kernel_rfl
theorem zoetropelaw14_mirrored.p116 (k lo : Nat) (b1 : Bool) (x2 : Int) (x3 : Int) (x4 : Int) (A5 : Option Addr) (n6 : Nat) (c7 : Nat) (x8 : Int) (x9 : Int) (A10 : Option Addr) (n11 : Nat) (c12 : Nat) (x13 : Int) (x14 : Int) (A15 : Option Addr) (n16 : Nat) (c17 : Nat) (M : Mem) : piece P T k lo F.zoetropelaw14_mirrored 116 [.v (.bool b1), .l 2 0, .l 4 0, .l 5 0, .v (.int .i64 x2)] [[.int .i64 x3, .int .i64 x4, .slice A5 n6 c7], [.int .i64 x8, .int .i64 x9, .slice A10 n11 c12], [.int .i64 x13, .int .i64 x14, .slice A15 n16 c17]] M =
 bb (decide (x2 < (n6 : Int)))
 (pb (x3 = 0) none
 (pb (x3 = 0) none
 (bb b1
 (pb (0 ≤ x2 ∧ x2 < (n6 : Int))
 (ob A5 fun a18 =>
 ob ((M.ld (plus a18 x2.toNat)).bind (Value.int? .u8)) fun x19 =>
 pb (0 ≤ IntKind.i64.wrap ((IntKind.i64.wrap ((IntKind.i64.wrap ((IntKind.i64.wrap ((IntKind.i64.wrap (Int.tdiv x2 x3)) * x3)) + x3)) - 1)) - (Int.tmod x2 x3)) ∧ IntKind.i64.wrap ((IntKind.i64.wrap ((IntKind.i64.wrap ((IntKind.i64.wrap ((IntKind.i64.wrap (Int.tdiv x2 x3)) * x3)) + x3)) - 1)) - (Int.tmod x2 x3)) < (n16 : Int))
 (ob A15 fun a20 =>
 ob (M.st lo (plus a20 ((IntKind.i64.wrap ((IntKind.i64.wrap ((IntKind.i64.wrap ((IntKind.i64.wrap ((IntKind.i64.wrap (Int.tdiv x2 x3)) * x3)) + x3)) - 1)) - (Int.tmod x2 x3))).toNat)) [.int .u8 x19]) fun M21 =>
 some (zoetropelaw14_mirrored.c467 b1 x2 x3 x4 A5 n6 c7 x8 x9 A10 n11 c12 x13 x14 A15 n16 c17 M21)) none) none)
 (pb (0 ≤ x2 ∧ x2 < (n6 : Int))
 (ob A5 fun a22 =>
 ob ((M.ld (plus a22 x2.toNat)).bind (Value.int? .u8)) fun x23 =>
 pb (0 ≤ IntKind.i64.wrap ((IntKind.i64.wrap ((IntKind.i64.wrap ((IntKind.i64.wrap (x4 - 1)) - (IntKind.i64.wrap (Int.tdiv x2 x3)))) * x3)) + (Int.tmod x2 x3)) ∧ IntKind.i64.wrap ((IntKind.i64.wrap ((IntKind.i64.wrap ((IntKind.i64.wrap (x4 - 1)) - (IntKind.i64.wrap (Int.tdiv x2 x3)))) * x3)) + (Int.tmod x2 x3)) < (n16 : Int))
 (ob A15 fun a24 =>
 ob (M.st lo (plus a24 ((IntKind.i64.wrap ((IntKind.i64.wrap ((IntKind.i64.wrap ((IntKind.i64.wrap (x4 - 1)) - (IntKind.i64.wrap (Int.tdiv x2 x3)))) * x3)) + (Int.tmod x2 x3))).toNat)) [.int .u8 x23]) fun M25 =>
 some (zoetropelaw14_mirrored.c467 b1 x2 x3 x4 A5 n6 c7 x8 x9 A10 n11 c12 x13 x14 A15 n16 c17 M25)) none) none))))
 (some (.ret (.agg ⟨[.int .i64 x13, .int .i64 x14, .slice A15 n16 c17]⟩) M)) := by kernel_rfl
theorem zoetropelaw14_mirrored.p467 (k lo : Nat) (b1 : Bool) (x2 : Int) (x3 : Int) (x4 : Int) (A5 : Option Addr) (n6 : Nat) (c7 : Nat) (x8 : Int) (x9 : Int) (A10 : Option Addr) (n11 : Nat) (c12 : Nat) (x13 : Int) (x14 : Int) (A15 : Option Addr) (n16 : Nat) (c17 : Nat) (M : Mem) : piece P T k lo F.zoetropelaw14_mirrored 467 [.v (.bool b1), .l 2 0, .l 4 0, .l 5 0, .v (.int .i64 x2)] [[.int .i64 x3, .int .i64 x4, .slice A5 n6 c7], [.int .i64 x8, .int .i64 x9, .slice A10 n11 c12], [.int .i64 x13, .int .i64 x14, .slice A15 n16 c17]] M =
 some (zoetropelaw14_mirrored.c116 b1 (IntKind.i64.wrap (x2 + 1)) x3 x4 A5 n6 c7 x8 x9 A10 n11 c12 x13 x14 A15 n16 c17 M) := by kernel_rfl
theorem zoetropelaw14_row.entry (k lo : Nat) (x1 : Int) (x2 : Int) (x3 : Int) (M : Mem) : entry P T k lo F.zoetropelaw14_row [.int .i64 x1, .int .i64 x2, .int .i64 x3] M =
 ob (acall P T k lo F.zoetropelaw14_given [] M) fun r9 =>
 ob ((some r9.1).bind (Value.agg? 3)) fun l10 =>
 ob ((l10[0]?).bind (Value.int? .i64)) fun x11 =>
 ob ((l10[1]?).bind (Value.int? .i64)) fun x12 =>
 ob ((l10[2]?).bind Value.slc?) fun s13 =>
 ob (acall P T k lo F.subpel_Fetch [.agg ⟨[.int .i64 x11, .int .i64 x12, .slice s13.a s13.n s13.c]⟩, .int .i64 x1, .int .i64 x2, .int .i64 4, .int .i64 4, .int .i64 x3] r9.2) fun r14 =>
 ob (r14.1.tup? 2) fun l15 =>
 ob ((l15[0]?).bind Value.slc?) fun s16 =>
 ob ((l15[1]?).bind (Value.int? .i64)) fun x17 =>
 bb (x17 != 0)
 (some (.ret (.slice none 0 0) r14.2))
 (bb ((s16.n : Int) != 16)
 (some (.ret (.slice none 0 0) r14.2))
 (pb (0 ≤ (0 : Int) ∧ (0 : Int) ≤ 4 ∧ (4 : Int) ≤ (s16.c : Int))
 (some (.ret (.slice (slAddr 1 s16.a 0 s16.c) 4 (s16.c - 0)) r14.2)) none)) := by kernel_rfl
theorem zoetropelaw14_given.entry (k lo : Nat) (M : Mem) : entry P T k lo F.zoetropelaw14_given [] M =
 some (.ret (.agg ⟨[.int .i64 4, .int .i64 1, .slice (some ⟨M.length, 0, none⟩) 4 4]⟩) (M ++ [⟨.fx, [.int .u8 0, .int .u8 100, .int .u8 100, .int .u8 0]⟩] : Mem)) := by kernel_rfl
theorem plane_At.entry (k lo : Nat) (x1 : Int) (x2 : Int) (A3 : Option Addr) (n4 : Nat) (c5 : Nat) (x6 : Int) (x7 : Int) (M : Mem) : entry P T k lo F.plane_At [.agg ⟨[.int .i64 x1, .int .i64 x2, .slice A3 n4 c5]⟩, .int .i64 x6, .int .i64 x7] M =
 ob (acall P T k lo F.plane_Check [.agg ⟨[.int .i64 x1, .int .i64 x2, .slice A3 n4 c5]⟩] M) fun r13 =>
 ob ((some r13.1).bind (Value.int? .i64)) fun x14 =>
 bb (x14 != 0)
 (some (.ret (.int .u8 0) r13.2))
 (pb (0 ≤ IntKind.i64.wrap ((IntKind.i64.wrap ((minI (maxI x7 0) (IntKind.i64.wrap (x2 - 1))) * x1)) + (minI (maxI x6 0) (IntKind.i64.wrap (x1 - 1)))) ∧ IntKind.i64.wrap ((IntKind.i64.wrap ((minI (maxI x7 0) (IntKind.i64.wrap (x2 - 1))) * x1)) + (minI (maxI x6 0) (IntKind.i64.wrap (x1 - 1)))) < (n4 : Int))
 (ob A3 fun a15 =>
 ob ((r13.2.ld (plus a15 ((IntKind.i64.wrap ((IntKind.i64.wrap ((minI (maxI x7 0) (IntKind.i64.wrap (x2 - 1))) * x1)) + (minI (maxI x6 0) (IntKind.i64.wrap (x1 - 1))))).toNat))).bind (Value.int? .u8)) fun x16 =>
 some (.ret (.int .u8 x16) r13.2)) none) := by kernel_rfl
theorem plane_New.entry (k lo : Nat) (x1 : Int) (x2 : Int) (x3 : Int) (M : Mem) : entry P T k lo F.plane_New [.int .i64 x1, .int .i64 x2, .int .u8 x3] M =
 ob (acall P T k lo F.plane_sizes [.int .i64 x1, .int .i64 x2] M) fun r9 =>
 ob ((some r9.1).bind Value.bool?) fun b10 =>
 bb (!b10)
 (some (.ret (.tuple ⟨[.agg ⟨[.int .i64 0, .int .i64 0, .slice none 0 0]⟩, .int .i64 2]⟩) r9.2))
 (ob (acall P T k lo F.slices_Repeat__uint8_uint8 [.slice (some ⟨r9.2.length, 0, none⟩) 1 1, .int .i64 (IntKind.i64.wrap (x1 * x2))] (r9.2 ++ [⟨.fx, [.int .u8 x3]⟩] : Mem)) fun r11 =>
 ob ((some r11.1).bind Value.slc?) fun s12 =>
 some (.ret (.tuple ⟨[.agg ⟨[.int .i64 x1, .int .i64 x2, .slice s12.a s12.n s12.c]⟩, .int .i64 0]⟩) r11.2)) := by kernel_rfl
theorem subpel_soft.entry (k lo : Nat) (M : Mem) : entry P T k lo F.subpel_soft [] M =
 some (.ret (.agg ⟨[.int .i64 0, .int .i64 0, .int .i64 0, .int .i64 128, .int .i64 0, .int .i64 0, .int .i64 0, .int .i64 0, .int .i64 0, .int .i64 2, .int .i64 28, .int .i64 62, .int .i64 34, .int .i64 2, .int .i64 0, .int .i64 0, .int .i64 0, .int .i64 0, .int .i64 26, .int .i64 62, .int .i64 36, .int .i64 4, .int .i64 0, .int .i64 0, .int .i64 0, .int .i64 0, .int .i64 22, .int .i64 62, .int .i64 40, .int .i64 4, .int .i64 0, .int .i64 0, .int .i64 0, .int .i64 0, .int .i64 20, .int .i64 60, .int .i64 42, .int .i64 6, .int .i64 0, .int .i64 0, .int .i64 0, .int .i64 0, .int .i64 18, .int .i64 58, .int .i64 44, .int .i64 8, .int .i64 0, .int .i64 0, .int .i64 0, .int .i64 0, .int .i64 16, .int .i64 56, .int .i64 46, .int .i64 10, .int .i64 0, .int .i64 0, .int .i64 0, .int .i64 (-2), .int .i64 16, .int .i64 54, .int .i64 48, .int .i64 12, .int .i64 0, .int .i64 0, .int .i64 0, .int .i64 (-2), .int .i64 14, .int .i64 52, .int .i64 52, .int .i64 14, .int .i64 (-2), .int .i64 0]⟩) M) := by kernel_rfl
theorem subpel_sharp.entry (k lo : Nat) (M : Mem) : entry P T k lo F.subpel_sharp [] M =
 some (.ret (.agg ⟨[.int .i64 0, .int .i64 0, .int .i64 0, .int .i64 128, .int .i64 0, .int .i64 0, .int .i64 0, .int .i64 0, .int .i64 0, .int .i64 2, .int .i64 (-6), .int .i64 126, .int .i64 8, .int .i64 (-2), .int .i64 0, .int .i64 0, .int .i64 0, .int .i64 2, .int .i64 (-10), .int .i64 122, .int .i64 18, .int .i64 (-4), .int .i64 0, .int .i64 0, .int .i64 0, .int .i64 2, .int .i64 (-12), .int .i64 116, .int .i64 28, .int .i64 (-8), .int .i64 2, .int .i64 0, .int .i64 0, .int .i64 2, .int .i64 (-14), .int .i64 110, .int .i64 38, .int .i64 (-10), .int .i64 2, .int .i64 0, .int .i64 0, .int .i64 2, .int .i64 (-14), .int .i64 102, .int .i64 48, .int .i64 (-12), .int .i64 2, .int .i64 0, .int .i64 0, .int .i64 2, .int .i64 (-16), .int .i64 94, .int .i64 58, .int .i64 (-12), .int .i64 2, .int .i64 0, .int .i64 0, .int .i64 2, .int .i64 (-14), .int .i64 84, .int .i64 66, .int .i64 (-12), .int .i64 2, .int .i64 0, .int .i64 0, .int .i64 2, .int .i64 (-14), .int .i64 76, .int .i64 76, .int .i64 (-14), .int .i64 2, .int .i64 0]⟩) M) := by kernel_rfl
theorem slices_Reverse__int_int.entry (k lo : Nat) (A1 : Option Addr) (n2 : Nat) (c3 : Nat) (M : Mem) : entry P T k lo F.slices_Reverse__int_int [.slice A1 n2 c3] M =
 some (slices_Reverse__int_int.c12 A1 n2 c3 0 (IntKind.i64.wrap ((n2 : Int) - 1)) M) := by kernel_rfl
theorem slices_Reverse__int_int.p12 (k lo : Nat) (A1 : Option Addr) (n2 : Nat) (c3 : Nat) (x4 : Int) (x5 : Int) (M : Mem) : piece P T k lo F.slices_Reverse__int_int 12 [.v (.slice A1 n2 c3), .v (.int .i64 x4), .v (.int .i64 x5)] [] M =
 bb (decide (x4 < x5))
 (pb (0 ≤ x5 ∧ x5 < (n2 : Int))
 (ob A1 fun a9 =>
 ob ((M.ld (plus a9 x5.toNat)).bind (Value.int? .i64)) fun x10 =>
 pb (0 ≤ x4 ∧ x4 < (n2 : Int))
 (ob A1 fun a11 =>
 ob ((M.ld (plus a11 x4.toNat)).bind (Value.int? .i64)) fun x12 =>
 pb (0 ≤ x4 ∧ x4 < (n2 : Int))
 (ob A1 fun a13 =>
 ob (M.st lo (plus a13 x4.toNat) [.int .i64 x10]) fun M14 =>
 pb (0 ≤ x5 ∧ x5 < (n2 : Int))
 (ob A1 fun a15 =>
 ob (M14.st lo (plus a15 x5.toNat) [.int .i64 x12]) fun M16 =>
 some (slices_Reverse__int_int.c12 A1 n2 c3 (IntKind.i64.wrap (x4 + 1)) (IntKind.i64.wrap (x5 - 1)) M16)) none) none) none) none)
 (some (.ret (.tuple ⟨[]⟩) M)) := by kernel_rfl
theorem zoetroperef14_half.entry (k lo : Nat) (x1 : Int) (x2 : Int) (M : Mem) : entry P T k lo F.zoetroperef14_half [.int .i64 x1, .int .i64 x2] M =
 bb (x1 == 1)
 (pb (0 ≤ x2 ∧ x2 < (9 : Int))
 (ob ((([.int .i64 0, .int .i64 0, .int .i64 0, .int .i64 128, .int .i64 0, .int .i64 0, .int .i64 0, .int .i64 0, .int .i64 0, .int .i64 2, .int .i64 28, .int .i64 62, .int .i64 34, .int .i64 2, .int .i64 0, .int .i64 0, .int .i64 0, .int .i64 0, .int .i64 26, .int .i64 62, .int .i64 36, .int .i64 4, .int .i64 0, .int .i64 0, .int .i64 0, .int .i64 0, .int .i64 22, .int .i64 62, .int .i64 40, .int .i64 4, .int .i64 0, .int .i64 0, .int .i64 0, .int .i64 0, .int .i64 20, .int .i64 60, .int .i64 42, .int .i64 6, .int .i64 0, .int .i64 0, .int .i64 0, .int .i64 0, .int .i64 18, .int .i64 58, .int .i64 44, .int .i64 8, .int .i64 0, .int .i64 0, .int .i64 0, .int .i64 0, .int .i64 16, .int .i64 56, .int .i64 46, .int .i64 10, .int .i64 0, .int .i64 0, .int .i64 0, .int .i64 (-2), .int .i64 16, .int .i64 54, .int .i64 48, .int .i64 12, .int .i64 0, .int .i64 0, .int .i64 0, .int .i64 (-2), .int .i64 14, .int .i64 52, .int .i64 52, .int .i64 14, .int .i64 (-2), .int .i64 0] : List Value)[0 + (x2.toNat * 8) + 0]?).bind (Value.int? .i64)) fun x8 =>
 ob ((([.int .i64 0, .int .i64 0, .int .i64 0, .int .i64 128, .int .i64 0, .int .i64 0, .int .i64 0, .int .i64 0, .int .i64 0, .int .i64 2, .int .i64 28, .int .i64 62, .int .i64 34, .int .i64 2, .int .i64 0, .int .i64 0, .int .i64 0, .int .i64 0, .int .i64 26, .int .i64 62, .int .i64 36, .int .i64 4, .int .i64 0, .int .i64 0, .int .i64 0, .int .i64 0, .int .i64 22, .int .i64 62, .int .i64 40, .int .i64 4, .int .i64 0, .int .i64 0, .int .i64 0, .int .i64 0, .int .i64 20, .int .i64 60, .int .i64 42, .int .i64 6, .int .i64 0, .int .i64 0, .int .i64 0, .int .i64 0, .int .i64 18, .int .i64 58, .int .i64 44, .int .i64 8, .int .i64 0, .int .i64 0, .int .i64 0, .int .i64 0, .int .i64 16, .int .i64 56, .int .i64 46, .int .i64 10, .int .i64 0, .int .i64 0, .int .i64 0, .int .i64 (-2), .int .i64 16, .int .i64 54, .int .i64 48, .int .i64 12, .int .i64 0, .int .i64 0, .int .i64 0, .int .i64 (-2), .int .i64 14, .int .i64 52, .int .i64 52, .int .i64 14, .int .i64 (-2), .int .i64 0] : List Value)[0 + (x2.toNat * 8) + 1]?).bind (Value.int? .i64)) fun x9 =>
 ob ((([.int .i64 0, .int .i64 0, .int .i64 0, .int .i64 128, .int .i64 0, .int .i64 0, .int .i64 0, .int .i64 0, .int .i64 0, .int .i64 2, .int .i64 28, .int .i64 62, .int .i64 34, .int .i64 2, .int .i64 0, .int .i64 0, .int .i64 0, .int .i64 0, .int .i64 26, .int .i64 62, .int .i64 36, .int .i64 4, .int .i64 0, .int .i64 0, .int .i64 0, .int .i64 0, .int .i64 22, .int .i64 62, .int .i64 40, .int .i64 4, .int .i64 0, .int .i64 0, .int .i64 0, .int .i64 0, .int .i64 20, .int .i64 60, .int .i64 42, .int .i64 6, .int .i64 0, .int .i64 0, .int .i64 0, .int .i64 0, .int .i64 18, .int .i64 58, .int .i64 44, .int .i64 8, .int .i64 0, .int .i64 0, .int .i64 0, .int .i64 0, .int .i64 16, .int .i64 56, .int .i64 46, .int .i64 10, .int .i64 0, .int .i64 0, .int .i64 0, .int .i64 (-2), .int .i64 16, .int .i64 54, .int .i64 48, .int .i64 12, .int .i64 0, .int .i64 0, .int .i64 0, .int .i64 (-2), .int .i64 14, .int .i64 52, .int .i64 52, .int .i64 14, .int .i64 (-2), .int .i64 0] : List Value)[0 + (x2.toNat * 8) + 2]?).bind (Value.int? .i64)) fun x10 =>
 ob ((([.int .i64 0, .int .i64 0, .int .i64 0, .int .i64 128, .int .i64 0, .int .i64 0, .int .i64 0, .int .i64 0, .int .i64 0, .int .i64 2, .int .i64 28, .int .i64 62, .int .i64 34, .int .i64 2, .int .i64 0, .int .i64 0, .int .i64 0, .int .i64 0, .int .i64 26, .int .i64 62, .int .i64 36, .int .i64 4, .int .i64 0, .int .i64 0, .int .i64 0, .int .i64 0, .int .i64 22, .int .i64 62, .int .i64 40, .int .i64 4, .int .i64 0, .int .i64 0, .int .i64 0, .int .i64 0, .int .i64 20, .int .i64 60, .int .i64 42, .int .i64 6, .int .i64 0, .int .i64 0, .int .i64 0, .int .i64 0, .int .i64 18, .int .i64 58, .int .i64 44, .int .i64 8, .int .i64 0, .int .i64 0, .int .i64 0, .int .i64 0, .int .i64 16, .int .i64 56, .int .i64 46, .int .i64 10, .int .i64 0, .int .i64 0, .int .i64 0, .int .i64 (-2), .int .i64 16, .int .i64 54, .int .i64 48, .int .i64 12, .int .i64 0, .int .i64 0, .int .i64 0, .int .i64 (-2), .int .i64 14, .int .i64 52, .int .i64 52, .int .i64 14, .int .i64 (-2), .int .i64 0] : List Value)[0 + (x2.toNat * 8) + 3]?).bind (Value.int? .i64)) fun x11 =>
 ob ((([.int .i64 0, .int .i64 0, .int .i64 0, .int .i64 128, .int .i64 0, .int .i64 0, .int .i64 0, .int .i64 0, .int .i64 0, .int .i64 2, .int .i64 28, .int .i64 62, .int .i64 34, .int .i64 2, .int .i64 0, .int .i64 0, .int .i64 0, .int .i64 0, .int .i64 26, .int .i64 62, .int .i64 36, .int .i64 4, .int .i64 0, .int .i64 0, .int .i64 0, .int .i64 0, .int .i64 22, .int .i64 62, .int .i64 40, .int .i64 4, .int .i64 0, .int .i64 0, .int .i64 0, .int .i64 0, .int .i64 20, .int .i64 60, .int .i64 42, .int .i64 6, .int .i64 0, .int .i64 0, .int .i64 0, .int .i64 0, .int .i64 18, .int .i64 58, .int .i64 44, .int .i64 8, .int .i64 0, .int .i64 0, .int .i64 0, .int .i64 0, .int .i64 16, .int .i64 56, .int .i64 46, .int .i64 10, .int .i64 0, .int .i64 0, .int .i64 0, .int .i64 (-2), .int .i64 16, .int .i64 54, .int .i64 48, .int .i64 12, .int .i64 0, .int .i64 0, .int .i64 0, .int .i64 (-2), .int .i64 14, .int .i64 52, .int .i64 52, .int .i64 14, .int .i64 (-2), .int .i64 0] : List Value)[0 + (x2.toNat * 8) + 4]?).bind (Value.int? .i64)) fun x12 =>
 ob ((([.int .i64 0, .int .i64 0, .int .i64 0, .int .i64 128, .int .i64 0, .int .i64 0, .int .i64 0, .int .i64 0, .int .i64 0, .int .i64 2, .int .i64 28, .int .i64 62, .int .i64 34, .int .i64 2, .int .i64 0, .int .i64 0, .int .i64 0, .int .i64 0, .int .i64 26, .int .i64 62, .int .i64 36, .int .i64 4, .int .i64 0, .int .i64 0, .int .i64 0, .int .i64 0, .int .i64 22, .int .i64 62, .int .i64 40, .int .i64 4, .int .i64 0, .int .i64 0, .int .i64 0, .int .i64 0, .int .i64 20, .int .i64 60, .int .i64 42, .int .i64 6, .int .i64 0, .int .i64 0, .int .i64 0, .int .i64 0, .int .i64 18, .int .i64 58, .int .i64 44, .int .i64 8, .int .i64 0, .int .i64 0, .int .i64 0, .int .i64 0, .int .i64 16, .int .i64 56, .int .i64 46, .int .i64 10, .int .i64 0, .int .i64 0, .int .i64 0, .int .i64 (-2), .int .i64 16, .int .i64 54, .int .i64 48, .int .i64 12, .int .i64 0, .int .i64 0, .int .i64 0, .int .i64 (-2), .int .i64 14, .int .i64 52, .int .i64 52, .int .i64 14, .int .i64 (-2), .int .i64 0] : List Value)[0 + (x2.toNat * 8) + 5]?).bind (Value.int? .i64)) fun x13 =>
 ob ((([.int .i64 0, .int .i64 0, .int .i64 0, .int .i64 128, .int .i64 0, .int .i64 0, .int .i64 0, .int .i64 0, .int .i64 0, .int .i64 2, .int .i64 28, .int .i64 62, .int .i64 34, .int .i64 2, .int .i64 0, .int .i64 0, .int .i64 0, .int .i64 0, .int .i64 26, .int .i64 62, .int .i64 36, .int .i64 4, .int .i64 0, .int .i64 0, .int .i64 0, .int .i64 0, .int .i64 22, .int .i64 62, .int .i64 40, .int .i64 4, .int .i64 0, .int .i64 0, .int .i64 0, .int .i64 0, .int .i64 20, .int .i64 60, .int .i64 42, .int .i64 6, .int .i64 0, .int .i64 0, .int .i64 0, .int .i64 0, .int .i64 18, .int .i64 58, .int .i64 44, .int .i64 8, .int .i64 0, .int .i64 0, .int .i64 0, .int .i64 0, .int .i64 16, .int .i64 56, .int .i64 46, .int .i64 10, .int .i64 0, .int .i64 0, .int .i64 0, .int .i64 (-2), .int .i64 16, .int .i64 54, .int .i64 48, .int .i64 12, .int .i64 0, .int .i64 0, .int .i64 0, .int .i64 (-2), .int .i64 14, .int .i64 52, .int .i64 52, .int .i64 14, .int .i64 (-2), .int .i64 0] : List Value)[0 + (x2.toNat * 8) + 6]?).bind (Value.int? .i64)) fun x14 =>
 ob ((([.int .i64 0, .int .i64 0, .int .i64 0, .int .i64 128, .int .i64 0, .int .i64 0, .int .i64 0, .int .i64 0, .int .i64 0, .int .i64 2, .int .i64 28, .int .i64 62, .int .i64 34, .int .i64 2, .int .i64 0, .int .i64 0, .int .i64 0, .int .i64 0, .int .i64 26, .int .i64 62, .int .i64 36, .int .i64 4, .int .i64 0, .int .i64 0, .int .i64 0, .int .i64 0, .int .i64 22, .int .i64 62, .int .i64 40, .int .i64 4, .int .i64 0, .int .i64 0, .int .i64 0, .int .i64 0, .int .i64 20, .int .i64 60, .int .i64 42, .int .i64 6, .int .i64 0, .int .i64 0, .int .i64 0, .int .i64 0, .int .i64 18, .int .i64 58, .int .i64 44, .int .i64 8, .int .i64 0, .int .i64 0, .int .i64 0, .int .i64 0, .int .i64 16, .int .i64 56, .int .i64 46, .int .i64 10, .int .i64 0, .int .i64 0, .int .i64 0, .int .i64 (-2), .int .i64 16, .int .i64 54, .int .i64 48, .int .i64 12, .int .i64 0, .int .i64 0, .int .i64 0, .int .i64 (-2), .int .i64 14, .int .i64 52, .int .i64 52, .int .i64 14, .int .i64 (-2), .int .i64 0] : List Value)[0 + (x2.toNat * 8) + 7]?).bind (Value.int? .i64)) fun x15 =>
 some (.ret (.agg ⟨[.int .i64 x8, .int .i64 x9, .int .i64 x10, .int .i64 x11, .int .i64 x12, .int .i64 x13, .int .i64 x14, .int .i64 x15]⟩) M)) none)
 (pb (0 ≤ x2 ∧ x2 < (9 : Int))
 (ob ((([.int .i64 0, .int .i64 0, .int .i64 0, .int .i64 128, .int .i64 0, .int .i64 0, .int .i64 0, .int .i64 0, .int .i64 0, .int .i64 2, .int .i64 (-6), .int .i64 126, .int .i64 8, .int .i64 (-2), .int .i64 0, .int .i64 0, .int .i64 0, .int .i64 2, .int .i64 (-10), .int .i64 122, .int .i64 18, .int .i64 (-4), .int .i64 0, .int .i64 0, .int .i64 0, .int .i64 2, .int .i64 (-12), .int .i64 116, .int .i64 28, .int .i64 (-8), .int .i64 2, .int .i64 0, .int .i64 0, .int .i64 2, .int .i64 (-14), .int .i64 110, .int .i64 38, .int .i64 (-10), .int .i64 2, .int .i64 0, .int .i64 0, .int .i64 2, .int .i64 (-14), .int .i64 102, .int .i64 48, .int .i64 (-12), .int .i64 2, .int .i64 0, .int .i64 0, .int .i64 2, .int .i64 (-16), .int .i64 94, .int .i64 58, .int .i64 (-12), .int .i64 2, .int .i64 0, .int .i64 0, .int .i64 2, .int .i64 (-14), .int .i64 84, .int .i64 66, .int .i64 (-12), .int .i64 2, .int .i64 0, .int .i64 0, .int .i64 2, .int .i64 (-14), .int .i64 76, .int .i64 76, .int .i64 (-14), .int .i64 2, .int .i64 0] : List Value)[0 + (x2.toNat * 8) + 0]?).bind (Value.int? .i64)) fun x16 =>
 ob ((([.int .i64 0, .int .i64 0, .int .i64 0, .int .i64 128, .int .i64 0, .int .i64 0, .int .i64 0, .int .i64 0, .int .i64 0, .int .i64 2, .int .i64 (-6), .int .i64 126, .int .i64 8, .int .i64 (-2), .int .i64 0, .int .i64 0, .int .i64 0, .int .i64 2, .int .i64 (-10), .int .i64 122, .int .i64 18, .int .i64 (-4), .int .i64 0, .int .i64 0, .int .i64 0, .int .i64 2, .int .i64 (-12), .int .i64 116, .int .i64 28, .int .i64 (-8), .int .i64 2, .int .i64 0, .int .i64 0, .int .i64 2, .int .i64 (-14), .int .i64 110, .int .i64 38, .int .i64 (-10), .int .i64 2, .int .i64 0, .int .i64 0, .int .i64 2, .int .i64 (-14), .int .i64 102, .int .i64 48, .int .i64 (-12), .int .i64 2, .int .i64 0, .int .i64 0, .int .i64 2, .int .i64 (-16), .int .i64 94, .int .i64 58, .int .i64 (-12), .int .i64 2, .int .i64 0, .int .i64 0, .int .i64 2, .int .i64 (-14), .int .i64 84, .int .i64 66, .int .i64 (-12), .int .i64 2, .int .i64 0, .int .i64 0, .int .i64 2, .int .i64 (-14), .int .i64 76, .int .i64 76, .int .i64 (-14), .int .i64 2, .int .i64 0] : List Value)[0 + (x2.toNat * 8) + 1]?).bind (Value.int? .i64)) fun x17 =>
 ob ((([.int .i64 0, .int .i64 0, .int .i64 0, .int .i64 128, .int .i64 0, .int .i64 0, .int .i64 0, .int .i64 0, .int .i64 0, .int .i64 2, .int .i64 (-6), .int .i64 126, .int .i64 8, .int .i64 (-2), .int .i64 0, .int .i64 0, .int .i64 0, .int .i64 2, .int .i64 (-10), .int .i64 122, .int .i64 18, .int .i64 (-4), .int .i64 0, .int .i64 0, .int .i64 0, .int .i64 2, .int .i64 (-12), .int .i64 116, .int .i64 28, .int .i64 (-8), .int .i64 2, .int .i64 0, .int .i64 0, .int .i64 2, .int .i64 (-14), .int .i64 110, .int .i64 38, .int .i64 (-10), .int .i64 2, .int .i64 0, .int .i64 0, .int .i64 2, .int .i64 (-14), .int .i64 102, .int .i64 48, .int .i64 (-12), .int .i64 2, .int .i64 0, .int .i64 0, .int .i64 2, .int .i64 (-16), .int .i64 94, .int .i64 58, .int .i64 (-12), .int .i64 2, .int .i64 0, .int .i64 0, .int .i64 2, .int .i64 (-14), .int .i64 84, .int .i64 66, .int .i64 (-12), .int .i64 2, .int .i64 0, .int .i64 0, .int .i64 2, .int .i64 (-14), .int .i64 76, .int .i64 76, .int .i64 (-14), .int .i64 2, .int .i64 0] : List Value)[0 + (x2.toNat * 8) + 2]?).bind (Value.int? .i64)) fun x18 =>
 ob ((([.int .i64 0, .int .i64 0, .int .i64 0, .int .i64 128, .int .i64 0, .int .i64 0, .int .i64 0, .int .i64 0, .int .i64 0, .int .i64 2, .int .i64 (-6), .int .i64 126, .int .i64 8, .int .i64 (-2), .int .i64 0, .int .i64 0, .int .i64 0, .int .i64 2, .int .i64 (-10), .int .i64 122, .int .i64 18, .int .i64 (-4), .int .i64 0, .int .i64 0, .int .i64 0, .int .i64 2, .int .i64 (-12), .int .i64 116, .int .i64 28, .int .i64 (-8), .int .i64 2, .int .i64 0, .int .i64 0, .int .i64 2, .int .i64 (-14), .int .i64 110, .int .i64 38, .int .i64 (-10), .int .i64 2, .int .i64 0, .int .i64 0, .int .i64 2, .int .i64 (-14), .int .i64 102, .int .i64 48, .int .i64 (-12), .int .i64 2, .int .i64 0, .int .i64 0, .int .i64 2, .int .i64 (-16), .int .i64 94, .int .i64 58, .int .i64 (-12), .int .i64 2, .int .i64 0, .int .i64 0, .int .i64 2, .int .i64 (-14), .int .i64 84, .int .i64 66, .int .i64 (-12), .int .i64 2, .int .i64 0, .int .i64 0, .int .i64 2, .int .i64 (-14), .int .i64 76, .int .i64 76, .int .i64 (-14), .int .i64 2, .int .i64 0] : List Value)[0 + (x2.toNat * 8) + 3]?).bind (Value.int? .i64)) fun x19 =>
 ob ((([.int .i64 0, .int .i64 0, .int .i64 0, .int .i64 128, .int .i64 0, .int .i64 0, .int .i64 0, .int .i64 0, .int .i64 0, .int .i64 2, .int .i64 (-6), .int .i64 126, .int .i64 8, .int .i64 (-2), .int .i64 0, .int .i64 0, .int .i64 0, .int .i64 2, .int .i64 (-10), .int .i64 122, .int .i64 18, .int .i64 (-4), .int .i64 0, .int .i64 0, .int .i64 0, .int .i64 2, .int .i64 (-12), .int .i64 116, .int .i64 28, .int .i64 (-8), .int .i64 2, .int .i64 0, .int .i64 0, .int .i64 2, .int .i64 (-14), .int .i64 110, .int .i64 38, .int .i64 (-10), .int .i64 2, .int .i64 0, .int .i64 0, .int .i64 2, .int .i64 (-14), .int .i64 102, .int .i64 48, .int .i64 (-12), .int .i64 2, .int .i64 0, .int .i64 0, .int .i64 2, .int .i64 (-16), .int .i64 94, .int .i64 58, .int .i64 (-12), .int .i64 2, .int .i64 0, .int .i64 0, .int .i64 2, .int .i64 (-14), .int .i64 84, .int .i64 66, .int .i64 (-12), .int .i64 2, .int .i64 0, .int .i64 0, .int .i64 2, .int .i64 (-14), .int .i64 76, .int .i64 76, .int .i64 (-14), .int .i64 2, .int .i64 0] : List Value)[0 + (x2.toNat * 8) + 4]?).bind (Value.int? .i64)) fun x20 =>
 ob ((([.int .i64 0, .int .i64 0, .int .i64 0, .int .i64 128, .int .i64 0, .int .i64 0, .int .i64 0, .int .i64 0, .int .i64 0, .int .i64 2, .int .i64 (-6), .int .i64 126, .int .i64 8, .int .i64 (-2), .int .i64 0, .int .i64 0, .int .i64 0, .int .i64 2, .int .i64 (-10), .int .i64 122, .int .i64 18, .int .i64 (-4), .int .i64 0, .int .i64 0, .int .i64 0, .int .i64 2, .int .i64 (-12), .int .i64 116, .int .i64 28, .int .i64 (-8), .int .i64 2, .int .i64 0, .int .i64 0, .int .i64 2, .int .i64 (-14), .int .i64 110, .int .i64 38, .int .i64 (-10), .int .i64 2, .int .i64 0, .int .i64 0, .int .i64 2, .int .i64 (-14), .int .i64 102, .int .i64 48, .int .i64 (-12), .int .i64 2, .int .i64 0, .int .i64 0, .int .i64 2, .int .i64 (-16), .int .i64 94, .int .i64 58, .int .i64 (-12), .int .i64 2, .int .i64 0, .int .i64 0, .int .i64 2, .int .i64 (-14), .int .i64 84, .int .i64 66, .int .i64 (-12), .int .i64 2, .int .i64 0, .int .i64 0, .int .i64 2, .int .i64 (-14), .int .i64 76, .int .i64 76, .int .i64 (-14), .int .i64 2, .int .i64 0] : List Value)[0 + (x2.toNat * 8) + 5]?).bind (Value.int? .i64)) fun x21 =>
 ob ((([.int .i64 0, .int .i64 0, .int .i64 0, .int .i64 128, .int .i64 0, .int .i64 0, .int .i64 0, .int .i64 0, .int .i64 0, .int .i64 2, .int .i64 (-6), .int .i64 126, .int .i64 8, .int .i64 (-2), .int .i64 0, .int .i64 0, .int .i64 0, .int .i64 2, .int .i64 (-10), .int .i64 122, .int .i64 18, .int .i64 (-4), .int .i64 0, .int .i64 0, .int .i64 0, .int .i64 2, .int .i64 (-12), .int .i64 116, .int .i64 28, .int .i64 (-8), .int .i64 2, .int .i64 0, .int .i64 0, .int .i64 2, .int .i64 (-14), .int .i64 110, .int .i64 38, .int .i64 (-10), .int .i64 2, .int .i64 0, .int .i64 0, .int .i64 2, .int .i64 (-14), .int .i64 102, .int .i64 48, .int .i64 (-12), .int .i64 2, .int .i64 0, .int .i64 0, .int .i64 2, .int .i64 (-16), .int .i64 94, .int .i64 58, .int .i64 (-12), .int .i64 2, .int .i64 0, .int .i64 0, .int .i64 2, .int .i64 (-14), .int .i64 84, .int .i64 66, .int .i64 (-12), .int .i64 2, .int .i64 0, .int .i64 0, .int .i64 2, .int .i64 (-14), .int .i64 76, .int .i64 76, .int .i64 (-14), .int .i64 2, .int .i64 0] : List Value)[0 + (x2.toNat * 8) + 6]?).bind (Value.int? .i64)) fun x22 =>
 ob ((([.int .i64 0, .int .i64 0, .int .i64 0, .int .i64 128, .int .i64 0, .int .i64 0, .int .i64 0, .int .i64 0, .int .i64 0, .int .i64 2, .int .i64 (-6), .int .i64 126, .int .i64 8, .int .i64 (-2), .int .i64 0, .int .i64 0, .int .i64 0, .int .i64 2, .int .i64 (-10), .int .i64 122, .int .i64 18, .int .i64 (-4), .int .i64 0, .int .i64 0, .int .i64 0, .int .i64 2, .int .i64 (-12), .int .i64 116, .int .i64 28, .int .i64 (-8), .int .i64 2, .int .i64 0, .int .i64 0, .int .i64 2, .int .i64 (-14), .int .i64 110, .int .i64 38, .int .i64 (-10), .int .i64 2, .int .i64 0, .int .i64 0, .int .i64 2, .int .i64 (-14), .int .i64 102, .int .i64 48, .int .i64 (-12), .int .i64 2, .int .i64 0, .int .i64 0, .int .i64 2, .int .i64 (-16), .int .i64 94, .int .i64 58, .int .i64 (-12), .int .i64 2, .int .i64 0, .int .i64 0, .int .i64 2, .int .i64 (-14), .int .i64 84, .int .i64 66, .int .i64 (-12), .int .i64 2, .int .i64 0, .int .i64 0, .int .i64 2, .int .i64 (-14), .int .i64 76, .int .i64 76, .int .i64 (-14), .int .i64 2, .int .i64 0] : List Value)[0 + (x2.toNat * 8) + 7]?).bind (Value.int? .i64)) fun x23 =>
 some (.ret (.agg ⟨[.int .i64 x16, .int .i64 x17, .int .i64 x18, .int .i64 x19, .int .i64 x20, .int .i64 x21, .int .i64 x22, .int .i64 x23]⟩) M)) none) := by kernel_rfl
theorem zoetroperef00_CopyBytes.entry (k lo : Nat) (A1 : Option Addr) (n2 : Nat) (c3 : Nat) (M : Mem) : entry P T k lo F.zoetroperef00_CopyBytes [.slice A1 n2 c3] M =
 ob (Mem.src M A1 n2 n2) fun l9 =>
 ob (M.app lo 1 1 ⟨none, 0, 0⟩ l9 n2) fun r10 =>
 some (.ret (.slice r10.1.a r10.1.n r10.1.c) r10.2) := by kernel_rfl
theorem subpel_sum.entry (k lo : Nat) (x1 : Int) (x2 : Int) (x3 : Int) (x4 : Int) (x5 : Int) (x6 : Int) (x7 : Int) (x8 : Int) (x9 : Int) (M : Mem) : entry P T k lo F.subpel_sum [.agg ⟨[.int .i64 x1, .int .i64 x2, .int .i64 x3, .int .i64 x4, .int .i64 x5, .int .i64 x6, .int .i64 x7, .int .i64 x8]⟩, .int .i64 x9] M =
 some (.ret (.func (.func F.subpel_sum_1) ⟨[]⟩ ⟨[.pointer (some ⟨(M ++ [⟨.fx, [.int .i64 x1, .int .i64 x2, .int .i64 x3, .int .i64 x4, .int .i64 x5, .int .i64 x6, .int .i64 x7, .int .i64 x8]⟩] : Mem).length, 0, none⟩), .pointer (some ⟨M.length, 0, none⟩)]⟩) ((M ++ [⟨.fx, [.int .i64 x1, .int .i64 x2, .int .i64 x3, .int .i64 x4, .int .i64 x5, .int .i64 x6, .int .i64 x7, .int .i64 x8]⟩] : Mem) ++ [⟨.fx, [.int .i64 x9]⟩] : Mem)) := by kernel_rfl
theorem subpel_Fetch_1.entry (k lo : Nat) (x1 : Int) (a2 : Addr) (a3 : Addr) (a4 : Addr) (M : Mem) : entry P T k lo F.subpel_Fetch_1 [.int .i64 x1, .pointer (some a2), .pointer (some a3), .pointer (some a4)] M =
 ob ((M.ld a2).bind Value.slc?) fun s10 =>
 ob ((M.ld a3).bind (Value.int? .i64)) fun x11 =>
 ob ((M.ld a4).bind (Value.int? .i64)) fun x12 =>
 pb (0 ≤ (minI (maxI (IntKind.i64.wrap (x11 + x1)) 0) (IntKind.i64.wrap (x12 - 1))) ∧ (minI (maxI (IntKind.i64.wrap (x11 + x1)) 0) (IntKind.i64.wrap (x12 - 1))) < (s10.n : Int))
 (ob s10.a fun a13 =>
 ob ((M.ld (plus a13 ((minI (maxI (IntKind.i64.wrap (x11 + x1)) 0) (IntKind.i64.wrap (x12 - 1))).toNat))).bind (Value.int? .u8)) fun x14 =>
 some (.ret (.int .i64 (IntKind.i64.wrap x14)) M)) none := by kernel_rfl
theorem subpel_Fetch_2.entry (k lo : Nat) (x1 : Int) (a2 : Addr) (a3 : Addr) (a4 : Addr) (M : Mem) : entry P T k lo F.subpel_Fetch_2 [.int .i64 x1, .pointer (some a2), .pointer (some a3), .pointer (some a4)] M =
 ob ((M.ld a2).bind Value.slc?) fun s10 =>
 ob ((M.ld a3).bind (Value.int? .i64)) fun x11 =>
 pb (0 ≤ IntKind.i64.wrap (x11 + x1) ∧ IntKind.i64.wrap (x11 + x1) < (s10.n : Int))
 (ob s10.a fun a12 =>
 ob ((M.ld (plus a12 ((IntKind.i64.wrap (x11 + x1)).toNat))).bind Value.slc?) fun s13 =>
 ob ((M.ld a4).bind (Value.int? .i64)) fun x14 =>
 pb (0 ≤ x14 ∧ x14 < (s13.n : Int))
 (ob s13.a fun a15 =>
 ob ((M.ld (plus a15 x14.toNat)).bind (Value.int? .i64)) fun x16 =>
 some (.ret (.int .i64 x16) M)) none) none := by kernel_rfl
theorem zoetroperef05_Check.entry (k lo : Nat) (x1 : Int) (x2 : Int) (A3 : Option Addr) (n4 : Nat) (c5 : Nat) (M : Mem) : entry P T k lo F.zoetroperef05_Check [.agg ⟨[.int .i64 x1, .int .i64 x2, .slice A3 n4 c5]⟩] M =
 bb (decide (x1 < 1))
 (some (.ret (.int .i64 2) M))
 (bb (decide (x1 > 512))
 (some (.ret (.int .i64 2) M))
 (bb (decide (x2 < 1))
 (some (.ret (.int .i64 2) M))
 (bb (decide (x2 > 512))
 (some (.ret (.int .i64 2) M))
 (bb ((n4 : Int) != IntKind.i64.wrap (x1 * x2))
 (some (.ret (.int .i64 2) M))
 (some (.ret (.int .i64 0) M)))))) := by kernel_rfl
theorem zoetroperef00_Clip.entry (k lo : Nat) (x1 : Int) (x2 : Int) (x3 : Int) (M : Mem) : entry P T k lo F.zoetroperef00_Clip [.int .i64 x1, .int .i64 x2, .int .i64 x3] M =
 bb (decide (x1 < x2))
 (some (.ret (.int .i64 x2) M))
 (bb (decide (x1 > x3))
 (some (.ret (.int .i64 x3) M))
 (some (.ret (.int .i64 x1) M))) := by kernel_rfl
theorem plane_sizes.entry (k lo : Nat) (x1 : Int) (x2 : Int) (M : Mem) : entry P T k lo F.plane_sizes [.int .i64 x1, .int .i64 x2] M =
 bb (decide (x1 ≥ 1))
 (bb (decide (x1 ≤ 512))
 (bb (decide (x2 ≥ 1))
 (some (.ret (.bool (decide (x2 ≤ 512))) M))
 (some (.ret (.bool false) M)))
 (some (.ret (.bool false) M)))
 (some (.ret (.bool false) M)) := by kernel_rfl
theorem slices_Repeat__uint8_uint8.entry (k lo : Nat) (A1 : Option Addr) (n2 : Nat) (c3 : Nat) (x4 : Int) (M : Mem) : entry P T k lo F.slices_Repeat__uint8_uint8 [.slice A1 n2 c3, .int .i64 x4] M =
 bb (decide (x4 < 0))
 (none)
 (some (slices_Repeat__uint8_uint8.c7 A1 n2 c3 x4 M)) := by kernel_rfl
theorem slices_Repeat__uint8_uint8.p7 (k lo : Nat) (A1 : Option Addr) (n2 : Nat) (c3 : Nat) (x4 : Int) (M : Mem) : piece P T k lo F.slices_Repeat__uint8_uint8 7 [.v (.slice A1 n2 c3), .v (.int .i64 x4)] [] M =
 ob (acall P T k lo F.math_bits_Mul [.int .u64 (IntKind.u64.wrap (n2 : Int)), .int .u64 (IntKind.u64.wrap x4)] M) fun r10 =>
 ob (r10.1.tup? 2) fun l11 =>
 ob ((l11[0]?).bind (Value.int? .u64)) fun x12 =>
 ob ((l11[1]?).bind (Value.int? .u64)) fun x13 =>
 bb (decide (x12 > 0))
 (none)
 (bb (decide (x13 > 9223372036854775807))
 (none)
 (some (slices_Repeat__uint8_uint8.c31 A1 n2 c3 x13 r10.2))) := by kernel_rfl
theorem slices_Repeat__uint8_uint8.p31 (k lo : Nat) (A1 : Option Addr) (n2 : Nat) (c3 : Nat) (x4 : Int) (M : Mem) : piece P T k lo F.slices_Repeat__uint8_uint8 31 [.v (.slice A1 n2 c3), .v (.int .u64 x4)] [] M =
 pb (0 ≤ IntKind.i64.wrap x4 ∧ room ((IntKind.i64.wrap x4).toNat) 1)
 (ob (Mem.src (M ++ [⟨.fx, zerosL [.int .u8 0] ((IntKind.i64.wrap x4).toNat)⟩] : Mem) A1 (Nat.min n2 ((IntKind.i64.wrap x4).toNat)) (Nat.min n2 ((IntKind.i64.wrap x4).toNat))) fun l14 =>
 pb (Nat.min n2 ((IntKind.i64.wrap x4).toNat) = 0) (some (slices_Repeat__uint8_uint8.c1016 (some ⟨M.length, 0, none⟩) ((IntKind.i64.wrap x4).toNat) ((IntKind.i64.wrap x4).toNat) 0 (M ++ [⟨.fx, zerosL [.int .u8 0] ((IntKind.i64.wrap x4).toNat)⟩] : Mem)))
 (ob ((M ++ [⟨.fx, zerosL [.int .u8 0] ((IntKind.i64.wrap x4).toNat)⟩] : Mem).st lo ⟨M.length, 0, none⟩ l14) fun M15 =>
 some (slices_Repeat__uint8_uint8.c1016 (some ⟨M.length, 0, none⟩) ((IntKind.i64.wrap x4).toNat) ((IntKind.i64.wrap x4).toNat) ((Nat.min n2 ((IntKind.i64.wrap x4).toNat) : Nat) : Int) M15))) none := by kernel_rfl
theorem slices_Repeat__uint8_uint8.p1016 (k lo : Nat) (A1 : Option Addr) (n2 : Nat) (c3 : Nat) (x4 : Int) (M : Mem) : piece P T k lo F.slices_Repeat__uint8_uint8 1016 [.v (.slice A1 n2 c3), .v (.int .i64 x4)] [] M =
 bb (decide (x4 < (n2 : Int)))
 (pb (0 ≤ x4 ∧ x4 ≤ (n2 : Int))
 (pb (0 ≤ (0 : Int) ∧ (0 : Int) ≤ x4 ∧ x4 ≤ (c3 : Int))
 (ob (Mem.src M (slAddr 1 A1 0 c3) (Nat.min (x4.toNat - 0) (n2 - x4.toNat)) (Nat.min (x4.toNat - 0) (n2 - x4.toNat))) fun l17 =>
 pb (Nat.min (x4.toNat - 0) (n2 - x4.toNat) = 0) (some (slices_Repeat__uint8_uint8.c1016 A1 n2 c3 (IntKind.i64.wrap (x4 + 0)) M))
 (ob (slAddr 1 A1 x4.toNat c3) fun a19 =>
 ob (M.st lo a19 l17) fun M18 =>
 some (slices_Repeat__uint8_uint8.c1016 A1 n2 c3 (IntKind.i64.wrap (x4 + ((Nat.min (x4.toNat - 0) (n2 - x4.toNat) : Nat) : Int))) M18))) none) none)
 (some (.ret (.slice A1 n2 c3) M)) := by kernel_rfl
theorem subpel_sum_1.entry (k lo : Nat) (v1 : Value) (a2 : Addr) (a3 : Addr) (M : Mem) : entry P T k lo F.subpel_sum_1 [v1, .pointer (some a2), .pointer (some a3)] M =
 ob ((M.ld a2).bind (Value.int? .i64)) fun x9 =>
 pb (IntKind.i64.wrap (x9 - 1) < 0) none
 (ob ((M.ld a3).bind (Value.int? .i64)) fun x10 =>
 ob ((M.ld (plus a3 1)).bind (Value.int? .i64)) fun x11 =>
 ob ((M.ld (plus a3 2)).bind (Value.int? .i64)) fun x12 =>
 ob ((M.ld (plus a3 3)).bind (Value.int? .i64)) fun x13 =>
 ob ((M.ld (plus a3 4)).bind (Value.int? .i64)) fun x14 =>
 ob ((M.ld (plus a3 5)).bind (Value.int? .i64)) fun x15 =>
 ob ((M.ld (plus a3 6)).bind (Value.int? .i64)) fun x16 =>
 ob ((M.ld (plus a3 7)).bind (Value.int? .i64)) fun x17 =>
 some (subpel_sum_1.c116 v1 a2 (shlI .i64 (1 : Int) ((IntKind.i64.wrap (x9 - 1)).toNat)) x10 x11 x12 x13 x14 x15 x16 x17 0 M)) := by kernel_rfl
theorem subpel_sum_1.p116 (k lo : Nat) (v1 : Value) (a2 : Addr) (x3 : Int) (x4 : Int) (x5 : Int) (x6 : Int) (x7 : Int) (x8 : Int) (x9 : Int) (x10 : Int) (x11 : Int) (x12 : Int) (M : Mem) : piece P T k lo F.subpel_sum_1 116 [.v v1, .v (.pointer (some a2)), .v (.int .i64 x3), .v (.agg ⟨[.int .i64 x4, .int .i64 x5, .int .i64 x6, .int .i64 x7, .int .i64 x8, .int .i64 x9, .int .i64 x10, .int .i64 x11]⟩), .v (.int .i64 x12)] [] M =
 bb (decide (x12 < 8))
 (pb (0 ≤ x12 ∧ x12 < (8 : Int))
 (ob ((([.int .i64 x4, .int .i64 x5, .int .i64 x6, .int .i64 x7, .int .i64 x8, .int .i64 x9, .int .i64 x10, .int .i64 x11] : List Value)[x12.toNat + 0]?).bind (Value.int? .i64)) fun x18 =>
 bb (x18 != 0)
 (ob (Value.fun? v1) fun q20 =>
 ob (acall P T k lo q20.1 (q20.2.1 ++ [.int .i64 x12] ++ q20.2.2) M) fun r19 =>
 ob ((some r19.1).bind (Value.int? .i64)) fun x21 =>
 some (subpel_sum_1.c935 v1 a2 (IntKind.i64.wrap (x3 + (IntKind.i64.wrap (x18 * x21)))) x4 x5 x6 x7 x8 x9 x10 x11 x12 r19.2))
 (some (subpel_sum_1.c935 v1 a2 x3 x4 x5 x6 x7 x8 x9 x10 x11 x12 M))) none)
 (ob ((M.ld a2).bind (Value.int? .i64)) fun x22 =>
 pb (x22 < 0) none
 (some (.ret (.int .i64 (shrI .i64 x3 x22.toNat)) M))) := by kernel_rfl
theorem subpel_sum_1.p935 (k lo : Nat) (v1 : Value) (a2 : Addr) (x3 : Int) (x4 : Int) (x5 : Int) (x6 : Int) (x7 : Int) (x8 : Int) (x9 : Int) (x10 : Int) (x11 : Int) (x12 : Int) (M : Mem) : piece P T k lo F.subpel_sum_1 935 [.v v1, .v (.pointer (some a2)), .v (.int .i64 x3), .v (.agg ⟨[.int .i64 x4, .int .i64 x5, .int .i64 x6, .int .i64 x7, .int .i64 x8, .int .i64 x9, .int .i64 x10, .int .i64 x11]⟩), .v (.int .i64 x12)] [] M =
 some (subpel_sum_1.c116 v1 a2 x3 x4 x5 x6 x7 x8 x9 x10 x11 (IntKind.i64.wrap (x12 + 1)) M) := by kernel_rfl
theorem math_bits_Mul.entry (k lo : Nat) (x1 : Int) (x2 : Int) (M : Mem) : entry P T k lo F.math_bits_Mul [.int .u64 x1, .int .u64 x2] M =
 ob (acall P T k lo F.math_bits_Mul64 [.int .u64 x1, .int .u64 x2] M) fun r8 =>
 ob (r8.1.tup? 2) fun l9 =>
 ob ((l9[0]?).bind (Value.int? .u64)) fun x10 =>
 ob ((l9[1]?).bind (Value.int? .u64)) fun x11 =>
 some (.ret (.tuple ⟨[.int .u64 x10, .int .u64 x11]⟩) r8.2) := by kernel_rfl
theorem math_bits_Mul32.entry (k lo : Nat) (x1 : Int) (x2 : Int) (M : Mem) : entry P T k lo F.math_bits_Mul32 [.int .u32 x1, .int .u32 x2] M =
 some (.ret (.tuple ⟨[.int .u32 (IntKind.u32.wrap (shrI .u64 (IntKind.u64.wrap ((IntKind.u64.wrap x1) * (IntKind.u64.wrap x2))) 32)), .int .u32 (IntKind.u32.wrap (IntKind.u64.wrap ((IntKind.u64.wrap x1) * (IntKind.u64.wrap x2))))]⟩) M) := by kernel_rfl
theorem math_bits_Mul64.entry (k lo : Nat) (x1 : Int) (x2 : Int) (M : Mem) : entry P T k lo F.math_bits_Mul64 [.int .u64 x1, .int .u64 x2] M =
 some (.ret (.tuple ⟨[.int .u64 (IntKind.u64.wrap ((IntKind.u64.wrap ((IntKind.u64.wrap ((shrI .u64 x1 32) * (shrI .u64 x2 32))) + (shrI .u64 (IntKind.u64.wrap ((IntKind.u64.wrap ((shrI .u64 x1 32) * (andI .u64 x2 4294967295))) + (shrI .u64 (IntKind.u64.wrap ((andI .u64 x1 4294967295) * (andI .u64 x2 4294967295))) 32))) 32))) + (shrI .u64 (IntKind.u64.wrap ((andI .u64 (IntKind.u64.wrap ((IntKind.u64.wrap ((shrI .u64 x1 32) * (andI .u64 x2 4294967295))) + (shrI .u64 (IntKind.u64.wrap ((andI .u64 x1 4294967295) * (andI .u64 x2 4294967295))) 32))) 4294967295) + (IntKind.u64.wrap ((andI .u64 x1 4294967295) * (shrI .u64 x2 32))))) 32))), .int .u64 (IntKind.u64.wrap (x1 * x2))]⟩) M) := by kernel_rfl
end Go.Zt
