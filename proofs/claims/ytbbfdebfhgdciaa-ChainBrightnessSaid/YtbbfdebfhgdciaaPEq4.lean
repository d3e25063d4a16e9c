/- What the law ChainBrightness needs of the text Eq4. -/
import Derived.Test.YtbbfdebfhgdciaaPEq0
import Derived.KernelRfl
set_option maxRecDepth 100000
set_option maxHeartbeats 4000000
set_option linter.unusedVariables false
namespace Go.Zt
theorem math_bits_Mul64.entry (k lo : Nat) (x1 : Int) (x2 : Int) (M : Mem) : entry P T k lo F.math_bits_Mul64 [.int .u64 x1, .int .u64 x2] M =
 some (.ret (.tuple ⟨[.int .u64 (IntKind.u64.wrap ((IntKind.u64.wrap ((IntKind.u64.wrap ((shrI .u64 x1 32) * (shrI .u64 x2 32))) + (shrI .u64 (IntKind.u64.wrap ((IntKind.u64.wrap ((shrI .u64 x1 32) * (andI .u64 x2 4294967295))) + (shrI .u64 (IntKind.u64.wrap ((andI .u64 x1 4294967295) * (andI .u64 x2 4294967295))) 32))) 32))) + (shrI .u64 (IntKind.u64.wrap ((andI .u64 (IntKind.u64.wrap ((IntKind.u64.wrap ((shrI .u64 x1 32) * (andI .u64 x2 4294967295))) + (shrI .u64 (IntKind.u64.wrap ((andI .u64 x1 4294967295) * (andI .u64 x2 4294967295))) 32))) 4294967295) + (IntKind.u64.wrap ((andI .u64 x1 4294967295) * (shrI .u64 x2 32))))) 32))), .int .u64 (IntKind.u64.wrap (x1 * x2))]⟩) M) := by kernel_rfl
theorem slices_IndexFunc__uint8_uint8.entry (k lo : Nat) (A1 : Option Addr) (n2 : Nat) (c3 : Nat) (v4 : Value) (M : Mem) : entry P T k lo F.slices_IndexFunc__uint8_uint8 [.slice A1 n2 c3, v4] M =
 some (slices_IndexFunc__uint8_uint8.c52 A1 n2 c3 v4 (n2 : Int) 0 M) := by kernel_rfl
theorem slices_IndexFunc__uint8_uint8.p52 (k lo : Nat) (A1 : Option Addr) (n2 : Nat) (c3 : Nat) (v4 : Value) (x5 : Int) (x6 : Int) (M : Mem) : piece P T k lo F.slices_IndexFunc__uint8_uint8 52 [.v (.slice A1 n2 c3), .v v4, .v (.int .i64 x5), .v (.int .i64 x6)] [] M =
 bb (decide (x6 < x5))
 (pb (0 ≤ x6 ∧ x6 < (n2 : Int))
 (ob A1 fun a10 =>
 ob ((M.ld (plus a10 x6.toNat)).bind (Value.int? .u8)) fun x11 =>
 ob (Value.fun? v4) fun q13 =>
 ob (acall P T k lo q13.1 (q13.2.1 ++ [.int .u8 x11] ++ q13.2.2) M) fun r12 =>
 ob ((some r12.1).bind Value.bool?) fun b14 =>
 bb b14
 (some (.ret (.int .i64 x6) r12.2))
 (some (slices_IndexFunc__uint8_uint8.c52 A1 n2 c3 v4 x5 (IntKind.i64.wrap (x6 + 1)) r12.2))) none)
 (some (.ret (.int .i64 (-1)) M)) := by kernel_rfl
theorem slices_Index__uint8_uint8.entry (k lo : Nat) (A1 : Option Addr) (n2 : Nat) (c3 : Nat) (x4 : Int) (M : Mem) : entry P T k lo F.slices_Index__uint8_uint8 [.slice A1 n2 c3, .int .u8 x4] M =
 some (slices_Index__uint8_uint8.c52 A1 n2 c3 x4 (n2 : Int) 0 M) := by kernel_rfl
theorem slices_Index__uint8_uint8.p52 (k lo : Nat) (A1 : Option Addr) (n2 : Nat) (c3 : Nat) (x4 : Int) (x5 : Int) (x6 : Int) (M : Mem) : piece P T k lo F.slices_Index__uint8_uint8 52 [.v (.slice A1 n2 c3), .v (.int .u8 x4), .v (.int .i64 x5), .v (.int .i64 x6)] [] M =
 bb (decide (x6 < x5))
 (pb (0 ≤ x6 ∧ x6 < (n2 : Int))
 (ob A1 fun a10 =>
 ob ((M.ld (plus a10 x6.toNat)).bind (Value.int? .u8)) fun x11 =>
 bb (x4 == x11)
 (some (.ret (.int .i64 x6) M))
 (some (slices_Index__uint8_uint8.c52 A1 n2 c3 x4 x5 (IntKind.i64.wrap (x6 + 1)) M))) none)
 (some (.ret (.int .i64 (-1)) M)) := by kernel_rfl
theorem deblock_far.entry (k lo : Nat) (x1 : Int) (x2 : Int) (M : Mem) : entry P T k lo F.deblock_far [.int .u8 x1, .int .u8 x2] M =
 some (.ret (.int .i64 (maxI (IntKind.i64.wrap ((IntKind.i64.wrap x1) - (IntKind.i64.wrap x2))) (IntKind.i64.wrap ((IntKind.i64.wrap x2) - (IntKind.i64.wrap x1))))) M) := by kernel_rfl
theorem deblock_line_p.entry (k lo : Nat) (A1 : Option Addr) (n2 : Nat) (c3 : Nat) (x4 : Int) (x5 : Int) (M : Mem) : entry P T k lo F.deblock_line_p [.agg ⟨[.slice A1 n2 c3, .int .i64 x4]⟩, .int .i64 x5] M =
 pb (0 ≤ IntKind.i64.wrap ((IntKind.i64.wrap (x4 - 1)) - x5) ∧ IntKind.i64.wrap ((IntKind.i64.wrap (x4 - 1)) - x5) < (n2 : Int))
 (ob A1 fun a11 =>
 ob ((M.ld (plus a11 ((IntKind.i64.wrap ((IntKind.i64.wrap (x4 - 1)) - x5)).toNat))).bind (Value.int? .u8)) fun x12 =>
 some (.ret (.int .u8 x12) M)) none := by kernel_rfl
theorem deblock_line_q.entry (k lo : Nat) (A1 : Option Addr) (n2 : Nat) (c3 : Nat) (x4 : Int) (x5 : Int) (M : Mem) : entry P T k lo F.deblock_line_q [.agg ⟨[.slice A1 n2 c3, .int .i64 x4]⟩, .int .i64 x5] M =
 pb (0 ≤ IntKind.i64.wrap (x4 + x5) ∧ IntKind.i64.wrap (x4 + x5) < (n2 : Int))
 (ob A1 fun a11 =>
 ob ((M.ld (plus a11 ((IntKind.i64.wrap (x4 + x5)).toNat))).bind (Value.int? .u8)) fun x12 =>
 some (.ret (.int .u8 x12) M)) none := by kernel_rfl
theorem deblock_clip.entry (k lo : Nat) (x1 : Int) (x2 : Int) (x3 : Int) (M : Mem) : entry P T k lo F.deblock_clip [.int .i64 x1, .int .i64 x2, .int .i64 x3] M =
 some (.ret (.int .i64 (minI (maxI x1 x2) x3)) M) := by kernel_rfl
theorem deblock_line_narrow_1.entry (k lo : Nat) (x1 : Int) (M : Mem) : entry P T k lo F.deblock_line_narrow_1 [.int .i64 x1] M =
 ob (acall P T k lo F.deblock_clip [.int .i64 x1, .int .i64 (-128), .int .i64 127] M) fun r7 =>
 ob ((some r7.1).bind (Value.int? .i64)) fun x8 =>
 some (.ret (.int .i64 x8) r7.2) := by kernel_rfl
theorem deblock_line_narrow_2.entry (k lo : Nat) (x1 : Int) (x2 : Int) (a3 : Addr) (a4 : Addr) (M : Mem) : entry P T k lo F.deblock_line_narrow_2 [.int .i64 x1, .int .i64 x2, .pointer (some a3), .pointer (some a4)] M =
 ob ((if a3.block < M.length then M.ld a3 else none).bind Value.slc?) fun s10 =>
 ob ((if ((plus a4 1).block) < M.length then M.ld (plus a4 1) else none).bind (Value.int? .i64)) fun x11 =>
 ob (acall P T k M.length F.deblock_clip [.int .i64 x2, .int .i64 0, .int .i64 255] M) fun r12 =>
 ob ((some r12.1).bind (Value.int? .i64)) fun x13 =>
 pb (0 ≤ IntKind.i64.wrap (x11 + x1) ∧ IntKind.i64.wrap (x11 + x1) < (s10.n : Int))
 (ob s10.a fun a14 =>
 ob (r12.2.st lo (plus a14 ((IntKind.i64.wrap (x11 + x1)).toNat)) [.int .u8 (IntKind.u8.wrap x13)]) fun M15 =>
 some (.ret (.tuple ⟨[]⟩) M15)) none := by kernel_rfl
end Go.Zt
