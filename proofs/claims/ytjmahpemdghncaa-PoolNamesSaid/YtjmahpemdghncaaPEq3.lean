/- What the law PoolNames needs of the text Eq3. -/
import Derived.Test.YtjmahpemdghncaaPEq0
import Derived.KernelRfl
set_option maxRecDepth 100000
set_option maxHeartbeats 4000000
set_option linter.unusedVariables false
namespace Go.Zt
theorem syms_Check.entry (k lo : Nat) (A1 : Option Addr) (n2 : Nat) (c3 : Nat) (M : Mem) : entry P T k lo F.syms_Check [.agg ⟨[.slice A1 n2 c3]⟩] M =
 bb ((n2 : Int) != 32)
 (some (.ret (.int .i64 2) M))
 (ob (acall P T k lo F.syms_shapes [] M) fun r9 =>
 ob ((some r9.1).bind (Value.agg? 96)) fun l10 =>
 ob ((l10[0]?).bind (Value.int? .i64)) fun x11 =>
 ob ((l10[1]?).bind (Value.int? .i64)) fun x12 =>
 ob ((l10[2]?).bind Value.bool?) fun b13 =>
 ob ((l10[3]?).bind (Value.int? .i64)) fun x14 =>
 ob ((l10[4]?).bind (Value.int? .i64)) fun x15 =>
 ob ((l10[5]?).bind Value.bool?) fun b16 =>
 ob ((l10[6]?).bind (Value.int? .i64)) fun x17 =>
 ob ((l10[7]?).bind (Value.int? .i64)) fun x18 =>
 ob ((l10[8]?).bind Value.bool?) fun b19 =>
 ob ((l10[9]?).bind (Value.int? .i64)) fun x20 =>
 ob ((l10[10]?).bind (Value.int? .i64)) fun x21 =>
 ob ((l10[11]?).bind Value.bool?) fun b22 =>
 ob ((l10[12]?).bind (Value.int? .i64)) fun x23 =>
 ob ((l10[13]?).bind (Value.int? .i64)) fun x24 =>
 ob ((l10[14]?).bind Value.bool?) fun b25 =>
 ob ((l10[15]?).bind (Value.int? .i64)) fun x26 =>
 ob ((l10[16]?).bind (Value.int? .i64)) fun x27 =>
 ob ((l10[17]?).bind Value.bool?) fun b28 =>
 ob ((l10[18]?).bind (Value.int? .i64)) fun x29 =>
 ob ((l10[19]?).bind (Value.int? .i64)) fun x30 =>
 ob ((l10[20]?).bind Value.bool?) fun b31 =>
 ob ((l10[21]?).bind (Value.int? .i64)) fun x32 =>
 ob ((l10[22]?).bind (Value.int? .i64)) fun x33 =>
 ob ((l10[23]?).bind Value.bool?) fun b34 =>
 ob ((l10[24]?).bind (Value.int? .i64)) fun x35 =>
 ob ((l10[25]?).bind (Value.int? .i64)) fun x36 =>
 ob ((l10[26]?).bind Value.bool?) fun b37 =>
 ob ((l10[27]?).bind (Value.int? .i64)) fun x38 =>
 ob ((l10[28]?).bind (Value.int? .i64)) fun x39 =>
 ob ((l10[29]?).bind Value.bool?) fun b40 =>
 ob ((l10[30]?).bind (Value.int? .i64)) fun x41 =>
 ob ((l10[31]?).bind (Value.int? .i64)) fun x42 =>
 ob ((l10[32]?).bind Value.bool?) fun b43 =>
 ob ((l10[33]?).bind (Value.int? .i64)) fun x44 =>
 ob ((l10[34]?).bind (Value.int? .i64)) fun x45 =>
 ob ((l10[35]?).bind Value.bool?) fun b46 =>
 ob ((l10[36]?).bind (Value.int? .i64)) fun x47 =>
 ob ((l10[37]?).bind (Value.int? .i64)) fun x48 =>
 ob ((l10[38]?).bind Value.bool?) fun b49 =>
 ob ((l10[39]?).bind (Value.int? .i64)) fun x50 =>
 ob ((l10[40]?).bind (Value.int? .i64)) fun x51 =>
 ob ((l10[41]?).bind Value.bool?) fun b52 =>
 ob ((l10[42]?).bind (Value.int? .i64)) fun x53 =>
 ob ((l10[43]?).bind (Value.int? .i64)) fun x54 =>
 ob ((l10[44]?).bind Value.bool?) fun b55 =>
 ob ((l10[45]?).bind (Value.int? .i64)) fun x56 =>
 ob ((l10[46]?).bind (Value.int? .i64)) fun x57 =>
 ob ((l10[47]?).bind Value.bool?) fun b58 =>
 ob ((l10[48]?).bind (Value.int? .i64)) fun x59 =>
 ob ((l10[49]?).bind (Value.int? .i64)) fun x60 =>
 ob ((l10[50]?).bind Value.bool?) fun b61 =>
 ob ((l10[51]?).bind (Value.int? .i64)) fun x62 =>
 ob ((l10[52]?).bind (Value.int? .i64)) fun x63 =>
 ob ((l10[53]?).bind Value.bool?) fun b64 =>
 ob ((l10[54]?).bind (Value.int? .i64)) fun x65 =>
 ob ((l10[55]?).bind (Value.int? .i64)) fun x66 =>
 ob ((l10[56]?).bind Value.bool?) fun b67 =>
 ob ((l10[57]?).bind (Value.int? .i64)) fun x68 =>
 ob ((l10[58]?).bind (Value.int? .i64)) fun x69 =>
 ob ((l10[59]?).bind Value.bool?) fun b70 =>
 ob ((l10[60]?).bind (Value.int? .i64)) fun x71 =>
 ob ((l10[61]?).bind (Value.int? .i64)) fun x72 =>
 ob ((l10[62]?).bind Value.bool?) fun b73 =>
 ob ((l10[63]?).bind (Value.int? .i64)) fun x74 =>
 ob ((l10[64]?).bind (Value.int? .i64)) fun x75 =>
 ob ((l10[65]?).bind Value.bool?) fun b76 =>
 ob ((l10[66]?).bind (Value.int? .i64)) fun x77 =>
 ob ((l10[67]?).bind (Value.int? .i64)) fun x78 =>
 ob ((l10[68]?).bind Value.bool?) fun b79 =>
 ob ((l10[69]?).bind (Value.int? .i64)) fun x80 =>
 ob ((l10[70]?).bind (Value.int? .i64)) fun x81 =>
 ob ((l10[71]?).bind Value.bool?) fun b82 =>
 ob ((l10[72]?).bind (Value.int? .i64)) fun x83 =>
 ob ((l10[73]?).bind (Value.int? .i64)) fun x84 =>
 ob ((l10[74]?).bind Value.bool?) fun b85 =>
 ob ((l10[75]?).bind (Value.int? .i64)) fun x86 =>
 ob ((l10[76]?).bind (Value.int? .i64)) fun x87 =>
 ob ((l10[77]?).bind Value.bool?) fun b88 =>
 ob ((l10[78]?).bind (Value.int? .i64)) fun x89 =>
 ob ((l10[79]?).bind (Value.int? .i64)) fun x90 =>
 ob ((l10[80]?).bind Value.bool?) fun b91 =>
 ob ((l10[81]?).bind (Value.int? .i64)) fun x92 =>
 ob ((l10[82]?).bind (Value.int? .i64)) fun x93 =>
 ob ((l10[83]?).bind Value.bool?) fun b94 =>
 ob ((l10[84]?).bind (Value.int? .i64)) fun x95 =>
 ob ((l10[85]?).bind (Value.int? .i64)) fun x96 =>
 ob ((l10[86]?).bind Value.bool?) fun b97 =>
 ob ((l10[87]?).bind (Value.int? .i64)) fun x98 =>
 ob ((l10[88]?).bind (Value.int? .i64)) fun x99 =>
 ob ((l10[89]?).bind Value.bool?) fun b100 =>
 ob ((l10[90]?).bind (Value.int? .i64)) fun x101 =>
 ob ((l10[91]?).bind (Value.int? .i64)) fun x102 =>
 ob ((l10[92]?).bind Value.bool?) fun b103 =>
 ob ((l10[93]?).bind (Value.int? .i64)) fun x104 =>
 ob ((l10[94]?).bind (Value.int? .i64)) fun x105 =>
 ob ((l10[95]?).bind Value.bool?) fun b106 =>
 some (syms_Check.c116 x11 x12 b13 x14 x15 b16 x17 x18 b19 x20 x21 b22 x23 x24 b25 x26 x27 b28 x29 x30 b31 x32 x33 b34 x35 x36 b37 x38 x39 b40 x41 x42 b43 x44 x45 b46 x47 x48 b49 x50 x51 b52 x53 x54 b55 x56 x57 b58 x59 x60 b61 x62 x63 b64 x65 x66 b67 x68 x69 b70 x71 x72 b73 x74 x75 b76 x77 x78 b79 x80 x81 b82 x83 x84 b85 x86 x87 b88 x89 x90 b91 x92 x93 b94 x95 x96 b97 x98 x99 b100 x101 x102 b103 x104 x105 b106 0 A1 n2 c3 r9.2)) := by kernel_rfl
theorem syms_Check.p116 (k lo : Nat) (x1 : Int) (x2 : Int) (b3 : Bool) (x4 : Int) (x5 : Int) (b6 : Bool) (x7 : Int) (x8 : Int) (b9 : Bool) (x10 : Int) (x11 : Int) (b12 : Bool) (x13 : Int) (x14 : Int) (b15 : Bool) (x16 : Int) (x17 : Int) (b18 : Bool) (x19 : Int) (x20 : Int) (b21 : Bool) (x22 : Int) (x23 : Int) (b24 : Bool) (x25 : Int) (x26 : Int) (b27 : Bool) (x28 : Int) (x29 : Int) (b30 : Bool) (x31 : Int) (x32 : Int) (b33 : Bool) (x34 : Int) (x35 : Int) (b36 : Bool) (x37 : Int) (x38 : Int) (b39 : Bool) (x40 : Int) (x41 : Int) (b42 : Bool) (x43 : Int) (x44 : Int) (b45 : Bool) (x46 : Int) (x47 : Int) (b48 : Bool) (x49 : Int) (x50 : Int) (b51 : Bool) (x52 : Int) (x53 : Int) (b54 : Bool) (x55 : Int) (x56 : Int) (b57 : Bool) (x58 : Int) (x59 : Int) (b60 : Bool) (x61 : Int) (x62 : Int) (b63 : Bool) (x64 : Int) (x65 : Int) (b66 : Bool) (x67 : Int) (x68 : Int) (b69 : Bool) (x70 : Int) (x71 : Int) (b72 : Bool) (x73 : Int) (x74 : Int) (b75 : Bool) (x76 : Int) (x77 : Int) (b78 : Bool) (x79 : Int) (x80 : Int) (b81 : Bool) (x82 : Int) (x83 : Int) (b84 : Bool) (x85 : Int) (x86 : Int) (b87 : Bool) (x88 : Int) (x89 : Int) (b90 : Bool) (x91 : Int) (x92 : Int) (b93 : Bool) (x94 : Int) (x95 : Int) (b96 : Bool) (x97 : Int) (A98 : Option Addr) (n99 : Nat) (c100 : Nat) (M : Mem) : piece P T k lo F.syms_Check 116 [.l 1 0, .v (.agg ⟨[.int .i64 x1, .int .i64 x2, .bool b3, .int .i64 x4, .int .i64 x5, .bool b6, .int .i64 x7, .int .i64 x8, .bool b9, .int .i64 x10, .int .i64 x11, .bool b12, .int .i64 x13, .int .i64 x14, .bool b15, .int .i64 x16, .int .i64 x17, .bool b18, .int .i64 x19, .int .i64 x20, .bool b21, .int .i64 x22, .int .i64 x23, .bool b24, .int .i64 x25, .int .i64 x26, .bool b27, .int .i64 x28, .int .i64 x29, .bool b30, .int .i64 x31, .int .i64 x32, .bool b33, .int .i64 x34, .int .i64 x35, .bool b36, .int .i64 x37, .int .i64 x38, .bool b39, .int .i64 x40, .int .i64 x41, .bool b42, .int .i64 x43, .int .i64 x44, .bool b45, .int .i64 x46, .int .i64 x47, .bool b48, .int .i64 x49, .int .i64 x50, .bool b51, .int .i64 x52, .int .i64 x53, .bool b54, .int .i64 x55, .int .i64 x56, .bool b57, .int .i64 x58, .int .i64 x59, .bool b60, .int .i64 x61, .int .i64 x62, .bool b63, .int .i64 x64, .int .i64 x65, .bool b66, .int .i64 x67, .int .i64 x68, .bool b69, .int .i64 x70, .int .i64 x71, .bool b72, .int .i64 x73, .int .i64 x74, .bool b75, .int .i64 x76, .int .i64 x77, .bool b78, .int .i64 x79, .int .i64 x80, .bool b81, .int .i64 x82, .int .i64 x83, .bool b84, .int .i64 x85, .int .i64 x86, .bool b87, .int .i64 x88, .int .i64 x89, .bool b90, .int .i64 x91, .int .i64 x92, .bool b93, .int .i64 x94, .int .i64 x95, .bool b96]⟩), .v (.int .i64 x97)] [[.slice A98 n99 c100]] M =
 bb (decide (x97 < 32))
 (pb (0 ≤ x97 ∧ x97 < (32 : Int))
 (ob ((([.int .i64 x1, .int .i64 x2, .bool b3, .int .i64 x4, .int .i64 x5, .bool b6, .int .i64 x7, .int .i64 x8, .bool b9, .int .i64 x10, .int .i64 x11, .bool b12, .int .i64 x13, .int .i64 x14, .bool b15, .int .i64 x16, .int .i64 x17, .bool b18, .int .i64 x19, .int .i64 x20, .bool b21, .int .i64 x22, .int .i64 x23, .bool b24, .int .i64 x25, .int .i64 x26, .bool b27, .int .i64 x28, .int .i64 x29, .bool b30, .int .i64 x31, .int .i64 x32, .bool b33, .int .i64 x34, .int .i64 x35, .bool b36, .int .i64 x37, .int .i64 x38, .bool b39, .int .i64 x40, .int .i64 x41, .bool b42, .int .i64 x43, .int .i64 x44, .bool b45, .int .i64 x46, .int .i64 x47, .bool b48, .int .i64 x49, .int .i64 x50, .bool b51, .int .i64 x52, .int .i64 x53, .bool b54, .int .i64 x55, .int .i64 x56, .bool b57, .int .i64 x58, .int .i64 x59, .bool b60, .int .i64 x61, .int .i64 x62, .bool b63, .int .i64 x64, .int .i64 x65, .bool b66, .int .i64 x67, .int .i64 x68, .bool b69, .int .i64 x70, .int .i64 x71, .bool b72, .int .i64 x73, .int .i64 x74, .bool b75, .int .i64 x76, .int .i64 x77, .bool b78, .int .i64 x79, .int .i64 x80, .bool b81, .int .i64 x82, .int .i64 x83, .bool b84, .int .i64 x85, .int .i64 x86, .bool b87, .int .i64 x88, .int .i64 x89, .bool b90, .int .i64 x91, .int .i64 x92, .bool b93, .int .i64 x94, .int .i64 x95, .bool b96] : List Value)[x97.toNat * 3 + 0]?).bind (Value.int? .i64)) fun x107 =>
 ob ((([.int .i64 x1, .int .i64 x2, .bool b3, .int .i64 x4, .int .i64 x5, .bool b6, .int .i64 x7, .int .i64 x8, .bool b9, .int .i64 x10, .int .i64 x11, .bool b12, .int .i64 x13, .int .i64 x14, .bool b15, .int .i64 x16, .int .i64 x17, .bool b18, .int .i64 x19, .int .i64 x20, .bool b21, .int .i64 x22, .int .i64 x23, .bool b24, .int .i64 x25, .int .i64 x26, .bool b27, .int .i64 x28, .int .i64 x29, .bool b30, .int .i64 x31, .int .i64 x32, .bool b33, .int .i64 x34, .int .i64 x35, .bool b36, .int .i64 x37, .int .i64 x38, .bool b39, .int .i64 x40, .int .i64 x41, .bool b42, .int .i64 x43, .int .i64 x44, .bool b45, .int .i64 x46, .int .i64 x47, .bool b48, .int .i64 x49, .int .i64 x50, .bool b51, .int .i64 x52, .int .i64 x53, .bool b54, .int .i64 x55, .int .i64 x56, .bool b57, .int .i64 x58, .int .i64 x59, .bool b60, .int .i64 x61, .int .i64 x62, .bool b63, .int .i64 x64, .int .i64 x65, .bool b66, .int .i64 x67, .int .i64 x68, .bool b69, .int .i64 x70, .int .i64 x71, .bool b72, .int .i64 x73, .int .i64 x74, .bool b75, .int .i64 x76, .int .i64 x77, .bool b78, .int .i64 x79, .int .i64 x80, .bool b81, .int .i64 x82, .int .i64 x83, .bool b84, .int .i64 x85, .int .i64 x86, .bool b87, .int .i64 x88, .int .i64 x89, .bool b90, .int .i64 x91, .int .i64 x92, .bool b93, .int .i64 x94, .int .i64 x95, .bool b96] : List Value)[x97.toNat * 3 + 1]?).bind (Value.int? .i64)) fun x108 =>
 ob ((([.int .i64 x1, .int .i64 x2, .bool b3, .int .i64 x4, .int .i64 x5, .bool b6, .int .i64 x7, .int .i64 x8, .bool b9, .int .i64 x10, .int .i64 x11, .bool b12, .int .i64 x13, .int .i64 x14, .bool b15, .int .i64 x16, .int .i64 x17, .bool b18, .int .i64 x19, .int .i64 x20, .bool b21, .int .i64 x22, .int .i64 x23, .bool b24, .int .i64 x25, .int .i64 x26, .bool b27, .int .i64 x28, .int .i64 x29, .bool b30, .int .i64 x31, .int .i64 x32, .bool b33, .int .i64 x34, .int .i64 x35, .bool b36, .int .i64 x37, .int .i64 x38, .bool b39, .int .i64 x40, .int .i64 x41, .bool b42, .int .i64 x43, .int .i64 x44, .bool b45, .int .i64 x46, .int .i64 x47, .bool b48, .int .i64 x49, .int .i64 x50, .bool b51, .int .i64 x52, .int .i64 x53, .bool b54, .int .i64 x55, .int .i64 x56, .bool b57, .int .i64 x58, .int .i64 x59, .bool b60, .int .i64 x61, .int .i64 x62, .bool b63, .int .i64 x64, .int .i64 x65, .bool b66, .int .i64 x67, .int .i64 x68, .bool b69, .int .i64 x70, .int .i64 x71, .bool b72, .int .i64 x73, .int .i64 x74, .bool b75, .int .i64 x76, .int .i64 x77, .bool b78, .int .i64 x79, .int .i64 x80, .bool b81, .int .i64 x82, .int .i64 x83, .bool b84, .int .i64 x85, .int .i64 x86, .bool b87, .int .i64 x88, .int .i64 x89, .bool b90, .int .i64 x91, .int .i64 x92, .bool b93, .int .i64 x94, .int .i64 x95, .bool b96] : List Value)[x97.toNat * 3 + 2]?).bind Value.bool?) fun b109 =>
 pb (0 ≤ x97 ∧ x97 < (n99 : Int))
 (ob A98 fun a110 =>
 ob ((M.ld (plus a110 x97.toNat)).bind Value.slc?) fun s111 =>
 bb ((s111.n : Int) != x107)
 (some (.ret (.int .i64 2) M))
 (pb (0 ≤ x97 ∧ x97 < (n99 : Int))
 (ob A98 fun a112 =>
 ob ((M.ld (plus a112 x97.toNat)).bind Value.slc?) fun s113 =>
 some (syms_Check.c59804 x1 x2 b3 x4 x5 b6 x7 x8 b9 x10 x11 b12 x13 x14 b15 x16 x17 b18 x19 x20 b21 x22 x23 b24 x25 x26 b27 x28 x29 b30 x31 x32 b33 x34 x35 b36 x37 x38 b39 x40 x41 b42 x43 x44 b45 x46 x47 b48 x49 x50 b51 x52 x53 b54 x55 x56 b57 x58 x59 b60 x61 x62 b63 x64 x65 b66 x67 x68 b69 x70 x71 b72 x73 x74 b75 x76 x77 b78 x79 x80 b81 x82 x83 b84 x85 x86 b87 x88 x89 b90 x91 x92 b93 x94 x95 b96 x97 s113.a s113.n s113.c (s113.n : Int) 0 A98 n99 c100 x107 x108 b109 M)) none)) none) none)
 (some (.ret (.int .i64 0) M)) := by kernel_rfl
theorem syms_Check.p59804 (k lo : Nat) (x1 : Int) (x2 : Int) (b3 : Bool) (x4 : Int) (x5 : Int) (b6 : Bool) (x7 : Int) (x8 : Int) (b9 : Bool) (x10 : Int) (x11 : Int) (b12 : Bool) (x13 : Int) (x14 : Int) (b15 : Bool) (x16 : Int) (x17 : Int) (b18 : Bool) (x19 : Int) (x20 : Int) (b21 : Bool) (x22 : Int) (x23 : Int) (b24 : Bool) (x25 : Int) (x26 : Int) (b27 : Bool) (x28 : Int) (x29 : Int) (b30 : Bool) (x31 : Int) (x32 : Int) (b33 : Bool) (x34 : Int) (x35 : Int) (b36 : Bool) (x37 : Int) (x38 : Int) (b39 : Bool) (x40 : Int) (x41 : Int) (b42 : Bool) (x43 : Int) (x44 : Int) (b45 : Bool) (x46 : Int) (x47 : Int) (b48 : Bool) (x49 : Int) (x50 : Int) (b51 : Bool) (x52 : Int) (x53 : Int) (b54 : Bool) (x55 : Int) (x56 : Int) (b57 : Bool) (x58 : Int) (x59 : Int) (b60 : Bool) (x61 : Int) (x62 : Int) (b63 : Bool) (x64 : Int) (x65 : Int) (b66 : Bool) (x67 : Int) (x68 : Int) (b69 : Bool) (x70 : Int) (x71 : Int) (b72 : Bool) (x73 : Int) (x74 : Int) (b75 : Bool) (x76 : Int) (x77 : Int) (b78 : Bool) (x79 : Int) (x80 : Int) (b81 : Bool) (x82 : Int) (x83 : Int) (b84 : Bool) (x85 : Int) (x86 : Int) (b87 : Bool) (x88 : Int) (x89 : Int) (b90 : Bool) (x91 : Int) (x92 : Int) (b93 : Bool) (x94 : Int) (x95 : Int) (b96 : Bool) (x97 : Int) (A98 : Option Addr) (n99 : Nat) (c100 : Nat) (x101 : Int) (x102 : Int) (A103 : Option Addr) (n104 : Nat) (c105 : Nat) (x106 : Int) (x107 : Int) (b108 : Bool) (M : Mem) : piece P T k lo F.syms_Check 59804 [.l 1 0, .l 4 0, .v (.agg ⟨[.int .i64 x1, .int .i64 x2, .bool b3, .int .i64 x4, .int .i64 x5, .bool b6, .int .i64 x7, .int .i64 x8, .bool b9, .int .i64 x10, .int .i64 x11, .bool b12, .int .i64 x13, .int .i64 x14, .bool b15, .int .i64 x16, .int .i64 x17, .bool b18, .int .i64 x19, .int .i64 x20, .bool b21, .int .i64 x22, .int .i64 x23, .bool b24, .int .i64 x25, .int .i64 x26, .bool b27, .int .i64 x28, .int .i64 x29, .bool b30, .int .i64 x31, .int .i64 x32, .bool b33, .int .i64 x34, .int .i64 x35, .bool b36, .int .i64 x37, .int .i64 x38, .bool b39, .int .i64 x40, .int .i64 x41, .bool b42, .int .i64 x43, .int .i64 x44, .bool b45, .int .i64 x46, .int .i64 x47, .bool b48, .int .i64 x49, .int .i64 x50, .bool b51, .int .i64 x52, .int .i64 x53, .bool b54, .int .i64 x55, .int .i64 x56, .bool b57, .int .i64 x58, .int .i64 x59, .bool b60, .int .i64 x61, .int .i64 x62, .bool b63, .int .i64 x64, .int .i64 x65, .bool b66, .int .i64 x67, .int .i64 x68, .bool b69, .int .i64 x70, .int .i64 x71, .bool b72, .int .i64 x73, .int .i64 x74, .bool b75, .int .i64 x76, .int .i64 x77, .bool b78, .int .i64 x79, .int .i64 x80, .bool b81, .int .i64 x82, .int .i64 x83, .bool b84, .int .i64 x85, .int .i64 x86, .bool b87, .int .i64 x88, .int .i64 x89, .bool b90, .int .i64 x91, .int .i64 x92, .bool b93, .int .i64 x94, .int .i64 x95, .bool b96]⟩), .v (.int .i64 x97), .v (.slice A98 n99 c100), .v (.int .i64 x101), .v (.int .i64 x102)] [[.slice A103 n104 c105], [.int .i64 x106, .int .i64 x107, .bool b108]] M =
 bb (decide (x102 < x101))
 (pb (0 ≤ x102 ∧ x102 < (n99 : Int))
 (ob A98 fun a114 =>
 ob ((M.ld (plus a114 (x102.toNat * 2))).bind Value.slc?) fun s115 =>
 ob ((M.ld (plus (plus a114 (x102.toNat * 2)) 1)).bind (Value.int? .i64)) fun x116 =>
 bb ((s115.n : Int) != x107)
 (some (.ret (.int .i64 2) M))
 (ob (acall P T k lo F.cdf_Check [.agg ⟨[.slice s115.a s115.n s115.c, .int .i64 x116]⟩] M) fun r117 =>
 ob ((some r117.1).bind (Value.int? .i64)) fun x118 =>
 bb (x118 != 0)
 (some (.ret (.int .i64 2) r117.2))
 (some (syms_Check.c59804 x1 x2 b3 x4 x5 b6 x7 x8 b9 x10 x11 b12 x13 x14 b15 x16 x17 b18 x19 x20 b21 x22 x23 b24 x25 x26 b27 x28 x29 b30 x31 x32 b33 x34 x35 b36 x37 x38 b39 x40 x41 b42 x43 x44 b45 x46 x47 b48 x49 x50 b51 x52 x53 b54 x55 x56 b57 x58 x59 b60 x61 x62 b63 x64 x65 b66 x67 x68 b69 x70 x71 b72 x73 x74 b75 x76 x77 b78 x79 x80 b81 x82 x83 b84 x85 x86 b87 x88 x89 b90 x91 x92 b93 x94 x95 b96 x97 A98 n99 c100 x101 (IntKind.i64.wrap (x102 + 1)) A103 n104 c105 x106 x107 b108 r117.2)))) none)
 (some (syms_Check.c116 x1 x2 b3 x4 x5 b6 x7 x8 b9 x10 x11 b12 x13 x14 b15 x16 x17 b18 x19 x20 b21 x22 x23 b24 x25 x26 b27 x28 x29 b30 x31 x32 b33 x34 x35 b36 x37 x38 b39 x40 x41 b42 x43 x44 b45 x46 x47 b48 x49 x50 b51 x52 x53 b54 x55 x56 b57 x58 x59 b60 x61 x62 b63 x64 x65 b66 x67 x68 b69 x70 x71 b72 x73 x74 b75 x76 x77 b78 x79 x80 b81 x82 x83 b84 x85 x86 b87 x88 x89 b90 x91 x92 b93 x94 x95 b96 (IntKind.i64.wrap (x97 + 1)) A103 n104 c105 M)) := by kernel_rfl
theorem pool_copied.entry (k lo : Nat) (x1 : Int) (x2 : Int) (A3 : Option Addr) (n4 : Nat) (c5 : Nat) (x6 : Int) (x7 : Int) (A8 : Option Addr) (n9 : Nat) (c10 : Nat) (x11 : Int) (x12 : Int) (A13 : Option Addr) (n14 : Nat) (c15 : Nat) (M : Mem) : entry P T k lo F.pool_copied [.agg ⟨[.int .i64 x1, .int .i64 x2, .slice A3 n4 c5, .int .i64 x6, .int .i64 x7, .slice A8 n9 c10, .int .i64 x11, .int .i64 x12, .slice A13 n14 c15]⟩] M =
 some (pool_copied.c52 0 ([.int .i64 x1, .int .i64 x2, .slice A3 n4 c5, .int .i64 x6, .int .i64 x7, .slice A8 n9 c10, .int .i64 x11, .int .i64 x12, .slice A13 n14 c15]) 0 0 none 0 0 0 0 none 0 0 0 0 none 0 0 M) := by kernel_rfl
theorem pool_copied.p52 (k lo : Nat) (x1 : Int) (cs2 : List Value) (x3 : Int) (x4 : Int) (A5 : Option Addr) (n6 : Nat) (c7 : Nat) (x8 : Int) (x9 : Int) (A10 : Option Addr) (n11 : Nat) (c12 : Nat) (x13 : Int) (x14 : Int) (A15 : Option Addr) (n16 : Nat) (c17 : Nat) (M : Mem) : piece P T k lo F.pool_copied 52 [.l 1 0, .l 2 0, .v (.int .i64 x1)] [cs2, [.int .i64 x3, .int .i64 x4, .slice A5 n6 c7, .int .i64 x8, .int .i64 x9, .slice A10 n11 c12, .int .i64 x13, .int .i64 x14, .slice A15 n16 c17]] M =
 bb (decide (x1 < 3))
 (pb (0 ≤ x1 ∧ x1 < (3 : Int))
 (ob ((cs2[0 + (x1.toNat * 3) + 2 + 0]?).bind Value.slc?) fun s21 =>
 ob (acall P T k lo F.slices_Clone__uint8_uint8 [.slice s21.a s21.n s21.c] M) fun r22 =>
 ob ((some r22.1).bind Value.slc?) fun s23 =>
 pb (0 ≤ x1 ∧ x1 < (3 : Int))
 (pb (0 + (x1.toNat * 3) + 2 + 1 ≤ cs2.length)
 (some (pool_copied.c52 (IntKind.i64.wrap (x1 + 1)) (setL cs2 (0 + (x1.toNat * 3) + 2) [.slice s23.a s23.n s23.c]) x3 x4 A5 n6 c7 x8 x9 A10 n11 c12 x13 x14 A15 n16 c17 r22.2)) none) none) none)
 (ob ((cs2[0]?).bind (Value.int? .i64)) fun x24 =>
 ob ((cs2[1]?).bind (Value.int? .i64)) fun x25 =>
 ob ((cs2[2]?).bind Value.slc?) fun s26 =>
 ob ((cs2[3]?).bind (Value.int? .i64)) fun x27 =>
 ob ((cs2[4]?).bind (Value.int? .i64)) fun x28 =>
 ob ((cs2[5]?).bind Value.slc?) fun s29 =>
 ob ((cs2[6]?).bind (Value.int? .i64)) fun x30 =>
 ob ((cs2[7]?).bind (Value.int? .i64)) fun x31 =>
 ob ((cs2[8]?).bind Value.slc?) fun s32 =>
 some (.ret (.agg ⟨[.int .i64 x24, .int .i64 x25, .slice s26.a s26.n s26.c, .int .i64 x27, .int .i64 x28, .slice s29.a s29.n s29.c, .int .i64 x30, .int .i64 x31, .slice s32.a s32.n s32.c]⟩) M)) := by kernel_rfl
theorem syms_Copy.entry (k lo : Nat) (A1 : Option Addr) (n2 : Nat) (c3 : Nat) (M : Mem) : entry P T k lo F.syms_Copy [.agg ⟨[.slice A1 n2 c3]⟩] M =
 pb (0 ≤ (n2 : Int) ∧ room ((n2 : Int).toNat) 24)
 (some (syms_Copy.c116 A1 n2 c3 (n2 : Int) 0 none 0 0 (some ⟨M.length, 0, none⟩) ((n2 : Int).toNat) ((n2 : Int).toNat) (M ++ [⟨.fx, zerosL [.slice none 0 0] ((n2 : Int).toNat)⟩] : Mem))) none := by kernel_rfl
theorem syms_Copy.p116 (k lo : Nat) (A1 : Option Addr) (n2 : Nat) (c3 : Nat) (x4 : Int) (x5 : Int) (A6 : Option Addr) (n7 : Nat) (c8 : Nat) (A9 : Option Addr) (n10 : Nat) (c11 : Nat) (M : Mem) : piece P T k lo F.syms_Copy 116 [.l 2 0, .l 3 0, .v (.slice A1 n2 c3), .v (.int .i64 x4), .v (.int .i64 x5)] [[.slice A6 n7 c8], [.slice A9 n10 c11]] M =
 bb (decide (x5 < x4))
 (pb (0 ≤ x5 ∧ x5 < (n2 : Int))
 (ob A1 fun a12 =>
 ob ((M.ld (plus a12 x5.toNat)).bind Value.slc?) fun s13 =>
 ob (acall P T k M.length F.slices_Clone__api_Table_api_Table [.slice s13.a s13.n s13.c] M) fun r14 =>
 ob ((some r14.1).bind Value.slc?) fun s15 =>
 pb (0 ≤ x5 ∧ x5 < (n10 : Int))
 (ob A9 fun a16 =>
 ob (r14.2.st lo (plus a16 x5.toNat) [.slice s15.a s15.n s15.c]) fun M17 =>
 some (syms_Copy.c59804 x5 s13.a s13.n s13.c A1 n2 c3 x4 x5 (s13.n : Int) 0 A6 n7 c8 A9 n10 c11 M17)) none) none)
 (some (.ret (.agg ⟨[.slice A9 n10 c11]⟩) M)) := by kernel_rfl
theorem syms_Copy.p59804 (k lo : Nat) (x1 : Int) (A2 : Option Addr) (n3 : Nat) (c4 : Nat) (A5 : Option Addr) (n6 : Nat) (c7 : Nat) (x8 : Int) (x9 : Int) (x10 : Int) (x11 : Int) (A12 : Option Addr) (n13 : Nat) (c14 : Nat) (A15 : Option Addr) (n16 : Nat) (c17 : Nat) (M : Mem) : piece P T k lo F.syms_Copy 59804 [.l 2 0, .l 3 0, .v (.int .i64 x1), .v (.slice A2 n3 c4), .v (.slice A5 n6 c7), .v (.int .i64 x8), .v (.int .i64 x9), .v (.int .i64 x10), .v (.int .i64 x11)] [[.slice A12 n13 c14], [.slice A15 n16 c17]] M =
 bb (decide (x11 < x10))
 (pb (0 ≤ x1 ∧ x1 < (n16 : Int))
 (ob A15 fun a18 =>
 ob ((if ((plus a18 x1.toNat).block) < M.length then M.ld (plus a18 x1.toNat) else none).bind Value.slc?) fun s19 =>
 pb (0 ≤ x11 ∧ x11 < (n3 : Int))
 (ob A2 fun a20 =>
 ob ((M.ld (plus a20 (x11.toNat * 2))).bind Value.slc?) fun s21 =>
 ob (acall P T k M.length F.slices_Clone__uint16_uint16 [.slice s21.a s21.n s21.c] M) fun r22 =>
 ob ((some r22.1).bind Value.slc?) fun s23 =>
 pb (0 ≤ x11 ∧ x11 < (s19.n : Int))
 (ob s19.a fun a24 =>
 ob (r22.2.st lo (plus a24 (x11.toNat * 2)) [.slice s23.a s23.n s23.c]) fun M25 =>
 some (syms_Copy.c59804 x1 A2 n3 c4 A5 n6 c7 x8 x9 x10 (IntKind.i64.wrap (x11 + 1)) A12 n13 c14 A15 n16 c17 M25)) none) none) none)
 (some (syms_Copy.c116 A5 n6 c7 x8 (IntKind.i64.wrap (x9 + 1)) A12 n13 c14 A15 n16 c17 M)) := by kernel_rfl
theorem syms_shapes.entry (k lo : Nat) (M : Mem) : entry P T k lo F.syms_shapes [] M =
 some (.ret (.agg ⟨[.int .i64 8, .int .i64 10, .bool false, .int .i64 4, .int .i64 8, .bool false, .int .i64 3, .int .i64 2, .bool false, .int .i64 3, .int .i64 2, .bool false, .int .i64 4, .int .i64 13, .bool false, .int .i64 8, .int .i64 7, .bool false, .int .i64 1, .int .i64 13, .bool false, .int .i64 1, .int .i64 14, .bool false, .int .i64 1, .int .i64 8, .bool false, .int .i64 2, .int .i64 16, .bool true, .int .i64 1, .int .i64 2, .bool false, .int .i64 3, .int .i64 3, .bool false, .int .i64 3, .int .i64 9, .bool false, .int .i64 1, .int .i64 2, .bool false, .int .i64 3, .int .i64 3, .bool false, .int .i64 1, .int .i64 2, .bool false, .int .i64 3, .int .i64 4, .bool false, .int .i64 1, .int .i64 4, .bool false, .int .i64 2, .int .i64 11, .bool true, .int .i64 2, .int .i64 8, .bool false, .int .i64 1, .int .i64 3, .bool false, .int .i64 1, .int .i64 2, .bool false, .int .i64 4, .int .i64 2, .bool false, .int .i64 2, .int .i64 5, .bool false, .int .i64 2, .int .i64 7, .bool false, .int .i64 2, .int .i64 9, .bool false, .int .i64 2, .int .i64 11, .bool false, .int .i64 2, .int .i64 3, .bool true, .int .i64 10, .int .i64 4, .bool true, .int .i64 14, .int .i64 4, .bool true, .int .i64 6, .int .i64 2, .bool false, .int .i64 3, .int .i64 2, .bool false]⟩) M) := by kernel_rfl
theorem cdf_Flat.entry (k lo : Nat) (x1 : Int) (M : Mem) : entry P T k lo F.cdf_Flat [.int .i64 x1] M =
 ob (acall P T k lo F.cdf_sizes [.int .i64 x1] M) fun r7 =>
 ob ((some r7.1).bind Value.bool?) fun b8 =>
 bb (!b8)
 (some (.ret (.tuple ⟨[.agg ⟨[.slice none 0 0, .int .i64 0]⟩, .int .i64 2]⟩) r7.2))
 (pb (0 ≤ x1 ∧ room x1.toNat 2)
 (some (cdf_Flat.c244 x1 (x1.toNat : Int) 0 none 0 0 0 (some ⟨r7.2.length, 0, none⟩) x1.toNat x1.toNat 0 (r7.2 ++ [⟨.fx, zerosL [.int .u16 0] x1.toNat⟩] : Mem))) none) := by kernel_rfl
theorem cdf_Flat.p244 (k lo : Nat) (x1 : Int) (x2 : Int) (x3 : Int) (A4 : Option Addr) (n5 : Nat) (c6 : Nat) (x7 : Int) (A8 : Option Addr) (n9 : Nat) (c10 : Nat) (x11 : Int) (M : Mem) : piece P T k lo F.cdf_Flat 244 [.v (.int .i64 x1), .l 2 0, .l 4 0, .v (.int .i64 x2), .v (.int .i64 x3)] [[.slice A4 n5 c6, .int .i64 x7], [.slice A8 n9 c10, .int .i64 x11]] M =
 bb (decide (x3 < x2))
 (pb (x1 = 0) none
 (pb (0 ≤ x3 ∧ x3 < (n9 : Int))
 (ob A8 fun a12 =>
 ob (M.st lo (plus a12 x3.toNat) [.int .u16 (IntKind.u16.wrap (IntKind.i64.wrap (Int.tdiv (IntKind.i64.wrap (32768 * (IntKind.i64.wrap (x3 + 1)))) x1)))]) fun M13 =>
 some (cdf_Flat.c244 x1 x2 (IntKind.i64.wrap (x3 + 1)) A4 n5 c6 x7 A8 n9 c10 x11 M13)) none))
 (some (.ret (.tuple ⟨[.agg ⟨[.slice A8 n9 c10, .int .i64 x11]⟩, .int .i64 0]⟩) M)) := by kernel_rfl
theorem cdf_Steep.entry (k lo : Nat) (x1 : Int) (M : Mem) : entry P T k lo F.cdf_Steep [.int .i64 x1] M =
 ob (acall P T k lo F.cdf_sizes [.int .i64 x1] M) fun r7 =>
 ob ((some r7.1).bind Value.bool?) fun b8 =>
 bb (!b8)
 (some (.ret (.tuple ⟨[.agg ⟨[.slice none 0 0, .int .i64 0]⟩, .int .i64 2]⟩) r7.2))
 (pb (0 ≤ x1 ∧ room x1.toNat 2)
 (some (cdf_Steep.c244 x1 (x1.toNat : Int) 0 none 0 0 0 (some ⟨r7.2.length, 0, none⟩) x1.toNat x1.toNat 0 (r7.2 ++ [⟨.fx, zerosL [.int .u16 0] x1.toNat⟩] : Mem))) none) := by kernel_rfl
theorem cdf_Steep.p244 (k lo : Nat) (x1 : Int) (x2 : Int) (x3 : Int) (A4 : Option Addr) (n5 : Nat) (c6 : Nat) (x7 : Int) (A8 : Option Addr) (n9 : Nat) (c10 : Nat) (x11 : Int) (M : Mem) : piece P T k lo F.cdf_Steep 244 [.v (.int .i64 x1), .l 2 0, .l 4 0, .v (.int .i64 x2), .v (.int .i64 x3)] [[.slice A4 n5 c6, .int .i64 x7], [.slice A8 n9 c10, .int .i64 x11]] M =
 bb (decide (x3 < x2))
 (pb (IntKind.i64.wrap (x3 + 1) < 0) none
 (pb (0 ≤ x3 ∧ x3 < (n9 : Int))
 (ob A8 fun a12 =>
 ob (M.st lo (plus a12 x3.toNat) [.int .u16 (IntKind.u16.wrap (32768 - (shrI .u16 (32768 : Int) ((IntKind.i64.wrap (x3 + 1)).toNat))))]) fun M13 =>
 some (cdf_Steep.c244 x1 x2 (IntKind.i64.wrap (x3 + 1)) A4 n5 c6 x7 A8 n9 c10 x11 M13)) none))
 (pb (0 ≤ IntKind.i64.wrap (x1 - 1) ∧ IntKind.i64.wrap (x1 - 1) < (n9 : Int))
 (ob A8 fun a14 =>
 ob (M.st lo (plus a14 ((IntKind.i64.wrap (x1 - 1)).toNat)) [.int .u16 32768]) fun M15 =>
 some (.ret (.tuple ⟨[.agg ⟨[.slice A8 n9 c10, .int .i64 x11]⟩, .int .i64 0]⟩) M15)) none) := by kernel_rfl
theorem pool_Pool_slot.entry (k lo : Nat) (a1 : Addr) (x2 : Int) (M : Mem) : entry P T k lo F.pool_Pool_slot [.pointer (some a1), .int .i64 x2] M =
 ob (acall P T k lo F.pool_Pool_none [.pointer (some a1)] M) fun r8 =>
 ob ((some r8.1).bind Value.bool?) fun b9 =>
 bb b9
 (some (.ret (.tuple ⟨[.agg ⟨[.bool false, .int .i64 0, .int .i64 0, .slice none 0 0, .int .i64 0, .int .i64 0, .slice none 0 0, .int .i64 0, .int .i64 0, .slice none 0 0, .slice none 0 0]⟩, .int .i64 1]⟩) r8.2))
 (bb (decide (x2 < 0))
 (some (.ret (.tuple ⟨[.agg ⟨[.bool false, .int .i64 0, .int .i64 0, .slice none 0 0, .int .i64 0, .int .i64 0, .slice none 0 0, .int .i64 0, .int .i64 0, .slice none 0 0, .slice none 0 0]⟩, .int .i64 2]⟩) r8.2))
 (bb (decide (x2 ≥ 8))
 (some (.ret (.tuple ⟨[.agg ⟨[.bool false, .int .i64 0, .int .i64 0, .slice none 0 0, .int .i64 0, .int .i64 0, .slice none 0 0, .int .i64 0, .int .i64 0, .slice none 0 0, .slice none 0 0]⟩, .int .i64 2]⟩) r8.2))
 (pb (0 ≤ x2 ∧ x2 < (8 : Int))
 (ob ((r8.2.ld (plus (plus a1 1) (x2.toNat * 11))).bind Value.bool?) fun b10 =>
 bb (!b10)
 (some (.ret (.tuple ⟨[.agg ⟨[.bool false, .int .i64 0, .int .i64 0, .slice none 0 0, .int .i64 0, .int .i64 0, .slice none 0 0, .int .i64 0, .int .i64 0, .slice none 0 0, .slice none 0 0]⟩, .int .i64 6]⟩) r8.2))
 (pb (0 ≤ x2 ∧ x2 < (8 : Int))
 (ob ((r8.2.ld (plus (plus a1 1) (x2.toNat * 11))).bind Value.bool?) fun b11 =>
 ob ((r8.2.ld (plus (plus (plus a1 1) (x2.toNat * 11)) 1)).bind (Value.int? .i64)) fun x12 =>
 ob ((r8.2.ld (plus (plus (plus a1 1) (x2.toNat * 11)) 2)).bind (Value.int? .i64)) fun x13 =>
 ob ((r8.2.ld (plus (plus (plus a1 1) (x2.toNat * 11)) 3)).bind Value.slc?) fun s14 =>
 ob ((r8.2.ld (plus (plus (plus a1 1) (x2.toNat * 11)) 4)).bind (Value.int? .i64)) fun x15 =>
 ob ((r8.2.ld (plus (plus (plus a1 1) (x2.toNat * 11)) 5)).bind (Value.int? .i64)) fun x16 =>
 ob ((r8.2.ld (plus (plus (plus a1 1) (x2.toNat * 11)) 6)).bind Value.slc?) fun s17 =>
 ob ((r8.2.ld (plus (plus (plus a1 1) (x2.toNat * 11)) 7)).bind (Value.int? .i64)) fun x18 =>
 ob ((r8.2.ld (plus (plus (plus a1 1) (x2.toNat * 11)) 8)).bind (Value.int? .i64)) fun x19 =>
 ob ((r8.2.ld (plus (plus (plus a1 1) (x2.toNat * 11)) 9)).bind Value.slc?) fun s20 =>
 ob ((r8.2.ld (plus (plus (plus a1 1) (x2.toNat * 11)) 10)).bind Value.slc?) fun s21 =>
 some (.ret (.tuple ⟨[.agg ⟨[.bool b11, .int .i64 x12, .int .i64 x13, .slice s14.a s14.n s14.c, .int .i64 x15, .int .i64 x16, .slice s17.a s17.n s17.c, .int .i64 x18, .int .i64 x19, .slice s20.a s20.n s20.c, .slice s21.a s21.n s21.c]⟩, .int .i64 0]⟩) r8.2)) none)) none))) := by kernel_rfl
theorem pool_sameSet.entry (k lo : Nat) (A1 : Option Addr) (n2 : Nat) (c3 : Nat) (A4 : Option Addr) (n5 : Nat) (c6 : Nat) (M : Mem) : entry P T k lo F.pool_sameSet [.agg ⟨[.slice A1 n2 c3]⟩, .agg ⟨[.slice A4 n5 c6]⟩] M =
 ob ((M ++ [⟨.fx, [.nilFunc]⟩] : Mem).st lo ⟨M.length, 0, none⟩ [.func (.func F.pool_sameSet_1) ⟨[]⟩ ⟨[]⟩]) fun M12 =>
 ob (acall P T k lo F.slices_EqualFunc__api_Table_api_Table_api_Table_api_Table [.slice A1 n2 c3, .slice A4 n5 c6, .func (.func F.pool_sameSet_2) ⟨[]⟩ ⟨[.pointer (some ⟨M.length, 0, none⟩)]⟩] M12) fun r13 =>
 ob ((some r13.1).bind Value.bool?) fun b14 =>
 some (.ret (.bool b14) r13.2) := by kernel_rfl
theorem plane_Same.entry (k lo : Nat) (x1 : Int) (x2 : Int) (A3 : Option Addr) (n4 : Nat) (c5 : Nat) (x6 : Int) (x7 : Int) (A8 : Option Addr) (n9 : Nat) (c10 : Nat) (M : Mem) : entry P T k lo F.plane_Same [.agg ⟨[.int .i64 x1, .int .i64 x2, .slice A3 n4 c5]⟩, .agg ⟨[.int .i64 x6, .int .i64 x7, .slice A8 n9 c10]⟩] M =
 bb (x1 == x6)
 (bb (x2 == x7)
 (ob (acall P T k lo F.slices_Equal__uint8_uint8 [.slice A3 n4 c5, .slice A8 n9 c10] M) fun r16 =>
 ob ((some r16.1).bind Value.bool?) fun b17 =>
 some (.ret (.bool b17) r16.2))
 (some (.ret (.bool false) M)))
 (some (.ret (.bool false) M)) := by kernel_rfl
theorem zoetroperef04_Writer.entry (k lo : Nat) (A1 : Option Addr) (n2 : Nat) (c3 : Nat) (b4 : Bool) (M : Mem) : entry P T k lo F.zoetroperef04_Writer [.agg ⟨[.slice A1 n2 c3]⟩, .bool b4] M =
 ob (acall P T k lo F.zoetroperef04_Check [.agg ⟨[.slice A1 n2 c3]⟩] M) fun r10 =>
 ob ((some r10.1).bind (Value.int? .i64)) fun x11 =>
 bb (x11 != 0)
 (some (.ret (.tuple ⟨[.pointer none, .int .i64 2]⟩) r10.2))
 (ob (acall P T k r10.2.length F.zoetroperef02_New [] r10.2) fun r12 =>
 ob ((some r12.1).bind Value.ptr?) fun p13 =>
 ob (acall P T k lo F.zoetroperef04_Copy [.agg ⟨[.slice A1 n2 c3]⟩] r12.2) fun r14 =>
 ob ((some r14.1).bind (Value.agg? 1)) fun l15 =>
 ob ((l15[0]?).bind Value.slc?) fun s16 =>
 some (.ret (.tuple ⟨[.pointer (some ⟨r14.2.length, 0, none⟩), .int .i64 0]⟩) (r14.2 ++ [⟨.fx, [.pointer p13, .pointer none, .slice s16.a s16.n s16.c, .bool b4, .int .i64 0]⟩] : Mem))) := by kernel_rfl
theorem zoetroperef04_Default.entry (k lo : Nat) (M : Mem) : entry P T k lo F.zoetroperef04_Default [] M =
 ob (acall P T k lo F.zoetroperef04_rows [] M) fun r6 =>
 ob ((some r6.1).bind Value.slc?) fun s7 =>
 some (zoetroperef04_Default.c244 s7.a s7.n s7.c 0 none 0 0 none 0 0 r6.2) := by kernel_rfl
theorem zoetroperef04_Default.p244 (k lo : Nat) (A1 : Option Addr) (n2 : Nat) (c3 : Nat) (x4 : Int) (A5 : Option Addr) (n6 : Nat) (c7 : Nat) (A8 : Option Addr) (n9 : Nat) (c10 : Nat) (M : Mem) : piece P T k lo F.zoetroperef04_Default 244 [.l 0 0, .l 1 0, .v (.slice A1 n2 c3), .v (.int .i64 x4)] [[.slice A5 n6 c7], [.slice A8 n9 c10]] M =
 bb (decide (x4 < (n2 : Int)))
 (some (zoetroperef04_Default.c62612 A1 n2 c3 x4 none 0 0 0 A5 n6 c7 A8 n9 c10 M))
 (some (.ret (.agg ⟨[.slice A8 n9 c10]⟩) M)) := by kernel_rfl
theorem zoetroperef04_Default.p62612 (k lo : Nat) (A1 : Option Addr) (n2 : Nat) (c3 : Nat) (x4 : Int) (A5 : Option Addr) (n6 : Nat) (c7 : Nat) (x8 : Int) (A9 : Option Addr) (n10 : Nat) (c11 : Nat) (A12 : Option Addr) (n13 : Nat) (c14 : Nat) (M : Mem) : piece P T k lo F.zoetroperef04_Default 62612 [.l 0 0, .l 1 0, .v (.slice A1 n2 c3), .v (.int .i64 x4), .v (.slice A5 n6 c7), .v (.int .i64 x8)] [[.slice A9 n10 c11], [.slice A12 n13 c14]] M =
 pb (0 ≤ x4 ∧ x4 < (n2 : Int))
 (ob A1 fun a15 =>
 ob ((M.ld (plus a15 (x4.toNat * 3))).bind (Value.int? .i64)) fun x16 =>
 bb (decide (x8 < x16))
 (pb (0 ≤ x4 ∧ x4 < (n2 : Int))
 (ob A1 fun a17 =>
 ob ((M.ld (plus (plus a17 (x4.toNat * 3)) 1)).bind (Value.int? .i64)) fun x18 =>
 ob (acall P T k lo F.zoetroperef03_Flat [.int .i64 x18] M) fun r19 =>
 ob (r19.1.tup? 2) fun l20 =>
 ob ((l20[0]?).bind (Value.agg? 2)) fun l21 =>
 ob ((l21[0]?).bind Value.slc?) fun s22 =>
 ob ((l21[1]?).bind (Value.int? .i64)) fun x23 =>
 ob ((l20[1]?).bind (Value.int? .i64)) fun x24 =>
 pb (0 ≤ x4 ∧ x4 < (n2 : Int))
 (ob A1 fun a25 =>
 ob ((r19.2.ld (plus (plus a25 (x4.toNat * 3)) 2)).bind (Value.int? .i64)) fun x26 =>
 bb (x26 == 1)
 (pb (0 ≤ x4 ∧ x4 < (n2 : Int))
 (ob A1 fun a27 =>
 ob ((r19.2.ld (plus (plus a27 (x4.toNat * 3)) 1)).bind (Value.int? .i64)) fun x28 =>
 ob (acall P T k lo F.zoetroperef03_Steep [.int .i64 x28] r19.2) fun r29 =>
 ob (r29.1.tup? 2) fun l30 =>
 ob ((l30[0]?).bind (Value.agg? 2)) fun l31 =>
 ob ((l31[0]?).bind Value.slc?) fun s32 =>
 ob ((l31[1]?).bind (Value.int? .i64)) fun x33 =>
 ob ((l30[1]?).bind (Value.int? .i64)) fun x34 =>
 some (zoetroperef04_Default.c2003603 A1 n2 c3 x4 A5 n6 c7 x8 A9 n10 c11 A12 n13 c14 s32.a s32.n s32.c x33 r29.2)) none)
 (some (zoetroperef04_Default.c2003603 A1 n2 c3 x4 A5 n6 c7 x8 A9 n10 c11 A12 n13 c14 s22.a s22.n s22.c x23 r19.2))) none) none)
 (ob (M.app lo 1 24 ⟨A12, n13, c14⟩ ([.slice A5 n6 c7]) 1) fun r35 =>
 some (zoetroperef04_Default.c244 A1 n2 c3 (IntKind.i64.wrap (x4 + 1)) A9 n10 c11 r35.1.a r35.1.n r35.1.c r35.2))) none := by kernel_rfl
theorem zoetroperef04_Default.p2003603 (k lo : Nat) (A1 : Option Addr) (n2 : Nat) (c3 : Nat) (x4 : Int) (A5 : Option Addr) (n6 : Nat) (c7 : Nat) (x8 : Int) (A9 : Option Addr) (n10 : Nat) (c11 : Nat) (A12 : Option Addr) (n13 : Nat) (c14 : Nat) (A15 : Option Addr) (n16 : Nat) (c17 : Nat) (x18 : Int) (M : Mem) : piece P T k lo F.zoetroperef04_Default 2003603 [.l 0 0, .l 1 0, .v (.slice A1 n2 c3), .v (.int .i64 x4), .v (.slice A5 n6 c7), .v (.int .i64 x8), .l 6 0] [[.slice A9 n10 c11], [.slice A12 n13 c14], [.slice A15 n16 c17, .int .i64 x18]] M =
 ob (M.app lo 2 32 ⟨A5, n6, c7⟩ ([.slice A15 n16 c17, .int .i64 x18]) 1) fun r36 =>
 some (zoetroperef04_Default.c62612 A1 n2 c3 x4 r36.1.a r36.1.n r36.1.c (IntKind.i64.wrap (x8 + 1)) A9 n10 c11 A12 n13 c14 r36.2) := by kernel_rfl
theorem zoetroperef04_Coder_Symbol.entry (k lo : Nat) (a1 : Addr) (x2 : Int) (x3 : Int) (x4 : Int) (M : Mem) : entry P T k lo F.zoetroperef04_Coder_Symbol [.pointer (some a1), .int .i64 x2, .int .i64 x3, .int .i64 x4] M =
 ob (acall P T k lo F.zoetroperef04_Shape [.int .i64 x2] M) fun r10 =>
 ob (r10.1.tup? 3) fun l11 =>
 ob ((l11[0]?).bind (Value.int? .i64)) fun x12 =>
 ob ((l11[1]?).bind (Value.int? .i64)) fun x13 =>
 ob ((l11[2]?).bind (Value.int? .i64)) fun x14 =>
 bb (x14 != 0)
 (some (.ret (.tuple ⟨[.int .i64 0, .int .i64 x14]⟩) r10.2))
 (bb (decide (x3 < 0))
 (some (.ret (.tuple ⟨[.int .i64 0, .int .i64 2]⟩) r10.2))
 (bb (decide (x3 ≥ x12))
 (some (.ret (.tuple ⟨[.int .i64 0, .int .i64 2]⟩) r10.2))
 (ob ((r10.2.ld a1).bind Value.ptr?) fun p15 =>
 bb (!p15.isNone)
 (bb (decide (x4 < 0))
 (some (.ret (.tuple ⟨[.int .i64 0, .int .i64 2]⟩) r10.2))
 (bb (decide (x4 ≥ x13))
 (some (.ret (.tuple ⟨[.int .i64 0, .int .i64 2]⟩) r10.2))
 (ob ((r10.2.ld (plus a1 2)).bind Value.slc?) fun s16 =>
 pb (0 ≤ x2 ∧ x2 < (s16.n : Int))
 (ob s16.a fun a17 =>
 ob ((r10.2.ld (plus a17 x2.toNat)).bind Value.slc?) fun s18 =>
 pb (0 ≤ x3 ∧ x3 < (s18.n : Int))
 (ob s18.a fun a19 =>
 ob ((r10.2.ld (plus a19 (x3.toNat * 2))).bind Value.slc?) fun s20 =>
 ob ((r10.2.ld (plus (plus a19 (x3.toNat * 2)) 1)).bind (Value.int? .i64)) fun x21 =>
 ob ((r10.2.ld a1).bind Value.ptr?) fun p22 =>
 bb (!p22.isNone)
 (ob (acall P T k lo F.zoetroperef03_Bounds [.agg ⟨[.slice s20.a s20.n s20.c, .int .i64 x21]⟩, .int .i64 x4] r10.2) fun r23 =>
 ob (r23.1.tup? 3) fun l24 =>
 ob ((l24[0]?).bind (Value.int? .u32)) fun x25 =>
 ob ((l24[1]?).bind (Value.int? .u32)) fun x26 =>
 ob ((l24[2]?).bind (Value.int? .i64)) fun x27 =>
 ob ((r23.2.ld a1).bind Value.ptr?) fun p28 =>
 ob (acall P T k lo F.zoetroperef02_Encoder_Put [.pointer p28, .int .u32 x25, .int .u32 x26] r23.2) fun r29 =>
 ob ((some r29.1).bind (Value.int? .i64)) fun x30 =>
 some (zoetroperef04_Coder_Symbol.c127 a1 x2 x3 x4 s20.a s20.n s20.c x21 r29.2))
 (ob ((r10.2.ld (plus a1 1)).bind Value.ptr?) fun p31 =>
 ob (acall P T k lo F.zoetroperef02_Decoder_Value [.pointer p31] r10.2) fun r32 =>
 ob (r32.1.tup? 2) fun l33 =>
 ob ((l33[0]?).bind (Value.int? .u32)) fun x34 =>
 ob ((l33[1]?).bind (Value.int? .i64)) fun x35 =>
 ob (acall P T k lo F.zoetroperef03_Find [.agg ⟨[.slice s20.a s20.n s20.c, .int .i64 x21]⟩, .int .u32 x34] r32.2) fun r36 =>
 ob (r36.1.tup? 2) fun l37 =>
 ob ((l37[0]?).bind (Value.int? .i64)) fun x38 =>
 ob ((l37[1]?).bind (Value.int? .i64)) fun x39 =>
 ob (acall P T k lo F.zoetroperef03_Bounds [.agg ⟨[.slice s20.a s20.n s20.c, .int .i64 x21]⟩, .int .i64 x38] r36.2) fun r40 =>
 ob (r40.1.tup? 3) fun l41 =>
 ob ((l41[0]?).bind (Value.int? .u32)) fun x42 =>
 ob ((l41[1]?).bind (Value.int? .u32)) fun x43 =>
 ob ((l41[2]?).bind (Value.int? .i64)) fun x44 =>
 ob ((r40.2.ld (plus a1 1)).bind Value.ptr?) fun p45 =>
 ob (acall P T k lo F.zoetroperef02_Decoder_Take [.pointer p45, .int .u32 x42, .int .u32 x43] r40.2) fun r46 =>
 ob ((some r46.1).bind (Value.int? .i64)) fun x47 =>
 some (zoetroperef04_Coder_Symbol.c127 a1 x2 x3 x38 s20.a s20.n s20.c x21 r46.2))) none) none)))
 (ob ((r10.2.ld (plus a1 2)).bind Value.slc?) fun s48 =>
 pb (0 ≤ x2 ∧ x2 < (s48.n : Int))
 (ob s48.a fun a49 =>
 ob ((r10.2.ld (plus a49 x2.toNat)).bind Value.slc?) fun s50 =>
 pb (0 ≤ x3 ∧ x3 < (s50.n : Int))
 (ob s50.a fun a51 =>
 ob ((r10.2.ld (plus a51 (x3.toNat * 2))).bind Value.slc?) fun s52 =>
 ob ((r10.2.ld (plus (plus a51 (x3.toNat * 2)) 1)).bind (Value.int? .i64)) fun x53 =>
 ob ((r10.2.ld a1).bind Value.ptr?) fun p54 =>
 bb (!p54.isNone)
 (ob (acall P T k lo F.zoetroperef03_Bounds [.agg ⟨[.slice s52.a s52.n s52.c, .int .i64 x53]⟩, .int .i64 x4] r10.2) fun r55 =>
 ob (r55.1.tup? 3) fun l56 =>
 ob ((l56[0]?).bind (Value.int? .u32)) fun x57 =>
 ob ((l56[1]?).bind (Value.int? .u32)) fun x58 =>
 ob ((l56[2]?).bind (Value.int? .i64)) fun x59 =>
 ob ((r55.2.ld a1).bind Value.ptr?) fun p60 =>
 ob (acall P T k lo F.zoetroperef02_Encoder_Put [.pointer p60, .int .u32 x57, .int .u32 x58] r55.2) fun r61 =>
 ob ((some r61.1).bind (Value.int? .i64)) fun x62 =>
 some (zoetroperef04_Coder_Symbol.c127 a1 x2 x3 x4 s52.a s52.n s52.c x53 r61.2))
 (ob ((r10.2.ld (plus a1 1)).bind Value.ptr?) fun p63 =>
 ob (acall P T k lo F.zoetroperef02_Decoder_Value [.pointer p63] r10.2) fun r64 =>
 ob (r64.1.tup? 2) fun l65 =>
 ob ((l65[0]?).bind (Value.int? .u32)) fun x66 =>
 ob ((l65[1]?).bind (Value.int? .i64)) fun x67 =>
 ob (acall P T k lo F.zoetroperef03_Find [.agg ⟨[.slice s52.a s52.n s52.c, .int .i64 x53]⟩, .int .u32 x66] r64.2) fun r68 =>
 ob (r68.1.tup? 2) fun l69 =>
 ob ((l69[0]?).bind (Value.int? .i64)) fun x70 =>
 ob ((l69[1]?).bind (Value.int? .i64)) fun x71 =>
 ob (acall P T k lo F.zoetroperef03_Bounds [.agg ⟨[.slice s52.a s52.n s52.c, .int .i64 x53]⟩, .int .i64 x70] r68.2) fun r72 =>
 ob (r72.1.tup? 3) fun l73 =>
 ob ((l73[0]?).bind (Value.int? .u32)) fun x74 =>
 ob ((l73[1]?).bind (Value.int? .u32)) fun x75 =>
 ob ((l73[2]?).bind (Value.int? .i64)) fun x76 =>
 ob ((r72.2.ld (plus a1 1)).bind Value.ptr?) fun p77 =>
 ob (acall P T k lo F.zoetroperef02_Decoder_Take [.pointer p77, .int .u32 x74, .int .u32 x75] r72.2) fun r78 =>
 ob ((some r78.1).bind (Value.int? .i64)) fun x79 =>
 some (zoetroperef04_Coder_Symbol.c127 a1 x2 x3 x70 s52.a s52.n s52.c x53 r78.2))) none) none)))) := by kernel_rfl
theorem zoetroperef04_Coder_Symbol.p127 (k lo : Nat) (a1 : Addr) (x2 : Int) (x3 : Int) (x4 : Int) (A5 : Option Addr) (n6 : Nat) (c7 : Nat) (x8 : Int) (M : Mem) : piece P T k lo F.zoetroperef04_Coder_Symbol 127 [.v (.pointer (some a1)), .v (.int .i64 x2), .v (.int .i64 x3), .v (.int .i64 x4), .l 13 0] [[.slice A5 n6 c7, .int .i64 x8]] M =
 ob ((M.ld (plus a1 3)).bind Value.bool?) fun b80 =>
 bb b80
 (ob (acall P T k lo F.zoetroperef03_Adapt [.agg ⟨[.slice A5 n6 c7, .int .i64 x8]⟩, .int .i64 x4] M) fun r81 =>
 ob (r81.1.tup? 2) fun l82 =>
 ob ((l82[0]?).bind (Value.agg? 2)) fun l83 =>
 ob ((l83[0]?).bind Value.slc?) fun s84 =>
 ob ((l83[1]?).bind (Value.int? .i64)) fun x85 =>
 ob ((l82[1]?).bind (Value.int? .i64)) fun x86 =>
 ob ((r81.2.ld (plus a1 2)).bind Value.slc?) fun s87 =>
 pb (0 ≤ x2 ∧ x2 < (s87.n : Int))
 (ob s87.a fun a88 =>
 ob ((r81.2.ld (plus a88 x2.toNat)).bind Value.slc?) fun s89 =>
 pb (0 ≤ x3 ∧ x3 < (s89.n : Int))
 (ob s89.a fun a90 =>
 ob (r81.2.st lo (plus a90 (x3.toNat * 2)) [.slice s84.a s84.n s84.c, .int .i64 x85]) fun M91 =>
 some (zoetroperef04_Coder_Symbol.c255 a1 x4 M91)) none) none)
 (some (zoetroperef04_Coder_Symbol.c255 a1 x4 M)) := by kernel_rfl
theorem zoetroperef04_Coder_Symbol.p255 (k lo : Nat) (a1 : Addr) (x2 : Int) (M : Mem) : piece P T k lo F.zoetroperef04_Coder_Symbol 255 [.v (.pointer (some a1)), .v (.int .i64 x2)] [] M =
 ob ((M.ld (plus a1 4)).bind (Value.int? .i64)) fun x92 =>
 ob (M.st lo (plus a1 4) [.int .i64 (IntKind.i64.wrap (x92 + 1))]) fun M93 =>
 some (.ret (.tuple ⟨[.int .i64 x2, .int .i64 0]⟩) M93) := by kernel_rfl
theorem zoetroperef05_Whole.entry (k lo : Nat) (x1 : Int) (x2 : Int) (A3 : Option Addr) (n4 : Nat) (c5 : Nat) (x6 : Int) (x7 : Int) (A8 : Option Addr) (n9 : Nat) (c10 : Nat) (x11 : Int) (x12 : Int) (A13 : Option Addr) (n14 : Nat) (c15 : Nat) (M : Mem) : entry P T k lo F.zoetroperef05_Whole [.agg ⟨[.int .i64 x1, .int .i64 x2, .slice A3 n4 c5, .int .i64 x6, .int .i64 x7, .slice A8 n9 c10, .int .i64 x11, .int .i64 x12, .slice A13 n14 c15]⟩] M =
 ob (acall P T k lo F.zoetroperef05_Check [.agg ⟨[.int .i64 x1, .int .i64 x2, .slice A3 n4 c5]⟩] M) fun r21 =>
 ob ((some r21.1).bind (Value.int? .i64)) fun x22 =>
 bb (x22 != 0)
 (some (.ret (.int .i64 2) r21.2))
 (ob (acall P T k lo F.zoetroperef05_side [.int .i64 x1] r21.2) fun r23 =>
 ob ((some r23.1).bind Value.bool?) fun b24 =>
 bb (!b24)
 (some (.ret (.int .i64 2) r23.2))
 (ob (acall P T k lo F.zoetroperef05_side [.int .i64 x2] r23.2) fun r25 =>
 ob ((some r25.1).bind Value.bool?) fun b26 =>
 bb (!b26)
 (some (.ret (.int .i64 2) r25.2))
 (some (zoetroperef05_Whole.c116 1 x1 x2 A3 n4 c5 x6 x7 A8 n9 c10 x11 x12 A13 n14 c15 r25.2)))) := by kernel_rfl
theorem zoetroperef05_Whole.p116 (k lo : Nat) (x1 : Int) (x2 : Int) (x3 : Int) (A4 : Option Addr) (n5 : Nat) (c6 : Nat) (x7 : Int) (x8 : Int) (A9 : Option Addr) (n10 : Nat) (c11 : Nat) (x12 : Int) (x13 : Int) (A14 : Option Addr) (n15 : Nat) (c16 : Nat) (M : Mem) : piece P T k lo F.zoetroperef05_Whole 116 [.l 1 0, .v (.int .i64 x1)] [[.int .i64 x2, .int .i64 x3, .slice A4 n5 c6, .int .i64 x7, .int .i64 x8, .slice A9 n10 c11, .int .i64 x12, .int .i64 x13, .slice A14 n15 c16]] M =
 bb (decide (x1 < 3))
 (pb (0 ≤ x1 ∧ x1 < (3 : Int))
 (ob ((([.int .i64 x2, .int .i64 x3, .slice A4 n5 c6, .int .i64 x7, .int .i64 x8, .slice A9 n10 c11, .int .i64 x12, .int .i64 x13, .slice A14 n15 c16] : List Value)[0 + (x1.toNat * 3) + 0]?).bind (Value.int? .i64)) fun x27 =>
 ob ((([.int .i64 x2, .int .i64 x3, .slice A4 n5 c6, .int .i64 x7, .int .i64 x8, .slice A9 n10 c11, .int .i64 x12, .int .i64 x13, .slice A14 n15 c16] : List Value)[0 + (x1.toNat * 3) + 1]?).bind (Value.int? .i64)) fun x28 =>
 ob ((([.int .i64 x2, .int .i64 x3, .slice A4 n5 c6, .int .i64 x7, .int .i64 x8, .slice A9 n10 c11, .int .i64 x12, .int .i64 x13, .slice A14 n15 c16] : List Value)[0 + (x1.toNat * 3) + 2]?).bind Value.slc?) fun s29 =>
 ob (acall P T k lo F.zoetroperef05_Check [.agg ⟨[.int .i64 x27, .int .i64 x28, .slice s29.a s29.n s29.c]⟩] M) fun r30 =>
 ob ((some r30.1).bind (Value.int? .i64)) fun x31 =>
 bb (x31 != 0)
 (some (.ret (.int .i64 2) r30.2))
 (pb (0 ≤ x1 ∧ x1 < (3 : Int))
 (ob ((([.int .i64 x2, .int .i64 x3, .slice A4 n5 c6, .int .i64 x7, .int .i64 x8, .slice A9 n10 c11, .int .i64 x12, .int .i64 x13, .slice A14 n15 c16] : List Value)[0 + (x1.toNat * 3) + 0 + 0]?).bind (Value.int? .i64)) fun x32 =>
 bb (x32 != IntKind.i64.wrap (Int.tdiv x2 2))
 (some (.ret (.int .i64 2) r30.2))
 (pb (0 ≤ x1 ∧ x1 < (3 : Int))
 (ob ((([.int .i64 x2, .int .i64 x3, .slice A4 n5 c6, .int .i64 x7, .int .i64 x8, .slice A9 n10 c11, .int .i64 x12, .int .i64 x13, .slice A14 n15 c16] : List Value)[0 + (x1.toNat * 3) + 1 + 0]?).bind (Value.int? .i64)) fun x33 =>
 bb (x33 != IntKind.i64.wrap (Int.tdiv x3 2))
 (some (.ret (.int .i64 2) r30.2))
 (some (zoetroperef05_Whole.c116 (IntKind.i64.wrap (x1 + 1)) x2 x3 A4 n5 c6 x7 x8 A9 n10 c11 x12 x13 A14 n15 c16 r30.2))) none)) none)) none)
 (some (.ret (.int .i64 0) M)) := by kernel_rfl
theorem zoetroperef04_Check.entry (k lo : Nat) (A1 : Option Addr) (n2 : Nat) (c3 : Nat) (M : Mem) : entry P T k lo F.zoetroperef04_Check [.agg ⟨[.slice A1 n2 c3]⟩] M =
 bb ((n2 : Int) != 32)
 (some (.ret (.int .i64 2) M))
 (ob (acall P T k lo F.zoetroperef04_rows [] M) fun r9 =>
 ob ((some r9.1).bind Value.slc?) fun s10 =>
 some (zoetroperef04_Check.c244 s10.a s10.n s10.c 0 A1 n2 c3 r9.2)) := by kernel_rfl
theorem zoetroperef04_Check.p244 (k lo : Nat) (A1 : Option Addr) (n2 : Nat) (c3 : Nat) (x4 : Int) (A5 : Option Addr) (n6 : Nat) (c7 : Nat) (M : Mem) : piece P T k lo F.zoetroperef04_Check 244 [.l 1 0, .v (.slice A1 n2 c3), .v (.int .i64 x4)] [[.slice A5 n6 c7]] M =
 bb (decide (x4 < 32))
 (pb (0 ≤ x4 ∧ x4 < (n6 : Int))
 (ob A5 fun a11 =>
 ob ((M.ld (plus a11 x4.toNat)).bind Value.slc?) fun s12 =>
 pb (0 ≤ x4 ∧ x4 < (n2 : Int))
 (ob A1 fun a13 =>
 ob ((M.ld (plus a13 (x4.toNat * 3))).bind (Value.int? .i64)) fun x14 =>
 bb ((s12.n : Int) != x14)
 (some (.ret (.int .i64 2) M))
 (some (zoetroperef04_Check.c31308 A1 n2 c3 x4 0 A5 n6 c7 M))) none) none)
 (some (.ret (.int .i64 0) M)) := by kernel_rfl
theorem zoetroperef04_Check.p31308 (k lo : Nat) (A1 : Option Addr) (n2 : Nat) (c3 : Nat) (x4 : Int) (x5 : Int) (A6 : Option Addr) (n7 : Nat) (c8 : Nat) (M : Mem) : piece P T k lo F.zoetroperef04_Check 31308 [.l 1 0, .v (.slice A1 n2 c3), .v (.int .i64 x4), .v (.int .i64 x5)] [[.slice A6 n7 c8]] M =
 pb (0 ≤ x4 ∧ x4 < (n7 : Int))
 (ob A6 fun a15 =>
 ob ((M.ld (plus a15 x4.toNat)).bind Value.slc?) fun s16 =>
 bb (decide (x5 < (s16.n : Int)))
 (pb (0 ≤ x4 ∧ x4 < (n7 : Int))
 (ob A6 fun a17 =>
 ob ((M.ld (plus a17 x4.toNat)).bind Value.slc?) fun s18 =>
 pb (0 ≤ x5 ∧ x5 < (s18.n : Int))
 (ob s18.a fun a19 =>
 ob ((M.ld (plus a19 (x5.toNat * 2))).bind Value.slc?) fun s20 =>
 pb (0 ≤ x4 ∧ x4 < (n2 : Int))
 (ob A1 fun a21 =>
 ob ((M.ld (plus (plus a21 (x4.toNat * 3)) 1)).bind (Value.int? .i64)) fun x22 =>
 bb ((s20.n : Int) != x22)
 (some (.ret (.int .i64 2) M))
 (pb (0 ≤ x4 ∧ x4 < (n7 : Int))
 (ob A6 fun a23 =>
 ob ((M.ld (plus a23 x4.toNat)).bind Value.slc?) fun s24 =>
 pb (0 ≤ x5 ∧ x5 < (s24.n : Int))
 (ob s24.a fun a25 =>
 ob ((M.ld (plus a25 (x5.toNat * 2))).bind Value.slc?) fun s26 =>
 ob ((M.ld (plus (plus a25 (x5.toNat * 2)) 1)).bind (Value.int? .i64)) fun x27 =>
 ob (acall P T k lo F.zoetroperef03_Check [.agg ⟨[.slice s26.a s26.n s26.c, .int .i64 x27]⟩] M) fun r28 =>
 ob ((some r28.1).bind (Value.int? .i64)) fun x29 =>
 bb (x29 != 0)
 (some (.ret (.int .i64 2) r28.2))
 (some (zoetroperef04_Check.c31308 A1 n2 c3 x4 (IntKind.i64.wrap (x5 + 1)) A6 n7 c8 r28.2))) none) none)) none) none) none)
 (some (zoetroperef04_Check.c244 A1 n2 c3 (IntKind.i64.wrap (x4 + 1)) A6 n7 c8 M))) none := by kernel_rfl
theorem zoetroperef26_CopyFrame.entry (k lo : Nat) (x1 : Int) (x2 : Int) (A3 : Option Addr) (n4 : Nat) (c5 : Nat) (x6 : Int) (x7 : Int) (A8 : Option Addr) (n9 : Nat) (c10 : Nat) (x11 : Int) (x12 : Int) (A13 : Option Addr) (n14 : Nat) (c15 : Nat) (M : Mem) : entry P T k lo F.zoetroperef26_CopyFrame [.agg ⟨[.int .i64 x1, .int .i64 x2, .slice A3 n4 c5, .int .i64 x6, .int .i64 x7, .slice A8 n9 c10, .int .i64 x11, .int .i64 x12, .slice A13 n14 c15]⟩] M =
 some (zoetroperef26_CopyFrame.c116 0 x1 x2 A3 n4 c5 x6 x7 A8 n9 c10 x11 x12 A13 n14 c15 0 0 none 0 0 0 0 none 0 0 0 0 none 0 0 ([.int .i64 0, .int .i64 0, .slice none 0 0, .int .i64 0, .int .i64 0, .slice none 0 0, .int .i64 0, .int .i64 0, .slice none 0 0]) M) := by kernel_rfl
theorem zoetroperef26_CopyFrame.p116 (k lo : Nat) (x1 : Int) (x2 : Int) (x3 : Int) (A4 : Option Addr) (n5 : Nat) (c6 : Nat) (x7 : Int) (x8 : Int) (A9 : Option Addr) (n10 : Nat) (c11 : Nat) (x12 : Int) (x13 : Int) (A14 : Option Addr) (n15 : Nat) (c16 : Nat) (x17 : Int) (x18 : Int) (A19 : Option Addr) (n20 : Nat) (c21 : Nat) (x22 : Int) (x23 : Int) (A24 : Option Addr) (n25 : Nat) (c26 : Nat) (x27 : Int) (x28 : Int) (A29 : Option Addr) (n30 : Nat) (c31 : Nat) (cs32 : List Value) (M : Mem) : piece P T k lo F.zoetroperef26_CopyFrame 116 [.l 1 0, .l 2 0, .l 3 0, .v (.int .i64 x1)] [[.int .i64 x2, .int .i64 x3, .slice A4 n5 c6, .int .i64 x7, .int .i64 x8, .slice A9 n10 c11, .int .i64 x12, .int .i64 x13, .slice A14 n15 c16], [.int .i64 x17, .int .i64 x18, .slice A19 n20 c21, .int .i64 x22, .int .i64 x23, .slice A24 n25 c26, .int .i64 x27, .int .i64 x28, .slice A29 n30 c31], cs32] M =
 bb (decide (x1 < 3))
 (pb (0 ≤ x1 ∧ x1 < (3 : Int))
 (ob ((([.int .i64 x2, .int .i64 x3, .slice A4 n5 c6, .int .i64 x7, .int .i64 x8, .slice A9 n10 c11, .int .i64 x12, .int .i64 x13, .slice A14 n15 c16] : List Value)[0 + (x1.toNat * 3) + 0 + 0]?).bind (Value.int? .i64)) fun x33 =>
 pb (0 ≤ x1 ∧ x1 < (3 : Int))
 (ob ((([.int .i64 x2, .int .i64 x3, .slice A4 n5 c6, .int .i64 x7, .int .i64 x8, .slice A9 n10 c11, .int .i64 x12, .int .i64 x13, .slice A14 n15 c16] : List Value)[0 + (x1.toNat * 3) + 1 + 0]?).bind (Value.int? .i64)) fun x34 =>
 pb (0 ≤ x1 ∧ x1 < (3 : Int))
 (ob ((([.int .i64 x2, .int .i64 x3, .slice A4 n5 c6, .int .i64 x7, .int .i64 x8, .slice A9 n10 c11, .int .i64 x12, .int .i64 x13, .slice A14 n15 c16] : List Value)[0 + (x1.toNat * 3) + 2 + 0]?).bind Value.slc?) fun s35 =>
 ob (acall P T k M.length F.zoetroperef00_CopyBytes [.slice s35.a s35.n s35.c] M) fun r36 =>
 ob ((some r36.1).bind Value.slc?) fun s37 =>
 pb (0 ≤ x1 ∧ x1 < (3 : Int))
 (pb (0 + (x1.toNat * 3) + 3 ≤ cs32.length)
 (some (zoetroperef26_CopyFrame.c116 (IntKind.i64.wrap (x1 + 1)) x2 x3 A4 n5 c6 x7 x8 A9 n10 c11 x12 x13 A14 n15 c16 x17 x18 A19 n20 c21 x22 x23 A24 n25 c26 x27 x28 A29 n30 c31 (setL cs32 (0 + (x1.toNat * 3)) [.int .i64 x33, .int .i64 x34, .slice s37.a s37.n s37.c]) r36.2)) none) none) none) none) none)
 (ob ((cs32[0]?).bind (Value.int? .i64)) fun x38 =>
 ob ((cs32[1]?).bind (Value.int? .i64)) fun x39 =>
 ob ((cs32[2]?).bind Value.slc?) fun s40 =>
 ob ((cs32[3]?).bind (Value.int? .i64)) fun x41 =>
 ob ((cs32[4]?).bind (Value.int? .i64)) fun x42 =>
 ob ((cs32[5]?).bind Value.slc?) fun s43 =>
 ob ((cs32[6]?).bind (Value.int? .i64)) fun x44 =>
 ob ((cs32[7]?).bind (Value.int? .i64)) fun x45 =>
 ob ((cs32[8]?).bind Value.slc?) fun s46 =>
 some (.ret (.agg ⟨[.int .i64 x38, .int .i64 x39, .slice s40.a s40.n s40.c, .int .i64 x41, .int .i64 x42, .slice s43.a s43.n s43.c, .int .i64 x44, .int .i64 x45, .slice s46.a s46.n s46.c]⟩) M)) := by kernel_rfl
theorem zoetroperef04_Copy.entry (k lo : Nat) (A1 : Option Addr) (n2 : Nat) (c3 : Nat) (M : Mem) : entry P T k lo F.zoetroperef04_Copy [.agg ⟨[.slice A1 n2 c3]⟩] M =
 some (zoetroperef04_Copy.c116 0 A1 n2 c3 none 0 0 none 0 0 M) := by kernel_rfl
theorem zoetroperef04_Copy.p116 (k lo : Nat) (x1 : Int) (A2 : Option Addr) (n3 : Nat) (c4 : Nat) (A5 : Option Addr) (n6 : Nat) (c7 : Nat) (A8 : Option Addr) (n9 : Nat) (c10 : Nat) (M : Mem) : piece P T k lo F.zoetroperef04_Copy 116 [.l 1 0, .l 2 0, .l 3 0, .v (.int .i64 x1)] [[.slice A2 n3 c4], [.slice A5 n6 c7], [.slice A8 n9 c10]] M =
 bb (decide (x1 < (n3 : Int)))
 (some (zoetroperef04_Copy.c29844 x1 none 0 0 0 A2 n3 c4 A5 n6 c7 A8 n9 c10 M))
 (some (.ret (.agg ⟨[.slice A8 n9 c10]⟩) M)) := by kernel_rfl
theorem zoetroperef04_Copy.p29844 (k lo : Nat) (x1 : Int) (A2 : Option Addr) (n3 : Nat) (c4 : Nat) (x5 : Int) (A6 : Option Addr) (n7 : Nat) (c8 : Nat) (A9 : Option Addr) (n10 : Nat) (c11 : Nat) (A12 : Option Addr) (n13 : Nat) (c14 : Nat) (M : Mem) : piece P T k lo F.zoetroperef04_Copy 29844 [.l 1 0, .l 2 0, .l 3 0, .v (.int .i64 x1), .v (.slice A2 n3 c4), .v (.int .i64 x5)] [[.slice A6 n7 c8], [.slice A9 n10 c11], [.slice A12 n13 c14]] M =
 pb (0 ≤ x1 ∧ x1 < (n7 : Int))
 (ob A6 fun a15 =>
 ob ((M.ld (plus a15 x1.toNat)).bind Value.slc?) fun s16 =>
 bb (decide (x5 < (s16.n : Int)))
 (pb (0 ≤ x1 ∧ x1 < (n7 : Int))
 (ob A6 fun a17 =>
 ob ((M.ld (plus a17 x1.toNat)).bind Value.slc?) fun s18 =>
 pb (0 ≤ x5 ∧ x5 < (s18.n : Int))
 (ob s18.a fun a19 =>
 ob ((M.ld (plus (plus a19 (x5.toNat * 2)) 1)).bind (Value.int? .i64)) fun x20 =>
 pb (0 ≤ x1 ∧ x1 < (n7 : Int))
 (ob A6 fun a21 =>
 ob ((M.ld (plus a21 x1.toNat)).bind Value.slc?) fun s22 =>
 pb (0 ≤ x5 ∧ x5 < (s22.n : Int))
 (ob s22.a fun a23 =>
 ob ((M.ld (plus a23 (x5.toNat * 2))).bind Value.slc?) fun s24 =>
 ob (Mem.src M s24.a s24.n s24.n) fun l25 =>
 ob (M.app lo 1 2 ⟨none, 0, 0⟩ l25 s24.n) fun r26 =>
 ob (r26.2.app lo 2 32 ⟨A2, n3, c4⟩ ([.slice r26.1.a r26.1.n r26.1.c, .int .i64 x20]) 1) fun r27 =>
 some (zoetroperef04_Copy.c29844 x1 r27.1.a r27.1.n r27.1.c (IntKind.i64.wrap (x5 + 1)) A6 n7 c8 A9 n10 c11 A12 n13 c14 r27.2)) none) none) none) none)
 (ob (M.app lo 1 24 ⟨A12, n13, c14⟩ ([.slice A2 n3 c4]) 1) fun r28 =>
 some (zoetroperef04_Copy.c116 (IntKind.i64.wrap (x1 + 1)) A6 n7 c8 A9 n10 c11 r28.1.a r28.1.n r28.1.c r28.2))) none := by kernel_rfl
theorem zoetroperef26_Pool_Frame.entry (k lo : Nat) (a1 : Addr) (x2 : Int) (M : Mem) : entry P T k lo F.zoetroperef26_Pool_Frame [.pointer (some a1), .int .i64 x2] M =
 ob (acall P T k lo F.zoetroperef26_Pool_slot [.pointer (some a1), .int .i64 x2] M) fun r8 =>
 ob ((some r8.1).bind (Value.int? .i64)) fun x9 =>
 bb (x9 != 0)
 (some (.ret (.tuple ⟨[.agg ⟨[.int .i64 0, .int .i64 0, .slice none 0 0, .int .i64 0, .int .i64 0, .slice none 0 0, .int .i64 0, .int .i64 0, .slice none 0 0]⟩, .int .i64 x9]⟩) r8.2))
 (pb (0 ≤ x2 ∧ x2 < (8 : Int))
 (ob ((r8.2.ld (plus (plus a1 8) (x2.toNat * 9))).bind (Value.int? .i64)) fun x10 =>
 ob ((r8.2.ld (plus (plus (plus a1 8) (x2.toNat * 9)) 1)).bind (Value.int? .i64)) fun x11 =>
 ob ((r8.2.ld (plus (plus (plus a1 8) (x2.toNat * 9)) 2)).bind Value.slc?) fun s12 =>
 ob ((r8.2.ld (plus (plus (plus a1 8) (x2.toNat * 9)) 3)).bind (Value.int? .i64)) fun x13 =>
 ob ((r8.2.ld (plus (plus (plus a1 8) (x2.toNat * 9)) 4)).bind (Value.int? .i64)) fun x14 =>
 ob ((r8.2.ld (plus (plus (plus a1 8) (x2.toNat * 9)) 5)).bind Value.slc?) fun s15 =>
 ob ((r8.2.ld (plus (plus (plus a1 8) (x2.toNat * 9)) 6)).bind (Value.int? .i64)) fun x16 =>
 ob ((r8.2.ld (plus (plus (plus a1 8) (x2.toNat * 9)) 7)).bind (Value.int? .i64)) fun x17 =>
 ob ((r8.2.ld (plus (plus (plus a1 8) (x2.toNat * 9)) 8)).bind Value.slc?) fun s18 =>
 ob (acall P T k lo F.zoetroperef26_CopyFrame [.agg ⟨[.int .i64 x10, .int .i64 x11, .slice s12.a s12.n s12.c, .int .i64 x13, .int .i64 x14, .slice s15.a s15.n s15.c, .int .i64 x16, .int .i64 x17, .slice s18.a s18.n s18.c]⟩] r8.2) fun r19 =>
 ob ((some r19.1).bind (Value.agg? 9)) fun l20 =>
 ob ((l20[0]?).bind (Value.int? .i64)) fun x21 =>
 ob ((l20[1]?).bind (Value.int? .i64)) fun x22 =>
 ob ((l20[2]?).bind Value.slc?) fun s23 =>
 ob ((l20[3]?).bind (Value.int? .i64)) fun x24 =>
 ob ((l20[4]?).bind (Value.int? .i64)) fun x25 =>
 ob ((l20[5]?).bind Value.slc?) fun s26 =>
 ob ((l20[6]?).bind (Value.int? .i64)) fun x27 =>
 ob ((l20[7]?).bind (Value.int? .i64)) fun x28 =>
 ob ((l20[8]?).bind Value.slc?) fun s29 =>
 some (.ret (.tuple ⟨[.agg ⟨[.int .i64 x21, .int .i64 x22, .slice s23.a s23.n s23.c, .int .i64 x24, .int .i64 x25, .slice s26.a s26.n s26.c, .int .i64 x27, .int .i64 x28, .slice s29.a s29.n s29.c]⟩, .int .i64 0]⟩) r19.2)) none) := by kernel_rfl
theorem zoetroperef26_Pool_Set.entry (k lo : Nat) (a1 : Addr) (x2 : Int) (M : Mem) : entry P T k lo F.zoetroperef26_Pool_Set [.pointer (some a1), .int .i64 x2] M =
 ob (acall P T k lo F.zoetroperef26_Pool_slot [.pointer (some a1), .int .i64 x2] M) fun r8 =>
 ob ((some r8.1).bind (Value.int? .i64)) fun x9 =>
 bb (x9 != 0)
 (some (.ret (.tuple ⟨[.agg ⟨[.slice none 0 0]⟩, .int .i64 x9]⟩) r8.2))
 (pb (0 ≤ x2 ∧ x2 < (8 : Int))
 (ob ((r8.2.ld (plus (plus a1 80) x2.toNat)).bind Value.slc?) fun s10 =>
 ob (acall P T k lo F.zoetroperef04_Copy [.agg ⟨[.slice s10.a s10.n s10.c]⟩] r8.2) fun r11 =>
 ob ((some r11.1).bind (Value.agg? 1)) fun l12 =>
 ob ((l12[0]?).bind Value.slc?) fun s13 =>
 some (.ret (.tuple ⟨[.agg ⟨[.slice s13.a s13.n s13.c]⟩, .int .i64 0]⟩) r11.2)) none) := by kernel_rfl
theorem zoetroperef26_SameFrame.entry (k lo : Nat) (x1 : Int) (x2 : Int) (A3 : Option Addr) (n4 : Nat) (c5 : Nat) (x6 : Int) (x7 : Int) (A8 : Option Addr) (n9 : Nat) (c10 : Nat) (x11 : Int) (x12 : Int) (A13 : Option Addr) (n14 : Nat) (c15 : Nat) (x16 : Int) (x17 : Int) (A18 : Option Addr) (n19 : Nat) (c20 : Nat) (x21 : Int) (x22 : Int) (A23 : Option Addr) (n24 : Nat) (c25 : Nat) (x26 : Int) (x27 : Int) (A28 : Option Addr) (n29 : Nat) (c30 : Nat) (M : Mem) : entry P T k lo F.zoetroperef26_SameFrame [.agg ⟨[.int .i64 x1, .int .i64 x2, .slice A3 n4 c5, .int .i64 x6, .int .i64 x7, .slice A8 n9 c10, .int .i64 x11, .int .i64 x12, .slice A13 n14 c15]⟩, .agg ⟨[.int .i64 x16, .int .i64 x17, .slice A18 n19 c20, .int .i64 x21, .int .i64 x22, .slice A23 n24 c25, .int .i64 x26, .int .i64 x27, .slice A28 n29 c30]⟩] M =
 some (zoetroperef26_SameFrame.c52 0 x1 x2 A3 n4 c5 x6 x7 A8 n9 c10 x11 x12 A13 n14 c15 x16 x17 A18 n19 c20 x21 x22 A23 n24 c25 x26 x27 A28 n29 c30 M) := by kernel_rfl
theorem zoetroperef26_SameFrame.p52 (k lo : Nat) (x1 : Int) (x2 : Int) (x3 : Int) (A4 : Option Addr) (n5 : Nat) (c6 : Nat) (x7 : Int) (x8 : Int) (A9 : Option Addr) (n10 : Nat) (c11 : Nat) (x12 : Int) (x13 : Int) (A14 : Option Addr) (n15 : Nat) (c16 : Nat) (x17 : Int) (x18 : Int) (A19 : Option Addr) (n20 : Nat) (c21 : Nat) (x22 : Int) (x23 : Int) (A24 : Option Addr) (n25 : Nat) (c26 : Nat) (x27 : Int) (x28 : Int) (A29 : Option Addr) (n30 : Nat) (c31 : Nat) (M : Mem) : piece P T k lo F.zoetroperef26_SameFrame 52 [.l 2 0, .l 3 0, .v (.int .i64 x1)] [[.int .i64 x2, .int .i64 x3, .slice A4 n5 c6, .int .i64 x7, .int .i64 x8, .slice A9 n10 c11, .int .i64 x12, .int .i64 x13, .slice A14 n15 c16], [.int .i64 x17, .int .i64 x18, .slice A19 n20 c21, .int .i64 x22, .int .i64 x23, .slice A24 n25 c26, .int .i64 x27, .int .i64 x28, .slice A29 n30 c31]] M =
 bb (decide (x1 < 3))
 (pb (0 ≤ x1 ∧ x1 < (3 : Int))
 (ob ((([.int .i64 x2, .int .i64 x3, .slice A4 n5 c6, .int .i64 x7, .int .i64 x8, .slice A9 n10 c11, .int .i64 x12, .int .i64 x13, .slice A14 n15 c16] : List Value)[0 + (x1.toNat * 3) + 0 + 0]?).bind (Value.int? .i64)) fun x36 =>
 pb (0 ≤ x1 ∧ x1 < (3 : Int))
 (ob ((([.int .i64 x17, .int .i64 x18, .slice A19 n20 c21, .int .i64 x22, .int .i64 x23, .slice A24 n25 c26, .int .i64 x27, .int .i64 x28, .slice A29 n30 c31] : List Value)[0 + (x1.toNat * 3) + 0 + 0]?).bind (Value.int? .i64)) fun x37 =>
 bb (x36 != x37)
 (some (.ret (.bool false) M))
 (pb (0 ≤ x1 ∧ x1 < (3 : Int))
 (ob ((([.int .i64 x2, .int .i64 x3, .slice A4 n5 c6, .int .i64 x7, .int .i64 x8, .slice A9 n10 c11, .int .i64 x12, .int .i64 x13, .slice A14 n15 c16] : List Value)[0 + (x1.toNat * 3) + 1 + 0]?).bind (Value.int? .i64)) fun x38 =>
 pb (0 ≤ x1 ∧ x1 < (3 : Int))
 (ob ((([.int .i64 x17, .int .i64 x18, .slice A19 n20 c21, .int .i64 x22, .int .i64 x23, .slice A24 n25 c26, .int .i64 x27, .int .i64 x28, .slice A29 n30 c31] : List Value)[0 + (x1.toNat * 3) + 1 + 0]?).bind (Value.int? .i64)) fun x39 =>
 bb (x38 != x39)
 (some (.ret (.bool false) M))
 (pb (0 ≤ x1 ∧ x1 < (3 : Int))
 (ob ((([.int .i64 x2, .int .i64 x3, .slice A4 n5 c6, .int .i64 x7, .int .i64 x8, .slice A9 n10 c11, .int .i64 x12, .int .i64 x13, .slice A14 n15 c16] : List Value)[0 + (x1.toNat * 3) + 2 + 0]?).bind Value.slc?) fun s40 =>
 pb (0 ≤ x1 ∧ x1 < (3 : Int))
 (ob ((([.int .i64 x17, .int .i64 x18, .slice A19 n20 c21, .int .i64 x22, .int .i64 x23, .slice A24 n25 c26, .int .i64 x27, .int .i64 x28, .slice A29 n30 c31] : List Value)[0 + (x1.toNat * 3) + 2 + 0]?).bind Value.slc?) fun s41 =>
 ob (acall P T k lo F.zoetroperef00_EqBytes [.slice s40.a s40.n s40.c, .slice s41.a s41.n s41.c] M) fun r42 =>
 ob ((some r42.1).bind Value.bool?) fun b43 =>
 bb (!b43)
 (some (.ret (.bool false) r42.2))
 (some (zoetroperef26_SameFrame.c52 (IntKind.i64.wrap (x1 + 1)) x2 x3 A4 n5 c6 x7 x8 A9 n10 c11 x12 x13 A14 n15 c16 x17 x18 A19 n20 c21 x22 x23 A24 n25 c26 x27 x28 A29 n30 c31 r42.2))) none) none)) none) none)) none) none)
 (some (.ret (.bool true) M)) := by kernel_rfl
theorem zoetroperef04_Same.entry (k lo : Nat) (A1 : Option Addr) (n2 : Nat) (c3 : Nat) (A4 : Option Addr) (n5 : Nat) (c6 : Nat) (M : Mem) : entry P T k lo F.zoetroperef04_Same [.agg ⟨[.slice A1 n2 c3]⟩, .agg ⟨[.slice A4 n5 c6]⟩] M =
 bb ((n2 : Int) != (n5 : Int))
 (some (.ret (.bool false) M))
 (some (zoetroperef04_Same.c116 0 A1 n2 c3 A4 n5 c6 M)) := by kernel_rfl
theorem zoetroperef04_Same.p116 (k lo : Nat) (x1 : Int) (A2 : Option Addr) (n3 : Nat) (c4 : Nat) (A5 : Option Addr) (n6 : Nat) (c7 : Nat) (M : Mem) : piece P T k lo F.zoetroperef04_Same 116 [.l 2 0, .l 3 0, .v (.int .i64 x1)] [[.slice A2 n3 c4], [.slice A5 n6 c7]] M =
 bb (decide (x1 < (n3 : Int)))
 (pb (0 ≤ x1 ∧ x1 < (n3 : Int))
 (ob A2 fun a12 =>
 ob ((M.ld (plus a12 x1.toNat)).bind Value.slc?) fun s13 =>
 pb (0 ≤ x1 ∧ x1 < (n6 : Int))
 (ob A5 fun a14 =>
 ob ((M.ld (plus a14 x1.toNat)).bind Value.slc?) fun s15 =>
 bb ((s13.n : Int) != (s15.n : Int))
 (some (.ret (.bool false) M))
 (some (zoetroperef04_Same.c14924 x1 0 A2 n3 c4 A5 n6 c7 M))) none) none)
 (some (.ret (.bool true) M)) := by kernel_rfl
theorem zoetroperef04_Same.p14924 (k lo : Nat) (x1 : Int) (x2 : Int) (A3 : Option Addr) (n4 : Nat) (c5 : Nat) (A6 : Option Addr) (n7 : Nat) (c8 : Nat) (M : Mem) : piece P T k lo F.zoetroperef04_Same 14924 [.l 2 0, .l 3 0, .v (.int .i64 x1), .v (.int .i64 x2)] [[.slice A3 n4 c5], [.slice A6 n7 c8]] M =
 pb (0 ≤ x1 ∧ x1 < (n4 : Int))
 (ob A3 fun a16 =>
 ob ((M.ld (plus a16 x1.toNat)).bind Value.slc?) fun s17 =>
 bb (decide (x2 < (s17.n : Int)))
 (pb (0 ≤ x1 ∧ x1 < (n4 : Int))
 (ob A3 fun a18 =>
 ob ((M.ld (plus a18 x1.toNat)).bind Value.slc?) fun s19 =>
 pb (0 ≤ x2 ∧ x2 < (s19.n : Int))
 (ob s19.a fun a20 =>
 ob ((M.ld (plus a20 (x2.toNat * 2))).bind Value.slc?) fun s21 =>
 ob ((M.ld (plus (plus a20 (x2.toNat * 2)) 1)).bind (Value.int? .i64)) fun x22 =>
 pb (0 ≤ x1 ∧ x1 < (n7 : Int))
 (ob A6 fun a23 =>
 ob ((M.ld (plus a23 x1.toNat)).bind Value.slc?) fun s24 =>
 pb (0 ≤ x2 ∧ x2 < (s24.n : Int))
 (ob s24.a fun a25 =>
 ob ((M.ld (plus a25 (x2.toNat * 2))).bind Value.slc?) fun s26 =>
 ob ((M.ld (plus (plus a25 (x2.toNat * 2)) 1)).bind (Value.int? .i64)) fun x27 =>
 bb (x22 != x27)
 (some (.ret (.bool false) M))
 (bb ((s21.n : Int) != (s26.n : Int))
 (some (.ret (.bool false) M))
 (some (zoetroperef04_Same.c3820700 x1 x2 0 A3 n4 c5 A6 n7 c8 s21.a s21.n s21.c x22 s26.a s26.n s26.c x27 M)))) none) none) none) none)
 (some (zoetroperef04_Same.c116 (IntKind.i64.wrap (x1 + 1)) A3 n4 c5 A6 n7 c8 M))) none := by kernel_rfl
theorem zoetroperef04_Same.p3820700 (k lo : Nat) (x1 : Int) (x2 : Int) (x3 : Int) (A4 : Option Addr) (n5 : Nat) (c6 : Nat) (A7 : Option Addr) (n8 : Nat) (c9 : Nat) (A10 : Option Addr) (n11 : Nat) (c12 : Nat) (x13 : Int) (A14 : Option Addr) (n15 : Nat) (c16 : Nat) (x17 : Int) (M : Mem) : piece P T k lo F.zoetroperef04_Same 3820700 [.l 2 0, .l 3 0, .v (.int .i64 x1), .v (.int .i64 x2), .l 7 0, .l 8 0, .v (.int .i64 x3)] [[.slice A4 n5 c6], [.slice A7 n8 c9], [.slice A10 n11 c12, .int .i64 x13], [.slice A14 n15 c16, .int .i64 x17]] M =
 bb (decide (x3 < (n11 : Int)))
 (pb (0 ≤ x3 ∧ x3 < (n11 : Int))
 (ob A10 fun a28 =>
 ob ((M.ld (plus a28 x3.toNat)).bind (Value.int? .u16)) fun x29 =>
 pb (0 ≤ x3 ∧ x3 < (n15 : Int))
 (ob A14 fun a30 =>
 ob ((M.ld (plus a30 x3.toNat)).bind (Value.int? .u16)) fun x31 =>
 bb (x29 != x31)
 (some (.ret (.bool false) M))
 (some (zoetroperef04_Same.c3820700 x1 x2 (IntKind.i64.wrap (x3 + 1)) A4 n5 c6 A7 n8 c9 A10 n11 c12 x13 A14 n15 c16 x17 M))) none) none)
 (some (zoetroperef04_Same.c14924 x1 (IntKind.i64.wrap (x2 + 1)) A4 n5 c6 A7 n8 c9 M)) := by kernel_rfl
theorem zoetroperef26_Pool_Has.entry (k lo : Nat) (a1 : Addr) (M : Mem) : entry P T k lo F.zoetroperef26_Pool_Has [.pointer (some a1)] M =
 some (zoetroperef26_Pool_Has.c116 a1 0 7 M) := by kernel_rfl
theorem zoetroperef26_Pool_Has.p116 (k lo : Nat) (a1 : Addr) (x2 : Int) (x3 : Int) (M : Mem) : piece P T k lo F.zoetroperef26_Pool_Has 116 [.v (.pointer (some a1)), .v (.int .i64 x2), .v (.int .i64 x3)] [] M =
 bb (decide (x3 ≥ 0))
 (pb (0 ≤ x3 ∧ x3 < (8 : Int))
 (ob ((M.ld (plus a1 x3.toNat)).bind Value.bool?) fun b7 =>
 bb b7
 (some (zoetroperef26_Pool_Has.c467 a1 (IntKind.i64.wrap ((IntKind.i64.wrap (x2 * 2)) + 1)) x3 M))
 (some (zoetroperef26_Pool_Has.c467 a1 (IntKind.i64.wrap (x2 * 2)) x3 M))) none)
 (some (.ret (.int .i64 x2) M)) := by kernel_rfl
theorem zoetroperef26_Pool_Has.p467 (k lo : Nat) (a1 : Addr) (x2 : Int) (x3 : Int) (M : Mem) : piece P T k lo F.zoetroperef26_Pool_Has 467 [.v (.pointer (some a1)), .v (.int .i64 x2), .v (.int .i64 x3)] [] M =
 some (zoetroperef26_Pool_Has.c116 a1 x2 (IntKind.i64.wrap (x3 - 1)) M) := by kernel_rfl
theorem plane_Check.entry (k lo : Nat) (x1 : Int) (x2 : Int) (A3 : Option Addr) (n4 : Nat) (c5 : Nat) (M : Mem) : entry P T k lo F.plane_Check [.agg ⟨[.int .i64 x1, .int .i64 x2, .slice A3 n4 c5]⟩] M =
 ob (acall P T k lo F.plane_sizes [.int .i64 x1, .int .i64 x2] M) fun r11 =>
 ob ((some r11.1).bind Value.bool?) fun b12 =>
 bb (!b12)
 (some (.ret (.int .i64 2) r11.2))
 (bb ((n4 : Int) != IntKind.i64.wrap (x1 * x2))
 (some (.ret (.int .i64 2) r11.2))
 (some (.ret (.int .i64 0) r11.2))) := by kernel_rfl
theorem plane_sizes.entry (k lo : Nat) (x1 : Int) (x2 : Int) (M : Mem) : entry P T k lo F.plane_sizes [.int .i64 x1, .int .i64 x2] M =
 bb (decide (x1 ≥ 1))
 (bb (decide (x1 ≤ 512))
 (bb (decide (x2 ≥ 1))
 (some (.ret (.bool (decide (x2 ≤ 512))) M))
 (some (.ret (.bool false) M)))
 (some (.ret (.bool false) M)))
 (some (.ret (.bool false) M)) := by kernel_rfl
theorem slices_Repeat__uint8_uint8.entry (k lo : Nat) (A1 : Option Addr) (n2 : Nat) (c3 : Nat) (x4 : Int) (M : Mem) : entry P T k lo F.slices_Repeat__uint8_uint8 [.slice A1 n2 c3, .int .i64 x4] M =
 bb (decide (x4 < 0))
 (none)
 (some (slices_Repeat__uint8_uint8.c7 A1 n2 c3 x4 M)) := by kernel_rfl
theorem slices_Repeat__uint8_uint8.p7 (k lo : Nat) (A1 : Option Addr) (n2 : Nat) (c3 : Nat) (x4 : Int) (M : Mem) : piece P T k lo F.slices_Repeat__uint8_uint8 7 [.v (.slice A1 n2 c3), .v (.int .i64 x4)] [] M =
 ob (acall P T k lo F.math_bits_Mul [.int .u64 (IntKind.u64.wrap (n2 : Int)), .int .u64 (IntKind.u64.wrap x4)] M) fun r10 =>
 ob (r10.1.tup? 2) fun l11 =>
 ob ((l11[0]?).bind (Value.int? .u64)) fun x12 =>
 ob ((l11[1]?).bind (Value.int? .u64)) fun x13 =>
 bb (decide (x12 > 0))
 (none)
 (bb (decide (x13 > 9223372036854775807))
 (none)
 (some (slices_Repeat__uint8_uint8.c31 A1 n2 c3 x13 r10.2))) := by kernel_rfl
theorem slices_Repeat__uint8_uint8.p31 (k lo : Nat) (A1 : Option Addr) (n2 : Nat) (c3 : Nat) (x4 : Int) (M : Mem) : piece P T k lo F.slices_Repeat__uint8_uint8 31 [.v (.slice A1 n2 c3), .v (.int .u64 x4)] [] M =
 pb (0 ≤ IntKind.i64.wrap x4 ∧ room ((IntKind.i64.wrap x4).toNat) 1)
 (ob (Mem.src (M ++ [⟨.fx, zerosL [.int .u8 0] ((IntKind.i64.wrap x4).toNat)⟩] : Mem) A1 (Nat.min n2 ((IntKind.i64.wrap x4).toNat)) (Nat.min n2 ((IntKind.i64.wrap x4).toNat))) fun l14 =>
 pb (Nat.min n2 ((IntKind.i64.wrap x4).toNat) = 0) (some (slices_Repeat__uint8_uint8.c1016 (some ⟨M.length, 0, none⟩) ((IntKind.i64.wrap x4).toNat) ((IntKind.i64.wrap x4).toNat) 0 (M ++ [⟨.fx, zerosL [.int .u8 0] ((IntKind.i64.wrap x4).toNat)⟩] : Mem)))
 (ob ((M ++ [⟨.fx, zerosL [.int .u8 0] ((IntKind.i64.wrap x4).toNat)⟩] : Mem).st lo ⟨M.length, 0, none⟩ l14) fun M15 =>
 some (slices_Repeat__uint8_uint8.c1016 (some ⟨M.length, 0, none⟩) ((IntKind.i64.wrap x4).toNat) ((IntKind.i64.wrap x4).toNat) ((Nat.min n2 ((IntKind.i64.wrap x4).toNat) : Nat) : Int) M15))) none := by kernel_rfl
theorem slices_Repeat__uint8_uint8.p1016 (k lo : Nat) (A1 : Option Addr) (n2 : Nat) (c3 : Nat) (x4 : Int) (M : Mem) : piece P T k lo F.slices_Repeat__uint8_uint8 1016 [.v (.slice A1 n2 c3), .v (.int .i64 x4)] [] M =
 bb (decide (x4 < (n2 : Int)))
 (pb (0 ≤ x4 ∧ x4 ≤ (n2 : Int))
 (pb (0 ≤ (0 : Int) ∧ (0 : Int) ≤ x4 ∧ x4 ≤ (c3 : Int))
 (ob (Mem.src M (slAddr 1 A1 0 c3) (Nat.min (x4.toNat - 0) (n2 - x4.toNat)) (Nat.min (x4.toNat - 0) (n2 - x4.toNat))) fun l17 =>
 pb (Nat.min (x4.toNat - 0) (n2 - x4.toNat) = 0) (some (slices_Repeat__uint8_uint8.c1016 A1 n2 c3 (IntKind.i64.wrap (x4 + 0)) M))
 (ob (slAddr 1 A1 x4.toNat c3) fun a19 =>
 ob (M.st lo a19 l17) fun M18 =>
 some (slices_Repeat__uint8_uint8.c1016 A1 n2 c3 (IntKind.i64.wrap (x4 + ((Nat.min (x4.toNat - 0) (n2 - x4.toNat) : Nat) : Int))) M18))) none) none)
 (some (.ret (.slice A1 n2 c3) M)) := by kernel_rfl
theorem cdf_Check.entry (k lo : Nat) (A1 : Option Addr) (n2 : Nat) (c3 : Nat) (x4 : Int) (M : Mem) : entry P T k lo F.cdf_Check [.agg ⟨[.slice A1 n2 c3, .int .i64 x4]⟩] M =
 ob (acall P T k lo F.cdf_sizes [.int .i64 (n2 : Int)] M) fun r10 =>
 ob ((some r10.1).bind Value.bool?) fun b11 =>
 bb (!b11)
 (some (cdf_Check.c25 (!b11) A1 n2 c3 x4 r10.2))
 (bb (decide (x4 < 0))
 (some (cdf_Check.c25 (decide (x4 < 0)) A1 n2 c3 x4 r10.2))
 (some (cdf_Check.c25 (decide (x4 > 32)) A1 n2 c3 x4 r10.2))) := by kernel_rfl
theorem cdf_Check.p25 (k lo : Nat) (b1 : Bool) (A2 : Option Addr) (n3 : Nat) (c4 : Nat) (x5 : Int) (M : Mem) : piece P T k lo F.cdf_Check 25 [.l 1 0, .v (.bool b1)] [[.slice A2 n3 c4, .int .i64 x5]] M =
 bb b1
 (some (.ret (.int .i64 2) M))
 (ob (acall P T k lo F.slices_IsSorted__uint16_uint16 [.slice A2 n3 c4] M) fun r12 =>
 ob ((some r12.1).bind Value.bool?) fun b13 =>
 bb (!b13)
 (some (cdf_Check.c103 (!b13) r12.2))
 (pb (0 ≤ IntKind.i64.wrap ((n3 : Int) - 1) ∧ IntKind.i64.wrap ((n3 : Int) - 1) < (n3 : Int))
 (ob A2 fun a14 =>
 ob ((r12.2.ld (plus a14 ((IntKind.i64.wrap ((n3 : Int) - 1)).toNat))).bind (Value.int? .u16)) fun x15 =>
 some (cdf_Check.c103 (x15 != 32768) r12.2)) none)) := by kernel_rfl
theorem cdf_Check.p103 (k lo : Nat) (b1 : Bool) (M : Mem) : piece P T k lo F.cdf_Check 103 [.v (.bool b1)] [] M =
 bb b1
 (some (.ret (.int .i64 2) M))
 (some (.ret (.int .i64 0) M)) := by kernel_rfl
theorem slices_Clone__uint8_uint8.entry (k lo : Nat) (A1 : Option Addr) (n2 : Nat) (c3 : Nat) (M : Mem) : entry P T k lo F.slices_Clone__uint8_uint8 [.slice A1 n2 c3] M =
 bb A1.isNone
 (some (.ret (.slice none 0 0) M))
 (ob (Mem.src (M ++ [⟨.fx, []⟩] : Mem) A1 n2 n2) fun l9 =>
 ob ((M ++ [⟨.fx, []⟩] : Mem).app lo 1 1 ⟨some ⟨M.length, 0, none⟩, 0, 0⟩ l9 n2) fun r10 =>
 some (.ret (.slice r10.1.a r10.1.n r10.1.c) r10.2)) := by kernel_rfl
theorem slices_Clone__api_Table_api_Table.entry (k lo : Nat) (A1 : Option Addr) (n2 : Nat) (c3 : Nat) (M : Mem) : entry P T k lo F.slices_Clone__api_Table_api_Table [.slice A1 n2 c3] M =
 bb A1.isNone
 (some (.ret (.slice none 0 0) M))
 (ob (Mem.src (M ++ [⟨.fx, []⟩] : Mem) A1 n2 (n2 * 2)) fun l9 =>
 ob ((M ++ [⟨.fx, []⟩] : Mem).app lo 2 32 ⟨some ⟨M.length, 0, none⟩, 0, 0⟩ l9 n2) fun r10 =>
 some (.ret (.slice r10.1.a r10.1.n r10.1.c) r10.2)) := by kernel_rfl
theorem slices_Clone__uint16_uint16.entry (k lo : Nat) (A1 : Option Addr) (n2 : Nat) (c3 : Nat) (M : Mem) : entry P T k lo F.slices_Clone__uint16_uint16 [.slice A1 n2 c3] M =
 bb A1.isNone
 (some (.ret (.slice none 0 0) M))
 (ob (Mem.src (M ++ [⟨.fx, []⟩] : Mem) A1 n2 n2) fun l9 =>
 ob ((M ++ [⟨.fx, []⟩] : Mem).app lo 1 2 ⟨some ⟨M.length, 0, none⟩, 0, 0⟩ l9 n2) fun r10 =>
 some (.ret (.slice r10.1.a r10.1.n r10.1.c) r10.2)) := by kernel_rfl
theorem cdf_sizes.entry (k lo : Nat) (x1 : Int) (M : Mem) : entry P T k lo F.cdf_sizes [.int .i64 x1] M =
 bb (decide (x1 ≥ 2))
 (some (.ret (.bool (decide (x1 ≤ 16))) M))
 (some (.ret (.bool false) M)) := by kernel_rfl
theorem pool_sameSet_1.entry (k lo : Nat) (A1 : Option Addr) (n2 : Nat) (c3 : Nat) (x4 : Int) (A5 : Option Addr) (n6 : Nat) (c7 : Nat) (x8 : Int) (M : Mem) : entry P T k lo F.pool_sameSet_1 [.agg ⟨[.slice A1 n2 c3, .int .i64 x4]⟩, .agg ⟨[.slice A5 n6 c7, .int .i64 x8]⟩] M =
 bb (x4 == x8)
 (ob (acall P T k lo F.slices_Equal__uint16_uint16 [.slice A1 n2 c3, .slice A5 n6 c7] M) fun r14 =>
 ob ((some r14.1).bind Value.bool?) fun b15 =>
 some (.ret (.bool b15) r14.2))
 (some (.ret (.bool false) M)) := by kernel_rfl
theorem slices_Equal__uint16_uint16.entry (k lo : Nat) (A1 : Option Addr) (n2 : Nat) (c3 : Nat) (A4 : Option Addr) (n5 : Nat) (c6 : Nat) (M : Mem) : entry P T k lo F.slices_Equal__uint16_uint16 [.slice A1 n2 c3, .slice A4 n5 c6] M =
 bb ((n2 : Int) != (n5 : Int))
 (some (.ret (.bool false) M))
 (some (slices_Equal__uint16_uint16.c116 A1 n2 c3 A4 n5 c6 (n2 : Int) 0 M)) := by kernel_rfl
theorem slices_Equal__uint16_uint16.p116 (k lo : Nat) (A1 : Option Addr) (n2 : Nat) (c3 : Nat) (A4 : Option Addr) (n5 : Nat) (c6 : Nat) (x7 : Int) (x8 : Int) (M : Mem) : piece P T k lo F.slices_Equal__uint16_uint16 116 [.v (.slice A1 n2 c3), .v (.slice A4 n5 c6), .v (.int .i64 x7), .v (.int .i64 x8)] [] M =
 bb (decide (x8 < x7))
 (pb (0 ≤ x8 ∧ x8 < (n2 : Int))
 (ob A1 fun a12 =>
 ob ((M.ld (plus a12 x8.toNat)).bind (Value.int? .u16)) fun x13 =>
 pb (0 ≤ x8 ∧ x8 < (n5 : Int))
 (ob A4 fun a14 =>
 ob ((M.ld (plus a14 x8.toNat)).bind (Value.int? .u16)) fun x15 =>
 bb (x13 != x15)
 (some (.ret (.bool false) M))
 (some (slices_Equal__uint16_uint16.c116 A1 n2 c3 A4 n5 c6 x7 (IntKind.i64.wrap (x8 + 1)) M))) none) none)
 (some (.ret (.bool true) M)) := by kernel_rfl
theorem slices_EqualFunc__api_Table_api_Table_api_Table_api_Table.entry (k lo : Nat) (A1 : Option Addr) (n2 : Nat) (c3 : Nat) (A4 : Option Addr) (n5 : Nat) (c6 : Nat) (v7 : Value) (M : Mem) : entry P T k lo F.slices_EqualFunc__api_Table_api_Table_api_Table_api_Table [.slice A1 n2 c3, .slice A4 n5 c6, v7] M =
 bb ((n2 : Int) != (n5 : Int))
 (some (.ret (.bool false) M))
 (some (slices_EqualFunc__api_Table_api_Table_api_Table_api_Table.c116 A4 n5 c6 v7 A1 n2 c3 (n2 : Int) 0 M)) := by kernel_rfl
theorem slices_EqualFunc__api_Table_api_Table_api_Table_api_Table.p116 (k lo : Nat) (A1 : Option Addr) (n2 : Nat) (c3 : Nat) (v4 : Value) (A5 : Option Addr) (n6 : Nat) (c7 : Nat) (x8 : Int) (x9 : Int) (M : Mem) : piece P T k lo F.slices_EqualFunc__api_Table_api_Table_api_Table_api_Table 116 [.v (.slice A1 n2 c3), .v v4, .v (.slice A5 n6 c7), .v (.int .i64 x8), .v (.int .i64 x9)] [] M =
 bb (decide (x9 < x8))
 (pb (0 ≤ x9 ∧ x9 < (n6 : Int))
 (ob A5 fun a13 =>
 ob ((M.ld (plus a13 x9.toNat)).bind Value.slc?) fun s14 =>
 pb (0 ≤ x9 ∧ x9 < (n2 : Int))
 (ob A1 fun a15 =>
 ob ((M.ld (plus a15 x9.toNat)).bind Value.slc?) fun s16 =>
 ob (Value.fun? v4) fun q18 =>
 ob (acall P T k lo q18.1 (q18.2.1 ++ [.slice s14.a s14.n s14.c, .slice s16.a s16.n s16.c] ++ q18.2.2) M) fun r17 =>
 ob ((some r17.1).bind Value.bool?) fun b19 =>
 bb (!b19)
 (some (.ret (.bool false) r17.2))
 (some (slices_EqualFunc__api_Table_api_Table_api_Table_api_Table.c116 A1 n2 c3 v4 A5 n6 c7 x8 (IntKind.i64.wrap (x9 + 1)) r17.2))) none) none)
 (some (.ret (.bool true) M)) := by kernel_rfl
theorem pool_sameSet_2.entry (k lo : Nat) (A1 : Option Addr) (n2 : Nat) (c3 : Nat) (A4 : Option Addr) (n5 : Nat) (c6 : Nat) (a7 : Addr) (M : Mem) : entry P T k lo F.pool_sameSet_2 [.slice A1 n2 c3, .slice A4 n5 c6, .pointer (some a7)] M =
 ob ((M.ld a7).bind Value.one?) fun v13 =>
 ob (acall P T k lo F.slices_EqualFunc__api_Table_api_Table_api_Table_api_Table_n2 [.slice A1 n2 c3, .slice A4 n5 c6, v13] M) fun r14 =>
 ob ((some r14.1).bind Value.bool?) fun b15 =>
 some (.ret (.bool b15) r14.2) := by kernel_rfl
theorem slices_EqualFunc__api_Table_api_Table_api_Table_api_Table_n2.entry (k lo : Nat) (A1 : Option Addr) (n2 : Nat) (c3 : Nat) (A4 : Option Addr) (n5 : Nat) (c6 : Nat) (v7 : Value) (M : Mem) : entry P T k lo F.slices_EqualFunc__api_Table_api_Table_api_Table_api_Table_n2 [.slice A1 n2 c3, .slice A4 n5 c6, v7] M =
 bb ((n2 : Int) != (n5 : Int))
 (some (.ret (.bool false) M))
 (some (slices_EqualFunc__api_Table_api_Table_api_Table_api_Table_n2.c116 A4 n5 c6 v7 A1 n2 c3 (n2 : Int) 0 M)) := by kernel_rfl
theorem slices_EqualFunc__api_Table_api_Table_api_Table_api_Table_n2.p116 (k lo : Nat) (A1 : Option Addr) (n2 : Nat) (c3 : Nat) (v4 : Value) (A5 : Option Addr) (n6 : Nat) (c7 : Nat) (x8 : Int) (x9 : Int) (M : Mem) : piece P T k lo F.slices_EqualFunc__api_Table_api_Table_api_Table_api_Table_n2 116 [.v (.slice A1 n2 c3), .v v4, .v (.slice A5 n6 c7), .v (.int .i64 x8), .v (.int .i64 x9)] [] M =
 bb (decide (x9 < x8))
 (pb (0 ≤ x9 ∧ x9 < (n6 : Int))
 (ob A5 fun a13 =>
 ob ((M.ld (plus a13 (x9.toNat * 2))).bind Value.slc?) fun s14 =>
 ob ((M.ld (plus (plus a13 (x9.toNat * 2)) 1)).bind (Value.int? .i64)) fun x15 =>
 pb (0 ≤ x9 ∧ x9 < (n2 : Int))
 (ob A1 fun a16 =>
 ob ((M.ld (plus a16 (x9.toNat * 2))).bind Value.slc?) fun s17 =>
 ob ((M.ld (plus (plus a16 (x9.toNat * 2)) 1)).bind (Value.int? .i64)) fun x18 =>
 ob (Value.fun? v4) fun q20 =>
 ob (acall P T k lo q20.1 (q20.2.1 ++ [.agg ⟨[.slice s14.a s14.n s14.c, .int .i64 x15]⟩, .agg ⟨[.slice s17.a s17.n s17.c, .int .i64 x18]⟩] ++ q20.2.2) M) fun r19 =>
 ob ((some r19.1).bind Value.bool?) fun b21 =>
 bb (!b21)
 (some (.ret (.bool false) r19.2))
 (some (slices_EqualFunc__api_Table_api_Table_api_Table_api_Table_n2.c116 A1 n2 c3 v4 A5 n6 c7 x8 (IntKind.i64.wrap (x9 + 1)) r19.2))) none) none)
 (some (.ret (.bool true) M)) := by kernel_rfl
theorem slices_Equal__uint8_uint8.entry (k lo : Nat) (A1 : Option Addr) (n2 : Nat) (c3 : Nat) (A4 : Option Addr) (n5 : Nat) (c6 : Nat) (M : Mem) : entry P T k lo F.slices_Equal__uint8_uint8 [.slice A1 n2 c3, .slice A4 n5 c6] M =
 bb ((n2 : Int) != (n5 : Int))
 (some (.ret (.bool false) M))
 (some (slices_Equal__uint8_uint8.c116 A1 n2 c3 A4 n5 c6 (n2 : Int) 0 M)) := by kernel_rfl
theorem slices_Equal__uint8_uint8.p116 (k lo : Nat) (A1 : Option Addr) (n2 : Nat) (c3 : Nat) (A4 : Option Addr) (n5 : Nat) (c6 : Nat) (x7 : Int) (x8 : Int) (M : Mem) : piece P T k lo F.slices_Equal__uint8_uint8 116 [.v (.slice A1 n2 c3), .v (.slice A4 n5 c6), .v (.int .i64 x7), .v (.int .i64 x8)] [] M =
 bb (decide (x8 < x7))
 (pb (0 ≤ x8 ∧ x8 < (n2 : Int))
 (ob A1 fun a12 =>
 ob ((M.ld (plus a12 x8.toNat)).bind (Value.int? .u8)) fun x13 =>
 pb (0 ≤ x8 ∧ x8 < (n5 : Int))
 (ob A4 fun a14 =>
 ob ((M.ld (plus a14 x8.toNat)).bind (Value.int? .u8)) fun x15 =>
 bb (x13 != x15)
 (some (.ret (.bool false) M))
 (some (slices_Equal__uint8_uint8.c116 A1 n2 c3 A4 n5 c6 x7 (IntKind.i64.wrap (x8 + 1)) M))) none) none)
 (some (.ret (.bool true) M)) := by kernel_rfl
theorem zoetroperef02_New.entry (k lo : Nat) (M : Mem) : entry P T k lo F.zoetroperef02_New [] M =
 some (.ret (.pointer (some ⟨M.length, 0, none⟩)) (M ++ [⟨.fx, [.slice none 0 0, .int .u64 0, .int .u64 4294967295]⟩] : Mem)) := by kernel_rfl
theorem zoetroperef04_rows.entry (k lo : Nat) (M : Mem) : entry P T k lo F.zoetroperef04_rows [] M =
 some (.ret (.slice (some ⟨M.length, 0, none⟩) 32 32) (M ++ [⟨.fx, [.int .i64 8, .int .i64 10, .int .i64 0, .int .i64 4, .int .i64 8, .int .i64 0, .int .i64 3, .int .i64 2, .int .i64 0, .int .i64 3, .int .i64 2, .int .i64 0, .int .i64 4, .int .i64 13, .int .i64 0, .int .i64 8, .int .i64 7, .int .i64 0, .int .i64 1, .int .i64 13, .int .i64 0, .int .i64 1, .int .i64 14, .int .i64 0, .int .i64 1, .int .i64 8, .int .i64 0, .int .i64 2, .int .i64 16, .int .i64 1, .int .i64 1, .int .i64 2, .int .i64 0, .int .i64 3, .int .i64 3, .int .i64 0, .int .i64 3, .int .i64 9, .int .i64 0, .int .i64 1, .int .i64 2, .int .i64 0, .int .i64 3, .int .i64 3, .int .i64 0, .int .i64 1, .int .i64 2, .int .i64 0, .int .i64 3, .int .i64 4, .int .i64 0, .int .i64 1, .int .i64 4, .int .i64 0, .int .i64 2, .int .i64 11, .int .i64 1, .int .i64 2, .int .i64 8, .int .i64 0, .int .i64 1, .int .i64 3, .int .i64 0, .int .i64 1, .int .i64 2, .int .i64 0, .int .i64 4, .int .i64 2, .int .i64 0, .int .i64 2, .int .i64 5, .int .i64 0, .int .i64 2, .int .i64 7, .int .i64 0, .int .i64 2, .int .i64 9, .int .i64 0, .int .i64 2, .int .i64 11, .int .i64 0, .int .i64 2, .int .i64 3, .int .i64 1, .int .i64 10, .int .i64 4, .int .i64 1, .int .i64 14, .int .i64 4, .int .i64 1, .int .i64 6, .int .i64 2, .int .i64 0, .int .i64 3, .int .i64 2, .int .i64 0]⟩] : Mem)) := by kernel_rfl
theorem zoetroperef03_Flat.entry (k lo : Nat) (x1 : Int) (M : Mem) : entry P T k lo F.zoetroperef03_Flat [.int .i64 x1] M =
 bb (decide (x1 < 2))
 (some (.ret (.tuple ⟨[.agg ⟨[.slice none 0 0, .int .i64 0]⟩, .int .i64 2]⟩) M))
 (bb (decide (x1 > 16))
 (some (.ret (.tuple ⟨[.agg ⟨[.slice none 0 0, .int .i64 0]⟩, .int .i64 2]⟩) M))
 (some (zoetroperef03_Flat.c244 x1 0 none 0 0 0 none 0 0 0 M))) := by kernel_rfl
theorem zoetroperef03_Flat.p244 (k lo : Nat) (x1 : Int) (x2 : Int) (A3 : Option Addr) (n4 : Nat) (c5 : Nat) (x6 : Int) (A7 : Option Addr) (n8 : Nat) (c9 : Nat) (x10 : Int) (M : Mem) : piece P T k lo F.zoetroperef03_Flat 244 [.v (.int .i64 x1), .l 2 0, .l 4 0, .v (.int .i64 x2)] [[.slice A3 n4 c5, .int .i64 x6], [.slice A7 n8 c9, .int .i64 x10]] M =
 bb (decide (x2 < x1))
 (pb (x1 = 0) none
 (ob (M.app lo 1 2 ⟨A7, n8, c9⟩ ([.int .u16 (IntKind.u16.wrap (IntKind.i64.wrap (Int.tdiv (IntKind.i64.wrap (32768 * (IntKind.i64.wrap (x2 + 1)))) x1)))]) 1) fun r11 =>
 some (zoetroperef03_Flat.c244 x1 (IntKind.i64.wrap (x2 + 1)) A3 n4 c5 x6 r11.1.a r11.1.n r11.1.c x10 r11.2)))
 (some (.ret (.tuple ⟨[.agg ⟨[.slice A7 n8 c9, .int .i64 x10]⟩, .int .i64 0]⟩) M)) := by kernel_rfl
theorem zoetroperef03_Steep.entry (k lo : Nat) (x1 : Int) (M : Mem) : entry P T k lo F.zoetroperef03_Steep [.int .i64 x1] M =
 bb (decide (x1 < 2))
 (some (.ret (.tuple ⟨[.agg ⟨[.slice none 0 0, .int .i64 0]⟩, .int .i64 2]⟩) M))
 (bb (decide (x1 > 16))
 (some (.ret (.tuple ⟨[.agg ⟨[.slice none 0 0, .int .i64 0]⟩, .int .i64 2]⟩) M))
 (some (zoetroperef03_Steep.c500 x1 32768 0 none 0 0 0 none 0 0 0 M))) := by kernel_rfl
theorem zoetroperef03_Steep.p500 (k lo : Nat) (x1 : Int) (x2 : Int) (x3 : Int) (A4 : Option Addr) (n5 : Nat) (c6 : Nat) (x7 : Int) (A8 : Option Addr) (n9 : Nat) (c10 : Nat) (x11 : Int) (M : Mem) : piece P T k lo F.zoetroperef03_Steep 500 [.v (.int .i64 x1), .l 2 0, .l 4 0, .v (.int .i64 x2), .v (.int .i64 x3)] [[.slice A4 n5 c6, .int .i64 x7], [.slice A8 n9 c10, .int .i64 x11]] M =
 bb (decide (x3 < IntKind.i64.wrap (x1 - 1)))
 (ob (M.app lo 1 2 ⟨A8, n9, c10⟩ ([.int .u16 (IntKind.u16.wrap (IntKind.i64.wrap (32768 - (IntKind.i64.wrap (Int.tdiv x2 2)))))]) 1) fun r12 =>
 some (zoetroperef03_Steep.c500 x1 (IntKind.i64.wrap (Int.tdiv x2 2)) (IntKind.i64.wrap (x3 + 1)) A4 n5 c6 x7 r12.1.a r12.1.n r12.1.c x11 r12.2))
 (ob (M.app lo 1 2 ⟨A8, n9, c10⟩ ([.int .u16 32768]) 1) fun r13 =>
 some (.ret (.tuple ⟨[.agg ⟨[.slice r13.1.a r13.1.n r13.1.c, .int .i64 x11]⟩, .int .i64 0]⟩) r13.2)) := by kernel_rfl
theorem zoetroperef04_Shape.entry (k lo : Nat) (x1 : Int) (M : Mem) : entry P T k lo F.zoetroperef04_Shape [.int .i64 x1] M =
 bb (decide (x1 < 0))
 (some (.ret (.tuple ⟨[.int .i64 0, .int .i64 0, .int .i64 41]⟩) M))
 (bb (decide (x1 ≥ 32))
 (some (.ret (.tuple ⟨[.int .i64 0, .int .i64 0, .int .i64 41]⟩) M))
 (ob (acall P T k lo F.zoetroperef04_rows [] M) fun r7 =>
 ob ((some r7.1).bind Value.slc?) fun s8 =>
 pb (0 ≤ x1 ∧ x1 < (s8.n : Int))
 (ob s8.a fun a9 =>
 ob ((r7.2.ld (plus a9 (x1.toNat * 3))).bind (Value.int? .i64)) fun x10 =>
 ob ((r7.2.ld (plus (plus a9 (x1.toNat * 3)) 1)).bind (Value.int? .i64)) fun x11 =>
 ob ((r7.2.ld (plus (plus a9 (x1.toNat * 3)) 2)).bind (Value.int? .i64)) fun x12 =>
 some (.ret (.tuple ⟨[.int .i64 x10, .int .i64 x11, .int .i64 0]⟩) r7.2)) none)) := by kernel_rfl
theorem zoetroperef03_Bounds.entry (k lo : Nat) (A1 : Option Addr) (n2 : Nat) (c3 : Nat) (x4 : Int) (x5 : Int) (M : Mem) : entry P T k lo F.zoetroperef03_Bounds [.agg ⟨[.slice A1 n2 c3, .int .i64 x4]⟩, .int .i64 x5] M =
 ob (acall P T k lo F.zoetroperef03_Check [.agg ⟨[.slice A1 n2 c3, .int .i64 x4]⟩] M) fun r11 =>
 ob ((some r11.1).bind (Value.int? .i64)) fun x12 =>
 bb (x12 != 0)
 (some (.ret (.tuple ⟨[.int .u32 0, .int .u32 0, .int .i64 2]⟩) r11.2))
 (bb (decide (x5 < 0))
 (some (.ret (.tuple ⟨[.int .u32 0, .int .u32 0, .int .i64 2]⟩) r11.2))
 (bb (decide (x5 ≥ (n2 : Int)))
 (some (.ret (.tuple ⟨[.int .u32 0, .int .u32 0, .int .i64 2]⟩) r11.2))
 (ob (acall P T k r11.2.length F.zoetroperef03_end [.agg ⟨[.slice A1 n2 c3, .int .i64 x4]⟩, .int .i64 (IntKind.i64.wrap (x5 - 1))] r11.2) fun r13 =>
 ob ((some r13.1).bind (Value.int? .i64)) fun x14 =>
 ob (acall P T k lo F.zoetroperef03_end [.agg ⟨[.slice A1 n2 c3, .int .i64 x4]⟩, .int .i64 x5] r13.2) fun r15 =>
 ob ((some r15.1).bind (Value.int? .i64)) fun x16 =>
 some (.ret (.tuple ⟨[.int .u32 (IntKind.u32.wrap x14), .int .u32 (IntKind.u32.wrap x16), .int .i64 0]⟩) r15.2)))) := by kernel_rfl
theorem zoetroperef02_Encoder_Put.entry (k lo : Nat) (a1 : Addr) (x2 : Int) (x3 : Int) (M : Mem) : entry P T k lo F.zoetroperef02_Encoder_Put [.pointer (some a1), .int .u32 x2, .int .u32 x3] M =
 bb (decide (x2 ≥ x3))
 (some (.ret (.int .i64 2) M))
 (bb (decide (x3 > 32768))
 (some (.ret (.int .i64 2) M))
 (ob ((M.ld (plus a1 2)).bind (Value.int? .u64)) fun x9 =>
 ob (acall P T k lo F.zoetroperef02_part [.int .u64 x9, .int .u32 x2, .int .u32 x3] M) fun r10 =>
 ob (r10.1.tup? 2) fun l11 =>
 ob ((l11[0]?).bind (Value.int? .u64)) fun x12 =>
 ob ((l11[1]?).bind (Value.int? .u64)) fun x13 =>
 ob ((r10.2.ld (plus a1 1)).bind (Value.int? .u64)) fun x14 =>
 ob (r10.2.st lo (plus a1 1) [.int .u64 (IntKind.u64.wrap (x14 + x12))]) fun M15 =>
 ob (M15.st lo (plus a1 2) [.int .u64 x13]) fun M16 =>
 some (zoetroperef02_Encoder_Put.c504 a1 M16))) := by kernel_rfl
theorem zoetroperef02_Encoder_Put.p504 (k lo : Nat) (a1 : Addr) (M : Mem) : piece P T k lo F.zoetroperef02_Encoder_Put 504 [.v (.pointer (some a1))] [] M =
 ob ((M.ld (plus a1 2)).bind (Value.int? .u64)) fun x17 =>
 bb (decide (x17 < 16777216))
 (ob (acall P T k lo F.zoetroperef02_Encoder_goes [.pointer (some a1)] M) fun r18 =>
 ob (r18.1.tup? 0) fun l19 =>
 ob ((r18.2.ld (plus a1 2)).bind (Value.int? .u64)) fun x20 =>
 ob (r18.2.st lo (plus a1 2) [.int .u64 (IntKind.u64.wrap (x20 * 256))]) fun M21 =>
 some (zoetroperef02_Encoder_Put.c504 a1 M21))
 (some (.ret (.int .i64 0) M)) := by kernel_rfl
theorem zoetroperef02_Decoder_Value.entry (k lo : Nat) (a1 : Addr) (M : Mem) : entry P T k lo F.zoetroperef02_Decoder_Value [.pointer (some a1)] M =
 ob ((M.ld (plus a1 2)).bind (Value.int? .u64)) fun x7 =>
 ob ((M.ld (plus a1 3)).bind (Value.int? .u64)) fun x8 =>
 pb (IntKind.u64.wrap (Int.tdiv x8 32768) = 0) none
 (some (.ret (.tuple ⟨[.int .u32 (IntKind.u32.wrap (minI (IntKind.u64.wrap (Int.tdiv x7 (IntKind.u64.wrap (Int.tdiv x8 32768)))) 32767)), .int .i64 0]⟩) M)) := by kernel_rfl
theorem zoetroperef03_Find.entry (k lo : Nat) (A1 : Option Addr) (n2 : Nat) (c3 : Nat) (x4 : Int) (x5 : Int) (M : Mem) : entry P T k lo F.zoetroperef03_Find [.agg ⟨[.slice A1 n2 c3, .int .i64 x4]⟩, .int .u32 x5] M =
 ob (acall P T k lo F.zoetroperef03_Check [.agg ⟨[.slice A1 n2 c3, .int .i64 x4]⟩] M) fun r11 =>
 ob ((some r11.1).bind (Value.int? .i64)) fun x12 =>
 bb (x12 != 0)
 (some (.ret (.tuple ⟨[.int .i64 0, .int .i64 2]⟩) r11.2))
 (bb (decide (x5 > 32767))
 (some (.ret (.tuple ⟨[.int .i64 0, .int .i64 2]⟩) r11.2))
 (some (zoetroperef03_Find.c120 x5 0 A1 n2 c3 x4 r11.2))) := by kernel_rfl
theorem zoetroperef02_Decoder_Take.entry (k lo : Nat) (a1 : Addr) (x2 : Int) (x3 : Int) (M : Mem) : entry P T k lo F.zoetroperef02_Decoder_Take [.pointer (some a1), .int .u32 x2, .int .u32 x3] M =
 ob (acall P T k lo F.zoetroperef02_Decoder_Value [.pointer (some a1)] M) fun r9 =>
 ob (r9.1.tup? 2) fun l10 =>
 ob ((l10[0]?).bind (Value.int? .u32)) fun x11 =>
 ob ((l10[1]?).bind (Value.int? .i64)) fun x12 =>
 bb (decide (x2 > x11))
 (some (.ret (.int .i64 2) r9.2))
 (bb (decide (x11 ≥ x3))
 (some (.ret (.int .i64 2) r9.2))
 (bb (decide (x3 > 32768))
 (some (.ret (.int .i64 2) r9.2))
 (ob ((r9.2.ld (plus a1 3)).bind (Value.int? .u64)) fun x13 =>
 ob (acall P T k lo F.zoetroperef02_part [.int .u64 x13, .int .u32 x2, .int .u32 x3] r9.2) fun r14 =>
 ob (r14.1.tup? 2) fun l15 =>
 ob ((l15[0]?).bind (Value.int? .u64)) fun x16 =>
 ob ((l15[1]?).bind (Value.int? .u64)) fun x17 =>
 ob ((r14.2.ld (plus a1 2)).bind (Value.int? .u64)) fun x18 =>
 ob (r14.2.st lo (plus a1 2) [.int .u64 (IntKind.u64.wrap (x18 - x16))]) fun M19 =>
 ob (M19.st lo (plus a1 3) [.int .u64 x17]) fun M20 =>
 some (zoetroperef02_Decoder_Take.c1016 a1 M20)))) := by kernel_rfl
theorem zoetroperef02_Decoder_Take.p1016 (k lo : Nat) (a1 : Addr) (M : Mem) : piece P T k lo F.zoetroperef02_Decoder_Take 1016 [.v (.pointer (some a1))] [] M =
 ob ((M.ld (plus a1 3)).bind (Value.int? .u64)) fun x21 =>
 bb (decide (x21 < 16777216))
 (ob ((if ((plus a1 2).block) < M.length then M.ld (plus a1 2) else none).bind (Value.int? .u64)) fun x22 =>
 ob (acall P T k M.length F.zoetroperef02_Decoder_next [.pointer (some a1)] M) fun r23 =>
 ob ((some r23.1).bind (Value.int? .u64)) fun x24 =>
 ob (r23.2.st lo (plus a1 2) [.int .u64 (IntKind.u64.wrap ((IntKind.u64.wrap (x22 * 256)) + x24))]) fun M25 =>
 ob ((M25.ld (plus a1 3)).bind (Value.int? .u64)) fun x26 =>
 ob (M25.st lo (plus a1 3) [.int .u64 (IntKind.u64.wrap (x26 * 256))]) fun M27 =>
 some (zoetroperef02_Decoder_Take.c1016 a1 M27))
 (some (.ret (.int .i64 0) M)) := by kernel_rfl
theorem zoetroperef03_Adapt.entry (k lo : Nat) (A1 : Option Addr) (n2 : Nat) (c3 : Nat) (x4 : Int) (x5 : Int) (M : Mem) : entry P T k lo F.zoetroperef03_Adapt [.agg ⟨[.slice A1 n2 c3, .int .i64 x4]⟩, .int .i64 x5] M =
 ob (acall P T k lo F.zoetroperef03_Check [.agg ⟨[.slice A1 n2 c3, .int .i64 x4]⟩] M) fun r11 =>
 ob ((some r11.1).bind (Value.int? .i64)) fun x12 =>
 bb (x12 != 0)
 (some (.ret (.tuple ⟨[.agg ⟨[.slice none 0 0, .int .i64 0]⟩, .int .i64 2]⟩) r11.2))
 (bb (decide (x5 < 0))
 (some (.ret (.tuple ⟨[.agg ⟨[.slice none 0 0, .int .i64 0]⟩, .int .i64 2]⟩) r11.2))
 (bb (decide (x5 ≥ (n2 : Int)))
 (some (.ret (.tuple ⟨[.agg ⟨[.slice none 0 0, .int .i64 0]⟩, .int .i64 2]⟩) r11.2))
 (ob (acall P T k lo F.zoetroperef00_Log [.int .i64 (n2 : Int)] r11.2) fun r13 =>
 ob ((some r13.1).bind (Value.int? .i64)) fun x14 =>
 bb (decide (x4 > 15))
 (some (zoetroperef03_Adapt.c63 x5 (n2 : Int) (IntKind.i64.wrap ((IntKind.i64.wrap (3 + (minI x14 2))) + 1)) A1 n2 c3 x4 none 0 0 0 r13.2))
 (some (zoetroperef03_Adapt.c63 x5 (n2 : Int) (IntKind.i64.wrap (3 + (minI x14 2))) A1 n2 c3 x4 none 0 0 0 r13.2))))) := by kernel_rfl
theorem zoetroperef03_Adapt.p63 (k lo : Nat) (x1 : Int) (x2 : Int) (x3 : Int) (A4 : Option Addr) (n5 : Nat) (c6 : Nat) (x7 : Int) (A8 : Option Addr) (n9 : Nat) (c10 : Nat) (x11 : Int) (M : Mem) : piece P T k lo F.zoetroperef03_Adapt 63 [.v (.int .i64 x1), .l 2 0, .l 4 0, .v (.int .i64 x2), .v (.int .i64 x3)] [[.slice A4 n5 c6, .int .i64 x7], [.slice A8 n9 c10, .int .i64 x11]] M =
 bb (decide (x7 > 31))
 (some (zoetroperef03_Adapt.c127 x1 x2 (IntKind.i64.wrap (x3 + 1)) A4 n5 c6 x7 A8 n9 c10 x11 M))
 (some (zoetroperef03_Adapt.c127 x1 x2 x3 A4 n5 c6 x7 A8 n9 c10 x11 M)) := by kernel_rfl
theorem zoetroperef03_Adapt.p127 (k lo : Nat) (x1 : Int) (x2 : Int) (x3 : Int) (A4 : Option Addr) (n5 : Nat) (c6 : Nat) (x7 : Int) (A8 : Option Addr) (n9 : Nat) (c10 : Nat) (x11 : Int) (M : Mem) : piece P T k lo F.zoetroperef03_Adapt 127 [.v (.int .i64 x1), .l 2 0, .l 4 0, .v (.int .i64 x2), .v (.int .i64 x3)] [[.slice A4 n5 c6, .int .i64 x7], [.slice A8 n9 c10, .int .i64 x11]] M =
 some (zoetroperef03_Adapt.c4084 x1 x2 x3 1 0 A4 n5 c6 x7 A8 n9 c10 x11 M) := by kernel_rfl
theorem zoetroperef03_Adapt.p4084 (k lo : Nat) (x1 : Int) (x2 : Int) (x3 : Int) (x4 : Int) (x5 : Int) (A6 : Option Addr) (n7 : Nat) (c8 : Nat) (x9 : Int) (A10 : Option Addr) (n11 : Nat) (c12 : Nat) (x13 : Int) (M : Mem) : piece P T k lo F.zoetroperef03_Adapt 4084 [.v (.int .i64 x1), .l 2 0, .l 4 0, .v (.int .i64 x2), .v (.int .i64 x3), .v (.int .i64 x4), .v (.int .i64 x5)] [[.slice A6 n7 c8, .int .i64 x9], [.slice A10 n11 c12, .int .i64 x13]] M =
 bb (decide (x5 < x3))
 (some (zoetroperef03_Adapt.c4084 x1 x2 x3 (IntKind.i64.wrap (x4 * 2)) (IntKind.i64.wrap (x5 + 1)) A6 n7 c8 x9 A10 n11 c12 x13 M))
 (some (zoetroperef03_Adapt.c16372 x1 x2 x4 0 A6 n7 c8 x9 A10 n11 c12 x13 none 0 0 (minI (IntKind.i64.wrap (x9 + 1)) 32) M)) := by kernel_rfl
theorem zoetroperef03_Adapt.p16372 (k lo : Nat) (x1 : Int) (x2 : Int) (x3 : Int) (x4 : Int) (A5 : Option Addr) (n6 : Nat) (c7 : Nat) (x8 : Int) (A9 : Option Addr) (n10 : Nat) (c11 : Nat) (x12 : Int) (A13 : Option Addr) (n14 : Nat) (c15 : Nat) (x16 : Int) (M : Mem) : piece P T k lo F.zoetroperef03_Adapt 16372 [.v (.int .i64 x1), .l 2 0, .l 4 0, .v (.int .i64 x2), .v (.int .i64 x3), .l 10 0, .v (.int .i64 x4)] [[.slice A5 n6 c7, .int .i64 x8], [.slice A9 n10 c11, .int .i64 x12], [.slice A13 n14 c15, .int .i64 x16]] M =
 bb (decide (x4 < x2))
 (pb (0 ≤ x4 ∧ x4 < (n6 : Int))
 (ob A5 fun a17 =>
 ob ((M.ld (plus a17 x4.toNat)).bind (Value.int? .u16)) fun x18 =>
 bb (decide (x4 < IntKind.i64.wrap (x2 - 1)))
 (bb (decide (x4 ≥ x1))
 (pb (x3 = 0) none
 (some (zoetroperef03_Adapt.c523923 x1 x2 x3 x4 (IntKind.i64.wrap ((IntKind.i64.wrap x18) + (IntKind.i64.wrap (Int.tdiv (IntKind.i64.wrap (32768 - (IntKind.i64.wrap x18))) x3)))) A5 n6 c7 x8 A9 n10 c11 x12 A13 n14 c15 x16 M)))
 (bb (decide (x4 < IntKind.i64.wrap (x2 - 1)))
 (pb (x3 = 0) none
 (some (zoetroperef03_Adapt.c523923 x1 x2 x3 x4 (IntKind.i64.wrap ((IntKind.i64.wrap x18) - (IntKind.i64.wrap (Int.tdiv (IntKind.i64.wrap x18) x3)))) A5 n6 c7 x8 A9 n10 c11 x12 A13 n14 c15 x16 M)))
 (some (zoetroperef03_Adapt.c523923 x1 x2 x3 x4 (IntKind.i64.wrap x18) A5 n6 c7 x8 A9 n10 c11 x12 A13 n14 c15 x16 M))))
 (bb (decide (x4 < IntKind.i64.wrap (x2 - 1)))
 (pb (x3 = 0) none
 (some (zoetroperef03_Adapt.c523923 x1 x2 x3 x4 (IntKind.i64.wrap ((IntKind.i64.wrap x18) - (IntKind.i64.wrap (Int.tdiv (IntKind.i64.wrap x18) x3)))) A5 n6 c7 x8 A9 n10 c11 x12 A13 n14 c15 x16 M)))
 (some (zoetroperef03_Adapt.c523923 x1 x2 x3 x4 (IntKind.i64.wrap x18) A5 n6 c7 x8 A9 n10 c11 x12 A13 n14 c15 x16 M)))) none)
 (some (.ret (.tuple ⟨[.agg ⟨[.slice A13 n14 c15, .int .i64 x16]⟩, .int .i64 0]⟩) M)) := by kernel_rfl
theorem zoetroperef03_Adapt.p523923 (k lo : Nat) (x1 : Int) (x2 : Int) (x3 : Int) (x4 : Int) (x5 : Int) (A6 : Option Addr) (n7 : Nat) (c8 : Nat) (x9 : Int) (A10 : Option Addr) (n11 : Nat) (c12 : Nat) (x13 : Int) (A14 : Option Addr) (n15 : Nat) (c16 : Nat) (x17 : Int) (M : Mem) : piece P T k lo F.zoetroperef03_Adapt 523923 [.v (.int .i64 x1), .l 2 0, .l 4 0, .v (.int .i64 x2), .v (.int .i64 x3), .l 10 0, .v (.int .i64 x4), .v (.int .i64 x5)] [[.slice A6 n7 c8, .int .i64 x9], [.slice A10 n11 c12, .int .i64 x13], [.slice A14 n15 c16, .int .i64 x17]] M =
 ob (M.app lo 1 2 ⟨A14, n15, c16⟩ ([.int .u16 (IntKind.u16.wrap x5)]) 1) fun r19 =>
 some (zoetroperef03_Adapt.c16372 x1 x2 x3 (IntKind.i64.wrap (x4 + 1)) A6 n7 c8 x9 A10 n11 c12 x13 r19.1.a r19.1.n r19.1.c x17 r19.2) := by kernel_rfl
theorem zoetroperef05_Check.entry (k lo : Nat) (x1 : Int) (x2 : Int) (A3 : Option Addr) (n4 : Nat) (c5 : Nat) (M : Mem) : entry P T k lo F.zoetroperef05_Check [.agg ⟨[.int .i64 x1, .int .i64 x2, .slice A3 n4 c5]⟩] M =
 bb (decide (x1 < 1))
 (some (.ret (.int .i64 2) M))
 (bb (decide (x1 > 512))
 (some (.ret (.int .i64 2) M))
 (bb (decide (x2 < 1))
 (some (.ret (.int .i64 2) M))
 (bb (decide (x2 > 512))
 (some (.ret (.int .i64 2) M))
 (bb ((n4 : Int) != IntKind.i64.wrap (x1 * x2))
 (some (.ret (.int .i64 2) M))
 (some (.ret (.int .i64 0) M)))))) := by kernel_rfl
theorem zoetroperef05_side.entry (k lo : Nat) (x1 : Int) (M : Mem) : entry P T k lo F.zoetroperef05_side [.int .i64 x1] M =
 bb (Int.tmod x1 2 == 0)
 (bb (decide (x1 ≥ 16))
 (some (.ret (.bool (decide (x1 ≤ 256))) M))
 (some (.ret (.bool false) M)))
 (some (.ret (.bool false) M)) := by kernel_rfl
theorem zoetroperef03_Check.entry (k lo : Nat) (A1 : Option Addr) (n2 : Nat) (c3 : Nat) (x4 : Int) (M : Mem) : entry P T k lo F.zoetroperef03_Check [.agg ⟨[.slice A1 n2 c3, .int .i64 x4]⟩] M =
 bb (decide ((n2 : Int) < 2))
 (some (.ret (.int .i64 2) M))
 (bb (decide ((n2 : Int) > 16))
 (some (.ret (.int .i64 2) M))
 (bb (decide (x4 < 0))
 (some (.ret (.int .i64 2) M))
 (bb (decide (x4 > 32))
 (some (.ret (.int .i64 2) M))
 (pb (0 ≤ IntKind.i64.wrap ((n2 : Int) - 1) ∧ IntKind.i64.wrap ((n2 : Int) - 1) < (n2 : Int))
 (ob A1 fun a10 =>
 ob ((M.ld (plus a10 ((IntKind.i64.wrap ((n2 : Int) - 1)).toNat))).bind (Value.int? .u16)) fun x11 =>
 bb (x11 != 32768)
 (some (.ret (.int .i64 2) M))
 (some (zoetroperef03_Check.c244 (n2 : Int) 1 A1 n2 c3 x4 M))) none)))) := by kernel_rfl
theorem zoetroperef03_Check.p244 (k lo : Nat) (x1 : Int) (x2 : Int) (A3 : Option Addr) (n4 : Nat) (c5 : Nat) (x6 : Int) (M : Mem) : piece P T k lo F.zoetroperef03_Check 244 [.l 1 0, .v (.int .i64 x1), .v (.int .i64 x2)] [[.slice A3 n4 c5, .int .i64 x6]] M =
 bb (decide (x2 < x1))
 (pb (0 ≤ x2 ∧ x2 < (n4 : Int))
 (ob A3 fun a12 =>
 ob ((M.ld (plus a12 x2.toNat)).bind (Value.int? .u16)) fun x13 =>
 pb (0 ≤ IntKind.i64.wrap (x2 - 1) ∧ IntKind.i64.wrap (x2 - 1) < (n4 : Int))
 (ob A3 fun a14 =>
 ob ((M.ld (plus a14 ((IntKind.i64.wrap (x2 - 1)).toNat))).bind (Value.int? .u16)) fun x15 =>
 bb (decide (x13 < x15))
 (some (.ret (.int .i64 2) M))
 (some (zoetroperef03_Check.c244 x1 (IntKind.i64.wrap (x2 + 1)) A3 n4 c5 x6 M))) none) none)
 (some (.ret (.int .i64 0) M)) := by kernel_rfl
theorem zoetroperef00_CopyBytes.entry (k lo : Nat) (A1 : Option Addr) (n2 : Nat) (c3 : Nat) (M : Mem) : entry P T k lo F.zoetroperef00_CopyBytes [.slice A1 n2 c3] M =
 ob (Mem.src M A1 n2 n2) fun l9 =>
 ob (M.app lo 1 1 ⟨none, 0, 0⟩ l9 n2) fun r10 =>
 some (.ret (.slice r10.1.a r10.1.n r10.1.c) r10.2) := by kernel_rfl
theorem zoetroperef26_Pool_slot.entry (k lo : Nat) (a1 : Addr) (x2 : Int) (M : Mem) : entry P T k lo F.zoetroperef26_Pool_slot [.pointer (some a1), .int .i64 x2] M =
 bb (decide (x2 < 0))
 (some (.ret (.int .i64 2) M))
 (bb (decide (x2 > 7))
 (some (.ret (.int .i64 2) M))
 (pb (0 ≤ x2 ∧ x2 < (8 : Int))
 (ob ((M.ld (plus a1 x2.toNat)).bind Value.bool?) fun b8 =>
 bb (!b8)
 (some (.ret (.int .i64 6) M))
 (some (.ret (.int .i64 0) M))) none)) := by kernel_rfl
theorem zoetroperef00_EqBytes.entry (k lo : Nat) (A1 : Option Addr) (n2 : Nat) (c3 : Nat) (A4 : Option Addr) (n5 : Nat) (c6 : Nat) (M : Mem) : entry P T k lo F.zoetroperef00_EqBytes [.slice A1 n2 c3, .slice A4 n5 c6] M =
 bb ((n2 : Int) != (n5 : Int))
 (some (.ret (.bool false) M))
 (some (zoetroperef00_EqBytes.c116 A1 n2 c3 A4 n5 c6 0 M)) := by kernel_rfl
theorem zoetroperef00_EqBytes.p116 (k lo : Nat) (A1 : Option Addr) (n2 : Nat) (c3 : Nat) (A4 : Option Addr) (n5 : Nat) (c6 : Nat) (x7 : Int) (M : Mem) : piece P T k lo F.zoetroperef00_EqBytes 116 [.v (.slice A1 n2 c3), .v (.slice A4 n5 c6), .v (.int .i64 x7)] [] M =
 bb (decide (x7 < (n2 : Int)))
 (pb (0 ≤ x7 ∧ x7 < (n2 : Int))
 (ob A1 fun a12 =>
 ob ((M.ld (plus a12 x7.toNat)).bind (Value.int? .u8)) fun x13 =>
 pb (0 ≤ x7 ∧ x7 < (n5 : Int))
 (ob A4 fun a14 =>
 ob ((M.ld (plus a14 x7.toNat)).bind (Value.int? .u8)) fun x15 =>
 bb (x13 != x15)
 (some (.ret (.bool false) M))
 (some (zoetroperef00_EqBytes.c116 A1 n2 c3 A4 n5 c6 (IntKind.i64.wrap (x7 + 1)) M))) none) none)
 (some (.ret (.bool true) M)) := by kernel_rfl
theorem math_bits_Mul.entry (k lo : Nat) (x1 : Int) (x2 : Int) (M : Mem) : entry P T k lo F.math_bits_Mul [.int .u64 x1, .int .u64 x2] M =
 ob (acall P T k lo F.math_bits_Mul64 [.int .u64 x1, .int .u64 x2] M) fun r8 =>
 ob (r8.1.tup? 2) fun l9 =>
 ob ((l9[0]?).bind (Value.int? .u64)) fun x10 =>
 ob ((l9[1]?).bind (Value.int? .u64)) fun x11 =>
 some (.ret (.tuple ⟨[.int .u64 x10, .int .u64 x11]⟩) r8.2) := by kernel_rfl
theorem slices_IsSorted__uint16_uint16.entry (k lo : Nat) (A1 : Option Addr) (n2 : Nat) (c3 : Nat) (M : Mem) : entry P T k lo F.slices_IsSorted__uint16_uint16 [.slice A1 n2 c3] M =
 some (slices_IsSorted__uint16_uint16.c52 A1 n2 c3 (IntKind.i64.wrap ((n2 : Int) - 1)) M) := by kernel_rfl
theorem slices_IsSorted__uint16_uint16.p52 (k lo : Nat) (A1 : Option Addr) (n2 : Nat) (c3 : Nat) (x4 : Int) (M : Mem) : piece P T k lo F.slices_IsSorted__uint16_uint16 52 [.v (.slice A1 n2 c3), .v (.int .i64 x4)] [] M =
 bb (decide (x4 > 0))
 (pb (0 ≤ x4 ∧ x4 < (n2 : Int))
 (ob A1 fun a9 =>
 ob ((M.ld (plus a9 x4.toNat)).bind (Value.int? .u16)) fun x10 =>
 pb (0 ≤ IntKind.i64.wrap (x4 - 1) ∧ IntKind.i64.wrap (x4 - 1) < (n2 : Int))
 (ob A1 fun a11 =>
 ob ((M.ld (plus a11 ((IntKind.i64.wrap (x4 - 1)).toNat))).bind (Value.int? .u16)) fun x12 =>
 ob (acall P T k lo F.cmp_Less_uint16 [.int .u16 x10, .int .u16 x12] M) fun r13 =>
 ob ((some r13.1).bind Value.bool?) fun b14 =>
 bb b14
 (some (.ret (.bool false) r13.2))
 (some (slices_IsSorted__uint16_uint16.c52 A1 n2 c3 (IntKind.i64.wrap (x4 - 1)) r13.2))) none) none)
 (some (.ret (.bool true) M)) := by kernel_rfl
theorem zoetroperef03_end.entry (k lo : Nat) (A1 : Option Addr) (n2 : Nat) (c3 : Nat) (x4 : Int) (x5 : Int) (M : Mem) : entry P T k lo F.zoetroperef03_end [.agg ⟨[.slice A1 n2 c3, .int .i64 x4]⟩, .int .i64 x5] M =
 bb (decide (x5 < 0))
 (some (.ret (.int .i64 0) M))
 (pb (0 ≤ x5 ∧ x5 < (n2 : Int))
 (ob A1 fun a11 =>
 ob ((M.ld (plus a11 x5.toNat)).bind (Value.int? .u16)) fun x12 =>
 some (.ret (.int .i64 (IntKind.i64.wrap ((IntKind.i64.wrap (Int.tdiv (IntKind.i64.wrap ((IntKind.i64.wrap x12) * (IntKind.i64.wrap (32768 - (IntKind.i64.wrap (4 * (n2 : Int))))))) 32768)) + (IntKind.i64.wrap (4 * (IntKind.i64.wrap (x5 + 1))))))) M)) none) := by kernel_rfl
theorem zoetroperef02_part.entry (k lo : Nat) (x1 : Int) (x2 : Int) (x3 : Int) (M : Mem) : entry P T k lo F.zoetroperef02_part [.int .u64 x1, .int .u32 x2, .int .u32 x3] M =
 bb (x3 == 32768)
 (some (.ret (.tuple ⟨[.int .u64 (IntKind.u64.wrap ((IntKind.u64.wrap (Int.tdiv x1 32768)) * (IntKind.u64.wrap x2))), .int .u64 (IntKind.u64.wrap (x1 - (IntKind.u64.wrap ((IntKind.u64.wrap (Int.tdiv x1 32768)) * (IntKind.u64.wrap x2)))))]⟩) M))
 (some (.ret (.tuple ⟨[.int .u64 (IntKind.u64.wrap ((IntKind.u64.wrap (Int.tdiv x1 32768)) * (IntKind.u64.wrap x2))), .int .u64 (IntKind.u64.wrap ((IntKind.u64.wrap (Int.tdiv x1 32768)) * (IntKind.u64.wrap (IntKind.u32.wrap (x3 - x2)))))]⟩) M)) := by kernel_rfl
theorem zoetroperef02_Encoder_goes.entry (k lo : Nat) (a1 : Addr) (M : Mem) : entry P T k lo F.zoetroperef02_Encoder_goes [.pointer (some a1)] M =
 ob ((M.ld (plus a1 1)).bind (Value.int? .u64)) fun x7 =>
 bb (decide (x7 ≥ 4294967296))
 (ob ((M.ld a1).bind Value.slc?) fun s8 =>
 some (zoetroperef02_Encoder_goes.c168 a1 (IntKind.i64.wrap ((s8.n : Int) - 1)) M))
 (some (zoetroperef02_Encoder_goes.c3 a1 M)) := by kernel_rfl
theorem zoetroperef02_Encoder_goes.p3 (k lo : Nat) (a1 : Addr) (M : Mem) : piece P T k lo F.zoetroperef02_Encoder_goes 3 [.v (.pointer (some a1))] [] M =
 ob ((M.ld a1).bind Value.slc?) fun s9 =>
 ob ((M.ld (plus a1 1)).bind (Value.int? .u64)) fun x10 =>
 ob (M.app lo 1 1 ⟨s9.a, s9.n, s9.c⟩ ([.int .u8 (IntKind.u8.wrap (IntKind.u64.wrap (Int.tdiv x10 16777216)))]) 1) fun r11 =>
 ob (r11.2.st lo a1 [.slice r11.1.a r11.1.n r11.1.c]) fun M12 =>
 ob ((M12.ld (plus a1 1)).bind (Value.int? .u64)) fun x13 =>
 ob (M12.st lo (plus a1 1) [.int .u64 (IntKind.u64.wrap ((Int.tmod x13 16777216) * 256))]) fun M14 =>
 some (.ret (.tuple ⟨[]⟩) M14) := by kernel_rfl
theorem zoetroperef02_Encoder_goes.p87 (k lo : Nat) (a1 : Addr) (M : Mem) : piece P T k lo F.zoetroperef02_Encoder_goes 87 [.v (.pointer (some a1))] [] M =
 ob ((M.ld (plus a1 1)).bind (Value.int? .u64)) fun x31 =>
 ob (M.st lo (plus a1 1) [.int .u64 (IntKind.u64.wrap (x31 - 4294967296))]) fun M32 =>
 some (zoetroperef02_Encoder_goes.c3 a1 M32) := by kernel_rfl
theorem zoetroperef02_Encoder_goes.p168 (k lo : Nat) (a1 : Addr) (x2 : Int) (M : Mem) : piece P T k lo F.zoetroperef02_Encoder_goes 168 [.v (.pointer (some a1)), .v (.int .i64 x2)] [] M =
 bb (decide (x2 ≥ 0))
 (ob ((M.ld a1).bind Value.slc?) fun s15 =>
 pb (0 ≤ x2 ∧ x2 < (s15.n : Int))
 (ob s15.a fun a16 =>
 ob ((M.ld (plus a16 x2.toNat)).bind (Value.int? .u8)) fun x17 =>
 bb (x17 == 255)
 (ob ((M.ld a1).bind Value.slc?) fun s18 =>
 pb (0 ≤ x2 ∧ x2 < (s18.n : Int))
 (ob s18.a fun a19 =>
 ob (M.st lo (plus a19 x2.toNat) [.int .u8 0]) fun M20 =>
 some (zoetroperef02_Encoder_goes.c168 a1 (IntKind.i64.wrap (x2 - 1)) M20)) none)
 (bb (decide (x2 ≥ 0))
 (ob ((M.ld a1).bind Value.slc?) fun s21 =>
 pb (0 ≤ x2 ∧ x2 < (s21.n : Int))
 (ob s21.a fun a22 =>
 ob ((M.ld (plus a22 x2.toNat)).bind (Value.int? .u8)) fun x23 =>
 pb (0 ≤ x2 ∧ x2 < (s21.n : Int))
 (ob s21.a fun a24 =>
 ob (M.st lo (plus a24 x2.toNat) [.int .u8 (IntKind.u8.wrap (x23 + 1))]) fun M25 =>
 some (zoetroperef02_Encoder_goes.c87 a1 M25)) none) none)
 (some (zoetroperef02_Encoder_goes.c87 a1 M)))) none)
 (bb (decide (x2 ≥ 0))
 (ob ((M.ld a1).bind Value.slc?) fun s26 =>
 pb (0 ≤ x2 ∧ x2 < (s26.n : Int))
 (ob s26.a fun a27 =>
 ob ((M.ld (plus a27 x2.toNat)).bind (Value.int? .u8)) fun x28 =>
 pb (0 ≤ x2 ∧ x2 < (s26.n : Int))
 (ob s26.a fun a29 =>
 ob (M.st lo (plus a29 x2.toNat) [.int .u8 (IntKind.u8.wrap (x28 + 1))]) fun M30 =>
 some (zoetroperef02_Encoder_goes.c87 a1 M30)) none) none)
 (some (zoetroperef02_Encoder_goes.c87 a1 M))) := by kernel_rfl
theorem zoetroperef02_Decoder_next.entry (k lo : Nat) (a1 : Addr) (M : Mem) : entry P T k lo F.zoetroperef02_Decoder_next [.pointer (some a1)] M =
 ob ((M.ld (plus a1 1)).bind (Value.int? .i64)) fun x7 =>
 ob ((M.ld (plus a1 1)).bind (Value.int? .i64)) fun x8 =>
 ob (M.st lo (plus a1 1) [.int .i64 (IntKind.i64.wrap (x8 + 1))]) fun M9 =>
 ob ((M9.ld a1).bind Value.slc?) fun s10 =>
 bb (decide (x7 < (s10.n : Int)))
 (ob ((M9.ld a1).bind Value.slc?) fun s11 =>
 pb (0 ≤ x7 ∧ x7 < (s11.n : Int))
 (ob s11.a fun a12 =>
 ob ((M9.ld (plus a12 x7.toNat)).bind (Value.int? .u8)) fun x13 =>
 some (.ret (.int .u64 (IntKind.u64.wrap x13)) M9)) none)
 (some (.ret (.int .u64 0) M9)) := by kernel_rfl
theorem zoetroperef00_Log.entry (k lo : Nat) (x1 : Int) (M : Mem) : entry P T k lo F.zoetroperef00_Log [.int .i64 x1] M =
 some (zoetroperef00_Log.c56 x1 0 M) := by kernel_rfl
theorem zoetroperef00_Log.p56 (k lo : Nat) (x1 : Int) (x2 : Int) (M : Mem) : piece P T k lo F.zoetroperef00_Log 56 [.v (.int .i64 x1), .v (.int .i64 x2)] [] M =
 bb (decide (x1 > 1))
 (some (zoetroperef00_Log.c56 (IntKind.i64.wrap (Int.tdiv x1 2)) (IntKind.i64.wrap (x2 + 1)) M))
 (some (.ret (.int .i64 x2) M)) := by kernel_rfl
theorem math_bits_Mul64.entry (k lo : Nat) (x1 : Int) (x2 : Int) (M : Mem) : entry P T k lo F.math_bits_Mul64 [.int .u64 x1, .int .u64 x2] M =
 some (.ret (.tuple ⟨[.int .u64 (IntKind.u64.wrap ((IntKind.u64.wrap ((IntKind.u64.wrap ((shrI .u64 x1 32) * (shrI .u64 x2 32))) + (shrI .u64 (IntKind.u64.wrap ((IntKind.u64.wrap ((shrI .u64 x1 32) * (andI .u64 x2 4294967295))) + (shrI .u64 (IntKind.u64.wrap ((andI .u64 x1 4294967295) * (andI .u64 x2 4294967295))) 32))) 32))) + (shrI .u64 (IntKind.u64.wrap ((andI .u64 (IntKind.u64.wrap ((IntKind.u64.wrap ((shrI .u64 x1 32) * (andI .u64 x2 4294967295))) + (shrI .u64 (IntKind.u64.wrap ((andI .u64 x1 4294967295) * (andI .u64 x2 4294967295))) 32))) 4294967295) + (IntKind.u64.wrap ((andI .u64 x1 4294967295) * (shrI .u64 x2 32))))) 32))), .int .u64 (IntKind.u64.wrap (x1 * x2))]⟩) M) := by kernel_rfl
theorem cmp_Less_uint16.entry (k lo : Nat) (x1 : Int) (x2 : Int) (M : Mem) : entry P T k lo F.cmp_Less_uint16 [.int .u16 x1, .int .u16 x2] M =
 ob (acall P T k lo F.cmp_isNaN_uint16 [.int .u16 x1] M) fun r8 =>
 ob ((some r8.1).bind Value.bool?) fun b9 =>
 bb b9
 (ob (acall P T k lo F.cmp_isNaN_uint16 [.int .u16 x2] r8.2) fun r10 =>
 ob ((some r10.1).bind Value.bool?) fun b11 =>
 bb (!b11)
 (some (.ret (.bool true) r10.2))
 (some (.ret (.bool (decide (x1 < x2))) r10.2)))
 (some (.ret (.bool (decide (x1 < x2))) r8.2)) := by kernel_rfl
theorem cmp_isNaN_uint16.entry (k lo : Nat) (x1 : Int) (M : Mem) : entry P T k lo F.cmp_isNaN_uint16 [.int .u16 x1] M =
 some (.ret (.bool (x1 != x1)) M) := by kernel_rfl
end Go.Zt
