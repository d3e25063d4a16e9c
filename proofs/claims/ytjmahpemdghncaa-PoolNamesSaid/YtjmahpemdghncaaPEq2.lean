/- What the law PoolNames needs of the text Eq2. -/
import Derived.Test.YtjmahpemdghncaaPEq0
import Derived.KernelRfl
set_option maxRecDepth 100000
set_option maxHeartbeats 4000000
set_option linter.unusedVariables false
namespace Go.Zt
theorem pool_Pool_Has.entry (k lo : Nat) (a1 : Addr) (M : Mem) : entry P T k lo F.pool_Pool_Has [.pointer (some a1)] M =
 ob (acall P T k lo F.pool_Pool_none [.pointer (some a1)] M) fun r7 =>
 ob ((some r7.1).bind Value.bool?) fun b8 =>
 bb b8
 (some (.ret (.int .i64 0) r7.2))
 (ob ((r7.2.ld (plus a1 1)).bind Value.bool?) fun b9 =>
 ob ((r7.2.ld (plus (plus a1 1) 1)).bind (Value.int? .i64)) fun x10 =>
 ob ((r7.2.ld (plus (plus a1 1) 2)).bind (Value.int? .i64)) fun x11 =>
 ob ((r7.2.ld (plus (plus a1 1) 3)).bind Value.slc?) fun s12 =>
 ob ((r7.2.ld (plus (plus a1 1) 4)).bind (Value.int? .i64)) fun x13 =>
 ob ((r7.2.ld (plus (plus a1 1) 5)).bind (Value.int? .i64)) fun x14 =>
 ob ((r7.2.ld (plus (plus a1 1) 6)).bind Value.slc?) fun s15 =>
 ob ((r7.2.ld (plus (plus a1 1) 7)).bind (Value.int? .i64)) fun x16 =>
 ob ((r7.2.ld (plus (plus a1 1) 8)).bind (Value.int? .i64)) fun x17 =>
 ob ((r7.2.ld (plus (plus a1 1) 9)).bind Value.slc?) fun s18 =>
 ob ((r7.2.ld (plus (plus a1 1) 10)).bind Value.slc?) fun s19 =>
 ob ((r7.2.ld (plus (plus a1 1) 11)).bind Value.bool?) fun b20 =>
 ob ((r7.2.ld (plus (plus a1 1) 12)).bind (Value.int? .i64)) fun x21 =>
 ob ((r7.2.ld (plus (plus a1 1) 13)).bind (Value.int? .i64)) fun x22 =>
 ob ((r7.2.ld (plus (plus a1 1) 14)).bind Value.slc?) fun s23 =>
 ob ((r7.2.ld (plus (plus a1 1) 15)).bind (Value.int? .i64)) fun x24 =>
 ob ((r7.2.ld (plus (plus a1 1) 16)).bind (Value.int? .i64)) fun x25 =>
 ob ((r7.2.ld (plus (plus a1 1) 17)).bind Value.slc?) fun s26 =>
 ob ((r7.2.ld (plus (plus a1 1) 18)).bind (Value.int? .i64)) fun x27 =>
 ob ((r7.2.ld (plus (plus a1 1) 19)).bind (Value.int? .i64)) fun x28 =>
 ob ((r7.2.ld (plus (plus a1 1) 20)).bind Value.slc?) fun s29 =>
 ob ((r7.2.ld (plus (plus a1 1) 21)).bind Value.slc?) fun s30 =>
 ob ((r7.2.ld (plus (plus a1 1) 22)).bind Value.bool?) fun b31 =>
 ob ((r7.2.ld (plus (plus a1 1) 23)).bind (Value.int? .i64)) fun x32 =>
 ob ((r7.2.ld (plus (plus a1 1) 24)).bind (Value.int? .i64)) fun x33 =>
 ob ((r7.2.ld (plus (plus a1 1) 25)).bind Value.slc?) fun s34 =>
 ob ((r7.2.ld (plus (plus a1 1) 26)).bind (Value.int? .i64)) fun x35 =>
 ob ((r7.2.ld (plus (plus a1 1) 27)).bind (Value.int? .i64)) fun x36 =>
 ob ((r7.2.ld (plus (plus a1 1) 28)).bind Value.slc?) fun s37 =>
 ob ((r7.2.ld (plus (plus a1 1) 29)).bind (Value.int? .i64)) fun x38 =>
 ob ((r7.2.ld (plus (plus a1 1) 30)).bind (Value.int? .i64)) fun x39 =>
 ob ((r7.2.ld (plus (plus a1 1) 31)).bind Value.slc?) fun s40 =>
 ob ((r7.2.ld (plus (plus a1 1) 32)).bind Value.slc?) fun s41 =>
 ob ((r7.2.ld (plus (plus a1 1) 33)).bind Value.bool?) fun b42 =>
 ob ((r7.2.ld (plus (plus a1 1) 34)).bind (Value.int? .i64)) fun x43 =>
 ob ((r7.2.ld (plus (plus a1 1) 35)).bind (Value.int? .i64)) fun x44 =>
 ob ((r7.2.ld (plus (plus a1 1) 36)).bind Value.slc?) fun s45 =>
 ob ((r7.2.ld (plus (plus a1 1) 37)).bind (Value.int? .i64)) fun x46 =>
 ob ((r7.2.ld (plus (plus a1 1) 38)).bind (Value.int? .i64)) fun x47 =>
 ob ((r7.2.ld (plus (plus a1 1) 39)).bind Value.slc?) fun s48 =>
 ob ((r7.2.ld (plus (plus a1 1) 40)).bind (Value.int? .i64)) fun x49 =>
 ob ((r7.2.ld (plus (plus a1 1) 41)).bind (Value.int? .i64)) fun x50 =>
 ob ((r7.2.ld (plus (plus a1 1) 42)).bind Value.slc?) fun s51 =>
 ob ((r7.2.ld (plus (plus a1 1) 43)).bind Value.slc?) fun s52 =>
 ob ((r7.2.ld (plus (plus a1 1) 44)).bind Value.bool?) fun b53 =>
 ob ((r7.2.ld (plus (plus a1 1) 45)).bind (Value.int? .i64)) fun x54 =>
 ob ((r7.2.ld (plus (plus a1 1) 46)).bind (Value.int? .i64)) fun x55 =>
 ob ((r7.2.ld (plus (plus a1 1) 47)).bind Value.slc?) fun s56 =>
 ob ((r7.2.ld (plus (plus a1 1) 48)).bind (Value.int? .i64)) fun x57 =>
 ob ((r7.2.ld (plus (plus a1 1) 49)).bind (Value.int? .i64)) fun x58 =>
 ob ((r7.2.ld (plus (plus a1 1) 50)).bind Value.slc?) fun s59 =>
 ob ((r7.2.ld (plus (plus a1 1) 51)).bind (Value.int? .i64)) fun x60 =>
 ob ((r7.2.ld (plus (plus a1 1) 52)).bind (Value.int? .i64)) fun x61 =>
 ob ((r7.2.ld (plus (plus a1 1) 53)).bind Value.slc?) fun s62 =>
 ob ((r7.2.ld (plus (plus a1 1) 54)).bind Value.slc?) fun s63 =>
 ob ((r7.2.ld (plus (plus a1 1) 55)).bind Value.bool?) fun b64 =>
 ob ((r7.2.ld (plus (plus a1 1) 56)).bind (Value.int? .i64)) fun x65 =>
 ob ((r7.2.ld (plus (plus a1 1) 57)).bind (Value.int? .i64)) fun x66 =>
 ob ((r7.2.ld (plus (plus a1 1) 58)).bind Value.slc?) fun s67 =>
 ob ((r7.2.ld (plus (plus a1 1) 59)).bind (Value.int? .i64)) fun x68 =>
 ob ((r7.2.ld (plus (plus a1 1) 60)).bind (Value.int? .i64)) fun x69 =>
 ob ((r7.2.ld (plus (plus a1 1) 61)).bind Value.slc?) fun s70 =>
 ob ((r7.2.ld (plus (plus a1 1) 62)).bind (Value.int? .i64)) fun x71 =>
 ob ((r7.2.ld (plus (plus a1 1) 63)).bind (Value.int? .i64)) fun x72 =>
 ob ((r7.2.ld (plus (plus a1 1) 64)).bind Value.slc?) fun s73 =>
 ob ((r7.2.ld (plus (plus a1 1) 65)).bind Value.slc?) fun s74 =>
 ob ((r7.2.ld (plus (plus a1 1) 66)).bind Value.bool?) fun b75 =>
 ob ((r7.2.ld (plus (plus a1 1) 67)).bind (Value.int? .i64)) fun x76 =>
 ob ((r7.2.ld (plus (plus a1 1) 68)).bind (Value.int? .i64)) fun x77 =>
 ob ((r7.2.ld (plus (plus a1 1) 69)).bind Value.slc?) fun s78 =>
 ob ((r7.2.ld (plus (plus a1 1) 70)).bind (Value.int? .i64)) fun x79 =>
 ob ((r7.2.ld (plus (plus a1 1) 71)).bind (Value.int? .i64)) fun x80 =>
 ob ((r7.2.ld (plus (plus a1 1) 72)).bind Value.slc?) fun s81 =>
 ob ((r7.2.ld (plus (plus a1 1) 73)).bind (Value.int? .i64)) fun x82 =>
 ob ((r7.2.ld (plus (plus a1 1) 74)).bind (Value.int? .i64)) fun x83 =>
 ob ((r7.2.ld (plus (plus a1 1) 75)).bind Value.slc?) fun s84 =>
 ob ((r7.2.ld (plus (plus a1 1) 76)).bind Value.slc?) fun s85 =>
 ob ((r7.2.ld (plus (plus a1 1) 77)).bind Value.bool?) fun b86 =>
 ob ((r7.2.ld (plus (plus a1 1) 78)).bind (Value.int? .i64)) fun x87 =>
 ob ((r7.2.ld (plus (plus a1 1) 79)).bind (Value.int? .i64)) fun x88 =>
 ob ((r7.2.ld (plus (plus a1 1) 80)).bind Value.slc?) fun s89 =>
 ob ((r7.2.ld (plus (plus a1 1) 81)).bind (Value.int? .i64)) fun x90 =>
 ob ((r7.2.ld (plus (plus a1 1) 82)).bind (Value.int? .i64)) fun x91 =>
 ob ((r7.2.ld (plus (plus a1 1) 83)).bind Value.slc?) fun s92 =>
 ob ((r7.2.ld (plus (plus a1 1) 84)).bind (Value.int? .i64)) fun x93 =>
 ob ((r7.2.ld (plus (plus a1 1) 85)).bind (Value.int? .i64)) fun x94 =>
 ob ((r7.2.ld (plus (plus a1 1) 86)).bind Value.slc?) fun s95 =>
 ob ((r7.2.ld (plus (plus a1 1) 87)).bind Value.slc?) fun s96 =>
 some (pool_Pool_Has.c244 0 b9 x10 x11 s12.a s12.n s12.c x13 x14 s15.a s15.n s15.c x16 x17 s18.a s18.n s18.c s19.a s19.n s19.c b20 x21 x22 s23.a s23.n s23.c x24 x25 s26.a s26.n s26.c x27 x28 s29.a s29.n s29.c s30.a s30.n s30.c b31 x32 x33 s34.a s34.n s34.c x35 x36 s37.a s37.n s37.c x38 x39 s40.a s40.n s40.c s41.a s41.n s41.c b42 x43 x44 s45.a s45.n s45.c x46 x47 s48.a s48.n s48.c x49 x50 s51.a s51.n s51.c s52.a s52.n s52.c b53 x54 x55 s56.a s56.n s56.c x57 x58 s59.a s59.n s59.c x60 x61 s62.a s62.n s62.c s63.a s63.n s63.c b64 x65 x66 s67.a s67.n s67.c x68 x69 s70.a s70.n s70.c x71 x72 s73.a s73.n s73.c s74.a s74.n s74.c b75 x76 x77 s78.a s78.n s78.c x79 x80 s81.a s81.n s81.c x82 x83 s84.a s84.n s84.c s85.a s85.n s85.c b86 x87 x88 s89.a s89.n s89.c x90 x91 s92.a s92.n s92.c x93 x94 s95.a s95.n s95.c s96.a s96.n s96.c 0 r7.2)) := by kernel_rfl
theorem pool_Pool_Has.p244 (k lo : Nat) (x1 : Int) (b2 : Bool) (x3 : Int) (x4 : Int) (A5 : Option Addr) (n6 : Nat) (c7 : Nat) (x8 : Int) (x9 : Int) (A10 : Option Addr) (n11 : Nat) (c12 : Nat) (x13 : Int) (x14 : Int) (A15 : Option Addr) (n16 : Nat) (c17 : Nat) (A18 : Option Addr) (n19 : Nat) (c20 : Nat) (b21 : Bool) (x22 : Int) (x23 : Int) (A24 : Option Addr) (n25 : Nat) (c26 : Nat) (x27 : Int) (x28 : Int) (A29 : Option Addr) (n30 : Nat) (c31 : Nat) (x32 : Int) (x33 : Int) (A34 : Option Addr) (n35 : Nat) (c36 : Nat) (A37 : Option Addr) (n38 : Nat) (c39 : Nat) (b40 : Bool) (x41 : Int) (x42 : Int) (A43 : Option Addr) (n44 : Nat) (c45 : Nat) (x46 : Int) (x47 : Int) (A48 : Option Addr) (n49 : Nat) (c50 : Nat) (x51 : Int) (x52 : Int) (A53 : Option Addr) (n54 : Nat) (c55 : Nat) (A56 : Option Addr) (n57 : Nat) (c58 : Nat) (b59 : Bool) (x60 : Int) (x61 : Int) (A62 : Option Addr) (n63 : Nat) (c64 : Nat) (x65 : Int) (x66 : Int) (A67 : Option Addr) (n68 : Nat) (c69 : Nat) (x70 : Int) (x71 : Int) (A72 : Option Addr) (n73 : Nat) (c74 : Nat) (A75 : Option Addr) (n76 : Nat) (c77 : Nat) (b78 : Bool) (x79 : Int) (x80 : Int) (A81 : Option Addr) (n82 : Nat) (c83 : Nat) (x84 : Int) (x85 : Int) (A86 : Option Addr) (n87 : Nat) (c88 : Nat) (x89 : Int) (x90 : Int) (A91 : Option Addr) (n92 : Nat) (c93 : Nat) (A94 : Option Addr) (n95 : Nat) (c96 : Nat) (b97 : Bool) (x98 : Int) (x99 : Int) (A100 : Option Addr) (n101 : Nat) (c102 : Nat) (x103 : Int) (x104 : Int) (A105 : Option Addr) (n106 : Nat) (c107 : Nat) (x108 : Int) (x109 : Int) (A110 : Option Addr) (n111 : Nat) (c112 : Nat) (A113 : Option Addr) (n114 : Nat) (c115 : Nat) (b116 : Bool) (x117 : Int) (x118 : Int) (A119 : Option Addr) (n120 : Nat) (c121 : Nat) (x122 : Int) (x123 : Int) (A124 : Option Addr) (n125 : Nat) (c126 : Nat) (x127 : Int) (x128 : Int) (A129 : Option Addr) (n130 : Nat) (c131 : Nat) (A132 : Option Addr) (n133 : Nat) (c134 : Nat) (b135 : Bool) (x136 : Int) (x137 : Int) (A138 : Option Addr) (n139 : Nat) (c140 : Nat) (x141 : Int) (x142 : Int) (A143 : Option Addr) (n144 : Nat) (c145 : Nat) (x146 : Int) (x147 : Int) (A148 : Option Addr) (n149 : Nat) (c150 : Nat) (A151 : Option Addr) (n152 : Nat) (c153 : Nat) (x154 : Int) (M : Mem) : piece P T k lo F.pool_Pool_Has 244 [.v (.int .i64 x1), .v (.agg ⟨[.bool b2, .int .i64 x3, .int .i64 x4, .slice A5 n6 c7, .int .i64 x8, .int .i64 x9, .slice A10 n11 c12, .int .i64 x13, .int .i64 x14, .slice A15 n16 c17, .slice A18 n19 c20, .bool b21, .int .i64 x22, .int .i64 x23, .slice A24 n25 c26, .int .i64 x27, .int .i64 x28, .slice A29 n30 c31, .int .i64 x32, .int .i64 x33, .slice A34 n35 c36, .slice A37 n38 c39, .bool b40, .int .i64 x41, .int .i64 x42, .slice A43 n44 c45, .int .i64 x46, .int .i64 x47, .slice A48 n49 c50, .int .i64 x51, .int .i64 x52, .slice A53 n54 c55, .slice A56 n57 c58, .bool b59, .int .i64 x60, .int .i64 x61, .slice A62 n63 c64, .int .i64 x65, .int .i64 x66, .slice A67 n68 c69, .int .i64 x70, .int .i64 x71, .slice A72 n73 c74, .slice A75 n76 c77, .bool b78, .int .i64 x79, .int .i64 x80, .slice A81 n82 c83, .int .i64 x84, .int .i64 x85, .slice A86 n87 c88, .int .i64 x89, .int .i64 x90, .slice A91 n92 c93, .slice A94 n95 c96, .bool b97, .int .i64 x98, .int .i64 x99, .slice A100 n101 c102, .int .i64 x103, .int .i64 x104, .slice A105 n106 c107, .int .i64 x108, .int .i64 x109, .slice A110 n111 c112, .slice A113 n114 c115, .bool b116, .int .i64 x117, .int .i64 x118, .slice A119 n120 c121, .int .i64 x122, .int .i64 x123, .slice A124 n125 c126, .int .i64 x127, .int .i64 x128, .slice A129 n130 c131, .slice A132 n133 c134, .bool b135, .int .i64 x136, .int .i64 x137, .slice A138 n139 c140, .int .i64 x141, .int .i64 x142, .slice A143 n144 c145, .int .i64 x146, .int .i64 x147, .slice A148 n149 c150, .slice A151 n152 c153]⟩), .v (.int .i64 x154)] [] M =
 bb (decide (x154 < 8))
 (pb (0 ≤ x154 ∧ x154 < (8 : Int))
 (ob ((([.bool b2, .int .i64 x3, .int .i64 x4, .slice A5 n6 c7, .int .i64 x8, .int .i64 x9, .slice A10 n11 c12, .int .i64 x13, .int .i64 x14, .slice A15 n16 c17, .slice A18 n19 c20, .bool b21, .int .i64 x22, .int .i64 x23, .slice A24 n25 c26, .int .i64 x27, .int .i64 x28, .slice A29 n30 c31, .int .i64 x32, .int .i64 x33, .slice A34 n35 c36, .slice A37 n38 c39, .bool b40, .int .i64 x41, .int .i64 x42, .slice A43 n44 c45, .int .i64 x46, .int .i64 x47, .slice A48 n49 c50, .int .i64 x51, .int .i64 x52, .slice A53 n54 c55, .slice A56 n57 c58, .bool b59, .int .i64 x60, .int .i64 x61, .slice A62 n63 c64, .int .i64 x65, .int .i64 x66, .slice A67 n68 c69, .int .i64 x70, .int .i64 x71, .slice A72 n73 c74, .slice A75 n76 c77, .bool b78, .int .i64 x79, .int .i64 x80, .slice A81 n82 c83, .int .i64 x84, .int .i64 x85, .slice A86 n87 c88, .int .i64 x89, .int .i64 x90, .slice A91 n92 c93, .slice A94 n95 c96, .bool b97, .int .i64 x98, .int .i64 x99, .slice A100 n101 c102, .int .i64 x103, .int .i64 x104, .slice A105 n106 c107, .int .i64 x108, .int .i64 x109, .slice A110 n111 c112, .slice A113 n114 c115, .bool b116, .int .i64 x117, .int .i64 x118, .slice A119 n120 c121, .int .i64 x122, .int .i64 x123, .slice A124 n125 c126, .int .i64 x127, .int .i64 x128, .slice A129 n130 c131, .slice A132 n133 c134, .bool b135, .int .i64 x136, .int .i64 x137, .slice A138 n139 c140, .int .i64 x141, .int .i64 x142, .slice A143 n144 c145, .int .i64 x146, .int .i64 x147, .slice A148 n149 c150, .slice A151 n152 c153] : List Value)[x154.toNat * 11 + 0]?).bind Value.bool?) fun b155 =>
 ob ((([.bool b2, .int .i64 x3, .int .i64 x4, .slice A5 n6 c7, .int .i64 x8, .int .i64 x9, .slice A10 n11 c12, .int .i64 x13, .int .i64 x14, .slice A15 n16 c17, .slice A18 n19 c20, .bool b21, .int .i64 x22, .int .i64 x23, .slice A24 n25 c26, .int .i64 x27, .int .i64 x28, .slice A29 n30 c31, .int .i64 x32, .int .i64 x33, .slice A34 n35 c36, .slice A37 n38 c39, .bool b40, .int .i64 x41, .int .i64 x42, .slice A43 n44 c45, .int .i64 x46, .int .i64 x47, .slice A48 n49 c50, .int .i64 x51, .int .i64 x52, .slice A53 n54 c55, .slice A56 n57 c58, .bool b59, .int .i64 x60, .int .i64 x61, .slice A62 n63 c64, .int .i64 x65, .int .i64 x66, .slice A67 n68 c69, .int .i64 x70, .int .i64 x71, .slice A72 n73 c74, .slice A75 n76 c77, .bool b78, .int .i64 x79, .int .i64 x80, .slice A81 n82 c83, .int .i64 x84, .int .i64 x85, .slice A86 n87 c88, .int .i64 x89, .int .i64 x90, .slice A91 n92 c93, .slice A94 n95 c96, .bool b97, .int .i64 x98, .int .i64 x99, .slice A100 n101 c102, .int .i64 x103, .int .i64 x104, .slice A105 n106 c107, .int .i64 x108, .int .i64 x109, .slice A110 n111 c112, .slice A113 n114 c115, .bool b116, .int .i64 x117, .int .i64 x118, .slice A119 n120 c121, .int .i64 x122, .int .i64 x123, .slice A124 n125 c126, .int .i64 x127, .int .i64 x128, .slice A129 n130 c131, .slice A132 n133 c134, .bool b135, .int .i64 x136, .int .i64 x137, .slice A138 n139 c140, .int .i64 x141, .int .i64 x142, .slice A143 n144 c145, .int .i64 x146, .int .i64 x147, .slice A148 n149 c150, .slice A151 n152 c153] : List Value)[x154.toNat * 11 + 1]?).bind (Value.int? .i64)) fun x156 =>
 ob ((([.bool b2, .int .i64 x3, .int .i64 x4, .slice A5 n6 c7, .int .i64 x8, .int .i64 x9, .slice A10 n11 c12, .int .i64 x13, .int .i64 x14, .slice A15 n16 c17, .slice A18 n19 c20, .bool b21, .int .i64 x22, .int .i64 x23, .slice A24 n25 c26, .int .i64 x27, .int .i64 x28, .slice A29 n30 c31, .int .i64 x32, .int .i64 x33, .slice A34 n35 c36, .slice A37 n38 c39, .bool b40, .int .i64 x41, .int .i64 x42, .slice A43 n44 c45, .int .i64 x46, .int .i64 x47, .slice A48 n49 c50, .int .i64 x51, .int .i64 x52, .slice A53 n54 c55, .slice A56 n57 c58, .bool b59, .int .i64 x60, .int .i64 x61, .slice A62 n63 c64, .int .i64 x65, .int .i64 x66, .slice A67 n68 c69, .int .i64 x70, .int .i64 x71, .slice A72 n73 c74, .slice A75 n76 c77, .bool b78, .int .i64 x79, .int .i64 x80, .slice A81 n82 c83, .int .i64 x84, .int .i64 x85, .slice A86 n87 c88, .int .i64 x89, .int .i64 x90, .slice A91 n92 c93, .slice A94 n95 c96, .bool b97, .int .i64 x98, .int .i64 x99, .slice A100 n101 c102, .int .i64 x103, .int .i64 x104, .slice A105 n106 c107, .int .i64 x108, .int .i64 x109, .slice A110 n111 c112, .slice A113 n114 c115, .bool b116, .int .i64 x117, .int .i64 x118, .slice A119 n120 c121, .int .i64 x122, .int .i64 x123, .slice A124 n125 c126, .int .i64 x127, .int .i64 x128, .slice A129 n130 c131, .slice A132 n133 c134, .bool b135, .int .i64 x136, .int .i64 x137, .slice A138 n139 c140, .int .i64 x141, .int .i64 x142, .slice A143 n144 c145, .int .i64 x146, .int .i64 x147, .slice A148 n149 c150, .slice A151 n152 c153] : List Value)[x154.toNat * 11 + 2]?).bind (Value.int? .i64)) fun x157 =>
 ob ((([.bool b2, .int .i64 x3, .int .i64 x4, .slice A5 n6 c7, .int .i64 x8, .int .i64 x9, .slice A10 n11 c12, .int .i64 x13, .int .i64 x14, .slice A15 n16 c17, .slice A18 n19 c20, .bool b21, .int .i64 x22, .int .i64 x23, .slice A24 n25 c26, .int .i64 x27, .int .i64 x28, .slice A29 n30 c31, .int .i64 x32, .int .i64 x33, .slice A34 n35 c36, .slice A37 n38 c39, .bool b40, .int .i64 x41, .int .i64 x42, .slice A43 n44 c45, .int .i64 x46, .int .i64 x47, .slice A48 n49 c50, .int .i64 x51, .int .i64 x52, .slice A53 n54 c55, .slice A56 n57 c58, .bool b59, .int .i64 x60, .int .i64 x61, .slice A62 n63 c64, .int .i64 x65, .int .i64 x66, .slice A67 n68 c69, .int .i64 x70, .int .i64 x71, .slice A72 n73 c74, .slice A75 n76 c77, .bool b78, .int .i64 x79, .int .i64 x80, .slice A81 n82 c83, .int .i64 x84, .int .i64 x85, .slice A86 n87 c88, .int .i64 x89, .int .i64 x90, .slice A91 n92 c93, .slice A94 n95 c96, .bool b97, .int .i64 x98, .int .i64 x99, .slice A100 n101 c102, .int .i64 x103, .int .i64 x104, .slice A105 n106 c107, .int .i64 x108, .int .i64 x109, .slice A110 n111 c112, .slice A113 n114 c115, .bool b116, .int .i64 x117, .int .i64 x118, .slice A119 n120 c121, .int .i64 x122, .int .i64 x123, .slice A124 n125 c126, .int .i64 x127, .int .i64 x128, .slice A129 n130 c131, .slice A132 n133 c134, .bool b135, .int .i64 x136, .int .i64 x137, .slice A138 n139 c140, .int .i64 x141, .int .i64 x142, .slice A143 n144 c145, .int .i64 x146, .int .i64 x147, .slice A148 n149 c150, .slice A151 n152 c153] : List Value)[x154.toNat * 11 + 3]?).bind Value.slc?) fun s158 =>
 ob ((([.bool b2, .int .i64 x3, .int .i64 x4, .slice A5 n6 c7, .int .i64 x8, .int .i64 x9, .slice A10 n11 c12, .int .i64 x13, .int .i64 x14, .slice A15 n16 c17, .slice A18 n19 c20, .bool b21, .int .i64 x22, .int .i64 x23, .slice A24 n25 c26, .int .i64 x27, .int .i64 x28, .slice A29 n30 c31, .int .i64 x32, .int .i64 x33, .slice A34 n35 c36, .slice A37 n38 c39, .bool b40, .int .i64 x41, .int .i64 x42, .slice A43 n44 c45, .int .i64 x46, .int .i64 x47, .slice A48 n49 c50, .int .i64 x51, .int .i64 x52, .slice A53 n54 c55, .slice A56 n57 c58, .bool b59, .int .i64 x60, .int .i64 x61, .slice A62 n63 c64, .int .i64 x65, .int .i64 x66, .slice A67 n68 c69, .int .i64 x70, .int .i64 x71, .slice A72 n73 c74, .slice A75 n76 c77, .bool b78, .int .i64 x79, .int .i64 x80, .slice A81 n82 c83, .int .i64 x84, .int .i64 x85, .slice A86 n87 c88, .int .i64 x89, .int .i64 x90, .slice A91 n92 c93, .slice A94 n95 c96, .bool b97, .int .i64 x98, .int .i64 x99, .slice A100 n101 c102, .int .i64 x103, .int .i64 x104, .slice A105 n106 c107, .int .i64 x108, .int .i64 x109, .slice A110 n111 c112, .slice A113 n114 c115, .bool b116, .int .i64 x117, .int .i64 x118, .slice A119 n120 c121, .int .i64 x122, .int .i64 x123, .slice A124 n125 c126, .int .i64 x127, .int .i64 x128, .slice A129 n130 c131, .slice A132 n133 c134, .bool b135, .int .i64 x136, .int .i64 x137, .slice A138 n139 c140, .int .i64 x141, .int .i64 x142, .slice A143 n144 c145, .int .i64 x146, .int .i64 x147, .slice A148 n149 c150, .slice A151 n152 c153] : List Value)[x154.toNat * 11 + 4]?).bind (Value.int? .i64)) fun x159 =>
 ob ((([.bool b2, .int .i64 x3, .int .i64 x4, .slice A5 n6 c7, .int .i64 x8, .int .i64 x9, .slice A10 n11 c12, .int .i64 x13, .int .i64 x14, .slice A15 n16 c17, .slice A18 n19 c20, .bool b21, .int .i64 x22, .int .i64 x23, .slice A24 n25 c26, .int .i64 x27, .int .i64 x28, .slice A29 n30 c31, .int .i64 x32, .int .i64 x33, .slice A34 n35 c36, .slice A37 n38 c39, .bool b40, .int .i64 x41, .int .i64 x42, .slice A43 n44 c45, .int .i64 x46, .int .i64 x47, .slice A48 n49 c50, .int .i64 x51, .int .i64 x52, .slice A53 n54 c55, .slice A56 n57 c58, .bool b59, .int .i64 x60, .int .i64 x61, .slice A62 n63 c64, .int .i64 x65, .int .i64 x66, .slice A67 n68 c69, .int .i64 x70, .int .i64 x71, .slice A72 n73 c74, .slice A75 n76 c77, .bool b78, .int .i64 x79, .int .i64 x80, .slice A81 n82 c83, .int .i64 x84, .int .i64 x85, .slice A86 n87 c88, .int .i64 x89, .int .i64 x90, .slice A91 n92 c93, .slice A94 n95 c96, .bool b97, .int .i64 x98, .int .i64 x99, .slice A100 n101 c102, .int .i64 x103, .int .i64 x104, .slice A105 n106 c107, .int .i64 x108, .int .i64 x109, .slice A110 n111 c112, .slice A113 n114 c115, .bool b116, .int .i64 x117, .int .i64 x118, .slice A119 n120 c121, .int .i64 x122, .int .i64 x123, .slice A124 n125 c126, .int .i64 x127, .int .i64 x128, .slice A129 n130 c131, .slice A132 n133 c134, .bool b135, .int .i64 x136, .int .i64 x137, .slice A138 n139 c140, .int .i64 x141, .int .i64 x142, .slice A143 n144 c145, .int .i64 x146, .int .i64 x147, .slice A148 n149 c150, .slice A151 n152 c153] : List Value)[x154.toNat * 11 + 5]?).bind (Value.int? .i64)) fun x160 =>
 ob ((([.bool b2, .int .i64 x3, .int .i64 x4, .slice A5 n6 c7, .int .i64 x8, .int .i64 x9, .slice A10 n11 c12, .int .i64 x13, .int .i64 x14, .slice A15 n16 c17, .slice A18 n19 c20, .bool b21, .int .i64 x22, .int .i64 x23, .slice A24 n25 c26, .int .i64 x27, .int .i64 x28, .slice A29 n30 c31, .int .i64 x32, .int .i64 x33, .slice A34 n35 c36, .slice A37 n38 c39, .bool b40, .int .i64 x41, .int .i64 x42, .slice A43 n44 c45, .int .i64 x46, .int .i64 x47, .slice A48 n49 c50, .int .i64 x51, .int .i64 x52, .slice A53 n54 c55, .slice A56 n57 c58, .bool b59, .int .i64 x60, .int .i64 x61, .slice A62 n63 c64, .int .i64 x65, .int .i64 x66, .slice A67 n68 c69, .int .i64 x70, .int .i64 x71, .slice A72 n73 c74, .slice A75 n76 c77, .bool b78, .int .i64 x79, .int .i64 x80, .slice A81 n82 c83, .int .i64 x84, .int .i64 x85, .slice A86 n87 c88, .int .i64 x89, .int .i64 x90, .slice A91 n92 c93, .slice A94 n95 c96, .bool b97, .int .i64 x98, .int .i64 x99, .slice A100 n101 c102, .int .i64 x103, .int .i64 x104, .slice A105 n106 c107, .int .i64 x108, .int .i64 x109, .slice A110 n111 c112, .slice A113 n114 c115, .bool b116, .int .i64 x117, .int .i64 x118, .slice A119 n120 c121, .int .i64 x122, .int .i64 x123, .slice A124 n125 c126, .int .i64 x127, .int .i64 x128, .slice A129 n130 c131, .slice A132 n133 c134, .bool b135, .int .i64 x136, .int .i64 x137, .slice A138 n139 c140, .int .i64 x141, .int .i64 x142, .slice A143 n144 c145, .int .i64 x146, .int .i64 x147, .slice A148 n149 c150, .slice A151 n152 c153] : List Value)[x154.toNat * 11 + 6]?).bind Value.slc?) fun s161 =>
 ob ((([.bool b2, .int .i64 x3, .int .i64 x4, .slice A5 n6 c7, .int .i64 x8, .int .i64 x9, .slice A10 n11 c12, .int .i64 x13, .int .i64 x14, .slice A15 n16 c17, .slice A18 n19 c20, .bool b21, .int .i64 x22, .int .i64 x23, .slice A24 n25 c26, .int .i64 x27, .int .i64 x28, .slice A29 n30 c31, .int .i64 x32, .int .i64 x33, .slice A34 n35 c36, .slice A37 n38 c39, .bool b40, .int .i64 x41, .int .i64 x42, .slice A43 n44 c45, .int .i64 x46, .int .i64 x47, .slice A48 n49 c50, .int .i64 x51, .int .i64 x52, .slice A53 n54 c55, .slice A56 n57 c58, .bool b59, .int .i64 x60, .int .i64 x61, .slice A62 n63 c64, .int .i64 x65, .int .i64 x66, .slice A67 n68 c69, .int .i64 x70, .int .i64 x71, .slice A72 n73 c74, .slice A75 n76 c77, .bool b78, .int .i64 x79, .int .i64 x80, .slice A81 n82 c83, .int .i64 x84, .int .i64 x85, .slice A86 n87 c88, .int .i64 x89, .int .i64 x90, .slice A91 n92 c93, .slice A94 n95 c96, .bool b97, .int .i64 x98, .int .i64 x99, .slice A100 n101 c102, .int .i64 x103, .int .i64 x104, .slice A105 n106 c107, .int .i64 x108, .int .i64 x109, .slice A110 n111 c112, .slice A113 n114 c115, .bool b116, .int .i64 x117, .int .i64 x118, .slice A119 n120 c121, .int .i64 x122, .int .i64 x123, .slice A124 n125 c126, .int .i64 x127, .int .i64 x128, .slice A129 n130 c131, .slice A132 n133 c134, .bool b135, .int .i64 x136, .int .i64 x137, .slice A138 n139 c140, .int .i64 x141, .int .i64 x142, .slice A143 n144 c145, .int .i64 x146, .int .i64 x147, .slice A148 n149 c150, .slice A151 n152 c153] : List Value)[x154.toNat * 11 + 7]?).bind (Value.int? .i64)) fun x162 =>
 ob ((([.bool b2, .int .i64 x3, .int .i64 x4, .slice A5 n6 c7, .int .i64 x8, .int .i64 x9, .slice A10 n11 c12, .int .i64 x13, .int .i64 x14, .slice A15 n16 c17, .slice A18 n19 c20, .bool b21, .int .i64 x22, .int .i64 x23, .slice A24 n25 c26, .int .i64 x27, .int .i64 x28, .slice A29 n30 c31, .int .i64 x32, .int .i64 x33, .slice A34 n35 c36, .slice A37 n38 c39, .bool b40, .int .i64 x41, .int .i64 x42, .slice A43 n44 c45, .int .i64 x46, .int .i64 x47, .slice A48 n49 c50, .int .i64 x51, .int .i64 x52, .slice A53 n54 c55, .slice A56 n57 c58, .bool b59, .int .i64 x60, .int .i64 x61, .slice A62 n63 c64, .int .i64 x65, .int .i64 x66, .slice A67 n68 c69, .int .i64 x70, .int .i64 x71, .slice A72 n73 c74, .slice A75 n76 c77, .bool b78, .int .i64 x79, .int .i64 x80, .slice A81 n82 c83, .int .i64 x84, .int .i64 x85, .slice A86 n87 c88, .int .i64 x89, .int .i64 x90, .slice A91 n92 c93, .slice A94 n95 c96, .bool b97, .int .i64 x98, .int .i64 x99, .slice A100 n101 c102, .int .i64 x103, .int .i64 x104, .slice A105 n106 c107, .int .i64 x108, .int .i64 x109, .slice A110 n111 c112, .slice A113 n114 c115, .bool b116, .int .i64 x117, .int .i64 x118, .slice A119 n120 c121, .int .i64 x122, .int .i64 x123, .slice A124 n125 c126, .int .i64 x127, .int .i64 x128, .slice A129 n130 c131, .slice A132 n133 c134, .bool b135, .int .i64 x136, .int .i64 x137, .slice A138 n139 c140, .int .i64 x141, .int .i64 x142, .slice A143 n144 c145, .int .i64 x146, .int .i64 x147, .slice A148 n149 c150, .slice A151 n152 c153] : List Value)[x154.toNat * 11 + 8]?).bind (Value.int? .i64)) fun x163 =>
 ob ((([.bool b2, .int .i64 x3, .int .i64 x4, .slice A5 n6 c7, .int .i64 x8, .int .i64 x9, .slice A10 n11 c12, .int .i64 x13, .int .i64 x14, .slice A15 n16 c17, .slice A18 n19 c20, .bool b21, .int .i64 x22, .int .i64 x23, .slice A24 n25 c26, .int .i64 x27, .int .i64 x28, .slice A29 n30 c31, .int .i64 x32, .int .i64 x33, .slice A34 n35 c36, .slice A37 n38 c39, .bool b40, .int .i64 x41, .int .i64 x42, .slice A43 n44 c45, .int .i64 x46, .int .i64 x47, .slice A48 n49 c50, .int .i64 x51, .int .i64 x52, .slice A53 n54 c55, .slice A56 n57 c58, .bool b59, .int .i64 x60, .int .i64 x61, .slice A62 n63 c64, .int .i64 x65, .int .i64 x66, .slice A67 n68 c69, .int .i64 x70, .int .i64 x71, .slice A72 n73 c74, .slice A75 n76 c77, .bool b78, .int .i64 x79, .int .i64 x80, .slice A81 n82 c83, .int .i64 x84, .int .i64 x85, .slice A86 n87 c88, .int .i64 x89, .int .i64 x90, .slice A91 n92 c93, .slice A94 n95 c96, .bool b97, .int .i64 x98, .int .i64 x99, .slice A100 n101 c102, .int .i64 x103, .int .i64 x104, .slice A105 n106 c107, .int .i64 x108, .int .i64 x109, .slice A110 n111 c112, .slice A113 n114 c115, .bool b116, .int .i64 x117, .int .i64 x118, .slice A119 n120 c121, .int .i64 x122, .int .i64 x123, .slice A124 n125 c126, .int .i64 x127, .int .i64 x128, .slice A129 n130 c131, .slice A132 n133 c134, .bool b135, .int .i64 x136, .int .i64 x137, .slice A138 n139 c140, .int .i64 x141, .int .i64 x142, .slice A143 n144 c145, .int .i64 x146, .int .i64 x147, .slice A148 n149 c150, .slice A151 n152 c153] : List Value)[x154.toNat * 11 + 9]?).bind Value.slc?) fun s164 =>
 ob ((([.bool b2, .int .i64 x3, .int .i64 x4, .slice A5 n6 c7, .int .i64 x8, .int .i64 x9, .slice A10 n11 c12, .int .i64 x13, .int .i64 x14, .slice A15 n16 c17, .slice A18 n19 c20, .bool b21, .int .i64 x22, .int .i64 x23, .slice A24 n25 c26, .int .i64 x27, .int .i64 x28, .slice A29 n30 c31, .int .i64 x32, .int .i64 x33, .slice A34 n35 c36, .slice A37 n38 c39, .bool b40, .int .i64 x41, .int .i64 x42, .slice A43 n44 c45, .int .i64 x46, .int .i64 x47, .slice A48 n49 c50, .int .i64 x51, .int .i64 x52, .slice A53 n54 c55, .slice A56 n57 c58, .bool b59, .int .i64 x60, .int .i64 x61, .slice A62 n63 c64, .int .i64 x65, .int .i64 x66, .slice A67 n68 c69, .int .i64 x70, .int .i64 x71, .slice A72 n73 c74, .slice A75 n76 c77, .bool b78, .int .i64 x79, .int .i64 x80, .slice A81 n82 c83, .int .i64 x84, .int .i64 x85, .slice A86 n87 c88, .int .i64 x89, .int .i64 x90, .slice A91 n92 c93, .slice A94 n95 c96, .bool b97, .int .i64 x98, .int .i64 x99, .slice A100 n101 c102, .int .i64 x103, .int .i64 x104, .slice A105 n106 c107, .int .i64 x108, .int .i64 x109, .slice A110 n111 c112, .slice A113 n114 c115, .bool b116, .int .i64 x117, .int .i64 x118, .slice A119 n120 c121, .int .i64 x122, .int .i64 x123, .slice A124 n125 c126, .int .i64 x127, .int .i64 x128, .slice A129 n130 c131, .slice A132 n133 c134, .bool b135, .int .i64 x136, .int .i64 x137, .slice A138 n139 c140, .int .i64 x141, .int .i64 x142, .slice A143 n144 c145, .int .i64 x146, .int .i64 x147, .slice A148 n149 c150, .slice A151 n152 c153] : List Value)[x154.toNat * 11 + 10]?).bind Value.slc?) fun s165 =>
 bb b155
 (pb (x154 < 0) none
 (some (pool_Pool_Has.c1959 (orI .i64 x1 (shlI .i64 (1 : Int) x154.toNat)) b2 x3 x4 A5 n6 c7 x8 x9 A10 n11 c12 x13 x14 A15 n16 c17 A18 n19 c20 b21 x22 x23 A24 n25 c26 x27 x28 A29 n30 c31 x32 x33 A34 n35 c36 A37 n38 c39 b40 x41 x42 A43 n44 c45 x46 x47 A48 n49 c50 x51 x52 A53 n54 c55 A56 n57 c58 b59 x60 x61 A62 n63 c64 x65 x66 A67 n68 c69 x70 x71 A72 n73 c74 A75 n76 c77 b78 x79 x80 A81 n82 c83 x84 x85 A86 n87 c88 x89 x90 A91 n92 c93 A94 n95 c96 b97 x98 x99 A100 n101 c102 x103 x104 A105 n106 c107 x108 x109 A110 n111 c112 A113 n114 c115 b116 x117 x118 A119 n120 c121 x122 x123 A124 n125 c126 x127 x128 A129 n130 c131 A132 n133 c134 b135 x136 x137 A138 n139 c140 x141 x142 A143 n144 c145 x146 x147 A148 n149 c150 A151 n152 c153 x154 M)))
 (some (pool_Pool_Has.c1959 x1 b2 x3 x4 A5 n6 c7 x8 x9 A10 n11 c12 x13 x14 A15 n16 c17 A18 n19 c20 b21 x22 x23 A24 n25 c26 x27 x28 A29 n30 c31 x32 x33 A34 n35 c36 A37 n38 c39 b40 x41 x42 A43 n44 c45 x46 x47 A48 n49 c50 x51 x52 A53 n54 c55 A56 n57 c58 b59 x60 x61 A62 n63 c64 x65 x66 A67 n68 c69 x70 x71 A72 n73 c74 A75 n76 c77 b78 x79 x80 A81 n82 c83 x84 x85 A86 n87 c88 x89 x90 A91 n92 c93 A94 n95 c96 b97 x98 x99 A100 n101 c102 x103 x104 A105 n106 c107 x108 x109 A110 n111 c112 A113 n114 c115 b116 x117 x118 A119 n120 c121 x122 x123 A124 n125 c126 x127 x128 A129 n130 c131 A132 n133 c134 b135 x136 x137 A138 n139 c140 x141 x142 A143 n144 c145 x146 x147 A148 n149 c150 A151 n152 c153 x154 M))) none)
 (some (.ret (.int .i64 x1) M)) := by kernel_rfl
theorem pool_Pool_Has.p1959 (k lo : Nat) (x1 : Int) (b2 : Bool) (x3 : Int) (x4 : Int) (A5 : Option Addr) (n6 : Nat) (c7 : Nat) (x8 : Int) (x9 : Int) (A10 : Option Addr) (n11 : Nat) (c12 : Nat) (x13 : Int) (x14 : Int) (A15 : Option Addr) (n16 : Nat) (c17 : Nat) (A18 : Option Addr) (n19 : Nat) (c20 : Nat) (b21 : Bool) (x22 : Int) (x23 : Int) (A24 : Option Addr) (n25 : Nat) (c26 : Nat) (x27 : Int) (x28 : Int) (A29 : Option Addr) (n30 : Nat) (c31 : Nat) (x32 : Int) (x33 : Int) (A34 : Option Addr) (n35 : Nat) (c36 : Nat) (A37 : Option Addr) (n38 : Nat) (c39 : Nat) (b40 : Bool) (x41 : Int) (x42 : Int) (A43 : Option Addr) (n44 : Nat) (c45 : Nat) (x46 : Int) (x47 : Int) (A48 : Option Addr) (n49 : Nat) (c50 : Nat) (x51 : Int) (x52 : Int) (A53 : Option Addr) (n54 : Nat) (c55 : Nat) (A56 : Option Addr) (n57 : Nat) (c58 : Nat) (b59 : Bool) (x60 : Int) (x61 : Int) (A62 : Option Addr) (n63 : Nat) (c64 : Nat) (x65 : Int) (x66 : Int) (A67 : Option Addr) (n68 : Nat) (c69 : Nat) (x70 : Int) (x71 : Int) (A72 : Option Addr) (n73 : Nat) (c74 : Nat) (A75 : Option Addr) (n76 : Nat) (c77 : Nat) (b78 : Bool) (x79 : Int) (x80 : Int) (A81 : Option Addr) (n82 : Nat) (c83 : Nat) (x84 : Int) (x85 : Int) (A86 : Option Addr) (n87 : Nat) (c88 : Nat) (x89 : Int) (x90 : Int) (A91 : Option Addr) (n92 : Nat) (c93 : Nat) (A94 : Option Addr) (n95 : Nat) (c96 : Nat) (b97 : Bool) (x98 : Int) (x99 : Int) (A100 : Option Addr) (n101 : Nat) (c102 : Nat) (x103 : Int) (x104 : Int) (A105 : Option Addr) (n106 : Nat) (c107 : Nat) (x108 : Int) (x109 : Int) (A110 : Option Addr) (n111 : Nat) (c112 : Nat) (A113 : Option Addr) (n114 : Nat) (c115 : Nat) (b116 : Bool) (x117 : Int) (x118 : Int) (A119 : Option Addr) (n120 : Nat) (c121 : Nat) (x122 : Int) (x123 : Int) (A124 : Option Addr) (n125 : Nat) (c126 : Nat) (x127 : Int) (x128 : Int) (A129 : Option Addr) (n130 : Nat) (c131 : Nat) (A132 : Option Addr) (n133 : Nat) (c134 : Nat) (b135 : Bool) (x136 : Int) (x137 : Int) (A138 : Option Addr) (n139 : Nat) (c140 : Nat) (x141 : Int) (x142 : Int) (A143 : Option Addr) (n144 : Nat) (c145 : Nat) (x146 : Int) (x147 : Int) (A148 : Option Addr) (n149 : Nat) (c150 : Nat) (A151 : Option Addr) (n152 : Nat) (c153 : Nat) (x154 : Int) (M : Mem) : piece P T k lo F.pool_Pool_Has 1959 [.v (.int .i64 x1), .v (.agg ⟨[.bool b2, .int .i64 x3, .int .i64 x4, .slice A5 n6 c7, .int .i64 x8, .int .i64 x9, .slice A10 n11 c12, .int .i64 x13, .int .i64 x14, .slice A15 n16 c17, .slice A18 n19 c20, .bool b21, .int .i64 x22, .int .i64 x23, .slice A24 n25 c26, .int .i64 x27, .int .i64 x28, .slice A29 n30 c31, .int .i64 x32, .int .i64 x33, .slice A34 n35 c36, .slice A37 n38 c39, .bool b40, .int .i64 x41, .int .i64 x42, .slice A43 n44 c45, .int .i64 x46, .int .i64 x47, .slice A48 n49 c50, .int .i64 x51, .int .i64 x52, .slice A53 n54 c55, .slice A56 n57 c58, .bool b59, .int .i64 x60, .int .i64 x61, .slice A62 n63 c64, .int .i64 x65, .int .i64 x66, .slice A67 n68 c69, .int .i64 x70, .int .i64 x71, .slice A72 n73 c74, .slice A75 n76 c77, .bool b78, .int .i64 x79, .int .i64 x80, .slice A81 n82 c83, .int .i64 x84, .int .i64 x85, .slice A86 n87 c88, .int .i64 x89, .int .i64 x90, .slice A91 n92 c93, .slice A94 n95 c96, .bool b97, .int .i64 x98, .int .i64 x99, .slice A100 n101 c102, .int .i64 x103, .int .i64 x104, .slice A105 n106 c107, .int .i64 x108, .int .i64 x109, .slice A110 n111 c112, .slice A113 n114 c115, .bool b116, .int .i64 x117, .int .i64 x118, .slice A119 n120 c121, .int .i64 x122, .int .i64 x123, .slice A124 n125 c126, .int .i64 x127, .int .i64 x128, .slice A129 n130 c131, .slice A132 n133 c134, .bool b135, .int .i64 x136, .int .i64 x137, .slice A138 n139 c140, .int .i64 x141, .int .i64 x142, .slice A143 n144 c145, .int .i64 x146, .int .i64 x147, .slice A148 n149 c150, .slice A151 n152 c153]⟩), .v (.int .i64 x154)] [] M =
 some (pool_Pool_Has.c244 x1 b2 x3 x4 A5 n6 c7 x8 x9 A10 n11 c12 x13 x14 A15 n16 c17 A18 n19 c20 b21 x22 x23 A24 n25 c26 x27 x28 A29 n30 c31 x32 x33 A34 n35 c36 A37 n38 c39 b40 x41 x42 A43 n44 c45 x46 x47 A48 n49 c50 x51 x52 A53 n54 c55 A56 n57 c58 b59 x60 x61 A62 n63 c64 x65 x66 A67 n68 c69 x70 x71 A72 n73 c74 A75 n76 c77 b78 x79 x80 A81 n82 c83 x84 x85 A86 n87 c88 x89 x90 A91 n92 c93 A94 n95 c96 b97 x98 x99 A100 n101 c102 x103 x104 A105 n106 c107 x108 x109 A110 n111 c112 A113 n114 c115 b116 x117 x118 A119 n120 c121 x122 x123 A124 n125 c126 x127 x128 A129 n130 c131 A132 n133 c134 b135 x136 x137 A138 n139 c140 x141 x142 A143 n144 c145 x146 x147 A148 n149 c150 A151 n152 c153 (IntKind.i64.wrap (x154 + 1)) M) := by kernel_rfl
theorem pool_Same.entry (k lo : Nat) (a1 : Addr) (a2 : Addr) (M : Mem) : entry P T k lo F.pool_Same [.pointer (some a1), .pointer (some a2)] M =
 ob (acall P T k lo F.pool_Pool_none [.pointer (some a1)] M) fun r8 =>
 ob ((some r8.1).bind Value.bool?) fun b9 =>
 bb b9
 (ob (acall P T k lo F.pool_Pool_none [.pointer (some a1)] r8.2) fun r10 =>
 ob ((some r10.1).bind Value.bool?) fun b11 =>
 bb b11
 (ob (acall P T k lo F.pool_Pool_none [.pointer (some a2)] r10.2) fun r12 =>
 ob ((some r12.1).bind Value.bool?) fun b13 =>
 some (.ret (.bool b13) r12.2))
 (some (.ret (.bool false) r10.2)))
 (ob (acall P T k lo F.pool_Pool_none [.pointer (some a2)] r8.2) fun r14 =>
 ob ((some r14.1).bind Value.bool?) fun b15 =>
 bb b15
 (ob (acall P T k lo F.pool_Pool_none [.pointer (some a1)] r14.2) fun r16 =>
 ob ((some r16.1).bind Value.bool?) fun b17 =>
 bb b17
 (ob (acall P T k lo F.pool_Pool_none [.pointer (some a2)] r16.2) fun r18 =>
 ob ((some r18.1).bind Value.bool?) fun b19 =>
 some (.ret (.bool b19) r18.2))
 (some (.ret (.bool false) r16.2)))
 (ob ((r14.2.ld (plus a1 1)).bind Value.bool?) fun b20 =>
 ob ((r14.2.ld (plus (plus a1 1) 1)).bind (Value.int? .i64)) fun x21 =>
 ob ((r14.2.ld (plus (plus a1 1) 2)).bind (Value.int? .i64)) fun x22 =>
 ob ((r14.2.ld (plus (plus a1 1) 3)).bind Value.slc?) fun s23 =>
 ob ((r14.2.ld (plus (plus a1 1) 4)).bind (Value.int? .i64)) fun x24 =>
 ob ((r14.2.ld (plus (plus a1 1) 5)).bind (Value.int? .i64)) fun x25 =>
 ob ((r14.2.ld (plus (plus a1 1) 6)).bind Value.slc?) fun s26 =>
 ob ((r14.2.ld (plus (plus a1 1) 7)).bind (Value.int? .i64)) fun x27 =>
 ob ((r14.2.ld (plus (plus a1 1) 8)).bind (Value.int? .i64)) fun x28 =>
 ob ((r14.2.ld (plus (plus a1 1) 9)).bind Value.slc?) fun s29 =>
 ob ((r14.2.ld (plus (plus a1 1) 10)).bind Value.slc?) fun s30 =>
 ob ((r14.2.ld (plus (plus a1 1) 11)).bind Value.bool?) fun b31 =>
 ob ((r14.2.ld (plus (plus a1 1) 12)).bind (Value.int? .i64)) fun x32 =>
 ob ((r14.2.ld (plus (plus a1 1) 13)).bind (Value.int? .i64)) fun x33 =>
 ob ((r14.2.ld (plus (plus a1 1) 14)).bind Value.slc?) fun s34 =>
 ob ((r14.2.ld (plus (plus a1 1) 15)).bind (Value.int? .i64)) fun x35 =>
 ob ((r14.2.ld (plus (plus a1 1) 16)).bind (Value.int? .i64)) fun x36 =>
 ob ((r14.2.ld (plus (plus a1 1) 17)).bind Value.slc?) fun s37 =>
 ob ((r14.2.ld (plus (plus a1 1) 18)).bind (Value.int? .i64)) fun x38 =>
 ob ((r14.2.ld (plus (plus a1 1) 19)).bind (Value.int? .i64)) fun x39 =>
 ob ((r14.2.ld (plus (plus a1 1) 20)).bind Value.slc?) fun s40 =>
 ob ((r14.2.ld (plus (plus a1 1) 21)).bind Value.slc?) fun s41 =>
 ob ((r14.2.ld (plus (plus a1 1) 22)).bind Value.bool?) fun b42 =>
 ob ((r14.2.ld (plus (plus a1 1) 23)).bind (Value.int? .i64)) fun x43 =>
 ob ((r14.2.ld (plus (plus a1 1) 24)).bind (Value.int? .i64)) fun x44 =>
 ob ((r14.2.ld (plus (plus a1 1) 25)).bind Value.slc?) fun s45 =>
 ob ((r14.2.ld (plus (plus a1 1) 26)).bind (Value.int? .i64)) fun x46 =>
 ob ((r14.2.ld (plus (plus a1 1) 27)).bind (Value.int? .i64)) fun x47 =>
 ob ((r14.2.ld (plus (plus a1 1) 28)).bind Value.slc?) fun s48 =>
 ob ((r14.2.ld (plus (plus a1 1) 29)).bind (Value.int? .i64)) fun x49 =>
 ob ((r14.2.ld (plus (plus a1 1) 30)).bind (Value.int? .i64)) fun x50 =>
 ob ((r14.2.ld (plus (plus a1 1) 31)).bind Value.slc?) fun s51 =>
 ob ((r14.2.ld (plus (plus a1 1) 32)).bind Value.slc?) fun s52 =>
 ob ((r14.2.ld (plus (plus a1 1) 33)).bind Value.bool?) fun b53 =>
 ob ((r14.2.ld (plus (plus a1 1) 34)).bind (Value.int? .i64)) fun x54 =>
 ob ((r14.2.ld (plus (plus a1 1) 35)).bind (Value.int? .i64)) fun x55 =>
 ob ((r14.2.ld (plus (plus a1 1) 36)).bind Value.slc?) fun s56 =>
 ob ((r14.2.ld (plus (plus a1 1) 37)).bind (Value.int? .i64)) fun x57 =>
 ob ((r14.2.ld (plus (plus a1 1) 38)).bind (Value.int? .i64)) fun x58 =>
 ob ((r14.2.ld (plus (plus a1 1) 39)).bind Value.slc?) fun s59 =>
 ob ((r14.2.ld (plus (plus a1 1) 40)).bind (Value.int? .i64)) fun x60 =>
 ob ((r14.2.ld (plus (plus a1 1) 41)).bind (Value.int? .i64)) fun x61 =>
 ob ((r14.2.ld (plus (plus a1 1) 42)).bind Value.slc?) fun s62 =>
 ob ((r14.2.ld (plus (plus a1 1) 43)).bind Value.slc?) fun s63 =>
 ob ((r14.2.ld (plus (plus a1 1) 44)).bind Value.bool?) fun b64 =>
 ob ((r14.2.ld (plus (plus a1 1) 45)).bind (Value.int? .i64)) fun x65 =>
 ob ((r14.2.ld (plus (plus a1 1) 46)).bind (Value.int? .i64)) fun x66 =>
 ob ((r14.2.ld (plus (plus a1 1) 47)).bind Value.slc?) fun s67 =>
 ob ((r14.2.ld (plus (plus a1 1) 48)).bind (Value.int? .i64)) fun x68 =>
 ob ((r14.2.ld (plus (plus a1 1) 49)).bind (Value.int? .i64)) fun x69 =>
 ob ((r14.2.ld (plus (plus a1 1) 50)).bind Value.slc?) fun s70 =>
 ob ((r14.2.ld (plus (plus a1 1) 51)).bind (Value.int? .i64)) fun x71 =>
 ob ((r14.2.ld (plus (plus a1 1) 52)).bind (Value.int? .i64)) fun x72 =>
 ob ((r14.2.ld (plus (plus a1 1) 53)).bind Value.slc?) fun s73 =>
 ob ((r14.2.ld (plus (plus a1 1) 54)).bind Value.slc?) fun s74 =>
 ob ((r14.2.ld (plus (plus a1 1) 55)).bind Value.bool?) fun b75 =>
 ob ((r14.2.ld (plus (plus a1 1) 56)).bind (Value.int? .i64)) fun x76 =>
 ob ((r14.2.ld (plus (plus a1 1) 57)).bind (Value.int? .i64)) fun x77 =>
 ob ((r14.2.ld (plus (plus a1 1) 58)).bind Value.slc?) fun s78 =>
 ob ((r14.2.ld (plus (plus a1 1) 59)).bind (Value.int? .i64)) fun x79 =>
 ob ((r14.2.ld (plus (plus a1 1) 60)).bind (Value.int? .i64)) fun x80 =>
 ob ((r14.2.ld (plus (plus a1 1) 61)).bind Value.slc?) fun s81 =>
 ob ((r14.2.ld (plus (plus a1 1) 62)).bind (Value.int? .i64)) fun x82 =>
 ob ((r14.2.ld (plus (plus a1 1) 63)).bind (Value.int? .i64)) fun x83 =>
 ob ((r14.2.ld (plus (plus a1 1) 64)).bind Value.slc?) fun s84 =>
 ob ((r14.2.ld (plus (plus a1 1) 65)).bind Value.slc?) fun s85 =>
 ob ((r14.2.ld (plus (plus a1 1) 66)).bind Value.bool?) fun b86 =>
 ob ((r14.2.ld (plus (plus a1 1) 67)).bind (Value.int? .i64)) fun x87 =>
 ob ((r14.2.ld (plus (plus a1 1) 68)).bind (Value.int? .i64)) fun x88 =>
 ob ((r14.2.ld (plus (plus a1 1) 69)).bind Value.slc?) fun s89 =>
 ob ((r14.2.ld (plus (plus a1 1) 70)).bind (Value.int? .i64)) fun x90 =>
 ob ((r14.2.ld (plus (plus a1 1) 71)).bind (Value.int? .i64)) fun x91 =>
 ob ((r14.2.ld (plus (plus a1 1) 72)).bind Value.slc?) fun s92 =>
 ob ((r14.2.ld (plus (plus a1 1) 73)).bind (Value.int? .i64)) fun x93 =>
 ob ((r14.2.ld (plus (plus a1 1) 74)).bind (Value.int? .i64)) fun x94 =>
 ob ((r14.2.ld (plus (plus a1 1) 75)).bind Value.slc?) fun s95 =>
 ob ((r14.2.ld (plus (plus a1 1) 76)).bind Value.slc?) fun s96 =>
 ob ((r14.2.ld (plus (plus a1 1) 77)).bind Value.bool?) fun b97 =>
 ob ((r14.2.ld (plus (plus a1 1) 78)).bind (Value.int? .i64)) fun x98 =>
 ob ((r14.2.ld (plus (plus a1 1) 79)).bind (Value.int? .i64)) fun x99 =>
 ob ((r14.2.ld (plus (plus a1 1) 80)).bind Value.slc?) fun s100 =>
 ob ((r14.2.ld (plus (plus a1 1) 81)).bind (Value.int? .i64)) fun x101 =>
 ob ((r14.2.ld (plus (plus a1 1) 82)).bind (Value.int? .i64)) fun x102 =>
 ob ((r14.2.ld (plus (plus a1 1) 83)).bind Value.slc?) fun s103 =>
 ob ((r14.2.ld (plus (plus a1 1) 84)).bind (Value.int? .i64)) fun x104 =>
 ob ((r14.2.ld (plus (plus a1 1) 85)).bind (Value.int? .i64)) fun x105 =>
 ob ((r14.2.ld (plus (plus a1 1) 86)).bind Value.slc?) fun s106 =>
 ob ((r14.2.ld (plus (plus a1 1) 87)).bind Value.slc?) fun s107 =>
 some (pool_Same.c116 a2 b20 x21 x22 s23.a s23.n s23.c x24 x25 s26.a s26.n s26.c x27 x28 s29.a s29.n s29.c s30.a s30.n s30.c b31 x32 x33 s34.a s34.n s34.c x35 x36 s37.a s37.n s37.c x38 x39 s40.a s40.n s40.c s41.a s41.n s41.c b42 x43 x44 s45.a s45.n s45.c x46 x47 s48.a s48.n s48.c x49 x50 s51.a s51.n s51.c s52.a s52.n s52.c b53 x54 x55 s56.a s56.n s56.c x57 x58 s59.a s59.n s59.c x60 x61 s62.a s62.n s62.c s63.a s63.n s63.c b64 x65 x66 s67.a s67.n s67.c x68 x69 s70.a s70.n s70.c x71 x72 s73.a s73.n s73.c s74.a s74.n s74.c b75 x76 x77 s78.a s78.n s78.c x79 x80 s81.a s81.n s81.c x82 x83 s84.a s84.n s84.c s85.a s85.n s85.c b86 x87 x88 s89.a s89.n s89.c x90 x91 s92.a s92.n s92.c x93 x94 s95.a s95.n s95.c s96.a s96.n s96.c b97 x98 x99 s100.a s100.n s100.c x101 x102 s103.a s103.n s103.c x104 x105 s106.a s106.n s106.c s107.a s107.n s107.c 0 r14.2))) := by kernel_rfl
theorem pool_Same.p116 (k lo : Nat) (a1 : Addr) (b2 : Bool) (x3 : Int) (x4 : Int) (A5 : Option Addr) (n6 : Nat) (c7 : Nat) (x8 : Int) (x9 : Int) (A10 : Option Addr) (n11 : Nat) (c12 : Nat) (x13 : Int) (x14 : Int) (A15 : Option Addr) (n16 : Nat) (c17 : Nat) (A18 : Option Addr) (n19 : Nat) (c20 : Nat) (b21 : Bool) (x22 : Int) (x23 : Int) (A24 : Option Addr) (n25 : Nat) (c26 : Nat) (x27 : Int) (x28 : Int) (A29 : Option Addr) (n30 : Nat) (c31 : Nat) (x32 : Int) (x33 : Int) (A34 : Option Addr) (n35 : Nat) (c36 : Nat) (A37 : Option Addr) (n38 : Nat) (c39 : Nat) (b40 : Bool) (x41 : Int) (x42 : Int) (A43 : Option Addr) (n44 : Nat) (c45 : Nat) (x46 : Int) (x47 : Int) (A48 : Option Addr) (n49 : Nat) (c50 : Nat) (x51 : Int) (x52 : Int) (A53 : Option Addr) (n54 : Nat) (c55 : Nat) (A56 : Option Addr) (n57 : Nat) (c58 : Nat) (b59 : Bool) (x60 : Int) (x61 : Int) (A62 : Option Addr) (n63 : Nat) (c64 : Nat) (x65 : Int) (x66 : Int) (A67 : Option Addr) (n68 : Nat) (c69 : Nat) (x70 : Int) (x71 : Int) (A72 : Option Addr) (n73 : Nat) (c74 : Nat) (A75 : Option Addr) (n76 : Nat) (c77 : Nat) (b78 : Bool) (x79 : Int) (x80 : Int) (A81 : Option Addr) (n82 : Nat) (c83 : Nat) (x84 : Int) (x85 : Int) (A86 : Option Addr) (n87 : Nat) (c88 : Nat) (x89 : Int) (x90 : Int) (A91 : Option Addr) (n92 : Nat) (c93 : Nat) (A94 : Option Addr) (n95 : Nat) (c96 : Nat) (b97 : Bool) (x98 : Int) (x99 : Int) (A100 : Option Addr) (n101 : Nat) (c102 : Nat) (x103 : Int) (x104 : Int) (A105 : Option Addr) (n106 : Nat) (c107 : Nat) (x108 : Int) (x109 : Int) (A110 : Option Addr) (n111 : Nat) (c112 : Nat) (A113 : Option Addr) (n114 : Nat) (c115 : Nat) (b116 : Bool) (x117 : Int) (x118 : Int) (A119 : Option Addr) (n120 : Nat) (c121 : Nat) (x122 : Int) (x123 : Int) (A124 : Option Addr) (n125 : Nat) (c126 : Nat) (x127 : Int) (x128 : Int) (A129 : Option Addr) (n130 : Nat) (c131 : Nat) (A132 : Option Addr) (n133 : Nat) (c134 : Nat) (b135 : Bool) (x136 : Int) (x137 : Int) (A138 : Option Addr) (n139 : Nat) (c140 : Nat) (x141 : Int) (x142 : Int) (A143 : Option Addr) (n144 : Nat) (c145 : Nat) (x146 : Int) (x147 : Int) (A148 : Option Addr) (n149 : Nat) (c150 : Nat) (A151 : Option Addr) (n152 : Nat) (c153 : Nat) (x154 : Int) (M : Mem) : piece P T k lo F.pool_Same 116 [.v (.pointer (some a1)), .v (.agg ⟨[.bool b2, .int .i64 x3, .int .i64 x4, .slice A5 n6 c7, .int .i64 x8, .int .i64 x9, .slice A10 n11 c12, .int .i64 x13, .int .i64 x14, .slice A15 n16 c17, .slice A18 n19 c20, .bool b21, .int .i64 x22, .int .i64 x23, .slice A24 n25 c26, .int .i64 x27, .int .i64 x28, .slice A29 n30 c31, .int .i64 x32, .int .i64 x33, .slice A34 n35 c36, .slice A37 n38 c39, .bool b40, .int .i64 x41, .int .i64 x42, .slice A43 n44 c45, .int .i64 x46, .int .i64 x47, .slice A48 n49 c50, .int .i64 x51, .int .i64 x52, .slice A53 n54 c55, .slice A56 n57 c58, .bool b59, .int .i64 x60, .int .i64 x61, .slice A62 n63 c64, .int .i64 x65, .int .i64 x66, .slice A67 n68 c69, .int .i64 x70, .int .i64 x71, .slice A72 n73 c74, .slice A75 n76 c77, .bool b78, .int .i64 x79, .int .i64 x80, .slice A81 n82 c83, .int .i64 x84, .int .i64 x85, .slice A86 n87 c88, .int .i64 x89, .int .i64 x90, .slice A91 n92 c93, .slice A94 n95 c96, .bool b97, .int .i64 x98, .int .i64 x99, .slice A100 n101 c102, .int .i64 x103, .int .i64 x104, .slice A105 n106 c107, .int .i64 x108, .int .i64 x109, .slice A110 n111 c112, .slice A113 n114 c115, .bool b116, .int .i64 x117, .int .i64 x118, .slice A119 n120 c121, .int .i64 x122, .int .i64 x123, .slice A124 n125 c126, .int .i64 x127, .int .i64 x128, .slice A129 n130 c131, .slice A132 n133 c134, .bool b135, .int .i64 x136, .int .i64 x137, .slice A138 n139 c140, .int .i64 x141, .int .i64 x142, .slice A143 n144 c145, .int .i64 x146, .int .i64 x147, .slice A148 n149 c150, .slice A151 n152 c153]⟩), .v (.int .i64 x154)] [] M =
 bb (decide (x154 < 8))
 (pb (0 ≤ x154 ∧ x154 < (8 : Int))
 (ob ((([.bool b2, .int .i64 x3, .int .i64 x4, .slice A5 n6 c7, .int .i64 x8, .int .i64 x9, .slice A10 n11 c12, .int .i64 x13, .int .i64 x14, .slice A15 n16 c17, .slice A18 n19 c20, .bool b21, .int .i64 x22, .int .i64 x23, .slice A24 n25 c26, .int .i64 x27, .int .i64 x28, .slice A29 n30 c31, .int .i64 x32, .int .i64 x33, .slice A34 n35 c36, .slice A37 n38 c39, .bool b40, .int .i64 x41, .int .i64 x42, .slice A43 n44 c45, .int .i64 x46, .int .i64 x47, .slice A48 n49 c50, .int .i64 x51, .int .i64 x52, .slice A53 n54 c55, .slice A56 n57 c58, .bool b59, .int .i64 x60, .int .i64 x61, .slice A62 n63 c64, .int .i64 x65, .int .i64 x66, .slice A67 n68 c69, .int .i64 x70, .int .i64 x71, .slice A72 n73 c74, .slice A75 n76 c77, .bool b78, .int .i64 x79, .int .i64 x80, .slice A81 n82 c83, .int .i64 x84, .int .i64 x85, .slice A86 n87 c88, .int .i64 x89, .int .i64 x90, .slice A91 n92 c93, .slice A94 n95 c96, .bool b97, .int .i64 x98, .int .i64 x99, .slice A100 n101 c102, .int .i64 x103, .int .i64 x104, .slice A105 n106 c107, .int .i64 x108, .int .i64 x109, .slice A110 n111 c112, .slice A113 n114 c115, .bool b116, .int .i64 x117, .int .i64 x118, .slice A119 n120 c121, .int .i64 x122, .int .i64 x123, .slice A124 n125 c126, .int .i64 x127, .int .i64 x128, .slice A129 n130 c131, .slice A132 n133 c134, .bool b135, .int .i64 x136, .int .i64 x137, .slice A138 n139 c140, .int .i64 x141, .int .i64 x142, .slice A143 n144 c145, .int .i64 x146, .int .i64 x147, .slice A148 n149 c150, .slice A151 n152 c153] : List Value)[x154.toNat * 11 + 0]?).bind Value.bool?) fun b155 =>
 ob ((([.bool b2, .int .i64 x3, .int .i64 x4, .slice A5 n6 c7, .int .i64 x8, .int .i64 x9, .slice A10 n11 c12, .int .i64 x13, .int .i64 x14, .slice A15 n16 c17, .slice A18 n19 c20, .bool b21, .int .i64 x22, .int .i64 x23, .slice A24 n25 c26, .int .i64 x27, .int .i64 x28, .slice A29 n30 c31, .int .i64 x32, .int .i64 x33, .slice A34 n35 c36, .slice A37 n38 c39, .bool b40, .int .i64 x41, .int .i64 x42, .slice A43 n44 c45, .int .i64 x46, .int .i64 x47, .slice A48 n49 c50, .int .i64 x51, .int .i64 x52, .slice A53 n54 c55, .slice A56 n57 c58, .bool b59, .int .i64 x60, .int .i64 x61, .slice A62 n63 c64, .int .i64 x65, .int .i64 x66, .slice A67 n68 c69, .int .i64 x70, .int .i64 x71, .slice A72 n73 c74, .slice A75 n76 c77, .bool b78, .int .i64 x79, .int .i64 x80, .slice A81 n82 c83, .int .i64 x84, .int .i64 x85, .slice A86 n87 c88, .int .i64 x89, .int .i64 x90, .slice A91 n92 c93, .slice A94 n95 c96, .bool b97, .int .i64 x98, .int .i64 x99, .slice A100 n101 c102, .int .i64 x103, .int .i64 x104, .slice A105 n106 c107, .int .i64 x108, .int .i64 x109, .slice A110 n111 c112, .slice A113 n114 c115, .bool b116, .int .i64 x117, .int .i64 x118, .slice A119 n120 c121, .int .i64 x122, .int .i64 x123, .slice A124 n125 c126, .int .i64 x127, .int .i64 x128, .slice A129 n130 c131, .slice A132 n133 c134, .bool b135, .int .i64 x136, .int .i64 x137, .slice A138 n139 c140, .int .i64 x141, .int .i64 x142, .slice A143 n144 c145, .int .i64 x146, .int .i64 x147, .slice A148 n149 c150, .slice A151 n152 c153] : List Value)[x154.toNat * 11 + 1]?).bind (Value.int? .i64)) fun x156 =>
 ob ((([.bool b2, .int .i64 x3, .int .i64 x4, .slice A5 n6 c7, .int .i64 x8, .int .i64 x9, .slice A10 n11 c12, .int .i64 x13, .int .i64 x14, .slice A15 n16 c17, .slice A18 n19 c20, .bool b21, .int .i64 x22, .int .i64 x23, .slice A24 n25 c26, .int .i64 x27, .int .i64 x28, .slice A29 n30 c31, .int .i64 x32, .int .i64 x33, .slice A34 n35 c36, .slice A37 n38 c39, .bool b40, .int .i64 x41, .int .i64 x42, .slice A43 n44 c45, .int .i64 x46, .int .i64 x47, .slice A48 n49 c50, .int .i64 x51, .int .i64 x52, .slice A53 n54 c55, .slice A56 n57 c58, .bool b59, .int .i64 x60, .int .i64 x61, .slice A62 n63 c64, .int .i64 x65, .int .i64 x66, .slice A67 n68 c69, .int .i64 x70, .int .i64 x71, .slice A72 n73 c74, .slice A75 n76 c77, .bool b78, .int .i64 x79, .int .i64 x80, .slice A81 n82 c83, .int .i64 x84, .int .i64 x85, .slice A86 n87 c88, .int .i64 x89, .int .i64 x90, .slice A91 n92 c93, .slice A94 n95 c96, .bool b97, .int .i64 x98, .int .i64 x99, .slice A100 n101 c102, .int .i64 x103, .int .i64 x104, .slice A105 n106 c107, .int .i64 x108, .int .i64 x109, .slice A110 n111 c112, .slice A113 n114 c115, .bool b116, .int .i64 x117, .int .i64 x118, .slice A119 n120 c121, .int .i64 x122, .int .i64 x123, .slice A124 n125 c126, .int .i64 x127, .int .i64 x128, .slice A129 n130 c131, .slice A132 n133 c134, .bool b135, .int .i64 x136, .int .i64 x137, .slice A138 n139 c140, .int .i64 x141, .int .i64 x142, .slice A143 n144 c145, .int .i64 x146, .int .i64 x147, .slice A148 n149 c150, .slice A151 n152 c153] : List Value)[x154.toNat * 11 + 2]?).bind (Value.int? .i64)) fun x157 =>
 ob ((([.bool b2, .int .i64 x3, .int .i64 x4, .slice A5 n6 c7, .int .i64 x8, .int .i64 x9, .slice A10 n11 c12, .int .i64 x13, .int .i64 x14, .slice A15 n16 c17, .slice A18 n19 c20, .bool b21, .int .i64 x22, .int .i64 x23, .slice A24 n25 c26, .int .i64 x27, .int .i64 x28, .slice A29 n30 c31, .int .i64 x32, .int .i64 x33, .slice A34 n35 c36, .slice A37 n38 c39, .bool b40, .int .i64 x41, .int .i64 x42, .slice A43 n44 c45, .int .i64 x46, .int .i64 x47, .slice A48 n49 c50, .int .i64 x51, .int .i64 x52, .slice A53 n54 c55, .slice A56 n57 c58, .bool b59, .int .i64 x60, .int .i64 x61, .slice A62 n63 c64, .int .i64 x65, .int .i64 x66, .slice A67 n68 c69, .int .i64 x70, .int .i64 x71, .slice A72 n73 c74, .slice A75 n76 c77, .bool b78, .int .i64 x79, .int .i64 x80, .slice A81 n82 c83, .int .i64 x84, .int .i64 x85, .slice A86 n87 c88, .int .i64 x89, .int .i64 x90, .slice A91 n92 c93, .slice A94 n95 c96, .bool b97, .int .i64 x98, .int .i64 x99, .slice A100 n101 c102, .int .i64 x103, .int .i64 x104, .slice A105 n106 c107, .int .i64 x108, .int .i64 x109, .slice A110 n111 c112, .slice A113 n114 c115, .bool b116, .int .i64 x117, .int .i64 x118, .slice A119 n120 c121, .int .i64 x122, .int .i64 x123, .slice A124 n125 c126, .int .i64 x127, .int .i64 x128, .slice A129 n130 c131, .slice A132 n133 c134, .bool b135, .int .i64 x136, .int .i64 x137, .slice A138 n139 c140, .int .i64 x141, .int .i64 x142, .slice A143 n144 c145, .int .i64 x146, .int .i64 x147, .slice A148 n149 c150, .slice A151 n152 c153] : List Value)[x154.toNat * 11 + 3]?).bind Value.slc?) fun s158 =>
 ob ((([.bool b2, .int .i64 x3, .int .i64 x4, .slice A5 n6 c7, .int .i64 x8, .int .i64 x9, .slice A10 n11 c12, .int .i64 x13, .int .i64 x14, .slice A15 n16 c17, .slice A18 n19 c20, .bool b21, .int .i64 x22, .int .i64 x23, .slice A24 n25 c26, .int .i64 x27, .int .i64 x28, .slice A29 n30 c31, .int .i64 x32, .int .i64 x33, .slice A34 n35 c36, .slice A37 n38 c39, .bool b40, .int .i64 x41, .int .i64 x42, .slice A43 n44 c45, .int .i64 x46, .int .i64 x47, .slice A48 n49 c50, .int .i64 x51, .int .i64 x52, .slice A53 n54 c55, .slice A56 n57 c58, .bool b59, .int .i64 x60, .int .i64 x61, .slice A62 n63 c64, .int .i64 x65, .int .i64 x66, .slice A67 n68 c69, .int .i64 x70, .int .i64 x71, .slice A72 n73 c74, .slice A75 n76 c77, .bool b78, .int .i64 x79, .int .i64 x80, .slice A81 n82 c83, .int .i64 x84, .int .i64 x85, .slice A86 n87 c88, .int .i64 x89, .int .i64 x90, .slice A91 n92 c93, .slice A94 n95 c96, .bool b97, .int .i64 x98, .int .i64 x99, .slice A100 n101 c102, .int .i64 x103, .int .i64 x104, .slice A105 n106 c107, .int .i64 x108, .int .i64 x109, .slice A110 n111 c112, .slice A113 n114 c115, .bool b116, .int .i64 x117, .int .i64 x118, .slice A119 n120 c121, .int .i64 x122, .int .i64 x123, .slice A124 n125 c126, .int .i64 x127, .int .i64 x128, .slice A129 n130 c131, .slice A132 n133 c134, .bool b135, .int .i64 x136, .int .i64 x137, .slice A138 n139 c140, .int .i64 x141, .int .i64 x142, .slice A143 n144 c145, .int .i64 x146, .int .i64 x147, .slice A148 n149 c150, .slice A151 n152 c153] : List Value)[x154.toNat * 11 + 4]?).bind (Value.int? .i64)) fun x159 =>
 ob ((([.bool b2, .int .i64 x3, .int .i64 x4, .slice A5 n6 c7, .int .i64 x8, .int .i64 x9, .slice A10 n11 c12, .int .i64 x13, .int .i64 x14, .slice A15 n16 c17, .slice A18 n19 c20, .bool b21, .int .i64 x22, .int .i64 x23, .slice A24 n25 c26, .int .i64 x27, .int .i64 x28, .slice A29 n30 c31, .int .i64 x32, .int .i64 x33, .slice A34 n35 c36, .slice A37 n38 c39, .bool b40, .int .i64 x41, .int .i64 x42, .slice A43 n44 c45, .int .i64 x46, .int .i64 x47, .slice A48 n49 c50, .int .i64 x51, .int .i64 x52, .slice A53 n54 c55, .slice A56 n57 c58, .bool b59, .int .i64 x60, .int .i64 x61, .slice A62 n63 c64, .int .i64 x65, .int .i64 x66, .slice A67 n68 c69, .int .i64 x70, .int .i64 x71, .slice A72 n73 c74, .slice A75 n76 c77, .bool b78, .int .i64 x79, .int .i64 x80, .slice A81 n82 c83, .int .i64 x84, .int .i64 x85, .slice A86 n87 c88, .int .i64 x89, .int .i64 x90, .slice A91 n92 c93, .slice A94 n95 c96, .bool b97, .int .i64 x98, .int .i64 x99, .slice A100 n101 c102, .int .i64 x103, .int .i64 x104, .slice A105 n106 c107, .int .i64 x108, .int .i64 x109, .slice A110 n111 c112, .slice A113 n114 c115, .bool b116, .int .i64 x117, .int .i64 x118, .slice A119 n120 c121, .int .i64 x122, .int .i64 x123, .slice A124 n125 c126, .int .i64 x127, .int .i64 x128, .slice A129 n130 c131, .slice A132 n133 c134, .bool b135, .int .i64 x136, .int .i64 x137, .slice A138 n139 c140, .int .i64 x141, .int .i64 x142, .slice A143 n144 c145, .int .i64 x146, .int .i64 x147, .slice A148 n149 c150, .slice A151 n152 c153] : List Value)[x154.toNat * 11 + 5]?).bind (Value.int? .i64)) fun x160 =>
 ob ((([.bool b2, .int .i64 x3, .int .i64 x4, .slice A5 n6 c7, .int .i64 x8, .int .i64 x9, .slice A10 n11 c12, .int .i64 x13, .int .i64 x14, .slice A15 n16 c17, .slice A18 n19 c20, .bool b21, .int .i64 x22, .int .i64 x23, .slice A24 n25 c26, .int .i64 x27, .int .i64 x28, .slice A29 n30 c31, .int .i64 x32, .int .i64 x33, .slice A34 n35 c36, .slice A37 n38 c39, .bool b40, .int .i64 x41, .int .i64 x42, .slice A43 n44 c45, .int .i64 x46, .int .i64 x47, .slice A48 n49 c50, .int .i64 x51, .int .i64 x52, .slice A53 n54 c55, .slice A56 n57 c58, .bool b59, .int .i64 x60, .int .i64 x61, .slice A62 n63 c64, .int .i64 x65, .int .i64 x66, .slice A67 n68 c69, .int .i64 x70, .int .i64 x71, .slice A72 n73 c74, .slice A75 n76 c77, .bool b78, .int .i64 x79, .int .i64 x80, .slice A81 n82 c83, .int .i64 x84, .int .i64 x85, .slice A86 n87 c88, .int .i64 x89, .int .i64 x90, .slice A91 n92 c93, .slice A94 n95 c96, .bool b97, .int .i64 x98, .int .i64 x99, .slice A100 n101 c102, .int .i64 x103, .int .i64 x104, .slice A105 n106 c107, .int .i64 x108, .int .i64 x109, .slice A110 n111 c112, .slice A113 n114 c115, .bool b116, .int .i64 x117, .int .i64 x118, .slice A119 n120 c121, .int .i64 x122, .int .i64 x123, .slice A124 n125 c126, .int .i64 x127, .int .i64 x128, .slice A129 n130 c131, .slice A132 n133 c134, .bool b135, .int .i64 x136, .int .i64 x137, .slice A138 n139 c140, .int .i64 x141, .int .i64 x142, .slice A143 n144 c145, .int .i64 x146, .int .i64 x147, .slice A148 n149 c150, .slice A151 n152 c153] : List Value)[x154.toNat * 11 + 6]?).bind Value.slc?) fun s161 =>
 ob ((([.bool b2, .int .i64 x3, .int .i64 x4, .slice A5 n6 c7, .int .i64 x8, .int .i64 x9, .slice A10 n11 c12, .int .i64 x13, .int .i64 x14, .slice A15 n16 c17, .slice A18 n19 c20, .bool b21, .int .i64 x22, .int .i64 x23, .slice A24 n25 c26, .int .i64 x27, .int .i64 x28, .slice A29 n30 c31, .int .i64 x32, .int .i64 x33, .slice A34 n35 c36, .slice A37 n38 c39, .bool b40, .int .i64 x41, .int .i64 x42, .slice A43 n44 c45, .int .i64 x46, .int .i64 x47, .slice A48 n49 c50, .int .i64 x51, .int .i64 x52, .slice A53 n54 c55, .slice A56 n57 c58, .bool b59, .int .i64 x60, .int .i64 x61, .slice A62 n63 c64, .int .i64 x65, .int .i64 x66, .slice A67 n68 c69, .int .i64 x70, .int .i64 x71, .slice A72 n73 c74, .slice A75 n76 c77, .bool b78, .int .i64 x79, .int .i64 x80, .slice A81 n82 c83, .int .i64 x84, .int .i64 x85, .slice A86 n87 c88, .int .i64 x89, .int .i64 x90, .slice A91 n92 c93, .slice A94 n95 c96, .bool b97, .int .i64 x98, .int .i64 x99, .slice A100 n101 c102, .int .i64 x103, .int .i64 x104, .slice A105 n106 c107, .int .i64 x108, .int .i64 x109, .slice A110 n111 c112, .slice A113 n114 c115, .bool b116, .int .i64 x117, .int .i64 x118, .slice A119 n120 c121, .int .i64 x122, .int .i64 x123, .slice A124 n125 c126, .int .i64 x127, .int .i64 x128, .slice A129 n130 c131, .slice A132 n133 c134, .bool b135, .int .i64 x136, .int .i64 x137, .slice A138 n139 c140, .int .i64 x141, .int .i64 x142, .slice A143 n144 c145, .int .i64 x146, .int .i64 x147, .slice A148 n149 c150, .slice A151 n152 c153] : List Value)[x154.toNat * 11 + 7]?).bind (Value.int? .i64)) fun x162 =>
 ob ((([.bool b2, .int .i64 x3, .int .i64 x4, .slice A5 n6 c7, .int .i64 x8, .int .i64 x9, .slice A10 n11 c12, .int .i64 x13, .int .i64 x14, .slice A15 n16 c17, .slice A18 n19 c20, .bool b21, .int .i64 x22, .int .i64 x23, .slice A24 n25 c26, .int .i64 x27, .int .i64 x28, .slice A29 n30 c31, .int .i64 x32, .int .i64 x33, .slice A34 n35 c36, .slice A37 n38 c39, .bool b40, .int .i64 x41, .int .i64 x42, .slice A43 n44 c45, .int .i64 x46, .int .i64 x47, .slice A48 n49 c50, .int .i64 x51, .int .i64 x52, .slice A53 n54 c55, .slice A56 n57 c58, .bool b59, .int .i64 x60, .int .i64 x61, .slice A62 n63 c64, .int .i64 x65, .int .i64 x66, .slice A67 n68 c69, .int .i64 x70, .int .i64 x71, .slice A72 n73 c74, .slice A75 n76 c77, .bool b78, .int .i64 x79, .int .i64 x80, .slice A81 n82 c83, .int .i64 x84, .int .i64 x85, .slice A86 n87 c88, .int .i64 x89, .int .i64 x90, .slice A91 n92 c93, .slice A94 n95 c96, .bool b97, .int .i64 x98, .int .i64 x99, .slice A100 n101 c102, .int .i64 x103, .int .i64 x104, .slice A105 n106 c107, .int .i64 x108, .int .i64 x109, .slice A110 n111 c112, .slice A113 n114 c115, .bool b116, .int .i64 x117, .int .i64 x118, .slice A119 n120 c121, .int .i64 x122, .int .i64 x123, .slice A124 n125 c126, .int .i64 x127, .int .i64 x128, .slice A129 n130 c131, .slice A132 n133 c134, .bool b135, .int .i64 x136, .int .i64 x137, .slice A138 n139 c140, .int .i64 x141, .int .i64 x142, .slice A143 n144 c145, .int .i64 x146, .int .i64 x147, .slice A148 n149 c150, .slice A151 n152 c153] : List Value)[x154.toNat * 11 + 8]?).bind (Value.int? .i64)) fun x163 =>
 ob ((([.bool b2, .int .i64 x3, .int .i64 x4, .slice A5 n6 c7, .int .i64 x8, .int .i64 x9, .slice A10 n11 c12, .int .i64 x13, .int .i64 x14, .slice A15 n16 c17, .slice A18 n19 c20, .bool b21, .int .i64 x22, .int .i64 x23, .slice A24 n25 c26, .int .i64 x27, .int .i64 x28, .slice A29 n30 c31, .int .i64 x32, .int .i64 x33, .slice A34 n35 c36, .slice A37 n38 c39, .bool b40, .int .i64 x41, .int .i64 x42, .slice A43 n44 c45, .int .i64 x46, .int .i64 x47, .slice A48 n49 c50, .int .i64 x51, .int .i64 x52, .slice A53 n54 c55, .slice A56 n57 c58, .bool b59, .int .i64 x60, .int .i64 x61, .slice A62 n63 c64, .int .i64 x65, .int .i64 x66, .slice A67 n68 c69, .int .i64 x70, .int .i64 x71, .slice A72 n73 c74, .slice A75 n76 c77, .bool b78, .int .i64 x79, .int .i64 x80, .slice A81 n82 c83, .int .i64 x84, .int .i64 x85, .slice A86 n87 c88, .int .i64 x89, .int .i64 x90, .slice A91 n92 c93, .slice A94 n95 c96, .bool b97, .int .i64 x98, .int .i64 x99, .slice A100 n101 c102, .int .i64 x103, .int .i64 x104, .slice A105 n106 c107, .int .i64 x108, .int .i64 x109, .slice A110 n111 c112, .slice A113 n114 c115, .bool b116, .int .i64 x117, .int .i64 x118, .slice A119 n120 c121, .int .i64 x122, .int .i64 x123, .slice A124 n125 c126, .int .i64 x127, .int .i64 x128, .slice A129 n130 c131, .slice A132 n133 c134, .bool b135, .int .i64 x136, .int .i64 x137, .slice A138 n139 c140, .int .i64 x141, .int .i64 x142, .slice A143 n144 c145, .int .i64 x146, .int .i64 x147, .slice A148 n149 c150, .slice A151 n152 c153] : List Value)[x154.toNat * 11 + 9]?).bind Value.slc?) fun s164 =>
 ob ((([.bool b2, .int .i64 x3, .int .i64 x4, .slice A5 n6 c7, .int .i64 x8, .int .i64 x9, .slice A10 n11 c12, .int .i64 x13, .int .i64 x14, .slice A15 n16 c17, .slice A18 n19 c20, .bool b21, .int .i64 x22, .int .i64 x23, .slice A24 n25 c26, .int .i64 x27, .int .i64 x28, .slice A29 n30 c31, .int .i64 x32, .int .i64 x33, .slice A34 n35 c36, .slice A37 n38 c39, .bool b40, .int .i64 x41, .int .i64 x42, .slice A43 n44 c45, .int .i64 x46, .int .i64 x47, .slice A48 n49 c50, .int .i64 x51, .int .i64 x52, .slice A53 n54 c55, .slice A56 n57 c58, .bool b59, .int .i64 x60, .int .i64 x61, .slice A62 n63 c64, .int .i64 x65, .int .i64 x66, .slice A67 n68 c69, .int .i64 x70, .int .i64 x71, .slice A72 n73 c74, .slice A75 n76 c77, .bool b78, .int .i64 x79, .int .i64 x80, .slice A81 n82 c83, .int .i64 x84, .int .i64 x85, .slice A86 n87 c88, .int .i64 x89, .int .i64 x90, .slice A91 n92 c93, .slice A94 n95 c96, .bool b97, .int .i64 x98, .int .i64 x99, .slice A100 n101 c102, .int .i64 x103, .int .i64 x104, .slice A105 n106 c107, .int .i64 x108, .int .i64 x109, .slice A110 n111 c112, .slice A113 n114 c115, .bool b116, .int .i64 x117, .int .i64 x118, .slice A119 n120 c121, .int .i64 x122, .int .i64 x123, .slice A124 n125 c126, .int .i64 x127, .int .i64 x128, .slice A129 n130 c131, .slice A132 n133 c134, .bool b135, .int .i64 x136, .int .i64 x137, .slice A138 n139 c140, .int .i64 x141, .int .i64 x142, .slice A143 n144 c145, .int .i64 x146, .int .i64 x147, .slice A148 n149 c150, .slice A151 n152 c153] : List Value)[x154.toNat * 11 + 10]?).bind Value.slc?) fun s165 =>
 pb (0 ≤ x154 ∧ x154 < (8 : Int))
 (ob ((M.ld (plus (plus a1 1) (x154.toNat * 11))).bind Value.bool?) fun b166 =>
 ob ((M.ld (plus (plus (plus a1 1) (x154.toNat * 11)) 1)).bind (Value.int? .i64)) fun x167 =>
 ob ((M.ld (plus (plus (plus a1 1) (x154.toNat * 11)) 2)).bind (Value.int? .i64)) fun x168 =>
 ob ((M.ld (plus (plus (plus a1 1) (x154.toNat * 11)) 3)).bind Value.slc?) fun s169 =>
 ob ((M.ld (plus (plus (plus a1 1) (x154.toNat * 11)) 4)).bind (Value.int? .i64)) fun x170 =>
 ob ((M.ld (plus (plus (plus a1 1) (x154.toNat * 11)) 5)).bind (Value.int? .i64)) fun x171 =>
 ob ((M.ld (plus (plus (plus a1 1) (x154.toNat * 11)) 6)).bind Value.slc?) fun s172 =>
 ob ((M.ld (plus (plus (plus a1 1) (x154.toNat * 11)) 7)).bind (Value.int? .i64)) fun x173 =>
 ob ((M.ld (plus (plus (plus a1 1) (x154.toNat * 11)) 8)).bind (Value.int? .i64)) fun x174 =>
 ob ((M.ld (plus (plus (plus a1 1) (x154.toNat * 11)) 9)).bind Value.slc?) fun s175 =>
 ob ((M.ld (plus (plus (plus a1 1) (x154.toNat * 11)) 10)).bind Value.slc?) fun s176 =>
 bb (!(b155 == b166))
 (some (.ret (.bool false) M))
 (ob (acall P T k lo F.pool_sameSet [.agg ⟨[.slice s165.a s165.n s165.c]⟩, .agg ⟨[.slice s176.a s176.n s176.c]⟩] M) fun r177 =>
 ob ((some r177.1).bind Value.bool?) fun b178 =>
 bb (!b178)
 (some (.ret (.bool false) r177.2))
 (some (pool_Same.c119612 a1 b2 x3 x4 A5 n6 c7 x8 x9 A10 n11 c12 x13 x14 A15 n16 c17 A18 n19 c20 b21 x22 x23 A24 n25 c26 x27 x28 A29 n30 c31 x32 x33 A34 n35 c36 A37 n38 c39 b40 x41 x42 A43 n44 c45 x46 x47 A48 n49 c50 x51 x52 A53 n54 c55 A56 n57 c58 b59 x60 x61 A62 n63 c64 x65 x66 A67 n68 c69 x70 x71 A72 n73 c74 A75 n76 c77 b78 x79 x80 A81 n82 c83 x84 x85 A86 n87 c88 x89 x90 A91 n92 c93 A94 n95 c96 b97 x98 x99 A100 n101 c102 x103 x104 A105 n106 c107 x108 x109 A110 n111 c112 A113 n114 c115 b116 x117 x118 A119 n120 c121 x122 x123 A124 n125 c126 x127 x128 A129 n130 c131 A132 n133 c134 b135 x136 x137 A138 n139 c140 x141 x142 A143 n144 c145 x146 x147 A148 n149 c150 A151 n152 c153 x154 0 b155 x156 x157 s158.a s158.n s158.c x159 x160 s161.a s161.n s161.c x162 x163 s164.a s164.n s164.c s165.a s165.n s165.c b166 x167 x168 s169.a s169.n s169.c x170 x171 s172.a s172.n s172.c x173 x174 s175.a s175.n s175.c s176.a s176.n s176.c r177.2)))) none) none)
 (some (.ret (.bool true) M)) := by kernel_rfl
theorem pool_Same.p119612 (k lo : Nat) (a1 : Addr) (b2 : Bool) (x3 : Int) (x4 : Int) (A5 : Option Addr) (n6 : Nat) (c7 : Nat) (x8 : Int) (x9 : Int) (A10 : Option Addr) (n11 : Nat) (c12 : Nat) (x13 : Int) (x14 : Int) (A15 : Option Addr) (n16 : Nat) (c17 : Nat) (A18 : Option Addr) (n19 : Nat) (c20 : Nat) (b21 : Bool) (x22 : Int) (x23 : Int) (A24 : Option Addr) (n25 : Nat) (c26 : Nat) (x27 : Int) (x28 : Int) (A29 : Option Addr) (n30 : Nat) (c31 : Nat) (x32 : Int) (x33 : Int) (A34 : Option Addr) (n35 : Nat) (c36 : Nat) (A37 : Option Addr) (n38 : Nat) (c39 : Nat) (b40 : Bool) (x41 : Int) (x42 : Int) (A43 : Option Addr) (n44 : Nat) (c45 : Nat) (x46 : Int) (x47 : Int) (A48 : Option Addr) (n49 : Nat) (c50 : Nat) (x51 : Int) (x52 : Int) (A53 : Option Addr) (n54 : Nat) (c55 : Nat) (A56 : Option Addr) (n57 : Nat) (c58 : Nat) (b59 : Bool) (x60 : Int) (x61 : Int) (A62 : Option Addr) (n63 : Nat) (c64 : Nat) (x65 : Int) (x66 : Int) (A67 : Option Addr) (n68 : Nat) (c69 : Nat) (x70 : Int) (x71 : Int) (A72 : Option Addr) (n73 : Nat) (c74 : Nat) (A75 : Option Addr) (n76 : Nat) (c77 : Nat) (b78 : Bool) (x79 : Int) (x80 : Int) (A81 : Option Addr) (n82 : Nat) (c83 : Nat) (x84 : Int) (x85 : Int) (A86 : Option Addr) (n87 : Nat) (c88 : Nat) (x89 : Int) (x90 : Int) (A91 : Option Addr) (n92 : Nat) (c93 : Nat) (A94 : Option Addr) (n95 : Nat) (c96 : Nat) (b97 : Bool) (x98 : Int) (x99 : Int) (A100 : Option Addr) (n101 : Nat) (c102 : Nat) (x103 : Int) (x104 : Int) (A105 : Option Addr) (n106 : Nat) (c107 : Nat) (x108 : Int) (x109 : Int) (A110 : Option Addr) (n111 : Nat) (c112 : Nat) (A113 : Option Addr) (n114 : Nat) (c115 : Nat) (b116 : Bool) (x117 : Int) (x118 : Int) (A119 : Option Addr) (n120 : Nat) (c121 : Nat) (x122 : Int) (x123 : Int) (A124 : Option Addr) (n125 : Nat) (c126 : Nat) (x127 : Int) (x128 : Int) (A129 : Option Addr) (n130 : Nat) (c131 : Nat) (A132 : Option Addr) (n133 : Nat) (c134 : Nat) (b135 : Bool) (x136 : Int) (x137 : Int) (A138 : Option Addr) (n139 : Nat) (c140 : Nat) (x141 : Int) (x142 : Int) (A143 : Option Addr) (n144 : Nat) (c145 : Nat) (x146 : Int) (x147 : Int) (A148 : Option Addr) (n149 : Nat) (c150 : Nat) (A151 : Option Addr) (n152 : Nat) (c153 : Nat) (x154 : Int) (x155 : Int) (b156 : Bool) (x157 : Int) (x158 : Int) (A159 : Option Addr) (n160 : Nat) (c161 : Nat) (x162 : Int) (x163 : Int) (A164 : Option Addr) (n165 : Nat) (c166 : Nat) (x167 : Int) (x168 : Int) (A169 : Option Addr) (n170 : Nat) (c171 : Nat) (A172 : Option Addr) (n173 : Nat) (c174 : Nat) (b175 : Bool) (x176 : Int) (x177 : Int) (A178 : Option Addr) (n179 : Nat) (c180 : Nat) (x181 : Int) (x182 : Int) (A183 : Option Addr) (n184 : Nat) (c185 : Nat) (x186 : Int) (x187 : Int) (A188 : Option Addr) (n189 : Nat) (c190 : Nat) (A191 : Option Addr) (n192 : Nat) (c193 : Nat) (M : Mem) : piece P T k lo F.pool_Same 119612 [.v (.pointer (some a1)), .l 6 0, .l 7 0, .v (.agg ⟨[.bool b2, .int .i64 x3, .int .i64 x4, .slice A5 n6 c7, .int .i64 x8, .int .i64 x9, .slice A10 n11 c12, .int .i64 x13, .int .i64 x14, .slice A15 n16 c17, .slice A18 n19 c20, .bool b21, .int .i64 x22, .int .i64 x23, .slice A24 n25 c26, .int .i64 x27, .int .i64 x28, .slice A29 n30 c31, .int .i64 x32, .int .i64 x33, .slice A34 n35 c36, .slice A37 n38 c39, .bool b40, .int .i64 x41, .int .i64 x42, .slice A43 n44 c45, .int .i64 x46, .int .i64 x47, .slice A48 n49 c50, .int .i64 x51, .int .i64 x52, .slice A53 n54 c55, .slice A56 n57 c58, .bool b59, .int .i64 x60, .int .i64 x61, .slice A62 n63 c64, .int .i64 x65, .int .i64 x66, .slice A67 n68 c69, .int .i64 x70, .int .i64 x71, .slice A72 n73 c74, .slice A75 n76 c77, .bool b78, .int .i64 x79, .int .i64 x80, .slice A81 n82 c83, .int .i64 x84, .int .i64 x85, .slice A86 n87 c88, .int .i64 x89, .int .i64 x90, .slice A91 n92 c93, .slice A94 n95 c96, .bool b97, .int .i64 x98, .int .i64 x99, .slice A100 n101 c102, .int .i64 x103, .int .i64 x104, .slice A105 n106 c107, .int .i64 x108, .int .i64 x109, .slice A110 n111 c112, .slice A113 n114 c115, .bool b116, .int .i64 x117, .int .i64 x118, .slice A119 n120 c121, .int .i64 x122, .int .i64 x123, .slice A124 n125 c126, .int .i64 x127, .int .i64 x128, .slice A129 n130 c131, .slice A132 n133 c134, .bool b135, .int .i64 x136, .int .i64 x137, .slice A138 n139 c140, .int .i64 x141, .int .i64 x142, .slice A143 n144 c145, .int .i64 x146, .int .i64 x147, .slice A148 n149 c150, .slice A151 n152 c153]⟩), .v (.int .i64 x154), .v (.int .i64 x155)] [[.bool b156, .int .i64 x157, .int .i64 x158, .slice A159 n160 c161, .int .i64 x162, .int .i64 x163, .slice A164 n165 c166, .int .i64 x167, .int .i64 x168, .slice A169 n170 c171, .slice A172 n173 c174], [.bool b175, .int .i64 x176, .int .i64 x177, .slice A178 n179 c180, .int .i64 x181, .int .i64 x182, .slice A183 n184 c185, .int .i64 x186, .int .i64 x187, .slice A188 n189 c190, .slice A191 n192 c193]] M =
 bb (decide (x155 < 3))
 (bb b156
 (pb (0 ≤ x155 ∧ x155 < (3 : Int))
 (ob ((([.bool b156, .int .i64 x157, .int .i64 x158, .slice A159 n160 c161, .int .i64 x162, .int .i64 x163, .slice A164 n165 c166, .int .i64 x167, .int .i64 x168, .slice A169 n170 c171, .slice A172 n173 c174] : List Value)[1 + (x155.toNat * 3) + 0]?).bind (Value.int? .i64)) fun x194 =>
 ob ((([.bool b156, .int .i64 x157, .int .i64 x158, .slice A159 n160 c161, .int .i64 x162, .int .i64 x163, .slice A164 n165 c166, .int .i64 x167, .int .i64 x168, .slice A169 n170 c171, .slice A172 n173 c174] : List Value)[1 + (x155.toNat * 3) + 1]?).bind (Value.int? .i64)) fun x195 =>
 ob ((([.bool b156, .int .i64 x157, .int .i64 x158, .slice A159 n160 c161, .int .i64 x162, .int .i64 x163, .slice A164 n165 c166, .int .i64 x167, .int .i64 x168, .slice A169 n170 c171, .slice A172 n173 c174] : List Value)[1 + (x155.toNat * 3) + 2]?).bind Value.slc?) fun s196 =>
 pb (0 ≤ x155 ∧ x155 < (3 : Int))
 (ob ((([.bool b175, .int .i64 x176, .int .i64 x177, .slice A178 n179 c180, .int .i64 x181, .int .i64 x182, .slice A183 n184 c185, .int .i64 x186, .int .i64 x187, .slice A188 n189 c190, .slice A191 n192 c193] : List Value)[1 + (x155.toNat * 3) + 0]?).bind (Value.int? .i64)) fun x197 =>
 ob ((([.bool b175, .int .i64 x176, .int .i64 x177, .slice A178 n179 c180, .int .i64 x181, .int .i64 x182, .slice A183 n184 c185, .int .i64 x186, .int .i64 x187, .slice A188 n189 c190, .slice A191 n192 c193] : List Value)[1 + (x155.toNat * 3) + 1]?).bind (Value.int? .i64)) fun x198 =>
 ob ((([.bool b175, .int .i64 x176, .int .i64 x177, .slice A178 n179 c180, .int .i64 x181, .int .i64 x182, .slice A183 n184 c185, .int .i64 x186, .int .i64 x187, .slice A188 n189 c190, .slice A191 n192 c193] : List Value)[1 + (x155.toNat * 3) + 2]?).bind Value.slc?) fun s199 =>
 ob (acall P T k lo F.plane_Same [.agg ⟨[.int .i64 x194, .int .i64 x195, .slice s196.a s196.n s196.c]⟩, .agg ⟨[.int .i64 x197, .int .i64 x198, .slice s199.a s199.n s199.c]⟩] M) fun r200 =>
 ob ((some r200.1).bind Value.bool?) fun b201 =>
 bb (!b201)
 (some (.ret (.bool false) r200.2))
 (some (pool_Same.c119612 a1 b2 x3 x4 A5 n6 c7 x8 x9 A10 n11 c12 x13 x14 A15 n16 c17 A18 n19 c20 b21 x22 x23 A24 n25 c26 x27 x28 A29 n30 c31 x32 x33 A34 n35 c36 A37 n38 c39 b40 x41 x42 A43 n44 c45 x46 x47 A48 n49 c50 x51 x52 A53 n54 c55 A56 n57 c58 b59 x60 x61 A62 n63 c64 x65 x66 A67 n68 c69 x70 x71 A72 n73 c74 A75 n76 c77 b78 x79 x80 A81 n82 c83 x84 x85 A86 n87 c88 x89 x90 A91 n92 c93 A94 n95 c96 b97 x98 x99 A100 n101 c102 x103 x104 A105 n106 c107 x108 x109 A110 n111 c112 A113 n114 c115 b116 x117 x118 A119 n120 c121 x122 x123 A124 n125 c126 x127 x128 A129 n130 c131 A132 n133 c134 b135 x136 x137 A138 n139 c140 x141 x142 A143 n144 c145 x146 x147 A148 n149 c150 A151 n152 c153 x154 (IntKind.i64.wrap (x155 + 1)) b156 x157 x158 A159 n160 c161 x162 x163 A164 n165 c166 x167 x168 A169 n170 c171 A172 n173 c174 b175 x176 x177 A178 n179 c180 x181 x182 A183 n184 c185 x186 x187 A188 n189 c190 A191 n192 c193 r200.2))) none) none)
 (some (pool_Same.c119612 a1 b2 x3 x4 A5 n6 c7 x8 x9 A10 n11 c12 x13 x14 A15 n16 c17 A18 n19 c20 b21 x22 x23 A24 n25 c26 x27 x28 A29 n30 c31 x32 x33 A34 n35 c36 A37 n38 c39 b40 x41 x42 A43 n44 c45 x46 x47 A48 n49 c50 x51 x52 A53 n54 c55 A56 n57 c58 b59 x60 x61 A62 n63 c64 x65 x66 A67 n68 c69 x70 x71 A72 n73 c74 A75 n76 c77 b78 x79 x80 A81 n82 c83 x84 x85 A86 n87 c88 x89 x90 A91 n92 c93 A94 n95 c96 b97 x98 x99 A100 n101 c102 x103 x104 A105 n106 c107 x108 x109 A110 n111 c112 A113 n114 c115 b116 x117 x118 A119 n120 c121 x122 x123 A124 n125 c126 x127 x128 A129 n130 c131 A132 n133 c134 b135 x136 x137 A138 n139 c140 x141 x142 A143 n144 c145 x146 x147 A148 n149 c150 A151 n152 c153 x154 (IntKind.i64.wrap (x155 + 1)) b156 x157 x158 A159 n160 c161 x162 x163 A164 n165 c166 x167 x168 A169 n170 c171 A172 n173 c174 b175 x176 x177 A178 n179 c180 x181 x182 A183 n184 c185 x186 x187 A188 n189 c190 A191 n192 c193 M)))
 (some (pool_Same.c116 a1 b2 x3 x4 A5 n6 c7 x8 x9 A10 n11 c12 x13 x14 A15 n16 c17 A18 n19 c20 b21 x22 x23 A24 n25 c26 x27 x28 A29 n30 c31 x32 x33 A34 n35 c36 A37 n38 c39 b40 x41 x42 A43 n44 c45 x46 x47 A48 n49 c50 x51 x52 A53 n54 c55 A56 n57 c58 b59 x60 x61 A62 n63 c64 x65 x66 A67 n68 c69 x70 x71 A72 n73 c74 A75 n76 c77 b78 x79 x80 A81 n82 c83 x84 x85 A86 n87 c88 x89 x90 A91 n92 c93 A94 n95 c96 b97 x98 x99 A100 n101 c102 x103 x104 A105 n106 c107 x108 x109 A110 n111 c112 A113 n114 c115 b116 x117 x118 A119 n120 c121 x122 x123 A124 n125 c126 x127 x128 A129 n130 c131 A132 n133 c134 b135 x136 x137 A138 n139 c140 x141 x142 A143 n144 c145 x146 x147 A148 n149 c150 A151 n152 c153 (IntKind.i64.wrap (x154 + 1)) M)) := by kernel_rfl
theorem pool_Pool_Copy.entry (k lo : Nat) (a1 : Addr) (M : Mem) : entry P T k lo F.pool_Pool_Copy [.pointer (some a1)] M =
 ob (acall P T k lo F.pool_Pool_none [.pointer (some a1)] M) fun r7 =>
 ob ((some r7.1).bind Value.bool?) fun b8 =>
 bb b8
 (some (.ret (.tuple ⟨[.pointer none, .int .i64 1]⟩) r7.2))
 (ob ((r7.2.ld a1).bind Value.bool?) fun b9 =>
 ob ((r7.2.ld (plus a1 1)).bind Value.bool?) fun b10 =>
 ob ((r7.2.ld (plus a1 2)).bind (Value.int? .i64)) fun x11 =>
 ob ((r7.2.ld (plus a1 3)).bind (Value.int? .i64)) fun x12 =>
 ob ((r7.2.ld (plus a1 4)).bind Value.slc?) fun s13 =>
 ob ((r7.2.ld (plus a1 5)).bind (Value.int? .i64)) fun x14 =>
 ob ((r7.2.ld (plus a1 6)).bind (Value.int? .i64)) fun x15 =>
 ob ((r7.2.ld (plus a1 7)).bind Value.slc?) fun s16 =>
 ob ((r7.2.ld (plus a1 8)).bind (Value.int? .i64)) fun x17 =>
 ob ((r7.2.ld (plus a1 9)).bind (Value.int? .i64)) fun x18 =>
 ob ((r7.2.ld (plus a1 10)).bind Value.slc?) fun s19 =>
 ob ((r7.2.ld (plus a1 11)).bind Value.slc?) fun s20 =>
 ob ((r7.2.ld (plus a1 12)).bind Value.bool?) fun b21 =>
 ob ((r7.2.ld (plus a1 13)).bind (Value.int? .i64)) fun x22 =>
 ob ((r7.2.ld (plus a1 14)).bind (Value.int? .i64)) fun x23 =>
 ob ((r7.2.ld (plus a1 15)).bind Value.slc?) fun s24 =>
 ob ((r7.2.ld (plus a1 16)).bind (Value.int? .i64)) fun x25 =>
 ob ((r7.2.ld (plus a1 17)).bind (Value.int? .i64)) fun x26 =>
 ob ((r7.2.ld (plus a1 18)).bind Value.slc?) fun s27 =>
 ob ((r7.2.ld (plus a1 19)).bind (Value.int? .i64)) fun x28 =>
 ob ((r7.2.ld (plus a1 20)).bind (Value.int? .i64)) fun x29 =>
 ob ((r7.2.ld (plus a1 21)).bind Value.slc?) fun s30 =>
 ob ((r7.2.ld (plus a1 22)).bind Value.slc?) fun s31 =>
 ob ((r7.2.ld (plus a1 23)).bind Value.bool?) fun b32 =>
 ob ((r7.2.ld (plus a1 24)).bind (Value.int? .i64)) fun x33 =>
 ob ((r7.2.ld (plus a1 25)).bind (Value.int? .i64)) fun x34 =>
 ob ((r7.2.ld (plus a1 26)).bind Value.slc?) fun s35 =>
 ob ((r7.2.ld (plus a1 27)).bind (Value.int? .i64)) fun x36 =>
 ob ((r7.2.ld (plus a1 28)).bind (Value.int? .i64)) fun x37 =>
 ob ((r7.2.ld (plus a1 29)).bind Value.slc?) fun s38 =>
 ob ((r7.2.ld (plus a1 30)).bind (Value.int? .i64)) fun x39 =>
 ob ((r7.2.ld (plus a1 31)).bind (Value.int? .i64)) fun x40 =>
 ob ((r7.2.ld (plus a1 32)).bind Value.slc?) fun s41 =>
 ob ((r7.2.ld (plus a1 33)).bind Value.slc?) fun s42 =>
 ob ((r7.2.ld (plus a1 34)).bind Value.bool?) fun b43 =>
 ob ((r7.2.ld (plus a1 35)).bind (Value.int? .i64)) fun x44 =>
 ob ((r7.2.ld (plus a1 36)).bind (Value.int? .i64)) fun x45 =>
 ob ((r7.2.ld (plus a1 37)).bind Value.slc?) fun s46 =>
 ob ((r7.2.ld (plus a1 38)).bind (Value.int? .i64)) fun x47 =>
 ob ((r7.2.ld (plus a1 39)).bind (Value.int? .i64)) fun x48 =>
 ob ((r7.2.ld (plus a1 40)).bind Value.slc?) fun s49 =>
 ob ((r7.2.ld (plus a1 41)).bind (Value.int? .i64)) fun x50 =>
 ob ((r7.2.ld (plus a1 42)).bind (Value.int? .i64)) fun x51 =>
 ob ((r7.2.ld (plus a1 43)).bind Value.slc?) fun s52 =>
 ob ((r7.2.ld (plus a1 44)).bind Value.slc?) fun s53 =>
 ob ((r7.2.ld (plus a1 45)).bind Value.bool?) fun b54 =>
 ob ((r7.2.ld (plus a1 46)).bind (Value.int? .i64)) fun x55 =>
 ob ((r7.2.ld (plus a1 47)).bind (Value.int? .i64)) fun x56 =>
 ob ((r7.2.ld (plus a1 48)).bind Value.slc?) fun s57 =>
 ob ((r7.2.ld (plus a1 49)).bind (Value.int? .i64)) fun x58 =>
 ob ((r7.2.ld (plus a1 50)).bind (Value.int? .i64)) fun x59 =>
 ob ((r7.2.ld (plus a1 51)).bind Value.slc?) fun s60 =>
 ob ((r7.2.ld (plus a1 52)).bind (Value.int? .i64)) fun x61 =>
 ob ((r7.2.ld (plus a1 53)).bind (Value.int? .i64)) fun x62 =>
 ob ((r7.2.ld (plus a1 54)).bind Value.slc?) fun s63 =>
 ob ((r7.2.ld (plus a1 55)).bind Value.slc?) fun s64 =>
 ob ((r7.2.ld (plus a1 56)).bind Value.bool?) fun b65 =>
 ob ((r7.2.ld (plus a1 57)).bind (Value.int? .i64)) fun x66 =>
 ob ((r7.2.ld (plus a1 58)).bind (Value.int? .i64)) fun x67 =>
 ob ((r7.2.ld (plus a1 59)).bind Value.slc?) fun s68 =>
 ob ((r7.2.ld (plus a1 60)).bind (Value.int? .i64)) fun x69 =>
 ob ((r7.2.ld (plus a1 61)).bind (Value.int? .i64)) fun x70 =>
 ob ((r7.2.ld (plus a1 62)).bind Value.slc?) fun s71 =>
 ob ((r7.2.ld (plus a1 63)).bind (Value.int? .i64)) fun x72 =>
 ob ((r7.2.ld (plus a1 64)).bind (Value.int? .i64)) fun x73 =>
 ob ((r7.2.ld (plus a1 65)).bind Value.slc?) fun s74 =>
 ob ((r7.2.ld (plus a1 66)).bind Value.slc?) fun s75 =>
 ob ((r7.2.ld (plus a1 67)).bind Value.bool?) fun b76 =>
 ob ((r7.2.ld (plus a1 68)).bind (Value.int? .i64)) fun x77 =>
 ob ((r7.2.ld (plus a1 69)).bind (Value.int? .i64)) fun x78 =>
 ob ((r7.2.ld (plus a1 70)).bind Value.slc?) fun s79 =>
 ob ((r7.2.ld (plus a1 71)).bind (Value.int? .i64)) fun x80 =>
 ob ((r7.2.ld (plus a1 72)).bind (Value.int? .i64)) fun x81 =>
 ob ((r7.2.ld (plus a1 73)).bind Value.slc?) fun s82 =>
 ob ((r7.2.ld (plus a1 74)).bind (Value.int? .i64)) fun x83 =>
 ob ((r7.2.ld (plus a1 75)).bind (Value.int? .i64)) fun x84 =>
 ob ((r7.2.ld (plus a1 76)).bind Value.slc?) fun s85 =>
 ob ((r7.2.ld (plus a1 77)).bind Value.slc?) fun s86 =>
 ob ((r7.2.ld (plus a1 78)).bind Value.bool?) fun b87 =>
 ob ((r7.2.ld (plus a1 79)).bind (Value.int? .i64)) fun x88 =>
 ob ((r7.2.ld (plus a1 80)).bind (Value.int? .i64)) fun x89 =>
 ob ((r7.2.ld (plus a1 81)).bind Value.slc?) fun s90 =>
 ob ((r7.2.ld (plus a1 82)).bind (Value.int? .i64)) fun x91 =>
 ob ((r7.2.ld (plus a1 83)).bind (Value.int? .i64)) fun x92 =>
 ob ((r7.2.ld (plus a1 84)).bind Value.slc?) fun s93 =>
 ob ((r7.2.ld (plus a1 85)).bind (Value.int? .i64)) fun x94 =>
 ob ((r7.2.ld (plus a1 86)).bind (Value.int? .i64)) fun x95 =>
 ob ((r7.2.ld (plus a1 87)).bind Value.slc?) fun s96 =>
 ob ((r7.2.ld (plus a1 88)).bind Value.slc?) fun s97 =>
 ob ((r7.2 ++ [⟨.fx, [.bool false, .bool false, .int .i64 0, .int .i64 0, .slice none 0 0, .int .i64 0, .int .i64 0, .slice none 0 0, .int .i64 0, .int .i64 0, .slice none 0 0, .slice none 0 0, .bool false, .int .i64 0, .int .i64 0, .slice none 0 0, .int .i64 0, .int .i64 0, .slice none 0 0, .int .i64 0, .int .i64 0, .slice none 0 0, .slice none 0 0, .bool false, .int .i64 0, .int .i64 0, .slice none 0 0, .int .i64 0, .int .i64 0, .slice none 0 0, .int .i64 0, .int .i64 0, .slice none 0 0, .slice none 0 0, .bool false, .int .i64 0, .int .i64 0, .slice none 0 0, .int .i64 0, .int .i64 0, .slice none 0 0, .int .i64 0, .int .i64 0, .slice none 0 0, .slice none 0 0, .bool false, .int .i64 0, .int .i64 0, .slice none 0 0, .int .i64 0, .int .i64 0, .slice none 0 0, .int .i64 0, .int .i64 0, .slice none 0 0, .slice none 0 0, .bool false, .int .i64 0, .int .i64 0, .slice none 0 0, .int .i64 0, .int .i64 0, .slice none 0 0, .int .i64 0, .int .i64 0, .slice none 0 0, .slice none 0 0, .bool false, .int .i64 0, .int .i64 0, .slice none 0 0, .int .i64 0, .int .i64 0, .slice none 0 0, .int .i64 0, .int .i64 0, .slice none 0 0, .slice none 0 0, .bool false, .int .i64 0, .int .i64 0, .slice none 0 0, .int .i64 0, .int .i64 0, .slice none 0 0, .int .i64 0, .int .i64 0, .slice none 0 0, .slice none 0 0]⟩] : Mem).st lo ⟨r7.2.length, 0, none⟩ [.bool b9, .bool b10, .int .i64 x11, .int .i64 x12, .slice s13.a s13.n s13.c, .int .i64 x14, .int .i64 x15, .slice s16.a s16.n s16.c, .int .i64 x17, .int .i64 x18, .slice s19.a s19.n s19.c, .slice s20.a s20.n s20.c, .bool b21, .int .i64 x22, .int .i64 x23, .slice s24.a s24.n s24.c, .int .i64 x25, .int .i64 x26, .slice s27.a s27.n s27.c, .int .i64 x28, .int .i64 x29, .slice s30.a s30.n s30.c, .slice s31.a s31.n s31.c, .bool b32, .int .i64 x33, .int .i64 x34, .slice s35.a s35.n s35.c, .int .i64 x36, .int .i64 x37, .slice s38.a s38.n s38.c, .int .i64 x39, .int .i64 x40, .slice s41.a s41.n s41.c, .slice s42.a s42.n s42.c, .bool b43, .int .i64 x44, .int .i64 x45, .slice s46.a s46.n s46.c, .int .i64 x47, .int .i64 x48, .slice s49.a s49.n s49.c, .int .i64 x50, .int .i64 x51, .slice s52.a s52.n s52.c, .slice s53.a s53.n s53.c, .bool b54, .int .i64 x55, .int .i64 x56, .slice s57.a s57.n s57.c, .int .i64 x58, .int .i64 x59, .slice s60.a s60.n s60.c, .int .i64 x61, .int .i64 x62, .slice s63.a s63.n s63.c, .slice s64.a s64.n s64.c, .bool b65, .int .i64 x66, .int .i64 x67, .slice s68.a s68.n s68.c, .int .i64 x69, .int .i64 x70, .slice s71.a s71.n s71.c, .int .i64 x72, .int .i64 x73, .slice s74.a s74.n s74.c, .slice s75.a s75.n s75.c, .bool b76, .int .i64 x77, .int .i64 x78, .slice s79.a s79.n s79.c, .int .i64 x80, .int .i64 x81, .slice s82.a s82.n s82.c, .int .i64 x83, .int .i64 x84, .slice s85.a s85.n s85.c, .slice s86.a s86.n s86.c, .bool b87, .int .i64 x88, .int .i64 x89, .slice s90.a s90.n s90.c, .int .i64 x91, .int .i64 x92, .slice s93.a s93.n s93.c, .int .i64 x94, .int .i64 x95, .slice s96.a s96.n s96.c, .slice s97.a s97.n s97.c]) fun M98 =>
 some (.ret (.tuple ⟨[.pointer (some ⟨r7.2.length, 0, none⟩), .int .i64 0]⟩) M98)) := by kernel_rfl
theorem zoetroperef26_New.entry (k lo : Nat) (M : Mem) : entry P T k lo F.zoetroperef26_New [] M =
 some (.ret (.pointer (some ⟨M.length, 0, none⟩)) (M ++ [⟨.fx, [.bool false, .bool false, .bool false, .bool false, .bool false, .bool false, .bool false, .bool false, .int .i64 0, .int .i64 0, .slice none 0 0, .int .i64 0, .int .i64 0, .slice none 0 0, .int .i64 0, .int .i64 0, .slice none 0 0, .int .i64 0, .int .i64 0, .slice none 0 0, .int .i64 0, .int .i64 0, .slice none 0 0, .int .i64 0, .int .i64 0, .slice none 0 0, .int .i64 0, .int .i64 0, .slice none 0 0, .int .i64 0, .int .i64 0, .slice none 0 0, .int .i64 0, .int .i64 0, .slice none 0 0, .int .i64 0, .int .i64 0, .slice none 0 0, .int .i64 0, .int .i64 0, .slice none 0 0, .int .i64 0, .int .i64 0, .slice none 0 0, .int .i64 0, .int .i64 0, .slice none 0 0, .int .i64 0, .int .i64 0, .slice none 0 0, .int .i64 0, .int .i64 0, .slice none 0 0, .int .i64 0, .int .i64 0, .slice none 0 0, .int .i64 0, .int .i64 0, .slice none 0 0, .int .i64 0, .int .i64 0, .slice none 0 0, .int .i64 0, .int .i64 0, .slice none 0 0, .int .i64 0, .int .i64 0, .slice none 0 0, .int .i64 0, .int .i64 0, .slice none 0 0, .int .i64 0, .int .i64 0, .slice none 0 0, .int .i64 0, .int .i64 0, .slice none 0 0, .int .i64 0, .int .i64 0, .slice none 0 0, .slice none 0 0, .slice none 0 0, .slice none 0 0, .slice none 0 0, .slice none 0 0, .slice none 0 0, .slice none 0 0, .slice none 0 0]⟩] : Mem)) := by kernel_rfl
theorem zoetropelaw26_Do_frame.entry (k lo : Nat) (x1 : Int) (x2 : Int) (x3 : Int) (x4 : Int) (x5 : Int) (x6 : Int) (x7 : Int) (x8 : Int) (M : Mem) : entry P T k lo F.zoetropelaw26_Do_frame [.agg ⟨[.int .i64 x1, .int .i64 x2, .int .i64 x3, .int .i64 x4, .int .i64 x5, .int .i64 x6, .int .i64 x7, .int .i64 x8]⟩] M =
 some (zoetropelaw26_Do_frame.c116 0 x1 x2 x3 x4 x5 x6 x7 x8 0 0 none 0 0 0 0 none 0 0 0 0 none 0 0 ([.int .i64 0, .int .i64 0, .slice none 0 0, .int .i64 0, .int .i64 0, .slice none 0 0, .int .i64 0, .int .i64 0, .slice none 0 0]) M) := by kernel_rfl
theorem zoetropelaw26_Do_frame.p31 (k lo : Nat) (x1 : Int) (x2 : Int) (A3 : Option Addr) (n4 : Nat) (c5 : Nat) (x6 : Int) (x7 : Int) (A8 : Option Addr) (n9 : Nat) (c10 : Nat) (x11 : Int) (x12 : Int) (A13 : Option Addr) (n14 : Nat) (c15 : Nat) (cs16 : List Value) (M : Mem) : piece P T k lo F.zoetropelaw26_Do_frame 31 [.l 2 0, .l 3 0] [[.int .i64 x1, .int .i64 x2, .slice A3 n4 c5, .int .i64 x6, .int .i64 x7, .slice A8 n9 c10, .int .i64 x11, .int .i64 x12, .slice A13 n14 c15], cs16] M =
 ob ((cs16[0]?).bind (Value.int? .i64)) fun x28 =>
 ob ((cs16[1]?).bind (Value.int? .i64)) fun x29 =>
 ob ((cs16[2]?).bind Value.slc?) fun s30 =>
 ob ((cs16[3]?).bind (Value.int? .i64)) fun x31 =>
 ob ((cs16[4]?).bind (Value.int? .i64)) fun x32 =>
 ob ((cs16[5]?).bind Value.slc?) fun s33 =>
 ob ((cs16[6]?).bind (Value.int? .i64)) fun x34 =>
 ob ((cs16[7]?).bind (Value.int? .i64)) fun x35 =>
 ob ((cs16[8]?).bind Value.slc?) fun s36 =>
 some (.ret (.agg ⟨[.int .i64 x28, .int .i64 x29, .slice s30.a s30.n s30.c, .int .i64 x31, .int .i64 x32, .slice s33.a s33.n s33.c, .int .i64 x34, .int .i64 x35, .slice s36.a s36.n s36.c]⟩) M) := by kernel_rfl
theorem zoetropelaw26_Do_frame.p116 (k lo : Nat) (x1 : Int) (x2 : Int) (x3 : Int) (x4 : Int) (x5 : Int) (x6 : Int) (x7 : Int) (x8 : Int) (x9 : Int) (x10 : Int) (x11 : Int) (A12 : Option Addr) (n13 : Nat) (c14 : Nat) (x15 : Int) (x16 : Int) (A17 : Option Addr) (n18 : Nat) (c19 : Nat) (x20 : Int) (x21 : Int) (A22 : Option Addr) (n23 : Nat) (c24 : Nat) (cs25 : List Value) (M : Mem) : piece P T k lo F.zoetropelaw26_Do_frame 116 [.l 1 0, .l 2 0, .l 3 0, .v (.int .i64 x1)] [[.int .i64 x2, .int .i64 x3, .int .i64 x4, .int .i64 x5, .int .i64 x6, .int .i64 x7, .int .i64 x8, .int .i64 x9], [.int .i64 x10, .int .i64 x11, .slice A12 n13 c14, .int .i64 x15, .int .i64 x16, .slice A17 n18 c19, .int .i64 x20, .int .i64 x21, .slice A22 n23 c24], cs25] M =
 bb (decide (x1 < 3))
 (bb (decide (x1 > 0))
 (some (zoetropelaw26_Do_frame.c3731 x1 (IntKind.i64.wrap (Int.tdiv (andI .i64 x3 255) 2)) (IntKind.i64.wrap (Int.tdiv (andI .i64 x4 255) 2)) x2 x3 x4 x5 x6 x7 x8 x9 x10 x11 A12 n13 c14 x15 x16 A17 n18 c19 x20 x21 A22 n23 c24 cs25 M))
 (some (zoetropelaw26_Do_frame.c3731 x1 (andI .i64 x3 255) (andI .i64 x4 255) x2 x3 x4 x5 x6 x7 x8 x9 x10 x11 A12 n13 c14 x15 x16 A17 n18 c19 x20 x21 A22 n23 c24 cs25 M)))
 (bb (andI .i64 x8 3 == 1)
 (ob ((cs25[8]?).bind Value.slc?) fun s26 =>
 bb (decide ((s26.n : Int) > 0))
 (ob ((cs25[8]?).bind Value.slc?) fun s27 =>
 pb (0 ≤ (1 : Int) ∧ (1 : Int) ≤ (s27.n : Int))
 (pb (8 + 1 ≤ cs25.length)
 (some (zoetropelaw26_Do_frame.c31 x10 x11 A12 n13 c14 x15 x16 A17 n18 c19 x20 x21 A22 n23 c24 (setL cs25 8 [.slice (slAddr 1 s27.a 1 s27.c) (s27.n - 1) (s27.c - 1)]) M)) none) none)
 (some (zoetropelaw26_Do_frame.c31 x10 x11 A12 n13 c14 x15 x16 A17 n18 c19 x20 x21 A22 n23 c24 cs25 M)))
 (some (zoetropelaw26_Do_frame.c31 x10 x11 A12 n13 c14 x15 x16 A17 n18 c19 x20 x21 A22 n23 c24 cs25 M))) := by kernel_rfl
theorem zoetropelaw26_Do_frame.p3731 (k lo : Nat) (x1 : Int) (x2 : Int) (x3 : Int) (x4 : Int) (x5 : Int) (x6 : Int) (x7 : Int) (x8 : Int) (x9 : Int) (x10 : Int) (x11 : Int) (x12 : Int) (x13 : Int) (A14 : Option Addr) (n15 : Nat) (c16 : Nat) (x17 : Int) (x18 : Int) (A19 : Option Addr) (n20 : Nat) (c21 : Nat) (x22 : Int) (x23 : Int) (A24 : Option Addr) (n25 : Nat) (c26 : Nat) (cs27 : List Value) (M : Mem) : piece P T k lo F.zoetropelaw26_Do_frame 3731 [.l 1 0, .l 2 0, .l 3 0, .v (.int .i64 x1), .v (.int .i64 x2), .v (.int .i64 x3)] [[.int .i64 x4, .int .i64 x5, .int .i64 x6, .int .i64 x7, .int .i64 x8, .int .i64 x9, .int .i64 x10, .int .i64 x11], [.int .i64 x12, .int .i64 x13, .slice A14 n15 c16, .int .i64 x17, .int .i64 x18, .slice A19 n20 c21, .int .i64 x22, .int .i64 x23, .slice A24 n25 c26], cs27] M =
 some (zoetropelaw26_Do_frame.c119412 x1 x2 x3 0 x4 x5 x6 x7 x8 x9 x10 x11 x12 x13 A14 n15 c16 x17 x18 A19 n20 c21 x22 x23 A24 n25 c26 cs27 x2 x3 none 0 0 M) := by kernel_rfl
theorem zoetropelaw26_Do_frame.p119412 (k lo : Nat) (x1 : Int) (x2 : Int) (x3 : Int) (x4 : Int) (x5 : Int) (x6 : Int) (x7 : Int) (x8 : Int) (x9 : Int) (x10 : Int) (x11 : Int) (x12 : Int) (x13 : Int) (x14 : Int) (A15 : Option Addr) (n16 : Nat) (c17 : Nat) (x18 : Int) (x19 : Int) (A20 : Option Addr) (n21 : Nat) (c22 : Nat) (x23 : Int) (x24 : Int) (A25 : Option Addr) (n26 : Nat) (c27 : Nat) (cs28 : List Value) (x29 : Int) (x30 : Int) (A31 : Option Addr) (n32 : Nat) (c33 : Nat) (M : Mem) : piece P T k lo F.zoetropelaw26_Do_frame 119412 [.l 1 0, .l 2 0, .l 3 0, .v (.int .i64 x1), .v (.int .i64 x2), .v (.int .i64 x3), .l 7 0, .v (.int .i64 x4)] [[.int .i64 x5, .int .i64 x6, .int .i64 x7, .int .i64 x8, .int .i64 x9, .int .i64 x10, .int .i64 x11, .int .i64 x12], [.int .i64 x13, .int .i64 x14, .slice A15 n16 c17, .int .i64 x18, .int .i64 x19, .slice A20 n21 c22, .int .i64 x23, .int .i64 x24, .slice A25 n26 c27], cs28, [.int .i64 x29, .int .i64 x30, .slice A31 n32 c33]] M =
 bb (decide (x4 < IntKind.i64.wrap (x2 * x3)))
 (ob (M.app lo 1 1 ⟨A31, n32, c33⟩ ([.int .u8 (IntKind.u8.wrap (IntKind.i64.wrap (x8 + (IntKind.i64.wrap (x4 * x9)))))]) 1) fun r37 =>
 some (zoetropelaw26_Do_frame.c119412 x1 x2 x3 (IntKind.i64.wrap (x4 + 1)) x5 x6 x7 x8 x9 x10 x11 x12 x13 x14 A15 n16 c17 x18 x19 A20 n21 c22 x23 x24 A25 n26 c27 cs28 x29 x30 r37.1.a r37.1.n r37.1.c r37.2))
 (pb (0 ≤ x1 ∧ x1 < (3 : Int))
 (pb (0 + (x1.toNat * 3) + 3 ≤ cs28.length)
 (some (zoetropelaw26_Do_frame.c116 (IntKind.i64.wrap (x1 + 1)) x5 x6 x7 x8 x9 x10 x11 x12 x13 x14 A15 n16 c17 x18 x19 A20 n21 c22 x23 x24 A25 n26 c27 (setL cs28 (0 + (x1.toNat * 3)) [.int .i64 x29, .int .i64 x30, .slice A31 n32 c33]) M)) none) none) := by kernel_rfl
theorem zoetropelaw26_Do_set.entry (k lo : Nat) (x1 : Int) (x2 : Int) (x3 : Int) (x4 : Int) (x5 : Int) (x6 : Int) (x7 : Int) (x8 : Int) (M : Mem) : entry P T k lo F.zoetropelaw26_Do_set [.agg ⟨[.int .i64 x1, .int .i64 x2, .int .i64 x3, .int .i64 x4, .int .i64 x5, .int .i64 x6, .int .i64 x7, .int .i64 x8]⟩] M =
 ob (acall P T k lo F.zoetroperef04_Default [] M) fun r14 =>
 ob ((some r14.1).bind (Value.agg? 1)) fun l15 =>
 ob ((l15[0]?).bind Value.slc?) fun s16 =>
 ob (acall P T k lo F.zoetroperef04_Writer [.agg ⟨[.slice s16.a s16.n s16.c]⟩, .bool true] r14.2) fun r17 =>
 ob (r17.1.tup? 2) fun l18 =>
 ob ((l18[0]?).bind Value.ptr?) fun p19 =>
 ob ((l18[1]?).bind (Value.int? .i64)) fun x20 =>
 some (zoetropelaw26_Do_set.c116 p19 0 x1 x2 x3 x4 x5 x6 x7 x8 none 0 0 r17.2) := by kernel_rfl
theorem zoetropelaw26_Do_set.p31 (k lo : Nat) (p1 : Option Addr) (A2 : Option Addr) (n3 : Nat) (c4 : Nat) (M : Mem) : piece P T k lo F.zoetropelaw26_Do_set 31 [.l 2 0, .v (.pointer p1)] [[.slice A2 n3 c4]] M =
 nilp p1 fun a29 =>
 ob ((M.ld (plus a29 2)).bind Value.slc?) fun s30 =>
 some (.ret (.agg ⟨[.slice s30.a s30.n s30.c]⟩) M) := by kernel_rfl
theorem zoetropelaw26_Do_set.p116 (k lo : Nat) (p1 : Option Addr) (x2 : Int) (x3 : Int) (x4 : Int) (x5 : Int) (x6 : Int) (x7 : Int) (x8 : Int) (x9 : Int) (x10 : Int) (A11 : Option Addr) (n12 : Nat) (c13 : Nat) (M : Mem) : piece P T k lo F.zoetropelaw26_Do_set 116 [.l 1 0, .l 2 0, .v (.pointer p1), .v (.int .i64 x2)] [[.int .i64 x3, .int .i64 x4, .int .i64 x5, .int .i64 x6, .int .i64 x7, .int .i64 x8, .int .i64 x9, .int .i64 x10], [.slice A11 n12 c13]] M =
 bb (decide (x2 < andI .i64 x8 7))
 (ob (acall P T k lo F.zoetroperef04_Coder_Symbol [.pointer p1, .int .i64 0, .int .i64 0, .int .i64 x2] M) fun r21 =>
 ob (r21.1.tup? 2) fun l22 =>
 ob ((l22[0]?).bind (Value.int? .i64)) fun x23 =>
 ob ((l22[1]?).bind (Value.int? .i64)) fun x24 =>
 some (zoetropelaw26_Do_set.c116 p1 (IntKind.i64.wrap (x2 + 1)) x3 x4 x5 x6 x7 x8 x9 x10 A11 n12 c13 r21.2))
 (bb (andI .i64 x9 3 == 2)
 (nilp p1 fun a25 =>
 ob ((M.ld (plus a25 2)).bind Value.slc?) fun s26 =>
 pb (0 ≤ (1 : Int) ∧ (1 : Int) ≤ (s26.n : Int))
 (nilp p1 fun a27 =>
 ob (M.st lo (plus a27 2) [.slice (slAddr 1 s26.a 1 s26.c) (s26.n - 1) (s26.c - 1)]) fun M28 =>
 some (zoetropelaw26_Do_set.c31 p1 A11 n12 c13 M28)) none)
 (some (zoetropelaw26_Do_set.c31 p1 A11 n12 c13 M))) := by kernel_rfl
theorem zoetroperef26_Pool_Put.entry (k lo : Nat) (a1 : Addr) (x2 : Int) (x3 : Int) (x4 : Int) (A5 : Option Addr) (n6 : Nat) (c7 : Nat) (x8 : Int) (x9 : Int) (A10 : Option Addr) (n11 : Nat) (c12 : Nat) (x13 : Int) (x14 : Int) (A15 : Option Addr) (n16 : Nat) (c17 : Nat) (A18 : Option Addr) (n19 : Nat) (c20 : Nat) (M : Mem) : entry P T k lo F.zoetroperef26_Pool_Put [.pointer (some a1), .int .i64 x2, .agg ⟨[.int .i64 x3, .int .i64 x4, .slice A5 n6 c7, .int .i64 x8, .int .i64 x9, .slice A10 n11 c12, .int .i64 x13, .int .i64 x14, .slice A15 n16 c17]⟩, .agg ⟨[.slice A18 n19 c20]⟩] M =
 bb (decide (x2 < 0))
 (some (.ret (.int .i64 2) M))
 (bb (decide (x2 > 255))
 (some (.ret (.int .i64 2) M))
 (ob (acall P T k lo F.zoetroperef05_Whole [.agg ⟨[.int .i64 x3, .int .i64 x4, .slice A5 n6 c7, .int .i64 x8, .int .i64 x9, .slice A10 n11 c12, .int .i64 x13, .int .i64 x14, .slice A15 n16 c17]⟩] M) fun r26 =>
 ob ((some r26.1).bind (Value.int? .i64)) fun x27 =>
 bb (x27 != 0)
 (some (.ret (.int .i64 2) r26.2))
 (ob (acall P T k lo F.zoetroperef04_Check [.agg ⟨[.slice A18 n19 c20]⟩] r26.2) fun r28 =>
 ob ((some r28.1).bind (Value.int? .i64)) fun x29 =>
 bb (x29 != 0)
 (some (.ret (.int .i64 2) r28.2))
 (some (zoetroperef26_Pool_Put.c116 a1 x2 0 x3 x4 A5 n6 c7 x8 x9 A10 n11 c12 x13 x14 A15 n16 c17 A18 n19 c20 r28.2))))) := by kernel_rfl
theorem zoetroperef26_Pool_Put.p116 (k lo : Nat) (a1 : Addr) (x2 : Int) (x3 : Int) (x4 : Int) (x5 : Int) (A6 : Option Addr) (n7 : Nat) (c8 : Nat) (x9 : Int) (x10 : Int) (A11 : Option Addr) (n12 : Nat) (c13 : Nat) (x14 : Int) (x15 : Int) (A16 : Option Addr) (n17 : Nat) (c18 : Nat) (A19 : Option Addr) (n20 : Nat) (c21 : Nat) (M : Mem) : piece P T k lo F.zoetroperef26_Pool_Put 116 [.v (.pointer (some a1)), .v (.int .i64 x2), .l 6 0, .l 7 0, .v (.int .i64 x3)] [[.int .i64 x4, .int .i64 x5, .slice A6 n7 c8, .int .i64 x9, .int .i64 x10, .slice A11 n12 c13, .int .i64 x14, .int .i64 x15, .slice A16 n17 c18], [.slice A19 n20 c21]] M =
 bb (decide (x3 < 8))
 (pb (x3 < 0) none
 (bb (Int.tmod (shrI .i64 x2 x3.toNat) 2 == 1)
 (pb (0 ≤ x3 ∧ x3 < (8 : Int))
 (ob (M.st lo (plus a1 x3.toNat) [.bool true]) fun M30 =>
 ob (acall P T k lo F.zoetroperef26_CopyFrame [.agg ⟨[.int .i64 x4, .int .i64 x5, .slice A6 n7 c8, .int .i64 x9, .int .i64 x10, .slice A11 n12 c13, .int .i64 x14, .int .i64 x15, .slice A16 n17 c18]⟩] M30) fun r31 =>
 ob ((some r31.1).bind (Value.agg? 9)) fun l32 =>
 ob ((l32[0]?).bind (Value.int? .i64)) fun x33 =>
 ob ((l32[1]?).bind (Value.int? .i64)) fun x34 =>
 ob ((l32[2]?).bind Value.slc?) fun s35 =>
 ob ((l32[3]?).bind (Value.int? .i64)) fun x36 =>
 ob ((l32[4]?).bind (Value.int? .i64)) fun x37 =>
 ob ((l32[5]?).bind Value.slc?) fun s38 =>
 ob ((l32[6]?).bind (Value.int? .i64)) fun x39 =>
 ob ((l32[7]?).bind (Value.int? .i64)) fun x40 =>
 ob ((l32[8]?).bind Value.slc?) fun s41 =>
 pb (0 ≤ x3 ∧ x3 < (8 : Int))
 (ob (r31.2.st lo (plus (plus a1 8) (x3.toNat * 9)) [.int .i64 x33, .int .i64 x34, .slice s35.a s35.n s35.c, .int .i64 x36, .int .i64 x37, .slice s38.a s38.n s38.c, .int .i64 x39, .int .i64 x40, .slice s41.a s41.n s41.c]) fun M42 =>
 ob (acall P T k lo F.zoetroperef04_Copy [.agg ⟨[.slice A19 n20 c21]⟩] M42) fun r43 =>
 ob ((some r43.1).bind (Value.agg? 1)) fun l44 =>
 ob ((l44[0]?).bind Value.slc?) fun s45 =>
 pb (0 ≤ x3 ∧ x3 < (8 : Int))
 (ob (r43.2.st lo (plus (plus a1 80) x3.toNat) [.slice s45.a s45.n s45.c]) fun M46 =>
 some (zoetroperef26_Pool_Put.c467 a1 x2 x3 x4 x5 A6 n7 c8 x9 x10 A11 n12 c13 x14 x15 A16 n17 c18 A19 n20 c21 M46)) none) none) none)
 (some (zoetroperef26_Pool_Put.c467 a1 x2 x3 x4 x5 A6 n7 c8 x9 x10 A11 n12 c13 x14 x15 A16 n17 c18 A19 n20 c21 M))))
 (some (.ret (.int .i64 0) M)) := by kernel_rfl
theorem zoetroperef26_Pool_Put.p467 (k lo : Nat) (a1 : Addr) (x2 : Int) (x3 : Int) (x4 : Int) (x5 : Int) (A6 : Option Addr) (n7 : Nat) (c8 : Nat) (x9 : Int) (x10 : Int) (A11 : Option Addr) (n12 : Nat) (c13 : Nat) (x14 : Int) (x15 : Int) (A16 : Option Addr) (n17 : Nat) (c18 : Nat) (A19 : Option Addr) (n20 : Nat) (c21 : Nat) (M : Mem) : piece P T k lo F.zoetroperef26_Pool_Put 467 [.v (.pointer (some a1)), .v (.int .i64 x2), .l 6 0, .l 7 0, .v (.int .i64 x3)] [[.int .i64 x4, .int .i64 x5, .slice A6 n7 c8, .int .i64 x9, .int .i64 x10, .slice A11 n12 c13, .int .i64 x14, .int .i64 x15, .slice A16 n17 c18], [.slice A19 n20 c21]] M =
 some (zoetroperef26_Pool_Put.c116 a1 x2 (IntKind.i64.wrap (x3 + 1)) x4 x5 A6 n7 c8 x9 x10 A11 n12 c13 x14 x15 A16 n17 c18 A19 n20 c21 M) := by kernel_rfl
theorem zoetropelaw26_told.entry (k lo : Nat) (a1 : Addr) (a2 : Addr) (x3 : Int) (M : Mem) : entry P T k lo F.zoetropelaw26_told [.pointer (some a1), .pointer (some a2), .int .i64 x3] M =
 ob (acall P T k lo F.pool_Pool_Frame [.pointer (some a1), .int .i64 x3] M) fun r9 =>
 ob (r9.1.tup? 2) fun l10 =>
 ob ((l10[0]?).bind (Value.agg? 9)) fun l11 =>
 ob ((l11[0]?).bind (Value.int? .i64)) fun x12 =>
 ob ((l11[1]?).bind (Value.int? .i64)) fun x13 =>
 ob ((l11[2]?).bind Value.slc?) fun s14 =>
 ob ((l11[3]?).bind (Value.int? .i64)) fun x15 =>
 ob ((l11[4]?).bind (Value.int? .i64)) fun x16 =>
 ob ((l11[5]?).bind Value.slc?) fun s17 =>
 ob ((l11[6]?).bind (Value.int? .i64)) fun x18 =>
 ob ((l11[7]?).bind (Value.int? .i64)) fun x19 =>
 ob ((l11[8]?).bind Value.slc?) fun s20 =>
 ob ((l10[1]?).bind (Value.int? .i64)) fun x21 =>
 ob (acall P T k lo F.zoetroperef26_Pool_Frame [.pointer (some a2), .int .i64 x3] r9.2) fun r22 =>
 ob (r22.1.tup? 2) fun l23 =>
 ob ((l23[0]?).bind (Value.agg? 9)) fun l24 =>
 ob ((l24[0]?).bind (Value.int? .i64)) fun x25 =>
 ob ((l24[1]?).bind (Value.int? .i64)) fun x26 =>
 ob ((l24[2]?).bind Value.slc?) fun s27 =>
 ob ((l24[3]?).bind (Value.int? .i64)) fun x28 =>
 ob ((l24[4]?).bind (Value.int? .i64)) fun x29 =>
 ob ((l24[5]?).bind Value.slc?) fun s30 =>
 ob ((l24[6]?).bind (Value.int? .i64)) fun x31 =>
 ob ((l24[7]?).bind (Value.int? .i64)) fun x32 =>
 ob ((l24[8]?).bind Value.slc?) fun s33 =>
 ob ((l23[1]?).bind (Value.int? .i64)) fun x34 =>
 ob (acall P T k lo F.pool_Pool_Set [.pointer (some a1), .int .i64 x3] r22.2) fun r35 =>
 ob (r35.1.tup? 2) fun l36 =>
 ob ((l36[0]?).bind (Value.agg? 1)) fun l37 =>
 ob ((l37[0]?).bind Value.slc?) fun s38 =>
 ob ((l36[1]?).bind (Value.int? .i64)) fun x39 =>
 ob (acall P T k lo F.zoetroperef26_Pool_Set [.pointer (some a2), .int .i64 x3] r35.2) fun r40 =>
 ob (r40.1.tup? 2) fun l41 =>
 ob ((l41[0]?).bind (Value.agg? 1)) fun l42 =>
 ob ((l42[0]?).bind Value.slc?) fun s43 =>
 ob ((l41[1]?).bind (Value.int? .i64)) fun x44 =>
 bb (x21 == x34)
 (bb (x39 == x44)
 (ob (acall P T k lo F.zoetroperef26_SameFrame [.agg ⟨[.int .i64 x12, .int .i64 x13, .slice s14.a s14.n s14.c, .int .i64 x15, .int .i64 x16, .slice s17.a s17.n s17.c, .int .i64 x18, .int .i64 x19, .slice s20.a s20.n s20.c]⟩, .agg ⟨[.int .i64 x25, .int .i64 x26, .slice s27.a s27.n s27.c, .int .i64 x28, .int .i64 x29, .slice s30.a s30.n s30.c, .int .i64 x31, .int .i64 x32, .slice s33.a s33.n s33.c]⟩] r40.2) fun r45 =>
 ob ((some r45.1).bind Value.bool?) fun b46 =>
 bb b46
 (ob (acall P T k lo F.zoetroperef04_Same [.agg ⟨[.slice s38.a s38.n s38.c]⟩, .agg ⟨[.slice s43.a s43.n s43.c]⟩] r45.2) fun r47 =>
 ob ((some r47.1).bind Value.bool?) fun b48 =>
 bb b48
 (ob (acall P T k lo F.pool_Pool_Has [.pointer (some a1)] r47.2) fun r49 =>
 ob ((some r49.1).bind (Value.int? .i64)) fun x50 =>
 ob (acall P T k lo F.zoetroperef26_Pool_Has [.pointer (some a2)] r49.2) fun r51 =>
 ob ((some r51.1).bind (Value.int? .i64)) fun x52 =>
 some (.ret (.bool (x50 == x52)) r51.2))
 (some (.ret (.bool false) r47.2)))
 (some (.ret (.bool false) r45.2)))
 (some (.ret (.bool false) r40.2)))
 (some (.ret (.bool false) r40.2)) := by kernel_rfl
theorem zoetroperef26_Pool_Copy.entry (k lo : Nat) (a1 : Addr) (M : Mem) : entry P T k lo F.zoetroperef26_Pool_Copy [.pointer (some a1)] M =
 ob (acall P T k lo F.zoetroperef26_New [] M) fun r7 =>
 ob ((some r7.1).bind Value.ptr?) fun p8 =>
 some (zoetroperef26_Pool_Copy.c116 a1 p8 0 r7.2) := by kernel_rfl
theorem zoetroperef26_Pool_Copy.p116 (k lo : Nat) (a1 : Addr) (p2 : Option Addr) (x3 : Int) (M : Mem) : piece P T k lo F.zoetroperef26_Pool_Copy 116 [.v (.pointer (some a1)), .v (.pointer p2), .v (.int .i64 x3)] [] M =
 bb (decide (x3 < 8))
 (pb (0 ≤ x3 ∧ x3 < (8 : Int))
 (ob ((M.ld (plus a1 x3.toNat)).bind Value.bool?) fun b9 =>
 bb b9
 (pb (x3 < 0) none
 (pb (0 ≤ x3 ∧ x3 < (8 : Int))
 (ob ((M.ld (plus (plus a1 8) (x3.toNat * 9))).bind (Value.int? .i64)) fun x10 =>
 ob ((M.ld (plus (plus (plus a1 8) (x3.toNat * 9)) 1)).bind (Value.int? .i64)) fun x11 =>
 ob ((M.ld (plus (plus (plus a1 8) (x3.toNat * 9)) 2)).bind Value.slc?) fun s12 =>
 ob ((M.ld (plus (plus (plus a1 8) (x3.toNat * 9)) 3)).bind (Value.int? .i64)) fun x13 =>
 ob ((M.ld (plus (plus (plus a1 8) (x3.toNat * 9)) 4)).bind (Value.int? .i64)) fun x14 =>
 ob ((M.ld (plus (plus (plus a1 8) (x3.toNat * 9)) 5)).bind Value.slc?) fun s15 =>
 ob ((M.ld (plus (plus (plus a1 8) (x3.toNat * 9)) 6)).bind (Value.int? .i64)) fun x16 =>
 ob ((M.ld (plus (plus (plus a1 8) (x3.toNat * 9)) 7)).bind (Value.int? .i64)) fun x17 =>
 ob ((M.ld (plus (plus (plus a1 8) (x3.toNat * 9)) 8)).bind Value.slc?) fun s18 =>
 pb (0 ≤ x3 ∧ x3 < (8 : Int))
 (ob ((M.ld (plus (plus a1 80) x3.toNat)).bind Value.slc?) fun s19 =>
 ob (acall P T k lo F.zoetroperef26_Pool_Put [.pointer p2, .int .i64 (shlI .i64 (1 : Int) x3.toNat), .agg ⟨[.int .i64 x10, .int .i64 x11, .slice s12.a s12.n s12.c, .int .i64 x13, .int .i64 x14, .slice s15.a s15.n s15.c, .int .i64 x16, .int .i64 x17, .slice s18.a s18.n s18.c]⟩, .agg ⟨[.slice s19.a s19.n s19.c]⟩] M) fun r20 =>
 ob ((some r20.1).bind (Value.int? .i64)) fun x21 =>
 some (zoetroperef26_Pool_Copy.c467 a1 p2 x3 r20.2)) none) none))
 (some (zoetroperef26_Pool_Copy.c467 a1 p2 x3 M))) none)
 (some (.ret (.pointer p2) M)) := by kernel_rfl
theorem zoetroperef26_Pool_Copy.p467 (k lo : Nat) (a1 : Addr) (p2 : Option Addr) (x3 : Int) (M : Mem) : piece P T k lo F.zoetroperef26_Pool_Copy 467 [.v (.pointer (some a1)), .v (.pointer p2), .v (.int .i64 x3)] [] M =
 some (zoetroperef26_Pool_Copy.c116 a1 p2 (IntKind.i64.wrap (x3 + 1)) M) := by kernel_rfl
theorem zoetroperef26_Same.entry (k lo : Nat) (a1 : Addr) (a2 : Addr) (M : Mem) : entry P T k lo F.zoetroperef26_Same [.pointer (some a1), .pointer (some a2)] M =
 some (zoetroperef26_Same.c52 a1 a2 0 M) := by kernel_rfl
theorem zoetroperef26_Same.p52 (k lo : Nat) (a1 : Addr) (a2 : Addr) (x3 : Int) (M : Mem) : piece P T k lo F.zoetroperef26_Same 52 [.v (.pointer (some a1)), .v (.pointer (some a2)), .v (.int .i64 x3)] [] M =
 bb (decide (x3 < 8))
 (pb (0 ≤ x3 ∧ x3 < (8 : Int))
 (ob ((M.ld (plus a1 x3.toNat)).bind Value.bool?) fun b8 =>
 pb (0 ≤ x3 ∧ x3 < (8 : Int))
 (ob ((M.ld (plus a2 x3.toNat)).bind Value.bool?) fun b9 =>
 bb (!(b8 == b9))
 (some (.ret (.bool false) M))
 (pb (0 ≤ x3 ∧ x3 < (8 : Int))
 (ob ((M.ld (plus a1 x3.toNat)).bind Value.bool?) fun b10 =>
 bb b10
 (pb (0 ≤ x3 ∧ x3 < (8 : Int))
 (ob ((M.ld (plus (plus a1 8) (x3.toNat * 9))).bind (Value.int? .i64)) fun x11 =>
 ob ((M.ld (plus (plus (plus a1 8) (x3.toNat * 9)) 1)).bind (Value.int? .i64)) fun x12 =>
 ob ((M.ld (plus (plus (plus a1 8) (x3.toNat * 9)) 2)).bind Value.slc?) fun s13 =>
 ob ((M.ld (plus (plus (plus a1 8) (x3.toNat * 9)) 3)).bind (Value.int? .i64)) fun x14 =>
 ob ((M.ld (plus (plus (plus a1 8) (x3.toNat * 9)) 4)).bind (Value.int? .i64)) fun x15 =>
 ob ((M.ld (plus (plus (plus a1 8) (x3.toNat * 9)) 5)).bind Value.slc?) fun s16 =>
 ob ((M.ld (plus (plus (plus a1 8) (x3.toNat * 9)) 6)).bind (Value.int? .i64)) fun x17 =>
 ob ((M.ld (plus (plus (plus a1 8) (x3.toNat * 9)) 7)).bind (Value.int? .i64)) fun x18 =>
 ob ((M.ld (plus (plus (plus a1 8) (x3.toNat * 9)) 8)).bind Value.slc?) fun s19 =>
 pb (0 ≤ x3 ∧ x3 < (8 : Int))
 (ob ((M.ld (plus (plus a2 8) (x3.toNat * 9))).bind (Value.int? .i64)) fun x20 =>
 ob ((M.ld (plus (plus (plus a2 8) (x3.toNat * 9)) 1)).bind (Value.int? .i64)) fun x21 =>
 ob ((M.ld (plus (plus (plus a2 8) (x3.toNat * 9)) 2)).bind Value.slc?) fun s22 =>
 ob ((M.ld (plus (plus (plus a2 8) (x3.toNat * 9)) 3)).bind (Value.int? .i64)) fun x23 =>
 ob ((M.ld (plus (plus (plus a2 8) (x3.toNat * 9)) 4)).bind (Value.int? .i64)) fun x24 =>
 ob ((M.ld (plus (plus (plus a2 8) (x3.toNat * 9)) 5)).bind Value.slc?) fun s25 =>
 ob ((M.ld (plus (plus (plus a2 8) (x3.toNat * 9)) 6)).bind (Value.int? .i64)) fun x26 =>
 ob ((M.ld (plus (plus (plus a2 8) (x3.toNat * 9)) 7)).bind (Value.int? .i64)) fun x27 =>
 ob ((M.ld (plus (plus (plus a2 8) (x3.toNat * 9)) 8)).bind Value.slc?) fun s28 =>
 ob (acall P T k lo F.zoetroperef26_SameFrame [.agg ⟨[.int .i64 x11, .int .i64 x12, .slice s13.a s13.n s13.c, .int .i64 x14, .int .i64 x15, .slice s16.a s16.n s16.c, .int .i64 x17, .int .i64 x18, .slice s19.a s19.n s19.c]⟩, .agg ⟨[.int .i64 x20, .int .i64 x21, .slice s22.a s22.n s22.c, .int .i64 x23, .int .i64 x24, .slice s25.a s25.n s25.c, .int .i64 x26, .int .i64 x27, .slice s28.a s28.n s28.c]⟩] M) fun r29 =>
 ob ((some r29.1).bind Value.bool?) fun b30 =>
 bb (!b30)
 (some (.ret (.bool false) r29.2))
 (pb (0 ≤ x3 ∧ x3 < (8 : Int))
 (ob ((r29.2.ld (plus (plus a1 80) x3.toNat)).bind Value.slc?) fun s31 =>
 pb (0 ≤ x3 ∧ x3 < (8 : Int))
 (ob ((r29.2.ld (plus (plus a2 80) x3.toNat)).bind Value.slc?) fun s32 =>
 ob (acall P T k lo F.zoetroperef04_Same [.agg ⟨[.slice s31.a s31.n s31.c]⟩, .agg ⟨[.slice s32.a s32.n s32.c]⟩] r29.2) fun r33 =>
 ob ((some r33.1).bind Value.bool?) fun b34 =>
 bb (!b34)
 (some (.ret (.bool false) r33.2))
 (some (zoetroperef26_Same.c52 a1 a2 (IntKind.i64.wrap (x3 + 1)) r33.2))) none) none)) none) none)
 (some (zoetroperef26_Same.c52 a1 a2 (IntKind.i64.wrap (x3 + 1)) M))) none)) none) none)
 (some (.ret (.bool true) M)) := by kernel_rfl
theorem zoetropelaw26_usual.entry (k lo : Nat) (M : Mem) : entry P T k lo F.zoetropelaw26_usual [] M =
 ob (acall P T k lo F.plane_Frame [.int .i64 16, .int .i64 16, .int .u8 7] M) fun r6 =>
 ob (r6.1.tup? 2) fun l7 =>
 ob ((l7[0]?).bind (Value.agg? 9)) fun l8 =>
 ob ((l8[0]?).bind (Value.int? .i64)) fun x9 =>
 ob ((l8[1]?).bind (Value.int? .i64)) fun x10 =>
 ob ((l8[2]?).bind Value.slc?) fun s11 =>
 ob ((l8[3]?).bind (Value.int? .i64)) fun x12 =>
 ob ((l8[4]?).bind (Value.int? .i64)) fun x13 =>
 ob ((l8[5]?).bind Value.slc?) fun s14 =>
 ob ((l8[6]?).bind (Value.int? .i64)) fun x15 =>
 ob ((l8[7]?).bind (Value.int? .i64)) fun x16 =>
 ob ((l8[8]?).bind Value.slc?) fun s17 =>
 ob ((l7[1]?).bind (Value.int? .i64)) fun x18 =>
 ob (acall P T k r6.2.length F.syms_Default [] r6.2) fun r19 =>
 ob ((some r19.1).bind (Value.agg? 1)) fun l20 =>
 ob ((l20[0]?).bind Value.slc?) fun s21 =>
 some (.ret (.tuple ⟨[.agg ⟨[.int .i64 x9, .int .i64 x10, .slice s11.a s11.n s11.c, .int .i64 x12, .int .i64 x13, .slice s14.a s14.n s14.c, .int .i64 x15, .int .i64 x16, .slice s17.a s17.n s17.c]⟩, .agg ⟨[.slice s21.a s21.n s21.c]⟩]⟩) r19.2) := by kernel_rfl
theorem pool_Pool_Set.entry (k lo : Nat) (a1 : Addr) (x2 : Int) (M : Mem) : entry P T k lo F.pool_Pool_Set [.pointer (some a1), .int .i64 x2] M =
 ob (acall P T k lo F.pool_Pool_slot [.pointer (some a1), .int .i64 x2] M) fun r8 =>
 ob (r8.1.tup? 2) fun l9 =>
 ob ((l9[0]?).bind (Value.agg? 11)) fun l10 =>
 ob ((l10[0]?).bind Value.bool?) fun b11 =>
 ob ((l10[1]?).bind (Value.int? .i64)) fun x12 =>
 ob ((l10[2]?).bind (Value.int? .i64)) fun x13 =>
 ob ((l10[3]?).bind Value.slc?) fun s14 =>
 ob ((l10[4]?).bind (Value.int? .i64)) fun x15 =>
 ob ((l10[5]?).bind (Value.int? .i64)) fun x16 =>
 ob ((l10[6]?).bind Value.slc?) fun s17 =>
 ob ((l10[7]?).bind (Value.int? .i64)) fun x18 =>
 ob ((l10[8]?).bind (Value.int? .i64)) fun x19 =>
 ob ((l10[9]?).bind Value.slc?) fun s20 =>
 ob ((l10[10]?).bind Value.slc?) fun s21 =>
 ob ((l9[1]?).bind (Value.int? .i64)) fun x22 =>
 bb (x22 != 0)
 (some (.ret (.tuple ⟨[.agg ⟨[.slice none 0 0]⟩, .int .i64 x22]⟩) r8.2))
 (ob (acall P T k lo F.syms_Copy [.agg ⟨[.slice s21.a s21.n s21.c]⟩] r8.2) fun r23 =>
 ob ((some r23.1).bind (Value.agg? 1)) fun l24 =>
 ob ((l24[0]?).bind Value.slc?) fun s25 =>
 some (.ret (.tuple ⟨[.agg ⟨[.slice s25.a s25.n s25.c]⟩, .int .i64 0]⟩) r23.2)) := by kernel_rfl
theorem plane_Whole.entry (k lo : Nat) (x1 : Int) (x2 : Int) (A3 : Option Addr) (n4 : Nat) (c5 : Nat) (x6 : Int) (x7 : Int) (A8 : Option Addr) (n9 : Nat) (c10 : Nat) (x11 : Int) (x12 : Int) (A13 : Option Addr) (n14 : Nat) (c15 : Nat) (M : Mem) : entry P T k lo F.plane_Whole [.agg ⟨[.int .i64 x1, .int .i64 x2, .slice A3 n4 c5, .int .i64 x6, .int .i64 x7, .slice A8 n9 c10, .int .i64 x11, .int .i64 x12, .slice A13 n14 c15]⟩] M =
 some (plane_Whole.c116 x1 x2 x1 x2 A3 n4 c5 x6 x7 A8 n9 c10 x11 x12 A13 n14 c15 0 M) := by kernel_rfl
theorem plane_Whole.p116 (k lo : Nat) (x1 : Int) (x2 : Int) (x3 : Int) (x4 : Int) (A5 : Option Addr) (n6 : Nat) (c7 : Nat) (x8 : Int) (x9 : Int) (A10 : Option Addr) (n11 : Nat) (c12 : Nat) (x13 : Int) (x14 : Int) (A15 : Option Addr) (n16 : Nat) (c17 : Nat) (x18 : Int) (M : Mem) : piece P T k lo F.plane_Whole 116 [.v (.int .i64 x1), .v (.int .i64 x2), .v (.agg ⟨[.int .i64 x3, .int .i64 x4, .slice A5 n6 c7, .int .i64 x8, .int .i64 x9, .slice A10 n11 c12, .int .i64 x13, .int .i64 x14, .slice A15 n16 c17]⟩), .v (.int .i64 x18)] [] M =
 bb (decide (x18 < 3))
 (pb (0 ≤ x18 ∧ x18 < (3 : Int))
 (ob ((([.int .i64 x3, .int .i64 x4, .slice A5 n6 c7, .int .i64 x8, .int .i64 x9, .slice A10 n11 c12, .int .i64 x13, .int .i64 x14, .slice A15 n16 c17] : List Value)[x18.toNat * 3 + 0]?).bind (Value.int? .i64)) fun x21 =>
 ob ((([.int .i64 x3, .int .i64 x4, .slice A5 n6 c7, .int .i64 x8, .int .i64 x9, .slice A10 n11 c12, .int .i64 x13, .int .i64 x14, .slice A15 n16 c17] : List Value)[x18.toNat * 3 + 1]?).bind (Value.int? .i64)) fun x22 =>
 ob ((([.int .i64 x3, .int .i64 x4, .slice A5 n6 c7, .int .i64 x8, .int .i64 x9, .slice A10 n11 c12, .int .i64 x13, .int .i64 x14, .slice A15 n16 c17] : List Value)[x18.toNat * 3 + 2]?).bind Value.slc?) fun s23 =>
 ob (acall P T k lo F.plane_Check [.agg ⟨[.int .i64 x21, .int .i64 x22, .slice s23.a s23.n s23.c]⟩] M) fun r24 =>
 ob ((some r24.1).bind (Value.int? .i64)) fun x25 =>
 bb (x25 != 0)
 (some (.ret (.int .i64 2) r24.2))
 (ob (acall P T k lo F.plane_sides [.int .i64 x1, .int .i64 x2] r24.2) fun r26 =>
 ob ((some r26.1).bind Value.bool?) fun b27 =>
 bb (!b27)
 (some (.ret (.int .i64 2) r26.2))
 (pb ((minI x18 1) < 0) none
 (bb (x21 != shrI .i64 x1 ((minI x18 1).toNat))
 (some (.ret (.int .i64 2) r26.2))
 (pb ((minI x18 1) < 0) none
 (bb (x22 != shrI .i64 x2 ((minI x18 1).toNat))
 (some (.ret (.int .i64 2) r26.2))
 (some (plane_Whole.c116 x1 x2 x3 x4 A5 n6 c7 x8 x9 A10 n11 c12 x13 x14 A15 n16 c17 (IntKind.i64.wrap (x18 + 1)) r26.2)))))))) none)
 (some (.ret (.int .i64 0) M)) := by kernel_rfl
theorem zoetropelaw26_alike.entry (k lo : Nat) (x1 : Int) (x2 : Int) (A3 : Option Addr) (n4 : Nat) (c5 : Nat) (x6 : Int) (x7 : Int) (A8 : Option Addr) (n9 : Nat) (c10 : Nat) (x11 : Int) (x12 : Int) (A13 : Option Addr) (n14 : Nat) (c15 : Nat) (x16 : Int) (x17 : Int) (A18 : Option Addr) (n19 : Nat) (c20 : Nat) (x21 : Int) (x22 : Int) (A23 : Option Addr) (n24 : Nat) (c25 : Nat) (x26 : Int) (x27 : Int) (A28 : Option Addr) (n29 : Nat) (c30 : Nat) (M : Mem) : entry P T k lo F.zoetropelaw26_alike [.agg ⟨[.int .i64 x1, .int .i64 x2, .slice A3 n4 c5, .int .i64 x6, .int .i64 x7, .slice A8 n9 c10, .int .i64 x11, .int .i64 x12, .slice A13 n14 c15]⟩, .agg ⟨[.int .i64 x16, .int .i64 x17, .slice A18 n19 c20, .int .i64 x21, .int .i64 x22, .slice A23 n24 c25, .int .i64 x26, .int .i64 x27, .slice A28 n29 c30]⟩] M =
 ob (acall P T k lo F.plane_Same [.agg ⟨[.int .i64 x1, .int .i64 x2, .slice A3 n4 c5]⟩, .agg ⟨[.int .i64 x16, .int .i64 x17, .slice A18 n19 c20]⟩] M) fun r36 =>
 ob ((some r36.1).bind Value.bool?) fun b37 =>
 bb b37
 (ob (acall P T k lo F.plane_Same [.agg ⟨[.int .i64 x6, .int .i64 x7, .slice A8 n9 c10]⟩, .agg ⟨[.int .i64 x21, .int .i64 x22, .slice A23 n24 c25]⟩] r36.2) fun r38 =>
 ob ((some r38.1).bind Value.bool?) fun b39 =>
 bb b39
 (ob (acall P T k lo F.plane_Same [.agg ⟨[.int .i64 x11, .int .i64 x12, .slice A13 n14 c15]⟩, .agg ⟨[.int .i64 x26, .int .i64 x27, .slice A28 n29 c30]⟩] r38.2) fun r40 =>
 ob ((some r40.1).bind Value.bool?) fun b41 =>
 some (.ret (.bool b41) r40.2))
 (some (.ret (.bool false) r38.2)))
 (some (.ret (.bool false) r36.2)) := by kernel_rfl
theorem plane_sides.entry (k lo : Nat) (x1 : Int) (x2 : Int) (M : Mem) : entry P T k lo F.plane_sides [.int .i64 x1, .int .i64 x2] M =
 bb (andI .i64 x1 1 == 0)
 (bb (andI .i64 x2 1 == 0)
 (bb (decide ((minI x1 x2) ≥ 16))
 (some (.ret (.bool (decide ((maxI x1 x2) ≤ 256))) M))
 (some (.ret (.bool false) M)))
 (some (.ret (.bool false) M)))
 (some (.ret (.bool false) M)) := by kernel_rfl
theorem plane_New.entry (k lo : Nat) (x1 : Int) (x2 : Int) (x3 : Int) (M : Mem) : entry P T k lo F.plane_New [.int .i64 x1, .int .i64 x2, .int .u8 x3] M =
 ob (acall P T k lo F.plane_sizes [.int .i64 x1, .int .i64 x2] M) fun r9 =>
 ob ((some r9.1).bind Value.bool?) fun b10 =>
 bb (!b10)
 (some (.ret (.tuple ⟨[.agg ⟨[.int .i64 0, .int .i64 0, .slice none 0 0]⟩, .int .i64 2]⟩) r9.2))
 (ob (acall P T k lo F.slices_Repeat__uint8_uint8 [.slice (some ⟨r9.2.length, 0, none⟩) 1 1, .int .i64 (IntKind.i64.wrap (x1 * x2))] (r9.2 ++ [⟨.fx, [.int .u8 x3]⟩] : Mem)) fun r11 =>
 ob ((some r11.1).bind Value.slc?) fun s12 =>
 some (.ret (.tuple ⟨[.agg ⟨[.int .i64 x1, .int .i64 x2, .slice s12.a s12.n s12.c]⟩, .int .i64 0]⟩) r11.2)) := by kernel_rfl
theorem pool_Pool_none.entry (k lo : Nat) (a1 : Addr) (M : Mem) : entry P T k lo F.pool_Pool_none [.pointer (some a1)] M =
 ob ((M.ld a1).bind Value.bool?) fun b7 =>
 some (.ret (.bool (!b7)) M) := by kernel_rfl
end Go.Zt
