/- What the law ChainBrightness needs of the text Eq1. -/
import Derived.Test.YtbbfdebfhgdciaaPEq0
import Derived.KernelRfl
set_option maxRecDepth 100000
set_option maxHeartbeats 4000000
set_option linter.unusedVariables false
namespace Go.Zt
theorem zoetropelaw25_ChainBrightness.entry (k lo : Nat) (x1 : Int) (x2 : Int) (A3 : Option Addr) (n4 : Nat) (c5 : Nat) (x6 : Int) (x7 : Int) (A8 : Option Addr) (n9 : Nat) (c10 : Nat) (x11 : Int) (x12 : Int) (A13 : Option Addr) (n14 : Nat) (c15 : Nat) (b16 : Bool) (x17 : Int) (b18 : Bool) (b19 : Bool) (x20 : Int) (x21 : Int) (x22 : Int) (x23 : Int) (x24 : Int) (x25 : Int) (x26 : Int) (x27 : Int) (x28 : Int) (x29 : Int) (x30 : Int) (x31 : Int) (x32 : Int) (b33 : Bool) (x34 : Int) (x35 : Int) (x36 : Int) (x37 : Int) (x38 : Int) (b39 : Bool) (x40 : Int) (x41 : Int) (A42 : Option Addr) (n43 : Nat) (c44 : Nat) (b45 : Bool) (b46 : Bool) (b47 : Bool) (x48 : Int) (x49 : Int) (A50 : Option Addr) (n51 : Nat) (c52 : Nat) (A53 : Option Addr) (n54 : Nat) (c55 : Nat) (A56 : Option Addr) (n57 : Nat) (c58 : Nat) (x59 : Int) (x60 : Int) (A61 : Option Addr) (n62 : Nat) (c63 : Nat) (A64 : Option Addr) (n65 : Nat) (c66 : Nat) (A67 : Option Addr) (n68 : Nat) (c69 : Nat) (x70 : Int) (x71 : Int) (A72 : Option Addr) (n73 : Nat) (c74 : Nat) (A75 : Option Addr) (n76 : Nat) (c77 : Nat) (A78 : Option Addr) (n79 : Nat) (c80 : Nat) (A81 : Option Addr) (n82 : Nat) (c83 : Nat) (A84 : Option Addr) (n85 : Nat) (c86 : Nat) (A87 : Option Addr) (n88 : Nat) (c89 : Nat) (A90 : Option Addr) (n91 : Nat) (c92 : Nat) (A93 : Option Addr) (n94 : Nat) (c95 : Nat) (A96 : Option Addr) (n97 : Nat) (c98 : Nat) (M : Mem) : entry P T k lo F.zoetropelaw25_ChainBrightness [.agg ⟨[.int .i64 x1, .int .i64 x2, .slice A3 n4 c5, .int .i64 x6, .int .i64 x7, .slice A8 n9 c10, .int .i64 x11, .int .i64 x12, .slice A13 n14 c15]⟩, .agg ⟨[.bool b16, .int .i64 x17, .bool b18, .bool b19, .int .i64 x20, .int .i64 x21, .int .i64 x22, .int .i64 x23, .int .i64 x24, .int .i64 x25, .int .i64 x26, .int .i64 x27, .int .i64 x28, .int .i64 x29, .int .i64 x30, .int .i64 x31, .int .i64 x32, .bool b33, .int .i64 x34, .int .i64 x35, .int .i64 x36, .int .i64 x37, .int .i64 x38, .bool b39, .int .i64 x40, .int .i64 x41, .slice A42 n43 c44, .bool b45, .bool b46, .bool b47, .int .i64 x48, .int .i64 x49, .slice A50 n51 c52, .slice A53 n54 c55, .slice A56 n57 c58, .int .i64 x59, .int .i64 x60, .slice A61 n62 c63, .slice A64 n65 c66, .slice A67 n68 c69, .int .i64 x70, .int .i64 x71, .slice A72 n73 c74, .slice A75 n76 c77, .slice A78 n79 c80, .slice A81 n82 c83, .slice A84 n85 c86, .slice A87 n88 c89, .slice A90 n91 c92, .slice A93 n94 c95]⟩, .slice A96 n97 c98] M =
 ob (acall P T k lo F.zoetropelaw25_works [] M) fun r104 =>
 ob ((some r104.1).bind Value.bool?) fun b105 =>
 bb (!b105)
 (some (.ret (.bool false) r104.2))
 (ob (acall P T k r104.2.length F.zoetropelaw25_copied [.agg ⟨[.int .i64 x48, .int .i64 x49, .slice A50 n51 c52, .slice A53 n54 c55, .slice A56 n57 c58, .int .i64 x59, .int .i64 x60, .slice A61 n62 c63, .slice A64 n65 c66, .slice A67 n68 c69, .int .i64 x70, .int .i64 x71, .slice A72 n73 c74, .slice A75 n76 c77, .slice A78 n79 c80, .slice A81 n82 c83, .slice A84 n85 c86, .slice A87 n88 c89, .slice A90 n91 c92, .slice A93 n94 c95]⟩] r104.2) fun r106 =>
 ob ((some r106.1).bind (Value.agg? 20)) fun l107 =>
 ob ((l107[0]?).bind (Value.int? .i64)) fun x108 =>
 ob ((l107[1]?).bind (Value.int? .i64)) fun x109 =>
 ob ((l107[2]?).bind Value.slc?) fun s110 =>
 ob ((l107[3]?).bind Value.slc?) fun s111 =>
 ob ((l107[4]?).bind Value.slc?) fun s112 =>
 ob ((l107[5]?).bind (Value.int? .i64)) fun x113 =>
 ob ((l107[6]?).bind (Value.int? .i64)) fun x114 =>
 ob ((l107[7]?).bind Value.slc?) fun s115 =>
 ob ((l107[8]?).bind Value.slc?) fun s116 =>
 ob ((l107[9]?).bind Value.slc?) fun s117 =>
 ob ((l107[10]?).bind (Value.int? .i64)) fun x118 =>
 ob ((l107[11]?).bind (Value.int? .i64)) fun x119 =>
 ob ((l107[12]?).bind Value.slc?) fun s120 =>
 ob ((l107[13]?).bind Value.slc?) fun s121 =>
 ob ((l107[14]?).bind Value.slc?) fun s122 =>
 ob ((l107[15]?).bind Value.slc?) fun s123 =>
 ob ((l107[16]?).bind Value.slc?) fun s124 =>
 ob ((l107[17]?).bind Value.slc?) fun s125 =>
 ob ((l107[18]?).bind Value.slc?) fun s126 =>
 ob ((l107[19]?).bind Value.slc?) fun s127 =>
 ob (acall P T k lo F.chain_Run [.agg ⟨[.int .i64 x1, .int .i64 x2, .slice A3 n4 c5, .int .i64 x6, .int .i64 x7, .slice A8 n9 c10, .int .i64 x11, .int .i64 x12, .slice A13 n14 c15]⟩, .agg ⟨[.bool b16, .int .i64 x17, .bool b18, .bool b19, .int .i64 x20, .int .i64 x21, .int .i64 x22, .int .i64 x23, .int .i64 x24, .int .i64 x25, .int .i64 x26, .int .i64 x27, .int .i64 x28, .int .i64 x29, .int .i64 x30, .int .i64 x31, .int .i64 x32, .bool b33, .int .i64 x34, .int .i64 x35, .int .i64 x36, .int .i64 x37, .int .i64 x38, .bool b39, .int .i64 x40, .int .i64 x41, .slice A42 n43 c44, .bool b45, .bool b46, .bool b47]⟩, .agg ⟨[.int .i64 x108, .int .i64 x109, .slice s110.a s110.n s110.c, .slice s111.a s111.n s111.c, .slice s112.a s112.n s112.c, .int .i64 x113, .int .i64 x114, .slice s115.a s115.n s115.c, .slice s116.a s116.n s116.c, .slice s117.a s117.n s117.c, .int .i64 x118, .int .i64 x119, .slice s120.a s120.n s120.c, .slice s121.a s121.n s121.c, .slice s122.a s122.n s122.c, .slice s123.a s123.n s123.c, .slice s124.a s124.n s124.c, .slice s125.a s125.n s125.c, .slice s126.a s126.n s126.c, .slice s127.a s127.n s127.c]⟩] r106.2) fun r128 =>
 ob (r128.1.tup? 2) fun l129 =>
 ob ((l129[0]?).bind (Value.agg? 9)) fun l130 =>
 ob ((l130[0]?).bind (Value.int? .i64)) fun x131 =>
 ob ((l130[1]?).bind (Value.int? .i64)) fun x132 =>
 ob ((l130[2]?).bind Value.slc?) fun s133 =>
 ob ((l130[3]?).bind (Value.int? .i64)) fun x134 =>
 ob ((l130[4]?).bind (Value.int? .i64)) fun x135 =>
 ob ((l130[5]?).bind Value.slc?) fun s136 =>
 ob ((l130[6]?).bind (Value.int? .i64)) fun x137 =>
 ob ((l130[7]?).bind (Value.int? .i64)) fun x138 =>
 ob ((l130[8]?).bind Value.slc?) fun s139 =>
 ob ((l129[1]?).bind (Value.int? .i64)) fun x140 =>
 bb (x140 != 0)
 (some (.ret (.bool (x140 == 2)) r128.2))
 (some (zoetropelaw25_ChainBrightness.c2036 A96 n97 c98 1 x1 x2 A3 n4 c5 x6 x7 A8 n9 c10 x11 x12 A13 n14 c15 b16 x17 b18 b19 x20 x21 x22 x23 x24 x25 x26 x27 x28 x29 x30 x31 x32 b33 x34 x35 x36 x37 x38 b39 x40 x41 A42 n43 c44 b45 b46 b47 x108 x109 s110.a s110.n s110.c s111.a s111.n s111.c s112.a s112.n s112.c x113 x114 s115.a s115.n s115.c s116.a s116.n s116.c s117.a s117.n s117.c x118 x119 s120.a s120.n s120.c s121.a s121.n s121.c s122.a s122.n s122.c s123.a s123.n s123.c s124.a s124.n s124.c s125.a s125.n s125.c s126.a s126.n s126.c s127.a s127.n s127.c x131 x132 s133.a s133.n s133.c x134 x135 s136.a s136.n s136.c x137 x138 s139.a s139.n s139.c ([.int .i64 x1, .int .i64 x2, .slice A3 n4 c5, .int .i64 x6, .int .i64 x7, .slice A8 n9 c10, .int .i64 x11, .int .i64 x12, .slice A13 n14 c15]) r128.2))) := by kernel_rfl
theorem zoetropelaw25_ChainBrightness.p2036 (k lo : Nat) (A1 : Option Addr) (n2 : Nat) (c3 : Nat) (x4 : Int) (x5 : Int) (x6 : Int) (A7 : Option Addr) (n8 : Nat) (c9 : Nat) (x10 : Int) (x11 : Int) (A12 : Option Addr) (n13 : Nat) (c14 : Nat) (x15 : Int) (x16 : Int) (A17 : Option Addr) (n18 : Nat) (c19 : Nat) (b20 : Bool) (x21 : Int) (b22 : Bool) (b23 : Bool) (x24 : Int) (x25 : Int) (x26 : Int) (x27 : Int) (x28 : Int) (x29 : Int) (x30 : Int) (x31 : Int) (x32 : Int) (x33 : Int) (x34 : Int) (x35 : Int) (x36 : Int) (b37 : Bool) (x38 : Int) (x39 : Int) (x40 : Int) (x41 : Int) (x42 : Int) (b43 : Bool) (x44 : Int) (x45 : Int) (A46 : Option Addr) (n47 : Nat) (c48 : Nat) (b49 : Bool) (b50 : Bool) (b51 : Bool) (x52 : Int) (x53 : Int) (A54 : Option Addr) (n55 : Nat) (c56 : Nat) (A57 : Option Addr) (n58 : Nat) (c59 : Nat) (A60 : Option Addr) (n61 : Nat) (c62 : Nat) (x63 : Int) (x64 : Int) (A65 : Option Addr) (n66 : Nat) (c67 : Nat) (A68 : Option Addr) (n69 : Nat) (c70 : Nat) (A71 : Option Addr) (n72 : Nat) (c73 : Nat) (x74 : Int) (x75 : Int) (A76 : Option Addr) (n77 : Nat) (c78 : Nat) (A79 : Option Addr) (n80 : Nat) (c81 : Nat) (A82 : Option Addr) (n83 : Nat) (c84 : Nat) (A85 : Option Addr) (n86 : Nat) (c87 : Nat) (A88 : Option Addr) (n89 : Nat) (c90 : Nat) (A91 : Option Addr) (n92 : Nat) (c93 : Nat) (A94 : Option Addr) (n95 : Nat) (c96 : Nat) (A97 : Option Addr) (n98 : Nat) (c99 : Nat) (x100 : Int) (x101 : Int) (A102 : Option Addr) (n103 : Nat) (c104 : Nat) (x105 : Int) (x106 : Int) (A107 : Option Addr) (n108 : Nat) (c109 : Nat) (x110 : Int) (x111 : Int) (A112 : Option Addr) (n113 : Nat) (c114 : Nat) (cs115 : List Value) (M : Mem) : piece P T k lo F.zoetropelaw25_ChainBrightness 2036 [.v (.slice A1 n2 c3), .l 3 0, .l 7 0, .l 8 0, .l 9 0, .l 11 0, .v (.int .i64 x4)] [[.int .i64 x5, .int .i64 x6, .slice A7 n8 c9, .int .i64 x10, .int .i64 x11, .slice A12 n13 c14, .int .i64 x15, .int .i64 x16, .slice A17 n18 c19], [.bool b20, .int .i64 x21, .bool b22, .bool b23, .int .i64 x24, .int .i64 x25, .int .i64 x26, .int .i64 x27, .int .i64 x28, .int .i64 x29, .int .i64 x30, .int .i64 x31, .int .i64 x32, .int .i64 x33, .int .i64 x34, .int .i64 x35, .int .i64 x36, .bool b37, .int .i64 x38, .int .i64 x39, .int .i64 x40, .int .i64 x41, .int .i64 x42, .bool b43, .int .i64 x44, .int .i64 x45, .slice A46 n47 c48, .bool b49, .bool b50, .bool b51], [.int .i64 x52, .int .i64 x53, .slice A54 n55 c56, .slice A57 n58 c59, .slice A60 n61 c62, .int .i64 x63, .int .i64 x64, .slice A65 n66 c67, .slice A68 n69 c70, .slice A71 n72 c73, .int .i64 x74, .int .i64 x75, .slice A76 n77 c78, .slice A79 n80 c81, .slice A82 n83 c84, .slice A85 n86 c87, .slice A88 n89 c90, .slice A91 n92 c93, .slice A94 n95 c96, .slice A97 n98 c99], [.int .i64 x100, .int .i64 x101, .slice A102 n103 c104, .int .i64 x105, .int .i64 x106, .slice A107 n108 c109, .int .i64 x110, .int .i64 x111, .slice A112 n113 c114], cs115] M =
 bb (decide (x4 < 3))
 (pb (0 ≤ x4 ∧ x4 < (3 : Int))
 (ob ((([.int .i64 x5, .int .i64 x6, .slice A7 n8 c9, .int .i64 x10, .int .i64 x11, .slice A12 n13 c14, .int .i64 x15, .int .i64 x16, .slice A17 n18 c19] : List Value)[0 + (x4.toNat * 3) + 0 + 0]?).bind (Value.int? .i64)) fun x141 =>
 pb (0 ≤ x4 ∧ x4 < (3 : Int))
 (ob ((([.int .i64 x5, .int .i64 x6, .slice A7 n8 c9, .int .i64 x10, .int .i64 x11, .slice A12 n13 c14, .int .i64 x15, .int .i64 x16, .slice A17 n18 c19] : List Value)[0 + (x4.toNat * 3) + 1 + 0]?).bind (Value.int? .i64)) fun x142 =>
 pb (0 ≤ x4 ∧ x4 < (3 : Int))
 (ob ((([.int .i64 x5, .int .i64 x6, .slice A7 n8 c9, .int .i64 x10, .int .i64 x11, .slice A12 n13 c14, .int .i64 x15, .int .i64 x16, .slice A17 n18 c19] : List Value)[0 + (x4.toNat * 3) + 2 + 0]?).bind Value.slc?) fun s143 =>
 ob (acall P T k M.length F.zoetroperef00_CopyBytes [.slice s143.a s143.n s143.c] M) fun r144 =>
 ob ((some r144.1).bind Value.slc?) fun s145 =>
 some (zoetropelaw25_ChainBrightness.c521364 A1 n2 c3 x4 0 x5 x6 A7 n8 c9 x10 x11 A12 n13 c14 x15 x16 A17 n18 c19 b20 x21 b22 b23 x24 x25 x26 x27 x28 x29 x30 x31 x32 x33 x34 x35 x36 b37 x38 x39 x40 x41 x42 b43 x44 x45 A46 n47 c48 b49 b50 b51 x52 x53 A54 n55 c56 A57 n58 c59 A60 n61 c62 x63 x64 A65 n66 c67 A68 n69 c70 A71 n72 c73 x74 x75 A76 n77 c78 A79 n80 c81 A82 n83 c84 A85 n86 c87 A88 n89 c90 A91 n92 c93 A94 n95 c96 A97 n98 c99 x100 x101 A102 n103 c104 x105 x106 A107 n108 c109 x110 x111 A112 n113 c114 cs115 x141 x142 s145.a s145.n s145.c r144.2)) none) none) none)
 (ob ((cs115[0]?).bind (Value.int? .i64)) fun x146 =>
 ob ((cs115[1]?).bind (Value.int? .i64)) fun x147 =>
 ob ((cs115[2]?).bind Value.slc?) fun s148 =>
 ob ((cs115[3]?).bind (Value.int? .i64)) fun x149 =>
 ob ((cs115[4]?).bind (Value.int? .i64)) fun x150 =>
 ob ((cs115[5]?).bind Value.slc?) fun s151 =>
 ob ((cs115[6]?).bind (Value.int? .i64)) fun x152 =>
 ob ((cs115[7]?).bind (Value.int? .i64)) fun x153 =>
 ob ((cs115[8]?).bind Value.slc?) fun s154 =>
 ob (acall P T k lo F.chain_Run [.agg ⟨[.int .i64 x146, .int .i64 x147, .slice s148.a s148.n s148.c, .int .i64 x149, .int .i64 x150, .slice s151.a s151.n s151.c, .int .i64 x152, .int .i64 x153, .slice s154.a s154.n s154.c]⟩, .agg ⟨[.bool b20, .int .i64 x21, .bool b22, .bool b23, .int .i64 x24, .int .i64 x25, .int .i64 x26, .int .i64 x27, .int .i64 x28, .int .i64 x29, .int .i64 x30, .int .i64 x31, .int .i64 x32, .int .i64 x33, .int .i64 x34, .int .i64 x35, .int .i64 x36, .bool b37, .int .i64 x38, .int .i64 x39, .int .i64 x40, .int .i64 x41, .int .i64 x42, .bool b43, .int .i64 x44, .int .i64 x45, .slice A46 n47 c48, .bool b49, .bool b50, .bool b51]⟩, .agg ⟨[.int .i64 x52, .int .i64 x53, .slice A54 n55 c56, .slice A57 n58 c59, .slice A60 n61 c62, .int .i64 x63, .int .i64 x64, .slice A65 n66 c67, .slice A68 n69 c70, .slice A71 n72 c73, .int .i64 x74, .int .i64 x75, .slice A76 n77 c78, .slice A79 n80 c81, .slice A82 n83 c84, .slice A85 n86 c87, .slice A88 n89 c90, .slice A91 n92 c93, .slice A94 n95 c96, .slice A97 n98 c99]⟩] M) fun r155 =>
 ob (r155.1.tup? 2) fun l156 =>
 ob ((l156[0]?).bind (Value.agg? 9)) fun l157 =>
 ob ((l157[0]?).bind (Value.int? .i64)) fun x158 =>
 ob ((l157[1]?).bind (Value.int? .i64)) fun x159 =>
 ob ((l157[2]?).bind Value.slc?) fun s160 =>
 ob ((l157[3]?).bind (Value.int? .i64)) fun x161 =>
 ob ((l157[4]?).bind (Value.int? .i64)) fun x162 =>
 ob ((l157[5]?).bind Value.slc?) fun s163 =>
 ob ((l157[6]?).bind (Value.int? .i64)) fun x164 =>
 ob ((l157[7]?).bind (Value.int? .i64)) fun x165 =>
 ob ((l157[8]?).bind Value.slc?) fun s166 =>
 ob ((l156[1]?).bind (Value.int? .i64)) fun x167 =>
 bb (x167 == 0)
 (ob (acall P T k lo F.plane_Same [.agg ⟨[.int .i64 x100, .int .i64 x101, .slice A102 n103 c104]⟩, .agg ⟨[.int .i64 x158, .int .i64 x159, .slice s160.a s160.n s160.c]⟩] r155.2) fun r168 =>
 ob ((some r168.1).bind Value.bool?) fun b169 =>
 some (.ret (.bool b169) r168.2))
 (some (.ret (.bool false) r155.2))) := by kernel_rfl
theorem zoetropelaw25_ChainBrightness.p521364 (k lo : Nat) (A1 : Option Addr) (n2 : Nat) (c3 : Nat) (x4 : Int) (x5 : Int) (x6 : Int) (x7 : Int) (A8 : Option Addr) (n9 : Nat) (c10 : Nat) (x11 : Int) (x12 : Int) (A13 : Option Addr) (n14 : Nat) (c15 : Nat) (x16 : Int) (x17 : Int) (A18 : Option Addr) (n19 : Nat) (c20 : Nat) (b21 : Bool) (x22 : Int) (b23 : Bool) (b24 : Bool) (x25 : Int) (x26 : Int) (x27 : Int) (x28 : Int) (x29 : Int) (x30 : Int) (x31 : Int) (x32 : Int) (x33 : Int) (x34 : Int) (x35 : Int) (x36 : Int) (x37 : Int) (b38 : Bool) (x39 : Int) (x40 : Int) (x41 : Int) (x42 : Int) (x43 : Int) (b44 : Bool) (x45 : Int) (x46 : Int) (A47 : Option Addr) (n48 : Nat) (c49 : Nat) (b50 : Bool) (b51 : Bool) (b52 : Bool) (x53 : Int) (x54 : Int) (A55 : Option Addr) (n56 : Nat) (c57 : Nat) (A58 : Option Addr) (n59 : Nat) (c60 : Nat) (A61 : Option Addr) (n62 : Nat) (c63 : Nat) (x64 : Int) (x65 : Int) (A66 : Option Addr) (n67 : Nat) (c68 : Nat) (A69 : Option Addr) (n70 : Nat) (c71 : Nat) (A72 : Option Addr) (n73 : Nat) (c74 : Nat) (x75 : Int) (x76 : Int) (A77 : Option Addr) (n78 : Nat) (c79 : Nat) (A80 : Option Addr) (n81 : Nat) (c82 : Nat) (A83 : Option Addr) (n84 : Nat) (c85 : Nat) (A86 : Option Addr) (n87 : Nat) (c88 : Nat) (A89 : Option Addr) (n90 : Nat) (c91 : Nat) (A92 : Option Addr) (n93 : Nat) (c94 : Nat) (A95 : Option Addr) (n96 : Nat) (c97 : Nat) (A98 : Option Addr) (n99 : Nat) (c100 : Nat) (x101 : Int) (x102 : Int) (A103 : Option Addr) (n104 : Nat) (c105 : Nat) (x106 : Int) (x107 : Int) (A108 : Option Addr) (n109 : Nat) (c110 : Nat) (x111 : Int) (x112 : Int) (A113 : Option Addr) (n114 : Nat) (c115 : Nat) (cs116 : List Value) (x117 : Int) (x118 : Int) (A119 : Option Addr) (n120 : Nat) (c121 : Nat) (M : Mem) : piece P T k lo F.zoetropelaw25_ChainBrightness 521364 [.v (.slice A1 n2 c3), .l 3 0, .l 7 0, .l 8 0, .l 9 0, .l 11 0, .v (.int .i64 x4), .l 13 0, .v (.int .i64 x5)] [[.int .i64 x6, .int .i64 x7, .slice A8 n9 c10, .int .i64 x11, .int .i64 x12, .slice A13 n14 c15, .int .i64 x16, .int .i64 x17, .slice A18 n19 c20], [.bool b21, .int .i64 x22, .bool b23, .bool b24, .int .i64 x25, .int .i64 x26, .int .i64 x27, .int .i64 x28, .int .i64 x29, .int .i64 x30, .int .i64 x31, .int .i64 x32, .int .i64 x33, .int .i64 x34, .int .i64 x35, .int .i64 x36, .int .i64 x37, .bool b38, .int .i64 x39, .int .i64 x40, .int .i64 x41, .int .i64 x42, .int .i64 x43, .bool b44, .int .i64 x45, .int .i64 x46, .slice A47 n48 c49, .bool b50, .bool b51, .bool b52], [.int .i64 x53, .int .i64 x54, .slice A55 n56 c57, .slice A58 n59 c60, .slice A61 n62 c63, .int .i64 x64, .int .i64 x65, .slice A66 n67 c68, .slice A69 n70 c71, .slice A72 n73 c74, .int .i64 x75, .int .i64 x76, .slice A77 n78 c79, .slice A80 n81 c82, .slice A83 n84 c85, .slice A86 n87 c88, .slice A89 n90 c91, .slice A92 n93 c94, .slice A95 n96 c97, .slice A98 n99 c100], [.int .i64 x101, .int .i64 x102, .slice A103 n104 c105, .int .i64 x106, .int .i64 x107, .slice A108 n109 c110, .int .i64 x111, .int .i64 x112, .slice A113 n114 c115], cs116, [.int .i64 x117, .int .i64 x118, .slice A119 n120 c121]] M =
 bb (decide (x5 < (n120 : Int)))
 (bb (decide ((n2 : Int) > 0))
 (pb (0 ≤ x5 ∧ x5 < (n120 : Int))
 (ob A119 fun a170 =>
 ob ((M.ld (plus a170 x5.toNat)).bind (Value.int? .u8)) fun x171 =>
 pb ((n2 : Int) = 0) none
 (pb (0 ≤ Int.tmod x5 (n2 : Int) ∧ Int.tmod x5 (n2 : Int) < (n2 : Int))
 (ob A1 fun a172 =>
 ob ((M.ld (plus a172 ((Int.tmod x5 (n2 : Int)).toNat))).bind (Value.int? .u8)) fun x173 =>
 pb (0 ≤ x5 ∧ x5 < (n120 : Int))
 (ob A119 fun a174 =>
 ob (M.st lo (plus a174 x5.toNat) [.int .u8 (IntKind.u8.wrap (x171 + x173))]) fun M175 =>
 some (zoetropelaw25_ChainBrightness.c521364 A1 n2 c3 x4 (IntKind.i64.wrap (x5 + 1)) x6 x7 A8 n9 c10 x11 x12 A13 n14 c15 x16 x17 A18 n19 c20 b21 x22 b23 b24 x25 x26 x27 x28 x29 x30 x31 x32 x33 x34 x35 x36 x37 b38 x39 x40 x41 x42 x43 b44 x45 x46 A47 n48 c49 b50 b51 b52 x53 x54 A55 n56 c57 A58 n59 c60 A61 n62 c63 x64 x65 A66 n67 c68 A69 n70 c71 A72 n73 c74 x75 x76 A77 n78 c79 A80 n81 c82 A83 n84 c85 A86 n87 c88 A89 n90 c91 A92 n93 c94 A95 n96 c97 A98 n99 c100 x101 x102 A103 n104 c105 x106 x107 A108 n109 c110 x111 x112 A113 n114 c115 cs116 x117 x118 A119 n120 c121 M175)) none) none)) none)
 (pb (0 ≤ x4 ∧ x4 < (3 : Int))
 (pb (0 + (x4.toNat * 3) + 3 ≤ cs116.length)
 (some (zoetropelaw25_ChainBrightness.c2085492 A1 n2 c3 x4 0 x6 x7 A8 n9 c10 x11 x12 A13 n14 c15 x16 x17 A18 n19 c20 b21 x22 b23 b24 x25 x26 x27 x28 x29 x30 x31 x32 x33 x34 x35 x36 x37 b38 x39 x40 x41 x42 x43 b44 x45 x46 A47 n48 c49 b50 b51 b52 x53 x54 A55 n56 c57 A58 n59 c60 A61 n62 c63 x64 x65 A66 n67 c68 A69 n70 c71 A72 n73 c74 x75 x76 A77 n78 c79 A80 n81 c82 A83 n84 c85 A86 n87 c88 A89 n90 c91 A92 n93 c94 A95 n96 c97 A98 n99 c100 x101 x102 A103 n104 c105 x106 x107 A108 n109 c110 x111 x112 A113 n114 c115 (setL cs116 (0 + (x4.toNat * 3)) [.int .i64 x117, .int .i64 x118, .slice A119 n120 c121]) M)) none) none))
 (pb (0 ≤ x4 ∧ x4 < (3 : Int))
 (pb (0 + (x4.toNat * 3) + 3 ≤ cs116.length)
 (some (zoetropelaw25_ChainBrightness.c2085492 A1 n2 c3 x4 0 x6 x7 A8 n9 c10 x11 x12 A13 n14 c15 x16 x17 A18 n19 c20 b21 x22 b23 b24 x25 x26 x27 x28 x29 x30 x31 x32 x33 x34 x35 x36 x37 b38 x39 x40 x41 x42 x43 b44 x45 x46 A47 n48 c49 b50 b51 b52 x53 x54 A55 n56 c57 A58 n59 c60 A61 n62 c63 x64 x65 A66 n67 c68 A69 n70 c71 A72 n73 c74 x75 x76 A77 n78 c79 A80 n81 c82 A83 n84 c85 A86 n87 c88 A89 n90 c91 A92 n93 c94 A95 n96 c97 A98 n99 c100 x101 x102 A103 n104 c105 x106 x107 A108 n109 c110 x111 x112 A113 n114 c115 (setL cs116 (0 + (x4.toNat * 3)) [.int .i64 x117, .int .i64 x118, .slice A119 n120 c121]) M)) none) none) := by kernel_rfl
theorem zoetropelaw25_ChainBrightness.p2085492 (k lo : Nat) (A1 : Option Addr) (n2 : Nat) (c3 : Nat) (x4 : Int) (x5 : Int) (x6 : Int) (x7 : Int) (A8 : Option Addr) (n9 : Nat) (c10 : Nat) (x11 : Int) (x12 : Int) (A13 : Option Addr) (n14 : Nat) (c15 : Nat) (x16 : Int) (x17 : Int) (A18 : Option Addr) (n19 : Nat) (c20 : Nat) (b21 : Bool) (x22 : Int) (b23 : Bool) (b24 : Bool) (x25 : Int) (x26 : Int) (x27 : Int) (x28 : Int) (x29 : Int) (x30 : Int) (x31 : Int) (x32 : Int) (x33 : Int) (x34 : Int) (x35 : Int) (x36 : Int) (x37 : Int) (b38 : Bool) (x39 : Int) (x40 : Int) (x41 : Int) (x42 : Int) (x43 : Int) (b44 : Bool) (x45 : Int) (x46 : Int) (A47 : Option Addr) (n48 : Nat) (c49 : Nat) (b50 : Bool) (b51 : Bool) (b52 : Bool) (x53 : Int) (x54 : Int) (A55 : Option Addr) (n56 : Nat) (c57 : Nat) (A58 : Option Addr) (n59 : Nat) (c60 : Nat) (A61 : Option Addr) (n62 : Nat) (c63 : Nat) (x64 : Int) (x65 : Int) (A66 : Option Addr) (n67 : Nat) (c68 : Nat) (A69 : Option Addr) (n70 : Nat) (c71 : Nat) (A72 : Option Addr) (n73 : Nat) (c74 : Nat) (x75 : Int) (x76 : Int) (A77 : Option Addr) (n78 : Nat) (c79 : Nat) (A80 : Option Addr) (n81 : Nat) (c82 : Nat) (A83 : Option Addr) (n84 : Nat) (c85 : Nat) (A86 : Option Addr) (n87 : Nat) (c88 : Nat) (A89 : Option Addr) (n90 : Nat) (c91 : Nat) (A92 : Option Addr) (n93 : Nat) (c94 : Nat) (A95 : Option Addr) (n96 : Nat) (c97 : Nat) (A98 : Option Addr) (n99 : Nat) (c100 : Nat) (x101 : Int) (x102 : Int) (A103 : Option Addr) (n104 : Nat) (c105 : Nat) (x106 : Int) (x107 : Int) (A108 : Option Addr) (n109 : Nat) (c110 : Nat) (x111 : Int) (x112 : Int) (A113 : Option Addr) (n114 : Nat) (c115 : Nat) (cs116 : List Value) (M : Mem) : piece P T k lo F.zoetropelaw25_ChainBrightness 2085492 [.v (.slice A1 n2 c3), .l 3 0, .l 7 0, .l 8 0, .l 9 0, .l 11 0, .v (.int .i64 x4), .v (.int .i64 x5)] [[.int .i64 x6, .int .i64 x7, .slice A8 n9 c10, .int .i64 x11, .int .i64 x12, .slice A13 n14 c15, .int .i64 x16, .int .i64 x17, .slice A18 n19 c20], [.bool b21, .int .i64 x22, .bool b23, .bool b24, .int .i64 x25, .int .i64 x26, .int .i64 x27, .int .i64 x28, .int .i64 x29, .int .i64 x30, .int .i64 x31, .int .i64 x32, .int .i64 x33, .int .i64 x34, .int .i64 x35, .int .i64 x36, .int .i64 x37, .bool b38, .int .i64 x39, .int .i64 x40, .int .i64 x41, .int .i64 x42, .int .i64 x43, .bool b44, .int .i64 x45, .int .i64 x46, .slice A47 n48 c49, .bool b50, .bool b51, .bool b52], [.int .i64 x53, .int .i64 x54, .slice A55 n56 c57, .slice A58 n59 c60, .slice A61 n62 c63, .int .i64 x64, .int .i64 x65, .slice A66 n67 c68, .slice A69 n70 c71, .slice A72 n73 c74, .int .i64 x75, .int .i64 x76, .slice A77 n78 c79, .slice A80 n81 c82, .slice A83 n84 c85, .slice A86 n87 c88, .slice A89 n90 c91, .slice A92 n93 c94, .slice A95 n96 c97, .slice A98 n99 c100], [.int .i64 x101, .int .i64 x102, .slice A103 n104 c105, .int .i64 x106, .int .i64 x107, .slice A108 n109 c110, .int .i64 x111, .int .i64 x112, .slice A113 n114 c115], cs116] M =
 pb (0 ≤ x4 ∧ x4 < (3 : Int))
 (ob ((([.int .i64 x53, .int .i64 x54, .slice A55 n56 c57, .slice A58 n59 c60, .slice A61 n62 c63, .int .i64 x64, .int .i64 x65, .slice A66 n67 c68, .slice A69 n70 c71, .slice A72 n73 c74, .int .i64 x75, .int .i64 x76, .slice A77 n78 c79, .slice A80 n81 c82, .slice A83 n84 c85, .slice A86 n87 c88, .slice A89 n90 c91, .slice A92 n93 c94, .slice A95 n96 c97, .slice A98 n99 c100] : List Value)[0 + (x4.toNat * 5) + 4 + 0]?).bind Value.slc?) fun s176 =>
 bb (decide (x5 < (s176.n : Int)))
 (pb (0 ≤ x4 ∧ x4 < (3 : Int))
 (ob ((([.int .i64 x53, .int .i64 x54, .slice A55 n56 c57, .slice A58 n59 c60, .slice A61 n62 c63, .int .i64 x64, .int .i64 x65, .slice A66 n67 c68, .slice A69 n70 c71, .slice A72 n73 c74, .int .i64 x75, .int .i64 x76, .slice A77 n78 c79, .slice A80 n81 c82, .slice A83 n84 c85, .slice A86 n87 c88, .slice A89 n90 c91, .slice A92 n93 c94, .slice A95 n96 c97, .slice A98 n99 c100] : List Value)[0 + (x4.toNat * 5) + 4 + 0]?).bind Value.slc?) fun s177 =>
 pb (0 ≤ x4 ∧ x4 < (3 : Int))
 (ob ((([.int .i64 x53, .int .i64 x54, .slice A55 n56 c57, .slice A58 n59 c60, .slice A61 n62 c63, .int .i64 x64, .int .i64 x65, .slice A66 n67 c68, .slice A69 n70 c71, .slice A72 n73 c74, .int .i64 x75, .int .i64 x76, .slice A77 n78 c79, .slice A80 n81 c82, .slice A83 n84 c85, .slice A86 n87 c88, .slice A89 n90 c91, .slice A92 n93 c94, .slice A95 n96 c97, .slice A98 n99 c100] : List Value)[0 + (x4.toNat * 5) + 4 + 0]?).bind Value.slc?) fun s178 =>
 pb (0 ≤ x5 ∧ x5 < (s178.n : Int))
 (ob s178.a fun a179 =>
 ob ((M.ld (plus a179 x5.toNat)).bind Value.bool?) fun b180 =>
 pb (0 ≤ x5 ∧ x5 < (s177.n : Int))
 (ob s177.a fun a181 =>
 ob (M.st lo (plus a181 x5.toNat) [.bool (!b180)]) fun M182 =>
 some (zoetropelaw25_ChainBrightness.c2085492 A1 n2 c3 x4 (IntKind.i64.wrap (x5 + 1)) x6 x7 A8 n9 c10 x11 x12 A13 n14 c15 x16 x17 A18 n19 c20 b21 x22 b23 b24 x25 x26 x27 x28 x29 x30 x31 x32 x33 x34 x35 x36 x37 b38 x39 x40 x41 x42 x43 b44 x45 x46 A47 n48 c49 b50 b51 b52 x53 x54 A55 n56 c57 A58 n59 c60 A61 n62 c63 x64 x65 A66 n67 c68 A69 n70 c71 A72 n73 c74 x75 x76 A77 n78 c79 A80 n81 c82 A83 n84 c85 A86 n87 c88 A89 n90 c91 A92 n93 c94 A95 n96 c97 A98 n99 c100 x101 x102 A103 n104 c105 x106 x107 A108 n109 c110 x111 x112 A113 n114 c115 cs116 M182)) none) none) none) none)
 (some (zoetropelaw25_ChainBrightness.c2085500 A1 n2 c3 x4 0 x6 x7 A8 n9 c10 x11 x12 A13 n14 c15 x16 x17 A18 n19 c20 b21 x22 b23 b24 x25 x26 x27 x28 x29 x30 x31 x32 x33 x34 x35 x36 x37 b38 x39 x40 x41 x42 x43 b44 x45 x46 A47 n48 c49 b50 b51 b52 x53 x54 A55 n56 c57 A58 n59 c60 A61 n62 c63 x64 x65 A66 n67 c68 A69 n70 c71 A72 n73 c74 x75 x76 A77 n78 c79 A80 n81 c82 A83 n84 c85 A86 n87 c88 A89 n90 c91 A92 n93 c94 A95 n96 c97 A98 n99 c100 x101 x102 A103 n104 c105 x106 x107 A108 n109 c110 x111 x112 A113 n114 c115 cs116 M))) none := by kernel_rfl
theorem zoetropelaw25_ChainBrightness.p2085500 (k lo : Nat) (A1 : Option Addr) (n2 : Nat) (c3 : Nat) (x4 : Int) (x5 : Int) (x6 : Int) (x7 : Int) (A8 : Option Addr) (n9 : Nat) (c10 : Nat) (x11 : Int) (x12 : Int) (A13 : Option Addr) (n14 : Nat) (c15 : Nat) (x16 : Int) (x17 : Int) (A18 : Option Addr) (n19 : Nat) (c20 : Nat) (b21 : Bool) (x22 : Int) (b23 : Bool) (b24 : Bool) (x25 : Int) (x26 : Int) (x27 : Int) (x28 : Int) (x29 : Int) (x30 : Int) (x31 : Int) (x32 : Int) (x33 : Int) (x34 : Int) (x35 : Int) (x36 : Int) (x37 : Int) (b38 : Bool) (x39 : Int) (x40 : Int) (x41 : Int) (x42 : Int) (x43 : Int) (b44 : Bool) (x45 : Int) (x46 : Int) (A47 : Option Addr) (n48 : Nat) (c49 : Nat) (b50 : Bool) (b51 : Bool) (b52 : Bool) (x53 : Int) (x54 : Int) (A55 : Option Addr) (n56 : Nat) (c57 : Nat) (A58 : Option Addr) (n59 : Nat) (c60 : Nat) (A61 : Option Addr) (n62 : Nat) (c63 : Nat) (x64 : Int) (x65 : Int) (A66 : Option Addr) (n67 : Nat) (c68 : Nat) (A69 : Option Addr) (n70 : Nat) (c71 : Nat) (A72 : Option Addr) (n73 : Nat) (c74 : Nat) (x75 : Int) (x76 : Int) (A77 : Option Addr) (n78 : Nat) (c79 : Nat) (A80 : Option Addr) (n81 : Nat) (c82 : Nat) (A83 : Option Addr) (n84 : Nat) (c85 : Nat) (A86 : Option Addr) (n87 : Nat) (c88 : Nat) (A89 : Option Addr) (n90 : Nat) (c91 : Nat) (A92 : Option Addr) (n93 : Nat) (c94 : Nat) (A95 : Option Addr) (n96 : Nat) (c97 : Nat) (A98 : Option Addr) (n99 : Nat) (c100 : Nat) (x101 : Int) (x102 : Int) (A103 : Option Addr) (n104 : Nat) (c105 : Nat) (x106 : Int) (x107 : Int) (A108 : Option Addr) (n109 : Nat) (c110 : Nat) (x111 : Int) (x112 : Int) (A113 : Option Addr) (n114 : Nat) (c115 : Nat) (cs116 : List Value) (M : Mem) : piece P T k lo F.zoetropelaw25_ChainBrightness 2085500 [.v (.slice A1 n2 c3), .l 3 0, .l 7 0, .l 8 0, .l 9 0, .l 11 0, .v (.int .i64 x4), .v (.int .i64 x5)] [[.int .i64 x6, .int .i64 x7, .slice A8 n9 c10, .int .i64 x11, .int .i64 x12, .slice A13 n14 c15, .int .i64 x16, .int .i64 x17, .slice A18 n19 c20], [.bool b21, .int .i64 x22, .bool b23, .bool b24, .int .i64 x25, .int .i64 x26, .int .i64 x27, .int .i64 x28, .int .i64 x29, .int .i64 x30, .int .i64 x31, .int .i64 x32, .int .i64 x33, .int .i64 x34, .int .i64 x35, .int .i64 x36, .int .i64 x37, .bool b38, .int .i64 x39, .int .i64 x40, .int .i64 x41, .int .i64 x42, .int .i64 x43, .bool b44, .int .i64 x45, .int .i64 x46, .slice A47 n48 c49, .bool b50, .bool b51, .bool b52], [.int .i64 x53, .int .i64 x54, .slice A55 n56 c57, .slice A58 n59 c60, .slice A61 n62 c63, .int .i64 x64, .int .i64 x65, .slice A66 n67 c68, .slice A69 n70 c71, .slice A72 n73 c74, .int .i64 x75, .int .i64 x76, .slice A77 n78 c79, .slice A80 n81 c82, .slice A83 n84 c85, .slice A86 n87 c88, .slice A89 n90 c91, .slice A92 n93 c94, .slice A95 n96 c97, .slice A98 n99 c100], [.int .i64 x101, .int .i64 x102, .slice A103 n104 c105, .int .i64 x106, .int .i64 x107, .slice A108 n109 c110, .int .i64 x111, .int .i64 x112, .slice A113 n114 c115], cs116] M =
 pb (0 ≤ x4 ∧ x4 < (3 : Int))
 (ob ((([.int .i64 x53, .int .i64 x54, .slice A55 n56 c57, .slice A58 n59 c60, .slice A61 n62 c63, .int .i64 x64, .int .i64 x65, .slice A66 n67 c68, .slice A69 n70 c71, .slice A72 n73 c74, .int .i64 x75, .int .i64 x76, .slice A77 n78 c79, .slice A80 n81 c82, .slice A83 n84 c85, .slice A86 n87 c88, .slice A89 n90 c91, .slice A92 n93 c94, .slice A95 n96 c97, .slice A98 n99 c100] : List Value)[17 + x4.toNat + 0]?).bind Value.slc?) fun s183 =>
 bb (decide (x5 < (s183.n : Int)))
 (pb (0 ≤ x4 ∧ x4 < (3 : Int))
 (ob ((([.int .i64 x53, .int .i64 x54, .slice A55 n56 c57, .slice A58 n59 c60, .slice A61 n62 c63, .int .i64 x64, .int .i64 x65, .slice A66 n67 c68, .slice A69 n70 c71, .slice A72 n73 c74, .int .i64 x75, .int .i64 x76, .slice A77 n78 c79, .slice A80 n81 c82, .slice A83 n84 c85, .slice A86 n87 c88, .slice A89 n90 c91, .slice A92 n93 c94, .slice A95 n96 c97, .slice A98 n99 c100] : List Value)[17 + x4.toNat + 0]?).bind Value.slc?) fun s184 =>
 pb (0 ≤ x5 ∧ x5 < (s184.n : Int))
 (ob s184.a fun a185 =>
 ob (M.st lo (plus a185 (x5.toNat * 7)) [.bool false, .int .i64 0, .int .i64 0, .int .i64 0, .int .i64 0, .int .i64 0, .int .i64 0]) fun M186 =>
 some (zoetropelaw25_ChainBrightness.c2085500 A1 n2 c3 x4 (IntKind.i64.wrap (x5 + 1)) x6 x7 A8 n9 c10 x11 x12 A13 n14 c15 x16 x17 A18 n19 c20 b21 x22 b23 b24 x25 x26 x27 x28 x29 x30 x31 x32 x33 x34 x35 x36 x37 b38 x39 x40 x41 x42 x43 b44 x45 x46 A47 n48 c49 b50 b51 b52 x53 x54 A55 n56 c57 A58 n59 c60 A61 n62 c63 x64 x65 A66 n67 c68 A69 n70 c71 A72 n73 c74 x75 x76 A77 n78 c79 A80 n81 c82 A83 n84 c85 A86 n87 c88 A89 n90 c91 A92 n93 c94 A95 n96 c97 A98 n99 c100 x101 x102 A103 n104 c105 x106 x107 A108 n109 c110 x111 x112 A113 n114 c115 cs116 M186)) none) none)
 (some (zoetropelaw25_ChainBrightness.c2036 A1 n2 c3 (IntKind.i64.wrap (x4 + 1)) x6 x7 A8 n9 c10 x11 x12 A13 n14 c15 x16 x17 A18 n19 c20 b21 x22 b23 b24 x25 x26 x27 x28 x29 x30 x31 x32 x33 x34 x35 x36 x37 b38 x39 x40 x41 x42 x43 b44 x45 x46 A47 n48 c49 b50 b51 b52 x53 x54 A55 n56 c57 A58 n59 c60 A61 n62 c63 x64 x65 A66 n67 c68 A69 n70 c71 A72 n73 c74 x75 x76 A77 n78 c79 A80 n81 c82 A83 n84 c85 A86 n87 c88 A89 n90 c91 A92 n93 c94 A95 n96 c97 A98 n99 c100 x101 x102 A103 n104 c105 x106 x107 A108 n109 c110 x111 x112 A113 n114 c115 cs116 M))) none := by kernel_rfl
theorem zoetropelaw25_works.entry (k lo : Nat) (M : Mem) : entry P T k lo F.zoetropelaw25_works [] M =
 ob (acall P T k lo F.zoetropelaw25_step [] M) fun r6 =>
 ob ((some r6.1).bind (Value.agg? 9)) fun l7 =>
 ob ((l7[0]?).bind (Value.int? .i64)) fun x8 =>
 ob ((l7[1]?).bind (Value.int? .i64)) fun x9 =>
 ob ((l7[2]?).bind Value.slc?) fun s10 =>
 ob ((l7[3]?).bind (Value.int? .i64)) fun x11 =>
 ob ((l7[4]?).bind (Value.int? .i64)) fun x12 =>
 ob ((l7[5]?).bind Value.slc?) fun s13 =>
 ob ((l7[6]?).bind (Value.int? .i64)) fun x14 =>
 ob ((l7[7]?).bind (Value.int? .i64)) fun x15 =>
 ob ((l7[8]?).bind Value.slc?) fun s16 =>
 ob (acall P T k lo F.zoetropelaw25_bare [.int .i64 16, .int .i64 16, .int .u8 8] r6.2) fun r17 =>
 ob ((some r17.1).bind (Value.agg? 20)) fun l18 =>
 ob ((l18[0]?).bind (Value.int? .i64)) fun x19 =>
 ob ((l18[1]?).bind (Value.int? .i64)) fun x20 =>
 ob ((l18[2]?).bind Value.slc?) fun s21 =>
 ob ((l18[3]?).bind Value.slc?) fun s22 =>
 ob ((l18[4]?).bind Value.slc?) fun s23 =>
 ob ((l18[5]?).bind (Value.int? .i64)) fun x24 =>
 ob ((l18[6]?).bind (Value.int? .i64)) fun x25 =>
 ob ((l18[7]?).bind Value.slc?) fun s26 =>
 ob ((l18[8]?).bind Value.slc?) fun s27 =>
 ob ((l18[9]?).bind Value.slc?) fun s28 =>
 ob ((l18[10]?).bind (Value.int? .i64)) fun x29 =>
 ob ((l18[11]?).bind (Value.int? .i64)) fun x30 =>
 ob ((l18[12]?).bind Value.slc?) fun s31 =>
 ob ((l18[13]?).bind Value.slc?) fun s32 =>
 ob ((l18[14]?).bind Value.slc?) fun s33 =>
 ob ((l18[15]?).bind Value.slc?) fun s34 =>
 ob ((l18[16]?).bind Value.slc?) fun s35 =>
 ob ((l18[17]?).bind Value.slc?) fun s36 =>
 ob ((l18[18]?).bind Value.slc?) fun s37 =>
 ob ((l18[19]?).bind Value.slc?) fun s38 =>
 ob (acall P T k lo F.chain_Run [.agg ⟨[.int .i64 x8, .int .i64 x9, .slice s10.a s10.n s10.c, .int .i64 x11, .int .i64 x12, .slice s13.a s13.n s13.c, .int .i64 x14, .int .i64 x15, .slice s16.a s16.n s16.c]⟩, .agg ⟨[.bool false, .int .i64 0, .bool false, .bool false, .int .i64 0, .int .i64 0, .int .i64 0, .int .i64 0, .int .i64 0, .int .i64 1, .int .i64 0, .int .i64 0, .int .i64 0, .int .i64 0, .int .i64 0, .int .i64 0, .int .i64 0, .bool false, .int .i64 32, .int .i64 0, .int .i64 0, .int .i64 0, .int .i64 0, .bool false, .int .i64 0, .int .i64 0, .slice none 0 0, .bool false, .bool false, .bool false]⟩, .agg ⟨[.int .i64 x19, .int .i64 x20, .slice s21.a s21.n s21.c, .slice s22.a s22.n s22.c, .slice s23.a s23.n s23.c, .int .i64 x24, .int .i64 x25, .slice s26.a s26.n s26.c, .slice s27.a s27.n s27.c, .slice s28.a s28.n s28.c, .int .i64 x29, .int .i64 x30, .slice s31.a s31.n s31.c, .slice s32.a s32.n s32.c, .slice s33.a s33.n s33.c, .slice s34.a s34.n s34.c, .slice s35.a s35.n s35.c, .slice s36.a s36.n s36.c, .slice s37.a s37.n s37.c, .slice s38.a s38.n s38.c]⟩] r17.2) fun r39 =>
 ob (r39.1.tup? 2) fun l40 =>
 ob ((l40[0]?).bind (Value.agg? 9)) fun l41 =>
 ob ((l41[0]?).bind (Value.int? .i64)) fun x42 =>
 ob ((l41[1]?).bind (Value.int? .i64)) fun x43 =>
 ob ((l41[2]?).bind Value.slc?) fun s44 =>
 ob ((l41[3]?).bind (Value.int? .i64)) fun x45 =>
 ob ((l41[4]?).bind (Value.int? .i64)) fun x46 =>
 ob ((l41[5]?).bind Value.slc?) fun s47 =>
 ob ((l41[6]?).bind (Value.int? .i64)) fun x48 =>
 ob ((l41[7]?).bind (Value.int? .i64)) fun x49 =>
 ob ((l41[8]?).bind Value.slc?) fun s50 =>
 ob ((l40[1]?).bind (Value.int? .i64)) fun x51 =>
 bb (x51 != 0)
 (some (.ret (.bool false) r39.2))
 (bb ((s44.n : Int) != 256)
 (some (.ret (.bool false) r39.2))
 (pb (0 ≤ (80 : Int) ∧ (80 : Int) < (s44.n : Int))
 (ob s44.a fun a52 =>
 ob ((r39.2.ld (plus a52 80)).bind (Value.int? .u8)) fun x53 =>
 bb (x53 == 100)
 (pb (0 ≤ (95 : Int) ∧ (95 : Int) < (s44.n : Int))
 (ob s44.a fun a54 =>
 ob ((r39.2.ld (plus a54 95)).bind (Value.int? .u8)) fun x55 =>
 bb (x55 == 104)
 (pb (0 ≤ (87 : Int) ∧ (87 : Int) < (s44.n : Int))
 (ob s44.a fun a56 =>
 ob ((r39.2.ld (plus a56 87)).bind (Value.int? .u8)) fun x57 =>
 bb (decide (x57 > 100))
 (pb (0 ≤ (88 : Int) ∧ (88 : Int) < (s44.n : Int))
 (ob s44.a fun a58 =>
 ob ((r39.2.ld (plus a58 88)).bind (Value.int? .u8)) fun x59 =>
 bb (decide (x59 < 104))
 (pb (0 ≤ (0 : Int) ∧ (0 : Int) < (s47.n : Int))
 (ob s47.a fun a60 =>
 ob ((r39.2.ld a60).bind (Value.int? .u8)) fun x61 =>
 some (.ret (.bool (x61 == 50)) r39.2)) none)
 (some (.ret (.bool false) r39.2))) none)
 (some (.ret (.bool false) r39.2))) none)
 (some (.ret (.bool false) r39.2))) none)
 (some (.ret (.bool false) r39.2))) none)) := by kernel_rfl
theorem zoetropelaw25_copied.entry (k lo : Nat) (x1 : Int) (x2 : Int) (A3 : Option Addr) (n4 : Nat) (c5 : Nat) (A6 : Option Addr) (n7 : Nat) (c8 : Nat) (A9 : Option Addr) (n10 : Nat) (c11 : Nat) (x12 : Int) (x13 : Int) (A14 : Option Addr) (n15 : Nat) (c16 : Nat) (A17 : Option Addr) (n18 : Nat) (c19 : Nat) (A20 : Option Addr) (n21 : Nat) (c22 : Nat) (x23 : Int) (x24 : Int) (A25 : Option Addr) (n26 : Nat) (c27 : Nat) (A28 : Option Addr) (n29 : Nat) (c30 : Nat) (A31 : Option Addr) (n32 : Nat) (c33 : Nat) (A34 : Option Addr) (n35 : Nat) (c36 : Nat) (A37 : Option Addr) (n38 : Nat) (c39 : Nat) (A40 : Option Addr) (n41 : Nat) (c42 : Nat) (A43 : Option Addr) (n44 : Nat) (c45 : Nat) (A46 : Option Addr) (n47 : Nat) (c48 : Nat) (M : Mem) : entry P T k lo F.zoetropelaw25_copied [.agg ⟨[.int .i64 x1, .int .i64 x2, .slice A3 n4 c5, .slice A6 n7 c8, .slice A9 n10 c11, .int .i64 x12, .int .i64 x13, .slice A14 n15 c16, .slice A17 n18 c19, .slice A20 n21 c22, .int .i64 x23, .int .i64 x24, .slice A25 n26 c27, .slice A28 n29 c30, .slice A31 n32 c33, .slice A34 n35 c36, .slice A37 n38 c39, .slice A40 n41 c42, .slice A43 n44 c45, .slice A46 n47 c48]⟩] M =
 some (zoetropelaw25_copied.c116 0 x1 x2 A3 n4 c5 A6 n7 c8 A9 n10 c11 x12 x13 A14 n15 c16 A17 n18 c19 A20 n21 c22 x23 x24 A25 n26 c27 A28 n29 c30 A31 n32 c33 A34 n35 c36 A37 n38 c39 A40 n41 c42 A43 n44 c45 A46 n47 c48 0 0 none 0 0 none 0 0 none 0 0 0 0 none 0 0 none 0 0 none 0 0 0 0 none 0 0 none 0 0 none 0 0 none 0 0 none 0 0 none 0 0 none 0 0 none 0 0 ([.int .i64 0, .int .i64 0, .slice none 0 0, .slice none 0 0, .slice none 0 0, .int .i64 0, .int .i64 0, .slice none 0 0, .slice none 0 0, .slice none 0 0, .int .i64 0, .int .i64 0, .slice none 0 0, .slice none 0 0, .slice none 0 0, .slice none 0 0, .slice none 0 0, .slice none 0 0, .slice none 0 0, .slice none 0 0]) M) := by kernel_rfl
theorem zoetropelaw25_copied.p116 (k lo : Nat) (x1 : Int) (x2 : Int) (x3 : Int) (A4 : Option Addr) (n5 : Nat) (c6 : Nat) (A7 : Option Addr) (n8 : Nat) (c9 : Nat) (A10 : Option Addr) (n11 : Nat) (c12 : Nat) (x13 : Int) (x14 : Int) (A15 : Option Addr) (n16 : Nat) (c17 : Nat) (A18 : Option Addr) (n19 : Nat) (c20 : Nat) (A21 : Option Addr) (n22 : Nat) (c23 : Nat) (x24 : Int) (x25 : Int) (A26 : Option Addr) (n27 : Nat) (c28 : Nat) (A29 : Option Addr) (n30 : Nat) (c31 : Nat) (A32 : Option Addr) (n33 : Nat) (c34 : Nat) (A35 : Option Addr) (n36 : Nat) (c37 : Nat) (A38 : Option Addr) (n39 : Nat) (c40 : Nat) (A41 : Option Addr) (n42 : Nat) (c43 : Nat) (A44 : Option Addr) (n45 : Nat) (c46 : Nat) (A47 : Option Addr) (n48 : Nat) (c49 : Nat) (x50 : Int) (x51 : Int) (A52 : Option Addr) (n53 : Nat) (c54 : Nat) (A55 : Option Addr) (n56 : Nat) (c57 : Nat) (A58 : Option Addr) (n59 : Nat) (c60 : Nat) (x61 : Int) (x62 : Int) (A63 : Option Addr) (n64 : Nat) (c65 : Nat) (A66 : Option Addr) (n67 : Nat) (c68 : Nat) (A69 : Option Addr) (n70 : Nat) (c71 : Nat) (x72 : Int) (x73 : Int) (A74 : Option Addr) (n75 : Nat) (c76 : Nat) (A77 : Option Addr) (n78 : Nat) (c79 : Nat) (A80 : Option Addr) (n81 : Nat) (c82 : Nat) (A83 : Option Addr) (n84 : Nat) (c85 : Nat) (A86 : Option Addr) (n87 : Nat) (c88 : Nat) (A89 : Option Addr) (n90 : Nat) (c91 : Nat) (A92 : Option Addr) (n93 : Nat) (c94 : Nat) (A95 : Option Addr) (n96 : Nat) (c97 : Nat) (cs98 : List Value) (M : Mem) : piece P T k lo F.zoetropelaw25_copied 116 [.l 1 0, .l 2 0, .l 3 0, .v (.int .i64 x1)] [[.int .i64 x2, .int .i64 x3, .slice A4 n5 c6, .slice A7 n8 c9, .slice A10 n11 c12, .int .i64 x13, .int .i64 x14, .slice A15 n16 c17, .slice A18 n19 c20, .slice A21 n22 c23, .int .i64 x24, .int .i64 x25, .slice A26 n27 c28, .slice A29 n30 c31, .slice A32 n33 c34, .slice A35 n36 c37, .slice A38 n39 c40, .slice A41 n42 c43, .slice A44 n45 c46, .slice A47 n48 c49], [.int .i64 x50, .int .i64 x51, .slice A52 n53 c54, .slice A55 n56 c57, .slice A58 n59 c60, .int .i64 x61, .int .i64 x62, .slice A63 n64 c65, .slice A66 n67 c68, .slice A69 n70 c71, .int .i64 x72, .int .i64 x73, .slice A74 n75 c76, .slice A77 n78 c79, .slice A80 n81 c82, .slice A83 n84 c85, .slice A86 n87 c88, .slice A89 n90 c91, .slice A92 n93 c94, .slice A95 n96 c97], cs98] M =
 bb (decide (x1 < 3))
 (pb (0 ≤ x1 ∧ x1 < (3 : Int))
 (ob ((([.int .i64 x2, .int .i64 x3, .slice A4 n5 c6, .slice A7 n8 c9, .slice A10 n11 c12, .int .i64 x13, .int .i64 x14, .slice A15 n16 c17, .slice A18 n19 c20, .slice A21 n22 c23, .int .i64 x24, .int .i64 x25, .slice A26 n27 c28, .slice A29 n30 c31, .slice A32 n33 c34, .slice A35 n36 c37, .slice A38 n39 c40, .slice A41 n42 c43, .slice A44 n45 c46, .slice A47 n48 c49] : List Value)[0 + (x1.toNat * 5) + 0]?).bind (Value.int? .i64)) fun x99 =>
 ob ((([.int .i64 x2, .int .i64 x3, .slice A4 n5 c6, .slice A7 n8 c9, .slice A10 n11 c12, .int .i64 x13, .int .i64 x14, .slice A15 n16 c17, .slice A18 n19 c20, .slice A21 n22 c23, .int .i64 x24, .int .i64 x25, .slice A26 n27 c28, .slice A29 n30 c31, .slice A32 n33 c34, .slice A35 n36 c37, .slice A38 n39 c40, .slice A41 n42 c43, .slice A44 n45 c46, .slice A47 n48 c49] : List Value)[0 + (x1.toNat * 5) + 1]?).bind (Value.int? .i64)) fun x100 =>
 ob ((([.int .i64 x2, .int .i64 x3, .slice A4 n5 c6, .slice A7 n8 c9, .slice A10 n11 c12, .int .i64 x13, .int .i64 x14, .slice A15 n16 c17, .slice A18 n19 c20, .slice A21 n22 c23, .int .i64 x24, .int .i64 x25, .slice A26 n27 c28, .slice A29 n30 c31, .slice A32 n33 c34, .slice A35 n36 c37, .slice A38 n39 c40, .slice A41 n42 c43, .slice A44 n45 c46, .slice A47 n48 c49] : List Value)[0 + (x1.toNat * 5) + 2]?).bind Value.slc?) fun s101 =>
 ob ((([.int .i64 x2, .int .i64 x3, .slice A4 n5 c6, .slice A7 n8 c9, .slice A10 n11 c12, .int .i64 x13, .int .i64 x14, .slice A15 n16 c17, .slice A18 n19 c20, .slice A21 n22 c23, .int .i64 x24, .int .i64 x25, .slice A26 n27 c28, .slice A29 n30 c31, .slice A32 n33 c34, .slice A35 n36 c37, .slice A38 n39 c40, .slice A41 n42 c43, .slice A44 n45 c46, .slice A47 n48 c49] : List Value)[0 + (x1.toNat * 5) + 3]?).bind Value.slc?) fun s102 =>
 ob ((([.int .i64 x2, .int .i64 x3, .slice A4 n5 c6, .slice A7 n8 c9, .slice A10 n11 c12, .int .i64 x13, .int .i64 x14, .slice A15 n16 c17, .slice A18 n19 c20, .slice A21 n22 c23, .int .i64 x24, .int .i64 x25, .slice A26 n27 c28, .slice A29 n30 c31, .slice A32 n33 c34, .slice A35 n36 c37, .slice A38 n39 c40, .slice A41 n42 c43, .slice A44 n45 c46, .slice A47 n48 c49] : List Value)[0 + (x1.toNat * 5) + 4]?).bind Value.slc?) fun s103 =>
 ob (acall P T k M.length F.zoetroperef00_CopyBytes [.slice s101.a s101.n s101.c] M) fun r104 =>
 ob ((some r104.1).bind Value.slc?) fun s105 =>
 ob (acall P T k M.length F.zoetroperef00_CopyInts [.slice s102.a s102.n s102.c] r104.2) fun r106 =>
 ob ((some r106.1).bind Value.slc?) fun s107 =>
 ob (acall P T k M.length F.zoetropelaw25_bools [.slice s103.a s103.n s103.c] r106.2) fun r108 =>
 ob ((some r108.1).bind Value.slc?) fun s109 =>
 pb (0 ≤ x1 ∧ x1 < (3 : Int))
 (pb (0 + (x1.toNat * 5) + 5 ≤ cs98.length)
 (pb (0 ≤ x1 ∧ x1 < (3 : Int))
 (ob ((([.int .i64 x2, .int .i64 x3, .slice A4 n5 c6, .slice A7 n8 c9, .slice A10 n11 c12, .int .i64 x13, .int .i64 x14, .slice A15 n16 c17, .slice A18 n19 c20, .slice A21 n22 c23, .int .i64 x24, .int .i64 x25, .slice A26 n27 c28, .slice A29 n30 c31, .slice A32 n33 c34, .slice A35 n36 c37, .slice A38 n39 c40, .slice A41 n42 c43, .slice A44 n45 c46, .slice A47 n48 c49] : List Value)[17 + x1.toNat + 0]?).bind Value.slc?) fun s110 =>
 ob (acall P T k lo F.zoetropelaw25_units [.slice s110.a s110.n s110.c] r108.2) fun r111 =>
 ob ((some r111.1).bind Value.slc?) fun s112 =>
 pb (0 ≤ x1 ∧ x1 < (3 : Int))
 (pb (17 + x1.toNat + 1 ≤ (setL cs98 (0 + (x1.toNat * 5)) [.int .i64 x99, .int .i64 x100, .slice s105.a s105.n s105.c, .slice s107.a s107.n s107.c, .slice s109.a s109.n s109.c]).length)
 (some (zoetropelaw25_copied.c116 (IntKind.i64.wrap (x1 + 1)) x2 x3 A4 n5 c6 A7 n8 c9 A10 n11 c12 x13 x14 A15 n16 c17 A18 n19 c20 A21 n22 c23 x24 x25 A26 n27 c28 A29 n30 c31 A32 n33 c34 A35 n36 c37 A38 n39 c40 A41 n42 c43 A44 n45 c46 A47 n48 c49 x50 x51 A52 n53 c54 A55 n56 c57 A58 n59 c60 x61 x62 A63 n64 c65 A66 n67 c68 A69 n70 c71 x72 x73 A74 n75 c76 A77 n78 c79 A80 n81 c82 A83 n84 c85 A86 n87 c88 A89 n90 c91 A92 n93 c94 A95 n96 c97 (setL (setL cs98 (0 + (x1.toNat * 5)) [.int .i64 x99, .int .i64 x100, .slice s105.a s105.n s105.c, .slice s107.a s107.n s107.c, .slice s109.a s109.n s109.c]) (17 + x1.toNat) [.slice s112.a s112.n s112.c]) r111.2)) none) none) none) none) none) none)
 (ob (acall P T k lo F.zoetropelaw25_bools [.slice A35 n36 c37] M) fun r113 =>
 ob ((some r113.1).bind Value.slc?) fun s114 =>
 pb (15 + 1 ≤ cs98.length)
 (ob (acall P T k lo F.zoetroperef00_CopyInts [.slice A38 n39 c40] r113.2) fun r115 =>
 ob ((some r115.1).bind Value.slc?) fun s116 =>
 pb (16 + 1 ≤ (setL cs98 15 [.slice s114.a s114.n s114.c]).length)
 (ob (((setL (setL cs98 15 [.slice s114.a s114.n s114.c]) 16 [.slice s116.a s116.n s116.c])[0]?).bind (Value.int? .i64)) fun x117 =>
 ob (((setL (setL cs98 15 [.slice s114.a s114.n s114.c]) 16 [.slice s116.a s116.n s116.c])[1]?).bind (Value.int? .i64)) fun x118 =>
 ob (((setL (setL cs98 15 [.slice s114.a s114.n s114.c]) 16 [.slice s116.a s116.n s116.c])[2]?).bind Value.slc?) fun s119 =>
 ob (((setL (setL cs98 15 [.slice s114.a s114.n s114.c]) 16 [.slice s116.a s116.n s116.c])[3]?).bind Value.slc?) fun s120 =>
 ob (((setL (setL cs98 15 [.slice s114.a s114.n s114.c]) 16 [.slice s116.a s116.n s116.c])[4]?).bind Value.slc?) fun s121 =>
 ob (((setL (setL cs98 15 [.slice s114.a s114.n s114.c]) 16 [.slice s116.a s116.n s116.c])[5]?).bind (Value.int? .i64)) fun x122 =>
 ob (((setL (setL cs98 15 [.slice s114.a s114.n s114.c]) 16 [.slice s116.a s116.n s116.c])[6]?).bind (Value.int? .i64)) fun x123 =>
 ob (((setL (setL cs98 15 [.slice s114.a s114.n s114.c]) 16 [.slice s116.a s116.n s116.c])[7]?).bind Value.slc?) fun s124 =>
 ob (((setL (setL cs98 15 [.slice s114.a s114.n s114.c]) 16 [.slice s116.a s116.n s116.c])[8]?).bind Value.slc?) fun s125 =>
 ob (((setL (setL cs98 15 [.slice s114.a s114.n s114.c]) 16 [.slice s116.a s116.n s116.c])[9]?).bind Value.slc?) fun s126 =>
 ob (((setL (setL cs98 15 [.slice s114.a s114.n s114.c]) 16 [.slice s116.a s116.n s116.c])[10]?).bind (Value.int? .i64)) fun x127 =>
 ob (((setL (setL cs98 15 [.slice s114.a s114.n s114.c]) 16 [.slice s116.a s116.n s116.c])[11]?).bind (Value.int? .i64)) fun x128 =>
 ob (((setL (setL cs98 15 [.slice s114.a s114.n s114.c]) 16 [.slice s116.a s116.n s116.c])[12]?).bind Value.slc?) fun s129 =>
 ob (((setL (setL cs98 15 [.slice s114.a s114.n s114.c]) 16 [.slice s116.a s116.n s116.c])[13]?).bind Value.slc?) fun s130 =>
 ob (((setL (setL cs98 15 [.slice s114.a s114.n s114.c]) 16 [.slice s116.a s116.n s116.c])[14]?).bind Value.slc?) fun s131 =>
 ob (((setL (setL cs98 15 [.slice s114.a s114.n s114.c]) 16 [.slice s116.a s116.n s116.c])[15]?).bind Value.slc?) fun s132 =>
 ob (((setL (setL cs98 15 [.slice s114.a s114.n s114.c]) 16 [.slice s116.a s116.n s116.c])[16]?).bind Value.slc?) fun s133 =>
 ob (((setL (setL cs98 15 [.slice s114.a s114.n s114.c]) 16 [.slice s116.a s116.n s116.c])[17]?).bind Value.slc?) fun s134 =>
 ob (((setL (setL cs98 15 [.slice s114.a s114.n s114.c]) 16 [.slice s116.a s116.n s116.c])[18]?).bind Value.slc?) fun s135 =>
 ob (((setL (setL cs98 15 [.slice s114.a s114.n s114.c]) 16 [.slice s116.a s116.n s116.c])[19]?).bind Value.slc?) fun s136 =>
 some (.ret (.agg ⟨[.int .i64 x117, .int .i64 x118, .slice s119.a s119.n s119.c, .slice s120.a s120.n s120.c, .slice s121.a s121.n s121.c, .int .i64 x122, .int .i64 x123, .slice s124.a s124.n s124.c, .slice s125.a s125.n s125.c, .slice s126.a s126.n s126.c, .int .i64 x127, .int .i64 x128, .slice s129.a s129.n s129.c, .slice s130.a s130.n s130.c, .slice s131.a s131.n s131.c, .slice s132.a s132.n s132.c, .slice s133.a s133.n s133.c, .slice s134.a s134.n s134.c, .slice s135.a s135.n s135.c, .slice s136.a s136.n s136.c]⟩) r115.2)) none) none) := by kernel_rfl
theorem chain_Run.entry (k lo : Nat) (x1 : Int) (x2 : Int) (A3 : Option Addr) (n4 : Nat) (c5 : Nat) (x6 : Int) (x7 : Int) (A8 : Option Addr) (n9 : Nat) (c10 : Nat) (x11 : Int) (x12 : Int) (A13 : Option Addr) (n14 : Nat) (c15 : Nat) (b16 : Bool) (x17 : Int) (b18 : Bool) (b19 : Bool) (x20 : Int) (x21 : Int) (x22 : Int) (x23 : Int) (x24 : Int) (x25 : Int) (x26 : Int) (x27 : Int) (x28 : Int) (x29 : Int) (x30 : Int) (x31 : Int) (x32 : Int) (b33 : Bool) (x34 : Int) (x35 : Int) (x36 : Int) (x37 : Int) (x38 : Int) (b39 : Bool) (x40 : Int) (x41 : Int) (A42 : Option Addr) (n43 : Nat) (c44 : Nat) (b45 : Bool) (b46 : Bool) (b47 : Bool) (x48 : Int) (x49 : Int) (A50 : Option Addr) (n51 : Nat) (c52 : Nat) (A53 : Option Addr) (n54 : Nat) (c55 : Nat) (A56 : Option Addr) (n57 : Nat) (c58 : Nat) (x59 : Int) (x60 : Int) (A61 : Option Addr) (n62 : Nat) (c63 : Nat) (A64 : Option Addr) (n65 : Nat) (c66 : Nat) (A67 : Option Addr) (n68 : Nat) (c69 : Nat) (x70 : Int) (x71 : Int) (A72 : Option Addr) (n73 : Nat) (c74 : Nat) (A75 : Option Addr) (n76 : Nat) (c77 : Nat) (A78 : Option Addr) (n79 : Nat) (c80 : Nat) (A81 : Option Addr) (n82 : Nat) (c83 : Nat) (A84 : Option Addr) (n85 : Nat) (c86 : Nat) (A87 : Option Addr) (n88 : Nat) (c89 : Nat) (A90 : Option Addr) (n91 : Nat) (c92 : Nat) (A93 : Option Addr) (n94 : Nat) (c95 : Nat) (M : Mem) : entry P T k lo F.chain_Run [.agg ⟨[.int .i64 x1, .int .i64 x2, .slice A3 n4 c5, .int .i64 x6, .int .i64 x7, .slice A8 n9 c10, .int .i64 x11, .int .i64 x12, .slice A13 n14 c15]⟩, .agg ⟨[.bool b16, .int .i64 x17, .bool b18, .bool b19, .int .i64 x20, .int .i64 x21, .int .i64 x22, .int .i64 x23, .int .i64 x24, .int .i64 x25, .int .i64 x26, .int .i64 x27, .int .i64 x28, .int .i64 x29, .int .i64 x30, .int .i64 x31, .int .i64 x32, .bool b33, .int .i64 x34, .int .i64 x35, .int .i64 x36, .int .i64 x37, .int .i64 x38, .bool b39, .int .i64 x40, .int .i64 x41, .slice A42 n43 c44, .bool b45, .bool b46, .bool b47]⟩, .agg ⟨[.int .i64 x48, .int .i64 x49, .slice A50 n51 c52, .slice A53 n54 c55, .slice A56 n57 c58, .int .i64 x59, .int .i64 x60, .slice A61 n62 c63, .slice A64 n65 c66, .slice A67 n68 c69, .int .i64 x70, .int .i64 x71, .slice A72 n73 c74, .slice A75 n76 c77, .slice A78 n79 c80, .slice A81 n82 c83, .slice A84 n85 c86, .slice A87 n88 c89, .slice A90 n91 c92, .slice A93 n94 c95]⟩] M =
 ob (acall P T k lo F.plane_Whole [.agg ⟨[.int .i64 x1, .int .i64 x2, .slice A3 n4 c5, .int .i64 x6, .int .i64 x7, .slice A8 n9 c10, .int .i64 x11, .int .i64 x12, .slice A13 n14 c15]⟩] M) fun r101 =>
 ob ((some r101.1).bind (Value.int? .i64)) fun x102 =>
 bb (x102 != 0)
 (some (.ret (.tuple ⟨[.agg ⟨[.int .i64 0, .int .i64 0, .slice none 0 0, .int .i64 0, .int .i64 0, .slice none 0 0, .int .i64 0, .int .i64 0, .slice none 0 0]⟩, .int .i64 2]⟩) r101.2))
 (bb (Int.tmod x1 8 != 0)
 (some (.ret (.tuple ⟨[.agg ⟨[.int .i64 0, .int .i64 0, .slice none 0 0, .int .i64 0, .int .i64 0, .slice none 0 0, .int .i64 0, .int .i64 0, .slice none 0 0]⟩, .int .i64 2]⟩) r101.2))
 (bb (Int.tmod x2 8 != 0)
 (some (.ret (.tuple ⟨[.agg ⟨[.int .i64 0, .int .i64 0, .slice none 0 0, .int .i64 0, .int .i64 0, .slice none 0 0, .int .i64 0, .int .i64 0, .slice none 0 0]⟩, .int .i64 2]⟩) r101.2))
 (ob (acall P T k r101.2.length F.chain_copied [.agg ⟨[.int .i64 x1, .int .i64 x2, .slice A3 n4 c5, .int .i64 x6, .int .i64 x7, .slice A8 n9 c10, .int .i64 x11, .int .i64 x12, .slice A13 n14 c15]⟩] r101.2) fun r103 =>
 ob ((some r103.1).bind (Value.agg? 9)) fun l104 =>
 ob ((l104[0]?).bind (Value.int? .i64)) fun x105 =>
 ob ((l104[1]?).bind (Value.int? .i64)) fun x106 =>
 ob ((l104[2]?).bind Value.slc?) fun s107 =>
 ob ((l104[3]?).bind (Value.int? .i64)) fun x108 =>
 ob ((l104[4]?).bind (Value.int? .i64)) fun x109 =>
 ob ((l104[5]?).bind Value.slc?) fun s110 =>
 ob ((l104[6]?).bind (Value.int? .i64)) fun x111 =>
 ob ((l104[7]?).bind (Value.int? .i64)) fun x112 =>
 ob ((l104[8]?).bind Value.slc?) fun s113 =>
 ob (acall P T k lo F.quant_Lossless [.agg ⟨[.bool b16, .int .i64 x17, .bool b18, .bool b19, .int .i64 x20, .int .i64 x21, .int .i64 x22, .int .i64 x23, .int .i64 x24, .int .i64 x25, .int .i64 x26, .int .i64 x27, .int .i64 x28, .int .i64 x29, .int .i64 x30, .int .i64 x31, .int .i64 x32, .bool b33, .int .i64 x34, .int .i64 x35, .int .i64 x36, .int .i64 x37, .int .i64 x38, .bool b39, .int .i64 x40, .int .i64 x41, .slice A42 n43 c44, .bool b45, .bool b46, .bool b47]⟩] (r103.2 ++ [⟨.fx, [.int .i64 x105, .int .i64 x106, .slice s107.a s107.n s107.c, .int .i64 x108, .int .i64 x109, .slice s110.a s110.n s110.c, .int .i64 x111, .int .i64 x112, .slice s113.a s113.n s113.c, .int .i64 0, .int .i64 0, .slice none 0 0, .int .i64 0, .int .i64 0, .slice none 0 0, .int .i64 0, .int .i64 0, .slice none 0 0, .bool b16, .int .i64 x17, .bool b18, .bool b19, .int .i64 x20, .int .i64 x21, .int .i64 x22, .int .i64 x23, .int .i64 x24, .int .i64 x25, .int .i64 x26, .int .i64 x27, .int .i64 x28, .int .i64 x29, .int .i64 x30, .int .i64 x31, .int .i64 x32, .bool b33, .int .i64 x34, .int .i64 x35, .int .i64 x36, .int .i64 x37, .int .i64 x38, .bool b39, .int .i64 x40, .int .i64 x41, .slice A42 n43 c44, .bool b45, .bool b46, .bool b47, .int .i64 x48, .int .i64 x49, .slice A50 n51 c52, .slice A53 n54 c55, .slice A56 n57 c58, .int .i64 x59, .int .i64 x60, .slice A61 n62 c63, .slice A64 n65 c66, .slice A67 n68 c69, .int .i64 x70, .int .i64 x71, .slice A72 n73 c74, .slice A75 n76 c77, .slice A78 n79 c80, .slice A81 n82 c83, .slice A84 n85 c86, .slice A87 n88 c89, .slice A90 n91 c92, .slice A93 n94 c95]⟩] : Mem)) fun r114 =>
 ob ((some r114.1).bind Value.bool?) fun b115 =>
 bb b115
 (ob ((r114.2.ld ⟨r103.2.length, 0, none⟩).bind (Value.int? .i64)) fun x116 =>
 ob ((r114.2.ld (plus ⟨r103.2.length, 0, none⟩ 1)).bind (Value.int? .i64)) fun x117 =>
 ob ((r114.2.ld (plus ⟨r103.2.length, 0, none⟩ 2)).bind Value.slc?) fun s118 =>
 ob ((r114.2.ld (plus ⟨r103.2.length, 0, none⟩ 3)).bind (Value.int? .i64)) fun x119 =>
 ob ((r114.2.ld (plus ⟨r103.2.length, 0, none⟩ 4)).bind (Value.int? .i64)) fun x120 =>
 ob ((r114.2.ld (plus ⟨r103.2.length, 0, none⟩ 5)).bind Value.slc?) fun s121 =>
 ob ((r114.2.ld (plus ⟨r103.2.length, 0, none⟩ 6)).bind (Value.int? .i64)) fun x122 =>
 ob ((r114.2.ld (plus ⟨r103.2.length, 0, none⟩ 7)).bind (Value.int? .i64)) fun x123 =>
 ob ((r114.2.ld (plus ⟨r103.2.length, 0, none⟩ 8)).bind Value.slc?) fun s124 =>
 some (.ret (.tuple ⟨[.agg ⟨[.int .i64 x116, .int .i64 x117, .slice s118.a s118.n s118.c, .int .i64 x119, .int .i64 x120, .slice s121.a s121.n s121.c, .int .i64 x122, .int .i64 x123, .slice s124.a s124.n s124.c]⟩, .int .i64 0]⟩) r114.2))
 (some (chain_Run.c500 ⟨r103.2.length, 0, none⟩ (some ⟨r114.2.length, 0, none⟩) 3 3 3 0 0 0 none 0 0 0 0 none 0 0 0 0 none 0 0 (r114.2 ++ [⟨.fx, [.func (.func F.chain_run_passes) ⟨[.pointer (some ⟨r103.2.length, 0, none⟩)]⟩ ⟨[]⟩, .func (.func F.chain_run_directions) ⟨[.pointer (some ⟨r103.2.length, 0, none⟩)]⟩ ⟨[]⟩, .func (.func F.chain_run_restoration) ⟨[.pointer (some ⟨r103.2.length, 0, none⟩)]⟩ ⟨[]⟩]⟩] : Mem)))))) := by kernel_rfl
theorem chain_Run.p500 (k lo : Nat) (a1 : Addr) (A2 : Option Addr) (n3 : Nat) (c4 : Nat) (x5 : Int) (x6 : Int) (x7 : Int) (x8 : Int) (A9 : Option Addr) (n10 : Nat) (c11 : Nat) (x12 : Int) (x13 : Int) (A14 : Option Addr) (n15 : Nat) (c16 : Nat) (x17 : Int) (x18 : Int) (A19 : Option Addr) (n20 : Nat) (c21 : Nat) (M : Mem) : piece P T k lo F.chain_Run 500 [.l 6 0, .v (.pointer (some a1)), .v (.slice A2 n3 c4), .v (.int .i64 x5), .v (.int .i64 x6)] [[.int .i64 x7, .int .i64 x8, .slice A9 n10 c11, .int .i64 x12, .int .i64 x13, .slice A14 n15 c16, .int .i64 x17, .int .i64 x18, .slice A19 n20 c21]] M =
 bb (decide (x6 < x5))
 (pb (0 ≤ x6 ∧ x6 < (n3 : Int))
 (ob A2 fun a125 =>
 ob ((M.ld (plus a125 x6.toNat)).bind Value.one?) fun v126 =>
 ob (Value.fun? v126) fun q128 =>
 ob (acall P T k lo q128.1 (q128.2.1 ++ [] ++ q128.2.2) M) fun r127 =>
 ob ((some r127.1).bind (Value.int? .i64)) fun x129 =>
 bb (x129 != 0)
 (some (.ret (.tuple ⟨[.agg ⟨[.int .i64 0, .int .i64 0, .slice none 0 0, .int .i64 0, .int .i64 0, .slice none 0 0, .int .i64 0, .int .i64 0, .slice none 0 0]⟩, .int .i64 2]⟩) r127.2))
 (some (chain_Run.c500 a1 A2 n3 c4 x5 (IntKind.i64.wrap (x6 + 1)) x7 x8 A9 n10 c11 x12 x13 A14 n15 c16 x17 x18 A19 n20 c21 r127.2))) none)
 (ob ((M.ld a1).bind (Value.int? .i64)) fun x130 =>
 ob ((M.ld (plus a1 1)).bind (Value.int? .i64)) fun x131 =>
 ob ((M.ld (plus a1 2)).bind Value.slc?) fun s132 =>
 ob ((M.ld (plus a1 3)).bind (Value.int? .i64)) fun x133 =>
 ob ((M.ld (plus a1 4)).bind (Value.int? .i64)) fun x134 =>
 ob ((M.ld (plus a1 5)).bind Value.slc?) fun s135 =>
 ob ((M.ld (plus a1 6)).bind (Value.int? .i64)) fun x136 =>
 ob ((M.ld (plus a1 7)).bind (Value.int? .i64)) fun x137 =>
 ob ((M.ld (plus a1 8)).bind Value.slc?) fun s138 =>
 some (.ret (.tuple ⟨[.agg ⟨[.int .i64 x130, .int .i64 x131, .slice s132.a s132.n s132.c, .int .i64 x133, .int .i64 x134, .slice s135.a s135.n s135.c, .int .i64 x136, .int .i64 x137, .slice s138.a s138.n s138.c]⟩, .int .i64 0]⟩) M)) := by kernel_rfl
theorem plane_Whole.entry (k lo : Nat) (x1 : Int) (x2 : Int) (A3 : Option Addr) (n4 : Nat) (c5 : Nat) (x6 : Int) (x7 : Int) (A8 : Option Addr) (n9 : Nat) (c10 : Nat) (x11 : Int) (x12 : Int) (A13 : Option Addr) (n14 : Nat) (c15 : Nat) (M : Mem) : entry P T k lo F.plane_Whole [.agg ⟨[.int .i64 x1, .int .i64 x2, .slice A3 n4 c5, .int .i64 x6, .int .i64 x7, .slice A8 n9 c10, .int .i64 x11, .int .i64 x12, .slice A13 n14 c15]⟩] M =
 some (plane_Whole.c116 x1 x2 x1 x2 A3 n4 c5 x6 x7 A8 n9 c10 x11 x12 A13 n14 c15 0 M) := by kernel_rfl
theorem plane_Whole.p116 (k lo : Nat) (x1 : Int) (x2 : Int) (x3 : Int) (x4 : Int) (A5 : Option Addr) (n6 : Nat) (c7 : Nat) (x8 : Int) (x9 : Int) (A10 : Option Addr) (n11 : Nat) (c12 : Nat) (x13 : Int) (x14 : Int) (A15 : Option Addr) (n16 : Nat) (c17 : Nat) (x18 : Int) (M : Mem) : piece P T k lo F.plane_Whole 116 [.v (.int .i64 x1), .v (.int .i64 x2), .v (.agg ⟨[.int .i64 x3, .int .i64 x4, .slice A5 n6 c7, .int .i64 x8, .int .i64 x9, .slice A10 n11 c12, .int .i64 x13, .int .i64 x14, .slice A15 n16 c17]⟩), .v (.int .i64 x18)] [] M =
 bb (decide (x18 < 3))
 (pb (0 ≤ x18 ∧ x18 < (3 : Int))
 (ob ((([.int .i64 x3, .int .i64 x4, .slice A5 n6 c7, .int .i64 x8, .int .i64 x9, .slice A10 n11 c12, .int .i64 x13, .int .i64 x14, .slice A15 n16 c17] : List Value)[x18.toNat * 3 + 0]?).bind (Value.int? .i64)) fun x21 =>
 ob ((([.int .i64 x3, .int .i64 x4, .slice A5 n6 c7, .int .i64 x8, .int .i64 x9, .slice A10 n11 c12, .int .i64 x13, .int .i64 x14, .slice A15 n16 c17] : List Value)[x18.toNat * 3 + 1]?).bind (Value.int? .i64)) fun x22 =>
 ob ((([.int .i64 x3, .int .i64 x4, .slice A5 n6 c7, .int .i64 x8, .int .i64 x9, .slice A10 n11 c12, .int .i64 x13, .int .i64 x14, .slice A15 n16 c17] : List Value)[x18.toNat * 3 + 2]?).bind Value.slc?) fun s23 =>
 ob (acall P T k lo F.plane_Check [.agg ⟨[.int .i64 x21, .int .i64 x22, .slice s23.a s23.n s23.c]⟩] M) fun r24 =>
 ob ((some r24.1).bind (Value.int? .i64)) fun x25 =>
 bb (x25 != 0)
 (some (.ret (.int .i64 2) r24.2))
 (ob (acall P T k lo F.plane_sides [.int .i64 x1, .int .i64 x2] r24.2) fun r26 =>
 ob ((some r26.1).bind Value.bool?) fun b27 =>
 bb (!b27)
 (some (.ret (.int .i64 2) r26.2))
 (pb ((minI x18 1) < 0) none
 (bb (x21 != shrI .i64 x1 ((minI x18 1).toNat))
 (some (.ret (.int .i64 2) r26.2))
 (pb ((minI x18 1) < 0) none
 (bb (x22 != shrI .i64 x2 ((minI x18 1).toNat))
 (some (.ret (.int .i64 2) r26.2))
 (some (plane_Whole.c116 x1 x2 x3 x4 A5 n6 c7 x8 x9 A10 n11 c12 x13 x14 A15 n16 c17 (IntKind.i64.wrap (x18 + 1)) r26.2)))))))) none)
 (some (.ret (.int .i64 0) M)) := by kernel_rfl
theorem quant_Lossless.entry (k lo : Nat) (b1 : Bool) (x2 : Int) (b3 : Bool) (b4 : Bool) (x5 : Int) (x6 : Int) (x7 : Int) (x8 : Int) (x9 : Int) (x10 : Int) (x11 : Int) (x12 : Int) (x13 : Int) (x14 : Int) (x15 : Int) (x16 : Int) (x17 : Int) (b18 : Bool) (x19 : Int) (x20 : Int) (x21 : Int) (x22 : Int) (x23 : Int) (b24 : Bool) (x25 : Int) (x26 : Int) (A27 : Option Addr) (n28 : Nat) (c29 : Nat) (b30 : Bool) (b31 : Bool) (b32 : Bool) (M : Mem) : entry P T k lo F.quant_Lossless [.agg ⟨[.bool b1, .int .i64 x2, .bool b3, .bool b4, .int .i64 x5, .int .i64 x6, .int .i64 x7, .int .i64 x8, .int .i64 x9, .int .i64 x10, .int .i64 x11, .int .i64 x12, .int .i64 x13, .int .i64 x14, .int .i64 x15, .int .i64 x16, .int .i64 x17, .bool b18, .int .i64 x19, .int .i64 x20, .int .i64 x21, .int .i64 x22, .int .i64 x23, .bool b24, .int .i64 x25, .int .i64 x26, .slice A27 n28 c29, .bool b30, .bool b31, .bool b32]⟩] M =
 bb (x10 == 0)
 (ob (Program.keyLits P 9 29 [.int .i64 x11, .int .i64 x12, .int .i64 x13, .int .i64 x14, .int .i64 x15]) fun q38 => ob (Program.keyLits P 9 29 [.int .i64 0, .int .i64 0, .int .i64 0, .int .i64 0, .int .i64 0]) fun q39 =>
 some (.ret (.bool (sameLits q38 q39)) M))
 (some (.ret (.bool false) M)) := by kernel_rfl
end Go.Zt
