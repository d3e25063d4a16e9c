/- What the law ChainRuns needs of the text Eq2. -/
import Derived.Test.YtbbfdebfhgdciaaGreatPEq0
import Derived.KernelRfl
set_option linter.unusedVariables false
set_option linter.unusedSimpArgs false
set_option maxRecDepth 100000
set_option maxHeartbeats 4000000
namespace Go.Zt
open IntKind (i64 u8)
variable (k lo:Nat)(A1:Option Addr)(b1:Bool)(x1:Int)(b2:Bool)(n2:Nat)(x2:Int)(A3:Option Addr)(b3:Bool)(c3:Nat)(x3:Int)(A4:Option Addr)(b4:Bool)(n4:Nat)(x4:Int)(A5:Option Addr)(c5 n5:Nat)(x5:Int)(c6 n6:Nat)(x6:Int)(A7:Option Addr)(c7:Nat)(x7:Int)(A8:Option Addr)(n8:Nat)(x8:Int)(A9:Option Addr)(c9 n9:Nat)(x9:Int)(A10:Option Addr)(c10 n10:Nat)(x10:Int)(A11:Option Addr)(c11 n11:Nat)(x11:Int)(A12:Option Addr)(c12 n12:Nat)(x12:Int)(A13:Option Addr)(c13 n13:Nat)(x13:Int)(A14:Option Addr)(c14 n14:Nat)(x14:Int)(A15:Option Addr)(c15 n15:Nat)(x15:Int)(A16:Option Addr)(b16:Bool)(c16 n16:Nat)(x16:Int)(A17:Option Addr)(b17:Bool)(c17 n17:Nat)(x17:Int)(A18:Option Addr)(b18:Bool)(c18 n18:Nat)(x18:Int)(A19:Option Addr)(b19:Bool)(c19 n19:Nat)(x19:Int)(A20:Option Addr)(b20:Bool)(c20 n20:Nat)(x20:Int)(A21:Option Addr)(c21 n21:Nat)(x21:Int)(A22:Option Addr)(b22:Bool)(c22 n22:Nat)(x22:Int)(A23:Option Addr)(b23:Bool)(c23 n23:Nat)(x23:Int)(A24:Option Addr)(b24:Bool)(c24 n24:Nat)(x24:Int)(A25:Option Addr)(b25:Bool)(c25 n25:Nat)(x25:Int)(A26:Option Addr)(b26:Bool)(c26 n26:Nat)(x26:Int)(A27:Option Addr)(b27:Bool)(c27 n27:Nat)(x27:Int)(A28:Option Addr)(b28:Bool)(c28 n28:Nat)(x28:Int)(A29:Option Addr)(b29:Bool)(c29 n29:Nat)(x29:Int)(A30:Option Addr)(b30:Bool)(c30 n30:Nat)(x30:Int)(b31:Bool)(c31 n31:Nat)(x31:Int)(A32:Option Addr)(b32:Bool)(c32:Nat)(x32:Int)(A33:Option Addr)(b33:Bool)(n33:Nat)(x33:Int)(A34:Option Addr)(b34:Bool)(c34 n34:Nat)(x34:Int)(A35:Option Addr)(b35:Bool)(c35 n35:Nat)(x35:Int)(b36:Bool)(c36 n36:Nat)(x36:Int)(A37:Option Addr)(b37:Bool)(c37:Nat)(x37:Int)(b38:Bool)(n38:Nat)(x38:Int)(b39:Bool)(c39:Nat)(x39:Int)(A40:Option Addr)(b40:Bool)(x40:Int)(n41:Nat)(x41:Int)(A42:Option Addr)(b42:Bool)(c42:Nat)(x42:Int)(A43:Option Addr)(b43:Bool)(n43:Nat)(x43:Int)(c44 n44:Nat)(x44:Int)(b45:Bool)(c45:Nat)(x45:Int)(b46:Bool)(x46:Int)(b47:Bool)(x47:Int)(A48:Option Addr)(b48:Bool)(x48:Int)(A49:Option Addr)(b49:Bool)(n49:Nat)(x49:Int)(A50:Option Addr)(c50 n50:Nat)(x50:Int)(A51:Option Addr)(b51:Bool)(c51 n51:Nat)(x51:Int)(A52:Option Addr)(b52:Bool)(c52 n52:Nat)(x52:Int)(A53:Option Addr)(b53:Bool)(c53 n53:Nat)(x53:Int)(A54:Option Addr)(b54:Bool)(c54 n54:Nat)(x54:Int)(b55:Bool)(c55 n55:Nat)(x55:Int)(A56:Option Addr)(b56:Bool)(c56:Nat)(x56:Int)(A57:Option Addr)(b57:Bool)(n57:Nat)(x57:Int)(b58:Bool)(c58 n58:Nat)(x58:Int)(A59:Option Addr)(b59:Bool)(c59:Nat)(x59:Int)(A60:Option Addr)(b60:Bool)(n60:Nat)(x60:Int)(A61:Option Addr)(b61:Bool)(c61 n61:Nat)(x61:Int)(A62:Option Addr)(c62 n62:Nat)(x62:Int)(c63 n63:Nat)(x63:Int)(A64:Option Addr)(b64:Bool)(c64:Nat)(x64:Int)(A65:Option Addr)(b65:Bool)(n65:Nat)(x65:Int)(b66:Bool)(c66 n66:Nat)(x66:Int)(A67:Option Addr)(b67:Bool)(c67:Nat)(x67:Int)(A68:Option Addr)(n68:Nat)(x68:Int)(A69:Option Addr)(c69 n69:Nat)(x69:Int)(A70:Option Addr)(c70:Nat)(cs70:List Value)(n70:Nat)(x70:Int)(c71 n71:Nat)(x71:Int)(A72:Option Addr)(c72:Nat)(cs72:List Value)(x72:Int)(A73:Option Addr)(n73:Nat)(x73:Int)(A74:Option Addr)(c74 n74:Nat)(x74:Int)(A75:Option Addr)(c75 n75:Nat)(A76:Option Addr)(c76 n76 c77:Nat)(cs77:List Value)(n77:Nat)(x77:Int)(A78:Option Addr)(c78:Nat)(x78:Int)(A79:Option Addr)(n79:Nat)(x79:Int)(A80:Option Addr)(c80 n80:Nat)(x80:Int)(A81:Option Addr)(c81 n81:Nat)(x81:Int)(A82:Option Addr)(c82:Nat)(cs82:List Value)(n82:Nat)(x82:Int)(c83:Nat)(cs83:List Value)(n83:Nat)(x83:Int)(A84:Option Addr)(c84:Nat)(x84:Int)(A85:Option Addr)(n85:Nat)(x85:Int)(c86 n86:Nat)(x86:Int)(A87:Option Addr)(c87:Nat)(x87:Int)(A88:Option Addr)(n88:Nat)(x88:Int)(c89 n89:Nat)(x89:Int)(A90:Option Addr)(c90:Nat)(x90:Int)(A91:Option Addr)(n91:Nat)(x91:Int)(c92 n92:Nat)(A93:Option Addr)(c93:Nat)(A94:Option Addr)(n94 c95 n95 c96:Nat)(x97 x98:Int)(A99:Option Addr)(n100 c101:Nat)(x102 x103:Int)(A104:Option Addr)(n105 c106:Nat)(x107 x108:Int)(A109:Option Addr)(n110 c111:Nat)(x112 x113 x114 x115 x116 x117:Int)(cs118:List Value)(M:Mem)
theorem q8.entry:entry P T k lo F.q8 [.agg ⟨[.i x1,.i x2,.s A3 n4 c5,.i x6,.i x7,.s A8 n9 c10,.i x11,.i x12,.s A13 n14 c15]⟩] M=
 ob (z5 P T k lo F.z8w [.agg ⟨[.i x1,.i x2,.s A3 n4 c5]⟩] M) fun r21=>
 ob ((some r21.1).bind (Value.int? .i64)) fun x22=>
 bb (x22 != 0)
 (some (.ret (.i 2) r21.2))
 (ob (z5 P T k lo F.za2 [.i x1] r21.2) fun r23=>
 ob ((some r23.1).bind Value.bool?) fun b24=>
 bb (!b24)
 (some (.ret (.i 2) r23.2))
 (ob (z5 P T k lo F.za2 [.i x2] r23.2) fun r25=>
 ob ((some r25.1).bind Value.bool?) fun b26=>
 bb (!b26)
 (some (.ret (.i 2) r25.2))
 (some (q8.Ca 1 x1 x2 A3 n4 c5 x6 x7 A8 n9 c10 x11 x12 A13 n14 c15 r25.2)))):=by kernel_rfl
theorem q8.Pa:pz P T k lo F.q8 (q8.Ca x1 x2 x3 A4 n5 c6 x7 x8 A9 n10 c11 x12 x13 A14 n15 c16 M)=
 bb (decide (x1 < 3))
 (pb (0≤x1∧x1 < (3:Int))
 (ob ((([.i x2,.i x3,.s A4 n5 c6,.i x7,.i x8,.s A9 n10 c11,.i x12,.i x13,.s A14 n15 c16]:List Value)[0+(x1.toNat*3)+0]?).bind (Value.int? .i64)) fun x27=>
 ob ((([.i x2,.i x3,.s A4 n5 c6,.i x7,.i x8,.s A9 n10 c11,.i x12,.i x13,.s A14 n15 c16]:List Value)[0+(x1.toNat*3)+1]?).bind (Value.int? .i64)) fun x28=>
 ob ((([.i x2,.i x3,.s A4 n5 c6,.i x7,.i x8,.s A9 n10 c11,.i x12,.i x13,.s A14 n15 c16]:List Value)[0+(x1.toNat*3)+2]?).bind Value.slc?) fun s29=>
 ob (z5 P T k lo F.z8w [.agg ⟨[.i x27,.i x28,.s s29.a s29.n s29.c]⟩] M) fun r30=>
 ob ((some r30.1).bind (Value.int? .i64)) fun x31=>
 bb (x31 != 0)
 (some (.ret (.i 2) r30.2))
 (pb (0≤x1∧x1 < (3:Int))
 (ob ((([.i x2,.i x3,.s A4 n5 c6,.i x7,.i x8,.s A9 n10 c11,.i x12,.i x13,.s A14 n15 c16]:List Value)[0+(x1.toNat*3)+0+0]?).bind (Value.int? .i64)) fun x32=>
 bb (x32 != i64.wrap (Int.tdiv x2 2))
 (some (.ret (.i 2) r30.2))
 (pb (0≤x1∧x1 < (3:Int))
 (ob ((([.i x2,.i x3,.s A4 n5 c6,.i x7,.i x8,.s A9 n10 c11,.i x12,.i x13,.s A14 n15 c16]:List Value)[0+(x1.toNat*3)+1+0]?).bind (Value.int? .i64)) fun x33=>
 bb (x33 != i64.wrap (Int.tdiv x3 2))
 (some (.ret (.i 2) r30.2))
 (some (q8.Ca (i64.wrap (x1+1)) x2 x3 A4 n5 c6 x7 x8 A9 n10 c11 x12 x13 A14 n15 c16 r30.2))) none)) none)) none)
 (some (.ret (.i 0) M)):=by kernel_rfl
theorem z70.entry:entry P T k lo F.z70 [.agg ⟨[.b b1,.i x2,.b b3,.b b4,.i x5,.i x6,.i x7,.i x8,.i x9,.i x10,.i x11,.i x12,.i x13,.i x14,.i x15,.i x16,.i x17,.b b18,.i x19,.i x20,.i x21,.i x22,.i x23,.b b24,.i x25,.i x26,.s A27 n28 c29,.b b30,.b b31,.b b32]⟩] M=
 bb (x10 == 0)
 (ob (Program.keyLits P 9 29 [.i x11,.i x12,.i x13,.i x14,.i x15]) fun q38=>ob (Program.keyLits P 9 29 [.i 0,.i 0,.i 0,.i 0,.i 0]) fun q39=>
 some (.ret (.b (qp q38 q39)) M))
 (some (.ret (.b false) M)):=by kernel_rfl
theorem ja.entry:entry P T k lo F.ja [.agg ⟨[.i x1,.i x2,.s A3 n4 c5,.i x6,.i x7,.s A8 n9 c10,.i x11,.i x12,.s A13 n14 c15]⟩,.agg ⟨[.b b16,.i x17,.b b18,.b b19,.i x20,.i x21,.i x22,.i x23,.i x24,.i x25,.i x26,.i x27,.i x28,.i x29,.i x30,.i x31,.i x32,.b b33,.i x34,.i x35,.i x36,.i x37,.i x38,.b b39,.i x40,.i x41,.s A42 n43 c44,.b b45,.b b46,.b b47]⟩,.agg ⟨[.i x48,.i x49,.s A50 n51 c52,.s A53 n54 c55,.s A56 n57 c58,.i x59,.i x60,.s A61 n62 c63,.s A64 n65 c66,.s A67 n68 c69,.i x70,.i x71,.s A72 n73 c74,.s A75 n76 c77,.s A78 n79 c80,.s A81 n82 c83,.s A84 n85 c86,.s A87 n88 c89,.s A90 n91 c92,.s A93 n94 c95]⟩] M=
 some (ja.Ca 0 x1 x2 A3 n4 c5 x6 x7 A8 n9 c10 x11 x12 A13 n14 c15 b16 x17 b18 b19 x20 x21 x22 x23 x24 x25 x26 x27 x28 x29 x30 x31 x32 b33 x34 x35 x36 x37 x38 b39 x40 x41 A42 n43 c44 b45 b46 b47 x48 x49 A50 n51 c52 A53 n54 c55 A56 n57 c58 x59 x60 A61 n62 c63 A64 n65 c66 A67 n68 c69 x70 x71 A72 n73 c74 A75 n76 c77 A78 n79 c80 A81 n82 c83 A84 n85 c86 A87 n88 c89 A90 n91 c92 A93 n94 c95 0 0 none 0 0 0 0 none 0 0 0 0 none 0 0 x34 x35 x36 x36 x37 x37 ([.i x1,.i x2,.s A3 n4 c5,.i x6,.i x7,.s A8 n9 c10,.i x11,.i x12,.s A13 n14 c15]) M):=by kernel_rfl
theorem ja.Pa:pz P T k lo F.ja (ja.Ca x1 x2 x3 A4 n5 c6 x7 x8 A9 n10 c11 x12 x13 A14 n15 c16 b17 x18 b19 b20 x21 x22 x23 x24 x25 x26 x27 x28 x29 x30 x31 x32 x33 b34 x35 x36 x37 x38 x39 b40 x41 x42 A43 n44 c45 b46 b47 b48 x49 x50 A51 n52 c53 A54 n55 c56 A57 n58 c59 x60 x61 A62 n63 c64 A65 n66 c67 A68 n69 c70 x71 x72 A73 n74 c75 A76 n77 c78 A79 n80 c81 A82 n83 c84 A85 n86 c87 A88 n89 c90 A91 n92 c93 A94 n95 c96 x97 x98 A99 n100 c101 x102 x103 A104 n105 c106 x107 x108 A109 n110 c111 x112 x113 x114 x115 x116 x117 cs118 M)=
 bb (decide (x1 < 3))
 (pb (0≤x1∧x1 < (3:Int))
 (ob ((([.i x2,.i x3,.s A4 n5 c6,.i x7,.i x8,.s A9 n10 c11,.i x12,.i x13,.s A14 n15 c16]:List Value)[0+(x1.toNat*3)+0]?).bind (Value.int? .i64)) fun x119=>
 ob ((([.i x2,.i x3,.s A4 n5 c6,.i x7,.i x8,.s A9 n10 c11,.i x12,.i x13,.s A14 n15 c16]:List Value)[0+(x1.toNat*3)+1]?).bind (Value.int? .i64)) fun x120=>
 ob ((([.i x2,.i x3,.s A4 n5 c6,.i x7,.i x8,.s A9 n10 c11,.i x12,.i x13,.s A14 n15 c16]:List Value)[0+(x1.toNat*3)+2]?).bind Value.slc?) fun s121=>
 pb (0≤x1∧x1 < (3:Int))
 (ob ((([.i x49,.i x50,.s A51 n52 c53,.s A54 n55 c56,.s A57 n58 c59,.i x60,.i x61,.s A62 n63 c64,.s A65 n66 c67,.s A68 n69 c70,.i x71,.i x72,.s A73 n74 c75,.s A76 n77 c78,.s A79 n80 c81,.s A82 n83 c84,.s A85 n86 c87,.s A88 n89 c90,.s A91 n92 c93,.s A94 n95 c96]:List Value)[0+(x1.toNat*5)+0]?).bind (Value.int? .i64)) fun x122=>
 ob ((([.i x49,.i x50,.s A51 n52 c53,.s A54 n55 c56,.s A57 n58 c59,.i x60,.i x61,.s A62 n63 c64,.s A65 n66 c67,.s A68 n69 c70,.i x71,.i x72,.s A73 n74 c75,.s A76 n77 c78,.s A79 n80 c81,.s A82 n83 c84,.s A85 n86 c87,.s A88 n89 c90,.s A91 n92 c93,.s A94 n95 c96]:List Value)[0+(x1.toNat*5)+1]?).bind (Value.int? .i64)) fun x123=>
 ob ((([.i x49,.i x50,.s A51 n52 c53,.s A54 n55 c56,.s A57 n58 c59,.i x60,.i x61,.s A62 n63 c64,.s A65 n66 c67,.s A68 n69 c70,.i x71,.i x72,.s A73 n74 c75,.s A76 n77 c78,.s A79 n80 c81,.s A82 n83 c84,.s A85 n86 c87,.s A88 n89 c90,.s A91 n92 c93,.s A94 n95 c96]:List Value)[0+(x1.toNat*5)+2]?).bind Value.slc?) fun s124=>
 ob ((([.i x49,.i x50,.s A51 n52 c53,.s A54 n55 c56,.s A57 n58 c59,.i x60,.i x61,.s A62 n63 c64,.s A65 n66 c67,.s A68 n69 c70,.i x71,.i x72,.s A73 n74 c75,.s A76 n77 c78,.s A79 n80 c81,.s A82 n83 c84,.s A85 n86 c87,.s A88 n89 c90,.s A91 n92 c93,.s A94 n95 c96]:List Value)[0+(x1.toNat*5)+3]?).bind Value.slc?) fun s125=>
 ob ((([.i x49,.i x50,.s A51 n52 c53,.s A54 n55 c56,.s A57 n58 c59,.i x60,.i x61,.s A62 n63 c64,.s A65 n66 c67,.s A68 n69 c70,.i x71,.i x72,.s A73 n74 c75,.s A76 n77 c78,.s A79 n80 c81,.s A82 n83 c84,.s A85 n86 c87,.s A88 n89 c90,.s A91 n92 c93,.s A94 n95 c96]:List Value)[0+(x1.toNat*5)+4]?).bind Value.slc?) fun s126=>
 pb (0≤x1∧x1 < (3:Int))
 (ob ((([.i x112,.i x113,.i x114,.i x115,.i x116,.i x117]:List Value)[0+(x1.toNat*2)+0+0]?).bind (Value.int? .i64)) fun x127=>
 ob (z5 P T k lo F.z6 [.agg ⟨[.i x119,.i x120,.s s121.a s121.n s121.c]⟩,.agg ⟨[.i x122,.i x123,.s s124.a s124.n s124.c,.s s125.a s125.n s125.c,.s s126.a s126.n s126.c]⟩,.b true,.b (decide (x1 > 0)),.i x127,.i x39] M) fun r128=>
 ob (r128.1.tup? 2) fun l129=>
 ob ((l129[0]?).bind (Value.agg? 3)) fun l130=>
 ob ((l130[0]?).bind (Value.int? .i64)) fun x131=>
 ob ((l130[1]?).bind (Value.int? .i64)) fun x132=>
 ob ((l130[2]?).bind Value.slc?) fun s133=>
 ob ((l129[1]?).bind (Value.int? .i64)) fun x134=>
 bb (x134 != 0)
 (some (.ret (.tuple ⟨[.agg ⟨[.i 0,.i 0,.s none 0 0,.i 0,.i 0,.s none 0 0,.i 0,.i 0,.s none 0 0]⟩,.i x134]⟩) r128.2))
 (pb (0≤x1∧x1 < (3:Int))
 (ob ((([.i x49,.i x50,.s A51 n52 c53,.s A54 n55 c56,.s A57 n58 c59,.i x60,.i x61,.s A62 n63 c64,.s A65 n66 c67,.s A68 n69 c70,.i x71,.i x72,.s A73 n74 c75,.s A76 n77 c78,.s A79 n80 c81,.s A82 n83 c84,.s A85 n86 c87,.s A88 n89 c90,.s A91 n92 c93,.s A94 n95 c96]:List Value)[0+(x1.toNat*5)+0]?).bind (Value.int? .i64)) fun x135=>
 ob ((([.i x49,.i x50,.s A51 n52 c53,.s A54 n55 c56,.s A57 n58 c59,.i x60,.i x61,.s A62 n63 c64,.s A65 n66 c67,.s A68 n69 c70,.i x71,.i x72,.s A73 n74 c75,.s A76 n77 c78,.s A79 n80 c81,.s A82 n83 c84,.s A85 n86 c87,.s A88 n89 c90,.s A91 n92 c93,.s A94 n95 c96]:List Value)[0+(x1.toNat*5)+1]?).bind (Value.int? .i64)) fun x136=>
 ob ((([.i x49,.i x50,.s A51 n52 c53,.s A54 n55 c56,.s A57 n58 c59,.i x60,.i x61,.s A62 n63 c64,.s A65 n66 c67,.s A68 n69 c70,.i x71,.i x72,.s A73 n74 c75,.s A76 n77 c78,.s A79 n80 c81,.s A82 n83 c84,.s A85 n86 c87,.s A88 n89 c90,.s A91 n92 c93,.s A94 n95 c96]:List Value)[0+(x1.toNat*5)+2]?).bind Value.slc?) fun s137=>
 ob ((([.i x49,.i x50,.s A51 n52 c53,.s A54 n55 c56,.s A57 n58 c59,.i x60,.i x61,.s A62 n63 c64,.s A65 n66 c67,.s A68 n69 c70,.i x71,.i x72,.s A73 n74 c75,.s A76 n77 c78,.s A79 n80 c81,.s A82 n83 c84,.s A85 n86 c87,.s A88 n89 c90,.s A91 n92 c93,.s A94 n95 c96]:List Value)[0+(x1.toNat*5)+3]?).bind Value.slc?) fun s138=>
 ob ((([.i x49,.i x50,.s A51 n52 c53,.s A54 n55 c56,.s A57 n58 c59,.i x60,.i x61,.s A62 n63 c64,.s A65 n66 c67,.s A68 n69 c70,.i x71,.i x72,.s A73 n74 c75,.s A76 n77 c78,.s A79 n80 c81,.s A82 n83 c84,.s A85 n86 c87,.s A88 n89 c90,.s A91 n92 c93,.s A94 n95 c96]:List Value)[0+(x1.toNat*5)+4]?).bind Value.slc?) fun s139=>
 pb (0≤x1∧x1 < (3:Int))
 (ob ((([.i x112,.i x113,.i x114,.i x115,.i x116,.i x117]:List Value)[0+(x1.toNat*2)+1+0]?).bind (Value.int? .i64)) fun x140=>
 ob (z5 P T k lo F.z6 [.agg ⟨[.i x131,.i x132,.s s133.a s133.n s133.c]⟩,.agg ⟨[.i x135,.i x136,.s s137.a s137.n s137.c,.s s138.a s138.n s138.c,.s s139.a s139.n s139.c]⟩,.b false,.b (decide (x1 > 0)),.i x140,.i x39] r128.2) fun r141=>
 ob (r141.1.tup? 2) fun l142=>
 ob ((l142[0]?).bind (Value.agg? 3)) fun l143=>
 ob ((l143[0]?).bind (Value.int? .i64)) fun x144=>
 ob ((l143[1]?).bind (Value.int? .i64)) fun x145=>
 ob ((l143[2]?).bind Value.slc?) fun s146=>
 ob ((l142[1]?).bind (Value.int? .i64)) fun x147=>
 bb (x147 != 0)
 (some (.ret (.tuple ⟨[.agg ⟨[.i 0,.i 0,.s none 0 0,.i 0,.i 0,.s none 0 0,.i 0,.i 0,.s none 0 0]⟩,.i x147]⟩) r141.2))
 (pb (0≤x1∧x1 < (3:Int))
 (pb (0+(x1.toNat*3)+3≤cs118.length)
 (some (ja.Ca (i64.wrap (x1+1)) x2 x3 A4 n5 c6 x7 x8 A9 n10 c11 x12 x13 A14 n15 c16 b17 x18 b19 b20 x21 x22 x23 x24 x25 x26 x27 x28 x29 x30 x31 x32 x33 b34 x35 x36 x37 x38 x39 b40 x41 x42 A43 n44 c45 b46 b47 b48 x49 x50 A51 n52 c53 A54 n55 c56 A57 n58 c59 x60 x61 A62 n63 c64 A65 n66 c67 A68 n69 c70 x71 x72 A73 n74 c75 A76 n77 c78 A79 n80 c81 A82 n83 c84 A85 n86 c87 A88 n89 c90 A91 n92 c93 A94 n95 c96 x97 x98 A99 n100 c101 x102 x103 A104 n105 c106 x107 x108 A109 n110 c111 x112 x113 x114 x115 x116 x117 (setL cs118 (0+(x1.toNat*3)) [.i x144,.i x145,.s s146.a s146.n s146.c]) r141.2)) none) none)) none) none)) none) none) none)
 (ob ((cs118[0]?).bind (Value.int? .i64)) fun x148=>
 ob ((cs118[1]?).bind (Value.int? .i64)) fun x149=>
 ob ((cs118[2]?).bind Value.slc?) fun s150=>
 ob ((cs118[3]?).bind (Value.int? .i64)) fun x151=>
 ob ((cs118[4]?).bind (Value.int? .i64)) fun x152=>
 ob ((cs118[5]?).bind Value.slc?) fun s153=>
 ob ((cs118[6]?).bind (Value.int? .i64)) fun x154=>
 ob ((cs118[7]?).bind (Value.int? .i64)) fun x155=>
 ob ((cs118[8]?).bind Value.slc?) fun s156=>
 some (.ret (.tuple ⟨[.agg ⟨[.i x148,.i x149,.s s150.a s150.n s150.c,.i x151,.i x152,.s s153.a s153.n s153.c,.i x154,.i x155,.s s156.a s156.n s156.c]⟩,.i 0]⟩) M)):=by kernel_rfl
theorem zv.entry:entry P T k lo F.zv [.agg ⟨[.i x1,.i x2,.s A3 n4 c5,.i x6,.i x7,.s A8 n9 c10,.i x11,.i x12,.s A13 n14 c15]⟩,.s A16 n17 c18,.s A19 n20 c21,.agg ⟨[.b b22,.i x23,.b b24,.b b25,.i x26,.i x27,.i x28,.i x29,.i x30,.i x31,.i x32,.i x33,.i x34,.i x35,.i x36,.i x37,.i x38,.b b39,.i x40,.i x41,.i x42,.i x43,.i x44,.b b45,.i x46,.i x47,.s A48 n49 c50,.b b51,.b b52,.b b53]⟩] M=
 ob (z5 P T k lo F.yp [.agg ⟨[.i x1,.i x2,.s A3 n4 c5,.i x6,.i x7,.s A8 n9 c10,.i x11,.i x12,.s A13 n14 c15]⟩,.s A16 n17 c18,.s A19 n20 c21,.agg ⟨[.b b22,.i x23,.b b24,.b b25,.i x26,.i x27,.i x28,.i x29,.i x30,.i x31,.i x32,.i x33,.i x34,.i x35,.i x36,.i x37,.i x38,.b b39,.i x40,.i x41,.i x42,.i x43,.i x44,.b b45,.i x46,.i x47,.s A48 n49 c50,.b b51,.b b52,.b b53]⟩] M) fun r59=>
 ob ((some r59.1).bind Value.bool?) fun b60=>
 bb (!b60)
 (some (.ret (.tuple ⟨[.agg ⟨[.i 0,.i 0,.s none 0 0,.i 0,.i 0,.s none 0 0,.i 0,.i 0,.s none 0 0]⟩,.i 2]⟩) r59.2))
 (ob (z5 P T k lo F.y7 [.agg ⟨[.i x1,.i x2,.s A3 n4 c5,.i x6,.i x7,.s A8 n9 c10,.i x11,.i x12,.s A13 n14 c15]⟩] r59.2) fun r61=>
 ob ((some r61.1).bind (Value.agg? 9)) fun l62=>
 ob ((l62[0]?).bind (Value.int? .i64)) fun x63=>
 ob ((l62[1]?).bind (Value.int? .i64)) fun x64=>
 ob ((l62[2]?).bind Value.slc?) fun s65=>
 ob ((l62[3]?).bind (Value.int? .i64)) fun x66=>
 ob ((l62[4]?).bind (Value.int? .i64)) fun x67=>
 ob ((l62[5]?).bind Value.slc?) fun s68=>
 ob ((l62[6]?).bind (Value.int? .i64)) fun x69=>
 ob ((l62[7]?).bind (Value.int? .i64)) fun x70=>
 ob ((l62[8]?).bind Value.slc?) fun s71=>
 bb (!b45)
 (some (.ret (.tuple ⟨[.agg ⟨[.i x63,.i x64,.s s65.a s65.n s65.c,.i x66,.i x67,.s s68.a s68.n s68.c,.i x69,.i x70,.s s71.a s71.n s71.c]⟩,.i 0]⟩) r61.2))
 (some (zv.Ca A16 n17 c18 A19 n20 c21 x1 x2 0 x1 x2 A3 n4 c5 x6 x7 A8 n9 c10 x11 x12 A13 n14 c15 b22 x23 b24 b25 x26 x27 x28 x29 x30 x31 x32 x33 x34 x35 x36 x37 x38 b39 x40 x41 x42 x43 x44 b45 x46 x47 A48 n49 c50 b51 b52 b53 0 0 none 0 0 0 0 none 0 0 0 0 none 0 0 x63 x64 s65.a s65.n s65.c x66 x67 s68.a s68.n s68.c x69 x70 s71.a s71.n s71.c r61.2))):=by kernel_rfl
theorem zv.Pa:pz P T k lo F.zv (zv.Ca A1 n2 c3 A4 n5 c6 x7 x8 x9 x10 x11 A12 n13 c14 x15 x16 A17 n18 c19 x20 x21 A22 n23 c24 b25 x26 b27 b28 x29 x30 x31 x32 x33 x34 x35 x36 x37 x38 x39 x40 x41 b42 x43 x44 x45 x46 x47 b48 x49 x50 A51 n52 c53 b54 b55 b56 x57 x58 A59 n60 c61 x62 x63 A64 n65 c66 x67 x68 A69 n70 c71 x72 x73 A74 n75 c76 x77 x78 A79 n80 c81 x82 x83 A84 n85 c86 M)=
 bb (decide (x9 < x8))
 (some (zv.Cb A1 n2 c3 A4 n5 c6 x7 x8 x9 0 x10 x11 A12 n13 c14 x15 x16 A17 n18 c19 x20 x21 A22 n23 c24 b25 x26 b27 b28 x29 x30 x31 x32 x33 x34 x35 x36 x37 x38 x39 x40 x41 b42 x43 x44 x45 x46 x47 b48 x49 x50 A51 n52 c53 b54 b55 b56 x57 x58 A59 n60 c61 x62 x63 A64 n65 c66 x67 x68 A69 n70 c71 x72 x73 A74 n75 c76 x77 x78 A79 n80 c81 x82 x83 A84 n85 c86 M))
 (some (.ret (.tuple ⟨[.agg ⟨[.i x72,.i x73,.s A74 n75 c76,.i x77,.i x78,.s A79 n80 c81,.i x82,.i x83,.s A84 n85 c86]⟩,.i 0]⟩) M)):=by kernel_rfl
theorem zv.Pb:pz P T k lo F.zv (zv.Cb A1 n2 c3 A4 n5 c6 x7 x8 x9 x10 x11 x12 A13 n14 c15 x16 x17 A18 n19 c20 x21 x22 A23 n24 c25 b26 x27 b28 b29 x30 x31 x32 x33 x34 x35 x36 x37 x38 x39 x40 x41 x42 b43 x44 x45 x46 x47 x48 b49 x50 x51 A52 n53 c54 b55 b56 b57 x58 x59 A60 n61 c62 x63 x64 A65 n66 c67 x68 x69 A70 n71 c72 x73 x74 A75 n76 c77 x78 x79 A80 n81 c82 x83 x84 A85 n86 c87 M)=
 bb (decide (x10 < x7))
 (pb (0≤i64.wrap ((i64.wrap ((i64.wrap (Int.tdiv x9 8))*(i64.wrap (Int.tdiv x7 8))))+(i64.wrap (Int.tdiv x10 8)))∧i64.wrap ((i64.wrap ((i64.wrap (Int.tdiv x9 8))*(i64.wrap (Int.tdiv x7 8))))+(i64.wrap (Int.tdiv x10 8))) < (n2:Int))
 (ob A1 fun a88=>
 ob ((M.ld (plus a88 ((i64.wrap ((i64.wrap ((i64.wrap (Int.tdiv x9 8))*(i64.wrap (Int.tdiv x7 8))))+(i64.wrap (Int.tdiv x10 8)))).toNat))).bind Value.bool?) fun b89=>
 bb (!b89)
 (pb (0≤i64.wrap ((i64.wrap ((i64.wrap (Int.tdiv x9 64))*(i64.wrap (Int.tdiv (i64.wrap (x7+63)) 64))))+(i64.wrap (Int.tdiv x10 64)))∧i64.wrap ((i64.wrap ((i64.wrap (Int.tdiv x9 64))*(i64.wrap (Int.tdiv (i64.wrap (x7+63)) 64))))+(i64.wrap (Int.tdiv x10 64))) < (n5:Int))
 (ob A4 fun a90=>
 ob ((M.ld (plus a90 ((i64.wrap ((i64.wrap ((i64.wrap (Int.tdiv x9 64))*(i64.wrap (Int.tdiv (i64.wrap (x7+63)) 64))))+(i64.wrap (Int.tdiv x10 64)))).toNat))).bind (Value.int? .i64)) fun x91=>
 pb (0≤x91∧x91 < (n53:Int))
 (ob A52 fun a92=>
 ob ((M.ld (plus a92 (x91.toNat*4))).bind (Value.int? .i64)) fun x93=>
 ob ((M.ld (plus (plus a92 (x91.toNat*4)) 1)).bind (Value.int? .i64)) fun x94=>
 ob ((M.ld (plus (plus a92 (x91.toNat*4)) 2)).bind (Value.int? .i64)) fun x95=>
 ob ((M.ld (plus (plus a92 (x91.toNat*4)) 3)).bind (Value.int? .i64)) fun x96=>
 ob (z5 P T k lo F.z9 [.agg ⟨[.i x11,.i x12,.s A13 n14 c15,.i x16,.i x17,.s A18 n19 c20,.i x21,.i x22,.s A23 n24 c25]⟩,.agg ⟨[.i x73,.i x74,.s A75 n76 c77,.i x78,.i x79,.s A80 n81 c82,.i x83,.i x84,.s A85 n86 c87]⟩,.i x10,.i x9,.agg ⟨[.i x93,.i x94,.i x95,.i x96]⟩,.i x50] M) fun r97=>
 ob (r97.1.tup? 0) fun l98=>
 some (zv.Cc A1 n2 c3 A4 n5 c6 x7 x8 x9 x10 x11 x12 A13 n14 c15 x16 x17 A18 n19 c20 x21 x22 A23 n24 c25 b26 x27 b28 b29 x30 x31 x32 x33 x34 x35 x36 x37 x38 x39 x40 x41 x42 b43 x44 x45 x46 x47 x48 b49 x50 x51 A52 n53 c54 b55 b56 b57 x58 x59 A60 n61 c62 x63 x64 A65 n66 c67 x68 x69 A70 n71 c72 x73 x74 A75 n76 c77 x78 x79 A80 n81 c82 x83 x84 A85 n86 c87 r97.2)) none) none)
 (some (zv.Cc A1 n2 c3 A4 n5 c6 x7 x8 x9 x10 x11 x12 A13 n14 c15 x16 x17 A18 n19 c20 x21 x22 A23 n24 c25 b26 x27 b28 b29 x30 x31 x32 x33 x34 x35 x36 x37 x38 x39 x40 x41 x42 b43 x44 x45 x46 x47 x48 b49 x50 x51 A52 n53 c54 b55 b56 b57 x58 x59 A60 n61 c62 x63 x64 A65 n66 c67 x68 x69 A70 n71 c72 x73 x74 A75 n76 c77 x78 x79 A80 n81 c82 x83 x84 A85 n86 c87 M))) none)
 (some (zv.Ca A1 n2 c3 A4 n5 c6 x7 x8 (i64.wrap (x9+8)) x11 x12 A13 n14 c15 x16 x17 A18 n19 c20 x21 x22 A23 n24 c25 b26 x27 b28 b29 x30 x31 x32 x33 x34 x35 x36 x37 x38 x39 x40 x41 x42 b43 x44 x45 x46 x47 x48 b49 x50 x51 A52 n53 c54 b55 b56 b57 x58 x59 A60 n61 c62 x63 x64 A65 n66 c67 x68 x69 A70 n71 c72 x73 x74 A75 n76 c77 x78 x79 A80 n81 c82 x83 x84 A85 n86 c87 M)):=by kernel_rfl
theorem zv.Pc:pz P T k lo F.zv (zv.Cc A1 n2 c3 A4 n5 c6 x7 x8 x9 x10 x11 x12 A13 n14 c15 x16 x17 A18 n19 c20 x21 x22 A23 n24 c25 b26 x27 b28 b29 x30 x31 x32 x33 x34 x35 x36 x37 x38 x39 x40 x41 x42 b43 x44 x45 x46 x47 x48 b49 x50 x51 A52 n53 c54 b55 b56 b57 x58 x59 A60 n61 c62 x63 x64 A65 n66 c67 x68 x69 A70 n71 c72 x73 x74 A75 n76 c77 x78 x79 A80 n81 c82 x83 x84 A85 n86 c87 M)=
 some (zv.Cb A1 n2 c3 A4 n5 c6 x7 x8 x9 (i64.wrap (x10+8)) x11 x12 A13 n14 c15 x16 x17 A18 n19 c20 x21 x22 A23 n24 c25 b26 x27 b28 b29 x30 x31 x32 x33 x34 x35 x36 x37 x38 x39 x40 x41 x42 b43 x44 x45 x46 x47 x48 b49 x50 x51 A52 n53 c54 b55 b56 b57 x58 x59 A60 n61 c62 x63 x64 A65 n66 c67 x68 x69 A70 n71 c72 x73 x74 A75 n76 c77 x78 x79 A80 n81 c82 x83 x84 A85 n86 c87 M):=by kernel_rfl
theorem zf.entry:entry P T k lo F.zf [.agg ⟨[.i x1,.i x2,.s A3 n4 c5]⟩,.agg ⟨[.i x6,.i x7,.s A8 n9 c10]⟩,.s A11 n12 c13,.i x14] M=
 ob (z5 P T k lo F.z8w [.agg ⟨[.i x1,.i x2,.s A3 n4 c5]⟩] M) fun r20=>
 ob ((some r20.1).bind (Value.int? .i64)) fun x21=>
 bb (x21 != 0)
 (some (.ret (.tuple ⟨[.agg ⟨[.i 0,.i 0,.s none 0 0]⟩,.i 2]⟩) r20.2))
 (ob (z5 P T k lo F.z8w [.agg ⟨[.i x6,.i x7,.s A8 n9 c10]⟩] r20.2) fun r22=>
 ob ((some r22.1).bind (Value.int? .i64)) fun x23=>
 bb (x23 != 0)
 (some (.ret (.tuple ⟨[.agg ⟨[.i 0,.i 0,.s none 0 0]⟩,.i 2]⟩) r22.2))
 (bb (x1 != x6)
 (some (.ret (.tuple ⟨[.agg ⟨[.i 0,.i 0,.s none 0 0]⟩,.i 2]⟩) r22.2))
 (bb (x2 != x7)
 (some (.ret (.tuple ⟨[.agg ⟨[.i 0,.i 0,.s none 0 0]⟩,.i 2]⟩) r22.2))
 (bb (x14 != 64)
 (bb (x14 != 32)
 (some (.ret (.tuple ⟨[.agg ⟨[.i 0,.i 0,.s none 0 0]⟩,.i 2]⟩) r22.2))
 (pb (x14=0) none
 (pb (x14=0) none
 (bb ((n12:Int) != i64.wrap ((i64.wrap (Int.tdiv (i64.wrap ((i64.wrap (x1+x14)) - 1)) x14))*(i64.wrap (Int.tdiv (i64.wrap ((i64.wrap (x2+x14)) - 1)) x14))))
 (some (.ret (.tuple ⟨[.agg ⟨[.i 0,.i 0,.s none 0 0]⟩,.i 2]⟩) r22.2))
 (some (zf.Ca A11 n12 c13 x14 (i64.wrap (Int.tdiv (i64.wrap ((i64.wrap (x1+x14)) - 1)) x14)) 0 x1 x2 A3 n4 c5 x6 x7 A8 n9 c10 0 0 none 0 0 r22.2))))))
 (pb (x14=0) none
 (pb (x14=0) none
 (bb ((n12:Int) != i64.wrap ((i64.wrap (Int.tdiv (i64.wrap ((i64.wrap (x1+x14)) - 1)) x14))*(i64.wrap (Int.tdiv (i64.wrap ((i64.wrap (x2+x14)) - 1)) x14))))
 (some (.ret (.tuple ⟨[.agg ⟨[.i 0,.i 0,.s none 0 0]⟩,.i 2]⟩) r22.2))
 (some (zf.Ca A11 n12 c13 x14 (i64.wrap (Int.tdiv (i64.wrap ((i64.wrap (x1+x14)) - 1)) x14)) 0 x1 x2 A3 n4 c5 x6 x7 A8 n9 c10 0 0 none 0 0 r22.2))))))))):=by kernel_rfl
theorem zf.Pa:pz P T k lo F.zf (zf.Ca A1 n2 c3 x4 x5 x6 x7 x8 A9 n10 c11 x12 x13 A14 n15 c16 x17 x18 A19 n20 c21 M)=
 bb (decide (x6 < (n2:Int)))
 (pb (0≤x6∧x6 < (n2:Int))
 (ob A1 fun a24=>
 ob ((M.ld (plus a24 (x6.toNat*7))).bind Value.bool?) fun b25=>
 ob ((M.ld (plus (plus a24 (x6.toNat*7)) 1)).bind (Value.int? .i64)) fun x26=>
 ob ((M.ld (plus (plus a24 (x6.toNat*7)) 2)).bind (Value.int? .i64)) fun x27=>
 ob ((M.ld (plus (plus a24 (x6.toNat*7)) 3)).bind (Value.int? .i64)) fun x28=>
 ob ((M.ld (plus (plus a24 (x6.toNat*7)) 4)).bind (Value.int? .i64)) fun x29=>
 ob ((M.ld (plus (plus a24 (x6.toNat*7)) 5)).bind (Value.int? .i64)) fun x30=>
 ob ((M.ld (plus (plus a24 (x6.toNat*7)) 6)).bind (Value.int? .i64)) fun x31=>
 ob (z5 P T k lo F.z8t [.agg ⟨[.b b25,.i x26,.i x27,.i x28,.i x29,.i x30,.i x31]⟩] M) fun r32=>
 ob ((some r32.1).bind (Value.int? .i64)) fun x33=>
 bb (x33 != 0)
 (some (.ret (.tuple ⟨[.agg ⟨[.i 0,.i 0,.s none 0 0]⟩,.i 2]⟩) r32.2))
 (some (zf.Ca A1 n2 c3 x4 x5 (i64.wrap (x6+1)) x7 x8 A9 n10 c11 x12 x13 A14 n15 c16 x17 x18 A19 n20 c21 r32.2))) none)
 (ob (z5 P T k lo F.z66 [.agg ⟨[.i x7,.i x8,.s A9 n10 c11]⟩] M) fun r34=>
 ob ((some r34.1).bind (Value.agg? 3)) fun l35=>
 ob ((l35[0]?).bind (Value.int? .i64)) fun x36=>
 ob ((l35[1]?).bind (Value.int? .i64)) fun x37=>
 ob ((l35[2]?).bind Value.slc?) fun s38=>
 some (zf.Cb A1 n2 c3 x4 x5 0 x7 x8 A9 n10 c11 x12 x13 A14 n15 c16 x17 x18 A19 n20 c21 x36 x37 s38.a s38.n s38.c r34.2)):=by kernel_rfl
theorem zf.Pb:pz P T k lo F.zf (zf.Cb A1 n2 c3 x4 x5 x6 x7 x8 A9 n10 c11 x12 x13 A14 n15 c16 x17 x18 A19 n20 c21 x22 x23 A24 n25 c26 M)=
 bb (decide (x6 < x8))
 (some (zf.Cc A1 n2 c3 x4 x5 x6 0 x7 x8 A9 n10 c11 x12 x13 A14 n15 c16 x17 x18 A19 n20 c21 x22 x23 A24 n25 c26 M))
 (some (.ret (.tuple ⟨[.agg ⟨[.i x22,.i x23,.s A24 n25 c26]⟩,.i 0]⟩) M)):=by kernel_rfl
theorem zf.Pc:pz P T k lo F.zf (zf.Cc A1 n2 c3 x4 x5 x6 x7 x8 x9 A10 n11 c12 x13 x14 A15 n16 c17 x18 x19 A20 n21 c22 x23 x24 A25 n26 c27 M)=
 bb (decide (x7 < x8))
 (pb (x4=0) none
 (pb (x4=0) none
 (pb (0≤i64.wrap ((i64.wrap ((i64.wrap (Int.tdiv x6 x4))*x5))+(i64.wrap (Int.tdiv x7 x4)))∧i64.wrap ((i64.wrap ((i64.wrap (Int.tdiv x6 x4))*x5))+(i64.wrap (Int.tdiv x7 x4))) < (n2:Int))
 (ob A1 fun a39=>
 ob ((M.ld (plus a39 ((i64.wrap ((i64.wrap ((i64.wrap (Int.tdiv x6 x4))*x5))+(i64.wrap (Int.tdiv x7 x4)))).toNat*7))).bind Value.bool?) fun b40=>
 ob ((M.ld (plus (plus a39 ((i64.wrap ((i64.wrap ((i64.wrap (Int.tdiv x6 x4))*x5))+(i64.wrap (Int.tdiv x7 x4)))).toNat*7)) 1)).bind (Value.int? .i64)) fun x41=>
 ob ((M.ld (plus (plus a39 ((i64.wrap ((i64.wrap ((i64.wrap (Int.tdiv x6 x4))*x5))+(i64.wrap (Int.tdiv x7 x4)))).toNat*7)) 2)).bind (Value.int? .i64)) fun x42=>
 ob ((M.ld (plus (plus a39 ((i64.wrap ((i64.wrap ((i64.wrap (Int.tdiv x6 x4))*x5))+(i64.wrap (Int.tdiv x7 x4)))).toNat*7)) 3)).bind (Value.int? .i64)) fun x43=>
 ob ((M.ld (plus (plus a39 ((i64.wrap ((i64.wrap ((i64.wrap (Int.tdiv x6 x4))*x5))+(i64.wrap (Int.tdiv x7 x4)))).toNat*7)) 4)).bind (Value.int? .i64)) fun x44=>
 ob ((M.ld (plus (plus a39 ((i64.wrap ((i64.wrap ((i64.wrap (Int.tdiv x6 x4))*x5))+(i64.wrap (Int.tdiv x7 x4)))).toNat*7)) 5)).bind (Value.int? .i64)) fun x45=>
 ob ((M.ld (plus (plus a39 ((i64.wrap ((i64.wrap ((i64.wrap (Int.tdiv x6 x4))*x5))+(i64.wrap (Int.tdiv x7 x4)))).toNat*7)) 6)).bind (Value.int? .i64)) fun x46=>
 bb b40
 (ob (z5 P T k M.length F.y6 [.agg ⟨[.i x8,.i x9,.s A10 n11 c12]⟩,.agg ⟨[.i x13,.i x14,.s A15 n16 c17]⟩,.i x7,.i x6,.agg ⟨[.b b40,.i x41,.i x42,.i x43,.i x44,.i x45,.i x46]⟩,.i x4] M) fun r47=>
 ob ((some r47.1).bind (Value.int? .u8)) fun x48=>
 pb (0≤i64.wrap ((i64.wrap (x6*x8))+x7)∧i64.wrap ((i64.wrap (x6*x8))+x7) < (n26:Int))
 (ob A25 fun a49=>
 ob (r47.2.st lo (plus a49 ((i64.wrap ((i64.wrap (x6*x8))+x7)).toNat)) [.int .u8 x48]) fun M50=>
 some (zf.Cd A1 n2 c3 x4 x5 x6 x7 x8 x9 A10 n11 c12 x13 x14 A15 n16 c17 x18 x19 A20 n21 c22 x23 x24 A25 n26 c27 M50)) none)
 (some (zf.Cd A1 n2 c3 x4 x5 x6 x7 x8 x9 A10 n11 c12 x13 x14 A15 n16 c17 x18 x19 A20 n21 c22 x23 x24 A25 n26 c27 M))) none)))
 (some (zf.Cb A1 n2 c3 x4 x5 (i64.wrap (x6+1)) x8 x9 A10 n11 c12 x13 x14 A15 n16 c17 x18 x19 A20 n21 c22 x23 x24 A25 n26 c27 M)):=by kernel_rfl
theorem zf.Pd:pz P T k lo F.zf (zf.Cd A1 n2 c3 x4 x5 x6 x7 x8 x9 A10 n11 c12 x13 x14 A15 n16 c17 x18 x19 A20 n21 c22 x23 x24 A25 n26 c27 M)=
 some (zf.Cc A1 n2 c3 x4 x5 x6 (i64.wrap (x7+1)) x8 x9 A10 n11 c12 x13 x14 A15 n16 c17 x18 x19 A20 n21 c22 x23 x24 A25 n26 c27 M):=by kernel_rfl
theorem z9z.entry:entry P T k lo F.z9z [.agg ⟨[.i x1,.i x2,.s A3 n4 c5]⟩,.agg ⟨[.i x6,.i x7,.s A8 n9 c10]⟩] M=
 bb (x1 == x6)
 (bb (x2 == x7)
 (ob (z5 P T k lo F.js [.s A3 n4 c5,.s A8 n9 c10] M) fun r16=>
 ob ((some r16.1).bind Value.bool?) fun b17=>
 some (.ret (.b b17) r16.2))
 (some (.ret (.b false) M)))
 (some (.ret (.b false) M)):=by kernel_rfl
theorem js.entry:entry P T k lo F.js [.s A1 n2 c3,.s A4 n5 c6] M=
 bb ((n2:Int) != (n5:Int))
 (some (.ret (.b false) M))
 (some (js.Ca A1 n2 c3 A4 n5 c6 0 M)):=by kernel_rfl
theorem js.Pa:pz P T k lo F.js (js.Ca A1 n2 c3 A4 n5 c6 x7 M)=
 bb (decide (x7 < (n2:Int)))
 (pb (0≤x7∧x7 < (n2:Int))
 (ob A1 fun a12=>
 ob ((M.ld (plus a12 x7.toNat)).bind (Value.int? .u8)) fun x13=>
 pb (0≤x7∧x7 < (n5:Int))
 (ob A4 fun a14=>
 ob ((M.ld (plus a14 x7.toNat)).bind (Value.int? .u8)) fun x15=>
 bb (x13 != x15)
 (some (.ret (.b false) M))
 (some (js.Ca A1 n2 c3 A4 n5 c6 (i64.wrap (x7+1)) M))) none) none)
 (some (.ret (.b true) M)):=by kernel_rfl
theorem jx.entry:entry P T k lo F.jx [.s A1 n2 c3,.s A4 n5 c6] M=
 bb ((n2:Int) != (n5:Int))
 (some (.ret (.b false) M))
 (some (jx.Ca A1 n2 c3 A4 n5 c6 0 M)):=by kernel_rfl
theorem jx.Pa:pz P T k lo F.jx (jx.Ca A1 n2 c3 A4 n5 c6 x7 M)=
 bb (decide (x7 < (n2:Int)))
 (pb (0≤x7∧x7 < (n2:Int))
 (ob A1 fun a12=>
 ob ((M.ld (plus a12 x7.toNat)).bind (Value.int? .i64)) fun x13=>
 pb (0≤x7∧x7 < (n5:Int))
 (ob A4 fun a14=>
 ob ((M.ld (plus a14 x7.toNat)).bind (Value.int? .i64)) fun x15=>
 bb (x13 != x15)
 (some (.ret (.b false) M))
 (some (jx.Ca A1 n2 c3 A4 n5 c6 (i64.wrap (x7+1)) M))) none) none)
 (some (.ret (.b true) M)):=by kernel_rfl
theorem jg.entry:entry P T k lo F.jg [.s A1 n2 c3,.s A4 n5 c6] M=
 bb ((n2:Int) != (n5:Int))
 (some (.ret (.b false) M))
 (some (jg.Ca A1 n2 c3 A4 n5 c6 0 M)):=by kernel_rfl
theorem jg.Pa:pz P T k lo F.jg (jg.Ca A1 n2 c3 A4 n5 c6 x7 M)=
 bb (decide (x7 < (n2:Int)))
 (pb (0≤x7∧x7 < (n2:Int))
 (ob A1 fun a12=>
 ob ((M.ld (plus a12 x7.toNat)).bind Value.bool?) fun b13=>
 pb (0≤x7∧x7 < (n5:Int))
 (ob A4 fun a14=>
 ob ((M.ld (plus a14 x7.toNat)).bind Value.bool?) fun b15=>
 bb (!(b13 == b15))
 (some (.ret (.b false) M))
 (some (jg.Ca A1 n2 c3 A4 n5 c6 (i64.wrap (x7+1)) M))) none) none)
 (some (.ret (.b true) M)):=by kernel_rfl
theorem yq.entry:entry P T k lo F.yq [] M=
 ob (z5 P T k lo F.jt [.i 16,.i 16,.int .u8 50] M) fun r6=>
 ob (r6.1.tup? 2) fun l7=>
 ob ((l7[0]?).bind (Value.agg? 9)) fun l8=>
 ob ((l8[0]?).bind (Value.int? .i64)) fun x9=>
 ob ((l8[1]?).bind (Value.int? .i64)) fun x10=>
 ob ((l8[2]?).bind Value.slc?) fun s11=>
 ob ((l8[3]?).bind (Value.int? .i64)) fun x12=>
 ob ((l8[4]?).bind (Value.int? .i64)) fun x13=>
 ob ((l8[5]?).bind Value.slc?) fun s14=>
 ob ((l8[6]?).bind (Value.int? .i64)) fun x15=>
 ob ((l8[7]?).bind (Value.int? .i64)) fun x16=>
 ob ((l8[8]?).bind Value.slc?) fun s17=>
 ob ((l7[1]?).bind (Value.int? .i64)) fun x18=>
 pb (0≤(256:Int)∧room 256 1)
 (some (yq.Ca (some ⟨r6.2.length,0,none⟩) 256 256 0 0 0 none 0 0 0 0 none 0 0 0 0 none 0 0 x9 x10 s11.a s11.n s11.c x12 x13 s14.a s14.n s14.c x15 x16 s17.a s17.n s17.c (r6.2 ++ [⟨.fx,y4 [.int .u8 0] 256⟩]:Mem))) none:=by kernel_rfl
theorem yq.Pa:pz P T k lo F.yq (yq.Ca A1 n2 c3 x4 x5 x6 A7 n8 c9 x10 x11 A12 n13 c14 x15 x16 A17 n18 c19 x20 x21 A22 n23 c24 x25 x26 A27 n28 c29 x30 x31 A32 n33 c34 M)=
 bb (decide (x4 < 256))
 (pb (0≤x4∧x4 < (n2:Int))
 (ob A1 fun a35=>
 ob (M.st lo (plus a35 x4.toNat) [.int .u8 100]) fun M36=>
 bb (decide (Int.tmod x4 16 > 7))
 (pb (0≤x4∧x4 < (n2:Int))
 (ob A1 fun a37=>
 ob (M36.st lo (plus a37 x4.toNat) [.int .u8 104]) fun M38=>
 some (yq.Cb A1 n2 c3 x4 x5 x6 A7 n8 c9 x10 x11 A12 n13 c14 x15 x16 A17 n18 c19 x20 x21 A22 n23 c24 x25 x26 A27 n28 c29 x30 x31 A32 n33 c34 M38)) none)
 (some (yq.Cb A1 n2 c3 x4 x5 x6 A7 n8 c9 x10 x11 A12 n13 c14 x15 x16 A17 n18 c19 x20 x21 A22 n23 c24 x25 x26 A27 n28 c29 x30 x31 A32 n33 c34 M36))) none)
 (some (.ret (.agg ⟨[.i 16,.i 16,.s A1 n2 c3,.i x25,.i x26,.s A27 n28 c29,.i x30,.i x31,.s A32 n33 c34]⟩) M)):=by kernel_rfl
theorem yq.Pb:pz P T k lo F.yq (yq.Cb A1 n2 c3 x4 x5 x6 A7 n8 c9 x10 x11 A12 n13 c14 x15 x16 A17 n18 c19 x20 x21 A22 n23 c24 x25 x26 A27 n28 c29 x30 x31 A32 n33 c34 M)=
 some (yq.Ca A1 n2 c3 (i64.wrap (x4+1)) x5 x6 A7 n8 c9 x10 x11 A12 n13 c14 x15 x16 A17 n18 c19 x20 x21 A22 n23 c24 x25 x26 A27 n28 c29 x30 x31 A32 n33 c34 M):=by kernel_rfl
theorem za3.entry:entry P T k lo F.za3 [.i x1,.i x2,.int .u8 x3] M=
 ob (z5 P T k lo F.q9 [.i (i64.wrap (Int.tdiv x1 4)),.i (i64.wrap (Int.tdiv x2 4)),.int .u8 x3] M) fun r9=>
 ob ((some r9.1).bind (Value.agg? 5)) fun l10=>
 ob ((l10[0]?).bind (Value.int? .i64)) fun x11=>
 ob ((l10[1]?).bind (Value.int? .i64)) fun x12=>
 ob ((l10[2]?).bind Value.slc?) fun s13=>
 ob ((l10[3]?).bind Value.slc?) fun s14=>
 ob ((l10[4]?).bind Value.slc?) fun s15=>
 ob (z5 P T k lo F.q9 [.i (i64.wrap (Int.tdiv x1 8)),.i (i64.wrap (Int.tdiv x2 8)),.int .u8 x3] r9.2) fun r16=>
 ob ((some r16.1).bind (Value.agg? 5)) fun l17=>
 ob ((l17[0]?).bind (Value.int? .i64)) fun x18=>
 ob ((l17[1]?).bind (Value.int? .i64)) fun x19=>
 ob ((l17[2]?).bind Value.slc?) fun s20=>
 ob ((l17[3]?).bind Value.slc?) fun s21=>
 ob ((l17[4]?).bind Value.slc?) fun s22=>
 ob (z5 P T k lo F.q9 [.i (i64.wrap (Int.tdiv x1 8)),.i (i64.wrap (Int.tdiv x2 8)),.int .u8 x3] r16.2) fun r23=>
 ob ((some r23.1).bind (Value.agg? 5)) fun l24=>
 ob ((l24[0]?).bind (Value.int? .i64)) fun x25=>
 ob ((l24[1]?).bind (Value.int? .i64)) fun x26=>
 ob ((l24[2]?).bind Value.slc?) fun s27=>
 ob ((l24[3]?).bind Value.slc?) fun s28=>
 ob ((l24[4]?).bind Value.slc?) fun s29=>
 pb (0≤i64.wrap ((i64.wrap (Int.tdiv x1 8))*(i64.wrap (Int.tdiv x2 8)))∧room ((i64.wrap ((i64.wrap (Int.tdiv x1 8))*(i64.wrap (Int.tdiv x2 8)))).toNat) 1)
 (pb (0≤i64.wrap ((i64.wrap (Int.tdiv (i64.wrap (x1+63)) 64))*(i64.wrap (Int.tdiv (i64.wrap (x2+63)) 64)))∧room ((i64.wrap ((i64.wrap (Int.tdiv (i64.wrap (x1+63)) 64))*(i64.wrap (Int.tdiv (i64.wrap (x2+63)) 64)))).toNat) 8)
 (some (.ret (.agg ⟨[.i x11,.i x12,.s s13.a s13.n s13.c,.s s14.a s14.n s14.c,.s s15.a s15.n s15.c,.i x18,.i x19,.s s20.a s20.n s20.c,.s s21.a s21.n s21.c,.s s22.a s22.n s22.c,.i x25,.i x26,.s s27.a s27.n s27.c,.s s28.a s28.n s28.c,.s s29.a s29.n s29.c,.s (some ⟨r23.2.length,0,none⟩) ((i64.wrap ((i64.wrap (Int.tdiv x1 8))*(i64.wrap (Int.tdiv x2 8)))).toNat) ((i64.wrap ((i64.wrap (Int.tdiv x1 8))*(i64.wrap (Int.tdiv x2 8)))).toNat),.s (some ⟨(r23.2 ++ [⟨.fx,y4 [.b false] ((i64.wrap ((i64.wrap (Int.tdiv x1 8))*(i64.wrap (Int.tdiv x2 8)))).toNat)⟩]:Mem).length,0,none⟩) ((i64.wrap ((i64.wrap (Int.tdiv (i64.wrap (x1+63)) 64))*(i64.wrap (Int.tdiv (i64.wrap (x2+63)) 64)))).toNat) ((i64.wrap ((i64.wrap (Int.tdiv (i64.wrap (x1+63)) 64))*(i64.wrap (Int.tdiv (i64.wrap (x2+63)) 64)))).toNat),.s none 0 0,.s none 0 0,.s none 0 0]⟩) ((r23.2 ++ [⟨.fx,y4 [.b false] ((i64.wrap ((i64.wrap (Int.tdiv x1 8))*(i64.wrap (Int.tdiv x2 8)))).toNat)⟩]:Mem) ++ [⟨.fx,y4 [.i 0] ((i64.wrap ((i64.wrap (Int.tdiv (i64.wrap (x1+63)) 64))*(i64.wrap (Int.tdiv (i64.wrap (x2+63)) 64)))).toNat)⟩]:Mem))) none) none:=by kernel_rfl
theorem zir.entry:entry P T k lo F.zir [.agg ⟨[.i x1,.i x2,.s A3 n4 c5]⟩] M=
 ob (z5 P T k lo F.ziv [.i x1,.i x2] M) fun r11=>
 ob ((some r11.1).bind Value.bool?) fun b12=>
 bb (!b12)
 (some (.ret (.i 2) r11.2))
 (bb ((n4:Int) != i64.wrap (x1*x2))
 (some (.ret (.i 2) r11.2))
 (some (.ret (.i 0) r11.2))):=by kernel_rfl
theorem zis.entry:entry P T k lo F.zis [.i x1,.i x2] M=
 bb (z0g .i64 x1 1 == 0)
 (bb (z0g .i64 x2 1 == 0)
 (bb (decide ((zq x1 x2) ≥ 16))
 (some (.ret (.b (decide ((yv x1 x2)≤256))) M))
 (some (.ret (.b false) M)))
 (some (.ret (.b false) M)))
 (some (.ret (.b false) M)):=by kernel_rfl
theorem z1p.entry:entry P T k lo F.z1p [.s A1 n2 c3] M=
 bb A1.isNone
 (some (.ret (.s none 0 0) M))
 (ob (Mem.src (M ++ [⟨.fx,[]⟩]:Mem) A1 n2 n2) fun l9=>
 ob ((M ++ [⟨.fx,[]⟩]:Mem).app lo 1 1 ⟨some ⟨M.length,0,none⟩,0,0⟩ l9 n2) fun r10=>
 some (.ret (.s r10.1.a r10.1.n r10.1.c) r10.2)):=by kernel_rfl
theorem z8.entry:entry P T k lo F.z8 [.agg ⟨[.i x1,.i x2,.s A3 n4 c5]⟩,.agg ⟨[.i x6,.i x7,.s A8 n9 c10,.s A11 n12 c13,.s A14 n15 c16]⟩,.b b17,.b b18,.i x19,.i x20] M=
 ob (z5 P T k lo F.ziu [.agg ⟨[.i x1,.i x2,.s A3 n4 c5]⟩,.agg ⟨[.i x6,.i x7,.s A8 n9 c10,.s A11 n12 c13,.s A14 n15 c16]⟩] M) fun r26=>
 ob ((some r26.1).bind Value.bool?) fun b27=>
 bb (!b27)
 (some (.ret (.tuple ⟨[.agg ⟨[.i 0,.i 0,.s none 0 0]⟩,.i 2]⟩) r26.2))
 (ob (z5 P T k lo F.zdv [.i x19,.i 0,.i 63] r26.2) fun r28=>
 ob ((some r28.1).bind Value.bool?) fun b29=>
 bb (!b29)
 (some (.ret (.tuple ⟨[.agg ⟨[.i 0,.i 0,.s none 0 0]⟩,.i 2]⟩) r28.2))
 (ob (z5 P T k lo F.zdv [.i x20,.i 0,.i 7] r28.2) fun r30=>
 ob ((some r30.1).bind Value.bool?) fun b31=>
 bb (!b31)
 (some (.ret (.tuple ⟨[.agg ⟨[.i 0,.i 0,.s none 0 0]⟩,.i 2]⟩) r30.2))
 (ob (z5 P T k lo F.z1p [.s A3 n4 c5] r30.2) fun r32=>
 ob ((some r32.1).bind Value.slc?) fun s33=>
 bb (x19 == 0)
 (some (.ret (.tuple ⟨[.agg ⟨[.i x1,.i x2,.s s33.a s33.n s33.c]⟩,.i 0]⟩) r32.2))
 (ob (z5 P T k lo F.qv [.i x19,.i x20] r32.2) fun r34=>
 ob ((some r34.1).bind (Value.agg? 3)) fun l35=>
 ob ((l35[0]?).bind (Value.int? .i64)) fun x36=>
 ob ((l35[1]?).bind (Value.int? .i64)) fun x37=>
 ob ((l35[2]?).bind (Value.int? .i64)) fun x38=>
 bb (!b17)
 (some (z8.Ca b17 b18 x1 1 x6 x2 x1 x2 s33.a s33.n s33.c x6 x7 A8 n9 c10 A11 n12 c13 A14 n15 c16 0 0 none 0 0 x36 x37 x38 r34.2))
 (some (z8.Ca b17 b18 1 x1 1 x1 x1 x2 s33.a s33.n s33.c x6 x7 A8 n9 c10 A11 n12 c13 A14 n15 c16 0 0 none 0 0 x36 x37 x38 r34.2)))))):=by kernel_rfl
theorem z8.Pa:pz P T k lo F.z8 (z8.Ca b1 b2 x3 x4 x5 x6 x7 x8 A9 n10 c11 x12 x13 A14 n15 c16 A17 n18 c19 A20 n21 c22 x23 x24 A25 n26 c27 x28 x29 x30 M)=
 some (z8.Cb b1 b2 x3 x4 x5 x6 A14 n15 c16 (n15:Int) 0 x7 x8 A9 n10 c11 x12 x13 A14 n15 c16 A17 n18 c19 A20 n21 c22 x23 x24 A25 n26 c27 x28 x29 x30 M):=by kernel_rfl
theorem z8.Pb:pz P T k lo F.z8 (z8.Cb b1 b2 x3 x4 x5 x6 A7 n8 c9 x10 x11 x12 x13 A14 n15 c16 x17 x18 A19 n20 c21 A22 n23 c24 A25 n26 c27 x28 x29 A30 n31 c32 x33 x34 x35 M)=
 bb (decide (x11 < x10))
 (pb (0≤x11∧x11 < (n8:Int))
 (ob A7 fun a39=>
 ob ((M.ld (plus a39 x11.toNat)).bind (Value.int? .u8)) fun x40=>
 pb (x17=0) none
 (pb (x17=0) none
 (bb (!b1)
 (some (z8.Cd b1 b2 x3 x4 x5 x6 x11 x40 (i64.wrap (4*(Int.tmod x11 x17))) (i64.wrap (4*(i64.wrap (Int.tdiv x11 x17)))) (i64.wrap (4*(i64.wrap (Int.tdiv x11 x17)))) A7 n8 c9 x10 x11 x12 x13 A14 n15 c16 x17 x18 A19 n20 c21 A22 n23 c24 A25 n26 c27 x28 x29 A30 n31 c32 x33 x34 x35 M))
 (some (z8.Cd b1 b2 x3 x4 x5 x6 x11 x40 (i64.wrap (4*(Int.tmod x11 x17))) (i64.wrap (4*(i64.wrap (Int.tdiv x11 x17)))) (i64.wrap (4*(Int.tmod x11 x17))) A7 n8 c9 x10 x11 x12 x13 A14 n15 c16 x17 x18 A19 n20 c21 A22 n23 c24 A25 n26 c27 x28 x29 A30 n31 c32 x33 x34 x35 M))))) none)
 (some (.ret (.tuple ⟨[.agg ⟨[.i x12,.i x13,.s A14 n15 c16]⟩,.i 0]⟩) M)):=by kernel_rfl
theorem z8.Pc:pz P T k lo F.z8 (z8.Cc b1 b2 x3 x4 x5 x6 A7 n8 c9 x10 x11 x12 x13 A14 n15 c16 x17 x18 A19 n20 c21 A22 n23 c24 A25 n26 c27 x28 x29 A30 n31 c32 x33 x34 x35 M)=
 some (z8.Cb b1 b2 x3 x4 x5 x6 A7 n8 c9 x10 (i64.wrap (x11+1)) x12 x13 A14 n15 c16 x17 x18 A19 n20 c21 A22 n23 c24 A25 n26 c27 x28 x29 A30 n31 c32 x33 x34 x35 M):=by kernel_rfl
theorem z8.Pd:pz P T k lo F.z8 (z8.Cd b1 b2 x3 x4 x5 x6 x7 x8 x9 x10 x11 A12 n13 c14 x15 x16 x17 x18 A19 n20 c21 x22 x23 A24 n25 c26 A27 n28 c29 A30 n31 c32 x33 x34 A35 n36 c37 x38 x39 x40 M)=
 bb (x11 == 0)
 (some (z8.Cc b1 b2 x3 x4 x5 x6 A12 n13 c14 x15 x16 x17 x18 A19 n20 c21 x22 x23 A24 n25 c26 A27 n28 c29 A30 n31 c32 x33 x34 A35 n36 c37 x38 x39 x40 M))
 (pb (i64.wrap x8=0) none
 (bb (Int.tmod x11 (i64.wrap x8) != 0)
 (some (z8.Cc b1 b2 x3 x4 x5 x6 A12 n13 c14 x15 x16 x17 x18 A19 n20 c21 x22 x23 A24 n25 c26 A27 n28 c29 A30 n31 c32 x33 x34 A35 n36 c37 x38 x39 x40 M))
 (pb (0≤x7∧x7 < (n28:Int))
 (ob A27 fun a41=>
 ob ((M.ld (plus a41 x7.toNat)).bind (Value.int? .i64)) fun x42=>
 pb (0≤i64.wrap (x7 - x5)∧i64.wrap (x7 - x5) < (n28:Int))
 (ob A27 fun a43=>
 ob ((M.ld (plus a43 ((i64.wrap (x7 - x5)).toNat))).bind (Value.int? .i64)) fun x44=>
 bb (x42 == x44)
 (pb (0≤x7∧x7 < (n31:Int))
 (ob A30 fun a45=>
 ob ((M.ld (plus a45 x7.toNat)).bind Value.bool?) fun b46=>
 bb b46
 (pb (0≤i64.wrap (x7 - x5)∧i64.wrap (x7 - x5) < (n31:Int))
 (ob A30 fun a47=>
 ob ((M.ld (plus a47 ((i64.wrap (x7 - x5)).toNat))).bind Value.bool?) fun b48=>
 bb b48
 (some (z8.Cc b1 b2 x3 x4 x5 x6 A12 n13 c14 x15 x16 x17 x18 A19 n20 c21 x22 x23 A24 n25 c26 A27 n28 c29 A30 n31 c32 x33 x34 A35 n36 c37 x38 x39 x40 M))
 (pb (0≤i64.wrap (x7 - x5)∧i64.wrap (x7 - x5) < (n25:Int))
 (ob A24 fun a49=>
 ob ((M.ld (plus a49 ((i64.wrap (x7 - x5)).toNat))).bind (Value.int? .u8)) fun x50=>
 ob (z5 P T k lo F.zas [.i (zq (zq (zq (i64.wrap x8) (i64.wrap x50)) x11) (i64.wrap (x6 - x11))),.b b2] M) fun r51=>
 ob ((some r51.1).bind (Value.int? .i64)) fun x52=>
 some (z8.Ce b1 b2 x3 x4 x5 x6 x9 x10 x52 A12 n13 c14 x15 x16 0 x17 x18 A19 n20 c21 x22 x23 A24 n25 c26 A27 n28 c29 A30 n31 c32 x33 x34 A35 n36 c37 x38 x39 x40 r51.2)) none)) none)
 (pb (0≤i64.wrap (x7 - x5)∧i64.wrap (x7 - x5) < (n25:Int))
 (ob A24 fun a53=>
 ob ((M.ld (plus a53 ((i64.wrap (x7 - x5)).toNat))).bind (Value.int? .u8)) fun x54=>
 ob (z5 P T k lo F.zas [.i (zq (zq (zq (i64.wrap x8) (i64.wrap x54)) x11) (i64.wrap (x6 - x11))),.b b2] M) fun r55=>
 ob ((some r55.1).bind (Value.int? .i64)) fun x56=>
 some (z8.Ce b1 b2 x3 x4 x5 x6 x9 x10 x56 A12 n13 c14 x15 x16 0 x17 x18 A19 n20 c21 x22 x23 A24 n25 c26 A27 n28 c29 A30 n31 c32 x33 x34 A35 n36 c37 x38 x39 x40 r55.2)) none)) none)
 (pb (0≤i64.wrap (x7 - x5)∧i64.wrap (x7 - x5) < (n25:Int))
 (ob A24 fun a57=>
 ob ((M.ld (plus a57 ((i64.wrap (x7 - x5)).toNat))).bind (Value.int? .u8)) fun x58=>
 ob (z5 P T k lo F.zas [.i (zq (zq (zq (i64.wrap x8) (i64.wrap x58)) x11) (i64.wrap (x6 - x11))),.b b2] M) fun r59=>
 ob ((some r59.1).bind (Value.int? .i64)) fun x60=>
 some (z8.Ce b1 b2 x3 x4 x5 x6 x9 x10 x60 A12 n13 c14 x15 x16 0 x17 x18 A19 n20 c21 x22 x23 A24 n25 c26 A27 n28 c29 A30 n31 c32 x33 x34 A35 n36 c37 x38 x39 x40 r59.2)) none)) none) none))):=by kernel_rfl
theorem z8.Pe:pz P T k lo F.z8 (z8.Ce b1 b2 x3 x4 x5 x6 x7 x8 x9 A10 n11 c12 x13 x14 x15 x16 x17 A18 n19 c20 x21 x22 A23 n24 c25 A26 n27 c28 A29 n30 c31 x32 x33 A34 n35 c36 x37 x38 x39 M)=
 bb (decide (x15 < 4))
 (pb (0≤x9∧room x9.toNat 1)
 (some (z8.Cf b1 b2 x3 x4 x5 x6 x7 x8 x9 (i64.wrap ((i64.wrap ((i64.wrap ((i64.wrap (x8*x16))+x7))+(i64.wrap (x15*x4)))) - (i64.wrap ((i64.wrap (Int.tdiv x9 2))*x3)))) A10 n11 c12 x13 x14 x15 (x9.toNat:Int) 0 x16 x17 A18 n19 c20 x21 x22 A23 n24 c25 A26 n27 c28 A29 n30 c31 x32 x33 A34 n35 c36 x37 x38 x39 (some ⟨M.length,0,none⟩) x9.toNat x9.toNat (i64.wrap (Int.tdiv x9 2)) (M ++ [⟨.fx,y4 [.int .u8 0] x9.toNat⟩]:Mem))) none)
 (some (z8.Cc b1 b2 x3 x4 x5 x6 A10 n11 c12 x13 x14 x16 x17 A18 n19 c20 x21 x22 A23 n24 c25 A26 n27 c28 A29 n30 c31 x32 x33 A34 n35 c36 x37 x38 x39 M)):=by kernel_rfl
theorem z8.Pf:pz P T k lo F.z8 (z8.Cf b1 b2 x3 x4 x5 x6 x7 x8 x9 x10 A11 n12 c13 x14 x15 x16 x17 x18 x19 x20 A21 n22 c23 x24 x25 A26 n27 c28 A29 n30 c31 A32 n33 c34 x35 x36 A37 n38 c39 x40 x41 x42 A43 n44 c45 x46 M)=
 bb (decide (x18 < x17))
 (pb (0≤i64.wrap (x10+(i64.wrap (x18*x3)))∧i64.wrap (x10+(i64.wrap (x18*x3))) < (n22:Int))
 (ob A21 fun a61=>
 ob ((M.ld (plus a61 ((i64.wrap (x10+(i64.wrap (x18*x3)))).toNat))).bind (Value.int? .u8)) fun x62=>
 pb (0≤x18∧x18 < (n44:Int))
 (ob A43 fun a63=>
 ob (M.st lo (plus a63 x18.toNat) [.int .u8 x62]) fun M64=>
 some (z8.Cf b1 b2 x3 x4 x5 x6 x7 x8 x9 x10 A11 n12 c13 x14 x15 x16 x17 (i64.wrap (x18+1)) x19 x20 A21 n22 c23 x24 x25 A26 n27 c28 A29 n30 c31 A32 n33 c34 x35 x36 A37 n38 c39 x40 x41 x42 A43 n44 c45 x46 M64)) none) none)
 (ob (z5 P T k lo F.z8s [.agg ⟨[.s A43 n44 c45,.i x46]⟩,.agg ⟨[.i x40,.i x41,.i x42]⟩] M) fun r65=>
 ob ((some r65.1).bind Value.slc?) fun s66=>
 some (z8.Cg b1 b2 x3 x4 x5 x6 x7 x8 x9 x10 A11 n12 c13 x14 x15 x16 s66.a s66.n s66.c (s66.n:Int) 0 x19 x20 A21 n22 c23 x24 x25 A26 n27 c28 A29 n30 c31 A32 n33 c34 x35 x36 A37 n38 c39 x40 x41 x42 r65.2)):=by kernel_rfl
theorem z8.Pg:pz P T k lo F.z8 (z8.Cg b1 b2 x3 x4 x5 x6 x7 x8 x9 x10 A11 n12 c13 x14 x15 x16 A17 n18 c19 x20 x21 x22 x23 A24 n25 c26 x27 x28 A29 n30 c31 A32 n33 c34 A35 n36 c37 x38 x39 A40 n41 c42 x43 x44 x45 M)=
 bb (decide (x21 < x20))
 (pb (0≤x21∧x21 < (n18:Int))
 (ob A17 fun a67=>
 ob ((M.ld (plus a67 x21.toNat)).bind (Value.int? .u8)) fun x68=>
 pb (0≤i64.wrap (x10+(i64.wrap (x21*x3)))∧i64.wrap (x10+(i64.wrap (x21*x3))) < (n25:Int))
 (ob A24 fun a69=>
 ob (M.st lo (plus a69 ((i64.wrap (x10+(i64.wrap (x21*x3)))).toNat)) [.int .u8 x68]) fun M70=>
 some (z8.Cg b1 b2 x3 x4 x5 x6 x7 x8 x9 x10 A11 n12 c13 x14 x15 x16 A17 n18 c19 x20 (i64.wrap (x21+1)) x22 x23 A24 n25 c26 x27 x28 A29 n30 c31 A32 n33 c34 A35 n36 c37 x38 x39 A40 n41 c42 x43 x44 x45 M70)) none) none)
 (some (z8.Ce b1 b2 x3 x4 x5 x6 x7 x8 x9 A11 n12 c13 x14 x15 (i64.wrap (x16+1)) x22 x23 A24 n25 c26 x27 x28 A29 n30 c31 A32 n33 c34 A35 n36 c37 x38 x39 A40 n41 c42 x43 x44 x45 M)):=by kernel_rfl
theorem zj.entry:entry P T k lo F.zj [.agg ⟨[.i x1,.i x2,.s A3 n4 c5,.i x6,.i x7,.s A8 n9 c10,.i x11,.i x12,.s A13 n14 c15]⟩,.s A16 n17 c18,.s A19 n20 c21,.agg ⟨[.b b22,.i x23,.b b24,.b b25,.i x26,.i x27,.i x28,.i x29,.i x30,.i x31,.i x32,.i x33,.i x34,.i x35,.i x36,.i x37,.i x38,.b b39,.i x40,.i x41,.i x42,.i x43,.i x44,.b b45,.i x46,.i x47,.s A48 n49 c50,.b b51,.b b52,.b b53]⟩] M=
 ob (z5 P T k lo F.z1b [.agg ⟨[.i x1,.i x2,.s A3 n4 c5,.i x6,.i x7,.s A8 n9 c10,.i x11,.i x12,.s A13 n14 c15]⟩,.s A16 n17 c18,.s A19 n20 c21,.agg ⟨[.b b22,.i x23,.b b24,.b b25,.i x26,.i x27,.i x28,.i x29,.i x30,.i x31,.i x32,.i x33,.i x34,.i x35,.i x36,.i x37,.i x38,.b b39,.i x40,.i x41,.i x42,.i x43,.i x44,.b b45,.i x46,.i x47,.s A48 n49 c50,.b b51,.b b52,.b b53]⟩] M) fun r59=>
 ob ((some r59.1).bind Value.bool?) fun b60=>
 bb (!b60)
 (some (.ret (.tuple ⟨[.agg ⟨[.i 0,.i 0,.s none 0 0,.i 0,.i 0,.s none 0 0,.i 0,.i 0,.s none 0 0]⟩,.i 2]⟩) r59.2))
 (some (zj.Ca A16 n17 c18 A19 n20 c21 0 x1 x2 A3 n4 c5 x6 x7 A8 n9 c10 x11 x12 A13 n14 c15 b22 x23 b24 b25 x26 x27 x28 x29 x30 x31 x32 x33 x34 x35 x36 x37 x38 b39 x40 x41 x42 x43 x44 b45 x46 x47 A48 n49 c50 b51 b52 b53 0 0 none 0 0 0 0 none 0 0 0 0 none 0 0 ([.i x1,.i x2,.s A3 n4 c5,.i x6,.i x7,.s A8 n9 c10,.i x11,.i x12,.s A13 n14 c15]) r59.2)):=by kernel_rfl
theorem zj.Pa:pz P T k lo F.zj (zj.Ca A1 n2 c3 A4 n5 c6 x7 x8 x9 A10 n11 c12 x13 x14 A15 n16 c17 x18 x19 A20 n21 c22 b23 x24 b25 b26 x27 x28 x29 x30 x31 x32 x33 x34 x35 x36 x37 x38 x39 b40 x41 x42 x43 x44 x45 b46 x47 x48 A49 n50 c51 b52 b53 b54 x55 x56 A57 n58 c59 x60 x61 A62 n63 c64 x65 x66 A67 n68 c69 cs70 M)=
 bb (decide (x7 < 3))
 (pb (0≤x7∧x7 < (3:Int))
 (ob ((([.i x8,.i x9,.s A10 n11 c12,.i x13,.i x14,.s A15 n16 c17,.i x18,.i x19,.s A20 n21 c22]:List Value)[0+(x7.toNat*3)+2+0]?).bind Value.slc?) fun s71=>
 ob (z5 P T k lo F.z1p [.s s71.a s71.n s71.c] M) fun r72=>
 ob ((some r72.1).bind Value.slc?) fun s73=>
 pb (0≤x7∧x7 < (3:Int))
 (pb (0+(x7.toNat*3)+2+1≤cs70.length)
 (some (zj.Ca A1 n2 c3 A4 n5 c6 (i64.wrap (x7+1)) x8 x9 A10 n11 c12 x13 x14 A15 n16 c17 x18 x19 A20 n21 c22 b23 x24 b25 b26 x27 x28 x29 x30 x31 x32 x33 x34 x35 x36 x37 x38 x39 b40 x41 x42 x43 x44 x45 b46 x47 x48 A49 n50 c51 b52 b53 b54 x55 x56 A57 n58 c59 x60 x61 A62 n63 c64 x65 x66 A67 n68 c69 (setL cs70 (0+(x7.toNat*3)+2) [.s s73.a s73.n s73.c]) r72.2)) none) none) none)
 (bb (!b46)
 (ob ((cs70[0]?).bind (Value.int? .i64)) fun x74=>
 ob ((cs70[1]?).bind (Value.int? .i64)) fun x75=>
 ob ((cs70[2]?).bind Value.slc?) fun s76=>
 ob ((cs70[3]?).bind (Value.int? .i64)) fun x77=>
 ob ((cs70[4]?).bind (Value.int? .i64)) fun x78=>
 ob ((cs70[5]?).bind Value.slc?) fun s79=>
 ob ((cs70[6]?).bind (Value.int? .i64)) fun x80=>
 ob ((cs70[7]?).bind (Value.int? .i64)) fun x81=>
 ob ((cs70[8]?).bind Value.slc?) fun s82=>
 some (.ret (.tuple ⟨[.agg ⟨[.i x74,.i x75,.s s76.a s76.n s76.c,.i x77,.i x78,.s s79.a s79.n s79.c,.i x80,.i x81,.s s82.a s82.n s82.c]⟩,.i 0]⟩) M))
 (some (zj.Cb A4 n5 c6 (i64.wrap (Int.tdiv x8 8)) A1 n2 c3 (n2:Int) 0 x8 x9 A10 n11 c12 x13 x14 A15 n16 c17 x18 x19 A20 n21 c22 b23 x24 b25 b26 x27 x28 x29 x30 x31 x32 x33 x34 x35 x36 x37 x38 x39 b40 x41 x42 x43 x44 x45 b46 x47 x48 A49 n50 c51 b52 b53 b54 x55 x56 A57 n58 c59 x60 x61 A62 n63 c64 x65 x66 A67 n68 c69 cs70 M))):=by kernel_rfl
theorem zj.Pb:pz P T k lo F.zj (zj.Cb A1 n2 c3 x4 A5 n6 c7 x8 x9 x10 x11 A12 n13 c14 x15 x16 A17 n18 c19 x20 x21 A22 n23 c24 b25 x26 b27 b28 x29 x30 x31 x32 x33 x34 x35 x36 x37 x38 x39 x40 x41 b42 x43 x44 x45 x46 x47 b48 x49 x50 A51 n52 c53 b54 b55 b56 x57 x58 A59 n60 c61 x62 x63 A64 n65 c66 x67 x68 A69 n70 c71 cs72 M)=
 bb (decide (x9 < x8))
 (pb (0≤x9∧x9 < (n6:Int))
 (ob A5 fun a83=>
 ob ((M.ld (plus a83 x9.toNat)).bind Value.bool?) fun b84=>
 bb b84
 (some (zj.Cc A1 n2 c3 x4 A5 n6 c7 x8 x9 x10 x11 A12 n13 c14 x15 x16 A17 n18 c19 x20 x21 A22 n23 c24 b25 x26 b27 b28 x29 x30 x31 x32 x33 x34 x35 x36 x37 x38 x39 x40 x41 b42 x43 x44 x45 x46 x47 b48 x49 x50 A51 n52 c53 b54 b55 b56 x57 x58 A59 n60 c61 x62 x63 A64 n65 c66 x67 x68 A69 n70 c71 cs72 M))
 (pb (x4=0) none
 (pb (x4=0) none
 (pb (0≤i64.wrap ((i64.wrap ((i64.wrap (Int.tdiv (i64.wrap (8*(i64.wrap (Int.tdiv x9 x4)))) 64))*(i64.wrap (Int.tdiv (i64.wrap ((i64.wrap (x10+64)) - 1)) 64))))+(i64.wrap (Int.tdiv (i64.wrap (8*(Int.tmod x9 x4))) 64)))∧i64.wrap ((i64.wrap ((i64.wrap (Int.tdiv (i64.wrap (8*(i64.wrap (Int.tdiv x9 x4)))) 64))*(i64.wrap (Int.tdiv (i64.wrap ((i64.wrap (x10+64)) - 1)) 64))))+(i64.wrap (Int.tdiv (i64.wrap (8*(Int.tmod x9 x4))) 64))) < (n2:Int))
 (ob A1 fun a85=>
 ob ((M.ld (plus a85 ((i64.wrap ((i64.wrap ((i64.wrap (Int.tdiv (i64.wrap (8*(i64.wrap (Int.tdiv x9 x4)))) 64))*(i64.wrap (Int.tdiv (i64.wrap ((i64.wrap (x10+64)) - 1)) 64))))+(i64.wrap (Int.tdiv (i64.wrap (8*(Int.tmod x9 x4))) 64)))).toNat))).bind (Value.int? .i64)) fun x86=>
 pb (0≤x86∧x86 < (n52:Int))
 (ob A51 fun a87=>
 ob ((M.ld (plus a87 (x86.toNat*4))).bind (Value.int? .i64)) fun x88=>
 ob ((M.ld (plus (plus a87 (x86.toNat*4)) 1)).bind (Value.int? .i64)) fun x89=>
 ob ((M.ld (plus (plus a87 (x86.toNat*4)) 2)).bind (Value.int? .i64)) fun x90=>
 ob ((M.ld (plus (plus a87 (x86.toNat*4)) 3)).bind (Value.int? .i64)) fun x91=>
 ob (z5 P T k lo F.z0f [.agg ⟨[.i x10,.i x11,.s A12 n13 c14]⟩,.agg ⟨[.i (i64.wrap (8*(Int.tmod x9 x4))),.i (i64.wrap (8*(i64.wrap (Int.tdiv x9 x4)))),.i 8,.i 8]⟩] M) fun r92=>
 ob (r92.1.tup? 2) fun l93=>
 ob ((l93[0]?).bind Value.slc?) fun s94=>
 ob ((l93[1]?).bind (Value.int? .i64)) fun x95=>
 bb (x95 != 0)
 (some (.ret (.tuple ⟨[.agg ⟨[.i 0,.i 0,.s none 0 0,.i 0,.i 0,.s none 0 0,.i 0,.i 0,.s none 0 0]⟩,.i x95]⟩) r92.2))
 (ob (z5 P T k lo F.ze [.s s94.a s94.n s94.c] r92.2) fun r96=>
 ob (r96.1.tup? 3) fun l97=>
 ob ((l97[0]?).bind (Value.int? .i64)) fun x98=>
 ob ((l97[1]?).bind (Value.int? .i64)) fun x99=>
 ob ((l97[2]?).bind (Value.int? .i64)) fun x100=>
 some (zj.Cd A1 n2 c3 x4 (i64.wrap (8*(Int.tmod x9 x4))) (i64.wrap (8*(i64.wrap (Int.tdiv x9 x4)))) x98 x99 A5 n6 c7 x8 x9 0 x10 x11 A12 n13 c14 x15 x16 A17 n18 c19 x20 x21 A22 n23 c24 b25 x26 b27 b28 x29 x30 x31 x32 x33 x34 x35 x36 x37 x38 x39 x40 x41 b42 x43 x44 x45 x46 x47 b48 x49 x50 A51 n52 c53 b54 b55 b56 x57 x58 A59 n60 c61 x62 x63 A64 n65 c66 x67 x68 A69 n70 c71 cs72 x88 x89 x90 x91 r96.2))) none) none)))) none)
 (ob ((cs72[0]?).bind (Value.int? .i64)) fun x101=>
 ob ((cs72[1]?).bind (Value.int? .i64)) fun x102=>
 ob ((cs72[2]?).bind Value.slc?) fun s103=>
 ob ((cs72[3]?).bind (Value.int? .i64)) fun x104=>
 ob ((cs72[4]?).bind (Value.int? .i64)) fun x105=>
 ob ((cs72[5]?).bind Value.slc?) fun s106=>
 ob ((cs72[6]?).bind (Value.int? .i64)) fun x107=>
 ob ((cs72[7]?).bind (Value.int? .i64)) fun x108=>
 ob ((cs72[8]?).bind Value.slc?) fun s109=>
 some (.ret (.tuple ⟨[.agg ⟨[.i x101,.i x102,.s s103.a s103.n s103.c,.i x104,.i x105,.s s106.a s106.n s106.c,.i x107,.i x108,.s s109.a s109.n s109.c]⟩,.i 0]⟩) M)):=by kernel_rfl
theorem zj.Pc:pz P T k lo F.zj (zj.Cc A1 n2 c3 x4 A5 n6 c7 x8 x9 x10 x11 A12 n13 c14 x15 x16 A17 n18 c19 x20 x21 A22 n23 c24 b25 x26 b27 b28 x29 x30 x31 x32 x33 x34 x35 x36 x37 x38 x39 x40 x41 b42 x43 x44 x45 x46 x47 b48 x49 x50 A51 n52 c53 b54 b55 b56 x57 x58 A59 n60 c61 x62 x63 A64 n65 c66 x67 x68 A69 n70 c71 cs72 M)=
 some (zj.Cb A1 n2 c3 x4 A5 n6 c7 x8 (i64.wrap (x9+1)) x10 x11 A12 n13 c14 x15 x16 A17 n18 c19 x20 x21 A22 n23 c24 b25 x26 b27 b28 x29 x30 x31 x32 x33 x34 x35 x36 x37 x38 x39 x40 x41 b42 x43 x44 x45 x46 x47 b48 x49 x50 A51 n52 c53 b54 b55 b56 x57 x58 A59 n60 c61 x62 x63 A64 n65 c66 x67 x68 A69 n70 c71 cs72 M):=by kernel_rfl
theorem zj.Pd:pz P T k lo F.zj (zj.Cd A1 n2 c3 x4 x5 x6 x7 x8 A9 n10 c11 x12 x13 x14 x15 x16 A17 n18 c19 x20 x21 A22 n23 c24 x25 x26 A27 n28 c29 b30 x31 b32 b33 x34 x35 x36 x37 x38 x39 x40 x41 x42 x43 x44 x45 x46 b47 x48 x49 x50 x51 x52 b53 x54 x55 A56 n57 c58 b59 b60 b61 x62 x63 A64 n65 c66 x67 x68 A69 n70 c71 x72 x73 A74 n75 c76 cs77 x78 x79 x80 x81 M)=
 bb (decide (x14 < 3))
 (ob (z5 P T k M.length F.zhk [.i x78,.i x8] M) fun r110=>
 ob ((some r110.1).bind (Value.int? .i64)) fun x111=>
 bb (decide (x14 > 0))
 (some (zj.Ce A1 n2 c3 x4 x5 x6 x7 x8 x14 x80 x80 x81 (i64.wrap (x54 - 1)) A9 n10 c11 x12 x13 x14 x15 x16 A17 n18 c19 x20 x21 A22 n23 c24 x25 x26 A27 n28 c29 b30 x31 b32 b33 x34 x35 x36 x37 x38 x39 x40 x41 x42 x43 x44 x45 x46 b47 x48 x49 x50 x51 x52 b53 x54 x55 A56 n57 c58 b59 b60 b61 x62 x63 A64 n65 c66 x67 x68 A69 n70 c71 x72 x73 A74 n75 c76 cs77 x78 x79 x80 x81 (i64.wrap (Int.tdiv x5 2)) (i64.wrap (Int.tdiv x6 2)) 4 4 r110.2))
 (some (zj.Ce A1 n2 c3 x4 x5 x6 x7 x8 x14 x111 x78 x79 x54 A9 n10 c11 x12 x13 x14 x15 x16 A17 n18 c19 x20 x21 A22 n23 c24 x25 x26 A27 n28 c29 b30 x31 b32 b33 x34 x35 x36 x37 x38 x39 x40 x41 x42 x43 x44 x45 x46 b47 x48 x49 x50 x51 x52 b53 x54 x55 A56 n57 c58 b59 b60 b61 x62 x63 A64 n65 c66 x67 x68 A69 n70 c71 x72 x73 A74 n75 c76 cs77 x78 x79 x80 x81 x5 x6 8 8 r110.2)))
 (some (zj.Cc A1 n2 c3 x4 A9 n10 c11 x12 x13 x15 x16 A17 n18 c19 x20 x21 A22 n23 c24 x25 x26 A27 n28 c29 b30 x31 b32 b33 x34 x35 x36 x37 x38 x39 x40 x41 x42 x43 x44 x45 x46 b47 x48 x49 x50 x51 x52 b53 x54 x55 A56 n57 c58 b59 b60 b61 x62 x63 A64 n65 c66 x67 x68 A69 n70 c71 x72 x73 A74 n75 c76 cs77 M)):=by kernel_rfl
theorem zj.Pe:pz P T k lo F.zj (zj.Ce A1 n2 c3 x4 x5 x6 x7 x8 x9 x10 x11 x12 x13 A14 n15 c16 x17 x18 x19 x20 x21 A22 n23 c24 x25 x26 A27 n28 c29 x30 x31 A32 n33 c34 b35 x36 b37 b38 x39 x40 x41 x42 x43 x44 x45 x46 x47 x48 x49 x50 x51 b52 x53 x54 x55 x56 x57 b58 x59 x60 A61 n62 c63 b64 b65 b66 x67 x68 A69 n70 c71 x72 x73 A74 n75 c76 x77 x78 A79 n80 c81 cs82 x83 x84 x85 x86 x87 x88 x89 x90 M)=
 bb (x11 == 0)
 (some (zj.Cf A1 n2 c3 x4 x5 x6 x7 x8 x9 x10 x12 x13 0 A14 n15 c16 x17 x18 x19 x20 x21 A22 n23 c24 x25 x26 A27 n28 c29 x30 x31 A32 n33 c34 b35 x36 b37 b38 x39 x40 x41 x42 x43 x44 x45 x46 x47 x48 x49 x50 x51 b52 x53 x54 x55 x56 x57 b58 x59 x60 A61 n62 c63 b64 b65 b66 x67 x68 A69 n70 c71 x72 x73 A74 n75 c76 x77 x78 A79 n80 c81 cs82 x83 x84 x85 x86 x87 x88 x89 x90 M))
 (some (zj.Cf A1 n2 c3 x4 x5 x6 x7 x8 x9 x10 x12 x13 x7 A14 n15 c16 x17 x18 x19 x20 x21 A22 n23 c24 x25 x26 A27 n28 c29 x30 x31 A32 n33 c34 b35 x36 b37 b38 x39 x40 x41 x42 x43 x44 x45 x46 x47 x48 x49 x50 x51 b52 x53 x54 x55 x56 x57 b58 x59 x60 A61 n62 c63 b64 b65 b66 x67 x68 A69 n70 c71 x72 x73 A74 n75 c76 x77 x78 A79 n80 c81 cs82 x83 x84 x85 x86 x87 x88 x89 x90 M)):=by kernel_rfl
theorem zj.Pf:pz P T k lo F.zj (zj.Cf A1 n2 c3 x4 x5 x6 x7 x8 x9 x10 x11 x12 x13 A14 n15 c16 x17 x18 x19 x20 x21 A22 n23 c24 x25 x26 A27 n28 c29 x30 x31 A32 n33 c34 b35 x36 b37 b38 x39 x40 x41 x42 x43 x44 x45 x46 x47 x48 x49 x50 x51 b52 x53 x54 x55 x56 x57 b58 x59 x60 A61 n62 c63 b64 b65 b66 x67 x68 A69 n70 c71 x72 x73 A74 n75 c76 x77 x78 A79 n80 c81 cs82 x83 x84 x85 x86 x87 x88 x89 x90 M)=
 pb (0≤x9∧x9 < (3:Int))
 (ob ((([.i x20,.i x21,.s A22 n23 c24,.i x25,.i x26,.s A27 n28 c29,.i x30,.i x31,.s A32 n33 c34]:List Value)[0+(x9.toNat*3)+0]?).bind (Value.int? .i64)) fun x112=>
 ob ((([.i x20,.i x21,.s A22 n23 c24,.i x25,.i x26,.s A27 n28 c29,.i x30,.i x31,.s A32 n33 c34]:List Value)[0+(x9.toNat*3)+1]?).bind (Value.int? .i64)) fun x113=>
 ob ((([.i x20,.i x21,.s A22 n23 c24,.i x25,.i x26,.s A27 n28 c29,.i x30,.i x31,.s A32 n33 c34]:List Value)[0+(x9.toNat*3)+2]?).bind Value.slc?) fun s114=>
 ob (z5 P T k M.length F.ziq [.i x11] M) fun r115=>
 ob ((some r115.1).bind (Value.int? .i64)) fun x116=>
 ob (z5 P T k lo F.qh [.agg ⟨[.i x112,.i x113,.s s114.a s114.n s114.c]⟩,.agg ⟨[.i x87,.i x88,.i x89,.i x90]⟩,.i x13,.i x10,.i x116,.i x12] r115.2) fun r117=>
 ob (r117.1.tup? 2) fun l118=>
 ob ((l118[0]?).bind Value.slc?) fun s119=>
 ob ((l118[1]?).bind (Value.int? .i64)) fun x120=>
 bb (x120 != 0)
 (some (.ret (.tuple ⟨[.agg ⟨[.i 0,.i 0,.s none 0 0,.i 0,.i 0,.s none 0 0,.i 0,.i 0,.s none 0 0]⟩,.i x120]⟩) r117.2))
 (some (zj.Cg A1 n2 c3 x4 x5 x6 x7 x8 x9 s119.a s119.n s119.c A14 n15 c16 x17 x18 x19 x90 0 x20 x21 A22 n23 c24 x25 x26 A27 n28 c29 x30 x31 A32 n33 c34 b35 x36 b37 b38 x39 x40 x41 x42 x43 x44 x45 x46 x47 x48 x49 x50 x51 b52 x53 x54 x55 x56 x57 b58 x59 x60 A61 n62 c63 b64 b65 b66 x67 x68 A69 n70 c71 x72 x73 A74 n75 c76 x77 x78 A79 n80 c81 cs82 x83 x84 x85 x86 x87 x88 x89 x90 r117.2))) none:=by kernel_rfl
theorem zj.Pg:pz P T k lo F.zj (zj.Cg A1 n2 c3 x4 x5 x6 x7 x8 x9 A10 n11 c12 A13 n14 c15 x16 x17 x18 x19 x20 x21 x22 A23 n24 c25 x26 x27 A28 n29 c30 x31 x32 A33 n34 c35 b36 x37 b38 b39 x40 x41 x42 x43 x44 x45 x46 x47 x48 x49 x50 x51 x52 b53 x54 x55 x56 x57 x58 b59 x60 x61 A62 n63 c64 b65 b66 b67 x68 x69 A70 n71 c72 x73 x74 A75 n76 c77 x78 x79 A80 n81 c82 cs83 x84 x85 x86 x87 x88 x89 x90 x91 M)=
 bb (decide (x20 < x19))
 (pb (0≤x9∧x9 < (3:Int))
 (ob ((cs83[0+(x9.toNat*3)+2+0]?).bind Value.slc?) fun s121=>
 pb (0≤x9∧x9 < (3:Int))
 (ob ((cs83[0+(x9.toNat*3)+0+0]?).bind (Value.int? .i64)) fun x122=>
 pb (0≤i64.wrap ((i64.wrap ((i64.wrap (x89+x20))*x122))+x88)∧i64.wrap ((i64.wrap ((i64.wrap (x89+x20))*x122))+x88)≤(s121.n:Int))
 (pb (0≤i64.wrap (x20*x90)∧i64.wrap (x20*x90)≤i64.wrap ((i64.wrap (x20+1))*x90)∧i64.wrap ((i64.wrap (x20+1))*x90)≤(c12:Int))
 (ob (Mem.src M (slAddr 1 A10 ((i64.wrap (x20*x90)).toNat) c12) (Nat.min (((i64.wrap ((i64.wrap (x20+1))*x90)).toNat) - ((i64.wrap (x20*x90)).toNat)) (s121.n - ((i64.wrap ((i64.wrap ((i64.wrap (x89+x20))*x122))+x88)).toNat))) (Nat.min (((i64.wrap ((i64.wrap (x20+1))*x90)).toNat) - ((i64.wrap (x20*x90)).toNat)) (s121.n - ((i64.wrap ((i64.wrap ((i64.wrap (x89+x20))*x122))+x88)).toNat)))) fun l123=>
 pb (Nat.min (((i64.wrap ((i64.wrap (x20+1))*x90)).toNat) - ((i64.wrap (x20*x90)).toNat)) (s121.n - ((i64.wrap ((i64.wrap ((i64.wrap (x89+x20))*x122))+x88)).toNat))=0) (some (zj.Cg A1 n2 c3 x4 x5 x6 x7 x8 x9 A10 n11 c12 A13 n14 c15 x16 x17 x18 x19 (i64.wrap (x20+1)) x21 x22 A23 n24 c25 x26 x27 A28 n29 c30 x31 x32 A33 n34 c35 b36 x37 b38 b39 x40 x41 x42 x43 x44 x45 x46 x47 x48 x49 x50 x51 x52 b53 x54 x55 x56 x57 x58 b59 x60 x61 A62 n63 c64 b65 b66 b67 x68 x69 A70 n71 c72 x73 x74 A75 n76 c77 x78 x79 A80 n81 c82 cs83 x84 x85 x86 x87 x88 x89 x90 x91 M))
 (ob (slAddr 1 s121.a ((i64.wrap ((i64.wrap ((i64.wrap (x89+x20))*x122))+x88)).toNat) s121.c) fun a125=>
 ob (M.st lo a125 l123) fun M124=>
 some (zj.Cg A1 n2 c3 x4 x5 x6 x7 x8 x9 A10 n11 c12 A13 n14 c15 x16 x17 x18 x19 (i64.wrap (x20+1)) x21 x22 A23 n24 c25 x26 x27 A28 n29 c30 x31 x32 A33 n34 c35 b36 x37 b38 b39 x40 x41 x42 x43 x44 x45 x46 x47 x48 x49 x50 x51 x52 b53 x54 x55 x56 x57 x58 b59 x60 x61 A62 n63 c64 b65 b66 b67 x68 x69 A70 n71 c72 x73 x74 A75 n76 c77 x78 x79 A80 n81 c82 cs83 x84 x85 x86 x87 x88 x89 x90 x91 M124))) none) none) none) none)
 (some (zj.Cd A1 n2 c3 x4 x5 x6 x7 x8 A13 n14 c15 x16 x17 (i64.wrap (x18+1)) x21 x22 A23 n24 c25 x26 x27 A28 n29 c30 x31 x32 A33 n34 c35 b36 x37 b38 b39 x40 x41 x42 x43 x44 x45 x46 x47 x48 x49 x50 x51 x52 b53 x54 x55 x56 x57 x58 b59 x60 x61 A62 n63 c64 b65 b66 b67 x68 x69 A70 n71 c72 x73 x74 A75 n76 c77 x78 x79 A80 n81 c82 cs83 x84 x85 x86 x87 M)):=by kernel_rfl
end Go.Zt

