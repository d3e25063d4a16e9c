/- What the law ChainRuns needs of the text Eq1. -/
import Derived.Test.YtbbfdebfhgdciaaGreatPEq0
import Derived.KernelRfl
set_option linter.unusedVariables false
set_option linter.unusedSimpArgs false
set_option maxRecDepth 100000
set_option maxHeartbeats 4000000
namespace Go.Zt
open IntKind (i64 u8)
variable (k lo:Nat)(A1:Option Addr)(a1:Addr)(b1:Bool)(x1:Int)(A2:Option Addr)(b2:Bool)(cs2:List Value)(n2:Nat)(x2:Int)(A3:Option Addr)(b3:Bool)(c3 n3:Nat)(x3:Int)(A4:Option Addr)(b4:Bool)(c4 n4:Nat)(x4:Int)(A5:Option Addr)(b5:Bool)(c5 n5:Nat)(x5:Int)(A6:Option Addr)(b6:Bool)(c6 n6:Nat)(x6:Int)(A7:Option Addr)(c7 n7:Nat)(x7:Int)(A8:Option Addr)(c8 n8:Nat)(x8:Int)(A9:Option Addr)(c9 n9:Nat)(x9:Int)(A10:Option Addr)(c10 n10:Nat)(x10:Int)(A11:Option Addr)(c11 n11:Nat)(x11:Int)(c12 n12:Nat)(x12:Int)(A13:Option Addr)(c13:Nat)(x13:Int)(A14:Option Addr)(n14:Nat)(x14:Int)(A15:Option Addr)(c15 n15:Nat)(x15:Int)(A16:Option Addr)(b16:Bool)(c16 n16:Nat)(x16:Int)(A17:Option Addr)(c17 n17:Nat)(x17:Int)(A18:Option Addr)(b18:Bool)(c18 n18:Nat)(x18:Int)(A19:Option Addr)(b19:Bool)(c19 n19:Nat)(x19:Int)(A20:Option Addr)(b20:Bool)(c20 n20:Nat)(x20:Int)(A21:Option Addr)(c21 n21:Nat)(x21:Int)(A22:Option Addr)(c22 n22:Nat)(x22:Int)(A23:Option Addr)(c23 n23:Nat)(x23:Int)(A24:Option Addr)(b24:Bool)(c24 n24:Nat)(x24:Int)(A25:Option Addr)(b25:Bool)(c25 n25:Nat)(x25:Int)(A26:Option Addr)(b26:Bool)(c26 n26:Nat)(x26:Int)(A27:Option Addr)(c27 n27:Nat)(x27:Int)(A28:Option Addr)(c28 n28:Nat)(x28:Int)(A29:Option Addr)(c29 n29:Nat)(x29:Int)(A30:Option Addr)(b30:Bool)(c30 n30:Nat)(x30:Int)(A31:Option Addr)(b31:Bool)(c31 n31:Nat)(x31:Int)(A32:Option Addr)(b32:Bool)(c32:Nat)(cs32:List Value)(n32:Nat)(x32:Int)(A33:Option Addr)(b33:Bool)(c33 n33:Nat)(A34:Option Addr)(b34:Bool)(c34 n34:Nat)(x34:Int)(A35:Option Addr)(c35 n35:Nat)(x35:Int)(A36:Option Addr)(c36 n36:Nat)(x36:Int)(A37:Option Addr)(c37 n37:Nat)(x37:Int)(A38:Option Addr)(c38 n38:Nat)(x38:Int)(A39:Option Addr)(b39:Bool)(c39 n39:Nat)(A40:Option Addr)(c40 n40:Nat)(x40:Int)(A41:Option Addr)(c41 n41:Nat)(x41:Int)(A42:Option Addr)(c42 n42:Nat)(x42:Int)(A43:Option Addr)(c43 n43:Nat)(A44:Option Addr)(c44 n44:Nat)(A45:Option Addr)(b45:Bool)(c45 n45:Nat)(x45:Int)(A46:Option Addr)(b46:Bool)(c46 n46:Nat)(x46:Int)(A47:Option Addr)(b47:Bool)(c47 n47:Nat)(x47:Int)(A48:Option Addr)(c48 n48:Nat)(x48:Int)(A49:Option Addr)(c49 n49:Nat)(x49:Int)(A50:Option Addr)(c50 n50:Nat)(x50:Int)(A51:Option Addr)(c51 n51:Nat)(x51:Int)(A52:Option Addr)(c52 n52:Nat)(x52:Int)(A53:Option Addr)(c53 n53:Nat)(A54:Option Addr)(c54 n54:Nat)(A55:Option Addr)(c55 n55:Nat)(A56:Option Addr)(c56 n56:Nat)(x56:Int)(A57:Option Addr)(c57 n57:Nat)(x57:Int)(A58:Option Addr)(c58 n58:Nat)(x58:Int)(A59:Option Addr)(c59 n59:Nat)(x59:Int)(A60:Option Addr)(c60 n60:Nat)(x60:Int)(A61:Option Addr)(c61 n61:Nat)(x61:Int)(A62:Option Addr)(c62 n62:Nat)(x62:Int)(A63:Option Addr)(c63 n63:Nat)(x63:Int)(A64:Option Addr)(c64 n64:Nat)(A65:Option Addr)(c65 n65:Nat)(A66:Option Addr)(c66 n66:Nat)(x66:Int)(A67:Option Addr)(c67 n67:Nat)(x67:Int)(A68:Option Addr)(c68 n68:Nat)(x68:Int)(A69:Option Addr)(c69 n69:Nat)(A70:Option Addr)(c70 n70:Nat)(x70:Int)(A71:Option Addr)(c71 n71:Nat)(x71:Int)(A72:Option Addr)(c72 n72:Nat)(x72:Int)(A73:Option Addr)(c73 n73:Nat)(x73:Int)(A74:Option Addr)(c74 n74:Nat)(x74:Int)(A75:Option Addr)(c75 n75:Nat)(A76:Option Addr)(c76 n76:Nat)(x76:Int)(A77:Option Addr)(c77 n77:Nat)(x77:Int)(A78:Option Addr)(c78 n78:Nat)(x78:Int)(A79:Option Addr)(c79 n79:Nat)(A80:Option Addr)(c80 n80:Nat)(A81:Option Addr)(c81 n81:Nat)(x81:Int)(A82:Option Addr)(c82 n82:Nat)(x82:Int)(A83:Option Addr)(c83 n83:Nat)(x83:Int)(A84:Option Addr)(c84 n84:Nat)(x84:Int)(A85:Option Addr)(c85 n85:Nat)(A86:Option Addr)(c86 n86:Nat)(A87:Option Addr)(c87 n87:Nat)(x87:Int)(A88:Option Addr)(c88 n88:Nat)(x88:Int)(A89:Option Addr)(c89 n89:Nat)(x89:Int)(A90:Option Addr)(c90 n90:Nat)(A91:Option Addr)(c91 n91:Nat)(A92:Option Addr)(c92 n92:Nat)(x92:Int)(A93:Option Addr)(c93 n93:Nat)(x93:Int)(A94:Option Addr)(c94 n94:Nat)(x94:Int)(A95:Option Addr)(c95 n95:Nat)(A96:Option Addr)(c96 n96:Nat)(A97:Option Addr)(c97 n97:Nat)(x97:Int)(A98:Option Addr)(c98:Nat)(cs98:List Value)(n98:Nat)(x98:Int)(A99:Option Addr)(c99 n99:Nat)(x99:Int)(A100:Option Addr)(c100 n100:Nat)(A101:Option Addr)(c101 n101 c102 n102:Nat)(x102:Int)(c103:Nat)(x103:Int)(A104:Option Addr)(x104:Int)(A105:Option Addr)(n105:Nat)(x105:Int)(A106:Option Addr)(c106 n106 c107 n107:Nat)(x107:Int)(A108:Option Addr)(c108:Nat)(x108:Int)(A109:Option Addr)(n109:Nat)(x109:Int)(A110:Option Addr)(c110 n110:Nat)(A111:Option Addr)(c111 n111:Nat)(A112:Option Addr)(c112:Nat)(cs112:List Value)(n112 c113:Nat)(cs113:List Value)(n113:Nat)(A114:Option Addr)(c114:Nat)(A115:Option Addr)(n115 c116 n116:Nat)(A117:Option Addr)(c117:Nat)(A118:Option Addr)(n118 c119 n119:Nat)(A120:Option Addr)(c120:Nat)(A121:Option Addr)(n121 c122 n122:Nat)(A123:Option Addr)(c123:Nat)(A124:Option Addr)(n124 c125 n125:Nat)(A126:Option Addr)(c126:Nat)(A127:Option Addr)(n127 c128 n128 c129:Nat)(x129 x130:Int)(A131:Option Addr)(x131:Int)(A132:Option Addr)(n132 c133 n133 c134:Nat)(x134 x135:Int)(A136:Option Addr)(x136:Int)(A137:Option Addr)(n137 c138 n138 c139:Nat)(x139 x140:Int)(A141:Option Addr)(x141:Int)(A142:Option Addr)(n142 c143 n143 c144:Nat)(M:Mem)
theorem zc.entry:entry P T k lo F.zc [.agg ⟨[.i x1,.i x2,.s A3 n4 c5,.i x6,.i x7,.s A8 n9 c10,.i x11,.i x12,.s A13 n14 c15]⟩,.agg ⟨[.b b16,.i x17,.b b18,.b b19,.i x20,.i x21,.i x22,.i x23,.i x24,.i x25,.i x26,.i x27,.i x28,.i x29,.i x30,.i x31,.i x32,.b b33,.i x34,.i x35,.i x36,.i x37,.i x38,.b b39,.i x40,.i x41,.s A42 n43 c44,.b b45,.b b46,.b b47]⟩,.agg ⟨[.i x48,.i x49,.s A50 n51 c52,.s A53 n54 c55,.s A56 n57 c58,.i x59,.i x60,.s A61 n62 c63,.s A64 n65 c66,.s A67 n68 c69,.i x70,.i x71,.s A72 n73 c74,.s A75 n76 c77,.s A78 n79 c80,.s A81 n82 c83,.s A84 n85 c86,.s A87 n88 c89,.s A90 n91 c92,.s A93 n94 c95]⟩] M=
 ob (z5 P T k M.length F.y7 [.agg ⟨[.i x1,.i x2,.s A3 n4 c5,.i x6,.i x7,.s A8 n9 c10,.i x11,.i x12,.s A13 n14 c15]⟩] M) fun r101=>
 ob ((some r101.1).bind (Value.agg? 9)) fun l102=>
 ob ((l102[0]?).bind (Value.int? .i64)) fun x103=>
 ob ((l102[1]?).bind (Value.int? .i64)) fun x104=>
 ob ((l102[2]?).bind Value.slc?) fun s105=>
 ob ((l102[3]?).bind (Value.int? .i64)) fun x106=>
 ob ((l102[4]?).bind (Value.int? .i64)) fun x107=>
 ob ((l102[5]?).bind Value.slc?) fun s108=>
 ob ((l102[6]?).bind (Value.int? .i64)) fun x109=>
 ob ((l102[7]?).bind (Value.int? .i64)) fun x110=>
 ob ((l102[8]?).bind Value.slc?) fun s111=>
 ob (z5 P T k lo F.jk [.agg ⟨[.i x48,.i x49,.s A50 n51 c52,.s A53 n54 c55,.s A56 n57 c58,.i x59,.i x60,.s A61 n62 c63,.s A64 n65 c66,.s A67 n68 c69,.i x70,.i x71,.s A72 n73 c74,.s A75 n76 c77,.s A78 n79 c80,.s A81 n82 c83,.s A84 n85 c86,.s A87 n88 c89,.s A90 n91 c92,.s A93 n94 c95]⟩] r101.2) fun r112=>
 ob ((some r112.1).bind (Value.agg? 20)) fun l113=>
 ob ((l113[0]?).bind (Value.int? .i64)) fun x114=>
 ob ((l113[1]?).bind (Value.int? .i64)) fun x115=>
 ob ((l113[2]?).bind Value.slc?) fun s116=>
 ob ((l113[3]?).bind Value.slc?) fun s117=>
 ob ((l113[4]?).bind Value.slc?) fun s118=>
 ob ((l113[5]?).bind (Value.int? .i64)) fun x119=>
 ob ((l113[6]?).bind (Value.int? .i64)) fun x120=>
 ob ((l113[7]?).bind Value.slc?) fun s121=>
 ob ((l113[8]?).bind Value.slc?) fun s122=>
 ob ((l113[9]?).bind Value.slc?) fun s123=>
 ob ((l113[10]?).bind (Value.int? .i64)) fun x124=>
 ob ((l113[11]?).bind (Value.int? .i64)) fun x125=>
 ob ((l113[12]?).bind Value.slc?) fun s126=>
 ob ((l113[13]?).bind Value.slc?) fun s127=>
 ob ((l113[14]?).bind Value.slc?) fun s128=>
 ob ((l113[15]?).bind Value.slc?) fun s129=>
 ob ((l113[16]?).bind Value.slc?) fun s130=>
 ob ((l113[17]?).bind Value.slc?) fun s131=>
 ob ((l113[18]?).bind Value.slc?) fun s132=>
 ob ((l113[19]?).bind Value.slc?) fun s133=>
 ob (z5 P T k lo F.vx [.agg ⟨[.i x103,.i x104,.s s105.a s105.n s105.c,.i x106,.i x107,.s s108.a s108.n s108.c,.i x109,.i x110,.s s111.a s111.n s111.c]⟩,.agg ⟨[.b b16,.i x17,.b b18,.b b19,.i x20,.i x21,.i x22,.i x23,.i x24,.i x25,.i x26,.i x27,.i x28,.i x29,.i x30,.i x31,.i x32,.b b33,.i x34,.i x35,.i x36,.i x37,.i x38,.b b39,.i x40,.i x41,.s A42 n43 c44,.b b45,.b b46,.b b47]⟩,.agg ⟨[.i x114,.i x115,.s s116.a s116.n s116.c,.s s117.a s117.n s117.c,.s s118.a s118.n s118.c,.i x119,.i x120,.s s121.a s121.n s121.c,.s s122.a s122.n s122.c,.s s123.a s123.n s123.c,.i x124,.i x125,.s s126.a s126.n s126.c,.s s127.a s127.n s127.c,.s s128.a s128.n s128.c,.s s129.a s129.n s129.c,.s s130.a s130.n s130.c,.s s131.a s131.n s131.c,.s s132.a s132.n s132.c,.s s133.a s133.n s133.c]⟩] r112.2) fun r134=>
 ob (r134.1.tup? 2) fun l135=>
 ob ((l135[0]?).bind (Value.agg? 9)) fun l136=>
 ob ((l136[0]?).bind (Value.int? .i64)) fun x137=>
 ob ((l136[1]?).bind (Value.int? .i64)) fun x138=>
 ob ((l136[2]?).bind Value.slc?) fun s139=>
 ob ((l136[3]?).bind (Value.int? .i64)) fun x140=>
 ob ((l136[4]?).bind (Value.int? .i64)) fun x141=>
 ob ((l136[5]?).bind Value.slc?) fun s142=>
 ob ((l136[6]?).bind (Value.int? .i64)) fun x143=>
 ob ((l136[7]?).bind (Value.int? .i64)) fun x144=>
 ob ((l136[8]?).bind Value.slc?) fun s145=>
 ob ((l135[1]?).bind (Value.int? .i64)) fun x146=>
 ob (z5 P T k lo F.zo [.agg ⟨[.i x1,.i x2,.s A3 n4 c5,.i x6,.i x7,.s A8 n9 c10,.i x11,.i x12,.s A13 n14 c15]⟩,.agg ⟨[.b b16,.i x17,.b b18,.b b19,.i x20,.i x21,.i x22,.i x23,.i x24,.i x25,.i x26,.i x27,.i x28,.i x29,.i x30,.i x31,.i x32,.b b33,.i x34,.i x35,.i x36,.i x37,.i x38,.b b39,.i x40,.i x41,.s A42 n43 c44,.b b45,.b b46,.b b47]⟩,.agg ⟨[.i x48,.i x49,.s A50 n51 c52,.s A53 n54 c55,.s A56 n57 c58,.i x59,.i x60,.s A61 n62 c63,.s A64 n65 c66,.s A67 n68 c69,.i x70,.i x71,.s A72 n73 c74,.s A75 n76 c77,.s A78 n79 c80,.s A81 n82 c83,.s A84 n85 c86,.s A87 n88 c89,.s A90 n91 c92,.s A93 n94 c95]⟩] r134.2) fun r147=>
 ob (r147.1.tup? 2) fun l148=>
 ob ((l148[0]?).bind (Value.agg? 9)) fun l149=>
 ob ((l149[0]?).bind (Value.int? .i64)) fun x150=>
 ob ((l149[1]?).bind (Value.int? .i64)) fun x151=>
 ob ((l149[2]?).bind Value.slc?) fun s152=>
 ob ((l149[3]?).bind (Value.int? .i64)) fun x153=>
 ob ((l149[4]?).bind (Value.int? .i64)) fun x154=>
 ob ((l149[5]?).bind Value.slc?) fun s155=>
 ob ((l149[6]?).bind (Value.int? .i64)) fun x156=>
 ob ((l149[7]?).bind (Value.int? .i64)) fun x157=>
 ob ((l149[8]?).bind Value.slc?) fun s158=>
 ob ((l148[1]?).bind (Value.int? .i64)) fun x159=>
 bb (x146 == x159)
 (ob (z5 P T k lo F.z65 [.agg ⟨[.i x137,.i x138,.s s139.a s139.n s139.c,.i x140,.i x141,.s s142.a s142.n s142.c,.i x143,.i x144,.s s145.a s145.n s145.c]⟩,.agg ⟨[.i x150,.i x151,.s s152.a s152.n s152.c,.i x153,.i x154,.s s155.a s155.n s155.c,.i x156,.i x157,.s s158.a s158.n s158.c]⟩] r147.2) fun r160=>
 ob ((some r160.1).bind Value.bool?) fun b161=>
 some (zc.Ca b161 0 x1 x2 A3 n4 c5 x6 x7 A8 n9 c10 x11 x12 A13 n14 c15 x48 x49 A50 n51 c52 A53 n54 c55 A56 n57 c58 x59 x60 A61 n62 c63 A64 n65 c66 A67 n68 c69 x70 x71 A72 n73 c74 A75 n76 c77 A78 n79 c80 A81 n82 c83 A84 n85 c86 A87 n88 c89 A90 n91 c92 A93 n94 c95 x103 x104 s105.a s105.n s105.c x106 x107 s108.a s108.n s108.c x109 x110 s111.a s111.n s111.c x114 x115 s116.a s116.n s116.c s117.a s117.n s117.c s118.a s118.n s118.c x119 x120 s121.a s121.n s121.c s122.a s122.n s122.c s123.a s123.n s123.c x124 x125 s126.a s126.n s126.c s127.a s127.n s127.c s128.a s128.n s128.c s129.a s129.n s129.c s130.a s130.n s130.c s131.a s131.n s131.c s132.a s132.n s132.c s133.a s133.n s133.c x137 x138 s139.a s139.n s139.c x140 x141 s142.a s142.n s142.c x143 x144 s145.a s145.n s145.c r160.2))
 (some (zc.Ca false 0 x1 x2 A3 n4 c5 x6 x7 A8 n9 c10 x11 x12 A13 n14 c15 x48 x49 A50 n51 c52 A53 n54 c55 A56 n57 c58 x59 x60 A61 n62 c63 A64 n65 c66 A67 n68 c69 x70 x71 A72 n73 c74 A75 n76 c77 A78 n79 c80 A81 n82 c83 A84 n85 c86 A87 n88 c89 A90 n91 c92 A93 n94 c95 x103 x104 s105.a s105.n s105.c x106 x107 s108.a s108.n s108.c x109 x110 s111.a s111.n s111.c x114 x115 s116.a s116.n s116.c s117.a s117.n s117.c s118.a s118.n s118.c x119 x120 s121.a s121.n s121.c s122.a s122.n s122.c s123.a s123.n s123.c x124 x125 s126.a s126.n s126.c s127.a s127.n s127.c s128.a s128.n s128.c s129.a s129.n s129.c s130.a s130.n s130.c s131.a s131.n s131.c s132.a s132.n s132.c s133.a s133.n s133.c x137 x138 s139.a s139.n s139.c x140 x141 s142.a s142.n s142.c x143 x144 s145.a s145.n s145.c r147.2)):=by kernel_rfl
theorem zc.Pa:pz P T k lo F.zc (zc.Ca b1 x2 x3 x4 A5 n6 c7 x8 x9 A10 n11 c12 x13 x14 A15 n16 c17 x18 x19 A20 n21 c22 A23 n24 c25 A26 n27 c28 x29 x30 A31 n32 c33 A34 n35 c36 A37 n38 c39 x40 x41 A42 n43 c44 A45 n46 c47 A48 n49 c50 A51 n52 c53 A54 n55 c56 A57 n58 c59 A60 n61 c62 A63 n64 c65 x66 x67 A68 n69 c70 x71 x72 A73 n74 c75 x76 x77 A78 n79 c80 x81 x82 A83 n84 c85 A86 n87 c88 A89 n90 c91 x92 x93 A94 n95 c96 A97 n98 c99 A100 n101 c102 x103 x104 A105 n106 c107 A108 n109 c110 A111 n112 c113 A114 n115 c116 A117 n118 c119 A120 n121 c122 A123 n124 c125 A126 n127 c128 x129 x130 A131 n132 c133 x134 x135 A136 n137 c138 x139 x140 A141 n142 c143 M)=
 bb (decide (x2 < 3))
 (some (zc.Cb b1 x2 0 x3 x4 A5 n6 c7 x8 x9 A10 n11 c12 x13 x14 A15 n16 c17 x18 x19 A20 n21 c22 A23 n24 c25 A26 n27 c28 x29 x30 A31 n32 c33 A34 n35 c36 A37 n38 c39 x40 x41 A42 n43 c44 A45 n46 c47 A48 n49 c50 A51 n52 c53 A54 n55 c56 A57 n58 c59 A60 n61 c62 A63 n64 c65 x66 x67 A68 n69 c70 x71 x72 A73 n74 c75 x76 x77 A78 n79 c80 x81 x82 A83 n84 c85 A86 n87 c88 A89 n90 c91 x92 x93 A94 n95 c96 A97 n98 c99 A100 n101 c102 x103 x104 A105 n106 c107 A108 n109 c110 A111 n112 c113 A114 n115 c116 A117 n118 c119 A120 n121 c122 A123 n124 c125 A126 n127 c128 x129 x130 A131 n132 c133 x134 x135 A136 n137 c138 x139 x140 A141 n142 c143 M))
 (bb b1
 (ob (z5 P T k lo F.z65 [.agg ⟨[.i x66,.i x67,.s A68 n69 c70,.i x71,.i x72,.s A73 n74 c75,.i x76,.i x77,.s A78 n79 c80]⟩,.agg ⟨[.i x3,.i x4,.s A5 n6 c7,.i x8,.i x9,.s A10 n11 c12,.i x13,.i x14,.s A15 n16 c17]⟩] M) fun r162=>
 ob ((some r162.1).bind Value.bool?) fun b163=>
 bb b163
 (ob (z5 P T k lo F.zi [.agg ⟨[.i x81,.i x82,.s A83 n84 c85,.s A86 n87 c88,.s A89 n90 c91,.i x92,.i x93,.s A94 n95 c96,.s A97 n98 c99,.s A100 n101 c102,.i x103,.i x104,.s A105 n106 c107,.s A108 n109 c110,.s A111 n112 c113,.s A114 n115 c116,.s A117 n118 c119,.s A120 n121 c122,.s A123 n124 c125,.s A126 n127 c128]⟩,.agg ⟨[.i x18,.i x19,.s A20 n21 c22,.s A23 n24 c25,.s A26 n27 c28,.i x29,.i x30,.s A31 n32 c33,.s A34 n35 c36,.s A37 n38 c39,.i x40,.i x41,.s A42 n43 c44,.s A45 n46 c47,.s A48 n49 c50,.s A51 n52 c53,.s A54 n55 c56,.s A57 n58 c59,.s A60 n61 c62,.s A63 n64 c65]⟩] r162.2) fun r164=>
 ob ((some r164.1).bind Value.bool?) fun b165=>
 bb b165
 (ob (z5 P T k lo F.z8y [] r164.2) fun r166=>
 ob ((some r166.1).bind Value.bool?) fun b167=>
 some (.ret (.b b167) r166.2))
 (some (.ret (.b false) r164.2)))
 (some (.ret (.b false) r162.2)))
 (some (.ret (.b false) M))):=by kernel_rfl
theorem zc.Pb:pz P T k lo F.zc (zc.Cb b1 x2 x3 x4 x5 A6 n7 c8 x9 x10 A11 n12 c13 x14 x15 A16 n17 c18 x19 x20 A21 n22 c23 A24 n25 c26 A27 n28 c29 x30 x31 A32 n33 c34 A35 n36 c37 A38 n39 c40 x41 x42 A43 n44 c45 A46 n47 c48 A49 n50 c51 A52 n53 c54 A55 n56 c57 A58 n59 c60 A61 n62 c63 A64 n65 c66 x67 x68 A69 n70 c71 x72 x73 A74 n75 c76 x77 x78 A79 n80 c81 x82 x83 A84 n85 c86 A87 n88 c89 A90 n91 c92 x93 x94 A95 n96 c97 A98 n99 c100 A101 n102 c103 x104 x105 A106 n107 c108 A109 n110 c111 A112 n113 c114 A115 n116 c117 A118 n119 c120 A121 n122 c123 A124 n125 c126 A127 n128 c129 x130 x131 A132 n133 c134 x135 x136 A137 n138 c139 x140 x141 A142 n143 c144 M)=
 pb (0≤x2∧x2 < (3:Int))
 (ob ((([.i x130,.i x131,.s A132 n133 c134,.i x135,.i x136,.s A137 n138 c139,.i x140,.i x141,.s A142 n143 c144]:List Value)[0+(x2.toNat*3)+2+0]?).bind Value.slc?) fun s168=>
 bb (decide (x3 < (s168.n:Int)))
 (pb (0≤x2∧x2 < (3:Int))
 (ob ((([.i x130,.i x131,.s A132 n133 c134,.i x135,.i x136,.s A137 n138 c139,.i x140,.i x141,.s A142 n143 c144]:List Value)[0+(x2.toNat*3)+2+0]?).bind Value.slc?) fun s169=>
 pb (0≤x2∧x2 < (3:Int))
 (ob ((([.i x130,.i x131,.s A132 n133 c134,.i x135,.i x136,.s A137 n138 c139,.i x140,.i x141,.s A142 n143 c144]:List Value)[0+(x2.toNat*3)+2+0]?).bind Value.slc?) fun s170=>
 pb (0≤x3∧x3 < (s170.n:Int))
 (ob s170.a fun a171=>
 ob ((M.ld (plus a171 x3.toNat)).bind (Value.int? .u8)) fun x172=>
 pb (0≤x3∧x3 < (s169.n:Int))
 (ob s169.a fun a173=>
 ob (M.st lo (plus a173 x3.toNat) [.int .u8 (zda .u8 x172 255)]) fun M174=>
 some (zc.Cb b1 x2 (i64.wrap (x3+1)) x4 x5 A6 n7 c8 x9 x10 A11 n12 c13 x14 x15 A16 n17 c18 x19 x20 A21 n22 c23 A24 n25 c26 A27 n28 c29 x30 x31 A32 n33 c34 A35 n36 c37 A38 n39 c40 x41 x42 A43 n44 c45 A46 n47 c48 A49 n50 c51 A52 n53 c54 A55 n56 c57 A58 n59 c60 A61 n62 c63 A64 n65 c66 x67 x68 A69 n70 c71 x72 x73 A74 n75 c76 x77 x78 A79 n80 c81 x82 x83 A84 n85 c86 A87 n88 c89 A90 n91 c92 x93 x94 A95 n96 c97 A98 n99 c100 A101 n102 c103 x104 x105 A106 n107 c108 A109 n110 c111 A112 n113 c114 A115 n116 c117 A118 n119 c120 A121 n122 c123 A124 n125 c126 A127 n128 c129 x130 x131 A132 n133 c134 x135 x136 A137 n138 c139 x140 x141 A142 n143 c144 M174)) none) none) none) none)
 (some (zc.Ca b1 (i64.wrap (x2+1)) x4 x5 A6 n7 c8 x9 x10 A11 n12 c13 x14 x15 A16 n17 c18 x19 x20 A21 n22 c23 A24 n25 c26 A27 n28 c29 x30 x31 A32 n33 c34 A35 n36 c37 A38 n39 c40 x41 x42 A43 n44 c45 A46 n47 c48 A49 n50 c51 A52 n53 c54 A55 n56 c57 A58 n59 c60 A61 n62 c63 A64 n65 c66 x67 x68 A69 n70 c71 x72 x73 A74 n75 c76 x77 x78 A79 n80 c81 x82 x83 A84 n85 c86 A87 n88 c89 A90 n91 c92 x93 x94 A95 n96 c97 A98 n99 c100 A101 n102 c103 x104 x105 A106 n107 c108 A109 n110 c111 A112 n113 c114 A115 n116 c117 A118 n119 c120 A121 n122 c123 A124 n125 c126 A127 n128 c129 x130 x131 A132 n133 c134 x135 x136 A137 n138 c139 x140 x141 A142 n143 c144 M))) none:=by kernel_rfl
theorem y7.entry:entry P T k lo F.y7 [.agg ⟨[.i x1,.i x2,.s A3 n4 c5,.i x6,.i x7,.s A8 n9 c10,.i x11,.i x12,.s A13 n14 c15]⟩] M=
 some (y7.Ca 0 x1 x2 A3 n4 c5 x6 x7 A8 n9 c10 x11 x12 A13 n14 c15 0 0 none 0 0 0 0 none 0 0 0 0 none 0 0 ([.i 0,.i 0,.s none 0 0,.i 0,.i 0,.s none 0 0,.i 0,.i 0,.s none 0 0]) M):=by kernel_rfl
theorem y7.Pa:pz P T k lo F.y7 (y7.Ca x1 x2 x3 A4 n5 c6 x7 x8 A9 n10 c11 x12 x13 A14 n15 c16 x17 x18 A19 n20 c21 x22 x23 A24 n25 c26 x27 x28 A29 n30 c31 cs32 M)=
 bb (decide (x1 < 3))
 (pb (0≤x1∧x1 < (3:Int))
 (ob ((([.i x2,.i x3,.s A4 n5 c6,.i x7,.i x8,.s A9 n10 c11,.i x12,.i x13,.s A14 n15 c16]:List Value)[0+(x1.toNat*3)+0]?).bind (Value.int? .i64)) fun x33=>
 ob ((([.i x2,.i x3,.s A4 n5 c6,.i x7,.i x8,.s A9 n10 c11,.i x12,.i x13,.s A14 n15 c16]:List Value)[0+(x1.toNat*3)+1]?).bind (Value.int? .i64)) fun x34=>
 ob ((([.i x2,.i x3,.s A4 n5 c6,.i x7,.i x8,.s A9 n10 c11,.i x12,.i x13,.s A14 n15 c16]:List Value)[0+(x1.toNat*3)+2]?).bind Value.slc?) fun s35=>
 ob (z5 P T k lo F.z66 [.agg ⟨[.i x33,.i x34,.s s35.a s35.n s35.c]⟩] M) fun r36=>
 ob ((some r36.1).bind (Value.agg? 3)) fun l37=>
 ob ((l37[0]?).bind (Value.int? .i64)) fun x38=>
 ob ((l37[1]?).bind (Value.int? .i64)) fun x39=>
 ob ((l37[2]?).bind Value.slc?) fun s40=>
 pb (0≤x1∧x1 < (3:Int))
 (pb (0+(x1.toNat*3)+3≤cs32.length)
 (some (y7.Ca (i64.wrap (x1+1)) x2 x3 A4 n5 c6 x7 x8 A9 n10 c11 x12 x13 A14 n15 c16 x17 x18 A19 n20 c21 x22 x23 A24 n25 c26 x27 x28 A29 n30 c31 (setL cs32 (0+(x1.toNat*3)) [.i x38,.i x39,.s s40.a s40.n s40.c]) r36.2)) none) none) none)
 (ob ((cs32[0]?).bind (Value.int? .i64)) fun x41=>
 ob ((cs32[1]?).bind (Value.int? .i64)) fun x42=>
 ob ((cs32[2]?).bind Value.slc?) fun s43=>
 ob ((cs32[3]?).bind (Value.int? .i64)) fun x44=>
 ob ((cs32[4]?).bind (Value.int? .i64)) fun x45=>
 ob ((cs32[5]?).bind Value.slc?) fun s46=>
 ob ((cs32[6]?).bind (Value.int? .i64)) fun x47=>
 ob ((cs32[7]?).bind (Value.int? .i64)) fun x48=>
 ob ((cs32[8]?).bind Value.slc?) fun s49=>
 some (.ret (.agg ⟨[.i x41,.i x42,.s s43.a s43.n s43.c,.i x44,.i x45,.s s46.a s46.n s46.c,.i x47,.i x48,.s s49.a s49.n s49.c]⟩) M)):=by kernel_rfl
theorem jk.entry:entry P T k lo F.jk [.agg ⟨[.i x1,.i x2,.s A3 n4 c5,.s A6 n7 c8,.s A9 n10 c11,.i x12,.i x13,.s A14 n15 c16,.s A17 n18 c19,.s A20 n21 c22,.i x23,.i x24,.s A25 n26 c27,.s A28 n29 c30,.s A31 n32 c33,.s A34 n35 c36,.s A37 n38 c39,.s A40 n41 c42,.s A43 n44 c45,.s A46 n47 c48]⟩] M=
 some (jk.Ca 0 x1 x2 A3 n4 c5 A6 n7 c8 A9 n10 c11 x12 x13 A14 n15 c16 A17 n18 c19 A20 n21 c22 x23 x24 A25 n26 c27 A28 n29 c30 A31 n32 c33 A34 n35 c36 A37 n38 c39 A40 n41 c42 A43 n44 c45 A46 n47 c48 0 0 none 0 0 none 0 0 none 0 0 0 0 none 0 0 none 0 0 none 0 0 0 0 none 0 0 none 0 0 none 0 0 none 0 0 none 0 0 none 0 0 none 0 0 none 0 0 ([.i 0,.i 0,.s none 0 0,.s none 0 0,.s none 0 0,.i 0,.i 0,.s none 0 0,.s none 0 0,.s none 0 0,.i 0,.i 0,.s none 0 0,.s none 0 0,.s none 0 0,.s none 0 0,.s none 0 0,.s none 0 0,.s none 0 0,.s none 0 0]) M):=by kernel_rfl
theorem jk.Pa:pz P T k lo F.jk (jk.Ca x1 x2 x3 A4 n5 c6 A7 n8 c9 A10 n11 c12 x13 x14 A15 n16 c17 A18 n19 c20 A21 n22 c23 x24 x25 A26 n27 c28 A29 n30 c31 A32 n33 c34 A35 n36 c37 A38 n39 c40 A41 n42 c43 A44 n45 c46 A47 n48 c49 x50 x51 A52 n53 c54 A55 n56 c57 A58 n59 c60 x61 x62 A63 n64 c65 A66 n67 c68 A69 n70 c71 x72 x73 A74 n75 c76 A77 n78 c79 A80 n81 c82 A83 n84 c85 A86 n87 c88 A89 n90 c91 A92 n93 c94 A95 n96 c97 cs98 M)=
 bb (decide (x1 < 3))
 (pb (0≤x1∧x1 < (3:Int))
 (ob ((([.i x2,.i x3,.s A4 n5 c6,.s A7 n8 c9,.s A10 n11 c12,.i x13,.i x14,.s A15 n16 c17,.s A18 n19 c20,.s A21 n22 c23,.i x24,.i x25,.s A26 n27 c28,.s A29 n30 c31,.s A32 n33 c34,.s A35 n36 c37,.s A38 n39 c40,.s A41 n42 c43,.s A44 n45 c46,.s A47 n48 c49]:List Value)[0+(x1.toNat*5)+0]?).bind (Value.int? .i64)) fun x99=>
 ob ((([.i x2,.i x3,.s A4 n5 c6,.s A7 n8 c9,.s A10 n11 c12,.i x13,.i x14,.s A15 n16 c17,.s A18 n19 c20,.s A21 n22 c23,.i x24,.i x25,.s A26 n27 c28,.s A29 n30 c31,.s A32 n33 c34,.s A35 n36 c37,.s A38 n39 c40,.s A41 n42 c43,.s A44 n45 c46,.s A47 n48 c49]:List Value)[0+(x1.toNat*5)+1]?).bind (Value.int? .i64)) fun x100=>
 ob ((([.i x2,.i x3,.s A4 n5 c6,.s A7 n8 c9,.s A10 n11 c12,.i x13,.i x14,.s A15 n16 c17,.s A18 n19 c20,.s A21 n22 c23,.i x24,.i x25,.s A26 n27 c28,.s A29 n30 c31,.s A32 n33 c34,.s A35 n36 c37,.s A38 n39 c40,.s A41 n42 c43,.s A44 n45 c46,.s A47 n48 c49]:List Value)[0+(x1.toNat*5)+2]?).bind Value.slc?) fun s101=>
 ob ((([.i x2,.i x3,.s A4 n5 c6,.s A7 n8 c9,.s A10 n11 c12,.i x13,.i x14,.s A15 n16 c17,.s A18 n19 c20,.s A21 n22 c23,.i x24,.i x25,.s A26 n27 c28,.s A29 n30 c31,.s A32 n33 c34,.s A35 n36 c37,.s A38 n39 c40,.s A41 n42 c43,.s A44 n45 c46,.s A47 n48 c49]:List Value)[0+(x1.toNat*5)+3]?).bind Value.slc?) fun s102=>
 ob ((([.i x2,.i x3,.s A4 n5 c6,.s A7 n8 c9,.s A10 n11 c12,.i x13,.i x14,.s A15 n16 c17,.s A18 n19 c20,.s A21 n22 c23,.i x24,.i x25,.s A26 n27 c28,.s A29 n30 c31,.s A32 n33 c34,.s A35 n36 c37,.s A38 n39 c40,.s A41 n42 c43,.s A44 n45 c46,.s A47 n48 c49]:List Value)[0+(x1.toNat*5)+4]?).bind Value.slc?) fun s103=>
 ob (z5 P T k M.length F.z64 [.s s101.a s101.n s101.c] M) fun r104=>
 ob ((some r104.1).bind Value.slc?) fun s105=>
 ob (z5 P T k M.length F.z72 [.s s102.a s102.n s102.c] r104.2) fun r106=>
 ob ((some r106.1).bind Value.slc?) fun s107=>
 ob (z5 P T k M.length F.z8v [.s s103.a s103.n s103.c] r106.2) fun r108=>
 ob ((some r108.1).bind Value.slc?) fun s109=>
 pb (0≤x1∧x1 < (3:Int))
 (pb (0+(x1.toNat*5)+5≤cs98.length)
 (pb (0≤x1∧x1 < (3:Int))
 (ob ((([.i x2,.i x3,.s A4 n5 c6,.s A7 n8 c9,.s A10 n11 c12,.i x13,.i x14,.s A15 n16 c17,.s A18 n19 c20,.s A21 n22 c23,.i x24,.i x25,.s A26 n27 c28,.s A29 n30 c31,.s A32 n33 c34,.s A35 n36 c37,.s A38 n39 c40,.s A41 n42 c43,.s A44 n45 c46,.s A47 n48 c49]:List Value)[17+x1.toNat+0]?).bind Value.slc?) fun s110=>
 ob (z5 P T k lo F.z8u [.s s110.a s110.n s110.c] r108.2) fun r111=>
 ob ((some r111.1).bind Value.slc?) fun s112=>
 pb (0≤x1∧x1 < (3:Int))
 (pb (17+x1.toNat+1≤(setL cs98 (0+(x1.toNat*5)) [.i x99,.i x100,.s s105.a s105.n s105.c,.s s107.a s107.n s107.c,.s s109.a s109.n s109.c]).length)
 (some (jk.Ca (i64.wrap (x1+1)) x2 x3 A4 n5 c6 A7 n8 c9 A10 n11 c12 x13 x14 A15 n16 c17 A18 n19 c20 A21 n22 c23 x24 x25 A26 n27 c28 A29 n30 c31 A32 n33 c34 A35 n36 c37 A38 n39 c40 A41 n42 c43 A44 n45 c46 A47 n48 c49 x50 x51 A52 n53 c54 A55 n56 c57 A58 n59 c60 x61 x62 A63 n64 c65 A66 n67 c68 A69 n70 c71 x72 x73 A74 n75 c76 A77 n78 c79 A80 n81 c82 A83 n84 c85 A86 n87 c88 A89 n90 c91 A92 n93 c94 A95 n96 c97 (setL (setL cs98 (0+(x1.toNat*5)) [.i x99,.i x100,.s s105.a s105.n s105.c,.s s107.a s107.n s107.c,.s s109.a s109.n s109.c]) (17+x1.toNat) [.s s112.a s112.n s112.c]) r111.2)) none) none) none) none) none) none)
 (ob (z5 P T k lo F.z8v [.s A35 n36 c37] M) fun r113=>
 ob ((some r113.1).bind Value.slc?) fun s114=>
 pb (15+1≤cs98.length)
 (ob (z5 P T k lo F.z72 [.s A38 n39 c40] r113.2) fun r115=>
 ob ((some r115.1).bind Value.slc?) fun s116=>
 pb (16+1≤(setL cs98 15 [.s s114.a s114.n s114.c]).length)
 (ob (((setL (setL cs98 15 [.s s114.a s114.n s114.c]) 16 [.s s116.a s116.n s116.c])[0]?).bind (Value.int? .i64)) fun x117=>
 ob (((setL (setL cs98 15 [.s s114.a s114.n s114.c]) 16 [.s s116.a s116.n s116.c])[1]?).bind (Value.int? .i64)) fun x118=>
 ob (((setL (setL cs98 15 [.s s114.a s114.n s114.c]) 16 [.s s116.a s116.n s116.c])[2]?).bind Value.slc?) fun s119=>
 ob (((setL (setL cs98 15 [.s s114.a s114.n s114.c]) 16 [.s s116.a s116.n s116.c])[3]?).bind Value.slc?) fun s120=>
 ob (((setL (setL cs98 15 [.s s114.a s114.n s114.c]) 16 [.s s116.a s116.n s116.c])[4]?).bind Value.slc?) fun s121=>
 ob (((setL (setL cs98 15 [.s s114.a s114.n s114.c]) 16 [.s s116.a s116.n s116.c])[5]?).bind (Value.int? .i64)) fun x122=>
 ob (((setL (setL cs98 15 [.s s114.a s114.n s114.c]) 16 [.s s116.a s116.n s116.c])[6]?).bind (Value.int? .i64)) fun x123=>
 ob (((setL (setL cs98 15 [.s s114.a s114.n s114.c]) 16 [.s s116.a s116.n s116.c])[7]?).bind Value.slc?) fun s124=>
 ob (((setL (setL cs98 15 [.s s114.a s114.n s114.c]) 16 [.s s116.a s116.n s116.c])[8]?).bind Value.slc?) fun s125=>
 ob (((setL (setL cs98 15 [.s s114.a s114.n s114.c]) 16 [.s s116.a s116.n s116.c])[9]?).bind Value.slc?) fun s126=>
 ob (((setL (setL cs98 15 [.s s114.a s114.n s114.c]) 16 [.s s116.a s116.n s116.c])[10]?).bind (Value.int? .i64)) fun x127=>
 ob (((setL (setL cs98 15 [.s s114.a s114.n s114.c]) 16 [.s s116.a s116.n s116.c])[11]?).bind (Value.int? .i64)) fun x128=>
 ob (((setL (setL cs98 15 [.s s114.a s114.n s114.c]) 16 [.s s116.a s116.n s116.c])[12]?).bind Value.slc?) fun s129=>
 ob (((setL (setL cs98 15 [.s s114.a s114.n s114.c]) 16 [.s s116.a s116.n s116.c])[13]?).bind Value.slc?) fun s130=>
 ob (((setL (setL cs98 15 [.s s114.a s114.n s114.c]) 16 [.s s116.a s116.n s116.c])[14]?).bind Value.slc?) fun s131=>
 ob (((setL (setL cs98 15 [.s s114.a s114.n s114.c]) 16 [.s s116.a s116.n s116.c])[15]?).bind Value.slc?) fun s132=>
 ob (((setL (setL cs98 15 [.s s114.a s114.n s114.c]) 16 [.s s116.a s116.n s116.c])[16]?).bind Value.slc?) fun s133=>
 ob (((setL (setL cs98 15 [.s s114.a s114.n s114.c]) 16 [.s s116.a s116.n s116.c])[17]?).bind Value.slc?) fun s134=>
 ob (((setL (setL cs98 15 [.s s114.a s114.n s114.c]) 16 [.s s116.a s116.n s116.c])[18]?).bind Value.slc?) fun s135=>
 ob (((setL (setL cs98 15 [.s s114.a s114.n s114.c]) 16 [.s s116.a s116.n s116.c])[19]?).bind Value.slc?) fun s136=>
 some (.ret (.agg ⟨[.i x117,.i x118,.s s119.a s119.n s119.c,.s s120.a s120.n s120.c,.s s121.a s121.n s121.c,.i x122,.i x123,.s s124.a s124.n s124.c,.s s125.a s125.n s125.c,.s s126.a s126.n s126.c,.i x127,.i x128,.s s129.a s129.n s129.c,.s s130.a s130.n s130.c,.s s131.a s131.n s131.c,.s s132.a s132.n s132.c,.s s133.a s133.n s133.c,.s s134.a s134.n s134.c,.s s135.a s135.n s135.c,.s s136.a s136.n s136.c]⟩) r115.2)) none) none):=by kernel_rfl
theorem vx.entry:entry P T k lo F.vx [.agg ⟨[.i x1,.i x2,.s A3 n4 c5,.i x6,.i x7,.s A8 n9 c10,.i x11,.i x12,.s A13 n14 c15]⟩,.agg ⟨[.b b16,.i x17,.b b18,.b b19,.i x20,.i x21,.i x22,.i x23,.i x24,.i x25,.i x26,.i x27,.i x28,.i x29,.i x30,.i x31,.i x32,.b b33,.i x34,.i x35,.i x36,.i x37,.i x38,.b b39,.i x40,.i x41,.s A42 n43 c44,.b b45,.b b46,.b b47]⟩,.agg ⟨[.i x48,.i x49,.s A50 n51 c52,.s A53 n54 c55,.s A56 n57 c58,.i x59,.i x60,.s A61 n62 c63,.s A64 n65 c66,.s A67 n68 c69,.i x70,.i x71,.s A72 n73 c74,.s A75 n76 c77,.s A78 n79 c80,.s A81 n82 c83,.s A84 n85 c86,.s A87 n88 c89,.s A90 n91 c92,.s A93 n94 c95]⟩] M=
 ob (z5 P T k lo F.v9 [.agg ⟨[.i x1,.i x2,.s A3 n4 c5,.i x6,.i x7,.s A8 n9 c10,.i x11,.i x12,.s A13 n14 c15]⟩] M) fun r101=>
 ob ((some r101.1).bind (Value.int? .i64)) fun x102=>
 bb (x102 != 0)
 (some (.ret (.tuple ⟨[.agg ⟨[.i 0,.i 0,.s none 0 0,.i 0,.i 0,.s none 0 0,.i 0,.i 0,.s none 0 0]⟩,.i 2]⟩) r101.2))
 (bb (Int.tmod x1 8 != 0)
 (some (.ret (.tuple ⟨[.agg ⟨[.i 0,.i 0,.s none 0 0,.i 0,.i 0,.s none 0 0,.i 0,.i 0,.s none 0 0]⟩,.i 2]⟩) r101.2))
 (bb (Int.tmod x2 8 != 0)
 (some (.ret (.tuple ⟨[.agg ⟨[.i 0,.i 0,.s none 0 0,.i 0,.i 0,.s none 0 0,.i 0,.i 0,.s none 0 0]⟩,.i 2]⟩) r101.2))
 (ob (z5 P T k r101.2.length F.uk [.agg ⟨[.i x1,.i x2,.s A3 n4 c5,.i x6,.i x7,.s A8 n9 c10,.i x11,.i x12,.s A13 n14 c15]⟩] r101.2) fun r103=>
 ob ((some r103.1).bind (Value.agg? 9)) fun l104=>
 ob ((l104[0]?).bind (Value.int? .i64)) fun x105=>
 ob ((l104[1]?).bind (Value.int? .i64)) fun x106=>
 ob ((l104[2]?).bind Value.slc?) fun s107=>
 ob ((l104[3]?).bind (Value.int? .i64)) fun x108=>
 ob ((l104[4]?).bind (Value.int? .i64)) fun x109=>
 ob ((l104[5]?).bind Value.slc?) fun s110=>
 ob ((l104[6]?).bind (Value.int? .i64)) fun x111=>
 ob ((l104[7]?).bind (Value.int? .i64)) fun x112=>
 ob ((l104[8]?).bind Value.slc?) fun s113=>
 ob (z5 P T k lo F.zdu [.agg ⟨[.b b16,.i x17,.b b18,.b b19,.i x20,.i x21,.i x22,.i x23,.i x24,.i x25,.i x26,.i x27,.i x28,.i x29,.i x30,.i x31,.i x32,.b b33,.i x34,.i x35,.i x36,.i x37,.i x38,.b b39,.i x40,.i x41,.s A42 n43 c44,.b b45,.b b46,.b b47]⟩] (r103.2 ++ [⟨.fx,[.i x105,.i x106,.s s107.a s107.n s107.c,.i x108,.i x109,.s s110.a s110.n s110.c,.i x111,.i x112,.s s113.a s113.n s113.c,.i 0,.i 0,.s none 0 0,.i 0,.i 0,.s none 0 0,.i 0,.i 0,.s none 0 0,.b b16,.i x17,.b b18,.b b19,.i x20,.i x21,.i x22,.i x23,.i x24,.i x25,.i x26,.i x27,.i x28,.i x29,.i x30,.i x31,.i x32,.b b33,.i x34,.i x35,.i x36,.i x37,.i x38,.b b39,.i x40,.i x41,.s A42 n43 c44,.b b45,.b b46,.b b47,.i x48,.i x49,.s A50 n51 c52,.s A53 n54 c55,.s A56 n57 c58,.i x59,.i x60,.s A61 n62 c63,.s A64 n65 c66,.s A67 n68 c69,.i x70,.i x71,.s A72 n73 c74,.s A75 n76 c77,.s A78 n79 c80,.s A81 n82 c83,.s A84 n85 c86,.s A87 n88 c89,.s A90 n91 c92,.s A93 n94 c95]⟩]:Mem)) fun r114=>
 ob ((some r114.1).bind Value.bool?) fun b115=>
 bb b115
 (ob ((r114.2.ld ⟨r103.2.length,0,none⟩).bind (Value.int? .i64)) fun x116=>
 ob ((r114.2.ld (plus ⟨r103.2.length,0,none⟩ 1)).bind (Value.int? .i64)) fun x117=>
 ob ((r114.2.ld (plus ⟨r103.2.length,0,none⟩ 2)).bind Value.slc?) fun s118=>
 ob ((r114.2.ld (plus ⟨r103.2.length,0,none⟩ 3)).bind (Value.int? .i64)) fun x119=>
 ob ((r114.2.ld (plus ⟨r103.2.length,0,none⟩ 4)).bind (Value.int? .i64)) fun x120=>
 ob ((r114.2.ld (plus ⟨r103.2.length,0,none⟩ 5)).bind Value.slc?) fun s121=>
 ob ((r114.2.ld (plus ⟨r103.2.length,0,none⟩ 6)).bind (Value.int? .i64)) fun x122=>
 ob ((r114.2.ld (plus ⟨r103.2.length,0,none⟩ 7)).bind (Value.int? .i64)) fun x123=>
 ob ((r114.2.ld (plus ⟨r103.2.length,0,none⟩ 8)).bind Value.slc?) fun s124=>
 some (.ret (.tuple ⟨[.agg ⟨[.i x116,.i x117,.s s118.a s118.n s118.c,.i x119,.i x120,.s s121.a s121.n s121.c,.i x122,.i x123,.s s124.a s124.n s124.c]⟩,.i 0]⟩) r114.2))
 (some (vx.Ca ⟨r103.2.length,0,none⟩ (some ⟨r114.2.length,0,none⟩) 3 3 3 0 0 0 none 0 0 0 0 none 0 0 0 0 none 0 0 (r114.2 ++ [⟨.fx,[.func (.func F.zx) ⟨[.pointer (some ⟨r103.2.length,0,none⟩)]⟩ ⟨[]⟩,.func (.func F.qf) ⟨[.pointer (some ⟨r103.2.length,0,none⟩)]⟩ ⟨[]⟩,.func (.func F.zu) ⟨[.pointer (some ⟨r103.2.length,0,none⟩)]⟩ ⟨[]⟩]⟩]:Mem)))))):=by kernel_rfl
theorem vx.Pa:pz P T k lo F.vx (vx.Ca a1 A2 n3 c4 x5 x6 x7 x8 A9 n10 c11 x12 x13 A14 n15 c16 x17 x18 A19 n20 c21 M)=
 bb (decide (x6 < x5))
 (pb (0≤x6∧x6 < (n3:Int))
 (ob A2 fun a125=>
 ob ((M.ld (plus a125 x6.toNat)).bind Value.one?) fun v126=>
 ob (Value.fun? v126) fun q128=>
 ob (z5 P T k lo q128.1 (q128.2.1 ++ [] ++ q128.2.2) M) fun r127=>
 ob ((some r127.1).bind (Value.int? .i64)) fun x129=>
 bb (x129 != 0)
 (some (.ret (.tuple ⟨[.agg ⟨[.i 0,.i 0,.s none 0 0,.i 0,.i 0,.s none 0 0,.i 0,.i 0,.s none 0 0]⟩,.i 2]⟩) r127.2))
 (some (vx.Ca a1 A2 n3 c4 x5 (i64.wrap (x6+1)) x7 x8 A9 n10 c11 x12 x13 A14 n15 c16 x17 x18 A19 n20 c21 r127.2))) none)
 (ob ((M.ld a1).bind (Value.int? .i64)) fun x130=>
 ob ((M.ld (plus a1 1)).bind (Value.int? .i64)) fun x131=>
 ob ((M.ld (plus a1 2)).bind Value.slc?) fun s132=>
 ob ((M.ld (plus a1 3)).bind (Value.int? .i64)) fun x133=>
 ob ((M.ld (plus a1 4)).bind (Value.int? .i64)) fun x134=>
 ob ((M.ld (plus a1 5)).bind Value.slc?) fun s135=>
 ob ((M.ld (plus a1 6)).bind (Value.int? .i64)) fun x136=>
 ob ((M.ld (plus a1 7)).bind (Value.int? .i64)) fun x137=>
 ob ((M.ld (plus a1 8)).bind Value.slc?) fun s138=>
 some (.ret (.tuple ⟨[.agg ⟨[.i x130,.i x131,.s s132.a s132.n s132.c,.i x133,.i x134,.s s135.a s135.n s135.c,.i x136,.i x137,.s s138.a s138.n s138.c]⟩,.i 0]⟩) M)):=by kernel_rfl
theorem zo.entry:entry P T k lo F.zo [.agg ⟨[.i x1,.i x2,.s A3 n4 c5,.i x6,.i x7,.s A8 n9 c10,.i x11,.i x12,.s A13 n14 c15]⟩,.agg ⟨[.b b16,.i x17,.b b18,.b b19,.i x20,.i x21,.i x22,.i x23,.i x24,.i x25,.i x26,.i x27,.i x28,.i x29,.i x30,.i x31,.i x32,.b b33,.i x34,.i x35,.i x36,.i x37,.i x38,.b b39,.i x40,.i x41,.s A42 n43 c44,.b b45,.b b46,.b b47]⟩,.agg ⟨[.i x48,.i x49,.s A50 n51 c52,.s A53 n54 c55,.s A56 n57 c58,.i x59,.i x60,.s A61 n62 c63,.s A64 n65 c66,.s A67 n68 c69,.i x70,.i x71,.s A72 n73 c74,.s A75 n76 c77,.s A78 n79 c80,.s A81 n82 c83,.s A84 n85 c86,.s A87 n88 c89,.s A90 n91 c92,.s A93 n94 c95]⟩] M=
 ob (z5 P T k lo F.q8 [.agg ⟨[.i x1,.i x2,.s A3 n4 c5,.i x6,.i x7,.s A8 n9 c10,.i x11,.i x12,.s A13 n14 c15]⟩] M) fun r101=>
 ob ((some r101.1).bind (Value.int? .i64)) fun x102=>
 bb (x102 != 0)
 (some (.ret (.tuple ⟨[.agg ⟨[.i 0,.i 0,.s none 0 0,.i 0,.i 0,.s none 0 0,.i 0,.i 0,.s none 0 0]⟩,.i 2]⟩) r101.2))
 (bb (Int.tmod x1 8 != 0)
 (some (.ret (.tuple ⟨[.agg ⟨[.i 0,.i 0,.s none 0 0,.i 0,.i 0,.s none 0 0,.i 0,.i 0,.s none 0 0]⟩,.i 2]⟩) r101.2))
 (bb (Int.tmod x2 8 != 0)
 (some (.ret (.tuple ⟨[.agg ⟨[.i 0,.i 0,.s none 0 0,.i 0,.i 0,.s none 0 0,.i 0,.i 0,.s none 0 0]⟩,.i 2]⟩) r101.2))
 (ob (z5 P T k lo F.z70 [.agg ⟨[.b b16,.i x17,.b b18,.b b19,.i x20,.i x21,.i x22,.i x23,.i x24,.i x25,.i x26,.i x27,.i x28,.i x29,.i x30,.i x31,.i x32,.b b33,.i x34,.i x35,.i x36,.i x37,.i x38,.b b39,.i x40,.i x41,.s A42 n43 c44,.b b45,.b b46,.b b47]⟩] r101.2) fun r103=>
 ob ((some r103.1).bind Value.bool?) fun b104=>
 bb b104
 (ob (z5 P T k lo F.y7 [.agg ⟨[.i x1,.i x2,.s A3 n4 c5,.i x6,.i x7,.s A8 n9 c10,.i x11,.i x12,.s A13 n14 c15]⟩] r103.2) fun r105=>
 ob ((some r105.1).bind (Value.agg? 9)) fun l106=>
 ob ((l106[0]?).bind (Value.int? .i64)) fun x107=>
 ob ((l106[1]?).bind (Value.int? .i64)) fun x108=>
 ob ((l106[2]?).bind Value.slc?) fun s109=>
 ob ((l106[3]?).bind (Value.int? .i64)) fun x110=>
 ob ((l106[4]?).bind (Value.int? .i64)) fun x111=>
 ob ((l106[5]?).bind Value.slc?) fun s112=>
 ob ((l106[6]?).bind (Value.int? .i64)) fun x113=>
 ob ((l106[7]?).bind (Value.int? .i64)) fun x114=>
 ob ((l106[8]?).bind Value.slc?) fun s115=>
 some (.ret (.tuple ⟨[.agg ⟨[.i x107,.i x108,.s s109.a s109.n s109.c,.i x110,.i x111,.s s112.a s112.n s112.c,.i x113,.i x114,.s s115.a s115.n s115.c]⟩,.i 0]⟩) r105.2))
 (ob (z5 P T k lo F.ja [.agg ⟨[.i x1,.i x2,.s A3 n4 c5,.i x6,.i x7,.s A8 n9 c10,.i x11,.i x12,.s A13 n14 c15]⟩,.agg ⟨[.b b16,.i x17,.b b18,.b b19,.i x20,.i x21,.i x22,.i x23,.i x24,.i x25,.i x26,.i x27,.i x28,.i x29,.i x30,.i x31,.i x32,.b b33,.i x34,.i x35,.i x36,.i x37,.i x38,.b b39,.i x40,.i x41,.s A42 n43 c44,.b b45,.b b46,.b b47]⟩,.agg ⟨[.i x48,.i x49,.s A50 n51 c52,.s A53 n54 c55,.s A56 n57 c58,.i x59,.i x60,.s A61 n62 c63,.s A64 n65 c66,.s A67 n68 c69,.i x70,.i x71,.s A72 n73 c74,.s A75 n76 c77,.s A78 n79 c80,.s A81 n82 c83,.s A84 n85 c86,.s A87 n88 c89,.s A90 n91 c92,.s A93 n94 c95]⟩] r103.2) fun r116=>
 ob (r116.1.tup? 2) fun l117=>
 ob ((l117[0]?).bind (Value.agg? 9)) fun l118=>
 ob ((l118[0]?).bind (Value.int? .i64)) fun x119=>
 ob ((l118[1]?).bind (Value.int? .i64)) fun x120=>
 ob ((l118[2]?).bind Value.slc?) fun s121=>
 ob ((l118[3]?).bind (Value.int? .i64)) fun x122=>
 ob ((l118[4]?).bind (Value.int? .i64)) fun x123=>
 ob ((l118[5]?).bind Value.slc?) fun s124=>
 ob ((l118[6]?).bind (Value.int? .i64)) fun x125=>
 ob ((l118[7]?).bind (Value.int? .i64)) fun x126=>
 ob ((l118[8]?).bind Value.slc?) fun s127=>
 ob ((l117[1]?).bind (Value.int? .i64)) fun x128=>
 bb (x128 != 0)
 (some (.ret (.tuple ⟨[.agg ⟨[.i 0,.i 0,.s none 0 0,.i 0,.i 0,.s none 0 0,.i 0,.i 0,.s none 0 0]⟩,.i 2]⟩) r116.2))
 (ob (z5 P T k lo F.zv [.agg ⟨[.i x119,.i x120,.s s121.a s121.n s121.c,.i x122,.i x123,.s s124.a s124.n s124.c,.i x125,.i x126,.s s127.a s127.n s127.c]⟩,.s A81 n82 c83,.s A84 n85 c86,.agg ⟨[.b b16,.i x17,.b b18,.b b19,.i x20,.i x21,.i x22,.i x23,.i x24,.i x25,.i x26,.i x27,.i x28,.i x29,.i x30,.i x31,.i x32,.b b33,.i x34,.i x35,.i x36,.i x37,.i x38,.b b39,.i x40,.i x41,.s A42 n43 c44,.b b45,.b b46,.b b47]⟩] r116.2) fun r129=>
 ob (r129.1.tup? 2) fun l130=>
 ob ((l130[0]?).bind (Value.agg? 9)) fun l131=>
 ob ((l131[0]?).bind (Value.int? .i64)) fun x132=>
 ob ((l131[1]?).bind (Value.int? .i64)) fun x133=>
 ob ((l131[2]?).bind Value.slc?) fun s134=>
 ob ((l131[3]?).bind (Value.int? .i64)) fun x135=>
 ob ((l131[4]?).bind (Value.int? .i64)) fun x136=>
 ob ((l131[5]?).bind Value.slc?) fun s137=>
 ob ((l131[6]?).bind (Value.int? .i64)) fun x138=>
 ob ((l131[7]?).bind (Value.int? .i64)) fun x139=>
 ob ((l131[8]?).bind Value.slc?) fun s140=>
 ob ((l130[1]?).bind (Value.int? .i64)) fun x141=>
 bb (x141 != 0)
 (some (.ret (.tuple ⟨[.agg ⟨[.i 0,.i 0,.s none 0 0,.i 0,.i 0,.s none 0 0,.i 0,.i 0,.s none 0 0]⟩,.i 2]⟩) r129.2))
 (some (zo.Ca 0 b16 x17 b18 b19 x20 x21 x22 x23 x24 x25 x26 x27 x28 x29 x30 x31 x32 b33 x34 x35 x36 x37 x38 b39 x40 x41 A42 n43 c44 b45 b46 b47 x48 x49 A50 n51 c52 A53 n54 c55 A56 n57 c58 x59 x60 A61 n62 c63 A64 n65 c66 A67 n68 c69 x70 x71 A72 n73 c74 A75 n76 c77 A78 n79 c80 A81 n82 c83 A84 n85 c86 A87 n88 c89 A90 n91 c92 A93 n94 c95 0 0 none 0 0 0 0 none 0 0 0 0 none 0 0 x119 x120 s121.a s121.n s121.c x122 x123 s124.a s124.n s124.c x125 x126 s127.a s127.n s127.c ([.i x132,.i x133,.s s134.a s134.n s134.c,.i x135,.i x136,.s s137.a s137.n s137.c,.i x138,.i x139,.s s140.a s140.n s140.c]) r129.2))))))):=by kernel_rfl
theorem zo.Pa:pz P T k lo F.zo (zo.Ca x1 b2 x3 b4 b5 x6 x7 x8 x9 x10 x11 x12 x13 x14 x15 x16 x17 x18 b19 x20 x21 x22 x23 x24 b25 x26 x27 A28 n29 c30 b31 b32 b33 x34 x35 A36 n37 c38 A39 n40 c41 A42 n43 c44 x45 x46 A47 n48 c49 A50 n51 c52 A53 n54 c55 x56 x57 A58 n59 c60 A61 n62 c63 A64 n65 c66 A67 n68 c69 A70 n71 c72 A73 n74 c75 A76 n77 c78 A79 n80 c81 x82 x83 A84 n85 c86 x87 x88 A89 n90 c91 x92 x93 A94 n95 c96 x97 x98 A99 n100 c101 x102 x103 A104 n105 c106 x107 x108 A109 n110 c111 cs112 M)=
 bb (decide (x1 < 3))
 (pb (0≤x1∧x1 < (3:Int))
 (ob ((([.b b2,.i x3,.b b4,.b b5,.i x6,.i x7,.i x8,.i x9,.i x10,.i x11,.i x12,.i x13,.i x14,.i x15,.i x16,.i x17,.i x18,.b b19,.i x20,.i x21,.i x22,.i x23,.i x24,.b b25,.i x26,.i x27,.s A28 n29 c30,.b b31,.b b32,.b b33]:List Value)[27+x1.toNat+0]?).bind Value.bool?) fun b142=>
 bb (!b142)
 (some (zo.Cb x1 b2 x3 b4 b5 x6 x7 x8 x9 x10 x11 x12 x13 x14 x15 x16 x17 x18 b19 x20 x21 x22 x23 x24 b25 x26 x27 A28 n29 c30 b31 b32 b33 x34 x35 A36 n37 c38 A39 n40 c41 A42 n43 c44 x45 x46 A47 n48 c49 A50 n51 c52 A53 n54 c55 x56 x57 A58 n59 c60 A61 n62 c63 A64 n65 c66 A67 n68 c69 A70 n71 c72 A73 n74 c75 A76 n77 c78 A79 n80 c81 x82 x83 A84 n85 c86 x87 x88 A89 n90 c91 x92 x93 A94 n95 c96 x97 x98 A99 n100 c101 x102 x103 A104 n105 c106 x107 x108 A109 n110 c111 cs112 M))
 (bb (x1 == 0)
 (some (zo.Cc x1 64 b2 x3 b4 b5 x6 x7 x8 x9 x10 x11 x12 x13 x14 x15 x16 x17 x18 b19 x20 x21 x22 x23 x24 b25 x26 x27 A28 n29 c30 b31 b32 b33 x34 x35 A36 n37 c38 A39 n40 c41 A42 n43 c44 x45 x46 A47 n48 c49 A50 n51 c52 A53 n54 c55 x56 x57 A58 n59 c60 A61 n62 c63 A64 n65 c66 A67 n68 c69 A70 n71 c72 A73 n74 c75 A76 n77 c78 A79 n80 c81 x82 x83 A84 n85 c86 x87 x88 A89 n90 c91 x92 x93 A94 n95 c96 x97 x98 A99 n100 c101 x102 x103 A104 n105 c106 x107 x108 A109 n110 c111 cs112 M))
 (some (zo.Cc x1 32 b2 x3 b4 b5 x6 x7 x8 x9 x10 x11 x12 x13 x14 x15 x16 x17 x18 b19 x20 x21 x22 x23 x24 b25 x26 x27 A28 n29 c30 b31 b32 b33 x34 x35 A36 n37 c38 A39 n40 c41 A42 n43 c44 x45 x46 A47 n48 c49 A50 n51 c52 A53 n54 c55 x56 x57 A58 n59 c60 A61 n62 c63 A64 n65 c66 A67 n68 c69 A70 n71 c72 A73 n74 c75 A76 n77 c78 A79 n80 c81 x82 x83 A84 n85 c86 x87 x88 A89 n90 c91 x92 x93 A94 n95 c96 x97 x98 A99 n100 c101 x102 x103 A104 n105 c106 x107 x108 A109 n110 c111 cs112 M)))) none)
 (ob ((cs112[0]?).bind (Value.int? .i64)) fun x143=>
 ob ((cs112[1]?).bind (Value.int? .i64)) fun x144=>
 ob ((cs112[2]?).bind Value.slc?) fun s145=>
 ob ((cs112[3]?).bind (Value.int? .i64)) fun x146=>
 ob ((cs112[4]?).bind (Value.int? .i64)) fun x147=>
 ob ((cs112[5]?).bind Value.slc?) fun s148=>
 ob ((cs112[6]?).bind (Value.int? .i64)) fun x149=>
 ob ((cs112[7]?).bind (Value.int? .i64)) fun x150=>
 ob ((cs112[8]?).bind Value.slc?) fun s151=>
 ob (z5 P T k lo F.y7 [.agg ⟨[.i x143,.i x144,.s s145.a s145.n s145.c,.i x146,.i x147,.s s148.a s148.n s148.c,.i x149,.i x150,.s s151.a s151.n s151.c]⟩] M) fun r152=>
 ob ((some r152.1).bind (Value.agg? 9)) fun l153=>
 ob ((l153[0]?).bind (Value.int? .i64)) fun x154=>
 ob ((l153[1]?).bind (Value.int? .i64)) fun x155=>
 ob ((l153[2]?).bind Value.slc?) fun s156=>
 ob ((l153[3]?).bind (Value.int? .i64)) fun x157=>
 ob ((l153[4]?).bind (Value.int? .i64)) fun x158=>
 ob ((l153[5]?).bind Value.slc?) fun s159=>
 ob ((l153[6]?).bind (Value.int? .i64)) fun x160=>
 ob ((l153[7]?).bind (Value.int? .i64)) fun x161=>
 ob ((l153[8]?).bind Value.slc?) fun s162=>
 some (.ret (.tuple ⟨[.agg ⟨[.i x154,.i x155,.s s156.a s156.n s156.c,.i x157,.i x158,.s s159.a s159.n s159.c,.i x160,.i x161,.s s162.a s162.n s162.c]⟩,.i 0]⟩) r152.2)):=by kernel_rfl
theorem zo.Pb:pz P T k lo F.zo (zo.Cb x1 b2 x3 b4 b5 x6 x7 x8 x9 x10 x11 x12 x13 x14 x15 x16 x17 x18 b19 x20 x21 x22 x23 x24 b25 x26 x27 A28 n29 c30 b31 b32 b33 x34 x35 A36 n37 c38 A39 n40 c41 A42 n43 c44 x45 x46 A47 n48 c49 A50 n51 c52 A53 n54 c55 x56 x57 A58 n59 c60 A61 n62 c63 A64 n65 c66 A67 n68 c69 A70 n71 c72 A73 n74 c75 A76 n77 c78 A79 n80 c81 x82 x83 A84 n85 c86 x87 x88 A89 n90 c91 x92 x93 A94 n95 c96 x97 x98 A99 n100 c101 x102 x103 A104 n105 c106 x107 x108 A109 n110 c111 cs112 M)=
 some (zo.Ca (i64.wrap (x1+1)) b2 x3 b4 b5 x6 x7 x8 x9 x10 x11 x12 x13 x14 x15 x16 x17 x18 b19 x20 x21 x22 x23 x24 b25 x26 x27 A28 n29 c30 b31 b32 b33 x34 x35 A36 n37 c38 A39 n40 c41 A42 n43 c44 x45 x46 A47 n48 c49 A50 n51 c52 A53 n54 c55 x56 x57 A58 n59 c60 A61 n62 c63 A64 n65 c66 A67 n68 c69 A70 n71 c72 A73 n74 c75 A76 n77 c78 A79 n80 c81 x82 x83 A84 n85 c86 x87 x88 A89 n90 c91 x92 x93 A94 n95 c96 x97 x98 A99 n100 c101 x102 x103 A104 n105 c106 x107 x108 A109 n110 c111 cs112 M):=by kernel_rfl
theorem zo.Pc:pz P T k lo F.zo (zo.Cc x1 x2 b3 x4 b5 b6 x7 x8 x9 x10 x11 x12 x13 x14 x15 x16 x17 x18 x19 b20 x21 x22 x23 x24 x25 b26 x27 x28 A29 n30 c31 b32 b33 b34 x35 x36 A37 n38 c39 A40 n41 c42 A43 n44 c45 x46 x47 A48 n49 c50 A51 n52 c53 A54 n55 c56 x57 x58 A59 n60 c61 A62 n63 c64 A65 n66 c67 A68 n69 c70 A71 n72 c73 A74 n75 c76 A77 n78 c79 A80 n81 c82 x83 x84 A85 n86 c87 x88 x89 A90 n91 c92 x93 x94 A95 n96 c97 x98 x99 A100 n101 c102 x103 x104 A105 n106 c107 x108 x109 A110 n111 c112 cs113 M)=
 pb (0≤x1∧x1 < (3:Int))
 (ob ((cs113[0+(x1.toNat*3)+0]?).bind (Value.int? .i64)) fun x163=>
 ob ((cs113[0+(x1.toNat*3)+1]?).bind (Value.int? .i64)) fun x164=>
 ob ((cs113[0+(x1.toNat*3)+2]?).bind Value.slc?) fun s165=>
 pb (0≤x1∧x1 < (3:Int))
 (ob ((([.i x98,.i x99,.s A100 n101 c102,.i x103,.i x104,.s A105 n106 c107,.i x108,.i x109,.s A110 n111 c112]:List Value)[0+(x1.toNat*3)+0]?).bind (Value.int? .i64)) fun x166=>
 ob ((([.i x98,.i x99,.s A100 n101 c102,.i x103,.i x104,.s A105 n106 c107,.i x108,.i x109,.s A110 n111 c112]:List Value)[0+(x1.toNat*3)+1]?).bind (Value.int? .i64)) fun x167=>
 ob ((([.i x98,.i x99,.s A100 n101 c102,.i x103,.i x104,.s A105 n106 c107,.i x108,.i x109,.s A110 n111 c112]:List Value)[0+(x1.toNat*3)+2]?).bind Value.slc?) fun s168=>
 pb (0≤x1∧x1 < (3:Int))
 (ob ((([.i x35,.i x36,.s A37 n38 c39,.s A40 n41 c42,.s A43 n44 c45,.i x46,.i x47,.s A48 n49 c50,.s A51 n52 c53,.s A54 n55 c56,.i x57,.i x58,.s A59 n60 c61,.s A62 n63 c64,.s A65 n66 c67,.s A68 n69 c70,.s A71 n72 c73,.s A74 n75 c76,.s A77 n78 c79,.s A80 n81 c82]:List Value)[17+x1.toNat+0]?).bind Value.slc?) fun s169=>
 ob (z5 P T k lo F.zf [.agg ⟨[.i x163,.i x164,.s s165.a s165.n s165.c]⟩,.agg ⟨[.i x166,.i x167,.s s168.a s168.n s168.c]⟩,.s s169.a s169.n s169.c,.i x2] M) fun r170=>
 ob (r170.1.tup? 2) fun l171=>
 ob ((l171[0]?).bind (Value.agg? 3)) fun l172=>
 ob ((l172[0]?).bind (Value.int? .i64)) fun x173=>
 ob ((l172[1]?).bind (Value.int? .i64)) fun x174=>
 ob ((l172[2]?).bind Value.slc?) fun s175=>
 ob ((l171[1]?).bind (Value.int? .i64)) fun x176=>
 bb (x176 != 0)
 (some (.ret (.tuple ⟨[.agg ⟨[.i 0,.i 0,.s none 0 0,.i 0,.i 0,.s none 0 0,.i 0,.i 0,.s none 0 0]⟩,.i 2]⟩) r170.2))
 (pb (0≤x1∧x1 < (3:Int))
 (pb (0+(x1.toNat*3)+3≤cs113.length)
 (some (zo.Cb x1 b3 x4 b5 b6 x7 x8 x9 x10 x11 x12 x13 x14 x15 x16 x17 x18 x19 b20 x21 x22 x23 x24 x25 b26 x27 x28 A29 n30 c31 b32 b33 b34 x35 x36 A37 n38 c39 A40 n41 c42 A43 n44 c45 x46 x47 A48 n49 c50 A51 n52 c53 A54 n55 c56 x57 x58 A59 n60 c61 A62 n63 c64 A65 n66 c67 A68 n69 c70 A71 n72 c73 A74 n75 c76 A77 n78 c79 A80 n81 c82 x83 x84 A85 n86 c87 x88 x89 A90 n91 c92 x93 x94 A95 n96 c97 x98 x99 A100 n101 c102 x103 x104 A105 n106 c107 x108 x109 A110 n111 c112 (setL cs113 (0+(x1.toNat*3)) [.i x173,.i x174,.s s175.a s175.n s175.c]) r170.2)) none) none)) none) none) none:=by kernel_rfl
theorem z65.entry:entry P T k lo F.z65 [.agg ⟨[.i x1,.i x2,.s A3 n4 c5,.i x6,.i x7,.s A8 n9 c10,.i x11,.i x12,.s A13 n14 c15]⟩,.agg ⟨[.i x16,.i x17,.s A18 n19 c20,.i x21,.i x22,.s A23 n24 c25,.i x26,.i x27,.s A28 n29 c30]⟩] M=
 ob (z5 P T k lo F.z9z [.agg ⟨[.i x1,.i x2,.s A3 n4 c5]⟩,.agg ⟨[.i x16,.i x17,.s A18 n19 c20]⟩] M) fun r36=>
 ob ((some r36.1).bind Value.bool?) fun b37=>
 bb b37
 (ob (z5 P T k lo F.z9z [.agg ⟨[.i x6,.i x7,.s A8 n9 c10]⟩,.agg ⟨[.i x21,.i x22,.s A23 n24 c25]⟩] r36.2) fun r38=>
 ob ((some r38.1).bind Value.bool?) fun b39=>
 bb b39
 (ob (z5 P T k lo F.z9z [.agg ⟨[.i x11,.i x12,.s A13 n14 c15]⟩,.agg ⟨[.i x26,.i x27,.s A28 n29 c30]⟩] r38.2) fun r40=>
 ob ((some r40.1).bind Value.bool?) fun b41=>
 some (.ret (.b b41) r40.2))
 (some (.ret (.b false) r38.2)))
 (some (.ret (.b false) r36.2)):=by kernel_rfl
theorem zi.entry:entry P T k lo F.zi [.agg ⟨[.i x1,.i x2,.s A3 n4 c5,.s A6 n7 c8,.s A9 n10 c11,.i x12,.i x13,.s A14 n15 c16,.s A17 n18 c19,.s A20 n21 c22,.i x23,.i x24,.s A25 n26 c27,.s A28 n29 c30,.s A31 n32 c33,.s A34 n35 c36,.s A37 n38 c39,.s A40 n41 c42,.s A43 n44 c45,.s A46 n47 c48]⟩,.agg ⟨[.i x49,.i x50,.s A51 n52 c53,.s A54 n55 c56,.s A57 n58 c59,.i x60,.i x61,.s A62 n63 c64,.s A65 n66 c67,.s A68 n69 c70,.i x71,.i x72,.s A73 n74 c75,.s A76 n77 c78,.s A79 n80 c81,.s A82 n83 c84,.s A85 n86 c87,.s A88 n89 c90,.s A91 n92 c93,.s A94 n95 c96]⟩] M=
 some (zi.Ca 0 x1 x2 A3 n4 c5 A6 n7 c8 A9 n10 c11 x12 x13 A14 n15 c16 A17 n18 c19 A20 n21 c22 x23 x24 A25 n26 c27 A28 n29 c30 A31 n32 c33 A34 n35 c36 A37 n38 c39 A40 n41 c42 A43 n44 c45 A46 n47 c48 x49 x50 A51 n52 c53 A54 n55 c56 A57 n58 c59 x60 x61 A62 n63 c64 A65 n66 c67 A68 n69 c70 x71 x72 A73 n74 c75 A76 n77 c78 A79 n80 c81 A82 n83 c84 A85 n86 c87 A88 n89 c90 A91 n92 c93 A94 n95 c96 M):=by kernel_rfl
theorem zi.Pa:pz P T k lo F.zi (zi.Ca x1 x2 x3 A4 n5 c6 A7 n8 c9 A10 n11 c12 x13 x14 A15 n16 c17 A18 n19 c20 A21 n22 c23 x24 x25 A26 n27 c28 A29 n30 c31 A32 n33 c34 A35 n36 c37 A38 n39 c40 A41 n42 c43 A44 n45 c46 A47 n48 c49 x50 x51 A52 n53 c54 A55 n56 c57 A58 n59 c60 x61 x62 A63 n64 c65 A66 n67 c68 A69 n70 c71 x72 x73 A74 n75 c76 A77 n78 c79 A80 n81 c82 A83 n84 c85 A86 n87 c88 A89 n90 c91 A92 n93 c94 A95 n96 c97 M)=
 bb (decide (x1 < 3))
 (pb (0≤x1∧x1 < (3:Int))
 (ob ((([.i x2,.i x3,.s A4 n5 c6,.s A7 n8 c9,.s A10 n11 c12,.i x13,.i x14,.s A15 n16 c17,.s A18 n19 c20,.s A21 n22 c23,.i x24,.i x25,.s A26 n27 c28,.s A29 n30 c31,.s A32 n33 c34,.s A35 n36 c37,.s A38 n39 c40,.s A41 n42 c43,.s A44 n45 c46,.s A47 n48 c49]:List Value)[0+(x1.toNat*5)+2+0]?).bind Value.slc?) fun s102=>
 pb (0≤x1∧x1 < (3:Int))
 (ob ((([.i x50,.i x51,.s A52 n53 c54,.s A55 n56 c57,.s A58 n59 c60,.i x61,.i x62,.s A63 n64 c65,.s A66 n67 c68,.s A69 n70 c71,.i x72,.i x73,.s A74 n75 c76,.s A77 n78 c79,.s A80 n81 c82,.s A83 n84 c85,.s A86 n87 c88,.s A89 n90 c91,.s A92 n93 c94,.s A95 n96 c97]:List Value)[0+(x1.toNat*5)+2+0]?).bind Value.slc?) fun s103=>
 ob (z5 P T k lo F.js [.s s102.a s102.n s102.c,.s s103.a s103.n s103.c] M) fun r104=>
 ob ((some r104.1).bind Value.bool?) fun b105=>
 bb (!b105)
 (some (.ret (.b false) r104.2))
 (pb (0≤x1∧x1 < (3:Int))
 (ob ((([.i x2,.i x3,.s A4 n5 c6,.s A7 n8 c9,.s A10 n11 c12,.i x13,.i x14,.s A15 n16 c17,.s A18 n19 c20,.s A21 n22 c23,.i x24,.i x25,.s A26 n27 c28,.s A29 n30 c31,.s A32 n33 c34,.s A35 n36 c37,.s A38 n39 c40,.s A41 n42 c43,.s A44 n45 c46,.s A47 n48 c49]:List Value)[0+(x1.toNat*5)+3+0]?).bind Value.slc?) fun s106=>
 pb (0≤x1∧x1 < (3:Int))
 (ob ((([.i x50,.i x51,.s A52 n53 c54,.s A55 n56 c57,.s A58 n59 c60,.i x61,.i x62,.s A63 n64 c65,.s A66 n67 c68,.s A69 n70 c71,.i x72,.i x73,.s A74 n75 c76,.s A77 n78 c79,.s A80 n81 c82,.s A83 n84 c85,.s A86 n87 c88,.s A89 n90 c91,.s A92 n93 c94,.s A95 n96 c97]:List Value)[0+(x1.toNat*5)+3+0]?).bind Value.slc?) fun s107=>
 ob (z5 P T k lo F.jx [.s s106.a s106.n s106.c,.s s107.a s107.n s107.c] r104.2) fun r108=>
 ob ((some r108.1).bind Value.bool?) fun b109=>
 bb (!b109)
 (some (.ret (.b false) r108.2))
 (pb (0≤x1∧x1 < (3:Int))
 (ob ((([.i x2,.i x3,.s A4 n5 c6,.s A7 n8 c9,.s A10 n11 c12,.i x13,.i x14,.s A15 n16 c17,.s A18 n19 c20,.s A21 n22 c23,.i x24,.i x25,.s A26 n27 c28,.s A29 n30 c31,.s A32 n33 c34,.s A35 n36 c37,.s A38 n39 c40,.s A41 n42 c43,.s A44 n45 c46,.s A47 n48 c49]:List Value)[0+(x1.toNat*5)+4+0]?).bind Value.slc?) fun s110=>
 pb (0≤x1∧x1 < (3:Int))
 (ob ((([.i x50,.i x51,.s A52 n53 c54,.s A55 n56 c57,.s A58 n59 c60,.i x61,.i x62,.s A63 n64 c65,.s A66 n67 c68,.s A69 n70 c71,.i x72,.i x73,.s A74 n75 c76,.s A77 n78 c79,.s A80 n81 c82,.s A83 n84 c85,.s A86 n87 c88,.s A89 n90 c91,.s A92 n93 c94,.s A95 n96 c97]:List Value)[0+(x1.toNat*5)+4+0]?).bind Value.slc?) fun s111=>
 ob (z5 P T k lo F.jg [.s s110.a s110.n s110.c,.s s111.a s111.n s111.c] r108.2) fun r112=>
 ob ((some r112.1).bind Value.bool?) fun b113=>
 bb (!b113)
 (some (.ret (.b false) r112.2))
 (pb (0≤x1∧x1 < (3:Int))
 (ob ((([.i x2,.i x3,.s A4 n5 c6,.s A7 n8 c9,.s A10 n11 c12,.i x13,.i x14,.s A15 n16 c17,.s A18 n19 c20,.s A21 n22 c23,.i x24,.i x25,.s A26 n27 c28,.s A29 n30 c31,.s A32 n33 c34,.s A35 n36 c37,.s A38 n39 c40,.s A41 n42 c43,.s A44 n45 c46,.s A47 n48 c49]:List Value)[17+x1.toNat+0]?).bind Value.slc?) fun s114=>
 pb (0≤x1∧x1 < (3:Int))
 (ob ((([.i x50,.i x51,.s A52 n53 c54,.s A55 n56 c57,.s A58 n59 c60,.i x61,.i x62,.s A63 n64 c65,.s A66 n67 c68,.s A69 n70 c71,.i x72,.i x73,.s A74 n75 c76,.s A77 n78 c79,.s A80 n81 c82,.s A83 n84 c85,.s A86 n87 c88,.s A89 n90 c91,.s A92 n93 c94,.s A95 n96 c97]:List Value)[17+x1.toNat+0]?).bind Value.slc?) fun s115=>
 bb ((s114.n:Int) != (s115.n:Int))
 (some (.ret (.b false) r112.2))
 (some (zi.Cb x1 0 x2 x3 A4 n5 c6 A7 n8 c9 A10 n11 c12 x13 x14 A15 n16 c17 A18 n19 c20 A21 n22 c23 x24 x25 A26 n27 c28 A29 n30 c31 A32 n33 c34 A35 n36 c37 A38 n39 c40 A41 n42 c43 A44 n45 c46 A47 n48 c49 x50 x51 A52 n53 c54 A55 n56 c57 A58 n59 c60 x61 x62 A63 n64 c65 A66 n67 c68 A69 n70 c71 x72 x73 A74 n75 c76 A77 n78 c79 A80 n81 c82 A83 n84 c85 A86 n87 c88 A89 n90 c91 A92 n93 c94 A95 n96 c97 r112.2))) none) none)) none) none)) none) none)) none) none)
 (ob (z5 P T k lo F.jg [.s A35 n36 c37,.s A83 n84 c85] M) fun r116=>
 ob ((some r116.1).bind Value.bool?) fun b117=>
 bb b117
 (ob (z5 P T k lo F.jx [.s A38 n39 c40,.s A86 n87 c88] r116.2) fun r118=>
 ob ((some r118.1).bind Value.bool?) fun b119=>
 some (.ret (.b b119) r118.2))
 (some (.ret (.b false) r116.2))):=by kernel_rfl
theorem zi.Pb:pz P T k lo F.zi (zi.Cb x1 x2 x3 x4 A5 n6 c7 A8 n9 c10 A11 n12 c13 x14 x15 A16 n17 c18 A19 n20 c21 A22 n23 c24 x25 x26 A27 n28 c29 A30 n31 c32 A33 n34 c35 A36 n37 c38 A39 n40 c41 A42 n43 c44 A45 n46 c47 A48 n49 c50 x51 x52 A53 n54 c55 A56 n57 c58 A59 n60 c61 x62 x63 A64 n65 c66 A67 n68 c69 A70 n71 c72 x73 x74 A75 n76 c77 A78 n79 c80 A81 n82 c83 A84 n85 c86 A87 n88 c89 A90 n91 c92 A93 n94 c95 A96 n97 c98 M)=
 pb (0≤x1∧x1 < (3:Int))
 (ob ((([.i x51,.i x52,.s A53 n54 c55,.s A56 n57 c58,.s A59 n60 c61,.i x62,.i x63,.s A64 n65 c66,.s A67 n68 c69,.s A70 n71 c72,.i x73,.i x74,.s A75 n76 c77,.s A78 n79 c80,.s A81 n82 c83,.s A84 n85 c86,.s A87 n88 c89,.s A90 n91 c92,.s A93 n94 c95,.s A96 n97 c98]:List Value)[17+x1.toNat+0]?).bind Value.slc?) fun s120=>
 bb (decide (x2 < (s120.n:Int)))
 (pb (0≤x1∧x1 < (3:Int))
 (ob ((([.i x3,.i x4,.s A5 n6 c7,.s A8 n9 c10,.s A11 n12 c13,.i x14,.i x15,.s A16 n17 c18,.s A19 n20 c21,.s A22 n23 c24,.i x25,.i x26,.s A27 n28 c29,.s A30 n31 c32,.s A33 n34 c35,.s A36 n37 c38,.s A39 n40 c41,.s A42 n43 c44,.s A45 n46 c47,.s A48 n49 c50]:List Value)[17+x1.toNat+0]?).bind Value.slc?) fun s121=>
 pb (0≤x2∧x2 < (s121.n:Int))
 (ob s121.a fun a122=>
 ob ((M.ld (plus a122 (x2.toNat*7))).bind Value.bool?) fun b123=>
 ob ((M.ld (plus (plus a122 (x2.toNat*7)) 1)).bind (Value.int? .i64)) fun x124=>
 ob ((M.ld (plus (plus a122 (x2.toNat*7)) 2)).bind (Value.int? .i64)) fun x125=>
 ob ((M.ld (plus (plus a122 (x2.toNat*7)) 3)).bind (Value.int? .i64)) fun x126=>
 ob ((M.ld (plus (plus a122 (x2.toNat*7)) 4)).bind (Value.int? .i64)) fun x127=>
 ob ((M.ld (plus (plus a122 (x2.toNat*7)) 5)).bind (Value.int? .i64)) fun x128=>
 ob ((M.ld (plus (plus a122 (x2.toNat*7)) 6)).bind (Value.int? .i64)) fun x129=>
 pb (0≤x1∧x1 < (3:Int))
 (ob ((([.i x51,.i x52,.s A53 n54 c55,.s A56 n57 c58,.s A59 n60 c61,.i x62,.i x63,.s A64 n65 c66,.s A67 n68 c69,.s A70 n71 c72,.i x73,.i x74,.s A75 n76 c77,.s A78 n79 c80,.s A81 n82 c83,.s A84 n85 c86,.s A87 n88 c89,.s A90 n91 c92,.s A93 n94 c95,.s A96 n97 c98]:List Value)[17+x1.toNat+0]?).bind Value.slc?) fun s130=>
 pb (0≤x2∧x2 < (s130.n:Int))
 (ob s130.a fun a131=>
 ob ((M.ld (plus a131 (x2.toNat*7))).bind Value.bool?) fun b132=>
 ob ((M.ld (plus (plus a131 (x2.toNat*7)) 1)).bind (Value.int? .i64)) fun x133=>
 ob ((M.ld (plus (plus a131 (x2.toNat*7)) 2)).bind (Value.int? .i64)) fun x134=>
 ob ((M.ld (plus (plus a131 (x2.toNat*7)) 3)).bind (Value.int? .i64)) fun x135=>
 ob ((M.ld (plus (plus a131 (x2.toNat*7)) 4)).bind (Value.int? .i64)) fun x136=>
 ob ((M.ld (plus (plus a131 (x2.toNat*7)) 5)).bind (Value.int? .i64)) fun x137=>
 ob ((M.ld (plus (plus a131 (x2.toNat*7)) 6)).bind (Value.int? .i64)) fun x138=>
 ob (Program.keyLits P 9 77 [.b b123,.i x124,.i x125,.i x126,.i x127,.i x128,.i x129]) fun q139=>ob (Program.keyLits P 9 77 [.b b132,.i x133,.i x134,.i x135,.i x136,.i x137,.i x138]) fun q140=>
 bb (!qp q139 q140)
 (some (.ret (.b false) M))
 (some (zi.Cb x1 (i64.wrap (x2+1)) x3 x4 A5 n6 c7 A8 n9 c10 A11 n12 c13 x14 x15 A16 n17 c18 A19 n20 c21 A22 n23 c24 x25 x26 A27 n28 c29 A30 n31 c32 A33 n34 c35 A36 n37 c38 A39 n40 c41 A42 n43 c44 A45 n46 c47 A48 n49 c50 x51 x52 A53 n54 c55 A56 n57 c58 A59 n60 c61 x62 x63 A64 n65 c66 A67 n68 c69 A70 n71 c72 x73 x74 A75 n76 c77 A78 n79 c80 A81 n82 c83 A84 n85 c86 A87 n88 c89 A90 n91 c92 A93 n94 c95 A96 n97 c98 M))) none) none) none) none)
 (some (zi.Ca (i64.wrap (x1+1)) x3 x4 A5 n6 c7 A8 n9 c10 A11 n12 c13 x14 x15 A16 n17 c18 A19 n20 c21 A22 n23 c24 x25 x26 A27 n28 c29 A30 n31 c32 A33 n34 c35 A36 n37 c38 A39 n40 c41 A42 n43 c44 A45 n46 c47 A48 n49 c50 x51 x52 A53 n54 c55 A56 n57 c58 A59 n60 c61 x62 x63 A64 n65 c66 A67 n68 c69 A70 n71 c72 x73 x74 A75 n76 c77 A78 n79 c80 A81 n82 c83 A84 n85 c86 A87 n88 c89 A90 n91 c92 A93 n94 c95 A96 n97 c98 M))) none:=by kernel_rfl
theorem z8y.entry:entry P T k lo F.z8y [] M=
 ob (z5 P T k lo F.yq [] M) fun r6=>
 ob ((some r6.1).bind (Value.agg? 9)) fun l7=>
 ob ((l7[0]?).bind (Value.int? .i64)) fun x8=>
 ob ((l7[1]?).bind (Value.int? .i64)) fun x9=>
 ob ((l7[2]?).bind Value.slc?) fun s10=>
 ob ((l7[3]?).bind (Value.int? .i64)) fun x11=>
 ob ((l7[4]?).bind (Value.int? .i64)) fun x12=>
 ob ((l7[5]?).bind Value.slc?) fun s13=>
 ob ((l7[6]?).bind (Value.int? .i64)) fun x14=>
 ob ((l7[7]?).bind (Value.int? .i64)) fun x15=>
 ob ((l7[8]?).bind Value.slc?) fun s16=>
 ob (z5 P T k lo F.za3 [.i 16,.i 16,.int .u8 8] r6.2) fun r17=>
 ob ((some r17.1).bind (Value.agg? 20)) fun l18=>
 ob ((l18[0]?).bind (Value.int? .i64)) fun x19=>
 ob ((l18[1]?).bind (Value.int? .i64)) fun x20=>
 ob ((l18[2]?).bind Value.slc?) fun s21=>
 ob ((l18[3]?).bind Value.slc?) fun s22=>
 ob ((l18[4]?).bind Value.slc?) fun s23=>
 ob ((l18[5]?).bind (Value.int? .i64)) fun x24=>
 ob ((l18[6]?).bind (Value.int? .i64)) fun x25=>
 ob ((l18[7]?).bind Value.slc?) fun s26=>
 ob ((l18[8]?).bind Value.slc?) fun s27=>
 ob ((l18[9]?).bind Value.slc?) fun s28=>
 ob ((l18[10]?).bind (Value.int? .i64)) fun x29=>
 ob ((l18[11]?).bind (Value.int? .i64)) fun x30=>
 ob ((l18[12]?).bind Value.slc?) fun s31=>
 ob ((l18[13]?).bind Value.slc?) fun s32=>
 ob ((l18[14]?).bind Value.slc?) fun s33=>
 ob ((l18[15]?).bind Value.slc?) fun s34=>
 ob ((l18[16]?).bind Value.slc?) fun s35=>
 ob ((l18[17]?).bind Value.slc?) fun s36=>
 ob ((l18[18]?).bind Value.slc?) fun s37=>
 ob ((l18[19]?).bind Value.slc?) fun s38=>
 ob (z5 P T k lo F.vx [.agg ⟨[.i x8,.i x9,.s s10.a s10.n s10.c,.i x11,.i x12,.s s13.a s13.n s13.c,.i x14,.i x15,.s s16.a s16.n s16.c]⟩,.agg ⟨[.b false,.i 0,.b false,.b false,.i 0,.i 0,.i 0,.i 0,.i 0,.i 1,.i 0,.i 0,.i 0,.i 0,.i 0,.i 0,.i 0,.b false,.i 32,.i 0,.i 0,.i 0,.i 0,.b false,.i 0,.i 0,.s none 0 0,.b false,.b false,.b false]⟩,.agg ⟨[.i x19,.i x20,.s s21.a s21.n s21.c,.s s22.a s22.n s22.c,.s s23.a s23.n s23.c,.i x24,.i x25,.s s26.a s26.n s26.c,.s s27.a s27.n s27.c,.s s28.a s28.n s28.c,.i x29,.i x30,.s s31.a s31.n s31.c,.s s32.a s32.n s32.c,.s s33.a s33.n s33.c,.s s34.a s34.n s34.c,.s s35.a s35.n s35.c,.s s36.a s36.n s36.c,.s s37.a s37.n s37.c,.s s38.a s38.n s38.c]⟩] r17.2) fun r39=>
 ob (r39.1.tup? 2) fun l40=>
 ob ((l40[0]?).bind (Value.agg? 9)) fun l41=>
 ob ((l41[0]?).bind (Value.int? .i64)) fun x42=>
 ob ((l41[1]?).bind (Value.int? .i64)) fun x43=>
 ob ((l41[2]?).bind Value.slc?) fun s44=>
 ob ((l41[3]?).bind (Value.int? .i64)) fun x45=>
 ob ((l41[4]?).bind (Value.int? .i64)) fun x46=>
 ob ((l41[5]?).bind Value.slc?) fun s47=>
 ob ((l41[6]?).bind (Value.int? .i64)) fun x48=>
 ob ((l41[7]?).bind (Value.int? .i64)) fun x49=>
 ob ((l41[8]?).bind Value.slc?) fun s50=>
 ob ((l40[1]?).bind (Value.int? .i64)) fun x51=>
 bb (x51 != 0)
 (some (.ret (.b false) r39.2))
 (bb ((s44.n:Int) != 256)
 (some (.ret (.b false) r39.2))
 (pb (0≤(80:Int)∧(80:Int) < (s44.n:Int))
 (ob s44.a fun a52=>
 ob ((r39.2.ld (plus a52 80)).bind (Value.int? .u8)) fun x53=>
 bb (x53 == 100)
 (pb (0≤(95:Int)∧(95:Int) < (s44.n:Int))
 (ob s44.a fun a54=>
 ob ((r39.2.ld (plus a54 95)).bind (Value.int? .u8)) fun x55=>
 bb (x55 == 104)
 (pb (0≤(87:Int)∧(87:Int) < (s44.n:Int))
 (ob s44.a fun a56=>
 ob ((r39.2.ld (plus a56 87)).bind (Value.int? .u8)) fun x57=>
 bb (decide (x57 > 100))
 (pb (0≤(88:Int)∧(88:Int) < (s44.n:Int))
 (ob s44.a fun a58=>
 ob ((r39.2.ld (plus a58 88)).bind (Value.int? .u8)) fun x59=>
 bb (decide (x59 < 104))
 (pb (0≤(0:Int)∧(0:Int) < (s47.n:Int))
 (ob s47.a fun a60=>
 ob ((r39.2.ld a60).bind (Value.int? .u8)) fun x61=>
 some (.ret (.b (x61 == 50)) r39.2)) none)
 (some (.ret (.b false) r39.2))) none)
 (some (.ret (.b false) r39.2))) none)
 (some (.ret (.b false) r39.2))) none)
 (some (.ret (.b false) r39.2))) none)):=by kernel_rfl
theorem z66.entry:entry P T k lo F.z66 [.agg ⟨[.i x1,.i x2,.s A3 n4 c5]⟩] M=
 ob (z5 P T k M.length F.z64 [.s A3 n4 c5] M) fun r11=>
 ob ((some r11.1).bind Value.slc?) fun s12=>
 some (.ret (.agg ⟨[.i x1,.i x2,.s s12.a s12.n s12.c]⟩) r11.2):=by kernel_rfl
theorem z64.entry:entry P T k lo F.z64 [.s A1 n2 c3] M=
 ob (Mem.src M A1 n2 n2) fun l9=>
 ob (M.app lo 1 1 ⟨none,0,0⟩ l9 n2) fun r10=>
 some (.ret (.s r10.1.a r10.1.n r10.1.c) r10.2):=by kernel_rfl
theorem z72.entry:entry P T k lo F.z72 [.s A1 n2 c3] M=
 ob (Mem.src M A1 n2 n2) fun l9=>
 ob (M.app lo 1 8 ⟨none,0,0⟩ l9 n2) fun r10=>
 some (.ret (.s r10.1.a r10.1.n r10.1.c) r10.2):=by kernel_rfl
theorem z8v.entry:entry P T k lo F.z8v [.s A1 n2 c3] M=
 ob (Mem.src M A1 n2 n2) fun l9=>
 ob (M.app lo 1 1 ⟨none,0,0⟩ l9 n2) fun r10=>
 some (.ret (.s r10.1.a r10.1.n r10.1.c) r10.2):=by kernel_rfl
theorem z8u.entry:entry P T k lo F.z8u [.s A1 n2 c3] M=
 ob (Mem.src M A1 n2 (n2*7)) fun l9=>
 ob (M.app lo 7 56 ⟨none,0,0⟩ l9 n2) fun r10=>
 some (.ret (.s r10.1.a r10.1.n r10.1.c) r10.2):=by kernel_rfl
theorem v9.entry:entry P T k lo F.v9 [.agg ⟨[.i x1,.i x2,.s A3 n4 c5,.i x6,.i x7,.s A8 n9 c10,.i x11,.i x12,.s A13 n14 c15]⟩] M=
 some (v9.Ca x1 x2 x1 x2 A3 n4 c5 x6 x7 A8 n9 c10 x11 x12 A13 n14 c15 0 M):=by kernel_rfl
theorem v9.Pa:pz P T k lo F.v9 (v9.Ca x1 x2 x3 x4 A5 n6 c7 x8 x9 A10 n11 c12 x13 x14 A15 n16 c17 x18 M)=
 bb (decide (x18 < 3))
 (pb (0≤x18∧x18 < (3:Int))
 (ob ((([.i x3,.i x4,.s A5 n6 c7,.i x8,.i x9,.s A10 n11 c12,.i x13,.i x14,.s A15 n16 c17]:List Value)[x18.toNat*3+0]?).bind (Value.int? .i64)) fun x21=>
 ob ((([.i x3,.i x4,.s A5 n6 c7,.i x8,.i x9,.s A10 n11 c12,.i x13,.i x14,.s A15 n16 c17]:List Value)[x18.toNat*3+1]?).bind (Value.int? .i64)) fun x22=>
 ob ((([.i x3,.i x4,.s A5 n6 c7,.i x8,.i x9,.s A10 n11 c12,.i x13,.i x14,.s A15 n16 c17]:List Value)[x18.toNat*3+2]?).bind Value.slc?) fun s23=>
 ob (z5 P T k lo F.zir [.agg ⟨[.i x21,.i x22,.s s23.a s23.n s23.c]⟩] M) fun r24=>
 ob ((some r24.1).bind (Value.int? .i64)) fun x25=>
 bb (x25 != 0)
 (some (.ret (.i 2) r24.2))
 (ob (z5 P T k lo F.zis [.i x1,.i x2] r24.2) fun r26=>
 ob ((some r26.1).bind Value.bool?) fun b27=>
 bb (!b27)
 (some (.ret (.i 2) r26.2))
 (pb ((zq x18 1) < 0) none
 (bb (x21 != yz .i64 x1 ((zq x18 1).toNat))
 (some (.ret (.i 2) r26.2))
 (pb ((zq x18 1) < 0) none
 (bb (x22 != yz .i64 x2 ((zq x18 1).toNat))
 (some (.ret (.i 2) r26.2))
 (some (v9.Ca x1 x2 x3 x4 A5 n6 c7 x8 x9 A10 n11 c12 x13 x14 A15 n16 c17 (i64.wrap (x18+1)) r26.2)))))))) none)
 (some (.ret (.i 0) M)):=by kernel_rfl
theorem uk.entry:entry P T k lo F.uk [.agg ⟨[.i x1,.i x2,.s A3 n4 c5,.i x6,.i x7,.s A8 n9 c10,.i x11,.i x12,.s A13 n14 c15]⟩] M=
 some (uk.Ca 0 ([.i x1,.i x2,.s A3 n4 c5,.i x6,.i x7,.s A8 n9 c10,.i x11,.i x12,.s A13 n14 c15]) 0 0 none 0 0 0 0 none 0 0 0 0 none 0 0 M):=by kernel_rfl
theorem uk.Pa:pz P T k lo F.uk (uk.Ca x1 cs2 x3 x4 A5 n6 c7 x8 x9 A10 n11 c12 x13 x14 A15 n16 c17 M)=
 bb (decide (x1 < 3))
 (pb (0≤x1∧x1 < (3:Int))
 (ob ((cs2[0+(x1.toNat*3)+2+0]?).bind Value.slc?) fun s21=>
 ob (z5 P T k lo F.z1p [.s s21.a s21.n s21.c] M) fun r22=>
 ob ((some r22.1).bind Value.slc?) fun s23=>
 pb (0≤x1∧x1 < (3:Int))
 (pb (0+(x1.toNat*3)+2+1≤cs2.length)
 (some (uk.Ca (i64.wrap (x1+1)) (setL cs2 (0+(x1.toNat*3)+2) [.s s23.a s23.n s23.c]) x3 x4 A5 n6 c7 x8 x9 A10 n11 c12 x13 x14 A15 n16 c17 r22.2)) none) none) none)
 (ob ((cs2[0]?).bind (Value.int? .i64)) fun x24=>
 ob ((cs2[1]?).bind (Value.int? .i64)) fun x25=>
 ob ((cs2[2]?).bind Value.slc?) fun s26=>
 ob ((cs2[3]?).bind (Value.int? .i64)) fun x27=>
 ob ((cs2[4]?).bind (Value.int? .i64)) fun x28=>
 ob ((cs2[5]?).bind Value.slc?) fun s29=>
 ob ((cs2[6]?).bind (Value.int? .i64)) fun x30=>
 ob ((cs2[7]?).bind (Value.int? .i64)) fun x31=>
 ob ((cs2[8]?).bind Value.slc?) fun s32=>
 some (.ret (.agg ⟨[.i x24,.i x25,.s s26.a s26.n s26.c,.i x27,.i x28,.s s29.a s29.n s29.c,.i x30,.i x31,.s s32.a s32.n s32.c]⟩) M)):=by kernel_rfl
theorem zdu.entry:entry P T k lo F.zdu [.agg ⟨[.b b1,.i x2,.b b3,.b b4,.i x5,.i x6,.i x7,.i x8,.i x9,.i x10,.i x11,.i x12,.i x13,.i x14,.i x15,.i x16,.i x17,.b b18,.i x19,.i x20,.i x21,.i x22,.i x23,.b b24,.i x25,.i x26,.s A27 n28 c29,.b b30,.b b31,.b b32]⟩] M=
 bb (x10 == 0)
 (ob (Program.keyLits P 9 29 [.i x11,.i x12,.i x13,.i x14,.i x15]) fun q38=>ob (Program.keyLits P 9 29 [.i 0,.i 0,.i 0,.i 0,.i 0]) fun q39=>
 some (.ret (.b (qp q38 q39)) M))
 (some (.ret (.b false) M)):=by kernel_rfl
theorem zx.entry:entry P T k lo F.zx [.pointer (some a1)] M=
 ob ((M.ld (plus (plus a1 18) 18)).bind (Value.int? .i64)) fun x7=>
 ob ((M.ld (plus (plus (plus a1 18) 18) 1)).bind (Value.int? .i64)) fun x8=>
 ob ((M.ld (plus (plus (plus a1 18) 18) 2)).bind (Value.int? .i64)) fun x9=>
 ob ((M.ld (plus (plus (plus a1 18) 18) 3)).bind (Value.int? .i64)) fun x10=>
 ob ((M.ld a1).bind (Value.int? .i64)) fun x11=>
 ob ((M.ld (plus a1 1)).bind (Value.int? .i64)) fun x12=>
 ob ((M.ld (plus a1 2)).bind Value.slc?) fun s13=>
 ob ((M.ld (plus a1 3)).bind (Value.int? .i64)) fun x14=>
 ob ((M.ld (plus a1 4)).bind (Value.int? .i64)) fun x15=>
 ob ((M.ld (plus a1 5)).bind Value.slc?) fun s16=>
 ob ((M.ld (plus a1 6)).bind (Value.int? .i64)) fun x17=>
 ob ((M.ld (plus a1 7)).bind (Value.int? .i64)) fun x18=>
 ob ((M.ld (plus a1 8)).bind Value.slc?) fun s19=>
 some (zx.Ca a1 x11 x12 s13.a s13.n s13.c x14 x15 s16.a s16.n s16.c x17 x18 s19.a s19.n s19.c 0 x7 x8 x9 x9 x10 x10 M):=by kernel_rfl
theorem zx.Pa:pz P T k lo F.zx (zx.Ca a1 x2 x3 A4 n5 c6 x7 x8 A9 n10 c11 x12 x13 A14 n15 c16 x17 x18 x19 x20 x21 x22 x23 M)=
 bb (decide (x17 < 3))
 (pb (0≤x17∧x17 < (3:Int))
 (ob ((([.i x2,.i x3,.s A4 n5 c6,.i x7,.i x8,.s A9 n10 c11,.i x12,.i x13,.s A14 n15 c16]:List Value)[x17.toNat*3+0]?).bind (Value.int? .i64)) fun x24=>
 ob ((([.i x2,.i x3,.s A4 n5 c6,.i x7,.i x8,.s A9 n10 c11,.i x12,.i x13,.s A14 n15 c16]:List Value)[x17.toNat*3+1]?).bind (Value.int? .i64)) fun x25=>
 ob ((([.i x2,.i x3,.s A4 n5 c6,.i x7,.i x8,.s A9 n10 c11,.i x12,.i x13,.s A14 n15 c16]:List Value)[x17.toNat*3+2]?).bind Value.slc?) fun s26=>
 some (zx.Cb a1 x17 x2 x3 A4 n5 c6 x7 x8 A9 n10 c11 x12 x13 A14 n15 c16 x17 (some ⟨M.length,0,none⟩) 2 2 2 0 x18 x19 x20 x21 x22 x23 x24 x25 s26.a s26.n s26.c (M ++ [⟨.fx,[.b true,.b false]⟩]:Mem))) none)
 (ob ((M.ld a1).bind (Value.int? .i64)) fun x27=>
 ob ((M.ld (plus a1 1)).bind (Value.int? .i64)) fun x28=>
 ob ((M.ld (plus a1 2)).bind Value.slc?) fun s29=>
 ob ((M.ld (plus a1 3)).bind (Value.int? .i64)) fun x30=>
 ob ((M.ld (plus a1 4)).bind (Value.int? .i64)) fun x31=>
 ob ((M.ld (plus a1 5)).bind Value.slc?) fun s32=>
 ob ((M.ld (plus a1 6)).bind (Value.int? .i64)) fun x33=>
 ob ((M.ld (plus a1 7)).bind (Value.int? .i64)) fun x34=>
 ob ((M.ld (plus a1 8)).bind Value.slc?) fun s35=>
 ob (M.st lo (plus a1 9) [.i x27,.i x28,.s s29.a s29.n s29.c,.i x30,.i x31,.s s32.a s32.n s32.c,.i x33,.i x34,.s s35.a s35.n s35.c]) fun M36=>
 some (.ret (.i 0) M36)):=by kernel_rfl
theorem zx.Pb:pz P T k lo F.zx (zx.Cb a1 x2 x3 x4 A5 n6 c7 x8 x9 A10 n11 c12 x13 x14 A15 n16 c17 x18 A19 n20 c21 x22 x23 x24 x25 x26 x27 x28 x29 x30 x31 A32 n33 c34 M)=
 bb (decide (x23 < x22))
 (pb (0≤x23∧x23 < (n20:Int))
 (ob A19 fun a37=>
 ob ((M.ld (plus a37 x23.toNat)).bind Value.bool?) fun b38=>
 pb (0≤x2∧x2 < (3:Int))
 (ob ((M.ld (plus (plus a1 48) (x2.toNat*5))).bind (Value.int? .i64)) fun x39=>
 ob ((M.ld (plus (plus (plus a1 48) (x2.toNat*5)) 1)).bind (Value.int? .i64)) fun x40=>
 ob ((M.ld (plus (plus (plus a1 48) (x2.toNat*5)) 2)).bind Value.slc?) fun s41=>
 ob ((M.ld (plus (plus (plus a1 48) (x2.toNat*5)) 3)).bind Value.slc?) fun s42=>
 ob ((M.ld (plus (plus (plus a1 48) (x2.toNat*5)) 4)).bind Value.slc?) fun s43=>
 pb (0≤x2∧x2 < (3:Int))
 (pb (0≤x23∧x23 < (2:Int))
 (ob ((([.i x24,.i x25,.i x26,.i x27,.i x28,.i x29]:List Value)[0+(x2.toNat*2)+x23.toNat+0]?).bind (Value.int? .i64)) fun x44=>
 ob ((M.ld (plus (plus a1 18) 22)).bind (Value.int? .i64)) fun x45=>
 ob (z5 P T k lo F.z8 [.agg ⟨[.i x30,.i x31,.s A32 n33 c34]⟩,.agg ⟨[.i x39,.i x40,.s s41.a s41.n s41.c,.s s42.a s42.n s42.c,.s s43.a s43.n s43.c]⟩,.b b38,.b (decide (x2 > 0)),.i x44,.i x45] M) fun r46=>
 ob (r46.1.tup? 2) fun l47=>
 ob ((l47[0]?).bind (Value.agg? 3)) fun l48=>
 ob ((l48[0]?).bind (Value.int? .i64)) fun x49=>
 ob ((l48[1]?).bind (Value.int? .i64)) fun x50=>
 ob ((l48[2]?).bind Value.slc?) fun s51=>
 ob ((l47[1]?).bind (Value.int? .i64)) fun x52=>
 bb (x52 != 0)
 (some (.ret (.i x52) r46.2))
 (some (zx.Cb a1 x2 x3 x4 A5 n6 c7 x8 x9 A10 n11 c12 x13 x14 A15 n16 c17 x18 A19 n20 c21 x22 (i64.wrap (x23+1)) x24 x25 x26 x27 x28 x29 x49 x50 s51.a s51.n s51.c r46.2))) none) none) none) none)
 (pb (0≤x2∧x2 < (3:Int))
 (ob (M.st lo (plus a1 (x2.toNat*3)) [.i x30,.i x31,.s A32 n33 c34]) fun M53=>
 some (zx.Ca a1 x3 x4 A5 n6 c7 x8 x9 A10 n11 c12 x13 x14 A15 n16 c17 (i64.wrap (x18+1)) x24 x25 x26 x27 x28 x29 M53)) none):=by kernel_rfl
theorem qf.entry:entry P T k lo F.qf [.pointer (some a1)] M=
 ob ((M.ld a1).bind (Value.int? .i64)) fun x7=>
 ob ((M.ld (plus a1 1)).bind (Value.int? .i64)) fun x8=>
 ob ((M.ld (plus a1 2)).bind Value.slc?) fun s9=>
 ob ((M.ld (plus a1 3)).bind (Value.int? .i64)) fun x10=>
 ob ((M.ld (plus a1 4)).bind (Value.int? .i64)) fun x11=>
 ob ((M.ld (plus a1 5)).bind Value.slc?) fun s12=>
 ob ((M.ld (plus a1 6)).bind (Value.int? .i64)) fun x13=>
 ob ((M.ld (plus a1 7)).bind (Value.int? .i64)) fun x14=>
 ob ((M.ld (plus a1 8)).bind Value.slc?) fun s15=>
 ob ((M.ld (plus (plus a1 48) 15)).bind Value.slc?) fun s16=>
 ob ((M.ld (plus (plus a1 48) 16)).bind Value.slc?) fun s17=>
 ob ((M.ld (plus a1 18)).bind Value.bool?) fun b18=>
 ob ((M.ld (plus (plus a1 18) 1)).bind (Value.int? .i64)) fun x19=>
 ob ((M.ld (plus (plus a1 18) 2)).bind Value.bool?) fun b20=>
 ob ((M.ld (plus (plus a1 18) 3)).bind Value.bool?) fun b21=>
 ob ((M.ld (plus (plus a1 18) 4)).bind (Value.int? .i64)) fun x22=>
 ob ((M.ld (plus (plus a1 18) 5)).bind (Value.int? .i64)) fun x23=>
 ob ((M.ld (plus (plus a1 18) 6)).bind (Value.int? .i64)) fun x24=>
 ob ((M.ld (plus (plus a1 18) 7)).bind (Value.int? .i64)) fun x25=>
 ob ((M.ld (plus (plus a1 18) 8)).bind (Value.int? .i64)) fun x26=>
 ob ((M.ld (plus (plus a1 18) 9)).bind (Value.int? .i64)) fun x27=>
 ob ((M.ld (plus (plus a1 18) 10)).bind (Value.int? .i64)) fun x28=>
 ob ((M.ld (plus (plus a1 18) 11)).bind (Value.int? .i64)) fun x29=>
 ob ((M.ld (plus (plus a1 18) 12)).bind (Value.int? .i64)) fun x30=>
 ob ((M.ld (plus (plus a1 18) 13)).bind (Value.int? .i64)) fun x31=>
 ob ((M.ld (plus (plus a1 18) 14)).bind (Value.int? .i64)) fun x32=>
 ob ((M.ld (plus (plus a1 18) 15)).bind (Value.int? .i64)) fun x33=>
 ob ((M.ld (plus (plus a1 18) 16)).bind (Value.int? .i64)) fun x34=>
 ob ((M.ld (plus (plus a1 18) 17)).bind Value.bool?) fun b35=>
 ob ((M.ld (plus (plus a1 18) 18)).bind (Value.int? .i64)) fun x36=>
 ob ((M.ld (plus (plus a1 18) 19)).bind (Value.int? .i64)) fun x37=>
 ob ((M.ld (plus (plus a1 18) 20)).bind (Value.int? .i64)) fun x38=>
 ob ((M.ld (plus (plus a1 18) 21)).bind (Value.int? .i64)) fun x39=>
 ob ((M.ld (plus (plus a1 18) 22)).bind (Value.int? .i64)) fun x40=>
 ob ((M.ld (plus (plus a1 18) 23)).bind Value.bool?) fun b41=>
 ob ((M.ld (plus (plus a1 18) 24)).bind (Value.int? .i64)) fun x42=>
 ob ((M.ld (plus (plus a1 18) 25)).bind (Value.int? .i64)) fun x43=>
 ob ((M.ld (plus (plus a1 18) 26)).bind Value.slc?) fun s44=>
 ob ((M.ld (plus (plus a1 18) 27)).bind Value.bool?) fun b45=>
 ob ((M.ld (plus (plus a1 18) 28)).bind Value.bool?) fun b46=>
 ob ((M.ld (plus (plus a1 18) 29)).bind Value.bool?) fun b47=>
 ob (z5 P T k lo F.zj [.agg ⟨[.i x7,.i x8,.s s9.a s9.n s9.c,.i x10,.i x11,.s s12.a s12.n s12.c,.i x13,.i x14,.s s15.a s15.n s15.c]⟩,.s s16.a s16.n s16.c,.s s17.a s17.n s17.c,.agg ⟨[.b b18,.i x19,.b b20,.b b21,.i x22,.i x23,.i x24,.i x25,.i x26,.i x27,.i x28,.i x29,.i x30,.i x31,.i x32,.i x33,.i x34,.b b35,.i x36,.i x37,.i x38,.i x39,.i x40,.b b41,.i x42,.i x43,.s s44.a s44.n s44.c,.b b45,.b b46,.b b47]⟩] M) fun r48=>
 ob (r48.1.tup? 2) fun l49=>
 ob ((l49[0]?).bind (Value.agg? 9)) fun l50=>
 ob ((l50[0]?).bind (Value.int? .i64)) fun x51=>
 ob ((l50[1]?).bind (Value.int? .i64)) fun x52=>
 ob ((l50[2]?).bind Value.slc?) fun s53=>
 ob ((l50[3]?).bind (Value.int? .i64)) fun x54=>
 ob ((l50[4]?).bind (Value.int? .i64)) fun x55=>
 ob ((l50[5]?).bind Value.slc?) fun s56=>
 ob ((l50[6]?).bind (Value.int? .i64)) fun x57=>
 ob ((l50[7]?).bind (Value.int? .i64)) fun x58=>
 ob ((l50[8]?).bind Value.slc?) fun s59=>
 ob ((l49[1]?).bind (Value.int? .i64)) fun x60=>
 bb (x60 == 0)
 (ob (r48.2.st lo a1 [.i x51,.i x52,.s s53.a s53.n s53.c,.i x54,.i x55,.s s56.a s56.n s56.c,.i x57,.i x58,.s s59.a s59.n s59.c]) fun M61=>
 some (qf.Ca x60 M61))
 (some (qf.Ca x60 r48.2)):=by kernel_rfl
theorem qf.Pa:pz P T k lo F.qf (qf.Ca x1 M)=
 some (.ret (.i x1) M):=by kernel_rfl
theorem zu.entry:entry P T k lo F.zu [.pointer (some a1)] M=
 ob ((M.ld a1).bind (Value.int? .i64)) fun x7=>
 ob ((M.ld (plus a1 1)).bind (Value.int? .i64)) fun x8=>
 ob ((M.ld (plus a1 2)).bind Value.slc?) fun s9=>
 ob ((M.ld (plus a1 3)).bind (Value.int? .i64)) fun x10=>
 ob ((M.ld (plus a1 4)).bind (Value.int? .i64)) fun x11=>
 ob ((M.ld (plus a1 5)).bind Value.slc?) fun s12=>
 ob ((M.ld (plus a1 6)).bind (Value.int? .i64)) fun x13=>
 ob ((M.ld (plus a1 7)).bind (Value.int? .i64)) fun x14=>
 ob ((M.ld (plus a1 8)).bind Value.slc?) fun s15=>
 some (zu.Ca a1 64 x7 x8 s9.a s9.n s9.c x10 x11 s12.a s12.n s12.c x13 x14 s15.a s15.n s15.c 0 M):=by kernel_rfl
theorem zu.Pa:pz P T k lo F.zu (zu.Ca a1 x2 x3 x4 A5 n6 c7 x8 x9 A10 n11 c12 x13 x14 A15 n16 c17 x18 M)=
 bb (decide (x18 < 3))
 (pb (0≤x18∧x18 < (3:Int))
 (ob ((([.i x3,.i x4,.s A5 n6 c7,.i x8,.i x9,.s A10 n11 c12,.i x13,.i x14,.s A15 n16 c17]:List Value)[x18.toNat*3+0]?).bind (Value.int? .i64)) fun x19=>
 ob ((([.i x3,.i x4,.s A5 n6 c7,.i x8,.i x9,.s A10 n11 c12,.i x13,.i x14,.s A15 n16 c17]:List Value)[x18.toNat*3+1]?).bind (Value.int? .i64)) fun x20=>
 ob ((([.i x3,.i x4,.s A5 n6 c7,.i x8,.i x9,.s A10 n11 c12,.i x13,.i x14,.s A15 n16 c17]:List Value)[x18.toNat*3+2]?).bind Value.slc?) fun s21=>
 pb (0≤x18∧x18 < (3:Int))
 (ob ((M.ld (plus (plus (plus a1 18) 27) x18.toNat)).bind Value.bool?) fun b22=>
 bb b22
 (pb (0≤x18∧x18 < (3:Int))
 (ob ((M.ld (plus (plus a1 9) (x18.toNat*3))).bind (Value.int? .i64)) fun x23=>
 ob ((M.ld (plus (plus (plus a1 9) (x18.toNat*3)) 1)).bind (Value.int? .i64)) fun x24=>
 ob ((M.ld (plus (plus (plus a1 9) (x18.toNat*3)) 2)).bind Value.slc?) fun s25=>
 pb (0≤x18∧x18 < (3:Int))
 (ob ((M.ld (plus (plus (plus a1 48) 17) x18.toNat)).bind Value.slc?) fun s26=>
 ob (z5 P T k lo F.z7 [.agg ⟨[.i x19,.i x20,.s s21.a s21.n s21.c]⟩,.agg ⟨[.i x23,.i x24,.s s25.a s25.n s25.c]⟩,.s s26.a s26.n s26.c,.i x2] M) fun r27=>
 ob (r27.1.tup? 2) fun l28=>
 ob ((l28[0]?).bind (Value.agg? 3)) fun l29=>
 ob ((l29[0]?).bind (Value.int? .i64)) fun x30=>
 ob ((l29[1]?).bind (Value.int? .i64)) fun x31=>
 ob ((l29[2]?).bind Value.slc?) fun s32=>
 ob ((l28[1]?).bind (Value.int? .i64)) fun x33=>
 bb (x33 != 0)
 (some (.ret (.i x33) r27.2))
 (pb (0≤x18∧x18 < (3:Int))
 (ob (r27.2.st lo (plus a1 (x18.toNat*3)) [.i x30,.i x31,.s s32.a s32.n s32.c]) fun M34=>
 some (zu.Cb a1 x3 x4 A5 n6 c7 x8 x9 A10 n11 c12 x13 x14 A15 n16 c17 x18 M34)) none)) none) none)
 (some (zu.Cb a1 x3 x4 A5 n6 c7 x8 x9 A10 n11 c12 x13 x14 A15 n16 c17 x18 M))) none) none)
 (some (.ret (.i 0) M)):=by kernel_rfl
theorem zu.Pb:pz P T k lo F.zu (zu.Cb a1 x2 x3 A4 n5 c6 x7 x8 A9 n10 c11 x12 x13 A14 n15 c16 x17 M)=
 some (zu.Ca a1 32 x2 x3 A4 n5 c6 x7 x8 A9 n10 c11 x12 x13 A14 n15 c16 (i64.wrap (x17+1)) M):=by kernel_rfl
end Go.Zt

