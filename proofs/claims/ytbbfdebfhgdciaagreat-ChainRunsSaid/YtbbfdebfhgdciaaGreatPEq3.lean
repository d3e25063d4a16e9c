/- What the law ChainRuns needs of the text Eq3. -/
import Derived.Test.YtbbfdebfhgdciaaGreatPEq0
import Derived.KernelRfl
set_option linter.unusedVariables false
set_option linter.unusedSimpArgs false
set_option maxRecDepth 100000
set_option maxHeartbeats 4000000
namespace Go.Zt
open IntKind (i64 u8)
variable (k lo:Nat)(A1:Option Addr)(b1:Bool)(x1:Int)(A2:Option Addr)(b2:Bool)(n2:Nat)(x2:Int)(A3:Option Addr)(c3:Nat)(cs3:List Value)(n3:Nat)(x3:Int)(a4:Addr)(c4:Nat)(cs4:List Value)(n4:Nat)(v4:Value)(x4:Int)(A5:Option Addr)(b5:Bool)(c5:Nat)(cs5:List Value)(x5:Int)(A6:Option Addr)(n6:Nat)(x6:Int)(A7:Option Addr)(b7:Bool)(c7:Nat)(cs7:List Value)(n7:Nat)(x7:Int)(A8:Option Addr)(b8:Bool)(c8:Nat)(cs8:List Value)(n8:Nat)(x8:Int)(A9:Option Addr)(c9 n9:Nat)(x9:Int)(A10:Option Addr)(c10 n10:Nat)(x10:Int)(A11:Option Addr)(c11 n11:Nat)(x11:Int)(A12:Option Addr)(c12 n12:Nat)(x12:Int)(A13:Option Addr)(b13:Bool)(c13 n13:Nat)(x13:Int)(A14:Option Addr)(c14 n14:Nat)(x14:Int)(A15:Option Addr)(c15 n15:Nat)(x15:Int)(A16:Option Addr)(c16 n16:Nat)(x16:Int)(A17:Option Addr)(b17:Bool)(c17:Nat)(cs17:List Value)(n17:Nat)(x17:Int)(A18:Option Addr)(b18:Bool)(c18:Nat)(cs18:List Value)(n18:Nat)(x18:Int)(A19:Option Addr)(c19 n19:Nat)(x19:Int)(A20:Option Addr)(c20:Nat)(cs20:List Value)(n20:Nat)(x20:Int)(A21:Option Addr)(c21:Nat)(cs21:List Value)(n21:Nat)(x21:Int)(A22:Option Addr)(b22:Bool)(c22:Nat)(cs22:List Value)(n22:Nat)(x22:Int)(A23:Option Addr)(c23:Nat)(cs23:List Value)(n23:Nat)(x23:Int)(A24:Option Addr)(b24:Bool)(c24 n24:Nat)(x24:Int)(A25:Option Addr)(b25:Bool)(c25 n25:Nat)(x25:Int)(A26:Option Addr)(c26 n26:Nat)(x26:Int)(A27:Option Addr)(c27 n27:Nat)(x27:Int)(A28:Option Addr)(b28:Bool)(c28 n28:Nat)(x28:Int)(A29:Option Addr)(c29 n29:Nat)(x29:Int)(A30:Option Addr)(c30 n30:Nat)(x30:Int)(A31:Option Addr)(c31 n31:Nat)(x31:Int)(A32:Option Addr)(c32 n32:Nat)(x32:Int)(A33:Option Addr)(c33 n33:Nat)(x33:Int)(A34:Option Addr)(b34:Bool)(c34 n34:Nat)(x34:Int)(A35:Option Addr)(b35:Bool)(c35 n35:Nat)(x35:Int)(A36:Option Addr)(b36:Bool)(c36 n36:Nat)(x36:Int)(A37:Option Addr)(c37 n37:Nat)(x37:Int)(c38 n38:Nat)(x38:Int)(A39:Option Addr)(b39:Bool)(c39:Nat)(x39:Int)(A40:Option Addr)(n40:Nat)(x40:Int)(A41:Option Addr)(c41 n41:Nat)(x41:Int)(c42 n42:Nat)(x42:Int)(c43:Nat)(x43:Int)(A44:Option Addr)(x44:Int)(A45:Option Addr)(b45:Bool)(n45:Nat)(x45:Int)(A46:Option Addr)(c46 n46:Nat)(x46:Int)(c47 n47:Nat)(x47:Int)(A48:Option Addr)(c48:Nat)(x48:Int)(n49:Nat)(x49:Int)(A50:Option Addr)(c50:Nat)(x50:Int)(b51:Bool)(n51:Nat)(x51:Int)(b52:Bool)(c52:Nat)(x52:Int)(b53:Bool)(x53 x54 x55 x56 x57 x58 x59:Int)(A60:Option Addr)(x60:Int)(n61:Nat)(x61:Int)(c62:Nat)(M:Mem)
theorem z7.entry:entry P T k lo F.z7 [.agg ⟨[.i x1,.i x2,.s A3 n4 c5]⟩,.agg ⟨[.i x6,.i x7,.s A8 n9 c10]⟩,.s A11 n12 c13,.i x14] M=
 ob (z5 P T k lo F.zir [.agg ⟨[.i x1,.i x2,.s A3 n4 c5]⟩] M) fun r20=>
 ob ((some r20.1).bind (Value.int? .i64)) fun x21=>
 bb (x21 != 0)
 (some (.ret (.tuple ⟨[.agg ⟨[.i 0,.i 0,.s none 0 0]⟩,.i 2]⟩) r20.2))
 (ob (z5 P T k lo F.zir [.agg ⟨[.i x6,.i x7,.s A8 n9 c10]⟩] r20.2) fun r22=>
 ob ((some r22.1).bind (Value.int? .i64)) fun x23=>
 bb (x23 != 0)
 (some (.ret (.tuple ⟨[.agg ⟨[.i 0,.i 0,.s none 0 0]⟩,.i 2]⟩) r22.2))
 (bb (x1 != x6)
 (some (.ret (.tuple ⟨[.agg ⟨[.i 0,.i 0,.s none 0 0]⟩,.i 2]⟩) r22.2))
 (bb (x2 != x7)
 (some (.ret (.tuple ⟨[.agg ⟨[.i 0,.i 0,.s none 0 0]⟩,.i 2]⟩) r22.2))
 (bb (x14 != 64)
 (bb (x14 != 32)
 (some (.ret (.tuple ⟨[.agg ⟨[.i 0,.i 0,.s none 0 0]⟩,.i 2]⟩) r22.2))
 (pb (x14=0) none
 (pb (x14=0) none
 (bb ((n12:Int) != i64.wrap ((i64.wrap (Int.tdiv (i64.wrap ((i64.wrap (x1+x14)) - 1)) x14))*(i64.wrap (Int.tdiv (i64.wrap ((i64.wrap (x2+x14)) - 1)) x14))))
 (some (.ret (.tuple ⟨[.agg ⟨[.i 0,.i 0,.s none 0 0]⟩,.i 2]⟩) r22.2))
 (ob (z5 P T k lo F.z1m [.s A11 n12 c13,.func (.func F.zdw) ⟨[]⟩ ⟨[]⟩] r22.2) fun r24=>
 ob ((some r24.1).bind Value.bool?) fun b25=>
 bb b25
 (some (.ret (.tuple ⟨[.agg ⟨[.i 0,.i 0,.s none 0 0]⟩,.i 2]⟩) r24.2))
 (ob (z5 P T k r24.2.length F.z1p [.s A3 n4 c5] r24.2) fun r26=>
 ob ((some r26.1).bind Value.slc?) fun s27=>
 pb (0≤x14∧room x14.toNat 8)
 (some (z7.Ca A11 n12 c13 x14 (i64.wrap (Int.tdiv (i64.wrap ((i64.wrap (x1+x14)) - 1)) x14)) (some ⟨r26.2.length,0,none⟩) x14.toNat x14.toNat x2 0 x1 x2 A3 n4 c5 x6 x7 A8 n9 c10 0 0 none 0 0 x1 x2 s27.a s27.n s27.c (r26.2 ++ [⟨.fx,y4 [.i 0] x14.toNat⟩]:Mem))) none))))))
 (pb (x14=0) none
 (pb (x14=0) none
 (bb ((n12:Int) != i64.wrap ((i64.wrap (Int.tdiv (i64.wrap ((i64.wrap (x1+x14)) - 1)) x14))*(i64.wrap (Int.tdiv (i64.wrap ((i64.wrap (x2+x14)) - 1)) x14))))
 (some (.ret (.tuple ⟨[.agg ⟨[.i 0,.i 0,.s none 0 0]⟩,.i 2]⟩) r22.2))
 (ob (z5 P T k lo F.z1m [.s A11 n12 c13,.func (.func F.zdw) ⟨[]⟩ ⟨[]⟩] r22.2) fun r28=>
 ob ((some r28.1).bind Value.bool?) fun b29=>
 bb b29
 (some (.ret (.tuple ⟨[.agg ⟨[.i 0,.i 0,.s none 0 0]⟩,.i 2]⟩) r28.2))
 (ob (z5 P T k r28.2.length F.z1p [.s A3 n4 c5] r28.2) fun r30=>
 ob ((some r30.1).bind Value.slc?) fun s31=>
 pb (0≤x14∧room x14.toNat 8)
 (some (z7.Ca A11 n12 c13 x14 (i64.wrap (Int.tdiv (i64.wrap ((i64.wrap (x1+x14)) - 1)) x14)) (some ⟨r30.2.length,0,none⟩) x14.toNat x14.toNat x2 0 x1 x2 A3 n4 c5 x6 x7 A8 n9 c10 0 0 none 0 0 x1 x2 s31.a s31.n s31.c (r30.2 ++ [⟨.fx,y4 [.i 0] x14.toNat⟩]:Mem))) none))))))))):=by kernel_rfl
theorem z7.Pa:pz P T k lo F.z7 (z7.Ca A1 n2 c3 x4 x5 A6 n7 c8 x9 x10 x11 x12 A13 n14 c15 x16 x17 A18 n19 c20 x21 x22 A23 n24 c25 x26 x27 A28 n29 c30 M)=
 bb (decide (x10 < x9))
 (ob (z5 P T k lo F.zcv [.i x10,.i x4] M) fun r32=>
 ob ((some r32.1).bind (Value.agg? 2)) fun l33=>
 ob ((l33[0]?).bind (Value.int? .i64)) fun x34=>
 ob ((l33[1]?).bind (Value.int? .i64)) fun x35=>
 some (z7.Cc A1 n2 c3 x4 x5 A6 n7 c8 x10 x9 x10 x5 0 x11 x12 A13 n14 c15 x16 x17 A18 n19 c20 x21 x22 A23 n24 c25 x26 x27 A28 n29 c30 x34 x35 r32.2))
 (some (.ret (.tuple ⟨[.agg ⟨[.i x26,.i x27,.s A28 n29 c30]⟩,.i 0]⟩) M)):=by kernel_rfl
theorem z7.Pb:pz P T k lo F.z7 (z7.Cb A1 n2 c3 x4 x5 A6 n7 c8 x9 x10 x11 x12 A13 n14 c15 x16 x17 A18 n19 c20 x21 x22 A23 n24 c25 x26 x27 A28 n29 c30 M)=
 some (z7.Ca A1 n2 c3 x4 x5 A6 n7 c8 x9 (i64.wrap (x10+1)) x11 x12 A13 n14 c15 x16 x17 A18 n19 c20 x21 x22 A23 n24 c25 x26 x27 A28 n29 c30 M):=by kernel_rfl
theorem z7.Pc:pz P T k lo F.z7 (z7.Cc A1 n2 c3 x4 x5 A6 n7 c8 x9 x10 x11 x12 x13 x14 x15 A16 n17 c18 x19 x20 A21 n22 c23 x24 x25 A26 n27 c28 x29 x30 A31 n32 c33 x34 x35 M)=
 bb (decide (x13 < x12))
 (pb (x4=0) none
 (pb (0≤i64.wrap ((i64.wrap ((i64.wrap (Int.tdiv x9 x4))*x5))+x13)∧i64.wrap ((i64.wrap ((i64.wrap (Int.tdiv x9 x4))*x5))+x13) < (n2:Int))
 (ob A1 fun a36=>
 ob ((M.ld (plus a36 ((i64.wrap ((i64.wrap ((i64.wrap (Int.tdiv x9 x4))*x5))+x13)).toNat*7))).bind Value.bool?) fun b37=>
 ob ((M.ld (plus (plus a36 ((i64.wrap ((i64.wrap ((i64.wrap (Int.tdiv x9 x4))*x5))+x13)).toNat*7)) 1)).bind (Value.int? .i64)) fun x38=>
 ob ((M.ld (plus (plus a36 ((i64.wrap ((i64.wrap ((i64.wrap (Int.tdiv x9 x4))*x5))+x13)).toNat*7)) 2)).bind (Value.int? .i64)) fun x39=>
 ob ((M.ld (plus (plus a36 ((i64.wrap ((i64.wrap ((i64.wrap (Int.tdiv x9 x4))*x5))+x13)).toNat*7)) 3)).bind (Value.int? .i64)) fun x40=>
 ob ((M.ld (plus (plus a36 ((i64.wrap ((i64.wrap ((i64.wrap (Int.tdiv x9 x4))*x5))+x13)).toNat*7)) 4)).bind (Value.int? .i64)) fun x41=>
 ob ((M.ld (plus (plus a36 ((i64.wrap ((i64.wrap ((i64.wrap (Int.tdiv x9 x4))*x5))+x13)).toNat*7)) 5)).bind (Value.int? .i64)) fun x42=>
 ob ((M.ld (plus (plus a36 ((i64.wrap ((i64.wrap ((i64.wrap (Int.tdiv x9 x4))*x5))+x13)).toNat*7)) 6)).bind (Value.int? .i64)) fun x43=>
 bb (!b37)
 (bb (x13 == i64.wrap (x5 - 1))
 (some (z7.Cb A1 n2 c3 x4 x5 A6 n7 c8 x10 x11 x14 x15 A16 n17 c18 x19 x20 A21 n22 c23 x24 x25 A26 n27 c28 x29 x30 A31 n32 c33 M))
 (some (z7.Cd A1 n2 c3 x4 x5 A6 n7 c8 x9 x10 x11 x12 x13 x14 x15 A16 n17 c18 x19 x20 A21 n22 c23 x24 x25 A26 n27 c28 x29 x30 A31 n32 c33 x34 x35 M)))
 (ob (z5 P T k lo F.um [.agg ⟨[.i x38,.i x39,.i x40]⟩] M) fun r44=>
 ob (r44.1.tup? 2) fun l45=>
 ob ((l45[0]?).bind (Value.agg? 7)) fun l46=>
 ob ((l46[0]?).bind (Value.int? .i64)) fun x47=>
 ob ((l46[1]?).bind (Value.int? .i64)) fun x48=>
 ob ((l46[2]?).bind (Value.int? .i64)) fun x49=>
 ob ((l46[3]?).bind (Value.int? .i64)) fun x50=>
 ob ((l46[4]?).bind (Value.int? .i64)) fun x51=>
 ob ((l46[5]?).bind (Value.int? .i64)) fun x52=>
 ob ((l46[6]?).bind (Value.int? .i64)) fun x53=>
 ob ((l45[1]?).bind (Value.int? .i64)) fun x54=>
 ob (z5 P T k lo F.um [.agg ⟨[.i x41,.i x42,.i x43]⟩] r44.2) fun r55=>
 ob (r55.1.tup? 2) fun l56=>
 ob ((l56[0]?).bind (Value.agg? 7)) fun l57=>
 ob ((l57[0]?).bind (Value.int? .i64)) fun x58=>
 ob ((l57[1]?).bind (Value.int? .i64)) fun x59=>
 ob ((l57[2]?).bind (Value.int? .i64)) fun x60=>
 ob ((l57[3]?).bind (Value.int? .i64)) fun x61=>
 ob ((l57[4]?).bind (Value.int? .i64)) fun x62=>
 ob ((l57[5]?).bind (Value.int? .i64)) fun x63=>
 ob ((l57[6]?).bind (Value.int? .i64)) fun x64=>
 ob ((l56[1]?).bind (Value.int? .i64)) fun x65=>
 pb (0≤(0:Int)∧(0:Int)≤i64.wrap ((zq (i64.wrap ((i64.wrap (x13+1))*x4)) x14) - (i64.wrap (x13*x4)))∧i64.wrap ((zq (i64.wrap ((i64.wrap (x13+1))*x4)) x14) - (i64.wrap (x13*x4)))≤(c8:Int))
 (pb (((i64.wrap ((zq (i64.wrap ((i64.wrap (x13+1))*x4)) x14) - (i64.wrap (x13*x4)))).toNat) - 0=0) (some (z7.Ce A1 n2 c3 x4 x5 A6 n7 c8 x9 (i64.wrap (x13*x4)) (zq (i64.wrap ((i64.wrap (x13+1))*x4)) x14) (slAddr 1 A6 0 c8) (((i64.wrap ((zq (i64.wrap ((i64.wrap (x13+1))*x4)) x14) - (i64.wrap (x13*x4)))).toNat) - 0) (c8 - 0) x10 x11 x12 x13 x47 x48 x49 x50 x51 x52 x53 0 x14 x15 A16 n17 c18 x19 x20 A21 n22 c23 x24 x25 A26 n27 c28 x29 x30 A31 n32 c33 x34 x35 x58 x59 x60 x61 x62 x63 x64 r55.2))
 (ob (slAddr 1 A6 0 c8) fun a67=>
 ob (r55.2.st lo a67 (y4 [.i 0] (((i64.wrap ((zq (i64.wrap ((i64.wrap (x13+1))*x4)) x14) - (i64.wrap (x13*x4)))).toNat) - 0))) fun M66=>
 some (z7.Ce A1 n2 c3 x4 x5 A6 n7 c8 x9 (i64.wrap (x13*x4)) (zq (i64.wrap ((i64.wrap (x13+1))*x4)) x14) (slAddr 1 A6 0 c8) (((i64.wrap ((zq (i64.wrap ((i64.wrap (x13+1))*x4)) x14) - (i64.wrap (x13*x4)))).toNat) - 0) (c8 - 0) x10 x11 x12 x13 x47 x48 x49 x50 x51 x52 x53 0 x14 x15 A16 n17 c18 x19 x20 A21 n22 c23 x24 x25 A26 n27 c28 x29 x30 A31 n32 c33 x34 x35 x58 x59 x60 x61 x62 x63 x64 M66))) none)) none))
 (some (z7.Cb A1 n2 c3 x4 x5 A6 n7 c8 x10 x11 x14 x15 A16 n17 c18 x19 x20 A21 n22 c23 x24 x25 A26 n27 c28 x29 x30 A31 n32 c33 M)):=by kernel_rfl
theorem z7.Pd:pz P T k lo F.z7 (z7.Cd A1 n2 c3 x4 x5 A6 n7 c8 x9 x10 x11 x12 x13 x14 x15 A16 n17 c18 x19 x20 A21 n22 c23 x24 x25 A26 n27 c28 x29 x30 A31 n32 c33 x34 x35 M)=
 some (z7.Cc A1 n2 c3 x4 x5 A6 n7 c8 x9 x10 x11 x12 (i64.wrap (x13+1)) x14 x15 A16 n17 c18 x19 x20 A21 n22 c23 x24 x25 A26 n27 c28 x29 x30 A31 n32 c33 x34 x35 M):=by kernel_rfl
theorem z7.Pe:pz P T k lo F.z7 (z7.Ce A1 n2 c3 x4 x5 A6 n7 c8 x9 x10 x11 A12 n13 c14 x15 x16 x17 x18 x19 x20 x21 x22 x23 x24 x25 x26 x27 x28 A29 n30 c31 x32 x33 A34 n35 c36 x37 x38 A39 n40 c41 x42 x43 A44 n45 c46 x47 x48 x49 x50 x51 x52 x53 x54 x55 M)=
 bb (decide (x26 < 7))
 (pb (0≤x26∧x26 < (7:Int))
 (ob ((([.i x19,.i x20,.i x21,.i x22,.i x23,.i x24,.i x25]:List Value)[x26.toNat+0]?).bind (Value.int? .i64)) fun x68=>
 ob (z5 P T k M.length F.zit [.i (i64.wrap ((i64.wrap (x9+x26)) - 3)),.i 0,.i (i64.wrap (x28 - 1))] M) fun r69=>
 ob ((some r69.1).bind (Value.int? .i64)) fun x70=>
 ob (z5 P T k M.length F.zit [.i x70,.i (i64.wrap (x47 - 2)),.i (i64.wrap (x48+1))] r69.2) fun r71=>
 ob ((some r71.1).bind (Value.int? .i64)) fun x72=>
 ob (z5 P T k lo F.zfa [.i x72,.i x47,.i (i64.wrap (x48 - 1))] r71.2) fun r73=>
 ob ((some r73.1).bind Value.bool?) fun b74=>
 bb (!b74)
 (some (z7.Cg A1 n2 c3 x4 x5 A6 n7 c8 x9 x10 x11 A12 n13 c14 x68 x72 x15 x16 x17 x18 x19 x20 x21 x22 x23 x24 x25 x26 x27 x28 A29 n30 c31 x32 x33 A34 n35 c36 x37 x38 A39 n40 c41 x42 x43 A44 n45 c46 x47 x48 x49 x50 x51 x52 x53 x54 x55 x32 x33 A34 n35 c36 r73.2))
 (some (z7.Cg A1 n2 c3 x4 x5 A6 n7 c8 x9 x10 x11 A12 n13 c14 x68 x72 x15 x16 x17 x18 x19 x20 x21 x22 x23 x24 x25 x26 x27 x28 A29 n30 c31 x32 x33 A34 n35 c36 x37 x38 A39 n40 c41 x42 x43 A44 n45 c46 x47 x48 x49 x50 x51 x52 x53 x54 x55 x27 x28 A29 n30 c31 r73.2))) none)
 (some (z7.Cf A1 n2 c3 x4 x5 A6 n7 c8 x9 x10 x15 x16 x17 x18 A12 n13 c14 (n13:Int) 0 x27 x28 A29 n30 c31 x32 x33 A34 n35 c36 x37 x38 A39 n40 c41 x42 x43 A44 n45 c46 x47 x48 M)):=by kernel_rfl
theorem z7.Pf:pz P T k lo F.z7 (z7.Cf A1 n2 c3 x4 x5 A6 n7 c8 x9 x10 x11 x12 x13 x14 A15 n16 c17 x18 x19 x20 x21 A22 n23 c24 x25 x26 A27 n28 c29 x30 x31 A32 n33 c34 x35 x36 A37 n38 c39 x40 x41 M)=
 bb (decide (x19 < x18))
 (pb (0≤x19∧x19 < (n16:Int))
 (ob A15 fun a75=>
 ob ((M.ld (plus a75 x19.toNat)).bind (Value.int? .i64)) fun x76=>
 ob (z5 P T k M.length F.za0 [.i x76,.i 11] M) fun r77=>
 ob ((some r77.1).bind (Value.int? .i64)) fun x78=>
 ob (z5 P T k M.length F.zit [.i x78,.i 0,.i 255] r77.2) fun r79=>
 ob ((some r79.1).bind (Value.int? .i64)) fun x80=>
 pb (0≤i64.wrap ((i64.wrap ((i64.wrap (x9*x20))+x10))+x19)∧i64.wrap ((i64.wrap ((i64.wrap (x9*x20))+x10))+x19) < (n38:Int))
 (ob A37 fun a81=>
 ob (r79.2.st lo (plus a81 ((i64.wrap ((i64.wrap ((i64.wrap (x9*x20))+x10))+x19)).toNat)) [.int .u8 (u8.wrap x80)]) fun M82=>
 some (z7.Cf A1 n2 c3 x4 x5 A6 n7 c8 x9 x10 x11 x12 x13 x14 A15 n16 c17 x18 (i64.wrap (x19+1)) x20 x21 A22 n23 c24 x25 x26 A27 n28 c29 x30 x31 A32 n33 c34 x35 x36 A37 n38 c39 x40 x41 M82)) none) none)
 (some (z7.Cd A1 n2 c3 x4 x5 A6 n7 c8 x9 x11 x12 x13 x14 x20 x21 A22 n23 c24 x25 x26 A27 n28 c29 x30 x31 A32 n33 c34 x35 x36 A37 n38 c39 x40 x41 M)):=by kernel_rfl
theorem z7.Pg:pz P T k lo F.z7 (z7.Cg A1 n2 c3 x4 x5 A6 n7 c8 x9 x10 x11 A12 n13 c14 x15 x16 x17 x18 x19 x20 x21 x22 x23 x24 x25 x26 x27 x28 x29 x30 A31 n32 c33 x34 x35 A36 n37 c38 x39 x40 A41 n42 c43 x44 x45 A46 n47 c48 x49 x50 x51 x52 x53 x54 x55 x56 x57 x58 x59 A60 n61 c62 M)=
 ob (z5 P T k lo F.jb [.agg ⟨[.i x58,.i x59,.s A60 n61 c62]⟩,.i x16,.agg ⟨[.i x51,.i x52,.i x53,.i x54,.i x55,.i x56,.i x57]⟩,.i x10,.i x11] M) fun r83=>
 ob ((some r83.1).bind Value.slc?) fun s84=>
 some (z7.Ch A1 n2 c3 x4 x5 A6 n7 c8 x9 x10 x11 A12 n13 c14 x15 x17 x18 x19 x20 x21 x22 x23 x24 x25 x26 x27 x28 s84.a s84.n s84.c (s84.n:Int) 0 x29 x30 A31 n32 c33 x34 x35 A36 n37 c38 x39 x40 A41 n42 c43 x44 x45 A46 n47 c48 x49 x50 x51 x52 x53 x54 x55 x56 x57 r83.2):=by kernel_rfl
theorem z7.Ph:pz P T k lo F.z7 (z7.Ch A1 n2 c3 x4 x5 A6 n7 c8 x9 x10 x11 A12 n13 c14 x15 x16 x17 x18 x19 x20 x21 x22 x23 x24 x25 x26 x27 A28 n29 c30 x31 x32 x33 x34 A35 n36 c37 x38 x39 A40 n41 c42 x43 x44 A45 n46 c47 x48 x49 A50 n51 c52 x53 x54 x55 x56 x57 x58 x59 x60 x61 M)=
 bb (decide (x32 < x31))
 (pb (0≤x32∧x32 < (n29:Int))
 (ob A28 fun a85=>
 ob ((M.ld (plus a85 x32.toNat)).bind (Value.int? .i64)) fun x86=>
 pb (0≤x32∧x32 < (n13:Int))
 (ob A12 fun a87=>
 ob ((M.ld (plus a87 x32.toNat)).bind (Value.int? .i64)) fun x88=>
 pb (0≤x32∧x32 < (n13:Int))
 (ob A12 fun a89=>
 ob (M.st lo (plus a89 x32.toNat) [.i (i64.wrap (x88+(i64.wrap (x15*x86))))]) fun M90=>
 some (z7.Ch A1 n2 c3 x4 x5 A6 n7 c8 x9 x10 x11 A12 n13 c14 x15 x16 x17 x18 x19 x20 x21 x22 x23 x24 x25 x26 x27 A28 n29 c30 x31 (i64.wrap (x32+1)) x33 x34 A35 n36 c37 x38 x39 A40 n41 c42 x43 x44 A45 n46 c47 x48 x49 A50 n51 c52 x53 x54 x55 x56 x57 x58 x59 x60 x61 M90)) none) none) none)
 (some (z7.Ce A1 n2 c3 x4 x5 A6 n7 c8 x9 x10 x11 A12 n13 c14 x16 x17 x18 x19 x20 x21 x22 x23 x24 x25 x26 (i64.wrap (x27+1)) x33 x34 A35 n36 c37 x38 x39 A40 n41 c42 x43 x44 A45 n46 c47 x48 x49 A50 n51 c52 x53 x54 x55 x56 x57 x58 x59 x60 x61 M)):=by kernel_rfl
theorem z8w.entry:entry P T k lo F.z8w [.agg ⟨[.i x1,.i x2,.s A3 n4 c5]⟩] M=
 bb (decide (x1 < 1))
 (some (.ret (.i 2) M))
 (bb (decide (x1 > 512))
 (some (.ret (.i 2) M))
 (bb (decide (x2 < 1))
 (some (.ret (.i 2) M))
 (bb (decide (x2 > 512))
 (some (.ret (.i 2) M))
 (bb ((n4:Int) != i64.wrap (x1*x2))
 (some (.ret (.i 2) M))
 (some (.ret (.i 0) M)))))):=by kernel_rfl
theorem za2.entry:entry P T k lo F.za2 [.i x1] M=
 bb (Int.tmod x1 2 == 0)
 (bb (decide (x1 ≥ 16))
 (some (.ret (.b (decide (x1≤256))) M))
 (some (.ret (.b false) M)))
 (some (.ret (.b false) M)):=by kernel_rfl
theorem z6.entry:entry P T k lo F.z6 [.agg ⟨[.i x1,.i x2,.s A3 n4 c5]⟩,.agg ⟨[.i x6,.i x7,.s A8 n9 c10,.s A11 n12 c13,.s A14 n15 c16]⟩,.b b17,.b b18,.i x19,.i x20] M=
 ob (z5 P T k lo F.qm [.agg ⟨[.i x1,.i x2,.s A3 n4 c5]⟩,.agg ⟨[.i x6,.i x7,.s A8 n9 c10,.s A11 n12 c13,.s A14 n15 c16]⟩] M) fun r26=>
 ob ((some r26.1).bind Value.bool?) fun b27=>
 bb (!b27)
 (some (.ret (.tuple ⟨[.agg ⟨[.i 0,.i 0,.s none 0 0]⟩,.i 2]⟩) r26.2))
 (bb (decide (x19 < 0))
 (some (.ret (.tuple ⟨[.agg ⟨[.i 0,.i 0,.s none 0 0]⟩,.i 2]⟩) r26.2))
 (bb (decide (x19 > 63))
 (some (.ret (.tuple ⟨[.agg ⟨[.i 0,.i 0,.s none 0 0]⟩,.i 2]⟩) r26.2))
 (bb (decide (x20 < 0))
 (some (.ret (.tuple ⟨[.agg ⟨[.i 0,.i 0,.s none 0 0]⟩,.i 2]⟩) r26.2))
 (bb (decide (x20 > 7))
 (some (.ret (.tuple ⟨[.agg ⟨[.i 0,.i 0,.s none 0 0]⟩,.i 2]⟩) r26.2))
 (ob (z5 P T k lo F.z66 [.agg ⟨[.i x1,.i x2,.s A3 n4 c5]⟩] r26.2) fun r28=>
 ob ((some r28.1).bind (Value.agg? 3)) fun l29=>
 ob ((l29[0]?).bind (Value.int? .i64)) fun x30=>
 ob ((l29[1]?).bind (Value.int? .i64)) fun x31=>
 ob ((l29[2]?).bind Value.slc?) fun s32=>
 some (z6.Ca b17 b18 x19 x20 0 x1 x2 A3 n4 c5 x6 x7 A8 n9 c10 A11 n12 c13 A14 n15 c16 0 0 none 0 0 x30 x31 s32.a s32.n s32.c r28.2)))))):=by kernel_rfl
theorem z6.Pa:pz P T k lo F.z6 (z6.Ca b1 b2 x3 x4 x5 x6 x7 A8 n9 c10 x11 x12 A13 n14 c15 A16 n17 c18 A19 n20 c21 x22 x23 A24 n25 c26 x27 x28 A29 n30 c31 M)=
 bb (decide (x5 < x12))
 (some (z6.Cb b1 b2 x3 x4 x5 0 x6 x7 A8 n9 c10 x11 x12 A13 n14 c15 A16 n17 c18 A19 n20 c21 x22 x23 A24 n25 c26 x27 x28 A29 n30 c31 M))
 (some (.ret (.tuple ⟨[.agg ⟨[.i x27,.i x28,.s A29 n30 c31]⟩,.i 0]⟩) M)):=by kernel_rfl
theorem z6.Pb:pz P T k lo F.z6 (z6.Cb b1 b2 x3 x4 x5 x6 x7 x8 A9 n10 c11 x12 x13 A14 n15 c16 A17 n18 c19 A20 n21 c22 x23 x24 A25 n26 c27 x28 x29 A30 n31 c32 M)=
 bb (decide (x6 < x12))
 (bb (!b1)
 (some (z6.Cd b1 b2 x3 x4 x5 x6 (i64.wrap (4*x5)) x8 (i64.wrap ((i64.wrap ((i64.wrap (x5 - 1))*x12))+x6)) x7 1 x7 x8 A9 n10 c11 x12 x13 A14 n15 c16 A17 n18 c19 A20 n21 c22 x23 x24 A25 n26 c27 x28 x29 A30 n31 c32 M))
 (some (z6.Cd b1 b2 x3 x4 x5 x6 (i64.wrap (4*x6)) x7 (i64.wrap ((i64.wrap ((i64.wrap (x5*x12))+x6)) - 1)) 1 x7 x7 x8 A9 n10 c11 x12 x13 A14 n15 c16 A17 n18 c19 A20 n21 c22 x23 x24 A25 n26 c27 x28 x29 A30 n31 c32 M)))
 (some (z6.Ca b1 b2 x3 x4 (i64.wrap (x5+1)) x7 x8 A9 n10 c11 x12 x13 A14 n15 c16 A17 n18 c19 A20 n21 c22 x23 x24 A25 n26 c27 x28 x29 A30 n31 c32 M)):=by kernel_rfl
theorem z6.Pc:pz P T k lo F.z6 (z6.Cc b1 b2 x3 x4 x5 x6 x7 x8 A9 n10 c11 x12 x13 A14 n15 c16 A17 n18 c19 A20 n21 c22 x23 x24 A25 n26 c27 x28 x29 A30 n31 c32 M)=
 some (z6.Cb b1 b2 x3 x4 x5 (i64.wrap (x6+1)) x7 x8 A9 n10 c11 x12 x13 A14 n15 c16 A17 n18 c19 A20 n21 c22 x23 x24 A25 n26 c27 x28 x29 A30 n31 c32 M):=by kernel_rfl
theorem z6.Pd:pz P T k lo F.z6 (z6.Cd b1 b2 x3 x4 x5 x6 x7 x8 x9 x10 x11 x12 x13 A14 n15 c16 x17 x18 A19 n20 c21 A22 n23 c24 A25 n26 c27 x28 x29 A30 n31 c32 x33 x34 A35 n36 c37 M)=
 bb (x7 == 0)
 (some (z6.Cc b1 b2 x3 x4 x5 x6 x12 x13 A14 n15 c16 x17 x18 A19 n20 c21 A22 n23 c24 A25 n26 c27 x28 x29 A30 n31 c32 x33 x34 A35 n36 c37 M))
 (pb (0≤i64.wrap ((i64.wrap (x5*x17))+x6)∧i64.wrap ((i64.wrap (x5*x17))+x6) < (n20:Int))
 (ob A19 fun a38=>
 ob ((M.ld (plus a38 ((i64.wrap ((i64.wrap (x5*x17))+x6)).toNat))).bind (Value.int? .u8)) fun x39=>
 pb (i64.wrap x39=0) none
 (bb (Int.tmod x7 (i64.wrap x39) != 0)
 (some (z6.Cc b1 b2 x3 x4 x5 x6 x12 x13 A14 n15 c16 x17 x18 A19 n20 c21 A22 n23 c24 A25 n26 c27 x28 x29 A30 n31 c32 x33 x34 A35 n36 c37 M))
 (pb (0≤i64.wrap ((i64.wrap (x5*x17))+x6)∧i64.wrap ((i64.wrap (x5*x17))+x6) < (n23:Int))
 (ob A22 fun a40=>
 ob ((M.ld (plus a40 ((i64.wrap ((i64.wrap (x5*x17))+x6)).toNat))).bind (Value.int? .i64)) fun x41=>
 pb (0≤x9∧x9 < (n23:Int))
 (ob A22 fun a42=>
 ob ((M.ld (plus a42 x9.toNat)).bind (Value.int? .i64)) fun x43=>
 bb (x41 == x43)
 (pb (0≤i64.wrap ((i64.wrap (x5*x17))+x6)∧i64.wrap ((i64.wrap (x5*x17))+x6) < (n26:Int))
 (ob A25 fun a44=>
 ob ((M.ld (plus a44 ((i64.wrap ((i64.wrap (x5*x17))+x6)).toNat))).bind Value.bool?) fun b45=>
 bb b45
 (pb (0≤x9∧x9 < (n26:Int))
 (ob A25 fun a46=>
 ob ((M.ld (plus a46 x9.toNat)).bind Value.bool?) fun b47=>
 bb b47
 (some (z6.Cc b1 b2 x3 x4 x5 x6 x12 x13 A14 n15 c16 x17 x18 A19 n20 c21 A22 n23 c24 A25 n26 c27 x28 x29 A30 n31 c32 x33 x34 A35 n36 c37 M))
 (pb (0≤i64.wrap ((i64.wrap (x5*x17))+x6)∧i64.wrap ((i64.wrap (x5*x17))+x6) < (n20:Int))
 (ob A19 fun a48=>
 ob ((M.ld (plus a48 ((i64.wrap ((i64.wrap (x5*x17))+x6)).toNat))).bind (Value.int? .u8)) fun x49=>
 pb (0≤x9∧x9 < (n20:Int))
 (ob A19 fun a50=>
 ob ((M.ld (plus a50 x9.toNat)).bind (Value.int? .u8)) fun x51=>
 some (z6.Ce b1 b2 x3 x4 x5 x6 x10 x11 (zq (zq (i64.wrap x49) (i64.wrap x51)) (zq x7 (i64.wrap (x8 - x7)))) 0 x12 x13 A14 n15 c16 x17 x18 A19 n20 c21 A22 n23 c24 A25 n26 c27 x28 x29 A30 n31 c32 x33 x34 A35 n36 c37 M)) none) none)) none)
 (pb (0≤i64.wrap ((i64.wrap (x5*x17))+x6)∧i64.wrap ((i64.wrap (x5*x17))+x6) < (n20:Int))
 (ob A19 fun a52=>
 ob ((M.ld (plus a52 ((i64.wrap ((i64.wrap (x5*x17))+x6)).toNat))).bind (Value.int? .u8)) fun x53=>
 pb (0≤x9∧x9 < (n20:Int))
 (ob A19 fun a54=>
 ob ((M.ld (plus a54 x9.toNat)).bind (Value.int? .u8)) fun x55=>
 some (z6.Ce b1 b2 x3 x4 x5 x6 x10 x11 (zq (zq (i64.wrap x53) (i64.wrap x55)) (zq x7 (i64.wrap (x8 - x7)))) 0 x12 x13 A14 n15 c16 x17 x18 A19 n20 c21 A22 n23 c24 A25 n26 c27 x28 x29 A30 n31 c32 x33 x34 A35 n36 c37 M)) none) none)) none)
 (pb (0≤i64.wrap ((i64.wrap (x5*x17))+x6)∧i64.wrap ((i64.wrap (x5*x17))+x6) < (n20:Int))
 (ob A19 fun a56=>
 ob ((M.ld (plus a56 ((i64.wrap ((i64.wrap (x5*x17))+x6)).toNat))).bind (Value.int? .u8)) fun x57=>
 pb (0≤x9∧x9 < (n20:Int))
 (ob A19 fun a58=>
 ob ((M.ld (plus a58 x9.toNat)).bind (Value.int? .u8)) fun x59=>
 some (z6.Ce b1 b2 x3 x4 x5 x6 x10 x11 (zq (zq (i64.wrap x57) (i64.wrap x59)) (zq x7 (i64.wrap (x8 - x7)))) 0 x12 x13 A14 n15 c16 x17 x18 A19 n20 c21 A22 n23 c24 A25 n26 c27 x28 x29 A30 n31 c32 x33 x34 A35 n36 c37 M)) none) none)) none) none))) none):=by kernel_rfl
theorem z6.Pe:pz P T k lo F.z6 (z6.Ce b1 b2 x3 x4 x5 x6 x7 x8 x9 x10 x11 x12 A13 n14 c15 x16 x17 A18 n19 c20 A21 n22 c23 A24 n25 c26 x27 x28 A29 n30 c31 x32 x33 A34 n35 c36 M)=
 bb (decide (x10 < 4))
 (ob (z5 P T k lo F.za1 [.i x9,.b b2] M) fun r60=>
 ob ((some r60.1).bind (Value.int? .i64)) fun x61=>
 ob (z5 P T k lo F.yh [.agg ⟨[.i x32,.i x33,.s A34 n35 c36]⟩,.i (i64.wrap ((i64.wrap ((i64.wrap ((i64.wrap (4*x5))*x11))+(i64.wrap (4*x6))))+(i64.wrap (x10*x8)))),.i x7,.i x61,.i x3,.i x4] r60.2) fun r62=>
 ob (r62.1.tup? 0) fun l63=>
 some (z6.Ce b1 b2 x3 x4 x5 x6 x7 x8 x9 (i64.wrap (x10+1)) x11 x12 A13 n14 c15 x16 x17 A18 n19 c20 A21 n22 c23 A24 n25 c26 x27 x28 A29 n30 c31 x32 x33 A34 n35 c36 r62.2))
 (some (z6.Cc b1 b2 x3 x4 x5 x6 x11 x12 A13 n14 c15 x16 x17 A18 n19 c20 A21 n22 c23 A24 n25 c26 x27 x28 A29 n30 c31 x32 x33 A34 n35 c36 M)):=by kernel_rfl
theorem yp.entry:entry P T k lo F.yp [.agg ⟨[.i x1,.i x2,.s A3 n4 c5,.i x6,.i x7,.s A8 n9 c10,.i x11,.i x12,.s A13 n14 c15]⟩,.s A16 n17 c18,.s A19 n20 c21,.agg ⟨[.b b22,.i x23,.b b24,.b b25,.i x26,.i x27,.i x28,.i x29,.i x30,.i x31,.i x32,.i x33,.i x34,.i x35,.i x36,.i x37,.i x38,.b b39,.i x40,.i x41,.i x42,.i x43,.i x44,.b b45,.i x46,.i x47,.s A48 n49 c50,.b b51,.b b52,.b b53]⟩] M=
 ob (z5 P T k lo F.q8 [.agg ⟨[.i x1,.i x2,.s A3 n4 c5,.i x6,.i x7,.s A8 n9 c10,.i x11,.i x12,.s A13 n14 c15]⟩] M) fun r59=>
 ob ((some r59.1).bind (Value.int? .i64)) fun x60=>
 bb (x60 != 0)
 (some (.ret (.b false) r59.2))
 (bb (Int.tmod x1 8 != 0)
 (some (.ret (.b false) r59.2))
 (bb (Int.tmod x2 8 != 0)
 (some (.ret (.b false) r59.2))
 (bb ((n17:Int) != i64.wrap ((i64.wrap (Int.tdiv x1 8))*(i64.wrap (Int.tdiv x2 8))))
 (some (.ret (.b false) r59.2))
 (bb ((n20:Int) != i64.wrap ((i64.wrap (Int.tdiv (i64.wrap (x1+63)) 64))*(i64.wrap (Int.tdiv (i64.wrap (x2+63)) 64))))
 (some (.ret (.b false) r59.2))
 (bb (!b45)
 (some (.ret (.b true) r59.2))
 (bb (decide (x46 < 3))
 (some (.ret (.b false) r59.2))
 (bb (decide (x46 > 6))
 (some (.ret (.b false) r59.2))
 (bb (decide ((n49:Int) < 1))
 (some (.ret (.b false) r59.2))
 (bb (decide ((n49:Int) > 8))
 (some (.ret (.b false) r59.2))
 (some (yp.Ca A19 n20 c21 0 b22 x23 b24 b25 x26 x27 x28 x29 x30 x31 x32 x33 x34 x35 x36 x37 x38 b39 x40 x41 x42 x43 x44 b45 x46 x47 A48 n49 c50 b51 b52 b53 r59.2))))))))))):=by kernel_rfl
theorem yp.Pa:pz P T k lo F.yp (yp.Ca A1 n2 c3 x4 b5 x6 b7 b8 x9 x10 x11 x12 x13 x14 x15 x16 x17 x18 x19 x20 x21 b22 x23 x24 x25 x26 x27 b28 x29 x30 A31 n32 c33 b34 b35 b36 M)=
 bb (decide (x4 < (n32:Int)))
 (pb (0≤x4∧x4 < (n32:Int))
 (ob A31 fun a61=>
 ob ((M.ld (plus a61 (x4.toNat*4))).bind (Value.int? .i64)) fun x62=>
 ob ((M.ld (plus (plus a61 (x4.toNat*4)) 1)).bind (Value.int? .i64)) fun x63=>
 ob ((M.ld (plus (plus a61 (x4.toNat*4)) 2)).bind (Value.int? .i64)) fun x64=>
 ob ((M.ld (plus (plus a61 (x4.toNat*4)) 3)).bind (Value.int? .i64)) fun x65=>
 ob (z5 P T k lo F.z71 [.agg ⟨[.i x62,.i x63,.i x64,.i x65]⟩] M) fun r66=>
 ob ((some r66.1).bind Value.bool?) fun b67=>
 bb (!b67)
 (some (.ret (.b false) r66.2))
 (some (yp.Ca A1 n2 c3 (i64.wrap (x4+1)) b5 x6 b7 b8 x9 x10 x11 x12 x13 x14 x15 x16 x17 x18 x19 x20 x21 b22 x23 x24 x25 x26 x27 b28 x29 x30 A31 n32 c33 b34 b35 b36 r66.2))) none)
 (some (yp.Cb A1 n2 c3 0 b5 x6 b7 b8 x9 x10 x11 x12 x13 x14 x15 x16 x17 x18 x19 x20 x21 b22 x23 x24 x25 x26 x27 b28 x29 x30 A31 n32 c33 b34 b35 b36 M)):=by kernel_rfl
theorem yp.Pb:pz P T k lo F.yp (yp.Cb A1 n2 c3 x4 b5 x6 b7 b8 x9 x10 x11 x12 x13 x14 x15 x16 x17 x18 x19 x20 x21 b22 x23 x24 x25 x26 x27 b28 x29 x30 A31 n32 c33 b34 b35 b36 M)=
 bb (decide (x4 < (n2:Int)))
 (pb (0≤x4∧x4 < (n2:Int))
 (ob A1 fun a68=>
 ob ((M.ld (plus a68 x4.toNat)).bind (Value.int? .i64)) fun x69=>
 bb (decide (x69 < 0))
 (some (.ret (.b false) M))
 (pb (0≤x4∧x4 < (n2:Int))
 (ob A1 fun a70=>
 ob ((M.ld (plus a70 x4.toNat)).bind (Value.int? .i64)) fun x71=>
 bb (decide (x71 ≥ (n32:Int)))
 (some (.ret (.b false) M))
 (some (yp.Cb A1 n2 c3 (i64.wrap (x4+1)) b5 x6 b7 b8 x9 x10 x11 x12 x13 x14 x15 x16 x17 x18 x19 x20 x21 b22 x23 x24 x25 x26 x27 b28 x29 x30 A31 n32 c33 b34 b35 b36 M))) none)) none)
 (some (.ret (.b true) M)):=by kernel_rfl
theorem z9.entry:entry P T k lo F.z9 [.agg ⟨[.i x1,.i x2,.s A3 n4 c5,.i x6,.i x7,.s A8 n9 c10,.i x11,.i x12,.s A13 n14 c15]⟩,.agg ⟨[.i x16,.i x17,.s A18 n19 c20,.i x21,.i x22,.s A23 n24 c25,.i x26,.i x27,.s A28 n29 c30]⟩,.i x31,.i x32,.agg ⟨[.i x33,.i x34,.i x35,.i x36]⟩,.i x37] M=
 ob (z5 P T k lo F.yi [.agg ⟨[.i x1,.i x2,.s A3 n4 c5]⟩,.agg ⟨[.i x31,.i x32,.i 8,.i 8]⟩] M) fun r43=>
 ob (r43.1.tup? 2) fun l44=>
 ob ((l44[0]?).bind Value.slc?) fun s45=>
 ob ((l44[1]?).bind (Value.int? .i64)) fun x46=>
 ob (z5 P T k lo F.y3 [.s s45.a s45.n s45.c] r43.2) fun r47=>
 ob (r47.1.tup? 3) fun l48=>
 ob ((l48[0]?).bind (Value.int? .i64)) fun x49=>
 ob ((l48[1]?).bind (Value.int? .i64)) fun x50=>
 ob ((l48[2]?).bind (Value.int? .i64)) fun x51=>
 bb (decide (x50 > 0))
 (bb (decide (yz .i64 x50 6 > 0))
 (ob (z5 P T k lo F.u6 [.i (yz .i64 x50 6)] r47.2) fun r52=>
 ob ((some r52.1).bind (Value.int? .i64)) fun x53=>
 some (z9.Cc x31 x32 x37 x49 (zq x53 12) x1 x2 A3 n4 c5 x6 x7 A8 n9 c10 x11 x12 A13 n14 c15 x16 x17 A18 n19 c20 x21 x22 A23 n24 c25 x26 x27 A28 n29 c30 x33 x34 x35 x36 x31 x32 8 8 r52.2))
 (some (z9.Cc x31 x32 x37 x49 0 x1 x2 A3 n4 c5 x6 x7 A8 n9 c10 x11 x12 A13 n14 c15 x16 x17 A18 n19 c20 x21 x22 A23 n24 c25 x26 x27 A28 n29 c30 x33 x34 x35 x36 x31 x32 8 8 r47.2)))
 (some (z9.Ca x31 x32 x37 x49 0 x1 x2 A3 n4 c5 x6 x7 A8 n9 c10 x11 x12 A13 n14 c15 x16 x17 A18 n19 c20 x21 x22 A23 n24 c25 x26 x27 A28 n29 c30 x33 x34 x35 x36 x31 x32 8 8 r47.2)):=by kernel_rfl
theorem z9.Pa:pz P T k lo F.z9 (z9.Ca x1 x2 x3 x4 x5 x6 x7 A8 n9 c10 x11 x12 A13 n14 c15 x16 x17 A18 n19 c20 x21 x22 A23 n24 c25 x26 x27 A28 n29 c30 x31 x32 A33 n34 c35 x36 x37 x38 x39 x40 x41 x42 x43 M)=
 bb (x36 == 0)
 (some (z9.Cb x1 x2 x3 x4 x5 0 x6 x7 A8 n9 c10 x11 x12 A13 n14 c15 x16 x17 A18 n19 c20 x21 x22 A23 n24 c25 x26 x27 A28 n29 c30 x31 x32 A33 n34 c35 x36 x37 x38 x39 x40 x41 x42 x43 M))
 (some (z9.Cb x1 x2 x3 x4 x5 x4 x6 x7 A8 n9 c10 x11 x12 A13 n14 c15 x16 x17 A18 n19 c20 x21 x22 A23 n24 c25 x26 x27 A28 n29 c30 x31 x32 A33 n34 c35 x36 x37 x38 x39 x40 x41 x42 x43 M)):=by kernel_rfl
theorem z9.Pb:pz P T k lo F.z9 (z9.Cb x1 x2 x3 x4 x5 x6 x7 x8 A9 n10 c11 x12 x13 A14 n15 c16 x17 x18 A19 n20 c21 x22 x23 A24 n25 c26 x27 x28 A29 n30 c31 x32 x33 A34 n35 c36 x37 x38 x39 x40 x41 x42 x43 x44 M)=
 ob (z5 P T k M.length F.zau [.i x38] M) fun r54=>
 ob ((some r54.1).bind (Value.int? .i64)) fun x55=>
 ob (z5 P T k lo F.yb [.agg ⟨[.i x7,.i x8,.s A9 n10 c11]⟩,.agg ⟨[.i x41,.i x42,.i x43,.i x44]⟩,.i x6,.i x5,.i x55,.i x3] r54.2) fun r56=>
 ob (r56.1.tup? 2) fun l57=>
 ob ((l57[0]?).bind Value.slc?) fun s58=>
 ob ((l57[1]?).bind (Value.int? .i64)) fun x59=>
 ob (z5 P T k lo F.ql [.agg ⟨[.i x22,.i x23,.s A24 n25 c26]⟩,.agg ⟨[.i x41,.i x42,.i x43,.i x44]⟩,.s s58.a s58.n s58.c] r56.2) fun r60=>
 ob (r60.1.tup? 0) fun l61=>
 bb (x39 == 0)
 (some (z9.Cd x1 x2 x3 0 x7 x8 A9 n10 c11 x12 x13 A14 n15 c16 x17 x18 A19 n20 c21 x22 x23 A24 n25 c26 x27 x28 A29 n30 c31 x32 x33 A34 n35 c36 x37 x38 x39 x40 r60.2))
 (some (z9.Cd x1 x2 x3 x4 x7 x8 A9 n10 c11 x12 x13 A14 n15 c16 x17 x18 A19 n20 c21 x22 x23 A24 n25 c26 x27 x28 A29 n30 c31 x32 x33 A34 n35 c36 x37 x38 x39 x40 r60.2)):=by kernel_rfl
theorem z9.Pc:pz P T k lo F.z9 (z9.Cc x1 x2 x3 x4 x5 x6 x7 A8 n9 c10 x11 x12 A13 n14 c15 x16 x17 A18 n19 c20 x21 x22 A23 n24 c25 x26 x27 A28 n29 c30 x31 x32 A33 n34 c35 x36 x37 x38 x39 x40 x41 x42 x43 M)=
 some (z9.Ca x1 x2 x3 x4 (yz .i64 (i64.wrap ((i64.wrap (x36*(i64.wrap (4+x5))))+8)) 4) x6 x7 A8 n9 c10 x11 x12 A13 n14 c15 x16 x17 A18 n19 c20 x21 x22 A23 n24 c25 x26 x27 A28 n29 c30 x31 x32 A33 n34 c35 x36 x37 x38 x39 x40 x41 x42 x43 M):=by kernel_rfl
theorem z9.Pd:pz P T k lo F.z9 (z9.Cd x1 x2 x3 x4 x5 x6 A7 n8 c9 x10 x11 A12 n13 c14 x15 x16 A17 n18 c19 x20 x21 A22 n23 c24 x25 x26 A27 n28 c29 x30 x31 A32 n33 c34 x35 x36 x37 x38 M)=
 some (z9.Ce x3 x4 1 x5 x6 A7 n8 c9 x10 x11 A12 n13 c14 x15 x16 A17 n18 c19 x20 x21 A22 n23 c24 x25 x26 A27 n28 c29 x30 x31 A32 n33 c34 x35 x36 x37 x38 (i64.wrap (Int.tdiv x1 2)) (i64.wrap (Int.tdiv x2 2)) 4 4 M):=by kernel_rfl
theorem z9.Pe:pz P T k lo F.z9 (z9.Ce x1 x2 x3 x4 x5 A6 n7 c8 x9 x10 A11 n12 c13 x14 x15 A16 n17 c18 x19 x20 A21 n22 c23 x24 x25 A26 n27 c28 x29 x30 A31 n32 c33 x34 x35 x36 x37 x38 x39 x40 x41 M)=
 bb (decide (x3 < 3))
 (pb (0≤x3∧x3 < (3:Int))
 (ob ((([.i x4,.i x5,.s A6 n7 c8,.i x9,.i x10,.s A11 n12 c13,.i x14,.i x15,.s A16 n17 c18]:List Value)[0+(x3.toNat*3)+0]?).bind (Value.int? .i64)) fun x62=>
 ob ((([.i x4,.i x5,.s A6 n7 c8,.i x9,.i x10,.s A11 n12 c13,.i x14,.i x15,.s A16 n17 c18]:List Value)[0+(x3.toNat*3)+1]?).bind (Value.int? .i64)) fun x63=>
 ob ((([.i x4,.i x5,.s A6 n7 c8,.i x9,.i x10,.s A11 n12 c13,.i x14,.i x15,.s A16 n17 c18]:List Value)[0+(x3.toNat*3)+2]?).bind Value.slc?) fun s64=>
 ob (z5 P T k M.length F.zau [.i x37] M) fun r65=>
 ob ((some r65.1).bind (Value.int? .i64)) fun x66=>
 ob (z5 P T k lo F.yb [.agg ⟨[.i x62,.i x63,.s s64.a s64.n s64.c]⟩,.agg ⟨[.i x38,.i x39,.i x40,.i x41]⟩,.i x2,.i x36,.i x66,.i (i64.wrap (x1 - 1))] r65.2) fun r67=>
 ob (r67.1.tup? 2) fun l68=>
 ob ((l68[0]?).bind Value.slc?) fun s69=>
 ob ((l68[1]?).bind (Value.int? .i64)) fun x70=>
 pb (0≤x3∧x3 < (3:Int))
 (ob ((([.i x19,.i x20,.s A21 n22 c23,.i x24,.i x25,.s A26 n27 c28,.i x29,.i x30,.s A31 n32 c33]:List Value)[0+(x3.toNat*3)+0]?).bind (Value.int? .i64)) fun x71=>
 ob ((([.i x19,.i x20,.s A21 n22 c23,.i x24,.i x25,.s A26 n27 c28,.i x29,.i x30,.s A31 n32 c33]:List Value)[0+(x3.toNat*3)+1]?).bind (Value.int? .i64)) fun x72=>
 ob ((([.i x19,.i x20,.s A21 n22 c23,.i x24,.i x25,.s A26 n27 c28,.i x29,.i x30,.s A31 n32 c33]:List Value)[0+(x3.toNat*3)+2]?).bind Value.slc?) fun s73=>
 ob (z5 P T k lo F.ql [.agg ⟨[.i x71,.i x72,.s s73.a s73.n s73.c]⟩,.agg ⟨[.i x38,.i x39,.i x40,.i x41]⟩,.s s69.a s69.n s69.c] r67.2) fun r74=>
 ob (r74.1.tup? 0) fun l75=>
 some (z9.Ce x1 x2 (i64.wrap (x3+1)) x4 x5 A6 n7 c8 x9 x10 A11 n12 c13 x14 x15 A16 n17 c18 x19 x20 A21 n22 c23 x24 x25 A26 n27 c28 x29 x30 A31 n32 c33 x34 x35 x36 x37 x38 x39 x40 x41 r74.2)) none) none)
 (some (.ret (.tuple ⟨[]⟩) M)):=by kernel_rfl
theorem z8t.entry:entry P T k lo F.z8t [.agg ⟨[.b b1,.i x2,.i x3,.i x4,.i x5,.i x6,.i x7]⟩] M=
 bb b1
 (ob (z5 P T k lo F.z9y [.agg ⟨[.i x2,.i x3,.i x4]⟩] M) fun r13=>
 ob ((some r13.1).bind Value.bool?) fun b14=>
 bb b14
 (ob (z5 P T k lo F.z9y [.agg ⟨[.i x5,.i x6,.i x7]⟩] r13.2) fun r15=>
 ob ((some r15.1).bind Value.bool?) fun b16=>
 bb b16
 (some (.ret (.i 0) r15.2))
 (ob (Program.keyLits P 9 77 [.b b1,.i x2,.i x3,.i x4,.i x5,.i x6,.i x7]) fun q17=>ob (Program.keyLits P 9 77 [.b false,.i 0,.i 0,.i 0,.i 0,.i 0,.i 0]) fun q18=>
 bb (qp q17 q18)
 (some (.ret (.i 0) r15.2))
 (some (.ret (.i 2) r15.2))))
 (ob (Program.keyLits P 9 77 [.b b1,.i x2,.i x3,.i x4,.i x5,.i x6,.i x7]) fun q19=>ob (Program.keyLits P 9 77 [.b false,.i 0,.i 0,.i 0,.i 0,.i 0,.i 0]) fun q20=>
 bb (qp q19 q20)
 (some (.ret (.i 0) r13.2))
 (some (.ret (.i 2) r13.2))))
 (ob (Program.keyLits P 9 77 [.b b1,.i x2,.i x3,.i x4,.i x5,.i x6,.i x7]) fun q21=>ob (Program.keyLits P 9 77 [.b false,.i 0,.i 0,.i 0,.i 0,.i 0,.i 0]) fun q22=>
 bb (qp q21 q22)
 (some (.ret (.i 0) M))
 (some (.ret (.i 2) M))):=by kernel_rfl
theorem y6.entry:entry P T k lo F.y6 [.agg ⟨[.i x1,.i x2,.s A3 n4 c5]⟩,.agg ⟨[.i x6,.i x7,.s A8 n9 c10]⟩,.i x11,.i x12,.agg ⟨[.b b13,.i x14,.i x15,.i x16,.i x17,.i x18,.i x19]⟩,.i x20] M=
 ob (z5 P T k lo F.z8x [.agg ⟨[.i x14,.i x15,.i x16]⟩] M) fun r26=>
 ob (r26.1.tup? 2) fun l27=>
 ob ((l27[0]?).bind (Value.agg? 7)) fun l28=>
 ob ((l28[0]?).bind (Value.int? .i64)) fun x29=>
 ob ((l28[1]?).bind (Value.int? .i64)) fun x30=>
 ob ((l28[2]?).bind (Value.int? .i64)) fun x31=>
 ob ((l28[3]?).bind (Value.int? .i64)) fun x32=>
 ob ((l28[4]?).bind (Value.int? .i64)) fun x33=>
 ob ((l28[5]?).bind (Value.int? .i64)) fun x34=>
 ob ((l28[6]?).bind (Value.int? .i64)) fun x35=>
 ob ((l27[1]?).bind (Value.int? .i64)) fun x36=>
 ob (z5 P T k lo F.z8x [.agg ⟨[.i x17,.i x18,.i x19]⟩] r26.2) fun r37=>
 ob (r37.1.tup? 2) fun l38=>
 ob ((l38[0]?).bind (Value.agg? 7)) fun l39=>
 ob ((l39[0]?).bind (Value.int? .i64)) fun x40=>
 ob ((l39[1]?).bind (Value.int? .i64)) fun x41=>
 ob ((l39[2]?).bind (Value.int? .i64)) fun x42=>
 ob ((l39[3]?).bind (Value.int? .i64)) fun x43=>
 ob ((l39[4]?).bind (Value.int? .i64)) fun x44=>
 ob ((l39[5]?).bind (Value.int? .i64)) fun x45=>
 ob ((l39[6]?).bind (Value.int? .i64)) fun x46=>
 ob ((l38[1]?).bind (Value.int? .i64)) fun x47=>
 pb (x20=0) none
 (some (y6.Ca x11 x12 (i64.wrap ((i64.wrap ((i64.wrap (Int.tdiv (i64.wrap (x12+(i64.wrap (Int.tdiv x20 8)))) x20))*x20)) - (i64.wrap (Int.tdiv x20 8)))) (i64.wrap ((i64.wrap ((i64.wrap ((i64.wrap (Int.tdiv (i64.wrap (x12+(i64.wrap (Int.tdiv x20 8)))) x20))*x20)) - (i64.wrap (Int.tdiv x20 8))))+x20)) 0 0 x1 x2 A3 n4 c5 x6 x7 A8 n9 c10 x29 x30 x31 x32 x33 x34 x35 x40 x41 x42 x43 x44 x45 x46 r37.2)):=by kernel_rfl
theorem y6.Pa:pz P T k lo F.y6 (y6.Ca x1 x2 x3 x4 x5 x6 x7 x8 A9 n10 c11 x12 x13 A14 n15 c16 x17 x18 x19 x20 x21 x22 x23 x24 x25 x26 x27 x28 x29 x30 M)=
 bb (decide (x6 < 7))
 (ob (z5 P T k lo F.za4 [.i (i64.wrap ((i64.wrap (x2+x6)) - 3)),.i 0,.i (i64.wrap (x8 - 1))] M) fun r48=>
 ob ((some r48.1).bind (Value.int? .i64)) fun x49=>
 ob (z5 P T k lo F.za4 [.i x49,.i (i64.wrap (x3 - 2)),.i (i64.wrap (x4+1))] r48.2) fun r50=>
 ob ((some r50.1).bind (Value.int? .i64)) fun x51=>
 bb (decide (x51 ≥ x3))
 (bb (decide (x51 < x4))
 (pb (0≤x6∧x6 < (7:Int))
 (ob ((([.i x17,.i x18,.i x19,.i x20,.i x21,.i x22,.i x23]:List Value)[0+x6.toNat+0]?).bind (Value.int? .i64)) fun x52=>
 ob (z5 P T k r50.2.length F.jy [.agg ⟨[.i x7,.i x8,.s A9 n10 c11]⟩,.i x1,.i x51,.agg ⟨[.i x24,.i x25,.i x26,.i x27,.i x28,.i x29,.i x30]⟩] r50.2) fun r53=>
 ob ((some r53.1).bind (Value.int? .i64)) fun x54=>
 some (y6.Cb x1 x2 x3 x4 (i64.wrap (x5+(i64.wrap (x52*x54)))) x6 x7 x8 A9 n10 c11 x12 x13 A14 n15 c16 x17 x18 x19 x20 x21 x22 x23 x24 x25 x26 x27 x28 x29 x30 r53.2)) none)
 (pb (0≤x6∧x6 < (7:Int))
 (ob ((([.i x17,.i x18,.i x19,.i x20,.i x21,.i x22,.i x23]:List Value)[0+x6.toNat+0]?).bind (Value.int? .i64)) fun x55=>
 ob (z5 P T k r50.2.length F.jy [.agg ⟨[.i x12,.i x13,.s A14 n15 c16]⟩,.i x1,.i x51,.agg ⟨[.i x24,.i x25,.i x26,.i x27,.i x28,.i x29,.i x30]⟩] r50.2) fun r56=>
 ob ((some r56.1).bind (Value.int? .i64)) fun x57=>
 some (y6.Cb x1 x2 x3 x4 (i64.wrap (x5+(i64.wrap (x55*x57)))) x6 x7 x8 A9 n10 c11 x12 x13 A14 n15 c16 x17 x18 x19 x20 x21 x22 x23 x24 x25 x26 x27 x28 x29 x30 r56.2)) none))
 (pb (0≤x6∧x6 < (7:Int))
 (ob ((([.i x17,.i x18,.i x19,.i x20,.i x21,.i x22,.i x23]:List Value)[0+x6.toNat+0]?).bind (Value.int? .i64)) fun x58=>
 ob (z5 P T k r50.2.length F.jy [.agg ⟨[.i x12,.i x13,.s A14 n15 c16]⟩,.i x1,.i x51,.agg ⟨[.i x24,.i x25,.i x26,.i x27,.i x28,.i x29,.i x30]⟩] r50.2) fun r59=>
 ob ((some r59.1).bind (Value.int? .i64)) fun x60=>
 some (y6.Cb x1 x2 x3 x4 (i64.wrap (x5+(i64.wrap (x58*x60)))) x6 x7 x8 A9 n10 c11 x12 x13 A14 n15 c16 x17 x18 x19 x20 x21 x22 x23 x24 x25 x26 x27 x28 x29 x30 r59.2)) none))
 (ob (z5 P T k lo F.z3r [.i x5,.i 11] M) fun r61=>
 ob ((some r61.1).bind (Value.int? .i64)) fun x62=>
 ob (z5 P T k lo F.za4 [.i x62,.i 0,.i 255] r61.2) fun r63=>
 ob ((some r63.1).bind (Value.int? .i64)) fun x64=>
 some (.ret (.int .u8 (u8.wrap x64)) r63.2)):=by kernel_rfl
theorem y6.Pb:pz P T k lo F.y6 (y6.Cb x1 x2 x3 x4 x5 x6 x7 x8 A9 n10 c11 x12 x13 A14 n15 c16 x17 x18 x19 x20 x21 x22 x23 x24 x25 x26 x27 x28 x29 x30 M)=
 some (y6.Ca x1 x2 x3 x4 x5 (i64.wrap (x6+1)) x7 x8 A9 n10 c11 x12 x13 A14 n15 c16 x17 x18 x19 x20 x21 x22 x23 x24 x25 x26 x27 x28 x29 x30 M):=by kernel_rfl
theorem jt.entry:entry P T k lo F.jt [.i x1,.i x2,.int .u8 x3] M=
 ob (z5 P T k lo F.zis [.i x1,.i x2] M) fun r9=>
 ob ((some r9.1).bind Value.bool?) fun b10=>
 bb (!b10)
 (some (.ret (.tuple ⟨[.agg ⟨[.i 0,.i 0,.s none 0 0,.i 0,.i 0,.s none 0 0,.i 0,.i 0,.s none 0 0]⟩,.i 2]⟩) r9.2))
 (some (jt.Ca x1 x2 x3 0 0 0 none 0 0 0 0 none 0 0 0 0 none 0 0 ([.i 0,.i 0,.s none 0 0,.i 0,.i 0,.s none 0 0,.i 0,.i 0,.s none 0 0]) r9.2)):=by kernel_rfl
theorem jt.Pa:pz P T k lo F.jt (jt.Ca x1 x2 x3 x4 x5 x6 A7 n8 c9 x10 x11 A12 n13 c14 x15 x16 A17 n18 c19 cs20 M)=
 bb (decide (x4 < 3))
 (ob (z5 P T k lo F.zo0 [.i x1,.i x2,.int .u8 x3] M) fun r21=>
 ob (r21.1.tup? 2) fun l22=>
 ob ((l22[0]?).bind (Value.agg? 3)) fun l23=>
 ob ((l23[0]?).bind (Value.int? .i64)) fun x24=>
 ob ((l23[1]?).bind (Value.int? .i64)) fun x25=>
 ob ((l23[2]?).bind Value.slc?) fun s26=>
 ob ((l22[1]?).bind (Value.int? .i64)) fun x27=>
 bb (x27 != 0)
 (some (.ret (.tuple ⟨[.agg ⟨[.i 0,.i 0,.s none 0 0,.i 0,.i 0,.s none 0 0,.i 0,.i 0,.s none 0 0]⟩,.i x27]⟩) r21.2))
 (pb (0≤x4∧x4 < (3:Int))
 (pb (0+(x4.toNat*3)+3≤cs20.length)
 (bb (x4 == 0)
 (some (jt.Cb (i64.wrap (Int.tdiv x1 2)) (i64.wrap (Int.tdiv x2 2)) x3 x4 x5 x6 A7 n8 c9 x10 x11 A12 n13 c14 x15 x16 A17 n18 c19 (setL cs20 (0+(x4.toNat*3)) [.i x24,.i x25,.s s26.a s26.n s26.c]) r21.2))
 (some (jt.Cb x1 x2 x3 x4 x5 x6 A7 n8 c9 x10 x11 A12 n13 c14 x15 x16 A17 n18 c19 (setL cs20 (0+(x4.toNat*3)) [.i x24,.i x25,.s s26.a s26.n s26.c]) r21.2))) none) none))
 (ob ((cs20[0]?).bind (Value.int? .i64)) fun x28=>
 ob ((cs20[1]?).bind (Value.int? .i64)) fun x29=>
 ob ((cs20[2]?).bind Value.slc?) fun s30=>
 ob ((cs20[3]?).bind (Value.int? .i64)) fun x31=>
 ob ((cs20[4]?).bind (Value.int? .i64)) fun x32=>
 ob ((cs20[5]?).bind Value.slc?) fun s33=>
 ob ((cs20[6]?).bind (Value.int? .i64)) fun x34=>
 ob ((cs20[7]?).bind (Value.int? .i64)) fun x35=>
 ob ((cs20[8]?).bind Value.slc?) fun s36=>
 some (.ret (.tuple ⟨[.agg ⟨[.i x28,.i x29,.s s30.a s30.n s30.c,.i x31,.i x32,.s s33.a s33.n s33.c,.i x34,.i x35,.s s36.a s36.n s36.c]⟩,.i 0]⟩) M)):=by kernel_rfl
theorem jt.Pb:pz P T k lo F.jt (jt.Cb x1 x2 x3 x4 x5 x6 A7 n8 c9 x10 x11 A12 n13 c14 x15 x16 A17 n18 c19 cs20 M)=
 some (jt.Ca x1 x2 x3 (i64.wrap (x4+1)) x5 x6 A7 n8 c9 x10 x11 A12 n13 c14 x15 x16 A17 n18 c19 cs20 M):=by kernel_rfl
theorem q9.entry:entry P T k lo F.q9 [.i x1,.i x2,.int .u8 x3] M=
 pb (0≤i64.wrap (x1*x2)∧room ((i64.wrap (x1*x2)).toNat) 1)
 (ob (Mem.fill (M ++ [⟨.op 0,[]⟩,⟨.op 0,[]⟩,⟨.op 0,[]⟩]:Mem) lo M.length 1 (y4 [.int .u8 0] ((i64.wrap (x1*x2)).toNat))) fun r9=>
 pb (0≤i64.wrap (x1*x2)∧room ((i64.wrap (x1*x2)).toNat) 8)
 (ob (Mem.fill r9.2 lo (M.length+1) 1 (y4 [.i 0] ((i64.wrap (x1*x2)).toNat))) fun r10=>
 pb (0≤i64.wrap (x1*x2)∧room ((i64.wrap (x1*x2)).toNat) 1)
 (ob (Mem.fill r10.2 lo (M.length+1+1) 1 (y4 [.b false] ((i64.wrap (x1*x2)).toNat))) fun r11=>
 some (q9.Ca x1 x2 x3 0 0 0 none 0 0 none 0 0 none 0 0 x1 x2 (some r9.1) ((i64.wrap (x1*x2)).toNat) ((i64.wrap (x1*x2)).toNat) (some r10.1) ((i64.wrap (x1*x2)).toNat) ((i64.wrap (x1*x2)).toNat) (some r11.1) ((i64.wrap (x1*x2)).toNat) ((i64.wrap (x1*x2)).toNat) r11.2)) none) none) none:=by kernel_rfl
theorem q9.Pa:pz P T k lo F.q9 (q9.Ca x1 x2 x3 x4 x5 x6 A7 n8 c9 A10 n11 c12 A13 n14 c15 x16 x17 A18 n19 c20 A21 n22 c23 A24 n25 c26 M)=
 bb (decide (x4 < i64.wrap (x1*x2)))
 (pb (0≤x4∧x4 < (n19:Int))
 (ob A18 fun a27=>
 ob (M.st lo (plus a27 x4.toNat) [.int .u8 x3]) fun M28=>
 pb (0≤x4∧x4 < (n22:Int))
 (ob A21 fun a29=>
 ob (M28.st lo (plus a29 x4.toNat) [.i x4]) fun M30=>
 some (q9.Ca x1 x2 x3 (i64.wrap (x4+1)) x5 x6 A7 n8 c9 A10 n11 c12 A13 n14 c15 x16 x17 A18 n19 c20 A21 n22 c23 A24 n25 c26 M30)) none) none)
 (some (.ret (.agg ⟨[.i x16,.i x17,.s A18 n19 c20,.s A21 n22 c23,.s A24 n25 c26]⟩) M)):=by kernel_rfl
theorem ziv.entry:entry P T k lo F.ziv [.i x1,.i x2] M=
 bb (decide (x1 ≥ 1))
 (bb (decide (x1≤512))
 (bb (decide (x2 ≥ 1))
 (some (.ret (.b (decide (x2≤512))) M))
 (some (.ret (.b false) M)))
 (some (.ret (.b false) M)))
 (some (.ret (.b false) M)):=by kernel_rfl
theorem ziu.entry:entry P T k lo F.ziu [.agg ⟨[.i x1,.i x2,.s A3 n4 c5]⟩,.agg ⟨[.i x6,.i x7,.s A8 n9 c10,.s A11 n12 c13,.s A14 n15 c16]⟩] M=
 ob (z5 P T k lo F.zir [.agg ⟨[.i x1,.i x2,.s A3 n4 c5]⟩] M) fun r22=>
 ob ((some r22.1).bind (Value.int? .i64)) fun x23=>
 bb (x23 != 0)
 (some (.ret (.b false) r22.2))
 (bb (Int.tmod x1 4 != 0)
 (some (.ret (.b false) r22.2))
 (bb (Int.tmod x2 4 != 0)
 (some (.ret (.b false) r22.2))
 (bb (x6 != i64.wrap (Int.tdiv x1 4))
 (some (.ret (.b false) r22.2))
 (bb (x7 != i64.wrap (Int.tdiv x2 4))
 (some (.ret (.b false) r22.2))
 (ob (((r22.2 ++ [⟨.fx,[.int .u8 4,.int .u8 8,.int .u8 16,.int .u8 32,.int .u8 64]⟩]:Mem) ++ [⟨.fx,[.s none 0 0]⟩]:Mem).st lo ⟨(r22.2 ++ [⟨.fx,[.int .u8 4,.int .u8 8,.int .u8 16,.int .u8 32,.int .u8 64]⟩]:Mem).length,0,none⟩ [.s (some ⟨r22.2.length,0,none⟩) 5 5]) fun M24=>
 bb ((n9:Int) == i64.wrap (x6*x7))
 (bb ((n12:Int) == i64.wrap (x6*x7))
 (bb ((n15:Int) == i64.wrap (x6*x7))
 (ob (z5 P T k lo F.z2q [.s A8 n9 c10,.func (.func F.zfb) ⟨[]⟩ ⟨[.pointer (some ⟨(r22.2 ++ [⟨.fx,[.int .u8 4,.int .u8 8,.int .u8 16,.int .u8 32,.int .u8 64]⟩]:Mem).length,0,none⟩)]⟩] M24) fun r25=>
 ob ((some r25.1).bind Value.bool?) fun b26=>
 some (.ret (.b (!b26)) r25.2))
 (some (.ret (.b false) M24)))
 (some (.ret (.b false) M24)))
 (some (.ret (.b false) M24))))))):=by kernel_rfl
theorem zdv.entry:entry P T k lo F.zdv [.i x1,.i x2,.i x3] M=
 bb (decide (x1 ≥ x2))
 (some (.ret (.b (decide (x1≤x3))) M))
 (some (.ret (.b false) M)):=by kernel_rfl
theorem qv.entry:entry P T k lo F.qv [.i x1,.i x2] M=
 bb (decide (x2 > 4))
 (some (qv.Ca x1 (zq (yz .i64 x1 2) (i64.wrap (9 - x2))) 0 0 0 M))
 (bb (decide (x2 > 0))
 (some (qv.Ca x1 (zq (yz .i64 x1 1) (i64.wrap (9 - x2))) 0 0 0 M))
 (some (qv.Ca x1 x1 0 0 0 M))):=by kernel_rfl
theorem qv.Pa:pz P T k lo F.qv (qv.Ca x1 x2 x3 x4 x5 M)=
 some (.ret (.agg ⟨[.i (yv x2 1),.i (i64.wrap ((i64.wrap (2*(i64.wrap (x1+2))))+(yv x2 1))),.i (yz .i64 x1 4)]⟩) M):=by kernel_rfl
theorem zas.entry:entry P T k lo F.zas [.i x1,.b b2] M=
 bb (decide (x1 < 8))
 (some (.ret (.i 4) M))
 (bb b2
 (some (.ret (.i 6) M))
 (bb (decide (x1 < 16))
 (some (.ret (.i 8) M))
 (some (.ret (.i 14) M)))):=by kernel_rfl
theorem z8s.entry:entry P T k lo F.z8s [.agg ⟨[.s A1 n2 c3,.i x4]⟩,.agg ⟨[.i x5,.i x6,.i x7]⟩] M=
 ob (z5 P T k lo F.qg [.agg ⟨[.s A1 n2 c3,.i x4]⟩,.agg ⟨[.i x5,.i x6,.i x7]⟩] M) fun r13=>
 ob ((some r13.1).bind Value.bool?) fun b14=>
 bb b14
 (ob (z5 P T k lo F.z1p [.s A1 n2 c3] r13.2) fun r15=>
 ob ((some r15.1).bind Value.slc?) fun s16=>
 some (.ret (.s s16.a s16.n s16.c) r15.2))
 (bb ((n2:Int) == 6)
 (ob (z5 P T k lo F.qk [.agg ⟨[.s A1 n2 c3,.i x4]⟩,.i 1,.i 2] r13.2) fun r17=>
 ob ((some r17.1).bind Value.bool?) fun b18=>
 bb b18
 (ob (z5 P T k lo F.zw [.agg ⟨[.s A1 n2 c3,.i x4]⟩,.i 2,.i 1,.i 3] r17.2) fun r19=>
 ob ((some r19.1).bind Value.slc?) fun s20=>
 some (.ret (.s s20.a s20.n s20.c) r19.2))
 (bb ((n2:Int) == 14)
 (ob (z5 P T k lo F.qk [.agg ⟨[.s A1 n2 c3,.i x4]⟩,.i 1,.i 6] r17.2) fun r21=>
 ob ((some r21.1).bind Value.bool?) fun b22=>
 bb b22
 (ob (z5 P T k lo F.zw [.agg ⟨[.s A1 n2 c3,.i x4]⟩,.i 6,.i 1,.i 4] r21.2) fun r23=>
 ob ((some r23.1).bind Value.slc?) fun s24=>
 some (.ret (.s s24.a s24.n s24.c) r23.2))
 (bb (decide ((n2:Int) ≥ 8))
 (ob (z5 P T k lo F.qk [.agg ⟨[.s A1 n2 c3,.i x4]⟩,.i 1,.i 3] r21.2) fun r25=>
 ob ((some r25.1).bind Value.bool?) fun b26=>
 bb b26
 (ob (z5 P T k lo F.zw [.agg ⟨[.s A1 n2 c3,.i x4]⟩,.i 3,.i 0,.i 3] r25.2) fun r27=>
 ob ((some r27.1).bind Value.slc?) fun s28=>
 some (.ret (.s s28.a s28.n s28.c) r27.2))
 (ob (z5 P T k lo F.yj [.agg ⟨[.s A1 n2 c3,.i x4]⟩,.agg ⟨[.i x5,.i x6,.i x7]⟩] r25.2) fun r29=>
 ob ((some r29.1).bind Value.slc?) fun s30=>
 some (.ret (.s s30.a s30.n s30.c) r29.2)))
 (ob (z5 P T k lo F.yj [.agg ⟨[.s A1 n2 c3,.i x4]⟩,.agg ⟨[.i x5,.i x6,.i x7]⟩] r21.2) fun r31=>
 ob ((some r31.1).bind Value.slc?) fun s32=>
 some (.ret (.s s32.a s32.n s32.c) r31.2))))
 (bb (decide ((n2:Int) ≥ 8))
 (ob (z5 P T k lo F.qk [.agg ⟨[.s A1 n2 c3,.i x4]⟩,.i 1,.i 3] r17.2) fun r33=>
 ob ((some r33.1).bind Value.bool?) fun b34=>
 bb b34
 (ob (z5 P T k lo F.zw [.agg ⟨[.s A1 n2 c3,.i x4]⟩,.i 3,.i 0,.i 3] r33.2) fun r35=>
 ob ((some r35.1).bind Value.slc?) fun s36=>
 some (.ret (.s s36.a s36.n s36.c) r35.2))
 (ob (z5 P T k lo F.yj [.agg ⟨[.s A1 n2 c3,.i x4]⟩,.agg ⟨[.i x5,.i x6,.i x7]⟩] r33.2) fun r37=>
 ob ((some r37.1).bind Value.slc?) fun s38=>
 some (.ret (.s s38.a s38.n s38.c) r37.2)))
 (ob (z5 P T k lo F.yj [.agg ⟨[.s A1 n2 c3,.i x4]⟩,.agg ⟨[.i x5,.i x6,.i x7]⟩] r17.2) fun r39=>
 ob ((some r39.1).bind Value.slc?) fun s40=>
 some (.ret (.s s40.a s40.n s40.c) r39.2)))))
 (bb ((n2:Int) == 14)
 (ob (z5 P T k lo F.qk [.agg ⟨[.s A1 n2 c3,.i x4]⟩,.i 1,.i 6] r13.2) fun r41=>
 ob ((some r41.1).bind Value.bool?) fun b42=>
 bb b42
 (ob (z5 P T k lo F.zw [.agg ⟨[.s A1 n2 c3,.i x4]⟩,.i 6,.i 1,.i 4] r41.2) fun r43=>
 ob ((some r43.1).bind Value.slc?) fun s44=>
 some (.ret (.s s44.a s44.n s44.c) r43.2))
 (bb (decide ((n2:Int) ≥ 8))
 (ob (z5 P T k lo F.qk [.agg ⟨[.s A1 n2 c3,.i x4]⟩,.i 1,.i 3] r41.2) fun r45=>
 ob ((some r45.1).bind Value.bool?) fun b46=>
 bb b46
 (ob (z5 P T k lo F.zw [.agg ⟨[.s A1 n2 c3,.i x4]⟩,.i 3,.i 0,.i 3] r45.2) fun r47=>
 ob ((some r47.1).bind Value.slc?) fun s48=>
 some (.ret (.s s48.a s48.n s48.c) r47.2))
 (ob (z5 P T k lo F.yj [.agg ⟨[.s A1 n2 c3,.i x4]⟩,.agg ⟨[.i x5,.i x6,.i x7]⟩] r45.2) fun r49=>
 ob ((some r49.1).bind Value.slc?) fun s50=>
 some (.ret (.s s50.a s50.n s50.c) r49.2)))
 (ob (z5 P T k lo F.yj [.agg ⟨[.s A1 n2 c3,.i x4]⟩,.agg ⟨[.i x5,.i x6,.i x7]⟩] r41.2) fun r51=>
 ob ((some r51.1).bind Value.slc?) fun s52=>
 some (.ret (.s s52.a s52.n s52.c) r51.2))))
 (bb (decide ((n2:Int) ≥ 8))
 (ob (z5 P T k lo F.qk [.agg ⟨[.s A1 n2 c3,.i x4]⟩,.i 1,.i 3] r13.2) fun r53=>
 ob ((some r53.1).bind Value.bool?) fun b54=>
 bb b54
 (ob (z5 P T k lo F.zw [.agg ⟨[.s A1 n2 c3,.i x4]⟩,.i 3,.i 0,.i 3] r53.2) fun r55=>
 ob ((some r55.1).bind Value.slc?) fun s56=>
 some (.ret (.s s56.a s56.n s56.c) r55.2))
 (ob (z5 P T k lo F.yj [.agg ⟨[.s A1 n2 c3,.i x4]⟩,.agg ⟨[.i x5,.i x6,.i x7]⟩] r53.2) fun r57=>
 ob ((some r57.1).bind Value.slc?) fun s58=>
 some (.ret (.s s58.a s58.n s58.c) r57.2)))
 (ob (z5 P T k lo F.yj [.agg ⟨[.s A1 n2 c3,.i x4]⟩,.agg ⟨[.i x5,.i x6,.i x7]⟩] r13.2) fun r59=>
 ob ((some r59.1).bind Value.slc?) fun s60=>
 some (.ret (.s s60.a s60.n s60.c) r59.2))))):=by kernel_rfl
theorem z1b.entry:entry P T k lo F.z1b [.agg ⟨[.i x1,.i x2,.s A3 n4 c5,.i x6,.i x7,.s A8 n9 c10,.i x11,.i x12,.s A13 n14 c15]⟩,.s A16 n17 c18,.s A19 n20 c21,.agg ⟨[.b b22,.i x23,.b b24,.b b25,.i x26,.i x27,.i x28,.i x29,.i x30,.i x31,.i x32,.i x33,.i x34,.i x35,.i x36,.i x37,.i x38,.b b39,.i x40,.i x41,.i x42,.i x43,.i x44,.b b45,.i x46,.i x47,.s A48 n49 c50,.b b51,.b b52,.b b53]⟩] M=
 ob (z5 P T k lo F.v9 [.agg ⟨[.i x1,.i x2,.s A3 n4 c5,.i x6,.i x7,.s A8 n9 c10,.i x11,.i x12,.s A13 n14 c15]⟩] (M ++ [⟨.fx,[.b b22,.i x23,.b b24,.b b25,.i x26,.i x27,.i x28,.i x29,.i x30,.i x31,.i x32,.i x33,.i x34,.i x35,.i x36,.i x37,.i x38,.b b39,.i x40,.i x41,.i x42,.i x43,.i x44,.b b45,.i x46,.i x47,.s A48 n49 c50,.b b51,.b b52,.b b53]⟩]:Mem)) fun r59=>
 ob ((some r59.1).bind (Value.int? .i64)) fun x60=>
 bb (x60 != 0)
 (some (.ret (.b false) r59.2))
 (bb (Int.tmod x1 8 != 0)
 (some (.ret (.b false) r59.2))
 (bb (Int.tmod x2 8 != 0)
 (some (.ret (.b false) r59.2))
 (bb ((n17:Int) != i64.wrap ((i64.wrap (Int.tdiv x1 8))*(i64.wrap (Int.tdiv x2 8))))
 (some (.ret (.b false) r59.2))
 (ob (z5 P T k lo F.zlg [.i x1] r59.2) fun r61=>
 ob ((some r61.1).bind (Value.int? .i64)) fun x62=>
 ob (z5 P T k lo F.zlg [.i x2] r61.2) fun r63=>
 ob ((some r63.1).bind (Value.int? .i64)) fun x64=>
 bb ((n20:Int) != i64.wrap (x62*x64))
 (some (.ret (.b false) r63.2))
 (ob ((r63.2.ld (plus ⟨M.length,0,none⟩ 23)).bind Value.bool?) fun b65=>
 bb (!b65)
 (some (.ret (.b true) r63.2))
 (ob ((r63.2.ld (plus ⟨M.length,0,none⟩ 24)).bind (Value.int? .i64)) fun x66=>
 ob (z5 P T k lo F.zb2 [.i x66,.i 3,.i 6] r63.2) fun r67=>
 ob ((some r67.1).bind Value.bool?) fun b68=>
 bb (!b68)
 (some (.ret (.b false) r67.2))
 (ob ((r67.2.ld (plus ⟨M.length,0,none⟩ 26)).bind Value.slc?) fun s69=>
 ob (z5 P T k lo F.zb2 [.i (s69.n:Int),.i 1,.i 8] r67.2) fun r70=>
 ob ((some r70.1).bind Value.bool?) fun b71=>
 bb (!b71)
 (some (.ret (.b false) r70.2))
 (ob ((r70.2.ld (plus ⟨M.length,0,none⟩ 26)).bind Value.slc?) fun s72=>
 some (z1b.Ca A19 n20 c21 ⟨M.length,0,none⟩ s72.a s72.n s72.c (s72.n:Int) 0 r70.2))))))))):=by kernel_rfl
theorem z1b.Pa:pz P T k lo F.z1b (z1b.Ca A1 n2 c3 a4 A5 n6 c7 x8 x9 M)=
 bb (decide (x9 < x8))
 (pb (0≤x9∧x9 < (n6:Int))
 (ob A5 fun a73=>
 ob ((M.ld (plus a73 (x9.toNat*4))).bind (Value.int? .i64)) fun x74=>
 ob ((M.ld (plus (plus a73 (x9.toNat*4)) 1)).bind (Value.int? .i64)) fun x75=>
 ob ((M.ld (plus (plus a73 (x9.toNat*4)) 2)).bind (Value.int? .i64)) fun x76=>
 ob ((M.ld (plus (plus a73 (x9.toNat*4)) 3)).bind (Value.int? .i64)) fun x77=>
 ob (z5 P T k lo F.zb2 [.i x74,.i 0,.i 15] M) fun r78=>
 ob ((some r78.1).bind Value.bool?) fun b79=>
 bb (!b79)
 (some (.ret (.b false) r78.2))
 (ob (z5 P T k lo F.zb2 [.i x76,.i 0,.i 15] r78.2) fun r80=>
 ob ((some r80.1).bind Value.bool?) fun b81=>
 bb (!b81)
 (some (.ret (.b false) r80.2))
 (ob (z5 P T k lo F.zb2 [.i x75,.i 0,.i 3] r80.2) fun r82=>
 ob ((some r82.1).bind Value.bool?) fun b83=>
 bb (!b83)
 (some (.ret (.b false) r82.2))
 (ob (z5 P T k lo F.zb2 [.i x77,.i 0,.i 3] r82.2) fun r84=>
 ob ((some r84.1).bind Value.bool?) fun b85=>
 bb (!b85)
 (some (.ret (.b false) r84.2))
 (some (z1b.Ca A1 n2 c3 a4 A5 n6 c7 x8 (i64.wrap (x9+1)) r84.2)))))) none)
 (ob (z5 P T k lo F.z49 [.s A1 n2 c3,.func (.func F.zle) ⟨[]⟩ ⟨[.pointer (some a4)]⟩] M) fun r86=>
 ob ((some r86.1).bind Value.bool?) fun b87=>
 some (.ret (.b (!b87)) r86.2)):=by kernel_rfl
theorem z0f.entry:entry P T k lo F.z0f [.agg ⟨[.i x1,.i x2,.s A3 n4 c5]⟩,.agg ⟨[.i x6,.i x7,.i x8,.i x9]⟩] M=
 ob (z5 P T k lo F.zhm [.agg ⟨[.i x1,.i x2,.s A3 n4 c5]⟩,.agg ⟨[.i x6,.i x7,.i x8,.i x9]⟩] M) fun r15=>
 ob ((some r15.1).bind Value.bool?) fun b16=>
 bb (!b16)
 (some (.ret (.tuple ⟨[.s none 0 0,.i 2]⟩) r15.2))
 (pb (0≤i64.wrap (x8*x9)∧room ((i64.wrap (x8*x9)).toNat) 1)
 (some (z0f.Ca (some ⟨r15.2.length,0,some 0⟩) 0 0 x9 0 x1 x2 A3 n4 c5 x6 x7 x8 x9 (r15.2 ++ [⟨.op 1,[]⟩]:Mem))) none):=by kernel_rfl
theorem z0f.Pa:pz P T k lo F.z0f (z0f.Ca A1 n2 c3 x4 x5 x6 x7 A8 n9 c10 x11 x12 x13 x14 M)=
 bb (decide (x5 < x4))
 (ob (z5 P T k lo F.znz [.agg ⟨[.i x6,.i x7,.s A8 n9 c10]⟩,.agg ⟨[.i x11,.i x12,.i x13,.i x14]⟩,.i x5] M) fun r17=>
 ob ((some r17.1).bind Value.slc?) fun s18=>
 ob (Mem.src r17.2 s18.a s18.n s18.n) fun l19=>
 ob (r17.2.app lo 1 1 ⟨A1,n2,c3⟩ l19 s18.n) fun r20=>
 some (z0f.Ca r20.1.a r20.1.n r20.1.c x4 (i64.wrap (x5+1)) x6 x7 A8 n9 c10 x11 x12 x13 x14 r20.2))
 (some (.ret (.tuple ⟨[.s A1 n2 c3,.i 0]⟩) M)):=by kernel_rfl
theorem ze.entry:entry P T k lo F.ze [.s A1 n2 c3] M=
 bb ((n2:Int) != 64)
 (some (.ret (.tuple ⟨[.i 0,.i 0,.i 2]⟩) M))
 (some (ze.Ca 0 A1 n2 c3 (n2:Int) 0 ([.i 0,.i 0,.i 0,.i 0,.i 0,.i 0,.i 0,.i 0,.i 0,.i 0,.i 0,.i 0,.i 0,.i 0,.i 0,.i 0,.i 0,.i 0,.i 0,.i 0,.i 0,.i 0,.i 0,.i 0,.i 0,.i 0,.i 0,.i 0,.i 0,.i 0,.i 0,.i 0,.i 0,.i 0,.i 0,.i 0,.i 0,.i 0,.i 0,.i 0,.i 0,.i 0,.i 0,.i 0,.i 0,.i 0,.i 0,.i 0,.i 0,.i 0,.i 0,.i 0,.i 0,.i 0,.i 0,.i 0,.i 0,.i 0,.i 0,.i 0,.i 0,.i 0,.i 0,.i 0,.i 0,.i 0,.i 0,.i 0,.i 0,.i 0,.i 0,.i 0,.i 0,.i 0,.i 0,.i 0,.i 0,.i 0,.i 0,.i 0,.i 0,.i 0,.i 0,.i 0,.i 0,.i 0,.i 0,.i 0,.i 0,.i 0,.i 0,.i 0,.i 0,.i 0,.i 0,.i 0,.i 0,.i 0,.i 0,.i 0,.i 0,.i 0,.i 0,.i 0,.i 0,.i 0,.i 0,.i 0,.i 0,.i 0,.i 0,.i 0,.i 0,.i 0,.i 0,.i 0,.i 0,.i 0,.i 0,.i 0,.i 0,.i 0,.i 0,.i 0,.i 0,.i 0,.i 0,.i 0]) ([.i 0,.i 0,.i 0,.i 0,.i 0,.i 0,.i 0,.i 0,.i 0,.i 0,.i 0,.i 0,.i 0,.i 0,.i 0,.i 0,.i 0,.i 0,.i 0,.i 0,.i 0,.i 0,.i 0,.i 0,.i 0,.i 0,.i 0,.i 0,.i 0,.i 0,.i 0,.i 0,.i 0,.i 0,.i 0,.i 0,.i 0,.i 0,.i 0,.i 0,.i 0,.i 0,.i 0,.i 0,.i 0,.i 0,.i 0,.i 0,.i 0,.i 0,.i 0,.i 0,.i 0,.i 0,.i 0,.i 0,.i 0,.i 0,.i 0,.i 0,.i 0,.i 0,.i 0,.i 0,.i 0,.i 0,.i 0,.i 0,.i 0,.i 0,.i 0,.i 0,.i 0,.i 0,.i 0,.i 0,.i 0,.i 0,.i 0,.i 0,.i 0,.i 0,.i 0,.i 0,.i 0,.i 0,.i 0,.i 0,.i 0,.i 0,.i 0,.i 0,.i 0,.i 0,.i 0,.i 0,.i 0,.i 0,.i 0,.i 0,.i 0,.i 0,.i 0,.i 0,.i 0,.i 0,.i 0,.i 0,.i 0,.i 0,.i 0,.i 0,.i 0,.i 0,.i 0,.i 0,.i 0,.i 0,.i 0,.i 0,.i 0,.i 0,.i 0,.i 0,.i 0,.i 0,.i 0,.i 0]) M)):=by kernel_rfl
theorem ze.Pa:pz P T k lo F.ze (ze.Ca x1 A2 n3 c4 x5 x6 cs7 cs8 M)=
 bb (decide (x6 < x5))
 (pb (0≤x6∧x6 < (n3:Int))
 (ob A2 fun a9=>
 ob ((M.ld (plus a9 x6.toNat)).bind (Value.int? .u8)) fun x10=>
 ob (z5 P T k lo F.zli [.i (i64.wrap (Int.tdiv x6 8)),.i (Int.tmod x6 8)] M) fun r11=>
 ob ((some r11.1).bind (Value.agg? 8)) fun l12=>
 ob ((l12[0]?).bind (Value.int? .i64)) fun x13=>
 ob ((l12[1]?).bind (Value.int? .i64)) fun x14=>
 ob ((l12[2]?).bind (Value.int? .i64)) fun x15=>
 ob ((l12[3]?).bind (Value.int? .i64)) fun x16=>
 ob ((l12[4]?).bind (Value.int? .i64)) fun x17=>
 ob ((l12[5]?).bind (Value.int? .i64)) fun x18=>
 ob ((l12[6]?).bind (Value.int? .i64)) fun x19=>
 ob ((l12[7]?).bind (Value.int? .i64)) fun x20=>
 some (ze.Cd x1 x10 A2 n3 c4 x5 x6 x13 x14 x15 x16 x17 x18 x19 x20 0 cs7 cs8 r11.2)) none)
 (some (ze.Cb x1 0 cs7 cs8 ([.i 0,.i 0,.i 0,.i 0,.i 0,.i 0,.i 0,.i 0]) M)):=by kernel_rfl
theorem ze.Pb:pz P T k lo F.ze (ze.Cb x1 x2 cs3 cs4 cs5 M)=
 bb (decide (x2 < 8))
 (pb (0≤x2∧x2 < (8:Int))
 (ob ((cs4[0+(x2.toNat*16)+0]?).bind (Value.int? .i64)) fun x21=>
 ob ((cs4[0+(x2.toNat*16)+1]?).bind (Value.int? .i64)) fun x22=>
 ob ((cs4[0+(x2.toNat*16)+2]?).bind (Value.int? .i64)) fun x23=>
 ob ((cs4[0+(x2.toNat*16)+3]?).bind (Value.int? .i64)) fun x24=>
 ob ((cs4[0+(x2.toNat*16)+4]?).bind (Value.int? .i64)) fun x25=>
 ob ((cs4[0+(x2.toNat*16)+5]?).bind (Value.int? .i64)) fun x26=>
 ob ((cs4[0+(x2.toNat*16)+6]?).bind (Value.int? .i64)) fun x27=>
 ob ((cs4[0+(x2.toNat*16)+7]?).bind (Value.int? .i64)) fun x28=>
 ob ((cs4[0+(x2.toNat*16)+8]?).bind (Value.int? .i64)) fun x29=>
 ob ((cs4[0+(x2.toNat*16)+9]?).bind (Value.int? .i64)) fun x30=>
 ob ((cs4[0+(x2.toNat*16)+10]?).bind (Value.int? .i64)) fun x31=>
 ob ((cs4[0+(x2.toNat*16)+11]?).bind (Value.int? .i64)) fun x32=>
 ob ((cs4[0+(x2.toNat*16)+12]?).bind (Value.int? .i64)) fun x33=>
 ob ((cs4[0+(x2.toNat*16)+13]?).bind (Value.int? .i64)) fun x34=>
 ob ((cs4[0+(x2.toNat*16)+14]?).bind (Value.int? .i64)) fun x35=>
 ob ((cs4[0+(x2.toNat*16)+15]?).bind (Value.int? .i64)) fun x36=>
 some (ze.Ce x1 x2 x2 x21 x22 x23 x24 x25 x26 x27 x28 x29 x30 x31 x32 x33 x34 x35 x36 0 cs3 cs4 cs5 M)) none)
 (pb (0≤x1∧x1 < (8:Int))
 (ob ((cs5[0+x1.toNat+0]?).bind (Value.int? .i64)) fun x37=>
 pb (0≤Int.tmod (i64.wrap (x1+4)) 8∧Int.tmod (i64.wrap (x1+4)) 8 < (8:Int))
 (ob ((cs5[0+((Int.tmod (i64.wrap (x1+4)) 8).toNat)+0]?).bind (Value.int? .i64)) fun x38=>
 some (.ret (.tuple ⟨[.i x1,.i (yz .i64 (i64.wrap (x37 - x38)) 10),.i 0]⟩) M)) none) none):=by kernel_rfl
theorem ze.Pc:pz P T k lo F.ze (ze.Cc x1 x2 cs3 cs4 cs5 M)=
 some (ze.Cb x1 (i64.wrap (x2+1)) cs3 cs4 cs5 M):=by kernel_rfl
theorem ze.Pd:pz P T k lo F.ze (ze.Cd x1 x2 A3 n4 c5 x6 x7 x8 x9 x10 x11 x12 x13 x14 x15 x16 cs17 cs18 M)=
 bb (decide (x16 < 8))
 (pb (0≤x16∧x16 < (8:Int))
 (ob ((([.i x8,.i x9,.i x10,.i x11,.i x12,.i x13,.i x14,.i x15]:List Value)[x16.toNat+0]?).bind (Value.int? .i64)) fun x39=>
 pb (0≤x16∧x16 < (8:Int))
 (pb (0≤x39∧x39 < (16:Int))
 (ob ((cs17[0+(x16.toNat*16)+x39.toNat+0]?).bind (Value.int? .i64)) fun x40=>
 pb (0≤x16∧x16 < (8:Int))
 (pb (0≤x39∧x39 < (16:Int))
 (pb (0+(x16.toNat*16)+x39.toNat+1≤cs17.length)
 (pb (0≤x16∧x16 < (8:Int))
 (pb (0≤x39∧x39 < (16:Int))
 (ob ((cs18[0+(x16.toNat*16)+x39.toNat+0]?).bind (Value.int? .i64)) fun x41=>
 pb (0≤x16∧x16 < (8:Int))
 (pb (0≤x39∧x39 < (16:Int))
 (pb (0+(x16.toNat*16)+x39.toNat+1≤cs18.length)
 (some (ze.Cd x1 x2 A3 n4 c5 x6 x7 x8 x9 x10 x11 x12 x13 x14 x15 (i64.wrap (x16+1)) (setL cs17 (0+(x16.toNat*16)+x39.toNat) [.i (i64.wrap (x40+(i64.wrap ((i64.wrap x2) - 128))))]) (setL cs18 (0+(x16.toNat*16)+x39.toNat) [.i (i64.wrap (x41+1))]) M)) none) none) none) none) none) none) none) none) none) none) none)
 (some (ze.Ca x1 A3 n4 c5 x6 (i64.wrap (x7+1)) cs17 cs18 M)):=by kernel_rfl
theorem ze.Pe:pz P T k lo F.ze (ze.Ce x1 x2 x3 x4 x5 x6 x7 x8 x9 x10 x11 x12 x13 x14 x15 x16 x17 x18 x19 x20 cs21 cs22 cs23 M)=
 bb (decide (x20 < 16))
 (pb (0≤x20∧x20 < (16:Int))
 (ob ((([.i x4,.i x5,.i x6,.i x7,.i x8,.i x9,.i x10,.i x11,.i x12,.i x13,.i x14,.i x15,.i x16,.i x17,.i x18,.i x19]:List Value)[x20.toNat+0]?).bind (Value.int? .i64)) fun x42=>
 bb (x42 == 0)
 (some (ze.Cf x1 x2 x3 x4 x5 x6 x7 x8 x9 x10 x11 x12 x13 x14 x15 x16 x17 x18 x19 x20 cs21 cs22 cs23 M))
 (pb (0≤x2∧x2 < (8:Int))
 (ob ((cs23[0+x2.toNat+0]?).bind (Value.int? .i64)) fun x43=>
 pb (0≤x2∧x2 < (8:Int))
 (pb (0≤x20∧x20 < (16:Int))
 (ob ((cs21[0+(x2.toNat*16)+x20.toNat+0]?).bind (Value.int? .i64)) fun x44=>
 pb (0≤x2∧x2 < (8:Int))
 (pb (0≤x20∧x20 < (16:Int))
 (ob ((cs21[0+(x2.toNat*16)+x20.toNat+0]?).bind (Value.int? .i64)) fun x45=>
 pb (x42=0) none
 (pb (0≤x2∧x2 < (8:Int))
 (pb (0+x2.toNat+1≤cs23.length)
 (some (ze.Cf x1 x2 x3 x4 x5 x6 x7 x8 x9 x10 x11 x12 x13 x14 x15 x16 x17 x18 x19 x20 cs21 cs22 (setL cs23 (0+x2.toNat) [.i (i64.wrap (x43+(i64.wrap ((i64.wrap (x44*x45))*(i64.wrap (Int.tdiv 840 x42))))))]) M)) none) none)) none) none) none) none) none)) none)
 (pb (0≤x2∧x2 < (8:Int))
 (ob ((cs23[0+x2.toNat+0]?).bind (Value.int? .i64)) fun x46=>
 pb (0≤x1∧x1 < (8:Int))
 (ob ((cs23[0+x1.toNat+0]?).bind (Value.int? .i64)) fun x47=>
 bb (decide (x46 > x47))
 (some (ze.Cc x2 x3 cs21 cs22 cs23 M))
 (some (ze.Cc x1 x3 cs21 cs22 cs23 M))) none) none):=by kernel_rfl
theorem ze.Pf:pz P T k lo F.ze (ze.Cf x1 x2 x3 x4 x5 x6 x7 x8 x9 x10 x11 x12 x13 x14 x15 x16 x17 x18 x19 x20 cs21 cs22 cs23 M)=
 some (ze.Ce x1 x2 x3 x4 x5 x6 x7 x8 x9 x10 x11 x12 x13 x14 x15 x16 x17 x18 x19 (i64.wrap (x20+1)) cs21 cs22 cs23 M):=by kernel_rfl
theorem zhk.entry:entry P T k lo F.zhk [.i x1,.i x2] M=
 bb (x2 == 0)
 (some (.ret (.i 0) M))
 (bb (yz .i64 x2 6 == 0)
 (some (.ret (.i (yz .i64 (i64.wrap ((i64.wrap (4*x1))+8)) 4)) M))
 (ob (z5 P T k lo F.zf8 [.int .u64 (IntKind.u64.wrap (yz .i64 x2 6))] M) fun r8=>
 ob ((some r8.1).bind (Value.int? .i64)) fun x9=>
 some (.ret (.i (yz .i64 (i64.wrap ((i64.wrap (x1*(i64.wrap (4+(zq (i64.wrap (x9 - 1)) 12)))))+8)) 4)) r8.2))):=by kernel_rfl
theorem qh.entry:entry P T k lo F.qh [.agg ⟨[.i x1,.i x2,.s A3 n4 c5]⟩,.agg ⟨[.i x6,.i x7,.i x8,.i x9]⟩,.i x10,.i x11,.i x12,.i x13] M=
 ob (z5 P T k lo F.zir [.agg ⟨[.i x1,.i x2,.s A3 n4 c5]⟩] M) fun r19=>
 ob ((some r19.1).bind (Value.int? .i64)) fun x20=>
 bb (x20 == 0)
 (ob (z5 P T k lo F.zb2 [.i x8,.i 1,.i 64] r19.2) fun r21=>
 ob ((some r21.1).bind Value.bool?) fun b22=>
 bb b22
 (ob (z5 P T k lo F.zb2 [.i x9,.i 1,.i 64] r21.2) fun r23=>
 ob ((some r23.1).bind Value.bool?) fun b24=>
 bb b24
 (ob (z5 P T k lo F.zb2 [.i x6,.i 0,.i (i64.wrap (x1 - x8))] r23.2) fun r25=>
 ob ((some r25.1).bind Value.bool?) fun b26=>
 bb b26
 (ob (z5 P T k lo F.zb2 [.i x7,.i 0,.i (i64.wrap (x2 - x9))] r25.2) fun r27=>
 ob ((some r27.1).bind Value.bool?) fun b28=>
 bb (!b28)
 (some (.ret (.tuple ⟨[.s none 0 0,.i 2]⟩) r27.2))
 (ob (z5 P T k lo F.zb2 [.i x10,.i 0,.i 7] r27.2) fun r29=>
 ob ((some r29.1).bind Value.bool?) fun b30=>
 bb (!b30)
 (some (.ret (.tuple ⟨[.s none 0 0,.i 2]⟩) r29.2))
 (ob (z5 P T k lo F.zb2 [.i x11,.i 0,.i 15] r29.2) fun r31=>
 ob ((some r31.1).bind Value.bool?) fun b32=>
 bb (!b32)
 (some (.ret (.tuple ⟨[.s none 0 0,.i 2]⟩) r31.2))
 (ob (z5 P T k lo F.zb2 [.i x12,.i 0,.i 4] r31.2) fun r33=>
 ob ((some r33.1).bind Value.bool?) fun b34=>
 bb (!b34)
 (some (.ret (.tuple ⟨[.s none 0 0,.i 2]⟩) r33.2))
 (ob (z5 P T k lo F.zb2 [.i x13,.i 0,.i 6] r33.2) fun r35=>
 ob ((some r35.1).bind Value.bool?) fun b36=>
 bb (!b36)
 (some (.ret (.tuple ⟨[.s none 0 0,.i 2]⟩) r35.2))
 (ob (z5 P T k lo F.qr [.i x10,.i x11,.i x12] r35.2) fun r37=>
 ob ((some r37.1).bind Value.slc?) fun s38=>
 pb (0≤i64.wrap (x8*x9)∧room ((i64.wrap (x8*x9)).toNat) 1)
 (some (qh.Ca x13 s38.a s38.n s38.c (some ⟨r37.2.length,0,some 0⟩) 0 0 x7 x1 x2 A3 n4 c5 x6 x7 x8 x9 (r37.2 ++ [⟨.op 1,[]⟩]:Mem))) none))))))
 (some (.ret (.tuple ⟨[.s none 0 0,.i 2]⟩) r25.2)))
 (some (.ret (.tuple ⟨[.s none 0 0,.i 2]⟩) r23.2)))
 (some (.ret (.tuple ⟨[.s none 0 0,.i 2]⟩) r21.2)))
 (some (.ret (.tuple ⟨[.s none 0 0,.i 2]⟩) r19.2)):=by kernel_rfl
theorem qh.Pa:pz P T k lo F.qh (qh.Ca x1 A2 n3 c4 A5 n6 c7 x8 x9 x10 A11 n12 c13 x14 x15 x16 x17 M)=
 bb (decide (x8 < i64.wrap (x15+x17)))
 (some (qh.Cb x1 A2 n3 c4 A5 n6 c7 x8 x14 x9 x10 A11 n12 c13 x14 x15 x16 x17 M))
 (some (.ret (.tuple ⟨[.s A5 n6 c7,.i 0]⟩) M)):=by kernel_rfl
theorem qh.Pb:pz P T k lo F.qh (qh.Cb x1 A2 n3 c4 A5 n6 c7 x8 x9 x10 x11 A12 n13 c14 x15 x16 x17 x18 M)=
 bb (decide (x9 < i64.wrap (x15+x17)))
 (ob (z5 P T k lo F.y5 [.agg ⟨[.i x10,.i x11,.s A12 n13 c14]⟩,.i x9,.i x8,.s A2 n3 c4,.i x1] M) fun r39=>
 ob ((some r39.1).bind (Value.int? .u8)) fun x40=>
 ob (r39.2.app lo 1 1 ⟨A5,n6,c7⟩ ([.int .u8 x40]) 1) fun r41=>
 some (qh.Cb x1 A2 n3 c4 r41.1.a r41.1.n r41.1.c x8 (i64.wrap (x9+1)) x10 x11 A12 n13 c14 x15 x16 x17 x18 r41.2))
 (some (qh.Ca x1 A2 n3 c4 A5 n6 c7 (i64.wrap (x8+1)) x10 x11 A12 n13 c14 x15 x16 x17 x18 M)):=by kernel_rfl
theorem ziq.entry:entry P T k lo F.ziq [.i x1] M=
 bb (x1 == 3)
 (some (.ret (.i 4) M))
 (some (.ret (.i x1) M)):=by kernel_rfl
theorem z1m.entry:entry P T k lo F.z1m [.s A1 n2 c3,v4] M=
 ob (z5 P T k lo F.ya [.s A1 n2 c3,v4] M) fun r10=>
 ob ((some r10.1).bind (Value.int? .i64)) fun x11=>
 some (.ret (.b (decide (x11 ≥ 0))) r10.2):=by kernel_rfl
theorem zdw.entry:entry P T k lo F.zdw [.agg ⟨[.b b1,.i x2,.i x3,.i x4,.i x5,.i x6,.i x7]⟩] M=
 ob (z5 P T k lo F.zhl [.agg ⟨[.b b1,.i x2,.i x3,.i x4,.i x5,.i x6,.i x7]⟩] M) fun r13=>
 ob ((some r13.1).bind (Value.int? .i64)) fun x14=>
 some (.ret (.b (x14 != 0)) r13.2):=by kernel_rfl
theorem zhl.entry:entry P T k lo F.zhl [.agg ⟨[.b b1,.i x2,.i x3,.i x4,.i x5,.i x6,.i x7]⟩] M=
 bb b1
 (ob (z5 P T k lo F.zds [.agg ⟨[.i x2,.i x3,.i x4]⟩] M) fun r13=>
 ob ((some r13.1).bind Value.bool?) fun b14=>
 bb b14
 (ob (z5 P T k lo F.zds [.agg ⟨[.i x5,.i x6,.i x7]⟩] r13.2) fun r15=>
 ob ((some r15.1).bind Value.bool?) fun b16=>
 bb b16
 (some (.ret (.i 0) r15.2))
 (ob (Program.keyLits P 9 77 [.b b1,.i x2,.i x3,.i x4,.i x5,.i x6,.i x7]) fun q17=>ob (Program.keyLits P 9 77 [.b false,.i 0,.i 0,.i 0,.i 0,.i 0,.i 0]) fun q18=>
 bb (qp q17 q18)
 (some (.ret (.i 0) r15.2))
 (some (.ret (.i 2) r15.2))))
 (ob (Program.keyLits P 9 77 [.b b1,.i x2,.i x3,.i x4,.i x5,.i x6,.i x7]) fun q19=>ob (Program.keyLits P 9 77 [.b false,.i 0,.i 0,.i 0,.i 0,.i 0,.i 0]) fun q20=>
 bb (qp q19 q20)
 (some (.ret (.i 0) r13.2))
 (some (.ret (.i 2) r13.2))))
 (ob (Program.keyLits P 9 77 [.b b1,.i x2,.i x3,.i x4,.i x5,.i x6,.i x7]) fun q21=>ob (Program.keyLits P 9 77 [.b false,.i 0,.i 0,.i 0,.i 0,.i 0,.i 0]) fun q22=>
 bb (qp q21 q22)
 (some (.ret (.i 0) M))
 (some (.ret (.i 2) M))):=by kernel_rfl
theorem zcv.entry:entry P T k lo F.zcv [.i x1,.i x2] M=
 pb (x2=0) none
 (some (.ret (.agg ⟨[.i (i64.wrap ((i64.wrap ((i64.wrap (Int.tdiv (i64.wrap (x1+(i64.wrap (Int.tdiv x2 8)))) x2))*x2)) - (i64.wrap (Int.tdiv x2 8)))),.i (i64.wrap ((i64.wrap ((i64.wrap ((i64.wrap (Int.tdiv (i64.wrap (x1+(i64.wrap (Int.tdiv x2 8)))) x2))*x2)) - (i64.wrap (Int.tdiv x2 8))))+x2))]⟩) M)):=by kernel_rfl
theorem um.entry:entry P T k lo F.um [.agg ⟨[.i x1,.i x2,.i x3]⟩] M=
 ob (z5 P T k lo F.zds [.agg ⟨[.i x1,.i x2,.i x3]⟩] M) fun r9=>
 ob ((some r9.1).bind Value.bool?) fun b10=>
 bb (!b10)
 (some (.ret (.tuple ⟨[.agg ⟨[.i 0,.i 0,.i 0,.i 0,.i 0,.i 0,.i 0]⟩,.i 2]⟩) r9.2))
 (some (um.Ca x1 x2 x3 0 0 0 0 0 0 0 0 x1 x2 x3 128 x3 x2 x1 r9.2)):=by kernel_rfl
theorem um.Pa:pz P T k lo F.um (um.Ca x1 x2 x3 x4 x5 x6 x7 x8 x9 x10 x11 x12 x13 x14 x15 x16 x17 x18 M)=
 bb (decide (x4 < 3))
 (pb (0≤x4∧x4 < (3:Int))
 (ob ((([.i x1,.i x2,.i x3]:List Value)[x4.toNat+0]?).bind (Value.int? .i64)) fun x19=>
 some (um.Ca x1 x2 x3 (i64.wrap (x4+1)) x5 x6 x7 x8 x9 x10 x11 x12 x13 x14 (i64.wrap (x15 - (i64.wrap (2*x19)))) x16 x17 x18 M)) none)
 (some (.ret (.tuple ⟨[.agg ⟨[.i x12,.i x13,.i x14,.i x15,.i x16,.i x17,.i x18]⟩,.i 0]⟩) M)):=by kernel_rfl
theorem zit.entry:entry P T k lo F.zit [.i x1,.i x2,.i x3] M=
 some (.ret (.i (zq (yv x1 x2) x3)) M):=by kernel_rfl
theorem zfa.entry:entry P T k lo F.zfa [.i x1,.i x2,.i x3] M=
 bb (decide (x1 ≥ x2))
 (some (.ret (.b (decide (x1≤x3))) M))
 (some (.ret (.b false) M)):=by kernel_rfl
theorem jb.entry:entry P T k lo F.jb [.agg ⟨[.i x1,.i x2,.s A3 n4 c5]⟩,.i x6,.agg ⟨[.i x7,.i x8,.i x9,.i x10,.i x11,.i x12,.i x13]⟩,.i x14,.i x15] M=
 pb (0≤i64.wrap (x15 - x14)∧room ((i64.wrap (x15 - x14)).toNat) 8)
 (pb (0≤i64.wrap (x6*x1)∧i64.wrap (x6*x1)≤i64.wrap ((i64.wrap (x6+1))*x1)∧i64.wrap ((i64.wrap (x6+1))*x1)≤(c5:Int))
 (some (jb.Ca x15 (some ⟨M.length,0,some 0⟩) 0 0 (slAddr 1 A3 ((i64.wrap (x6*x1)).toNat) c5) (((i64.wrap ((i64.wrap (x6+1))*x1)).toNat) - ((i64.wrap (x6*x1)).toNat)) (c5 - ((i64.wrap (x6*x1)).toNat)) x14 x1 x2 A3 n4 c5 x7 x8 x9 x10 x11 x12 x13 (M ++ [⟨.op 1,[]⟩]:Mem))) none) none:=by kernel_rfl
theorem jb.Pa:pz P T k lo F.jb (jb.Ca x1 A2 n3 c4 A5 n6 c7 x8 x9 x10 A11 n12 c13 x14 x15 x16 x17 x18 x19 x20 M)=
 bb (decide (x8 < x1))
 (some (jb.Cb x1 A2 n3 c4 A5 n6 c7 x8 0 x14 x15 x16 x17 x18 x19 x20 0 x9 x10 A11 n12 c13 x14 x15 x16 x17 x18 x19 x20 M))
 (some (.ret (.s A2 n3 c4) M)):=by kernel_rfl
theorem jb.Pb:pz P T k lo F.jb (jb.Cb x1 A2 n3 c4 A5 n6 c7 x8 x9 x10 x11 x12 x13 x14 x15 x16 x17 x18 x19 A20 n21 c22 x23 x24 x25 x26 x27 x28 x29 M)=
 bb (decide (x17 < 7))
 (pb (0≤x17∧x17 < (7:Int))
 (ob ((([.i x10,.i x11,.i x12,.i x13,.i x14,.i x15,.i x16]:List Value)[x17.toNat+0]?).bind (Value.int? .i64)) fun x30=>
 ob (z5 P T k lo F.zit [.i (i64.wrap ((i64.wrap (x8+x17)) - 3)),.i 0,.i (i64.wrap (x18 - 1))] M) fun r31=>
 ob ((some r31.1).bind (Value.int? .i64)) fun x32=>
 pb (0≤x32∧x32 < (n6:Int))
 (ob A5 fun a33=>
 ob ((r31.2.ld (plus a33 x32.toNat)).bind (Value.int? .u8)) fun x34=>
 some (jb.Cb x1 A2 n3 c4 A5 n6 c7 x8 (i64.wrap (x9+(i64.wrap (x30*(i64.wrap x34))))) x10 x11 x12 x13 x14 x15 x16 (i64.wrap (x17+1)) x18 x19 A20 n21 c22 x23 x24 x25 x26 x27 x28 x29 r31.2)) none) none)
 (ob (z5 P T k lo F.za0 [.i x9,.i 3] M) fun r35=>
 ob ((some r35.1).bind (Value.int? .i64)) fun x36=>
 ob (z5 P T k lo F.zit [.i x36,.i (-4096),.i 8191] r35.2) fun r37=>
 ob ((some r37.1).bind (Value.int? .i64)) fun x38=>
 ob (r37.2.app lo 1 8 ⟨A2,n3,c4⟩ ([.i x38]) 1) fun r39=>
 some (jb.Ca x1 r39.1.a r39.1.n r39.1.c A5 n6 c7 (i64.wrap (x8+1)) x18 x19 A20 n21 c22 x23 x24 x25 x26 x27 x28 x29 r39.2)):=by kernel_rfl
theorem za0.entry:entry P T k lo F.za0 [.i x1,.i x2] M=
 pb (i64.wrap (x2 - 1) < 0) none
 (pb (x2 < 0) none
 (some (.ret (.i (yz .i64 (i64.wrap (x1+(z84 .i64 (1:Int) ((i64.wrap (x2 - 1)).toNat)))) x2.toNat)) M))):=by kernel_rfl
end Go.Zt

