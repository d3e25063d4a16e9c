/- What the law ChainRuns needs of the text Eq4. -/
import Derived.Test.YtbbfdebfhgdciaaGreatPEq0
import Derived.KernelRfl
set_option linter.unusedVariables false
set_option linter.unusedSimpArgs false
set_option maxRecDepth 100000
set_option maxHeartbeats 4000000
namespace Go.Zt
open IntKind (i64 u8)
variable (k lo:Nat)(A1:Option Addr)(a1:Addr)(x1:Int)(a2:Addr)(b2:Bool)(n2:Nat)(x2:Int)(A3:Option Addr)(a3:Addr)(c3:Nat)(x3:Int)(A4:Option Addr)(a4:Addr)(n4:Nat)(v4:Value)(x4:Int)(A5:Option Addr)(c5 n5:Nat)(x5:Int)(A6:Option Addr)(a6:Addr)(b6:Bool)(c6 n6:Nat)(x6:Int)(A7:Option Addr)(c7 n7:Nat)(x7:Int)(A8:Option Addr)(c8 n8:Nat)(x8:Int)(c9 n9:Nat)(x9:Int)(A10:Option Addr)(c10:Nat)(x10:Int)(A11:Option Addr)(n11:Nat)(x11:Int)(A12:Option Addr)(c12 n12:Nat)(x12:Int)(c13 n13:Nat)(x13:Int)(A14:Option Addr)(c14:Nat)(x14:Int)(A15:Option Addr)(n15:Nat)(x15:Int)(c16 n16:Nat)(x16:Int)(c17:Nat)(x17:Int)(A18:Option Addr)(x18:Int)(n19:Nat)(x19:Int)(c20:Nat)(x20 x21 x22 x23 x24 x25 x26 x27 x28 x29 x30 x31 x32 x33 x34 x35 x36 x37 x38 x39 x40 x41:Int)(M:Mem)
theorem qm.entry:entry P T k lo F.qm [.agg ⟨[.i x1,.i x2,.s A3 n4 c5]⟩,.agg ⟨[.i x6,.i x7,.s A8 n9 c10,.s A11 n12 c13,.s A14 n15 c16]⟩] M=
 ob (z5 P T k lo F.z8w [.agg ⟨[.i x1,.i x2,.s A3 n4 c5]⟩] M) fun r22=>
 ob ((some r22.1).bind (Value.int? .i64)) fun x23=>
 bb (x23 != 0)
 (some (.ret (.b false) r22.2))
 (bb (Int.tmod x1 4 != 0)
 (some (.ret (.b false) r22.2))
 (bb (Int.tmod x2 4 != 0)
 (some (.ret (.b false) r22.2))
 (bb (x6 != i64.wrap (Int.tdiv x1 4))
 (some (.ret (.b false) r22.2))
 (bb (x7 != i64.wrap (Int.tdiv x2 4))
 (some (.ret (.b false) r22.2))
 (bb ((n9:Int) != i64.wrap (x6*x7))
 (some (.ret (.b false) r22.2))
 (bb ((n12:Int) != i64.wrap (x6*x7))
 (some (.ret (.b false) r22.2))
 (bb ((n15:Int) != i64.wrap (x6*x7))
 (some (.ret (.b false) r22.2))
 (some (qm.Ca (i64.wrap (x6*x7)) 0 x6 x7 A8 n9 c10 A11 n12 c13 A14 n15 c16 r22.2))))))))):=by kernel_rfl
theorem qm.Pa:pz P T k lo F.qm (qm.Ca x1 x2 x3 x4 A5 n6 c7 A8 n9 c10 A11 n12 c13 M)=
 bb (decide (x2 < x1))
 (pb (0≤x2∧x2 < (n6:Int))
 (ob A5 fun a24=>
 ob ((M.ld (plus a24 x2.toNat)).bind (Value.int? .u8)) fun x25=>
 ob (z5 P T k lo F.zbv [.int .u8 x25] M) fun r26=>
 ob ((some r26.1).bind Value.bool?) fun b27=>
 bb (!b27)
 (some (.ret (.b false) r26.2))
 (some (qm.Ca x1 (i64.wrap (x2+1)) x3 x4 A5 n6 c7 A8 n9 c10 A11 n12 c13 r26.2))) none)
 (some (.ret (.b true) M)):=by kernel_rfl
theorem yh.entry:entry P T k lo F.yh [.agg ⟨[.i x1,.i x2,.s A3 n4 c5]⟩,.i x6,.i x7,.i x8,.i x9,.i x10] M=
 some (yh.Ca x6 x7 x8 x9 x10 none 0 0 (i64.wrap (Int.tdiv (i64.wrap (0 - x8)) 2)) x1 x2 A3 n4 c5 M):=by kernel_rfl
theorem yh.Pa:pz P T k lo F.yh (yh.Ca x1 x2 x3 x4 x5 A6 n7 c8 x9 x10 x11 A12 n13 c14 M)=
 bb (decide (x9 < i64.wrap (Int.tdiv x3 2)))
 (pb (0≤i64.wrap (x1+(i64.wrap (x9*x2)))∧i64.wrap (x1+(i64.wrap (x9*x2))) < (n13:Int))
 (ob A12 fun a16=>
 ob ((M.ld (plus a16 ((i64.wrap (x1+(i64.wrap (x9*x2)))).toNat))).bind (Value.int? .u8)) fun x17=>
 ob (M.app lo 1 1 ⟨A6,n7,c8⟩ ([.int .u8 x17]) 1) fun r18=>
 some (yh.Ca x1 x2 x3 x4 x5 r18.1.a r18.1.n r18.1.c (i64.wrap (x9+1)) x10 x11 A12 n13 c14 r18.2)) none)
 (ob (z5 P T k lo F.z9x [.s A6 n7 c8,.i x3,.i x4,.i x5] M) fun r19=>
 ob (r19.1.tup? 2) fun l20=>
 ob ((l20[0]?).bind Value.slc?) fun s21=>
 ob ((l20[1]?).bind (Value.int? .i64)) fun x22=>
 some (yh.Cb x1 x2 x3 s21.a s21.n s21.c (i64.wrap (Int.tdiv (i64.wrap (0 - x3)) 2)) x10 x11 A12 n13 c14 r19.2)):=by kernel_rfl
theorem yh.Pb:pz P T k lo F.yh (yh.Cb x1 x2 x3 A4 n5 c6 x7 x8 x9 A10 n11 c12 M)=
 bb (decide (x7 < i64.wrap (Int.tdiv x3 2)))
 (pb (0≤i64.wrap (x7+(i64.wrap (Int.tdiv x3 2)))∧i64.wrap (x7+(i64.wrap (Int.tdiv x3 2))) < (n5:Int))
 (ob A4 fun a23=>
 ob ((M.ld (plus a23 ((i64.wrap (x7+(i64.wrap (Int.tdiv x3 2)))).toNat))).bind (Value.int? .u8)) fun x24=>
 pb (0≤i64.wrap (x1+(i64.wrap (x7*x2)))∧i64.wrap (x1+(i64.wrap (x7*x2))) < (n11:Int))
 (ob A10 fun a25=>
 ob (M.st lo (plus a25 ((i64.wrap (x1+(i64.wrap (x7*x2)))).toNat)) [.int .u8 x24]) fun M26=>
 some (yh.Cb x1 x2 x3 A4 n5 c6 (i64.wrap (x7+1)) x8 x9 A10 n11 c12 M26)) none) none)
 (some (.ret (.tuple ⟨[]⟩) M)):=by kernel_rfl
theorem za1.entry:entry P T k lo F.za1 [.i x1,.b b2] M=
 bb (decide (x1 < 8))
 (some (.ret (.i 4) M))
 (bb b2
 (some (.ret (.i 6) M))
 (bb (decide (x1 < 16))
 (some (.ret (.i 8) M))
 (some (.ret (.i 14) M)))):=by kernel_rfl
theorem z71.entry:entry P T k lo F.z71 [.agg ⟨[.i x1,.i x2,.i x3,.i x4]⟩] M=
 bb (decide (x1 ≥ 0))
 (bb (decide (x1≤15))
 (bb (decide (x3 ≥ 0))
 (bb (decide (x3≤15))
 (bb (decide (x2 ≥ 0))
 (bb (decide (x2≤3))
 (bb (decide (x4 ≥ 0))
 (some (.ret (.b (decide (x4≤3))) M))
 (some (.ret (.b false) M)))
 (some (.ret (.b false) M)))
 (some (.ret (.b false) M)))
 (some (.ret (.b false) M)))
 (some (.ret (.b false) M)))
 (some (.ret (.b false) M)))
 (some (.ret (.b false) M)):=by kernel_rfl
theorem yi.entry:entry P T k lo F.yi [.agg ⟨[.i x1,.i x2,.s A3 n4 c5]⟩,.agg ⟨[.i x6,.i x7,.i x8,.i x9]⟩] M=
 ob (z5 P T k lo F.z8w [.agg ⟨[.i x1,.i x2,.s A3 n4 c5]⟩] M) fun r15=>
 ob ((some r15.1).bind (Value.int? .i64)) fun x16=>
 bb (x16 != 0)
 (some (.ret (.tuple ⟨[.s none 0 0,.i 2]⟩) r15.2))
 (ob (z5 P T k lo F.z3q [.agg ⟨[.i x1,.i x2,.s A3 n4 c5]⟩,.agg ⟨[.i x6,.i x7,.i x8,.i x9]⟩] r15.2) fun r17=>
 ob ((some r17.1).bind Value.bool?) fun b18=>
 bb (!b18)
 (some (.ret (.tuple ⟨[.s none 0 0,.i 2]⟩) r17.2))
 (some (yi.Ca none 0 0 x7 x1 x2 A3 n4 c5 x6 x7 x8 x9 r17.2))):=by kernel_rfl
theorem yi.Pa:pz P T k lo F.yi (yi.Ca A1 n2 c3 x4 x5 x6 A7 n8 c9 x10 x11 x12 x13 M)=
 bb (decide (x4 < i64.wrap (x11+x13)))
 (some (yi.Cb A1 n2 c3 x4 x10 x5 x6 A7 n8 c9 x10 x11 x12 x13 M))
 (some (.ret (.tuple ⟨[.s A1 n2 c3,.i 0]⟩) M)):=by kernel_rfl
theorem yi.Pb:pz P T k lo F.yi (yi.Cb A1 n2 c3 x4 x5 x6 x7 A8 n9 c10 x11 x12 x13 x14 M)=
 bb (decide (x5 < i64.wrap (x11+x13)))
 (pb (0≤i64.wrap ((i64.wrap (x4*x6))+x5)∧i64.wrap ((i64.wrap (x4*x6))+x5) < (n9:Int))
 (ob A8 fun a19=>
 ob ((M.ld (plus a19 ((i64.wrap ((i64.wrap (x4*x6))+x5)).toNat))).bind (Value.int? .u8)) fun x20=>
 ob (M.app lo 1 1 ⟨A1,n2,c3⟩ ([.int .u8 x20]) 1) fun r21=>
 some (yi.Cb r21.1.a r21.1.n r21.1.c x4 (i64.wrap (x5+1)) x6 x7 A8 n9 c10 x11 x12 x13 x14 r21.2)) none)
 (some (yi.Ca A1 n2 c3 (i64.wrap (x4+1)) x6 x7 A8 n9 c10 x11 x12 x13 x14 M)):=by kernel_rfl
theorem y3.entry:entry P T k lo F.y3 [.s A1 n2 c3] M=
 bb ((n2:Int) != 64)
 (some (.ret (.tuple ⟨[.i 0,.i 0,.i 2]⟩) M))
 (some (y3.Ca A1 n2 c3 0 1 M)):=by kernel_rfl
theorem y3.Pa:pz P T k lo F.y3 (y3.Ca A1 n2 c3 x4 x5 M)=
 bb (decide (x5 < 8))
 (ob (z5 P T k lo F.zg [.s A1 n2 c3,.i x5] M) fun r9=>
 ob ((some r9.1).bind (Value.int? .i64)) fun x10=>
 ob (z5 P T k lo F.zg [.s A1 n2 c3,.i x4] r9.2) fun r11=>
 ob ((some r11.1).bind (Value.int? .i64)) fun x12=>
 bb (decide (x10 > x12))
 (some (y3.Cb A1 n2 c3 x5 x5 r11.2))
 (some (y3.Cb A1 n2 c3 x4 x5 r11.2)))
 (ob (z5 P T k lo F.zg [.s A1 n2 c3,.i x4] M) fun r13=>
 ob ((some r13.1).bind (Value.int? .i64)) fun x14=>
 ob (z5 P T k lo F.zg [.s A1 n2 c3,.i (Int.tmod (i64.wrap (x4+4)) 8)] r13.2) fun r15=>
 ob ((some r15.1).bind (Value.int? .i64)) fun x16=>
 some (.ret (.tuple ⟨[.i x4,.i (yz .i64 (i64.wrap (x14 - x16)) 10),.i 0]⟩) r15.2)):=by kernel_rfl
theorem y3.Pb:pz P T k lo F.y3 (y3.Cb A1 n2 c3 x4 x5 M)=
 some (y3.Ca A1 n2 c3 x4 (i64.wrap (x5+1)) M):=by kernel_rfl
theorem u6.entry:entry P T k lo F.u6 [.i x1] M=
 some (u6.Ca x1 0 M):=by kernel_rfl
theorem u6.Pa:pz P T k lo F.u6 (u6.Ca x1 x2 M)=
 bb (decide (x1 > 1))
 (some (u6.Ca (i64.wrap (Int.tdiv x1 2)) (i64.wrap (x2+1)) M))
 (some (.ret (.i x2) M)):=by kernel_rfl
theorem yb.entry:entry P T k lo F.yb [.agg ⟨[.i x1,.i x2,.s A3 n4 c5]⟩,.agg ⟨[.i x6,.i x7,.i x8,.i x9]⟩,.i x10,.i x11,.i x12,.i x13] M=
 ob (z5 P T k lo F.z8w [.agg ⟨[.i x1,.i x2,.s A3 n4 c5]⟩] M) fun r19=>
 ob ((some r19.1).bind (Value.int? .i64)) fun x20=>
 bb (x20 != 0)
 (some (.ret (.tuple ⟨[.s none 0 0,.i 2]⟩) r19.2))
 (bb (decide (x8 < 1))
 (some (.ret (.tuple ⟨[.s none 0 0,.i 2]⟩) r19.2))
 (bb (decide (x8 > 64))
 (some (.ret (.tuple ⟨[.s none 0 0,.i 2]⟩) r19.2))
 (bb (decide (x9 < 1))
 (some (.ret (.tuple ⟨[.s none 0 0,.i 2]⟩) r19.2))
 (bb (decide (x9 > 64))
 (some (.ret (.tuple ⟨[.s none 0 0,.i 2]⟩) r19.2))
 (ob (z5 P T k lo F.z3q [.agg ⟨[.i x1,.i x2,.s A3 n4 c5]⟩,.agg ⟨[.i x6,.i x7,.i x8,.i x9]⟩] r19.2) fun r21=>
 ob ((some r21.1).bind Value.bool?) fun b22=>
 bb (!b22)
 (some (.ret (.tuple ⟨[.s none 0 0,.i 2]⟩) r21.2))
 (bb (decide (x10 < 0))
 (some (.ret (.tuple ⟨[.s none 0 0,.i 2]⟩) r21.2))
 (bb (decide (x10 > 7))
 (some (.ret (.tuple ⟨[.s none 0 0,.i 2]⟩) r21.2))
 (bb (decide (x11 < 0))
 (some (.ret (.tuple ⟨[.s none 0 0,.i 2]⟩) r21.2))
 (bb (decide (x11 > 15))
 (some (.ret (.tuple ⟨[.s none 0 0,.i 2]⟩) r21.2))
 (bb (decide (x12 < 0))
 (some (.ret (.tuple ⟨[.s none 0 0,.i 2]⟩) r21.2))
 (bb (decide (x12 > 4))
 (some (.ret (.tuple ⟨[.s none 0 0,.i 2]⟩) r21.2))
 (bb (decide (x13 < 0))
 (some (.ret (.tuple ⟨[.s none 0 0,.i 2]⟩) r21.2))
 (bb (decide (x13 > 6))
 (some (.ret (.tuple ⟨[.s none 0 0,.i 2]⟩) r21.2))
 (some (yb.Ca x10 x11 x12 x13 none 0 0 x7 x1 x2 A3 n4 c5 x6 x7 x8 x9 r21.2))))))))))))))):=by kernel_rfl
theorem yb.Pa:pz P T k lo F.yb (yb.Ca x1 x2 x3 x4 A5 n6 c7 x8 x9 x10 A11 n12 c13 x14 x15 x16 x17 M)=
 bb (decide (x8 < i64.wrap (x15+x17)))
 (some (yb.Cb x1 x2 x3 x4 A5 n6 c7 x8 x14 x9 x10 A11 n12 c13 x14 x15 x16 x17 M))
 (some (.ret (.tuple ⟨[.s A5 n6 c7,.i 0]⟩) M)):=by kernel_rfl
theorem yb.Pb:pz P T k lo F.yb (yb.Cb x1 x2 x3 x4 A5 n6 c7 x8 x9 x10 x11 A12 n13 c14 x15 x16 x17 x18 M)=
 bb (decide (x9 < i64.wrap (x15+x17)))
 (ob (z5 P T k lo F.zr [.agg ⟨[.i x10,.i x11,.s A12 n13 c14]⟩,.i x9,.i x8,.agg ⟨[.i x1,.i x2,.i x3,.i x4]⟩] M) fun r23=>
 ob ((some r23.1).bind (Value.int? .u8)) fun x24=>
 ob (r23.2.app lo 1 1 ⟨A5,n6,c7⟩ ([.int .u8 x24]) 1) fun r25=>
 some (yb.Cb x1 x2 x3 x4 r25.1.a r25.1.n r25.1.c x8 (i64.wrap (x9+1)) x10 x11 A12 n13 c14 x15 x16 x17 x18 r25.2))
 (some (yb.Ca x1 x2 x3 x4 A5 n6 c7 (i64.wrap (x8+1)) x10 x11 A12 n13 c14 x15 x16 x17 x18 M)):=by kernel_rfl
theorem zau.entry:entry P T k lo F.zau [.i x1] M=
 bb (x1 == 3)
 (some (.ret (.i 4) M))
 (some (.ret (.i x1) M)):=by kernel_rfl
theorem ql.entry:entry P T k lo F.ql [.agg ⟨[.i x1,.i x2,.s A3 n4 c5]⟩,.agg ⟨[.i x6,.i x7,.i x8,.i x9]⟩,.s A10 n11 c12] M=
 some (ql.Ca A10 n11 c12 0 x1 x2 A3 n4 c5 x6 x7 x8 x9 M):=by kernel_rfl
theorem ql.Pa:pz P T k lo F.ql (ql.Ca A1 n2 c3 x4 x5 x6 A7 n8 c9 x10 x11 x12 x13 M)=
 bb (decide (x4 < (n2:Int)))
 (pb (x12=0) none
 (pb (x12=0) none
 (pb (0≤x4∧x4 < (n2:Int))
 (ob A1 fun a18=>
 ob ((M.ld (plus a18 x4.toNat)).bind (Value.int? .u8)) fun x19=>
 pb (0≤i64.wrap ((i64.wrap ((i64.wrap ((i64.wrap (x11+(i64.wrap (Int.tdiv x4 x12))))*x5))+x10))+(Int.tmod x4 x12))∧i64.wrap ((i64.wrap ((i64.wrap ((i64.wrap (x11+(i64.wrap (Int.tdiv x4 x12))))*x5))+x10))+(Int.tmod x4 x12)) < (n8:Int))
 (ob A7 fun a20=>
 ob (M.st lo (plus a20 ((i64.wrap ((i64.wrap ((i64.wrap ((i64.wrap (x11+(i64.wrap (Int.tdiv x4 x12))))*x5))+x10))+(Int.tmod x4 x12))).toNat)) [.int .u8 x19]) fun M21=>
 some (ql.Ca A1 n2 c3 (i64.wrap (x4+1)) x5 x6 A7 n8 c9 x10 x11 x12 x13 M21)) none) none)))
 (some (.ret (.tuple ⟨[]⟩) M)):=by kernel_rfl
theorem z9y.entry:entry P T k lo F.z9y [.agg ⟨[.i x1,.i x2,.i x3]⟩] M=
 bb (decide (x1 ≥ (-5)))
 (bb (decide (x1≤10))
 (bb (decide (x2 ≥ (-23)))
 (bb (decide (x2≤8))
 (bb (decide (x3 ≥ (-17)))
 (some (.ret (.b (decide (x3≤46))) M))
 (some (.ret (.b false) M)))
 (some (.ret (.b false) M)))
 (some (.ret (.b false) M)))
 (some (.ret (.b false) M)))
 (some (.ret (.b false) M)):=by kernel_rfl
theorem z8x.entry:entry P T k lo F.z8x [.agg ⟨[.i x1,.i x2,.i x3]⟩] M=
 ob (z5 P T k lo F.z9y [.agg ⟨[.i x1,.i x2,.i x3]⟩] M) fun r9=>
 ob ((some r9.1).bind Value.bool?) fun b10=>
 bb (!b10)
 (some (.ret (.tuple ⟨[.agg ⟨[.i 0,.i 0,.i 0,.i 0,.i 0,.i 0,.i 0]⟩,.i 2]⟩) r9.2))
 (some (.ret (.tuple ⟨[.agg ⟨[.i x1,.i x2,.i x3,.i (i64.wrap (128 - (i64.wrap (2*(i64.wrap ((i64.wrap (x1+x2))+x3)))))),.i x3,.i x2,.i x1]⟩,.i 0]⟩) r9.2)):=by kernel_rfl
theorem za4.entry:entry P T k lo F.za4 [.i x1,.i x2,.i x3] M=
 bb (decide (x1 < x2))
 (some (.ret (.i x2) M))
 (bb (decide (x1 > x3))
 (some (.ret (.i x3) M))
 (some (.ret (.i x1) M))):=by kernel_rfl
theorem jy.entry:entry P T k lo F.jy [.agg ⟨[.i x1,.i x2,.s A3 n4 c5]⟩,.i x6,.i x7,.agg ⟨[.i x8,.i x9,.i x10,.i x11,.i x12,.i x13,.i x14]⟩] M=
 some (jy.Ca x6 x7 0 0 x1 x2 A3 n4 c5 x8 x9 x10 x11 x12 x13 x14 M):=by kernel_rfl
theorem jy.Pa:pz P T k lo F.jy (jy.Ca x1 x2 x3 x4 x5 x6 A7 n8 c9 x10 x11 x12 x13 x14 x15 x16 M)=
 bb (decide (x4 < 7))
 (pb (0≤x4∧x4 < (7:Int))
 (ob ((([.i x10,.i x11,.i x12,.i x13,.i x14,.i x15,.i x16]:List Value)[0+x4.toNat+0]?).bind (Value.int? .i64)) fun x20=>
 ob (z5 P T k M.length F.za4 [.i (i64.wrap ((i64.wrap (x1+x4)) - 3)),.i 0,.i (i64.wrap (x5 - 1))] M) fun r21=>
 ob ((some r21.1).bind (Value.int? .i64)) fun x22=>
 pb (0≤i64.wrap ((i64.wrap (x2*x5))+x22)∧i64.wrap ((i64.wrap (x2*x5))+x22) < (n8:Int))
 (ob A7 fun a23=>
 ob ((r21.2.ld (plus a23 ((i64.wrap ((i64.wrap (x2*x5))+x22)).toNat))).bind (Value.int? .u8)) fun x24=>
 some (jy.Ca x1 x2 (i64.wrap (x3+(i64.wrap (x20*(i64.wrap x24))))) (i64.wrap (x4+1)) x5 x6 A7 n8 c9 x10 x11 x12 x13 x14 x15 x16 r21.2)) none) none)
 (ob (z5 P T k lo F.z3r [.i x3,.i 3] M) fun r25=>
 ob ((some r25.1).bind (Value.int? .i64)) fun x26=>
 ob (z5 P T k lo F.za4 [.i x26,.i (-4096),.i 8191] r25.2) fun r27=>
 ob ((some r27.1).bind (Value.int? .i64)) fun x28=>
 some (.ret (.i x28) r27.2)):=by kernel_rfl
theorem z3r.entry:entry P T k lo F.z3r [.i x1,.i x2] M=
 pb (i64.wrap (x2 - 1) < 0) none
 (pb (x2 < 0) none
 (some (.ret (.i (yz .i64 (i64.wrap (x1+(z84 .i64 (1:Int) ((i64.wrap (x2 - 1)).toNat)))) x2.toNat)) M))):=by kernel_rfl
theorem zo0.entry:entry P T k lo F.zo0 [.i x1,.i x2,.int .u8 x3] M=
 ob (z5 P T k lo F.ziv [.i x1,.i x2] M) fun r9=>
 ob ((some r9.1).bind Value.bool?) fun b10=>
 bb (!b10)
 (some (.ret (.tuple ⟨[.agg ⟨[.i 0,.i 0,.s none 0 0]⟩,.i 2]⟩) r9.2))
 (ob (z5 P T k lo F.zn [.s (some ⟨r9.2.length,0,none⟩) 1 1,.i (i64.wrap (x1*x2))] (r9.2 ++ [⟨.fx,[.int .u8 x3]⟩]:Mem)) fun r11=>
 ob ((some r11.1).bind Value.slc?) fun s12=>
 some (.ret (.tuple ⟨[.agg ⟨[.i x1,.i x2,.s s12.a s12.n s12.c]⟩,.i 0]⟩) r11.2)):=by kernel_rfl
theorem z2q.entry:entry P T k lo F.z2q [.s A1 n2 c3,v4] M=
 ob (z5 P T k lo F.yw [.s A1 n2 c3,v4] M) fun r10=>
 ob ((some r10.1).bind (Value.int? .i64)) fun x11=>
 some (.ret (.b (decide (x11 ≥ 0))) r10.2):=by kernel_rfl
theorem zfb.entry:entry P T k lo F.zfb [.int .u8 x1,.pointer (some a2)] M=
 ob ((M.ld a2).bind Value.slc?) fun s8=>
 ob (z5 P T k lo F.z48 [.s s8.a s8.n s8.c,.int .u8 x1] M) fun r9=>
 ob ((some r9.1).bind Value.bool?) fun b10=>
 some (.ret (.b (!b10)) r9.2):=by kernel_rfl
theorem z48.entry:entry P T k lo F.z48 [.s A1 n2 c3,.int .u8 x4] M=
 ob (z5 P T k lo F.yg [.s A1 n2 c3,.int .u8 x4] M) fun r10=>
 ob ((some r10.1).bind (Value.int? .i64)) fun x11=>
 some (.ret (.b (decide (x11 ≥ 0))) r10.2):=by kernel_rfl
theorem qg.entry:entry P T k lo F.qg [.agg ⟨[.s A1 n2 c3,.i x4]⟩,.agg ⟨[.i x5,.i x6,.i x7]⟩] M=
 some (qg.Ca (zq (i64.wrap (Int.tdiv (n2:Int) 2)) 4) 1 A1 n2 c3 x4 x5 x6 x7 M):=by kernel_rfl
theorem qg.Pa:pz P T k lo F.qg (qg.Ca x1 x2 A3 n4 c5 x6 x7 x8 x9 M)=
 bb (decide (x2 < x1))
 (ob (z5 P T k M.length F.zdt [.agg ⟨[.s A3 n4 c5,.i x6]⟩,.i x2] M) fun r13=>
 ob ((some r13.1).bind (Value.int? .u8)) fun x14=>
 ob (z5 P T k M.length F.zdt [.agg ⟨[.s A3 n4 c5,.i x6]⟩,.i (i64.wrap (x2 - 1))] r13.2) fun r15=>
 ob ((some r15.1).bind (Value.int? .u8)) fun x16=>
 ob (z5 P T k M.length F.ziw [.int .u8 x14,.int .u8 x16] r15.2) fun r17=>
 ob ((some r17.1).bind (Value.int? .i64)) fun x18=>
 bb (decide (x18 > x7))
 (some (.ret (.b true) r17.2))
 (ob (z5 P T k M.length F.zdx [.agg ⟨[.s A3 n4 c5,.i x6]⟩,.i x2] r17.2) fun r19=>
 ob ((some r19.1).bind (Value.int? .u8)) fun x20=>
 ob (z5 P T k M.length F.zdx [.agg ⟨[.s A3 n4 c5,.i x6]⟩,.i (i64.wrap (x2 - 1))] r19.2) fun r21=>
 ob ((some r21.1).bind (Value.int? .u8)) fun x22=>
 ob (z5 P T k M.length F.ziw [.int .u8 x20,.int .u8 x22] r21.2) fun r23=>
 ob ((some r23.1).bind (Value.int? .i64)) fun x24=>
 bb (decide (x24 > x7))
 (some (.ret (.b true) r23.2))
 (some (qg.Ca x1 (i64.wrap (x2+1)) A3 n4 c5 x6 x7 x8 x9 r23.2))))
 (ob (z5 P T k M.length F.zdt [.agg ⟨[.s A3 n4 c5,.i x6]⟩,.i 0] M) fun r25=>
 ob ((some r25.1).bind (Value.int? .u8)) fun x26=>
 ob (z5 P T k M.length F.zdx [.agg ⟨[.s A3 n4 c5,.i x6]⟩,.i 0] r25.2) fun r27=>
 ob ((some r27.1).bind (Value.int? .u8)) fun x28=>
 ob (z5 P T k M.length F.ziw [.int .u8 x26,.int .u8 x28] r27.2) fun r29=>
 ob ((some r29.1).bind (Value.int? .i64)) fun x30=>
 ob (z5 P T k M.length F.zdt [.agg ⟨[.s A3 n4 c5,.i x6]⟩,.i 1] r29.2) fun r31=>
 ob ((some r31.1).bind (Value.int? .u8)) fun x32=>
 ob (z5 P T k M.length F.zdx [.agg ⟨[.s A3 n4 c5,.i x6]⟩,.i 1] r31.2) fun r33=>
 ob ((some r33.1).bind (Value.int? .u8)) fun x34=>
 ob (z5 P T k M.length F.ziw [.int .u8 x32,.int .u8 x34] r33.2) fun r35=>
 ob ((some r35.1).bind (Value.int? .i64)) fun x36=>
 some (.ret (.b (decide (i64.wrap ((i64.wrap (2*x30))+(i64.wrap (Int.tdiv x36 2))) > x8))) r35.2)):=by kernel_rfl
theorem qk.entry:entry P T k lo F.qk [.agg ⟨[.s A1 n2 c3,.i x4]⟩,.i x5,.i x6] M=
 some (qk.Ca x6 x5 A1 n2 c3 x4 M):=by kernel_rfl
theorem qk.Pa:pz P T k lo F.qk (qk.Ca x1 x2 A3 n4 c5 x6 M)=
 bb (decide (x2≤x1))
 (ob (z5 P T k M.length F.zdt [.agg ⟨[.s A3 n4 c5,.i x6]⟩,.i x2] M) fun r12=>
 ob ((some r12.1).bind (Value.int? .u8)) fun x13=>
 ob (z5 P T k lo F.zdt [.agg ⟨[.s A3 n4 c5,.i x6]⟩,.i 0] r12.2) fun r14=>
 ob ((some r14.1).bind (Value.int? .u8)) fun x15=>
 ob (z5 P T k lo F.ziw [.int .u8 x13,.int .u8 x15] r14.2) fun r16=>
 ob ((some r16.1).bind (Value.int? .i64)) fun x17=>
 bb (decide (x17 > 1))
 (some (.ret (.b false) r16.2))
 (ob (z5 P T k M.length F.zdx [.agg ⟨[.s A3 n4 c5,.i x6]⟩,.i x2] r16.2) fun r18=>
 ob ((some r18.1).bind (Value.int? .u8)) fun x19=>
 ob (z5 P T k lo F.zdx [.agg ⟨[.s A3 n4 c5,.i x6]⟩,.i 0] r18.2) fun r20=>
 ob ((some r20.1).bind (Value.int? .u8)) fun x21=>
 ob (z5 P T k lo F.ziw [.int .u8 x19,.int .u8 x21] r20.2) fun r22=>
 ob ((some r22.1).bind (Value.int? .i64)) fun x23=>
 bb (decide (x23 > 1))
 (some (.ret (.b false) r22.2))
 (some (qk.Ca x1 (i64.wrap (x2+1)) A3 n4 c5 x6 r22.2))))
 (some (.ret (.b true) M)):=by kernel_rfl
theorem zw.entry:entry P T k lo F.zw [.agg ⟨[.s A1 n2 c3,.i x4]⟩,.i x5,.i x6,.i x7] M=
 ob (z5 P T k lo F.z1p [.s A1 n2 c3] M) fun r13=>
 ob ((some r13.1).bind Value.slc?) fun s14=>
 some (zw.Ca x5 x6 x7 s14.a s14.n s14.c (i64.wrap (0 - x5)) A1 n2 c3 x4 r13.2):=by kernel_rfl
theorem zw.Pa:pz P T k lo F.zw (zw.Ca x1 x2 x3 A4 n5 c6 x7 A8 n9 c10 x11 M)=
 bb (decide (x7 < x1))
 (some (zw.Cb x1 x2 x3 A4 n5 c6 x7 0 (i64.wrap (0 - x1)) A8 n9 c10 x11 M))
 (some (.ret (.s A4 n5 c6) M)):=by kernel_rfl
theorem zw.Pb:pz P T k lo F.zw (zw.Cb x1 x2 x3 A4 n5 c6 x7 x8 x9 A10 n11 c12 x13 M)=
 bb (decide (x9≤x1))
 (ob (z5 P T k M.length F.zhj [.i (i64.wrap (x7+x9)),.i (i64.wrap ((i64.wrap (0 - x1)) - 1)),.i x1] M) fun r15=>
 ob ((some r15.1).bind (Value.int? .i64)) fun x16=>
 pb (0≤i64.wrap (x13+x16)∧i64.wrap (x13+x16) < (n11:Int))
 (ob A10 fun a17=>
 ob ((r15.2.ld (plus a17 ((i64.wrap (x13+x16)).toNat))).bind (Value.int? .u8)) fun x18=>
 ob (z5 P T k lo F.zdv [.i x9,.i (i64.wrap (0 - x2)),.i x2] r15.2) fun r19=>
 ob ((some r19.1).bind Value.bool?) fun b20=>
 bb b20
 (some (zw.Cc x1 x2 x3 A4 n5 c6 x7 (i64.wrap ((i64.wrap (x8+(i64.wrap x18)))+(i64.wrap x18))) x9 A10 n11 c12 x13 r19.2))
 (some (zw.Cc x1 x2 x3 A4 n5 c6 x7 (i64.wrap (x8+(i64.wrap x18))) x9 A10 n11 c12 x13 r19.2))) none)
 (pb (i64.wrap (x3 - 1) < 0) none
 (pb (x3 < 0) none
 (pb (0≤i64.wrap (x13+x7)∧i64.wrap (x13+x7) < (n5:Int))
 (ob A4 fun a21=>
 ob (M.st lo (plus a21 ((i64.wrap (x13+x7)).toNat)) [.int .u8 (u8.wrap (yz .i64 (i64.wrap (x8+(z84 .i64 (1:Int) ((i64.wrap (x3 - 1)).toNat)))) x3.toNat))]) fun M22=>
 some (zw.Ca x1 x2 x3 A4 n5 c6 (i64.wrap (x7+1)) A10 n11 c12 x13 M22)) none))):=by kernel_rfl
theorem zw.Pc:pz P T k lo F.zw (zw.Cc x1 x2 x3 A4 n5 c6 x7 x8 x9 A10 n11 c12 x13 M)=
 some (zw.Cb x1 x2 x3 A4 n5 c6 x7 x8 (i64.wrap (x9+1)) A10 n11 c12 x13 M):=by kernel_rfl
theorem yj.entry:entry P T k lo F.yj [.agg ⟨[.s A1 n2 c3,.i x4]⟩,.agg ⟨[.i x5,.i x6,.i x7]⟩] M=
 ob (((M ++ [⟨.fx,[.s A1 n2 c3,.i x4]⟩]:Mem).ld ⟨M.length,0,none⟩).bind Value.slc?) fun s13=>
 ob (((M ++ [⟨.fx,[.s A1 n2 c3,.i x4]⟩]:Mem).ld (plus ⟨M.length,0,none⟩ 1)).bind (Value.int? .i64)) fun x14=>
 ob (z5 P T k ((M ++ [⟨.fx,[.s A1 n2 c3,.i x4]⟩]:Mem).length) F.zdt [.agg ⟨[.s s13.a s13.n s13.c,.i x14]⟩,.i 1] (M ++ [⟨.fx,[.s A1 n2 c3,.i x4]⟩]:Mem)) fun r15=>
 ob ((some r15.1).bind (Value.int? .u8)) fun x16=>
 ob ((if M.length < (M ++ [⟨.fx,[.s A1 n2 c3,.i x4]⟩]:Mem).length then r15.2.ld ⟨M.length,0,none⟩ else none).bind Value.slc?) fun s17=>
 ob ((if M.length < (M ++ [⟨.fx,[.s A1 n2 c3,.i x4]⟩]:Mem).length then r15.2.ld (plus ⟨M.length,0,none⟩ 1) else none).bind (Value.int? .i64)) fun x18=>
 ob (z5 P T k ((M ++ [⟨.fx,[.s A1 n2 c3,.i x4]⟩]:Mem).length) F.zdt [.agg ⟨[.s s17.a s17.n s17.c,.i x18]⟩,.i 0] r15.2) fun r19=>
 ob ((some r19.1).bind (Value.int? .u8)) fun x20=>
 ob ((if M.length < (M ++ [⟨.fx,[.s A1 n2 c3,.i x4]⟩]:Mem).length then r19.2.ld ⟨M.length,0,none⟩ else none).bind Value.slc?) fun s21=>
 ob ((if M.length < (M ++ [⟨.fx,[.s A1 n2 c3,.i x4]⟩]:Mem).length then r19.2.ld (plus ⟨M.length,0,none⟩ 1) else none).bind (Value.int? .i64)) fun x22=>
 ob (z5 P T k ((M ++ [⟨.fx,[.s A1 n2 c3,.i x4]⟩]:Mem).length) F.zdx [.agg ⟨[.s s21.a s21.n s21.c,.i x22]⟩,.i 0] r19.2) fun r23=>
 ob ((some r23.1).bind (Value.int? .u8)) fun x24=>
 ob ((if M.length < (M ++ [⟨.fx,[.s A1 n2 c3,.i x4]⟩]:Mem).length then r23.2.ld ⟨M.length,0,none⟩ else none).bind Value.slc?) fun s25=>
 ob ((if M.length < (M ++ [⟨.fx,[.s A1 n2 c3,.i x4]⟩]:Mem).length then r23.2.ld (plus ⟨M.length,0,none⟩ 1) else none).bind (Value.int? .i64)) fun x26=>
 ob (z5 P T k lo F.zdx [.agg ⟨[.s s25.a s25.n s25.c,.i x26]⟩,.i 1] r23.2) fun r27=>
 ob ((some r27.1).bind (Value.int? .u8)) fun x28=>
 ob ((r27.2.ld ⟨M.length,0,none⟩).bind Value.slc?) fun s29=>
 ob ((r27.2.ld (plus ⟨M.length,0,none⟩ 1)).bind (Value.int? .i64)) fun x30=>
 ob (z5 P T k r27.2.length F.zdt [.agg ⟨[.s s29.a s29.n s29.c,.i x30]⟩,.i 1] r27.2) fun r31=>
 ob ((some r31.1).bind (Value.int? .u8)) fun x32=>
 ob ((if M.length < r27.2.length then r31.2.ld ⟨M.length,0,none⟩ else none).bind Value.slc?) fun s33=>
 ob ((if M.length < r27.2.length then r31.2.ld (plus ⟨M.length,0,none⟩ 1) else none).bind (Value.int? .i64)) fun x34=>
 ob (z5 P T k r27.2.length F.zdt [.agg ⟨[.s s33.a s33.n s33.c,.i x34]⟩,.i 0] r31.2) fun r35=>
 ob ((some r35.1).bind (Value.int? .u8)) fun x36=>
 ob (z5 P T k r27.2.length F.ziw [.int .u8 x32,.int .u8 x36] r35.2) fun r37=>
 ob ((some r37.1).bind (Value.int? .i64)) fun x38=>
 bb (decide (x38 > x7))
 (ob (z5 P T k lo F.z7k [.i (i64.wrap ((i64.wrap x16) - (i64.wrap x28)))] r37.2) fun r39=>
 ob ((some r39.1).bind (Value.int? .i64)) fun x40=>
 some (yj.Ca ⟨M.length,0,none⟩ (i64.wrap x16) (i64.wrap x20) (i64.wrap x24) (i64.wrap x28) true x40 r39.2))
 (ob ((r37.2.ld ⟨M.length,0,none⟩).bind Value.slc?) fun s41=>
 ob ((r37.2.ld (plus ⟨M.length,0,none⟩ 1)).bind (Value.int? .i64)) fun x42=>
 ob (z5 P T k r27.2.length F.zdx [.agg ⟨[.s s41.a s41.n s41.c,.i x42]⟩,.i 1] r37.2) fun r43=>
 ob ((some r43.1).bind (Value.int? .u8)) fun x44=>
 ob ((if M.length < r27.2.length then r43.2.ld ⟨M.length,0,none⟩ else none).bind Value.slc?) fun s45=>
 ob ((if M.length < r27.2.length then r43.2.ld (plus ⟨M.length,0,none⟩ 1) else none).bind (Value.int? .i64)) fun x46=>
 ob (z5 P T k r27.2.length F.zdx [.agg ⟨[.s s45.a s45.n s45.c,.i x46]⟩,.i 0] r43.2) fun r47=>
 ob ((some r47.1).bind (Value.int? .u8)) fun x48=>
 ob (z5 P T k r27.2.length F.ziw [.int .u8 x44,.int .u8 x48] r47.2) fun r49=>
 ob ((some r49.1).bind (Value.int? .i64)) fun x50=>
 bb (decide (x50 > x7))
 (ob (z5 P T k lo F.z7k [.i (i64.wrap ((i64.wrap x16) - (i64.wrap x28)))] r49.2) fun r51=>
 ob ((some r51.1).bind (Value.int? .i64)) fun x52=>
 some (yj.Ca ⟨M.length,0,none⟩ (i64.wrap x16) (i64.wrap x20) (i64.wrap x24) (i64.wrap x28) (decide (x50 > x7)) x52 r51.2))
 (some (yj.Ca ⟨M.length,0,none⟩ (i64.wrap x16) (i64.wrap x20) (i64.wrap x24) (i64.wrap x28) (decide (x50 > x7)) 0 r49.2))):=by kernel_rfl
theorem yj.Pa:pz P T k lo F.yj (yj.Ca a1 x2 x3 x4 x5 b6 x7 M)=
 ob (z5 P T k lo F.z7k [.i (i64.wrap (x7+(i64.wrap (3*(i64.wrap (x4 - x3))))))] M) fun r53=>
 ob ((some r53.1).bind (Value.int? .i64)) fun x54=>
 ob (z5 P T k lo F.z7k [.i (i64.wrap (x54+4))] r53.2) fun r55=>
 ob ((some r55.1).bind (Value.int? .i64)) fun x56=>
 ob ((r55.2.ld a1).bind Value.slc?) fun s57=>
 ob (z5 P T k lo F.z1p [.s s57.a s57.n s57.c] r55.2) fun r58=>
 ob ((some r58.1).bind Value.slc?) fun s59=>
 ob ((r58.2 ++ [⟨.fx,[.s none 0 0]⟩]:Mem).st lo ⟨r58.2.length,0,none⟩ [.s s59.a s59.n s59.c]) fun M60=>
 ob (z5 P T k lo F.z7j [.i 0,.i (i64.wrap (x4 - (yz .i64 x56 3))),.pointer (some ⟨r58.2.length,0,none⟩),.pointer (some a1)] M60) fun r61=>
 ob (r61.1.tup? 0) fun l62=>
 ob (z5 P T k lo F.z7k [.i (i64.wrap (x54+3))] r61.2) fun r63=>
 ob ((some r63.1).bind (Value.int? .i64)) fun x64=>
 ob (z5 P T k lo F.z7j [.i (-1),.i (i64.wrap (x3+(yz .i64 x64 3))),.pointer (some ⟨r58.2.length,0,none⟩),.pointer (some a1)] r63.2) fun r65=>
 ob (r65.1.tup? 0) fun l66=>
 bb (!b6)
 (ob (z5 P T k lo F.z7j [.i 1,.i (i64.wrap (x5 - (yz .i64 (i64.wrap ((yz .i64 x56 3)+1)) 1))),.pointer (some ⟨r58.2.length,0,none⟩),.pointer (some a1)] r65.2) fun r67=>
 ob (r67.1.tup? 0) fun l68=>
 ob (z5 P T k lo F.z7j [.i (-2),.i (i64.wrap (x2+(yz .i64 (i64.wrap ((yz .i64 x56 3)+1)) 1))),.pointer (some ⟨r58.2.length,0,none⟩),.pointer (some a1)] r67.2) fun r69=>
 ob (r69.1.tup? 0) fun l70=>
 some (yj.Cb ⟨r58.2.length,0,none⟩ r69.2))
 (some (yj.Cb ⟨r58.2.length,0,none⟩ r65.2)):=by kernel_rfl
theorem yj.Pb:pz P T k lo F.yj (yj.Cb a1 M)=
 ob ((M.ld a1).bind Value.slc?) fun s71=>
 some (.ret (.s s71.a s71.n s71.c) M):=by kernel_rfl
theorem zlg.entry:entry P T k lo F.zlg [.i x1] M=
 some (.ret (.i (i64.wrap (Int.tdiv (i64.wrap ((i64.wrap (x1+64)) - 1)) 64))) M):=by kernel_rfl
theorem zb2.entry:entry P T k lo F.zb2 [.i x1,.i x2,.i x3] M=
 bb (decide (x1 ≥ x2))
 (some (.ret (.b (decide (x1≤x3))) M))
 (some (.ret (.b false) M)):=by kernel_rfl
theorem z49.entry:entry P T k lo F.z49 [.s A1 n2 c3,v4] M=
 ob (z5 P T k lo F.j9 [.s A1 n2 c3,v4] M) fun r10=>
 ob ((some r10.1).bind (Value.int? .i64)) fun x11=>
 some (.ret (.b (decide (x11 ≥ 0))) r10.2):=by kernel_rfl
theorem zle.entry:entry P T k lo F.zle [.i x1,.pointer (some a2)] M=
 ob ((M.ld (plus a2 26)).bind Value.slc?) fun s8=>
 ob (z5 P T k lo F.zb2 [.i x1,.i 0,.i (i64.wrap ((s8.n:Int) - 1))] M) fun r9=>
 ob ((some r9.1).bind Value.bool?) fun b10=>
 some (.ret (.b (!b10)) r9.2):=by kernel_rfl
theorem zhm.entry:entry P T k lo F.zhm [.agg ⟨[.i x1,.i x2,.s A3 n4 c5]⟩,.agg ⟨[.i x6,.i x7,.i x8,.i x9]⟩] M=
 ob (z5 P T k lo F.zir [.agg ⟨[.i x1,.i x2,.s A3 n4 c5]⟩] M) fun r15=>
 ob ((some r15.1).bind (Value.int? .i64)) fun x16=>
 bb (x16 == 0)
 (bb (decide (x8 ≥ 1))
 (bb (decide (x9 ≥ 1))
 (bb (decide (x6 ≥ 0))
 (bb (decide (x7 ≥ 0))
 (bb (decide (x8≤x1))
 (bb (decide (x9≤x2))
 (bb (decide (x6≤i64.wrap (x1 - x8)))
 (some (.ret (.b (decide (x7≤i64.wrap (x2 - x9)))) r15.2))
 (some (.ret (.b false) r15.2)))
 (some (.ret (.b false) r15.2)))
 (some (.ret (.b false) r15.2)))
 (some (.ret (.b false) r15.2)))
 (some (.ret (.b false) r15.2)))
 (some (.ret (.b false) r15.2)))
 (some (.ret (.b false) r15.2)))
 (some (.ret (.b false) r15.2)):=by kernel_rfl
theorem znz.entry:entry P T k lo F.znz [.agg ⟨[.i x1,.i x2,.s A3 n4 c5]⟩,.agg ⟨[.i x6,.i x7,.i x8,.i x9]⟩,.i x10] M=
 pb (0≤i64.wrap ((i64.wrap ((i64.wrap (x7+x10))*x1))+x6)∧i64.wrap ((i64.wrap ((i64.wrap (x7+x10))*x1))+x6)≤i64.wrap ((i64.wrap ((i64.wrap ((i64.wrap (x7+x10))*x1))+x6))+x8)∧i64.wrap ((i64.wrap ((i64.wrap ((i64.wrap (x7+x10))*x1))+x6))+x8)≤i64.wrap ((i64.wrap ((i64.wrap ((i64.wrap (x7+x10))*x1))+x6))+x8)∧i64.wrap ((i64.wrap ((i64.wrap ((i64.wrap (x7+x10))*x1))+x6))+x8)≤(c5:Int))
 (some (.ret (.s (z3x 1 A3 ((i64.wrap ((i64.wrap ((i64.wrap (x7+x10))*x1))+x6)).toNat) ((i64.wrap ((i64.wrap ((i64.wrap ((i64.wrap (x7+x10))*x1))+x6))+x8)).toNat)) (((i64.wrap ((i64.wrap ((i64.wrap ((i64.wrap (x7+x10))*x1))+x6))+x8)).toNat) - ((i64.wrap ((i64.wrap ((i64.wrap (x7+x10))*x1))+x6)).toNat)) (((i64.wrap ((i64.wrap ((i64.wrap ((i64.wrap (x7+x10))*x1))+x6))+x8)).toNat) - ((i64.wrap ((i64.wrap ((i64.wrap (x7+x10))*x1))+x6)).toNat))) M)) none:=by kernel_rfl
theorem zli.entry:entry P T k lo F.zli [.i x1,.i x2] M=
 some (.ret (.agg ⟨[.i (i64.wrap (x1+x2)),.i (i64.wrap (x1+(i64.wrap (Int.tdiv x2 2)))),.i x1,.i (i64.wrap ((i64.wrap (3+x1)) - (i64.wrap (Int.tdiv x2 2)))),.i (i64.wrap ((i64.wrap (7+x1)) - x2)),.i (i64.wrap ((i64.wrap (3 - (i64.wrap (Int.tdiv x1 2))))+x2)),.i x2,.i (i64.wrap ((i64.wrap (Int.tdiv x1 2))+x2))]⟩) M):=by kernel_rfl
theorem zf8.entry:entry P T k lo F.zf8 [.int .u64 x1] M=
 ob (z5 P T k lo F.yf [.int .u64 x1] M) fun r7=>
 ob ((some r7.1).bind (Value.int? .i64)) fun x8=>
 some (.ret (.i x8) r7.2):=by kernel_rfl
theorem qr.entry:entry P T k lo F.qr [.i x1,.i x2,.i x3] M=
 ob (z5 P T k lo F.zlh [] M) fun r9=>
 ob ((some r9.1).bind (Value.agg? 32)) fun l10=>
 ob ((l10[0]?).bind (Value.int? .i64)) fun x11=>
 ob ((l10[1]?).bind (Value.int? .i64)) fun x12=>
 ob ((l10[2]?).bind (Value.int? .i64)) fun x13=>
 ob ((l10[3]?).bind (Value.int? .i64)) fun x14=>
 ob ((l10[4]?).bind (Value.int? .i64)) fun x15=>
 ob ((l10[5]?).bind (Value.int? .i64)) fun x16=>
 ob ((l10[6]?).bind (Value.int? .i64)) fun x17=>
 ob ((l10[7]?).bind (Value.int? .i64)) fun x18=>
 ob ((l10[8]?).bind (Value.int? .i64)) fun x19=>
 ob ((l10[9]?).bind (Value.int? .i64)) fun x20=>
 ob ((l10[10]?).bind (Value.int? .i64)) fun x21=>
 ob ((l10[11]?).bind (Value.int? .i64)) fun x22=>
 ob ((l10[12]?).bind (Value.int? .i64)) fun x23=>
 ob ((l10[13]?).bind (Value.int? .i64)) fun x24=>
 ob ((l10[14]?).bind (Value.int? .i64)) fun x25=>
 ob ((l10[15]?).bind (Value.int? .i64)) fun x26=>
 ob ((l10[16]?).bind (Value.int? .i64)) fun x27=>
 ob ((l10[17]?).bind (Value.int? .i64)) fun x28=>
 ob ((l10[18]?).bind (Value.int? .i64)) fun x29=>
 ob ((l10[19]?).bind (Value.int? .i64)) fun x30=>
 ob ((l10[20]?).bind (Value.int? .i64)) fun x31=>
 ob ((l10[21]?).bind (Value.int? .i64)) fun x32=>
 ob ((l10[22]?).bind (Value.int? .i64)) fun x33=>
 ob ((l10[23]?).bind (Value.int? .i64)) fun x34=>
 ob ((l10[24]?).bind (Value.int? .i64)) fun x35=>
 ob ((l10[25]?).bind (Value.int? .i64)) fun x36=>
 ob ((l10[26]?).bind (Value.int? .i64)) fun x37=>
 ob ((l10[27]?).bind (Value.int? .i64)) fun x38=>
 ob ((l10[28]?).bind (Value.int? .i64)) fun x39=>
 ob ((l10[29]?).bind (Value.int? .i64)) fun x40=>
 ob ((l10[30]?).bind (Value.int? .i64)) fun x41=>
 ob ((l10[31]?).bind (Value.int? .i64)) fun x42=>
 bb (Int.tmod x2 2 == 1)
 (some (qr.Ca x1 x2 x3 x11 x12 x13 x14 x15 x16 x17 x18 x19 x20 x21 x22 x23 x24 x25 x26 x27 x28 x29 x30 x31 x32 x33 x34 x35 x36 x37 x38 x39 x40 x41 x42 3 3 r9.2))
 (some (qr.Ca x1 x2 x3 x11 x12 x13 x14 x15 x16 x17 x18 x19 x20 x21 x22 x23 x24 x25 x26 x27 x28 x29 x30 x31 x32 x33 x34 x35 x36 x37 x38 x39 x40 x41 x42 4 2 r9.2)):=by kernel_rfl
theorem qr.Pa:pz P T k lo F.qr (qr.Ca x1 x2 x3 x4 x5 x6 x7 x8 x9 x10 x11 x12 x13 x14 x15 x16 x17 x18 x19 x20 x21 x22 x23 x24 x25 x26 x27 x28 x29 x30 x31 x32 x33 x34 x35 x36 x37 M)=
 some (qr.Cb x1 x2 x3 none 0 0 0 x4 x5 x6 x7 x8 x9 x10 x11 x12 x13 x14 x15 x16 x17 x18 x19 x20 x21 x22 x23 x24 x25 x26 x27 x28 x29 x30 x31 x32 x33 x34 x35 x36 x37 M):=by kernel_rfl
theorem qr.Pb:pz P T k lo F.qr (qr.Cb x1 x2 x3 A4 n5 c6 x7 x8 x9 x10 x11 x12 x13 x14 x15 x16 x17 x18 x19 x20 x21 x22 x23 x24 x25 x26 x27 x28 x29 x30 x31 x32 x33 x34 x35 x36 x37 x38 x39 x40 x41 M)=
 bb (decide (x7 < 2))
 (pb (0≤x1∧x1 < (8:Int))
 (pb (0≤x7∧x7 < (2:Int))
 (ob ((([.i x8,.i x9,.i x10,.i x11,.i x12,.i x13,.i x14,.i x15,.i x16,.i x17,.i x18,.i x19,.i x20,.i x21,.i x22,.i x23,.i x24,.i x25,.i x26,.i x27,.i x28,.i x29,.i x30,.i x31,.i x32,.i x33,.i x34,.i x35,.i x36,.i x37,.i x38,.i x39]:List Value)[0+(x1.toNat*4)+(x7.toNat*2)+0]?).bind (Value.int? .i64)) fun x43=>
 ob ((([.i x8,.i x9,.i x10,.i x11,.i x12,.i x13,.i x14,.i x15,.i x16,.i x17,.i x18,.i x19,.i x20,.i x21,.i x22,.i x23,.i x24,.i x25,.i x26,.i x27,.i x28,.i x29,.i x30,.i x31,.i x32,.i x33,.i x34,.i x35,.i x36,.i x37,.i x38,.i x39]:List Value)[0+(x1.toNat*4)+(x7.toNat*2)+1]?).bind (Value.int? .i64)) fun x44=>
 pb (0≤x7∧x7 < (2:Int))
 (ob ((([.i x40,.i x41]:List Value)[0+x7.toNat+0]?).bind (Value.int? .i64)) fun x45=>
 pb (0≤Int.tmod (i64.wrap (x1+2)) 8∧Int.tmod (i64.wrap (x1+2)) 8 < (8:Int))
 (pb (0≤x7∧x7 < (2:Int))
 (ob ((([.i x8,.i x9,.i x10,.i x11,.i x12,.i x13,.i x14,.i x15,.i x16,.i x17,.i x18,.i x19,.i x20,.i x21,.i x22,.i x23,.i x24,.i x25,.i x26,.i x27,.i x28,.i x29,.i x30,.i x31,.i x32,.i x33,.i x34,.i x35,.i x36,.i x37,.i x38,.i x39]:List Value)[0+((Int.tmod (i64.wrap (x1+2)) 8).toNat*4)+(x7.toNat*2)+0]?).bind (Value.int? .i64)) fun x46=>
 ob ((([.i x8,.i x9,.i x10,.i x11,.i x12,.i x13,.i x14,.i x15,.i x16,.i x17,.i x18,.i x19,.i x20,.i x21,.i x22,.i x23,.i x24,.i x25,.i x26,.i x27,.i x28,.i x29,.i x30,.i x31,.i x32,.i x33,.i x34,.i x35,.i x36,.i x37,.i x38,.i x39]:List Value)[0+((Int.tmod (i64.wrap (x1+2)) 8).toNat*4)+(x7.toNat*2)+1]?).bind (Value.int? .i64)) fun x47=>
 pb (0≤Int.tmod (i64.wrap ((i64.wrap (x1+8)) - 2)) 8∧Int.tmod (i64.wrap ((i64.wrap (x1+8)) - 2)) 8 < (8:Int))
 (pb (0≤x7∧x7 < (2:Int))
 (ob ((([.i x8,.i x9,.i x10,.i x11,.i x12,.i x13,.i x14,.i x15,.i x16,.i x17,.i x18,.i x19,.i x20,.i x21,.i x22,.i x23,.i x24,.i x25,.i x26,.i x27,.i x28,.i x29,.i x30,.i x31,.i x32,.i x33,.i x34,.i x35,.i x36,.i x37,.i x38,.i x39]:List Value)[0+((Int.tmod (i64.wrap ((i64.wrap (x1+8)) - 2)) 8).toNat*4)+(x7.toNat*2)+0]?).bind (Value.int? .i64)) fun x48=>
 ob ((([.i x8,.i x9,.i x10,.i x11,.i x12,.i x13,.i x14,.i x15,.i x16,.i x17,.i x18,.i x19,.i x20,.i x21,.i x22,.i x23,.i x24,.i x25,.i x26,.i x27,.i x28,.i x29,.i x30,.i x31,.i x32,.i x33,.i x34,.i x35,.i x36,.i x37,.i x38,.i x39]:List Value)[0+((Int.tmod (i64.wrap ((i64.wrap (x1+8)) - 2)) 8).toNat*4)+(x7.toNat*2)+1]?).bind (Value.int? .i64)) fun x49=>
 ob (M.app lo 4 32 ⟨A4,n5,c6⟩ ([.i x43,.i x44,.i x2,.i x45,.i x46,.i x47,.i x3,.i (i64.wrap (2 - x7)),.i x48,.i x49,.i x3,.i (i64.wrap (2 - x7))]) 3) fun r50=>
 some (qr.Cb x1 x2 x3 r50.1.a r50.1.n r50.1.c (i64.wrap (x7+1)) x8 x9 x10 x11 x12 x13 x14 x15 x16 x17 x18 x19 x20 x21 x22 x23 x24 x25 x26 x27 x28 x29 x30 x31 x32 x33 x34 x35 x36 x37 x38 x39 x40 x41 r50.2)) none) none) none) none) none) none) none)
 (some (.ret (.s A4 n5 c6) M)):=by kernel_rfl
theorem y5.entry:entry P T k lo F.y5 [.agg ⟨[.i x1,.i x2,.s A3 n4 c5]⟩,.i x6,.i x7,.s A8 n9 c10,.i x11] M=
 pb (0≤i64.wrap ((i64.wrap (x7*x1))+x6)∧i64.wrap ((i64.wrap (x7*x1))+x6) < (n4:Int))
 (ob A3 fun a17=>
 ob ((M.ld (plus a17 ((i64.wrap ((i64.wrap (x7*x1))+x6)).toNat))).bind (Value.int? .u8)) fun x18=>
 some (y5.Cb x6 x7 x11 (i64.wrap x18) 0 (i64.wrap x18) (i64.wrap x18) A8 n9 c10 (n9:Int) 0 x1 x2 A3 n4 c5 M)) none:=by kernel_rfl
theorem y5.Pa:pz P T k lo F.y5 (y5.Ca x1 x2 x3 x4 M)=
 ob (z5 P T k lo F.zo1 [.i (i64.wrap (x1+(yz .i64 (i64.wrap (8+x2)) 4))),.i x3,.i x4] M) fun r24=>
 ob ((some r24.1).bind (Value.int? .i64)) fun x25=>
 some (.ret (.int .u8 (u8.wrap x25)) r24.2):=by kernel_rfl
theorem y5.Pb:pz P T k lo F.y5 (y5.Cb x1 x2 x3 x4 x5 x6 x7 A8 n9 c10 x11 x12 x13 x14 A15 n16 c17 M)=
 bb (decide (x12 < x11))
 (pb (0≤x12∧x12 < (n9:Int))
 (ob A8 fun a19=>
 ob ((M.ld (plus a19 (x12.toNat*4))).bind (Value.int? .i64)) fun x20=>
 ob ((M.ld (plus (plus a19 (x12.toNat*4)) 1)).bind (Value.int? .i64)) fun x21=>
 ob ((M.ld (plus (plus a19 (x12.toNat*4)) 2)).bind (Value.int? .i64)) fun x22=>
 ob ((M.ld (plus (plus a19 (x12.toNat*4)) 3)).bind (Value.int? .i64)) fun x23=>
 some (y5.Cc x1 x2 x3 x4 x5 x6 x7 A8 n9 c10 x11 x12 1 (-1) 0 x13 x14 A15 n16 c17 x20 x21 x22 x23 M)) none)
 (bb (decide (x5 < 0))
 (some (y5.Ca x4 (i64.wrap (x5 - 1)) x6 x7 M))
 (some (y5.Ca x4 x5 x6 x7 M))):=by kernel_rfl
theorem y5.Pc:pz P T k lo F.y5 (y5.Cc x1 x2 x3 x4 x5 x6 x7 A8 n9 c10 x11 x12 x13 x14 x15 x16 x17 A18 n19 c20 x21 x22 x23 x24 M)=
 bb (decide (x15 < 2))
 (pb (0≤x15∧x15 < (2:Int))
 (ob ((([.i x13,.i x14]:List Value)[x15.toNat+0]?).bind (Value.int? .i64)) fun x26=>
 ob (z5 P T k lo F.zb2 [.i (i64.wrap (x1+(i64.wrap (x26*x22)))),.i 0,.i (i64.wrap (x16 - 1))] M) fun r27=>
 ob ((some r27.1).bind Value.bool?) fun b28=>
 bb (!b28)
 (some (y5.Cd x1 x2 x3 x4 x5 x6 x7 A8 n9 c10 x11 x12 x13 x14 x15 x16 x17 A18 n19 c20 x21 x22 x23 x24 r27.2))
 (ob (z5 P T k lo F.zb2 [.i (i64.wrap (x2+(i64.wrap (x26*x21)))),.i 0,.i (i64.wrap (x17 - 1))] r27.2) fun r29=>
 ob ((some r29.1).bind Value.bool?) fun b30=>
 bb (!b30)
 (some (y5.Cd x1 x2 x3 x4 x5 x6 x7 A8 n9 c10 x11 x12 x13 x14 x15 x16 x17 A18 n19 c20 x21 x22 x23 x24 r29.2))
 (pb (0≤i64.wrap ((i64.wrap ((i64.wrap (x2+(i64.wrap (x26*x21))))*x16))+(i64.wrap (x1+(i64.wrap (x26*x22)))))∧i64.wrap ((i64.wrap ((i64.wrap (x2+(i64.wrap (x26*x21))))*x16))+(i64.wrap (x1+(i64.wrap (x26*x22))))) < (n19:Int))
 (ob A18 fun a31=>
 ob ((r29.2.ld (plus a31 ((i64.wrap ((i64.wrap ((i64.wrap (x2+(i64.wrap (x26*x21))))*x16))+(i64.wrap (x1+(i64.wrap (x26*x22)))))).toNat))).bind (Value.int? .u8)) fun x32=>
 ob (z5 P T k r29.2.length F.zlf [.i (i64.wrap ((i64.wrap x32) - x4)),.i x23,.i x3] r29.2) fun r33=>
 ob ((some r33.1).bind (Value.int? .i64)) fun x34=>
 some (y5.Cd x1 x2 x3 x4 (i64.wrap (x5+(i64.wrap (x24*x34)))) (zq x6 (i64.wrap x32)) (yv x7 (i64.wrap x32)) A8 n9 c10 x11 x12 x13 x14 x15 x16 x17 A18 n19 c20 x21 x22 x23 x24 r33.2)) none))) none)
 (some (y5.Cb x1 x2 x3 x4 x5 x6 x7 A8 n9 c10 x11 (i64.wrap (x12+1)) x16 x17 A18 n19 c20 M)):=by kernel_rfl
theorem y5.Pd:pz P T k lo F.y5 (y5.Cd x1 x2 x3 x4 x5 x6 x7 A8 n9 c10 x11 x12 x13 x14 x15 x16 x17 A18 n19 c20 x21 x22 x23 x24 M)=
 some (y5.Cc x1 x2 x3 x4 x5 x6 x7 A8 n9 c10 x11 x12 x13 x14 (i64.wrap (x15+1)) x16 x17 A18 n19 c20 x21 x22 x23 x24 M):=by kernel_rfl
theorem ya.entry:entry P T k lo F.ya [.s A1 n2 c3,v4] M=
 some (ya.Ca A1 n2 c3 v4 (n2:Int) 0 M):=by kernel_rfl
theorem ya.Pa:pz P T k lo F.ya (ya.Ca A1 n2 c3 v4 x5 x6 M)=
 bb (decide (x6 < x5))
 (pb (0≤x6∧x6 < (n2:Int))
 (ob A1 fun a10=>
 ob ((M.ld (plus a10 (x6.toNat*7))).bind Value.bool?) fun b11=>
 ob ((M.ld (plus (plus a10 (x6.toNat*7)) 1)).bind (Value.int? .i64)) fun x12=>
 ob ((M.ld (plus (plus a10 (x6.toNat*7)) 2)).bind (Value.int? .i64)) fun x13=>
 ob ((M.ld (plus (plus a10 (x6.toNat*7)) 3)).bind (Value.int? .i64)) fun x14=>
 ob ((M.ld (plus (plus a10 (x6.toNat*7)) 4)).bind (Value.int? .i64)) fun x15=>
 ob ((M.ld (plus (plus a10 (x6.toNat*7)) 5)).bind (Value.int? .i64)) fun x16=>
 ob ((M.ld (plus (plus a10 (x6.toNat*7)) 6)).bind (Value.int? .i64)) fun x17=>
 ob (Value.fun? v4) fun q19=>
 ob (z5 P T k lo q19.1 (q19.2.1 ++ [.agg ⟨[.b b11,.i x12,.i x13,.i x14,.i x15,.i x16,.i x17]⟩] ++ q19.2.2) M) fun r18=>
 ob ((some r18.1).bind Value.bool?) fun b20=>
 bb b20
 (some (.ret (.i x6) r18.2))
 (some (ya.Ca A1 n2 c3 v4 x5 (i64.wrap (x6+1)) r18.2))) none)
 (some (.ret (.i (-1)) M)):=by kernel_rfl
theorem zds.entry:entry P T k lo F.zds [.agg ⟨[.i x1,.i x2,.i x3]⟩] M=
 ob (z5 P T k lo F.zfa [.i x1,.i (-5),.i 10] M) fun r9=>
 ob ((some r9.1).bind Value.bool?) fun b10=>
 bb b10
 (ob (z5 P T k lo F.zfa [.i x2,.i (-23),.i 8] r9.2) fun r11=>
 ob ((some r11.1).bind Value.bool?) fun b12=>
 bb b12
 (ob (z5 P T k lo F.zfa [.i x3,.i (-17),.i 46] r11.2) fun r13=>
 ob ((some r13.1).bind Value.bool?) fun b14=>
 some (.ret (.b b14) r13.2))
 (some (.ret (.b false) r11.2)))
 (some (.ret (.b false) r9.2)):=by kernel_rfl
theorem zbv.entry:entry P T k lo F.zbv [.int .u8 x1] M=
 bb (x1 == 4)
 (some (.ret (.b true) M))
 (bb (x1 == 8)
 (some (.ret (.b true) M))
 (bb (x1 == 16)
 (some (.ret (.b true) M))
 (bb (x1 == 32)
 (some (.ret (.b true) M))
 (some (.ret (.b (x1 == 64)) M))))):=by kernel_rfl
theorem z9x.entry:entry P T k lo F.z9x [.s A1 n2 c3,.i x4,.i x5,.i x6] M=
 bb (x4 != 4)
 (bb (x4 != 6)
 (bb (x4 != 8)
 (bb (x4 != 14)
 (some (.ret (.tuple ⟨[.s none 0 0,.i 2]⟩) M))
 (bb ((n2:Int) != x4)
 (some (.ret (.tuple ⟨[.s none 0 0,.i 2]⟩) M))
 (bb (decide (x5 < 0))
 (some (.ret (.tuple ⟨[.s none 0 0,.i 2]⟩) M))
 (bb (decide (x5 > 63))
 (some (.ret (.tuple ⟨[.s none 0 0,.i 2]⟩) M))
 (bb (decide (x6 < 0))
 (some (.ret (.tuple ⟨[.s none 0 0,.i 2]⟩) M))
 (bb (decide (x6 > 7))
 (some (.ret (.tuple ⟨[.s none 0 0,.i 2]⟩) M))
 (ob (z5 P T k lo F.z6z [.s A1 n2 c3,.i x4,.i x5,.i x6] M) fun r12=>
 ob ((some r12.1).bind Value.bool?) fun b13=>
 bb (!b13)
 (ob (z5 P T k lo F.z64 [.s A1 n2 c3] r12.2) fun r14=>
 ob ((some r14.1).bind Value.slc?) fun s15=>
 some (.ret (.tuple ⟨[.s s15.a s15.n s15.c,.i 0]⟩) r14.2))
 (bb (x4 == 6)
 (ob (z5 P T k lo F.jz [.s A1 n2 c3,.i 1,.i 2] r12.2) fun r16=>
 ob ((some r16.1).bind Value.bool?) fun b17=>
 bb b17
 (ob (z5 P T k lo F.zd [.s A1 n2 c3,.i 2] r16.2) fun r18=>
 ob ((some r18.1).bind Value.slc?) fun s19=>
 some (.ret (.tuple ⟨[.s s19.a s19.n s19.c,.i 0]⟩) r18.2))
 (bb (decide (x4 ≥ 8))
 (ob (z5 P T k lo F.jz [.s A1 n2 c3,.i 1,.i 3] r16.2) fun r20=>
 ob ((some r20.1).bind Value.bool?) fun b21=>
 bb b21
 (bb (x4 == 14)
 (ob (z5 P T k lo F.jz [.s A1 n2 c3,.i 4,.i 6] r20.2) fun r22=>
 ob ((some r22.1).bind Value.bool?) fun b23=>
 bb b23
 (ob (z5 P T k lo F.zd [.s A1 n2 c3,.i 6] r22.2) fun r24=>
 ob ((some r24.1).bind Value.slc?) fun s25=>
 some (.ret (.tuple ⟨[.s s25.a s25.n s25.c,.i 0]⟩) r24.2))
 (ob (z5 P T k lo F.zd [.s A1 n2 c3,.i 3] r22.2) fun r26=>
 ob ((some r26.1).bind Value.slc?) fun s27=>
 some (.ret (.tuple ⟨[.s s27.a s27.n s27.c,.i 0]⟩) r26.2)))
 (ob (z5 P T k lo F.zd [.s A1 n2 c3,.i 3] r20.2) fun r28=>
 ob ((some r28.1).bind Value.slc?) fun s29=>
 some (.ret (.tuple ⟨[.s s29.a s29.n s29.c,.i 0]⟩) r28.2)))
 (ob (z5 P T k lo F.yd [.s A1 n2 c3,.i x5] r20.2) fun r30=>
 ob ((some r30.1).bind Value.slc?) fun s31=>
 some (.ret (.tuple ⟨[.s s31.a s31.n s31.c,.i 0]⟩) r30.2)))
 (ob (z5 P T k lo F.yd [.s A1 n2 c3,.i x5] r16.2) fun r32=>
 ob ((some r32.1).bind Value.slc?) fun s33=>
 some (.ret (.tuple ⟨[.s s33.a s33.n s33.c,.i 0]⟩) r32.2))))
 (bb (decide (x4 ≥ 8))
 (ob (z5 P T k lo F.jz [.s A1 n2 c3,.i 1,.i 3] r12.2) fun r34=>
 ob ((some r34.1).bind Value.bool?) fun b35=>
 bb b35
 (bb (x4 == 14)
 (ob (z5 P T k lo F.jz [.s A1 n2 c3,.i 4,.i 6] r34.2) fun r36=>
 ob ((some r36.1).bind Value.bool?) fun b37=>
 bb b37
 (ob (z5 P T k lo F.zd [.s A1 n2 c3,.i 6] r36.2) fun r38=>
 ob ((some r38.1).bind Value.slc?) fun s39=>
 some (.ret (.tuple ⟨[.s s39.a s39.n s39.c,.i 0]⟩) r38.2))
 (ob (z5 P T k lo F.zd [.s A1 n2 c3,.i 3] r36.2) fun r40=>
 ob ((some r40.1).bind Value.slc?) fun s41=>
 some (.ret (.tuple ⟨[.s s41.a s41.n s41.c,.i 0]⟩) r40.2)))
 (ob (z5 P T k lo F.zd [.s A1 n2 c3,.i 3] r34.2) fun r42=>
 ob ((some r42.1).bind Value.slc?) fun s43=>
 some (.ret (.tuple ⟨[.s s43.a s43.n s43.c,.i 0]⟩) r42.2)))
 (ob (z5 P T k lo F.yd [.s A1 n2 c3,.i x5] r34.2) fun r44=>
 ob ((some r44.1).bind Value.slc?) fun s45=>
 some (.ret (.tuple ⟨[.s s45.a s45.n s45.c,.i 0]⟩) r44.2)))
 (ob (z5 P T k lo F.yd [.s A1 n2 c3,.i x5] r12.2) fun r46=>
 ob ((some r46.1).bind Value.slc?) fun s47=>
 some (.ret (.tuple ⟨[.s s47.a s47.n s47.c,.i 0]⟩) r46.2)))))))))))
 (bb ((n2:Int) != x4)
 (some (.ret (.tuple ⟨[.s none 0 0,.i 2]⟩) M))
 (bb (decide (x5 < 0))
 (some (.ret (.tuple ⟨[.s none 0 0,.i 2]⟩) M))
 (bb (decide (x5 > 63))
 (some (.ret (.tuple ⟨[.s none 0 0,.i 2]⟩) M))
 (bb (decide (x6 < 0))
 (some (.ret (.tuple ⟨[.s none 0 0,.i 2]⟩) M))
 (bb (decide (x6 > 7))
 (some (.ret (.tuple ⟨[.s none 0 0,.i 2]⟩) M))
 (ob (z5 P T k lo F.z6z [.s A1 n2 c3,.i x4,.i x5,.i x6] M) fun r48=>
 ob ((some r48.1).bind Value.bool?) fun b49=>
 bb (!b49)
 (ob (z5 P T k lo F.z64 [.s A1 n2 c3] r48.2) fun r50=>
 ob ((some r50.1).bind Value.slc?) fun s51=>
 some (.ret (.tuple ⟨[.s s51.a s51.n s51.c,.i 0]⟩) r50.2))
 (bb (x4 == 6)
 (ob (z5 P T k lo F.jz [.s A1 n2 c3,.i 1,.i 2] r48.2) fun r52=>
 ob ((some r52.1).bind Value.bool?) fun b53=>
 bb b53
 (ob (z5 P T k lo F.zd [.s A1 n2 c3,.i 2] r52.2) fun r54=>
 ob ((some r54.1).bind Value.slc?) fun s55=>
 some (.ret (.tuple ⟨[.s s55.a s55.n s55.c,.i 0]⟩) r54.2))
 (bb (decide (x4 ≥ 8))
 (ob (z5 P T k lo F.jz [.s A1 n2 c3,.i 1,.i 3] r52.2) fun r56=>
 ob ((some r56.1).bind Value.bool?) fun b57=>
 bb b57
 (bb (x4 == 14)
 (ob (z5 P T k lo F.jz [.s A1 n2 c3,.i 4,.i 6] r56.2) fun r58=>
 ob ((some r58.1).bind Value.bool?) fun b59=>
 bb b59
 (ob (z5 P T k lo F.zd [.s A1 n2 c3,.i 6] r58.2) fun r60=>
 ob ((some r60.1).bind Value.slc?) fun s61=>
 some (.ret (.tuple ⟨[.s s61.a s61.n s61.c,.i 0]⟩) r60.2))
 (ob (z5 P T k lo F.zd [.s A1 n2 c3,.i 3] r58.2) fun r62=>
 ob ((some r62.1).bind Value.slc?) fun s63=>
 some (.ret (.tuple ⟨[.s s63.a s63.n s63.c,.i 0]⟩) r62.2)))
 (ob (z5 P T k lo F.zd [.s A1 n2 c3,.i 3] r56.2) fun r64=>
 ob ((some r64.1).bind Value.slc?) fun s65=>
 some (.ret (.tuple ⟨[.s s65.a s65.n s65.c,.i 0]⟩) r64.2)))
 (ob (z5 P T k lo F.yd [.s A1 n2 c3,.i x5] r56.2) fun r66=>
 ob ((some r66.1).bind Value.slc?) fun s67=>
 some (.ret (.tuple ⟨[.s s67.a s67.n s67.c,.i 0]⟩) r66.2)))
 (ob (z5 P T k lo F.yd [.s A1 n2 c3,.i x5] r52.2) fun r68=>
 ob ((some r68.1).bind Value.slc?) fun s69=>
 some (.ret (.tuple ⟨[.s s69.a s69.n s69.c,.i 0]⟩) r68.2))))
 (bb (decide (x4 ≥ 8))
 (ob (z5 P T k lo F.jz [.s A1 n2 c3,.i 1,.i 3] r48.2) fun r70=>
 ob ((some r70.1).bind Value.bool?) fun b71=>
 bb b71
 (bb (x4 == 14)
 (ob (z5 P T k lo F.jz [.s A1 n2 c3,.i 4,.i 6] r70.2) fun r72=>
 ob ((some r72.1).bind Value.bool?) fun b73=>
 bb b73
 (ob (z5 P T k lo F.zd [.s A1 n2 c3,.i 6] r72.2) fun r74=>
 ob ((some r74.1).bind Value.slc?) fun s75=>
 some (.ret (.tuple ⟨[.s s75.a s75.n s75.c,.i 0]⟩) r74.2))
 (ob (z5 P T k lo F.zd [.s A1 n2 c3,.i 3] r72.2) fun r76=>
 ob ((some r76.1).bind Value.slc?) fun s77=>
 some (.ret (.tuple ⟨[.s s77.a s77.n s77.c,.i 0]⟩) r76.2)))
 (ob (z5 P T k lo F.zd [.s A1 n2 c3,.i 3] r70.2) fun r78=>
 ob ((some r78.1).bind Value.slc?) fun s79=>
 some (.ret (.tuple ⟨[.s s79.a s79.n s79.c,.i 0]⟩) r78.2)))
 (ob (z5 P T k lo F.yd [.s A1 n2 c3,.i x5] r70.2) fun r80=>
 ob ((some r80.1).bind Value.slc?) fun s81=>
 some (.ret (.tuple ⟨[.s s81.a s81.n s81.c,.i 0]⟩) r80.2)))
 (ob (z5 P T k lo F.yd [.s A1 n2 c3,.i x5] r48.2) fun r82=>
 ob ((some r82.1).bind Value.slc?) fun s83=>
 some (.ret (.tuple ⟨[.s s83.a s83.n s83.c,.i 0]⟩) r82.2)))))))))))
 (bb ((n2:Int) != x4)
 (some (.ret (.tuple ⟨[.s none 0 0,.i 2]⟩) M))
 (bb (decide (x5 < 0))
 (some (.ret (.tuple ⟨[.s none 0 0,.i 2]⟩) M))
 (bb (decide (x5 > 63))
 (some (.ret (.tuple ⟨[.s none 0 0,.i 2]⟩) M))
 (bb (decide (x6 < 0))
 (some (.ret (.tuple ⟨[.s none 0 0,.i 2]⟩) M))
 (bb (decide (x6 > 7))
 (some (.ret (.tuple ⟨[.s none 0 0,.i 2]⟩) M))
 (ob (z5 P T k lo F.z6z [.s A1 n2 c3,.i x4,.i x5,.i x6] M) fun r84=>
 ob ((some r84.1).bind Value.bool?) fun b85=>
 bb (!b85)
 (ob (z5 P T k lo F.z64 [.s A1 n2 c3] r84.2) fun r86=>
 ob ((some r86.1).bind Value.slc?) fun s87=>
 some (.ret (.tuple ⟨[.s s87.a s87.n s87.c,.i 0]⟩) r86.2))
 (bb (x4 == 6)
 (ob (z5 P T k lo F.jz [.s A1 n2 c3,.i 1,.i 2] r84.2) fun r88=>
 ob ((some r88.1).bind Value.bool?) fun b89=>
 bb b89
 (ob (z5 P T k lo F.zd [.s A1 n2 c3,.i 2] r88.2) fun r90=>
 ob ((some r90.1).bind Value.slc?) fun s91=>
 some (.ret (.tuple ⟨[.s s91.a s91.n s91.c,.i 0]⟩) r90.2))
 (bb (decide (x4 ≥ 8))
 (ob (z5 P T k lo F.jz [.s A1 n2 c3,.i 1,.i 3] r88.2) fun r92=>
 ob ((some r92.1).bind Value.bool?) fun b93=>
 bb b93
 (bb (x4 == 14)
 (ob (z5 P T k lo F.jz [.s A1 n2 c3,.i 4,.i 6] r92.2) fun r94=>
 ob ((some r94.1).bind Value.bool?) fun b95=>
 bb b95
 (ob (z5 P T k lo F.zd [.s A1 n2 c3,.i 6] r94.2) fun r96=>
 ob ((some r96.1).bind Value.slc?) fun s97=>
 some (.ret (.tuple ⟨[.s s97.a s97.n s97.c,.i 0]⟩) r96.2))
 (ob (z5 P T k lo F.zd [.s A1 n2 c3,.i 3] r94.2) fun r98=>
 ob ((some r98.1).bind Value.slc?) fun s99=>
 some (.ret (.tuple ⟨[.s s99.a s99.n s99.c,.i 0]⟩) r98.2)))
 (ob (z5 P T k lo F.zd [.s A1 n2 c3,.i 3] r92.2) fun r100=>
 ob ((some r100.1).bind Value.slc?) fun s101=>
 some (.ret (.tuple ⟨[.s s101.a s101.n s101.c,.i 0]⟩) r100.2)))
 (ob (z5 P T k lo F.yd [.s A1 n2 c3,.i x5] r92.2) fun r102=>
 ob ((some r102.1).bind Value.slc?) fun s103=>
 some (.ret (.tuple ⟨[.s s103.a s103.n s103.c,.i 0]⟩) r102.2)))
 (ob (z5 P T k lo F.yd [.s A1 n2 c3,.i x5] r88.2) fun r104=>
 ob ((some r104.1).bind Value.slc?) fun s105=>
 some (.ret (.tuple ⟨[.s s105.a s105.n s105.c,.i 0]⟩) r104.2))))
 (bb (decide (x4 ≥ 8))
 (ob (z5 P T k lo F.jz [.s A1 n2 c3,.i 1,.i 3] r84.2) fun r106=>
 ob ((some r106.1).bind Value.bool?) fun b107=>
 bb b107
 (bb (x4 == 14)
 (ob (z5 P T k lo F.jz [.s A1 n2 c3,.i 4,.i 6] r106.2) fun r108=>
 ob ((some r108.1).bind Value.bool?) fun b109=>
 bb b109
 (ob (z5 P T k lo F.zd [.s A1 n2 c3,.i 6] r108.2) fun r110=>
 ob ((some r110.1).bind Value.slc?) fun s111=>
 some (.ret (.tuple ⟨[.s s111.a s111.n s111.c,.i 0]⟩) r110.2))
 (ob (z5 P T k lo F.zd [.s A1 n2 c3,.i 3] r108.2) fun r112=>
 ob ((some r112.1).bind Value.slc?) fun s113=>
 some (.ret (.tuple ⟨[.s s113.a s113.n s113.c,.i 0]⟩) r112.2)))
 (ob (z5 P T k lo F.zd [.s A1 n2 c3,.i 3] r106.2) fun r114=>
 ob ((some r114.1).bind Value.slc?) fun s115=>
 some (.ret (.tuple ⟨[.s s115.a s115.n s115.c,.i 0]⟩) r114.2)))
 (ob (z5 P T k lo F.yd [.s A1 n2 c3,.i x5] r106.2) fun r116=>
 ob ((some r116.1).bind Value.slc?) fun s117=>
 some (.ret (.tuple ⟨[.s s117.a s117.n s117.c,.i 0]⟩) r116.2)))
 (ob (z5 P T k lo F.yd [.s A1 n2 c3,.i x5] r84.2) fun r118=>
 ob ((some r118.1).bind Value.slc?) fun s119=>
 some (.ret (.tuple ⟨[.s s119.a s119.n s119.c,.i 0]⟩) r118.2)))))))))))
 (bb ((n2:Int) != x4)
 (some (.ret (.tuple ⟨[.s none 0 0,.i 2]⟩) M))
 (bb (decide (x5 < 0))
 (some (.ret (.tuple ⟨[.s none 0 0,.i 2]⟩) M))
 (bb (decide (x5 > 63))
 (some (.ret (.tuple ⟨[.s none 0 0,.i 2]⟩) M))
 (bb (decide (x6 < 0))
 (some (.ret (.tuple ⟨[.s none 0 0,.i 2]⟩) M))
 (bb (decide (x6 > 7))
 (some (.ret (.tuple ⟨[.s none 0 0,.i 2]⟩) M))
 (ob (z5 P T k lo F.z6z [.s A1 n2 c3,.i x4,.i x5,.i x6] M) fun r120=>
 ob ((some r120.1).bind Value.bool?) fun b121=>
 bb (!b121)
 (ob (z5 P T k lo F.z64 [.s A1 n2 c3] r120.2) fun r122=>
 ob ((some r122.1).bind Value.slc?) fun s123=>
 some (.ret (.tuple ⟨[.s s123.a s123.n s123.c,.i 0]⟩) r122.2))
 (bb (x4 == 6)
 (ob (z5 P T k lo F.jz [.s A1 n2 c3,.i 1,.i 2] r120.2) fun r124=>
 ob ((some r124.1).bind Value.bool?) fun b125=>
 bb b125
 (ob (z5 P T k lo F.zd [.s A1 n2 c3,.i 2] r124.2) fun r126=>
 ob ((some r126.1).bind Value.slc?) fun s127=>
 some (.ret (.tuple ⟨[.s s127.a s127.n s127.c,.i 0]⟩) r126.2))
 (bb (decide (x4 ≥ 8))
 (ob (z5 P T k lo F.jz [.s A1 n2 c3,.i 1,.i 3] r124.2) fun r128=>
 ob ((some r128.1).bind Value.bool?) fun b129=>
 bb b129
 (bb (x4 == 14)
 (ob (z5 P T k lo F.jz [.s A1 n2 c3,.i 4,.i 6] r128.2) fun r130=>
 ob ((some r130.1).bind Value.bool?) fun b131=>
 bb b131
 (ob (z5 P T k lo F.zd [.s A1 n2 c3,.i 6] r130.2) fun r132=>
 ob ((some r132.1).bind Value.slc?) fun s133=>
 some (.ret (.tuple ⟨[.s s133.a s133.n s133.c,.i 0]⟩) r132.2))
 (ob (z5 P T k lo F.zd [.s A1 n2 c3,.i 3] r130.2) fun r134=>
 ob ((some r134.1).bind Value.slc?) fun s135=>
 some (.ret (.tuple ⟨[.s s135.a s135.n s135.c,.i 0]⟩) r134.2)))
 (ob (z5 P T k lo F.zd [.s A1 n2 c3,.i 3] r128.2) fun r136=>
 ob ((some r136.1).bind Value.slc?) fun s137=>
 some (.ret (.tuple ⟨[.s s137.a s137.n s137.c,.i 0]⟩) r136.2)))
 (ob (z5 P T k lo F.yd [.s A1 n2 c3,.i x5] r128.2) fun r138=>
 ob ((some r138.1).bind Value.slc?) fun s139=>
 some (.ret (.tuple ⟨[.s s139.a s139.n s139.c,.i 0]⟩) r138.2)))
 (ob (z5 P T k lo F.yd [.s A1 n2 c3,.i x5] r124.2) fun r140=>
 ob ((some r140.1).bind Value.slc?) fun s141=>
 some (.ret (.tuple ⟨[.s s141.a s141.n s141.c,.i 0]⟩) r140.2))))
 (bb (decide (x4 ≥ 8))
 (ob (z5 P T k lo F.jz [.s A1 n2 c3,.i 1,.i 3] r120.2) fun r142=>
 ob ((some r142.1).bind Value.bool?) fun b143=>
 bb b143
 (bb (x4 == 14)
 (ob (z5 P T k lo F.jz [.s A1 n2 c3,.i 4,.i 6] r142.2) fun r144=>
 ob ((some r144.1).bind Value.bool?) fun b145=>
 bb b145
 (ob (z5 P T k lo F.zd [.s A1 n2 c3,.i 6] r144.2) fun r146=>
 ob ((some r146.1).bind Value.slc?) fun s147=>
 some (.ret (.tuple ⟨[.s s147.a s147.n s147.c,.i 0]⟩) r146.2))
 (ob (z5 P T k lo F.zd [.s A1 n2 c3,.i 3] r144.2) fun r148=>
 ob ((some r148.1).bind Value.slc?) fun s149=>
 some (.ret (.tuple ⟨[.s s149.a s149.n s149.c,.i 0]⟩) r148.2)))
 (ob (z5 P T k lo F.zd [.s A1 n2 c3,.i 3] r142.2) fun r150=>
 ob ((some r150.1).bind Value.slc?) fun s151=>
 some (.ret (.tuple ⟨[.s s151.a s151.n s151.c,.i 0]⟩) r150.2)))
 (ob (z5 P T k lo F.yd [.s A1 n2 c3,.i x5] r142.2) fun r152=>
 ob ((some r152.1).bind Value.slc?) fun s153=>
 some (.ret (.tuple ⟨[.s s153.a s153.n s153.c,.i 0]⟩) r152.2)))
 (ob (z5 P T k lo F.yd [.s A1 n2 c3,.i x5] r120.2) fun r154=>
 ob ((some r154.1).bind Value.slc?) fun s155=>
 some (.ret (.tuple ⟨[.s s155.a s155.n s155.c,.i 0]⟩) r154.2)))))))))):=by kernel_rfl
theorem z3q.entry:entry P T k lo F.z3q [.agg ⟨[.i x1,.i x2,.s A3 n4 c5]⟩,.agg ⟨[.i x6,.i x7,.i x8,.i x9]⟩] M=
 bb (decide (x8 ≥ 1))
 (bb (decide (x9 ≥ 1))
 (bb (decide (x6 ≥ 0))
 (bb (decide (x7 ≥ 0))
 (bb (decide (x8≤x1))
 (bb (decide (x9≤x2))
 (bb (decide (x6≤i64.wrap (x1 - x8)))
 (some (.ret (.b (decide (x7≤i64.wrap (x2 - x9)))) M))
 (some (.ret (.b false) M)))
 (some (.ret (.b false) M)))
 (some (.ret (.b false) M)))
 (some (.ret (.b false) M)))
 (some (.ret (.b false) M)))
 (some (.ret (.b false) M)))
 (some (.ret (.b false) M)):=by kernel_rfl
theorem zg.entry:entry P T k lo F.zg [.s A1 n2 c3,.i x4] M=
 pb (0≤(16:Int)∧room 16 8)
 (pb (0≤(16:Int)∧room 16 8)
 (some (zg.Ca A1 n2 c3 x4 (some ⟨M.length,0,none⟩) 16 16 (some ⟨(M ++ [⟨.fx,y4 [.i 0] 16⟩]:Mem).length,0,none⟩) 16 16 0 ((M ++ [⟨.fx,y4 [.i 0] 16⟩]:Mem) ++ [⟨.fx,y4 [.i 0] 16⟩]:Mem))) none) none:=by kernel_rfl
theorem zg.Pa:pz P T k lo F.zg (zg.Ca A1 n2 c3 x4 A5 n6 c7 A8 n9 c10 x11 M)=
 bb (decide (x11 < 8))
 (some (zg.Cd A1 n2 c3 x4 A5 n6 c7 A8 n9 c10 x11 0 M))
 (some (zg.Cb A5 n6 c7 A8 n9 c10 0 0 M)):=by kernel_rfl
theorem zg.Pb:pz P T k lo F.zg (zg.Cb A1 n2 c3 A4 n5 c6 x7 x8 M)=
 bb (decide (x8 < 16))
 (pb (0≤x8∧x8 < (n5:Int))
 (ob A4 fun a12=>
 ob ((M.ld (plus a12 x8.toNat)).bind (Value.int? .i64)) fun x13=>
 bb (decide (x13 > 0))
 (pb (0≤x8∧x8 < (n2:Int))
 (ob A1 fun a14=>
 ob ((M.ld (plus a14 x8.toNat)).bind (Value.int? .i64)) fun x15=>
 pb (0≤x8∧x8 < (n2:Int))
 (ob A1 fun a16=>
 ob ((M.ld (plus a16 x8.toNat)).bind (Value.int? .i64)) fun x17=>
 pb (0≤x8∧x8 < (n5:Int))
 (ob A4 fun a18=>
 ob ((M.ld (plus a18 x8.toNat)).bind (Value.int? .i64)) fun x19=>
 pb (x19=0) none
 (some (zg.Cc A1 n2 c3 A4 n5 c6 (i64.wrap (x7+(i64.wrap ((i64.wrap (x15*x17))*(i64.wrap (Int.tdiv 840 x19)))))) x8 M))) none) none) none)
 (some (zg.Cc A1 n2 c3 A4 n5 c6 x7 x8 M))) none)
 (some (.ret (.i x7) M)):=by kernel_rfl
theorem zg.Pc:pz P T k lo F.zg (zg.Cc A1 n2 c3 A4 n5 c6 x7 x8 M)=
 some (zg.Cb A1 n2 c3 A4 n5 c6 x7 (i64.wrap (x8+1)) M):=by kernel_rfl
theorem zg.Pd:pz P T k lo F.zg (zg.Cd A1 n2 c3 x4 A5 n6 c7 A8 n9 c10 x11 x12 M)=
 bb (decide (x12 < 8))
 (ob (z5 P T k lo F.z8o [.i x4,.i x11,.i x12] M) fun r20=>
 ob ((some r20.1).bind (Value.int? .i64)) fun x21=>
 pb (0≤x21∧x21 < (n6:Int))
 (ob A5 fun a22=>
 ob ((r20.2.ld (plus a22 x21.toNat)).bind (Value.int? .i64)) fun x23=>
 pb (0≤i64.wrap ((i64.wrap (8*x11))+x12)∧i64.wrap ((i64.wrap (8*x11))+x12) < (n2:Int))
 (ob A1 fun a24=>
 ob ((r20.2.ld (plus a24 ((i64.wrap ((i64.wrap (8*x11))+x12)).toNat))).bind (Value.int? .u8)) fun x25=>
 pb (0≤x21∧x21 < (n6:Int))
 (ob A5 fun a26=>
 ob (r20.2.st lo (plus a26 x21.toNat) [.i (i64.wrap ((i64.wrap (x23+(i64.wrap x25))) - 128))]) fun M27=>
 pb (0≤x21∧x21 < (n9:Int))
 (ob A8 fun a28=>
 ob ((M27.ld (plus a28 x21.toNat)).bind (Value.int? .i64)) fun x29=>
 pb (0≤x21∧x21 < (n9:Int))
 (ob A8 fun a30=>
 ob (M27.st lo (plus a30 x21.toNat) [.i (i64.wrap (x29+1))]) fun M31=>
 some (zg.Cd A1 n2 c3 x4 A5 n6 c7 A8 n9 c10 x11 (i64.wrap (x12+1)) M31)) none) none) none) none) none)
 (some (zg.Ca A1 n2 c3 x4 A5 n6 c7 A8 n9 c10 (i64.wrap (x11+1)) M)):=by kernel_rfl
theorem zr.entry:entry P T k lo F.zr [.agg ⟨[.i x1,.i x2,.s A3 n4 c5]⟩,.i x6,.i x7,.agg ⟨[.i x8,.i x9,.i x10,.i x11]⟩] M=
 pb (0≤i64.wrap ((i64.wrap (x7*x1))+x6)∧i64.wrap ((i64.wrap (x7*x1))+x6) < (n4:Int))
 (ob A3 fun a17=>
 ob ((M.ld (plus a17 ((i64.wrap ((i64.wrap (x7*x1))+x6)).toNat))).bind (Value.int? .u8)) fun x18=>
 some (zr.Cb x8 x9 x10 x11 (i64.wrap x18) ⟨M.length,0,none⟩ 0 (M ++ [⟨.fx,[.i x1,.i x2,.s A3 n4 c5,.i x6,.i x7,.i 0,.i (i64.wrap x18),.i (i64.wrap x18)]⟩]:Mem))) none:=by kernel_rfl
theorem zr.Pa:pz P T k lo F.zr (zr.Ca x1 a2 x3 M)=
 ob ((M.ld (plus a2 5)).bind (Value.int? .i64)) fun x20=>
 ob ((M.ld (plus a2 6)).bind (Value.int? .i64)) fun x21=>
 ob ((M.ld (plus a2 7)).bind (Value.int? .i64)) fun x22=>
 ob (z5 P T k lo F.za4 [.i (i64.wrap (x1+(yz .i64 (i64.wrap ((i64.wrap (8+x20)) - x3)) 4))),.i x21,.i x22] M) fun r23=>
 ob ((some r23.1).bind (Value.int? .i64)) fun x24=>
 some (.ret (.int .u8 (u8.wrap x24)) r23.2):=by kernel_rfl
theorem zr.Pb:pz P T k lo F.zr (zr.Cb x1 x2 x3 x4 x5 a6 x7 M)=
 bb (decide (x7 < 2))
 (bb (Int.tmod x2 2 == 1)
 (some (zr.Cc x1 x2 x3 x4 x5 a6 x7 3 M))
 (some (zr.Cc x1 x2 x3 x4 x5 a6 x7 (i64.wrap (4 - (i64.wrap (2*x7)))) M)))
 (ob ((M.ld (plus a6 5)).bind (Value.int? .i64)) fun x19=>
 bb (decide (x19 < 0))
 (some (zr.Ca x5 a6 1 M))
 (some (zr.Ca x5 a6 0 M))):=by kernel_rfl
theorem zr.Pc:pz P T k lo F.zr (zr.Cc x1 x2 x3 x4 x5 a6 x7 x8 M)=
 ob (z5 P T k lo F.z90 [.i x1] M) fun r25=>
 ob ((some r25.1).bind (Value.agg? 4)) fun l26=>
 ob ((l26[0]?).bind (Value.int? .i64)) fun x27=>
 ob ((l26[1]?).bind (Value.int? .i64)) fun x28=>
 ob ((l26[2]?).bind (Value.int? .i64)) fun x29=>
 ob ((l26[3]?).bind (Value.int? .i64)) fun x30=>
 pb (0≤x7∧x7 < (2:Int))
 (ob ((([.i x27,.i x28,.i x29,.i x30]:List Value)[x7.toNat*2+0]?).bind (Value.int? .i64)) fun x31=>
 ob ((([.i x27,.i x28,.i x29,.i x30]:List Value)[x7.toNat*2+1]?).bind (Value.int? .i64)) fun x32=>
 ob (z5 P T k lo F.zp [.pointer (some a6),.agg ⟨[.i x31,.i x32]⟩,.i x2,.i x4,.i x8] r25.2) fun r33=>
 ob (r33.1.tup? 0) fun l34=>
 ob (z5 P T k lo F.z90 [.i (i64.wrap (x1+6))] r33.2) fun r35=>
 ob ((some r35.1).bind (Value.agg? 4)) fun l36=>
 ob ((l36[0]?).bind (Value.int? .i64)) fun x37=>
 ob ((l36[1]?).bind (Value.int? .i64)) fun x38=>
 ob ((l36[2]?).bind (Value.int? .i64)) fun x39=>
 ob ((l36[3]?).bind (Value.int? .i64)) fun x40=>
 pb (0≤x7∧x7 < (2:Int))
 (ob ((([.i x37,.i x38,.i x39,.i x40]:List Value)[x7.toNat*2+0]?).bind (Value.int? .i64)) fun x41=>
 ob ((([.i x37,.i x38,.i x39,.i x40]:List Value)[x7.toNat*2+1]?).bind (Value.int? .i64)) fun x42=>
 ob (z5 P T k lo F.zp [.pointer (some a6),.agg ⟨[.i x41,.i x42]⟩,.i x3,.i x4,.i (i64.wrap (2 - x7))] r35.2) fun r43=>
 ob (r43.1.tup? 0) fun l44=>
 ob (z5 P T k lo F.z90 [.i (i64.wrap (x1+2))] r43.2) fun r45=>
 ob ((some r45.1).bind (Value.agg? 4)) fun l46=>
 ob ((l46[0]?).bind (Value.int? .i64)) fun x47=>
 ob ((l46[1]?).bind (Value.int? .i64)) fun x48=>
 ob ((l46[2]?).bind (Value.int? .i64)) fun x49=>
 ob ((l46[3]?).bind (Value.int? .i64)) fun x50=>
 pb (0≤x7∧x7 < (2:Int))
 (ob ((([.i x47,.i x48,.i x49,.i x50]:List Value)[x7.toNat*2+0]?).bind (Value.int? .i64)) fun x51=>
 ob ((([.i x47,.i x48,.i x49,.i x50]:List Value)[x7.toNat*2+1]?).bind (Value.int? .i64)) fun x52=>
 ob (z5 P T k lo F.zp [.pointer (some a6),.agg ⟨[.i x51,.i x52]⟩,.i x3,.i x4,.i (i64.wrap (2 - x7))] r45.2) fun r53=>
 ob (r53.1.tup? 0) fun l54=>
 some (zr.Cb x1 x2 x3 x4 x5 a6 (i64.wrap (x7+1)) r53.2)) none) none) none:=by kernel_rfl
theorem zn.entry:entry P T k lo F.zn [.s A1 n2 c3,.i x4] M=
 bb (decide (x4 < 0))
 (none)
 (some (zn.Ca A1 n2 c3 x4 M)):=by kernel_rfl
theorem zn.Pa:pz P T k lo F.zn (zn.Ca A1 n2 c3 x4 M)=
 ob (z5 P T k lo F.zf9 [.int .u64 (IntKind.u64.wrap (n2:Int)),.int .u64 (IntKind.u64.wrap x4)] M) fun r10=>
 ob (r10.1.tup? 2) fun l11=>
 ob ((l11[0]?).bind (Value.int? .u64)) fun x12=>
 ob ((l11[1]?).bind (Value.int? .u64)) fun x13=>
 bb (decide (x12 > 0))
 (none)
 (bb (decide (x13 > 9223372036854775807))
 (none)
 (some (zn.Cb A1 n2 c3 x13 r10.2))):=by kernel_rfl
theorem zn.Pb:pz P T k lo F.zn (zn.Cb A1 n2 c3 x4 M)=
 pb (0≤i64.wrap x4∧room ((i64.wrap x4).toNat) 1)
 (ob (Mem.src (M ++ [⟨.fx,y4 [.int .u8 0] ((i64.wrap x4).toNat)⟩]:Mem) A1 (Nat.min n2 ((i64.wrap x4).toNat)) (Nat.min n2 ((i64.wrap x4).toNat))) fun l14=>
 pb (Nat.min n2 ((i64.wrap x4).toNat)=0) (some (zn.Cc (some ⟨M.length,0,none⟩) ((i64.wrap x4).toNat) ((i64.wrap x4).toNat) 0 (M ++ [⟨.fx,y4 [.int .u8 0] ((i64.wrap x4).toNat)⟩]:Mem)))
 (ob ((M ++ [⟨.fx,y4 [.int .u8 0] ((i64.wrap x4).toNat)⟩]:Mem).st lo ⟨M.length,0,none⟩ l14) fun M15=>
 some (zn.Cc (some ⟨M.length,0,none⟩) ((i64.wrap x4).toNat) ((i64.wrap x4).toNat) ((Nat.min n2 ((i64.wrap x4).toNat):Nat):Int) M15))) none:=by kernel_rfl
theorem zn.Pc:pz P T k lo F.zn (zn.Cc A1 n2 c3 x4 M)=
 bb (decide (x4 < (n2:Int)))
 (pb (0≤x4∧x4≤(n2:Int))
 (pb (0≤(0:Int)∧(0:Int)≤x4∧x4≤(c3:Int))
 (ob (Mem.src M (slAddr 1 A1 0 c3) (Nat.min (x4.toNat - 0) (n2 - x4.toNat)) (Nat.min (x4.toNat - 0) (n2 - x4.toNat))) fun l17=>
 pb (Nat.min (x4.toNat - 0) (n2 - x4.toNat)=0) (some (zn.Cc A1 n2 c3 (i64.wrap (x4+0)) M))
 (ob (slAddr 1 A1 x4.toNat c3) fun a19=>
 ob (M.st lo a19 l17) fun M18=>
 some (zn.Cc A1 n2 c3 (i64.wrap (x4+((Nat.min (x4.toNat - 0) (n2 - x4.toNat):Nat):Int))) M18))) none) none)
 (some (.ret (.s A1 n2 c3) M)):=by kernel_rfl
theorem yw.entry:entry P T k lo F.yw [.s A1 n2 c3,v4] M=
 some (yw.Ca A1 n2 c3 v4 (n2:Int) 0 M):=by kernel_rfl
theorem yw.Pa:pz P T k lo F.yw (yw.Ca A1 n2 c3 v4 x5 x6 M)=
 bb (decide (x6 < x5))
 (pb (0≤x6∧x6 < (n2:Int))
 (ob A1 fun a10=>
 ob ((M.ld (plus a10 x6.toNat)).bind (Value.int? .u8)) fun x11=>
 ob (Value.fun? v4) fun q13=>
 ob (z5 P T k lo q13.1 (q13.2.1 ++ [.int .u8 x11] ++ q13.2.2) M) fun r12=>
 ob ((some r12.1).bind Value.bool?) fun b14=>
 bb b14
 (some (.ret (.i x6) r12.2))
 (some (yw.Ca A1 n2 c3 v4 x5 (i64.wrap (x6+1)) r12.2))) none)
 (some (.ret (.i (-1)) M)):=by kernel_rfl
theorem yg.entry:entry P T k lo F.yg [.s A1 n2 c3,.int .u8 x4] M=
 some (yg.Ca A1 n2 c3 x4 (n2:Int) 0 M):=by kernel_rfl
theorem yg.Pa:pz P T k lo F.yg (yg.Ca A1 n2 c3 x4 x5 x6 M)=
 bb (decide (x6 < x5))
 (pb (0≤x6∧x6 < (n2:Int))
 (ob A1 fun a10=>
 ob ((M.ld (plus a10 x6.toNat)).bind (Value.int? .u8)) fun x11=>
 bb (x4 == x11)
 (some (.ret (.i x6) M))
 (some (yg.Ca A1 n2 c3 x4 x5 (i64.wrap (x6+1)) M))) none)
 (some (.ret (.i (-1)) M)):=by kernel_rfl
theorem ziw.entry:entry P T k lo F.ziw [.int .u8 x1,.int .u8 x2] M=
 some (.ret (.i (yv (i64.wrap ((i64.wrap x1) - (i64.wrap x2))) (i64.wrap ((i64.wrap x2) - (i64.wrap x1))))) M):=by kernel_rfl
theorem zdt.entry:entry P T k lo F.zdt [.agg ⟨[.s A1 n2 c3,.i x4]⟩,.i x5] M=
 pb (0≤i64.wrap ((i64.wrap (x4 - 1)) - x5)∧i64.wrap ((i64.wrap (x4 - 1)) - x5) < (n2:Int))
 (ob A1 fun a11=>
 ob ((M.ld (plus a11 ((i64.wrap ((i64.wrap (x4 - 1)) - x5)).toNat))).bind (Value.int? .u8)) fun x12=>
 some (.ret (.int .u8 x12) M)) none:=by kernel_rfl
theorem zdx.entry:entry P T k lo F.zdx [.agg ⟨[.s A1 n2 c3,.i x4]⟩,.i x5] M=
 pb (0≤i64.wrap (x4+x5)∧i64.wrap (x4+x5) < (n2:Int))
 (ob A1 fun a11=>
 ob ((M.ld (plus a11 ((i64.wrap (x4+x5)).toNat))).bind (Value.int? .u8)) fun x12=>
 some (.ret (.int .u8 x12) M)) none:=by kernel_rfl
theorem zhj.entry:entry P T k lo F.zhj [.i x1,.i x2,.i x3] M=
 some (.ret (.i (zq (yv x1 x2) x3)) M):=by kernel_rfl
theorem z7k.entry:entry P T k lo F.z7k [.i x1] M=
 ob (z5 P T k lo F.zhj [.i x1,.i (-128),.i 127] M) fun r7=>
 ob ((some r7.1).bind (Value.int? .i64)) fun x8=>
 some (.ret (.i x8) r7.2):=by kernel_rfl
theorem z7j.entry:entry P T k lo F.z7j [.i x1,.i x2,.pointer (some a3),.pointer (some a4)] M=
 ob ((if a3.block < M.length then M.ld a3 else none).bind Value.slc?) fun s10=>
 ob ((if ((plus a4 1).block) < M.length then M.ld (plus a4 1) else none).bind (Value.int? .i64)) fun x11=>
 ob (z5 P T k M.length F.zhj [.i x2,.i 0,.i 255] M) fun r12=>
 ob ((some r12.1).bind (Value.int? .i64)) fun x13=>
 pb (0≤i64.wrap (x11+x1)∧i64.wrap (x11+x1) < (s10.n:Int))
 (ob s10.a fun a14=>
 ob (r12.2.st lo (plus a14 ((i64.wrap (x11+x1)).toNat)) [.int .u8 (u8.wrap x13)]) fun M15=>
 some (.ret (.tuple ⟨[]⟩) M15)) none:=by kernel_rfl
theorem j9.entry:entry P T k lo F.j9 [.s A1 n2 c3,v4] M=
 some (j9.Ca A1 n2 c3 v4 (n2:Int) 0 M):=by kernel_rfl
theorem j9.Pa:pz P T k lo F.j9 (j9.Ca A1 n2 c3 v4 x5 x6 M)=
 bb (decide (x6 < x5))
 (pb (0≤x6∧x6 < (n2:Int))
 (ob A1 fun a10=>
 ob ((M.ld (plus a10 x6.toNat)).bind (Value.int? .i64)) fun x11=>
 ob (Value.fun? v4) fun q13=>
 ob (z5 P T k lo q13.1 (q13.2.1 ++ [.i x11] ++ q13.2.2) M) fun r12=>
 ob ((some r12.1).bind Value.bool?) fun b14=>
 bb b14
 (some (.ret (.i x6) r12.2))
 (some (j9.Ca A1 n2 c3 v4 x5 (i64.wrap (x6+1)) r12.2))) none)
 (some (.ret (.i (-1)) M)):=by kernel_rfl
theorem yf.entry:entry P T k lo F.yf [.int .u64 x1] M=
 bb (decide (x1 ≥ 4294967296))
 (some (yf.Ca (yz .u64 x1 32) 32 M))
 (some (yf.Ca x1 0 M)):=by kernel_rfl
theorem yf.Pa:pz P T k lo F.yf (yf.Ca x1 x2 M)=
 bb (decide (x1 ≥ 65536))
 (some (yf.Cb (yz .u64 x1 16) (i64.wrap (x2+16)) M))
 (some (yf.Cb x1 x2 M)):=by kernel_rfl
theorem yf.Pb:pz P T k lo F.yf (yf.Cb x1 x2 M)=
 bb (decide (x1 ≥ 256))
 (some (yf.Cc (yz .u64 x1 8) (i64.wrap (x2+8)) M))
 (some (yf.Cc x1 x2 M)):=by kernel_rfl
theorem yf.Pc:pz P T k lo F.yf (yf.Cc x1 x2 M)=
 pb (0≤u8.wrap x1∧u8.wrap x1 < ((⟨#[0,1,2,2,3,3,3,3,4,4,4,4,4,4,4,4,5,5,5,5,5,5,5,5,5,5,5,5,5,5,5,5,6,6,6,6,6,6,6,6,6,6,6,6,6,6,6,6,6,6,6,6,6,6,6,6,6,6,6,6,6,6,6,6,7,7,7,7,7,7,7,7,7,7,7,7,7,7,7,7,7,7,7,7,7,7,7,7,7,7,7,7,7,7,7,7,7,7,7,7,7,7,7,7,7,7,7,7,7,7,7,7,7,7,7,7,7,7,7,7,7,7,7,7,7,7,7,7,8,8,8,8,8,8,8,8,8,8,8,8,8,8,8,8,8,8,8,8,8,8,8,8,8,8,8,8,8,8,8,8,8,8,8,8,8,8,8,8,8,8,8,8,8,8,8,8,8,8,8,8,8,8,8,8,8,8,8,8,8,8,8,8,8,8,8,8,8,8,8,8,8,8,8,8,8,8,8,8,8,8,8,8,8,8,8,8,8,8,8,8,8,8,8,8,8,8,8,8,8,8,8,8,8,8,8,8,8,8,8,8,8,8,8,8,8,8,8,8,8,8,8,8,8,8,8,8]⟩:ByteArray).size:Int))
 (some (.ret (.i (i64.wrap (x2+(i64.wrap (zc9 (⟨#[0,1,2,2,3,3,3,3,4,4,4,4,4,4,4,4,5,5,5,5,5,5,5,5,5,5,5,5,5,5,5,5,6,6,6,6,6,6,6,6,6,6,6,6,6,6,6,6,6,6,6,6,6,6,6,6,6,6,6,6,6,6,6,6,7,7,7,7,7,7,7,7,7,7,7,7,7,7,7,7,7,7,7,7,7,7,7,7,7,7,7,7,7,7,7,7,7,7,7,7,7,7,7,7,7,7,7,7,7,7,7,7,7,7,7,7,7,7,7,7,7,7,7,7,7,7,7,7,8,8,8,8,8,8,8,8,8,8,8,8,8,8,8,8,8,8,8,8,8,8,8,8,8,8,8,8,8,8,8,8,8,8,8,8,8,8,8,8,8,8,8,8,8,8,8,8,8,8,8,8,8,8,8,8,8,8,8,8,8,8,8,8,8,8,8,8,8,8,8,8,8,8,8,8,8,8,8,8,8,8,8,8,8,8,8,8,8,8,8,8,8,8,8,8,8,8,8,8,8,8,8,8,8,8,8,8,8,8,8,8,8,8,8,8,8,8,8,8,8,8,8,8,8,8,8,8]⟩:ByteArray) (u8.wrap x1).toNat))))) M)) none:=by kernel_rfl
theorem zlh.entry:entry P T k lo F.zlh [] M=
 some (.ret (.agg ⟨[.i (-1),.i 1,.i (-2),.i 2,.i 0,.i 1,.i (-1),.i 2,.i 0,.i 1,.i 0,.i 2,.i 0,.i 1,.i 1,.i 2,.i 1,.i 1,.i 2,.i 2,.i 1,.i 0,.i 2,.i 1,.i 1,.i 0,.i 2,.i 0,.i 1,.i 0,.i 2,.i (-1)]⟩) M):=by kernel_rfl
theorem zlf.entry:entry P T k lo F.zlf [.i x1,.i x2,.i x3] M=
 ob (z5 P T k lo F.zo1 [.i x1,.i (-1048576),.i 1048576] M) fun r9=>
 ob ((some r9.1).bind (Value.int? .i64)) fun x10=>
 ob (z5 P T k lo F.zo1 [.i x2,.i (-1048576),.i 1048576] r9.2) fun r11=>
 ob ((some r11.1).bind (Value.int? .i64)) fun x12=>
 ob (z5 P T k lo F.zo1 [.i x3,.i (-1048576),.i 1048576] r11.2) fun r13=>
 ob ((some r13.1).bind (Value.int? .i64)) fun x14=>
 bb (decide (x12≤0))
 (some (.ret (.i 0) r13.2))
 (ob (z5 P T k lo F.zf8 [.int .u64 (IntKind.u64.wrap x12)] r13.2) fun r15=>
 ob ((some r15.1).bind (Value.int? .i64)) fun x16=>
 ob (z5 P T k lo F.zo1 [.i (i64.wrap ((i64.wrap (x14 - x16))+1)),.i 0,.i 60] r15.2) fun r17=>
 ob ((some r17.1).bind (Value.int? .i64)) fun x18=>
 pb (x18 < 0) none
 (bb (decide (x10 < 0))
 (some (.ret (.i (i64.wrap (0 - (zq (yv x10 (i64.wrap (0 - x10))) (yv 0 (i64.wrap (x12 - (yz .i64 (yv x10 (i64.wrap (0 - x10))) x18.toNat)))))))) r17.2))
 (some (.ret (.i (zq (yv x10 (i64.wrap (0 - x10))) (yv 0 (i64.wrap (x12 - (yz .i64 (yv x10 (i64.wrap (0 - x10))) x18.toNat)))))) r17.2)))):=by kernel_rfl
theorem zo1.entry:entry P T k lo F.zo1 [.i x1,.i x2,.i x3] M=
 some (.ret (.i (zq (yv x1 x2) x3)) M):=by kernel_rfl
theorem z6z.entry:entry P T k lo F.z6z [.s A1 n2 c3,.i x4,.i x5,.i x6] M=
 bb (x5 == 0)
 (some (.ret (.b false) M))
 (ob (z5 P T k lo F.yc [.i x5,.i x6] M) fun r12=>
 ob ((some r12.1).bind (Value.int? .i64)) fun x13=>
 ob (z5 P T k lo F.zav [.s A1 n2 c3,.i (-2),.i (-1)] r12.2) fun r14=>
 ob ((some r14.1).bind (Value.int? .i64)) fun x15=>
 bb (decide (x15 > x13))
 (some (.ret (.b false) r14.2))
 (ob (z5 P T k lo F.zav [.s A1 n2 c3,.i 1,.i 0] r14.2) fun r16=>
 ob ((some r16.1).bind (Value.int? .i64)) fun x17=>
 bb (decide (x17 > x13))
 (some (.ret (.b false) r16.2))
 (bb (decide (x4 ≥ 6))
 (ob (z5 P T k lo F.zav [.s A1 n2 c3,.i (-3),.i (-2)] r16.2) fun r18=>
 ob ((some r18.1).bind (Value.int? .i64)) fun x19=>
 bb (decide (x19 > x13))
 (some (.ret (.b false) r18.2))
 (ob (z5 P T k lo F.zav [.s A1 n2 c3,.i 2,.i 1] r18.2) fun r20=>
 ob ((some r20.1).bind (Value.int? .i64)) fun x21=>
 bb (decide (x21 > x13))
 (some (.ret (.b false) r20.2))
 (bb (decide (x4 ≥ 8))
 (ob (z5 P T k lo F.zav [.s A1 n2 c3,.i (-4),.i (-3)] r20.2) fun r22=>
 ob ((some r22.1).bind (Value.int? .i64)) fun x23=>
 bb (decide (x23 > x13))
 (some (.ret (.b false) r22.2))
 (ob (z5 P T k lo F.zav [.s A1 n2 c3,.i 3,.i 2] r22.2) fun r24=>
 ob ((some r24.1).bind (Value.int? .i64)) fun x25=>
 bb (decide (x25 > x13))
 (some (.ret (.b false) r24.2))
 (ob (z5 P T k lo F.zav [.s A1 n2 c3,.i (-1),.i 0] r24.2) fun r26=>
 ob ((some r26.1).bind (Value.int? .i64)) fun x27=>
 ob (z5 P T k lo F.zav [.s A1 n2 c3,.i (-2),.i 1] r26.2) fun r28=>
 ob ((some r28.1).bind (Value.int? .i64)) fun x29=>
 some (.ret (.b (decide (i64.wrap ((i64.wrap (2*x27))+(i64.wrap (Int.tdiv x29 2)))≤i64.wrap ((i64.wrap (2*(i64.wrap (x5+2))))+x13)))) r28.2))))
 (ob (z5 P T k lo F.zav [.s A1 n2 c3,.i (-1),.i 0] r20.2) fun r30=>
 ob ((some r30.1).bind (Value.int? .i64)) fun x31=>
 ob (z5 P T k lo F.zav [.s A1 n2 c3,.i (-2),.i 1] r30.2) fun r32=>
 ob ((some r32.1).bind (Value.int? .i64)) fun x33=>
 some (.ret (.b (decide (i64.wrap ((i64.wrap (2*x31))+(i64.wrap (Int.tdiv x33 2)))≤i64.wrap ((i64.wrap (2*(i64.wrap (x5+2))))+x13)))) r32.2)))))
 (bb (decide (x4 ≥ 8))
 (ob (z5 P T k lo F.zav [.s A1 n2 c3,.i (-4),.i (-3)] r16.2) fun r34=>
 ob ((some r34.1).bind (Value.int? .i64)) fun x35=>
 bb (decide (x35 > x13))
 (some (.ret (.b false) r34.2))
 (ob (z5 P T k lo F.zav [.s A1 n2 c3,.i 3,.i 2] r34.2) fun r36=>
 ob ((some r36.1).bind (Value.int? .i64)) fun x37=>
 bb (decide (x37 > x13))
 (some (.ret (.b false) r36.2))
 (ob (z5 P T k lo F.zav [.s A1 n2 c3,.i (-1),.i 0] r36.2) fun r38=>
 ob ((some r38.1).bind (Value.int? .i64)) fun x39=>
 ob (z5 P T k lo F.zav [.s A1 n2 c3,.i (-2),.i 1] r38.2) fun r40=>
 ob ((some r40.1).bind (Value.int? .i64)) fun x41=>
 some (.ret (.b (decide (i64.wrap ((i64.wrap (2*x39))+(i64.wrap (Int.tdiv x41 2)))≤i64.wrap ((i64.wrap (2*(i64.wrap (x5+2))))+x13)))) r40.2))))
 (ob (z5 P T k lo F.zav [.s A1 n2 c3,.i (-1),.i 0] r16.2) fun r42=>
 ob ((some r42.1).bind (Value.int? .i64)) fun x43=>
 ob (z5 P T k lo F.zav [.s A1 n2 c3,.i (-2),.i 1] r42.2) fun r44=>
 ob ((some r44.1).bind (Value.int? .i64)) fun x45=>
 some (.ret (.b (decide (i64.wrap ((i64.wrap (2*x43))+(i64.wrap (Int.tdiv x45 2)))≤i64.wrap ((i64.wrap (2*(i64.wrap (x5+2))))+x13)))) r44.2)))))):=by kernel_rfl
theorem jz.entry:entry P T k lo F.jz [.s A1 n2 c3,.i x4,.i x5] M=
 some (jz.Ca A1 n2 c3 x5 x4 M):=by kernel_rfl
theorem jz.Pa:pz P T k lo F.jz (jz.Ca A1 n2 c3 x4 x5 M)=
 bb (decide (x5≤x4))
 (ob (z5 P T k lo F.zav [.s A1 n2 c3,.i (i64.wrap ((i64.wrap (0 - x5)) - 1)),.i (-1)] M) fun r11=>
 ob ((some r11.1).bind (Value.int? .i64)) fun x12=>
 bb (decide (x12 > 1))
 (some (.ret (.b false) r11.2))
 (ob (z5 P T k lo F.zav [.s A1 n2 c3,.i x5,.i 0] r11.2) fun r13=>
 ob ((some r13.1).bind (Value.int? .i64)) fun x14=>
 bb (decide (x14 > 1))
 (some (.ret (.b false) r13.2))
 (some (jz.Ca A1 n2 c3 x4 (i64.wrap (x5+1)) r13.2))))
 (some (.ret (.b true) M)):=by kernel_rfl
theorem zd.entry:entry P T k lo F.zd [.s A1 n2 c3,.i x4] M=
 bb (x4 == 3)
 (some (zd.Ca A1 n2 c3 x4 0 3 M))
 (some (zd.Ca A1 n2 c3 x4 1 3 M)):=by kernel_rfl
theorem zd.Pa:pz P T k lo F.zd (zd.Ca A1 n2 c3 x4 x5 x6 M)=
 bb (x4 == 6)
 (some (zd.Cb A1 n2 c3 x4 x5 4 M))
 (some (zd.Cb A1 n2 c3 x4 x5 x6 M)):=by kernel_rfl
theorem zd.Pb:pz P T k lo F.zd (zd.Cb A1 n2 c3 x4 x5 x6 M)=
 ob (z5 P T k lo F.z64 [.s A1 n2 c3] M) fun r10=>
 ob ((some r10.1).bind Value.slc?) fun s11=>
 some (zd.Cc A1 n2 c3 x4 x5 x6 s11.a s11.n s11.c (i64.wrap (0 - x4)) r10.2):=by kernel_rfl
theorem zd.Pc:pz P T k lo F.zd (zd.Cc A1 n2 c3 x4 x5 x6 A7 n8 c9 x10 M)=
 bb (decide (x10 < x4))
 (some (zd.Cd A1 n2 c3 x4 x5 x6 A7 n8 c9 x10 0 (i64.wrap (0 - x4)) M))
 (some (.ret (.s A7 n8 c9) M)):=by kernel_rfl
theorem zd.Pd:pz P T k lo F.zd (zd.Cd A1 n2 c3 x4 x5 x6 A7 n8 c9 x10 x11 x12 M)=
 bb (decide (x12≤x4))
 (ob (z5 P T k lo F.zat [.i x12] M) fun r13=>
 ob ((some r13.1).bind (Value.int? .i64)) fun x14=>
 bb (decide (x14≤x5))
 (some (zd.Ce A1 n2 c3 x4 x5 x6 A7 n8 c9 x10 x11 x12 2 r13.2))
 (some (zd.Ce A1 n2 c3 x4 x5 x6 A7 n8 c9 x10 x11 x12 1 r13.2)))
 (pb (i64.wrap (x6 - 1) < 0) none
 (pb (x6 < 0) none
 (pb (0≤i64.wrap ((i64.wrap (Int.tdiv (n2:Int) 2))+x10)∧i64.wrap ((i64.wrap (Int.tdiv (n2:Int) 2))+x10) < (n8:Int))
 (ob A7 fun a15=>
 ob (M.st lo (plus a15 ((i64.wrap ((i64.wrap (Int.tdiv (n2:Int) 2))+x10)).toNat)) [.int .u8 (u8.wrap (yz .i64 (i64.wrap (x11+(z84 .i64 (1:Int) ((i64.wrap (x6 - 1)).toNat)))) x6.toNat))]) fun M16=>
 some (zd.Cc A1 n2 c3 x4 x5 x6 A7 n8 c9 (i64.wrap (x10+1)) M16)) none))):=by kernel_rfl
theorem zd.Pe:pz P T k lo F.zd (zd.Ce A1 n2 c3 x4 x5 x6 A7 n8 c9 x10 x11 x12 x13 M)=
 ob (z5 P T k lo F.za4 [.i (i64.wrap (x10+x12)),.i (i64.wrap ((i64.wrap (0 - x4)) - 1)),.i x4] M) fun r17=>
 ob ((some r17.1).bind (Value.int? .i64)) fun x18=>
 ob (z5 P T k lo F.zbw [.s A1 n2 c3,.i x18] r17.2) fun r19=>
 ob ((some r19.1).bind (Value.int? .i64)) fun x20=>
 some (zd.Cd A1 n2 c3 x4 x5 x6 A7 n8 c9 x10 (i64.wrap (x11+(i64.wrap (x13*x20)))) (i64.wrap (x12+1)) r19.2):=by kernel_rfl
end Go.Zt

