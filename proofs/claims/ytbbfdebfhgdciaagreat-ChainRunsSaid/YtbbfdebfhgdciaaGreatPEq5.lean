/- What the law ChainRuns needs of the text Eq5. -/
import Derived.Test.YtbbfdebfhgdciaaGreatPEq0
import Derived.KernelRfl
set_option linter.unusedVariables false
set_option linter.unusedSimpArgs false
set_option maxRecDepth 100000
set_option maxHeartbeats 4000000
namespace Go.Zt
open IntKind (i64 u8)
variable (k lo:Nat)(A1:Option Addr)(a1:Addr)(x1:Int)(n2:Nat)(x2:Int)(c3:Nat)(x3:Int)(b4:Bool)(x4 x5 x6 x7 x8:Int)(M:Mem)
theorem yd.entry:entry P T k lo F.yd [.s A1 n2 c3,.i x4] M=
 ob (z5 P T k lo F.zav [.s A1 n2 c3,.i (-2),.i (-1)] M) fun r10=>
 ob ((some r10.1).bind (Value.int? .i64)) fun x11=>
 bb (decide (x11 > i64.wrap (Int.tdiv x4 16)))
 (ob (z5 P T k lo F.zbw [.s A1 n2 c3,.i (-2)] r10.2) fun r12=>
 ob ((some r12.1).bind (Value.int? .i64)) fun x13=>
 ob (z5 P T k lo F.zbw [.s A1 n2 c3,.i 1] r12.2) fun r14=>
 ob ((some r14.1).bind (Value.int? .i64)) fun x15=>
 ob (z5 P T k lo F.zcx [.i (i64.wrap (x13 - x15))] r14.2) fun r16=>
 ob ((some r16.1).bind (Value.int? .i64)) fun x17=>
 some (yd.Ca A1 n2 c3 true x17 r16.2))
 (ob (z5 P T k lo F.zav [.s A1 n2 c3,.i 1,.i 0] r10.2) fun r18=>
 ob ((some r18.1).bind (Value.int? .i64)) fun x19=>
 bb (decide (x19 > i64.wrap (Int.tdiv x4 16)))
 (ob (z5 P T k lo F.zbw [.s A1 n2 c3,.i (-2)] r18.2) fun r20=>
 ob ((some r20.1).bind (Value.int? .i64)) fun x21=>
 ob (z5 P T k lo F.zbw [.s A1 n2 c3,.i 1] r20.2) fun r22=>
 ob ((some r22.1).bind (Value.int? .i64)) fun x23=>
 ob (z5 P T k lo F.zcx [.i (i64.wrap (x21 - x23))] r22.2) fun r24=>
 ob ((some r24.1).bind (Value.int? .i64)) fun x25=>
 some (yd.Ca A1 n2 c3 (decide (x19 > i64.wrap (Int.tdiv x4 16))) x25 r24.2))
 (some (yd.Ca A1 n2 c3 (decide (x19 > i64.wrap (Int.tdiv x4 16))) 0 r18.2))):=by kernel_rfl
theorem yd.Pa:pz P T k lo F.yd (yd.Ca A1 n2 c3 b4 x5 M)=
 ob (z5 P T k lo F.zbw [.s A1 n2 c3,.i 0] M) fun r26=>
 ob ((some r26.1).bind (Value.int? .i64)) fun x27=>
 ob (z5 P T k lo F.zbw [.s A1 n2 c3,.i (-1)] r26.2) fun r28=>
 ob ((some r28.1).bind (Value.int? .i64)) fun x29=>
 ob (z5 P T k lo F.zcx [.i (i64.wrap (x5+(i64.wrap (3*(i64.wrap (x27 - x29))))))] r28.2) fun r30=>
 ob ((some r30.1).bind (Value.int? .i64)) fun x31=>
 ob (z5 P T k lo F.zcx [.i (i64.wrap (x31+4))] r30.2) fun r32=>
 ob ((some r32.1).bind (Value.int? .i64)) fun x33=>
 ob (z5 P T k lo F.zcx [.i (i64.wrap (x31+3))] r32.2) fun r34=>
 ob ((some r34.1).bind (Value.int? .i64)) fun x35=>
 ob (z5 P T k lo F.z64 [.s A1 n2 c3] r34.2) fun r36=>
 ob ((some r36.1).bind Value.slc?) fun s37=>
 ob (z5 P T k lo F.zbw [.s A1 n2 c3,.i 0] r36.2) fun r38=>
 ob ((some r38.1).bind (Value.int? .i64)) fun x39=>
 ob (z5 P T k lo F.za4 [.i (i64.wrap (x39 - (yz .i64 x33 3))),.i 0,.i 255] r38.2) fun r40=>
 ob ((some r40.1).bind (Value.int? .i64)) fun x41=>
 pb (0≤i64.wrap (Int.tdiv (n2:Int) 2)∧i64.wrap (Int.tdiv (n2:Int) 2) < (s37.n:Int))
 (ob s37.a fun a42=>
 ob (r40.2.st lo (plus a42 ((i64.wrap (Int.tdiv (n2:Int) 2)).toNat)) [.int .u8 (u8.wrap x41)]) fun M43=>
 ob (z5 P T k lo F.zbw [.s A1 n2 c3,.i (-1)] M43) fun r44=>
 ob ((some r44.1).bind (Value.int? .i64)) fun x45=>
 ob (z5 P T k lo F.za4 [.i (i64.wrap (x45+(yz .i64 x35 3))),.i 0,.i 255] r44.2) fun r46=>
 ob ((some r46.1).bind (Value.int? .i64)) fun x47=>
 pb (0≤i64.wrap ((i64.wrap (Int.tdiv (n2:Int) 2)) - 1)∧i64.wrap ((i64.wrap (Int.tdiv (n2:Int) 2)) - 1) < (s37.n:Int))
 (ob s37.a fun a48=>
 ob (r46.2.st lo (plus a48 ((i64.wrap ((i64.wrap (Int.tdiv (n2:Int) 2)) - 1)).toNat)) [.int .u8 (u8.wrap x47)]) fun M49=>
 bb (!b4)
 (ob (z5 P T k lo F.zbw [.s A1 n2 c3,.i 1] M49) fun r50=>
 ob ((some r50.1).bind (Value.int? .i64)) fun x51=>
 ob (z5 P T k lo F.za4 [.i (i64.wrap (x51 - (yz .i64 (i64.wrap ((yz .i64 x33 3)+1)) 1))),.i 0,.i 255] r50.2) fun r52=>
 ob ((some r52.1).bind (Value.int? .i64)) fun x53=>
 pb (0≤i64.wrap ((i64.wrap (Int.tdiv (n2:Int) 2))+1)∧i64.wrap ((i64.wrap (Int.tdiv (n2:Int) 2))+1) < (s37.n:Int))
 (ob s37.a fun a54=>
 ob (r52.2.st lo (plus a54 ((i64.wrap ((i64.wrap (Int.tdiv (n2:Int) 2))+1)).toNat)) [.int .u8 (u8.wrap x53)]) fun M55=>
 ob (z5 P T k lo F.zbw [.s A1 n2 c3,.i (-2)] M55) fun r56=>
 ob ((some r56.1).bind (Value.int? .i64)) fun x57=>
 ob (z5 P T k lo F.za4 [.i (i64.wrap (x57+(yz .i64 (i64.wrap ((yz .i64 x33 3)+1)) 1))),.i 0,.i 255] r56.2) fun r58=>
 ob ((some r58.1).bind (Value.int? .i64)) fun x59=>
 pb (0≤i64.wrap ((i64.wrap (Int.tdiv (n2:Int) 2)) - 2)∧i64.wrap ((i64.wrap (Int.tdiv (n2:Int) 2)) - 2) < (s37.n:Int))
 (ob s37.a fun a60=>
 ob (r58.2.st lo (plus a60 ((i64.wrap ((i64.wrap (Int.tdiv (n2:Int) 2)) - 2)).toNat)) [.int .u8 (u8.wrap x59)]) fun M61=>
 some (yd.Cb s37.a s37.n s37.c M61)) none) none)
 (some (yd.Cb s37.a s37.n s37.c M49))) none) none:=by kernel_rfl
theorem yd.Pb:pz P T k lo F.yd (yd.Cb A1 n2 c3 M)=
 some (.ret (.s A1 n2 c3) M):=by kernel_rfl
theorem z8o.entry:entry P T k lo F.z8o [.i x1,.i x2,.i x3] M=
 bb (x1 == 0)
 (some (.ret (.i (i64.wrap (x2+x3))) M))
 (bb (x1 == 1)
 (some (.ret (.i (i64.wrap (x2+(i64.wrap (Int.tdiv x3 2))))) M))
 (bb (x1 == 2)
 (some (.ret (.i x2) M))
 (bb (x1 == 3)
 (some (.ret (.i (i64.wrap ((i64.wrap (3+x2)) - (i64.wrap (Int.tdiv x3 2))))) M))
 (bb (x1 == 4)
 (some (.ret (.i (i64.wrap ((i64.wrap (7+x2)) - x3))) M))
 (bb (x1 == 5)
 (some (.ret (.i (i64.wrap ((i64.wrap (3 - (i64.wrap (Int.tdiv x2 2))))+x3))) M))
 (bb (x1 == 6)
 (some (.ret (.i x3) M))
 (some (.ret (.i (i64.wrap ((i64.wrap (Int.tdiv x2 2))+x3))) M)))))))):=by kernel_rfl
theorem zp.entry:entry P T k lo F.zp [.pointer (some a1),.agg ⟨[.i x2,.i x3]⟩,.i x4,.i x5,.i x6] M=
 ob ((M.ld (plus a1 2)).bind Value.slc?) fun s12=>
 ob ((M.ld (plus a1 4)).bind (Value.int? .i64)) fun x13=>
 ob ((M.ld a1).bind (Value.int? .i64)) fun x14=>
 ob ((M.ld (plus a1 3)).bind (Value.int? .i64)) fun x15=>
 pb (0≤i64.wrap ((i64.wrap (x13*x14))+x15)∧i64.wrap ((i64.wrap (x13*x14))+x15) < (s12.n:Int))
 (ob s12.a fun a16=>
 ob ((M.ld (plus a16 ((i64.wrap ((i64.wrap (x13*x14))+x15)).toNat))).bind (Value.int? .u8)) fun x17=>
 some (zp.Ca a1 x4 x5 x6 (i64.wrap x17) (-1) x2 x3 M)) none:=by kernel_rfl
theorem zp.Pa:pz P T k lo F.zp (zp.Ca a1 x2 x3 x4 x5 x6 x7 x8 M)=
 bb (decide (x6≤1))
 (ob ((M.ld (plus a1 4)).bind (Value.int? .i64)) fun x18=>
 ob ((M.ld (plus a1 3)).bind (Value.int? .i64)) fun x19=>
 bb (decide (i64.wrap (x19+(i64.wrap (x6*x8))) < 0))
 (some (zp.Cb a1 x2 x3 x4 x5 x6 x7 x8 M))
 (bb (decide (i64.wrap (x18+(i64.wrap (x6*x7))) < 0))
 (some (zp.Cb a1 x2 x3 x4 x5 x6 x7 x8 M))
 (ob ((M.ld a1).bind (Value.int? .i64)) fun x20=>
 bb (decide (i64.wrap (x19+(i64.wrap (x6*x8))) ≥ x20))
 (some (zp.Cb a1 x2 x3 x4 x5 x6 x7 x8 M))
 (ob ((M.ld (plus a1 1)).bind (Value.int? .i64)) fun x21=>
 bb (decide (i64.wrap (x18+(i64.wrap (x6*x7))) ≥ x21))
 (some (zp.Cb a1 x2 x3 x4 x5 x6 x7 x8 M))
 (ob ((M.ld (plus a1 2)).bind Value.slc?) fun s22=>
 ob ((M.ld a1).bind (Value.int? .i64)) fun x23=>
 pb (0≤i64.wrap ((i64.wrap ((i64.wrap (x18+(i64.wrap (x6*x7))))*x23))+(i64.wrap (x19+(i64.wrap (x6*x8)))))∧i64.wrap ((i64.wrap ((i64.wrap (x18+(i64.wrap (x6*x7))))*x23))+(i64.wrap (x19+(i64.wrap (x6*x8))))) < (s22.n:Int))
 (ob s22.a fun a24=>
 ob ((M.ld (plus a24 ((i64.wrap ((i64.wrap ((i64.wrap (x18+(i64.wrap (x6*x7))))*x23))+(i64.wrap (x19+(i64.wrap (x6*x8)))))).toNat))).bind (Value.int? .u8)) fun x25=>
 ob ((if ((plus a1 5).block) < M.length then M.ld (plus a1 5) else none).bind (Value.int? .i64)) fun x26=>
 ob (z5 P T k M.length F.z8z [.i (i64.wrap ((i64.wrap x25) - x5)),.i x2,.i x3] M) fun r27=>
 ob ((some r27.1).bind (Value.int? .i64)) fun x28=>
 ob (r27.2.st lo (plus a1 5) [.i (i64.wrap (x26+(i64.wrap (x4*x28))))]) fun M29=>
 ob ((M29.ld (plus a1 6)).bind (Value.int? .i64)) fun x30=>
 ob (M29.st lo (plus a1 6) [.i (zq x30 (i64.wrap x25))]) fun M31=>
 ob ((M31.ld (plus a1 7)).bind (Value.int? .i64)) fun x32=>
 ob (M31.st lo (plus a1 7) [.i (yv x32 (i64.wrap x25))]) fun M33=>
 some (zp.Cb a1 x2 x3 x4 x5 x6 x7 x8 M33)) none)))))
 (some (.ret (.tuple ⟨[]⟩) M)):=by kernel_rfl
theorem zp.Pb:pz P T k lo F.zp (zp.Cb a1 x2 x3 x4 x5 x6 x7 x8 M)=
 some (zp.Ca a1 x2 x3 x4 x5 (i64.wrap (x6+2)) x7 x8 M):=by kernel_rfl
theorem z90.entry:entry P T k lo F.z90 [.i x1] M=
 pb (0≤Int.tmod x1 8∧Int.tmod x1 8 < (8:Int))
 (ob (((M ++ [⟨.fx,[.i (-1),.i 1,.i (-2),.i 2,.i 0,.i 1,.i (-1),.i 2,.i 0,.i 1,.i 0,.i 2,.i 0,.i 1,.i 1,.i 2,.i 1,.i 1,.i 2,.i 2,.i 1,.i 0,.i 2,.i 1,.i 1,.i 0,.i 2,.i 0,.i 1,.i 0,.i 2,.i (-1)]⟩]:Mem).ld (plus ⟨M.length,0,none⟩ ((Int.tmod x1 8).toNat*4))).bind (Value.int? .i64)) fun x7=>
 ob (((M ++ [⟨.fx,[.i (-1),.i 1,.i (-2),.i 2,.i 0,.i 1,.i (-1),.i 2,.i 0,.i 1,.i 0,.i 2,.i 0,.i 1,.i 1,.i 2,.i 1,.i 1,.i 2,.i 2,.i 1,.i 0,.i 2,.i 1,.i 1,.i 0,.i 2,.i 0,.i 1,.i 0,.i 2,.i (-1)]⟩]:Mem).ld (plus (plus ⟨M.length,0,none⟩ ((Int.tmod x1 8).toNat*4)) 1)).bind (Value.int? .i64)) fun x8=>
 ob (((M ++ [⟨.fx,[.i (-1),.i 1,.i (-2),.i 2,.i 0,.i 1,.i (-1),.i 2,.i 0,.i 1,.i 0,.i 2,.i 0,.i 1,.i 1,.i 2,.i 1,.i 1,.i 2,.i 2,.i 1,.i 0,.i 2,.i 1,.i 1,.i 0,.i 2,.i 0,.i 1,.i 0,.i 2,.i (-1)]⟩]:Mem).ld (plus (plus ⟨M.length,0,none⟩ ((Int.tmod x1 8).toNat*4)) 2)).bind (Value.int? .i64)) fun x9=>
 ob (((M ++ [⟨.fx,[.i (-1),.i 1,.i (-2),.i 2,.i 0,.i 1,.i (-1),.i 2,.i 0,.i 1,.i 0,.i 2,.i 0,.i 1,.i 1,.i 2,.i 1,.i 1,.i 2,.i 2,.i 1,.i 0,.i 2,.i 1,.i 1,.i 0,.i 2,.i 0,.i 1,.i 0,.i 2,.i (-1)]⟩]:Mem).ld (plus (plus ⟨M.length,0,none⟩ ((Int.tmod x1 8).toNat*4)) 3)).bind (Value.int? .i64)) fun x10=>
 some (.ret (.agg ⟨[.i x7,.i x8,.i x9,.i x10]⟩) (M ++ [⟨.fx,[.i (-1),.i 1,.i (-2),.i 2,.i 0,.i 1,.i (-1),.i 2,.i 0,.i 1,.i 0,.i 2,.i 0,.i 1,.i 1,.i 2,.i 1,.i 1,.i 2,.i 2,.i 1,.i 0,.i 2,.i 1,.i 1,.i 0,.i 2,.i 0,.i 1,.i 0,.i 2,.i (-1)]⟩]:Mem))) none:=by kernel_rfl
theorem zf9.entry:entry P T k lo F.zf9 [.int .u64 x1,.int .u64 x2] M=
 ob (z5 P T k lo F.zcw [.int .u64 x1,.int .u64 x2] M) fun r8=>
 ob (r8.1.tup? 2) fun l9=>
 ob ((l9[0]?).bind (Value.int? .u64)) fun x10=>
 ob ((l9[1]?).bind (Value.int? .u64)) fun x11=>
 some (.ret (.tuple ⟨[.int .u64 x10,.int .u64 x11]⟩) r8.2):=by kernel_rfl
theorem yc.entry:entry P T k lo F.yc [.i x1,.i x2] M=
 bb (decide (x2 > 4))
 (some (yc.Ca x2 (i64.wrap (Int.tdiv x1 4)) M))
 (bb (decide (x2 > 0))
 (some (yc.Ca x2 (i64.wrap (Int.tdiv x1 2)) M))
 (some (yc.Ca x2 x1 M))):=by kernel_rfl
theorem yc.Pa:pz P T k lo F.yc (yc.Ca x1 x2 M)=
 bb (decide (x1 > 0))
 (some (yc.Cb (zq x2 (i64.wrap (9 - x1))) M))
 (some (yc.Cb x2 M)):=by kernel_rfl
theorem yc.Pb:pz P T k lo F.yc (yc.Cb x1 M)=
 some (.ret (.i (yv x1 1)) M):=by kernel_rfl
theorem zav.entry:entry P T k lo F.zav [.s A1 n2 c3,.i x4,.i x5] M=
 ob (z5 P T k lo F.zbw [.s A1 n2 c3,.i x4] M) fun r11=>
 ob ((some r11.1).bind (Value.int? .i64)) fun x12=>
 ob (z5 P T k lo F.zbw [.s A1 n2 c3,.i x5] r11.2) fun r13=>
 ob ((some r13.1).bind (Value.int? .i64)) fun x14=>
 ob (z5 P T k lo F.zat [.i (i64.wrap (x12 - x14))] r13.2) fun r15=>
 ob ((some r15.1).bind (Value.int? .i64)) fun x16=>
 some (.ret (.i x16) r15.2):=by kernel_rfl
theorem zat.entry:entry P T k lo F.zat [.i x1] M=
 bb (decide (x1 < 0))
 (some (.ret (.i (i64.wrap (0 - x1))) M))
 (some (.ret (.i x1) M)):=by kernel_rfl
theorem zbw.entry:entry P T k lo F.zbw [.s A1 n2 c3,.i x4] M=
 pb (0≤i64.wrap ((i64.wrap (Int.tdiv (n2:Int) 2))+x4)∧i64.wrap ((i64.wrap (Int.tdiv (n2:Int) 2))+x4) < (n2:Int))
 (ob A1 fun a10=>
 ob ((M.ld (plus a10 ((i64.wrap ((i64.wrap (Int.tdiv (n2:Int) 2))+x4)).toNat))).bind (Value.int? .u8)) fun x11=>
 some (.ret (.i (i64.wrap x11)) M)) none:=by kernel_rfl
theorem zcx.entry:entry P T k lo F.zcx [.i x1] M=
 ob (z5 P T k lo F.za4 [.i x1,.i (-128),.i 127] M) fun r7=>
 ob ((some r7.1).bind (Value.int? .i64)) fun x8=>
 some (.ret (.i x8) r7.2):=by kernel_rfl
theorem z8z.entry:entry P T k lo F.z8z [.i x1,.i x2,.i x3] M=
 ob (z5 P T k lo F.za4 [.i x1,.i (-1048576),.i 1048576] M) fun r9=>
 ob ((some r9.1).bind (Value.int? .i64)) fun x10=>
 ob (z5 P T k lo F.za4 [.i x2,.i (-1048576),.i 1048576] r9.2) fun r11=>
 ob ((some r11.1).bind (Value.int? .i64)) fun x12=>
 ob (z5 P T k lo F.za4 [.i x3,.i (-1048576),.i 1048576] r11.2) fun r13=>
 ob ((some r13.1).bind (Value.int? .i64)) fun x14=>
 bb (decide (x12≤0))
 (some (.ret (.i 0) r13.2))
 (ob (z5 P T k lo F.u6 [.i x12] r13.2) fun r15=>
 ob ((some r15.1).bind (Value.int? .i64)) fun x16=>
 ob (z5 P T k lo F.zat [.i x10] r15.2) fun r17=>
 ob ((some r17.1).bind (Value.int? .i64)) fun x18=>
 ob (z5 P T k lo F.zat [.i x10] r17.2) fun r19=>
 ob ((some r19.1).bind (Value.int? .i64)) fun x20=>
 pb ((zq (yv (i64.wrap (x14 - x16)) 0) 60) < 0) none
 (bb (decide (x10 < 0))
 (some (.ret (.i (i64.wrap (0 - (zq x18 (yv 0 (i64.wrap (x12 - (yz .i64 x20 ((zq (yv (i64.wrap (x14 - x16)) 0) 60).toNat))))))))) r19.2))
 (some (.ret (.i (zq x18 (yv 0 (i64.wrap (x12 - (yz .i64 x20 ((zq (yv (i64.wrap (x14 - x16)) 0) 60).toNat))))))) r19.2)))):=by kernel_rfl
theorem zcw.entry:entry P T k lo F.zcw [.int .u64 x1,.int .u64 x2] M=
 some (.ret (.tuple ⟨[.int .u64 (IntKind.u64.wrap ((IntKind.u64.wrap ((IntKind.u64.wrap ((yz .u64 x1 32)*(yz .u64 x2 32)))+(yz .u64 (IntKind.u64.wrap ((IntKind.u64.wrap ((yz .u64 x1 32)*(z0g .u64 x2 4294967295)))+(yz .u64 (IntKind.u64.wrap ((z0g .u64 x1 4294967295)*(z0g .u64 x2 4294967295))) 32))) 32)))+(yz .u64 (IntKind.u64.wrap ((z0g .u64 (IntKind.u64.wrap ((IntKind.u64.wrap ((yz .u64 x1 32)*(z0g .u64 x2 4294967295)))+(yz .u64 (IntKind.u64.wrap ((z0g .u64 x1 4294967295)*(z0g .u64 x2 4294967295))) 32))) 4294967295)+(IntKind.u64.wrap ((z0g .u64 x1 4294967295)*(yz .u64 x2 32))))) 32))),.int .u64 (IntKind.u64.wrap (x1*x2))]⟩) M):=by kernel_rfl
end Go.Zt

