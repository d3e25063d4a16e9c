/- What functions come to, from cut to cut. -/
import Derived.Test.YtpjfnpokkpapaaaEq0
import Derived.KernelRfl
set_option maxRecDepth 100000
set_option maxHeartbeats 4000000
set_option linter.unusedVariables false
namespace Go.Zt
theorem zoetropelaw06_ScoreRatios.entry (k lo : Nat) (x1 : Int) (x2 : Int) (A3 : Option Addr) (n4 : Nat) (c5 : Nat) (x6 : Int) (x7 : Int) (A8 : Option Addr) (n9 : Nat) (c10 : Nat) (M : Mem) : entry P T k lo F.zoetropelaw06_ScoreRatios [.agg ⟨[.int .i64 x1, .int .i64 x2, .slice A3 n4 c5]⟩, .agg ⟨[.int .i64 x6, .int .i64 x7, .slice A8 n9 c10]⟩] M =
 ob (acall P T k M.length F.zoetroperef05_CopyPlane [.agg ⟨[.int .i64 x1, .int .i64 x2, .slice A3 n4 c5]⟩] M) fun r16 =>
 ob ((some r16.1).bind (Value.agg? 3)) fun l17 =>
 ob ((l17[0]?).bind (Value.int? .i64)) fun x18 =>
 ob ((l17[1]?).bind (Value.int? .i64)) fun x19 =>
 ob ((l17[2]?).bind Value.slc?) fun s20 =>
 ob (acall P T k M.length F.zoetroperef05_CopyPlane [.agg ⟨[.int .i64 x6, .int .i64 x7, .slice A8 n9 c10]⟩] r16.2) fun r21 =>
 ob ((some r21.1).bind (Value.agg? 3)) fun l22 =>
 ob ((l22[0]?).bind (Value.int? .i64)) fun x23 =>
 ob ((l22[1]?).bind (Value.int? .i64)) fun x24 =>
 ob ((l22[2]?).bind Value.slc?) fun s25 =>
 ob (acall P T k r21.2.length F.score_Ratio [.agg ⟨[.int .i64 x18, .int .i64 x19, .slice s20.a s20.n s20.c]⟩, .agg ⟨[.int .i64 x23, .int .i64 x24, .slice s25.a s25.n s25.c]⟩] r21.2) fun r26 =>
 ob ((some r26.1).bind (Value.flt? .f64)) fun y27 =>
 ob (acall P T k r21.2.length F.zoetroperef06_Ratio [.agg ⟨[.int .i64 x1, .int .i64 x2, .slice A3 n4 c5]⟩, .agg ⟨[.int .i64 x6, .int .i64 x7, .slice A8 n9 c10]⟩] r26.2) fun r28 =>
 ob ((some r28.1).bind (Value.flt? .f64)) fun y29 =>
 ob (acall P T k r21.2.length F.zoetroperef06_Same [.float .f64 y27, .float .f64 y29] r28.2) fun r30 =>
 ob ((some r30.1).bind Value.bool?) fun b31 =>
 bb b31
 (ob (acall P T k r21.2.length F.score_Ratio [.agg ⟨[.int .i64 x18, .int .i64 x19, .slice s20.a s20.n s20.c]⟩, .agg ⟨[.int .i64 x18, .int .i64 x19, .slice s20.a s20.n s20.c]⟩] r30.2) fun r32 =>
 ob ((some r32.1).bind (Value.flt? .f64)) fun y33 =>
 ob (acall P T k r21.2.length F.zoetroperef06_Ratio [.agg ⟨[.int .i64 x1, .int .i64 x2, .slice A3 n4 c5]⟩, .agg ⟨[.int .i64 x1, .int .i64 x2, .slice A3 n4 c5]⟩] r32.2) fun r34 =>
 ob ((some r34.1).bind (Value.flt? .f64)) fun y35 =>
 ob (acall P T k r21.2.length F.zoetroperef06_Same [.float .f64 y33, .float .f64 y35] r34.2) fun r36 =>
 ob ((some r36.1).bind Value.bool?) fun b37 =>
 bb b37
 (ob (acall P T k lo F.zoetroperef05_Same [.agg ⟨[.int .i64 x18, .int .i64 x19, .slice s20.a s20.n s20.c]⟩, .agg ⟨[.int .i64 x1, .int .i64 x2, .slice A3 n4 c5]⟩] r36.2) fun r38 =>
 ob ((some r38.1).bind Value.bool?) fun b39 =>
 bb b39
 (ob (acall P T k lo F.zoetroperef05_Same [.agg ⟨[.int .i64 x23, .int .i64 x24, .slice s25.a s25.n s25.c]⟩, .agg ⟨[.int .i64 x6, .int .i64 x7, .slice A8 n9 c10]⟩] r38.2) fun r40 =>
 ob ((some r40.1).bind Value.bool?) fun b41 =>
 bb b41
 (ob (acall P T k lo F.zoetropelaw06_works [] r40.2) fun r42 =>
 ob ((some r42.1).bind Value.bool?) fun b43 =>
 some (.ret (.bool b43) r42.2))
 (some (.ret (.bool false) r40.2)))
 (some (.ret (.bool false) r38.2)))
 (some (.ret (.bool false) r36.2)))
 (some (.ret (.bool false) r30.2)) := by kernel_rfl
theorem zoetropelaw06_ScoreCosts.entry (k lo : Nat) (x1 : Int) (x2 : Int) (y3 : Nat) (M : Mem) : entry P T k lo F.zoetropelaw06_ScoreCosts [.int .u64 x1, .int .u64 x2, .float .f64 y3] M =
 some (zoetropelaw06_ScoreCosts.c52 x1 x2 y3 0 M) := by kernel_rfl
theorem zoetropelaw06_ScoreCosts.p52 (k lo : Nat) (x1 : Int) (x2 : Int) (y3 : Nat) (x4 : Int) (M : Mem) : piece P T k lo F.zoetropelaw06_ScoreCosts 52 [.v (.int .u64 x1), .v (.int .u64 x2), .v (.float .f64 y3), .v (.int .i64 x4)] [] M =
 bb (decide (x4 < 8))
 (pb (IntKind.i64.wrap (8 * x4) < 0) none
 (ob (acall P T k lo F.score_Cost [.int .u64 (shrI .u64 x1 ((IntKind.i64.wrap (8 * x4)).toNat)), .int .u64 x2, .float .f64 y3] M) fun r9 =>
 ob ((some r9.1).bind (Value.flt? .f64)) fun y10 =>
 pb (IntKind.i64.wrap (8 * x4) < 0) none
 (ob (acall P T k lo F.zoetroperef06_Cost [.int .u64 (shrI .u64 x1 ((IntKind.i64.wrap (8 * x4)).toNat)), .int .u64 x2, .float .f64 y3] r9.2) fun r11 =>
 ob ((some r11.1).bind (Value.flt? .f64)) fun y12 =>
 ob (acall P T k lo F.zoetroperef06_Same [.float .f64 y10, .float .f64 y12] r11.2) fun r13 =>
 ob ((some r13.1).bind Value.bool?) fun b14 =>
 bb (!b14)
 (some (.ret (.bool false) r13.2))
 (pb (IntKind.i64.wrap (8 * x4) < 0) none
 (ob (acall P T k lo F.score_Cost [.int .u64 x1, .int .u64 (shrI .u64 x2 ((IntKind.i64.wrap (8 * x4)).toNat)), .float .f64 y3] r13.2) fun r15 =>
 ob ((some r15.1).bind (Value.flt? .f64)) fun y16 =>
 pb (IntKind.i64.wrap (8 * x4) < 0) none
 (ob (acall P T k lo F.zoetroperef06_Cost [.int .u64 x1, .int .u64 (shrI .u64 x2 ((IntKind.i64.wrap (8 * x4)).toNat)), .float .f64 y3] r15.2) fun r17 =>
 ob ((some r17.1).bind (Value.flt? .f64)) fun y18 =>
 ob (acall P T k lo F.zoetroperef06_Same [.float .f64 y16, .float .f64 y18] r17.2) fun r19 =>
 ob ((some r19.1).bind Value.bool?) fun b20 =>
 bb (!b20)
 (some (.ret (.bool false) r19.2))
 (some (zoetropelaw06_ScoreCosts.c52 x1 x2 y3 (IntKind.i64.wrap (x4 + 1)) r19.2))))))))
 (ob (acall P T k lo F.zoetropelaw06_works [] M) fun r21 =>
 ob ((some r21.1).bind Value.bool?) fun b22 =>
 some (.ret (.bool b22) r21.2)) := by kernel_rfl
theorem zoetropelaw06_ScoreLists.entry (k lo : Nat) (A1 : Option Addr) (n2 : Nat) (c3 : Nat) (M : Mem) : entry P T k lo F.zoetropelaw06_ScoreLists [.slice A1 n2 c3] M =
 ob (Mem.src M A1 n2 n2) fun l9 =>
 ob (M.app lo 1 8 ⟨none, 0, 0⟩ l9 n2) fun r10 =>
 ob (acall P T k lo F.score_Best [.slice r10.1.a r10.1.n r10.1.c] r10.2) fun r11 =>
 ob (r11.1.tup? 2) fun l12 =>
 ob ((l12[0]?).bind (Value.int? .i64)) fun x13 =>
 ob ((l12[1]?).bind (Value.int? .i64)) fun x14 =>
 ob (acall P T k lo F.zoetroperef06_Best [.slice A1 n2 c3] r11.2) fun r15 =>
 ob (r15.1.tup? 2) fun l16 =>
 ob ((l16[0]?).bind (Value.int? .i64)) fun x17 =>
 ob ((l16[1]?).bind (Value.int? .i64)) fun x18 =>
 bb (x13 != x17)
 (some (.ret (.bool false) r15.2))
 (bb (x14 != x18)
 (some (.ret (.bool false) r15.2))
 (ob (acall P T k lo F.score_Mean [.slice r10.1.a r10.1.n r10.1.c] r15.2) fun r19 =>
 ob ((some r19.1).bind (Value.flt? .f64)) fun y20 =>
 ob (acall P T k lo F.zoetroperef06_Mean [.slice A1 n2 c3] r19.2) fun r21 =>
 ob ((some r21.1).bind (Value.flt? .f64)) fun y22 =>
 ob (acall P T k lo F.zoetroperef06_Same [.float .f64 y20, .float .f64 y22] r21.2) fun r23 =>
 ob ((some r23.1).bind Value.bool?) fun b24 =>
 bb (!b24)
 (some (.ret (.bool false) r23.2))
 (some (zoetropelaw06_ScoreLists.c2036 A1 n2 c3 r10.1.a r10.1.n r10.1.c 0 r23.2)))) := by kernel_rfl
theorem zoetropelaw06_ScoreLists.p2036 (k lo : Nat) (A1 : Option Addr) (n2 : Nat) (c3 : Nat) (A4 : Option Addr) (n5 : Nat) (c6 : Nat) (x7 : Int) (M : Mem) : piece P T k lo F.zoetropelaw06_ScoreLists 2036 [.v (.slice A1 n2 c3), .v (.slice A4 n5 c6), .v (.int .i64 x7)] [] M =
 bb (decide (x7 < (n2 : Int)))
 (pb (0 ≤ x7 ∧ x7 < (n5 : Int))
 (ob A4 fun a25 =>
 ob ((M.ld (plus a25 x7.toNat)).bind (Value.flt? .f64)) fun y26 =>
 ob (acall P T k M.length F.score_Class [.float .f64 y26] M) fun r27 =>
 ob ((some r27.1).bind Value.str?) fun t28 =>
 pb (0 ≤ x7 ∧ x7 < (n2 : Int))
 (ob A1 fun a29 =>
 ob ((if ((plus a29 x7.toNat).block) < M.length then r27.2.ld (plus a29 x7.toNat) else none).bind (Value.flt? .f64)) fun y30 =>
 ob (acall P T k M.length F.zoetroperef06_Class [.float .f64 y30] r27.2) fun r31 =>
 ob ((some r31.1).bind Value.str?) fun t32 =>
 bb (!(t28.toList == t32.toList))
 (some (.ret (.bool false) r31.2))
 (pb (0 ≤ x7 ∧ x7 < (n5 : Int))
 (ob A4 fun a33 =>
 ob ((r31.2.ld (plus a33 x7.toNat)).bind (Value.flt? .f64)) fun y34 =>
 pb (0 ≤ x7 ∧ x7 < (n2 : Int))
 (ob A1 fun a35 =>
 ob ((r31.2.ld (plus a35 x7.toNat)).bind (Value.flt? .f64)) fun y36 =>
 ob (acall P T k M.length F.zoetroperef06_Same [.float .f64 y34, .float .f64 y36] r31.2) fun r37 =>
 ob ((some r37.1).bind Value.bool?) fun b38 =>
 bb (!b38)
 (some (.ret (.bool false) r37.2))
 (some (zoetropelaw06_ScoreLists.c2036 A1 n2 c3 A4 n5 c6 (IntKind.i64.wrap (x7 + 1)) r37.2))) none) none)) none) none)
 (ob (acall P T k lo F.zoetropelaw06_works [] M) fun r39 =>
 ob ((some r39.1).bind Value.bool?) fun b40 =>
 some (.ret (.bool b40) r39.2)) := by kernel_rfl
theorem zoetropelaw06_ScoreDearer.entry (k lo : Nat) (x1 : Int) (x2 : Int) (x3 : Int) (x4 : Int) (y5 : Nat) (M : Mem) : entry P T k lo F.zoetropelaw06_ScoreDearer [.agg ⟨[.int .u64 x1, .int .u64 x2]⟩, .agg ⟨[.int .u64 x3, .int .u64 x4]⟩, .float .f64 y5] M =
 ob (acall P T k lo F.zoetropelaw06_works [] M) fun r11 =>
 ob ((some r11.1).bind Value.bool?) fun b12 =>
 bb (!b12)
 (some (.ret (.bool false) r11.2))
 (bb (FloatKind.f64.format.order y5 y5 != some .eq)
 (some (.ret (.bool true) r11.2))
 (bb (FloatKind.f64.format.order y5 0 == some .lt)
 (some (.ret (.bool true) r11.2))
 (ob (acall P T k lo F.score_Class [.float .f64 y5] r11.2) fun r13 =>
 ob ((some r13.1).bind Value.str?) fun t14 =>
 bb (t14.toList == (⟨#[105, 110, 102]⟩ : ByteArray).toList)
 (some (.ret (.bool true) r13.2))
 (ob (acall P T k lo F.score_Cost [.int .u64 (minI x1 x2), .int .u64 (minI x3 x4), .float .f64 y5] r13.2) fun r15 =>
 ob ((some r15.1).bind (Value.flt? .f64)) fun y16 =>
 ob (acall P T k lo F.score_Cost [.int .u64 (maxI x1 x2), .int .u64 (maxI x3 x4), .float .f64 y5] r15.2) fun r17 =>
 ob ((some r17.1).bind (Value.flt? .f64)) fun y18 =>
 bb (FloatKind.f64.format.order y16 y18 == some .lt || FloatKind.f64.format.order y16 y18 == some .eq)
 (ob (acall P T k lo F.score_Cost [.int .u64 (minI x1 x2), .int .u64 (maxI x3 x4), .float .f64 y5] r17.2) fun r19 =>
 ob ((some r19.1).bind (Value.flt? .f64)) fun y20 =>
 bb (FloatKind.f64.format.order y16 y20 == some .lt || FloatKind.f64.format.order y16 y20 == some .eq)
 (some (.ret (.bool (FloatKind.f64.format.order y16 0 == some .gt || FloatKind.f64.format.order y16 0 == some .eq)) r19.2))
 (some (.ret (.bool false) r19.2)))
 (some (.ret (.bool false) r17.2)))))) := by kernel_rfl
theorem zoetropelaw06_ScoreBest.entry (k lo : Nat) (A1 : Option Addr) (n2 : Nat) (c3 : Nat) (M : Mem) : entry P T k lo F.zoetropelaw06_ScoreBest [.slice A1 n2 c3] M =
 ob (acall P T k lo F.zoetropelaw06_works [] M) fun r9 =>
 ob ((some r9.1).bind Value.bool?) fun b10 =>
 bb (!b10)
 (some (.ret (.bool false) r9.2))
 (ob (acall P T k lo F.score_Best [.slice A1 n2 c3] r9.2) fun r11 =>
 ob (r11.1.tup? 2) fun l12 =>
 ob ((l12[0]?).bind (Value.int? .i64)) fun x13 =>
 ob ((l12[1]?).bind (Value.int? .i64)) fun x14 =>
 ob (Mem.src r11.2 A1 n2 n2) fun l15 =>
 ob (r11.2.app lo 1 8 ⟨none, 0, 0⟩ l15 n2) fun r16 =>
 ob (Mem.src r16.2 A1 n2 n2) fun l17 =>
 ob (r16.2.app lo 1 8 ⟨r16.1.a, r16.1.n, r16.1.c⟩ l17 n2) fun r18 =>
 ob (acall P T k lo F.zoetropelaw06_quotients [] r18.2) fun r19 =>
 ob (r19.1.tup? 4) fun l20 =>
 ob ((l20[0]?).bind (Value.flt? .f64)) fun y21 =>
 ob ((l20[1]?).bind (Value.flt? .f64)) fun y22 =>
 ob ((l20[2]?).bind (Value.flt? .f64)) fun y23 =>
 ob ((l20[3]?).bind (Value.flt? .f64)) fun y24 =>
 ob (r19.2.app lo 1 8 ⟨r18.1.a, r18.1.n, r18.1.c⟩ ([.float .f64 y23]) 1) fun r25 =>
 ob (acall P T k lo F.score_Best [.slice r25.1.a r25.1.n r25.1.c] r25.2) fun r26 =>
 ob (r26.1.tup? 2) fun l27 =>
 ob ((l27[0]?).bind (Value.int? .i64)) fun x28 =>
 ob ((l27[1]?).bind (Value.int? .i64)) fun x29 =>
 bb (x13 != x28)
 (some (.ret (.bool false) r26.2))
 (bb (x14 != x29)
 (some (.ret (.bool false) r26.2))
 (bb (decide (x13 < 0))
 (some (.ret (.bool false) r26.2))
 (bb (decide (x13 > (n2 : Int)))
 (some (.ret (.bool false) r26.2))
 (bb (x14 != 0)
 (some (zoetropelaw06_ScoreBest.c130980 A1 n2 c3 x13 x14 0 r26.2))
 (bb (x13 == (n2 : Int))
 (some (.ret (.bool false) r26.2))
 (pb (0 ≤ x13 ∧ x13 < (n2 : Int))
 (ob A1 fun a30 =>
 ob ((r26.2.ld (plus a30 x13.toNat)).bind (Value.flt? .f64)) fun y31 =>
 pb (0 ≤ x13 ∧ x13 < (n2 : Int))
 (ob A1 fun a32 =>
 ob ((r26.2.ld (plus a32 x13.toNat)).bind (Value.flt? .f64)) fun y33 =>
 bb (FloatKind.f64.format.order y31 y33 != some .eq)
 (some (.ret (.bool false) r26.2))
 (some (zoetropelaw06_ScoreBest.c65524 A1 n2 c3 x13 0 r26.2))) none) none))))))) := by kernel_rfl
theorem zoetropelaw06_ScoreBest.p65524 (k lo : Nat) (A1 : Option Addr) (n2 : Nat) (c3 : Nat) (x4 : Int) (x5 : Int) (M : Mem) : piece P T k lo F.zoetropelaw06_ScoreBest 65524 [.v (.slice A1 n2 c3), .v (.int .i64 x4), .v (.int .i64 x5)] [] M =
 bb (decide (x5 < (n2 : Int)))
 (pb (0 ≤ x5 ∧ x5 < (n2 : Int))
 (ob A1 fun a34 =>
 ob ((M.ld (plus a34 x5.toNat)).bind (Value.flt? .f64)) fun y35 =>
 pb (0 ≤ x4 ∧ x4 < (n2 : Int))
 (ob A1 fun a36 =>
 ob ((M.ld (plus a36 x4.toNat)).bind (Value.flt? .f64)) fun y37 =>
 bb (FloatKind.f64.format.order y35 y37 == some .lt)
 (some (.ret (.bool false) M))
 (bb (decide (x5 < x4))
 (pb (0 ≤ x5 ∧ x5 < (n2 : Int))
 (ob A1 fun a38 =>
 ob ((M.ld (plus a38 x5.toNat)).bind (Value.flt? .f64)) fun y39 =>
 pb (0 ≤ x4 ∧ x4 < (n2 : Int))
 (ob A1 fun a40 =>
 ob ((M.ld (plus a40 x4.toNat)).bind (Value.flt? .f64)) fun y41 =>
 bb (FloatKind.f64.format.order y39 y41 == some .eq)
 (some (.ret (.bool false) M))
 (some (zoetropelaw06_ScoreBest.c65524 A1 n2 c3 x4 (IntKind.i64.wrap (x5 + 1)) M))) none) none)
 (some (zoetropelaw06_ScoreBest.c65524 A1 n2 c3 x4 (IntKind.i64.wrap (x5 + 1)) M)))) none) none)
 (some (.ret (.bool true) M)) := by kernel_rfl
theorem zoetropelaw06_ScoreBest.p130980 (k lo : Nat) (A1 : Option Addr) (n2 : Nat) (c3 : Nat) (x4 : Int) (x5 : Int) (x6 : Int) (M : Mem) : piece P T k lo F.zoetropelaw06_ScoreBest 130980 [.v (.slice A1 n2 c3), .v (.int .i64 x4), .v (.int .i64 x5), .v (.int .i64 x6)] [] M =
 bb (decide (x6 < (n2 : Int)))
 (pb (0 ≤ x6 ∧ x6 < (n2 : Int))
 (ob A1 fun a42 =>
 ob ((M.ld (plus a42 x6.toNat)).bind (Value.flt? .f64)) fun y43 =>
 pb (0 ≤ x6 ∧ x6 < (n2 : Int))
 (ob A1 fun a44 =>
 ob ((M.ld (plus a44 x6.toNat)).bind (Value.flt? .f64)) fun y45 =>
 bb (FloatKind.f64.format.order y43 y45 == some .eq)
 (some (.ret (.bool false) M))
 (some (zoetropelaw06_ScoreBest.c130980 A1 n2 c3 x4 x5 (IntKind.i64.wrap (x6 + 1)) M))) none) none)
 (bb (x5 == 2)
 (some (.ret (.bool (x4 == 0)) M))
 (some (.ret (.bool false) M))) := by kernel_rfl
theorem zoetropelaw06_ScoreMiddle.entry (k lo : Nat) (A1 : Option Addr) (n2 : Nat) (c3 : Nat) (x4 : Int) (M : Mem) : entry P T k lo F.zoetropelaw06_ScoreMiddle [.slice A1 n2 c3, .int .i64 x4] M =
 ob (acall P T k lo F.zoetropelaw06_works [] M) fun r10 =>
 ob ((some r10.1).bind Value.bool?) fun b11 =>
 bb (!b11)
 (some (.ret (.bool false) r10.2))
 (some (zoetropelaw06_ScoreMiddle.c500 A1 n2 c3 x4 none 0 0 1099511627776 (-1099511627776) 0 r10.2)) := by kernel_rfl
theorem zoetropelaw06_ScoreMiddle.p500 (k lo : Nat) (A1 : Option Addr) (n2 : Nat) (c3 : Nat) (x4 : Int) (A5 : Option Addr) (n6 : Nat) (c7 : Nat) (x8 : Int) (x9 : Int) (x10 : Int) (M : Mem) : piece P T k lo F.zoetropelaw06_ScoreMiddle 500 [.v (.slice A1 n2 c3), .v (.int .i64 x4), .v (.slice A5 n6 c7), .v (.int .i64 x8), .v (.int .i64 x9), .v (.int .i64 x10)] [] M =
 bb (decide (x10 < (n2 : Int)))
 (bb (decide (x10 < 1000))
 (pb (0 ≤ x10 ∧ x10 < (n2 : Int))
 (ob A1 fun a12 =>
 ob ((M.ld (plus a12 x10.toNat)).bind (Value.int? .i64)) fun x13 =>
 ob (acall P T k lo F.zoetroperef00_Bring [.int .i64 x13, .int .i64 2199023255553] M) fun r14 =>
 ob ((some r14.1).bind (Value.int? .i64)) fun x15 =>
 ob (r14.2.app lo 1 8 ⟨A5, n6, c7⟩ ([.float .f64 (FloatKind.f64.nearest (IntKind.i64.wrap (x15 - 1099511627776)))]) 1) fun r16 =>
 some (zoetropelaw06_ScoreMiddle.c500 A1 n2 c3 x4 r16.1.a r16.1.n r16.1.c (minI x8 (IntKind.i64.wrap (x15 - 1099511627776))) (maxI x9 (IntKind.i64.wrap (x15 - 1099511627776))) (IntKind.i64.wrap (x10 + 1)) r16.2)) none)
 (ob (acall P T k lo F.score_Mean [.slice A5 n6 c7] M) fun r17 =>
 ob ((some r17.1).bind (Value.flt? .f64)) fun y18 =>
 bb ((n6 : Int) == 0)
 (some (.ret (.bool (FloatKind.f64.format.order y18 y18 != some .eq)) r17.2))
 (some (zoetropelaw06_ScoreMiddle.c8180 x4 A5 n6 c7 x8 x9 y18 none 0 0 0 r17.2))))
 (ob (acall P T k lo F.score_Mean [.slice A5 n6 c7] M) fun r19 =>
 ob ((some r19.1).bind (Value.flt? .f64)) fun y20 =>
 bb ((n6 : Int) == 0)
 (some (.ret (.bool (FloatKind.f64.format.order y20 y20 != some .eq)) r19.2))
 (some (zoetropelaw06_ScoreMiddle.c8180 x4 A5 n6 c7 x8 x9 y20 none 0 0 0 r19.2))) := by kernel_rfl
theorem zoetropelaw06_ScoreMiddle.p8180 (k lo : Nat) (x1 : Int) (A2 : Option Addr) (n3 : Nat) (c4 : Nat) (x5 : Int) (x6 : Int) (y7 : Nat) (A8 : Option Addr) (n9 : Nat) (c10 : Nat) (x11 : Int) (M : Mem) : piece P T k lo F.zoetropelaw06_ScoreMiddle 8180 [.v (.int .i64 x1), .v (.slice A2 n3 c4), .v (.int .i64 x5), .v (.int .i64 x6), .v (.float .f64 y7), .v (.slice A8 n9 c10), .v (.int .i64 x11)] [] M =
 ob (acall P T k lo F.zoetroperef00_Bring [.int .i64 x1, .int .i64 1000] M) fun r21 =>
 ob ((some r21.1).bind (Value.int? .i64)) fun x22 =>
 bb (decide (x11 < IntKind.i64.wrap (1 + x22)))
 (pb (0 ≤ (0 : Int) ∧ (0 : Int) < (n3 : Int))
 (ob A2 fun a23 =>
 ob ((r21.2.ld a23).bind (Value.flt? .f64)) fun y24 =>
 ob (r21.2.app lo 1 8 ⟨A8, n9, c10⟩ ([.float .f64 y24]) 1) fun r25 =>
 some (zoetropelaw06_ScoreMiddle.c8180 x1 A2 n3 c4 x5 x6 y7 r25.1.a r25.1.n r25.1.c (IntKind.i64.wrap (x11 + 1)) r25.2)) none)
 (bb (FloatKind.f64.format.order y7 (FloatKind.f64.nearest x5) == some .gt || FloatKind.f64.format.order y7 (FloatKind.f64.nearest x5) == some .eq)
 (bb (FloatKind.f64.format.order y7 (FloatKind.f64.nearest x6) == some .lt || FloatKind.f64.format.order y7 (FloatKind.f64.nearest x6) == some .eq)
 (ob (acall P T k r21.2.length F.score_Mean [.slice A8 n9 c10] r21.2) fun r26 =>
 ob ((some r26.1).bind (Value.flt? .f64)) fun y27 =>
 pb (0 ≤ (0 : Int) ∧ (0 : Int) < (n3 : Int))
 (ob A2 fun a28 =>
 ob ((if a28.block < r21.2.length then r26.2.ld a28 else none).bind (Value.flt? .f64)) fun y29 =>
 some (.ret (.bool (FloatKind.f64.format.order y27 y29 == some .eq)) r26.2)) none)
 (some (.ret (.bool false) r21.2)))
 (some (.ret (.bool false) r21.2))) := by kernel_rfl
theorem zoetropelaw06_ScoreKnown.entry (k lo : Nat) (M : Mem) : entry P T k lo F.zoetropelaw06_ScoreKnown [] M =
 ob (acall P T k lo F.zoetropelaw06_quotients [] M) fun r6 =>
 ob (r6.1.tup? 4) fun l7 =>
 ob ((l7[0]?).bind (Value.flt? .f64)) fun y8 =>
 ob ((l7[1]?).bind (Value.flt? .f64)) fun y9 =>
 ob ((l7[2]?).bind (Value.flt? .f64)) fun y10 =>
 ob ((l7[3]?).bind (Value.flt? .f64)) fun y11 =>
 ob (acall P T k lo F.zoetropelaw06_row [.slice (some ⟨r6.2.length, 0, none⟩) 2 2] (r6.2 ++ [⟨.fx, [.int .u8 0, .int .u8 0]⟩] : Mem)) fun r12 =>
 ob ((some r12.1).bind (Value.agg? 3)) fun l13 =>
 ob ((l13[0]?).bind (Value.int? .i64)) fun x14 =>
 ob ((l13[1]?).bind (Value.int? .i64)) fun x15 =>
 ob ((l13[2]?).bind Value.slc?) fun s16 =>
 ob (acall P T k lo F.zoetropelaw06_row [.slice (some ⟨r12.2.length, 0, none⟩) 2 2] (r12.2 ++ [⟨.fx, [.int .u8 0, .int .u8 1]⟩] : Mem)) fun r17 =>
 ob ((some r17.1).bind (Value.agg? 3)) fun l18 =>
 ob ((l18[0]?).bind (Value.int? .i64)) fun x19 =>
 ob ((l18[1]?).bind (Value.int? .i64)) fun x20 =>
 ob ((l18[2]?).bind Value.slc?) fun s21 =>
 ob (acall P T k lo F.zoetropelaw06_row [.slice (some ⟨r17.2.length, 0, none⟩) 2 2] (r17.2 ++ [⟨.fx, [.int .u8 255, .int .u8 255]⟩] : Mem)) fun r22 =>
 ob ((some r22.1).bind (Value.agg? 3)) fun l23 =>
 ob ((l23[0]?).bind (Value.int? .i64)) fun x24 =>
 ob ((l23[1]?).bind (Value.int? .i64)) fun x25 =>
 ob ((l23[2]?).bind Value.slc?) fun s26 =>
 ob (acall P T k lo F.score_Ratio [.agg ⟨[.int .i64 x14, .int .i64 x15, .slice s16.a s16.n s16.c]⟩, .agg ⟨[.int .i64 x14, .int .i64 x15, .slice s16.a s16.n s16.c]⟩] r22.2) fun r27 =>
 ob ((some r27.1).bind (Value.flt? .f64)) fun y28 =>
 bb (FloatKind.f64.format.order y28 y8 == some .eq)
 (ob (acall P T k lo F.score_Ratio [.agg ⟨[.int .i64 x14, .int .i64 x15, .slice s16.a s16.n s16.c]⟩, .agg ⟨[.int .i64 x19, .int .i64 x20, .slice s21.a s21.n s21.c]⟩] r27.2) fun r29 =>
 ob ((some r29.1).bind (Value.flt? .f64)) fun y30 =>
 bb (FloatKind.f64.format.order y30 4683673381160091648 == some .eq)
 (ob (acall P T k lo F.score_Ratio [.agg ⟨[.int .i64 x14, .int .i64 x15, .slice s16.a s16.n s16.c]⟩, .agg ⟨[.int .i64 x24, .int .i64 x25, .slice s26.a s26.n s26.c]⟩] r29.2) fun r31 =>
 ob ((some r31.1).bind (Value.flt? .f64)) fun y32 =>
 bb (FloatKind.f64.format.order y32 4607182418800017408 == some .eq)
 (ob (acall P T k lo F.score_Ratio [.agg ⟨[.int .i64 x14, .int .i64 x15, .slice s16.a s16.n s16.c]⟩, .agg ⟨[.int .i64 1, .int .i64 2, .slice (some ⟨r31.2.length, 0, none⟩) 2 2]⟩] (r31.2 ++ [⟨.fx, [.int .u8 0, .int .u8 0]⟩] : Mem)) fun r33 =>
 ob ((some r33.1).bind (Value.flt? .f64)) fun y34 =>
 ob (acall P T k lo F.score_Class [.float .f64 y34] r33.2) fun r35 =>
 ob ((some r35.1).bind Value.str?) fun t36 =>
 bb (t36.toList == (⟨#[110, 111, 110, 101]⟩ : ByteArray).toList)
 (ob (acall P T k lo F.score_Ratio [.agg ⟨[.int .i64 0, .int .i64 0, .slice none 0 0]⟩, .agg ⟨[.int .i64 0, .int .i64 0, .slice none 0 0]⟩] r35.2) fun r37 =>
 ob ((some r37.1).bind (Value.flt? .f64)) fun y38 =>
 ob (acall P T k lo F.score_Class [.float .f64 y38] r37.2) fun r39 =>
 ob ((some r39.1).bind Value.str?) fun t40 =>
 some (zoetropelaw06_ScoreKnown.c31 y8 y9 y10 y11 (t40.toList == (⟨#[110, 111, 110, 101]⟩ : ByteArray).toList) r39.2))
 (some (zoetropelaw06_ScoreKnown.c31 y8 y9 y10 y11 false r35.2)))
 (some (zoetropelaw06_ScoreKnown.c31 y8 y9 y10 y11 false r31.2)))
 (some (zoetropelaw06_ScoreKnown.c31 y8 y9 y10 y11 false r29.2)))
 (some (zoetropelaw06_ScoreKnown.c31 y8 y9 y10 y11 false r27.2)) := by kernel_rfl
theorem zoetropelaw06_ScoreKnown.p31 (k lo : Nat) (y1 : Nat) (y2 : Nat) (y3 : Nat) (y4 : Nat) (b5 : Bool) (M : Mem) : piece P T k lo F.zoetropelaw06_ScoreKnown 31 [.v (.float .f64 y1), .v (.float .f64 y2), .v (.float .f64 y3), .v (.float .f64 y4), .v (.bool b5)] [] M =
 ob (acall P T k lo F.score_Cost [.int .u64 10, .int .u64 0, .float .f64 y1] M) fun r41 =>
 ob ((some r41.1).bind (Value.flt? .f64)) fun y42 =>
 ob (acall P T k lo F.score_Class [.float .f64 y42] r41.2) fun r43 =>
 ob ((some r43.1).bind Value.str?) fun t44 =>
 bb (t44.toList == (⟨#[110, 111, 110, 101]⟩ : ByteArray).toList)
 (ob (acall P T k lo F.score_Cost [.int .u64 10, .int .u64 3, .float .f64 13835058055282163712] r43.2) fun r45 =>
 ob ((some r45.1).bind (Value.flt? .f64)) fun y46 =>
 bb (FloatKind.f64.format.order y46 4616189618054758400 == some .eq)
 (ob (acall P T k lo F.score_Cost [.int .u64 18446744073709551615, .int .u64 0, .float .f64 4607182418800017408] r45.2) fun r47 =>
 ob ((some r47.1).bind (Value.flt? .f64)) fun y48 =>
 bb (FloatKind.f64.format.order y48 4895412794951729152 == some .eq)
 (ob (acall P T k lo F.score_Cost [.int .u64 0, .int .u64 9223372036854775808, .float .f64 4611686018427387904] r47.2) fun r49 =>
 ob ((some r49.1).bind (Value.flt? .f64)) fun y50 =>
 bb (FloatKind.f64.format.order y50 4895412794951729152 == some .eq)
 (ob (acall P T k lo F.score_Cost [.int .u64 1, .int .u64 1, .float .f64 y2] r49.2) fun r51 =>
 ob ((some r51.1).bind (Value.flt? .f64)) fun y52 =>
 bb (FloatKind.f64.format.order y52 y2 == some .eq)
 (ob (acall P T k lo F.score_Cost [.int .u64 9007199254740993, .int .u64 0, .float .f64 0] r51.2) fun r53 =>
 ob ((some r53.1).bind (Value.flt? .f64)) fun y54 =>
 bb (FloatKind.f64.format.order y54 4845873199050653696 == some .eq)
 (ob (acall P T k lo F.score_Cost [.int .u64 0, .int .u64 5, .float .f64 y3] r53.2) fun r55 =>
 ob ((some r55.1).bind (Value.flt? .f64)) fun y56 =>
 ob (acall P T k lo F.score_Class [.float .f64 y56] r55.2) fun r57 =>
 ob ((some r57.1).bind Value.str?) fun t58 =>
 some (zoetropelaw06_ScoreKnown.c63 y1 y2 y3 y4 b5 (t58.toList == (⟨#[110, 111, 110, 101]⟩ : ByteArray).toList) r57.2))
 (some (zoetropelaw06_ScoreKnown.c63 y1 y2 y3 y4 b5 false r53.2)))
 (some (zoetropelaw06_ScoreKnown.c63 y1 y2 y3 y4 b5 false r51.2)))
 (some (zoetropelaw06_ScoreKnown.c63 y1 y2 y3 y4 b5 false r49.2)))
 (some (zoetropelaw06_ScoreKnown.c63 y1 y2 y3 y4 b5 false r47.2)))
 (some (zoetropelaw06_ScoreKnown.c63 y1 y2 y3 y4 b5 false r45.2)))
 (some (zoetropelaw06_ScoreKnown.c63 y1 y2 y3 y4 b5 false r43.2)) := by kernel_rfl
theorem zoetropelaw06_ScoreKnown.p63 (k lo : Nat) (y1 : Nat) (y2 : Nat) (y3 : Nat) (y4 : Nat) (b5 : Bool) (b6 : Bool) (M : Mem) : piece P T k lo F.zoetropelaw06_ScoreKnown 63 [.v (.float .f64 y1), .v (.float .f64 y2), .v (.float .f64 y3), .v (.float .f64 y4), .v (.bool b5), .v (.bool b6)] [] M =
 ob (acall P T k lo F.score_Best [.slice (some ⟨M.length, 0, none⟩) 3 3] (M ++ [⟨.fx, [.float .f64 y3, .float .f64 0, .float .f64 y4]⟩] : Mem)) fun r59 =>
 ob (r59.1.tup? 2) fun l60 =>
 ob ((l60[0]?).bind (Value.int? .i64)) fun x61 =>
 ob ((l60[1]?).bind (Value.int? .i64)) fun x62 =>
 ob (acall P T k lo F.score_Best [.slice (some ⟨r59.2.length, 0, none⟩) 3 3] (r59.2 ++ [⟨.fx, [.float .f64 y3, .float .f64 y4, .float .f64 0]⟩] : Mem)) fun r63 =>
 ob (r63.1.tup? 2) fun l64 =>
 ob ((l64[0]?).bind (Value.int? .i64)) fun x65 =>
 ob ((l64[1]?).bind (Value.int? .i64)) fun x66 =>
 ob (acall P T k lo F.score_Best [.slice none 0 0] r63.2) fun r67 =>
 ob (r67.1.tup? 2) fun l68 =>
 ob ((l68[0]?).bind (Value.int? .i64)) fun x69 =>
 ob ((l68[1]?).bind (Value.int? .i64)) fun x70 =>
 ob (acall P T k lo F.score_Best [.slice (some ⟨r67.2.length, 0, none⟩) 2 2] (r67.2 ++ [⟨.fx, [.float .f64 y3, .float .f64 y3]⟩] : Mem)) fun r71 =>
 ob (r71.1.tup? 2) fun l72 =>
 ob ((l72[0]?).bind (Value.int? .i64)) fun x73 =>
 ob ((l72[1]?).bind (Value.int? .i64)) fun x74 =>
 ob (acall P T k lo F.score_Best [.slice (some ⟨r71.2.length, 0, none⟩) 2 2] (r71.2 ++ [⟨.fx, [.float .f64 y1, .float .f64 y2]⟩] : Mem)) fun r75 =>
 ob (r75.1.tup? 2) fun l76 =>
 ob ((l76[0]?).bind (Value.int? .i64)) fun x77 =>
 ob ((l76[1]?).bind (Value.int? .i64)) fun x78 =>
 ob (acall P T k lo F.score_Best [.slice (some ⟨r75.2.length, 0, none⟩) 1 1] (r75.2 ++ [⟨.fx, [.float .f64 y1]⟩] : Mem)) fun r79 =>
 ob (r79.1.tup? 2) fun l80 =>
 ob ((l80[0]?).bind (Value.int? .i64)) fun x81 =>
 ob ((l80[1]?).bind (Value.int? .i64)) fun x82 =>
 bb (x61 == 1)
 (bb (x62 == 0)
 (bb (x65 == 1)
 (bb (x66 == 0)
 (bb (x70 == 2)
 (bb (x74 == 2)
 (bb (x77 == 1)
 (bb (x78 == 0)
 (bb (x81 == 0)
 (some (zoetropelaw06_ScoreKnown.c8191 y1 y2 y3 y4 b5 b6 (x82 == 0) r79.2))
 (some (zoetropelaw06_ScoreKnown.c8191 y1 y2 y3 y4 b5 b6 false r79.2)))
 (some (zoetropelaw06_ScoreKnown.c8191 y1 y2 y3 y4 b5 b6 false r79.2)))
 (some (zoetropelaw06_ScoreKnown.c8191 y1 y2 y3 y4 b5 b6 false r79.2)))
 (some (zoetropelaw06_ScoreKnown.c8191 y1 y2 y3 y4 b5 b6 false r79.2)))
 (some (zoetropelaw06_ScoreKnown.c8191 y1 y2 y3 y4 b5 b6 false r79.2)))
 (some (zoetropelaw06_ScoreKnown.c8191 y1 y2 y3 y4 b5 b6 false r79.2)))
 (some (zoetropelaw06_ScoreKnown.c8191 y1 y2 y3 y4 b5 b6 false r79.2)))
 (some (zoetropelaw06_ScoreKnown.c8191 y1 y2 y3 y4 b5 b6 false r79.2)))
 (some (zoetropelaw06_ScoreKnown.c8191 y1 y2 y3 y4 b5 b6 false r79.2)) := by kernel_rfl
theorem zoetropelaw06_ScoreKnown.p8191 (k lo : Nat) (y1 : Nat) (y2 : Nat) (y3 : Nat) (y4 : Nat) (b5 : Bool) (b6 : Bool) (b7 : Bool) (M : Mem) : piece P T k lo F.zoetropelaw06_ScoreKnown 8191 [.v (.float .f64 y1), .v (.float .f64 y2), .v (.float .f64 y3), .v (.float .f64 y4), .v (.bool b5), .v (.bool b6), .v (.bool b7)] [] M =
 ob (acall P T k lo F.score_Mean [.slice (some ⟨M.length, 0, none⟩) 3 3] (M ++ [⟨.fx, [.float .f64 4607182418800017408, .float .f64 4611686018427387904, .float .f64 4616189618054758400]⟩] : Mem)) fun r83 =>
 ob ((some r83.1).bind (Value.flt? .f64)) fun y84 =>
 bb (FloatKind.f64.format.order y84 4612436618365282987 == some .eq)
 (ob (acall P T k lo F.score_Mean [.slice none 0 0] r83.2) fun r85 =>
 ob ((some r85.1).bind (Value.flt? .f64)) fun y86 =>
 ob (acall P T k lo F.score_Class [.float .f64 y86] r85.2) fun r87 =>
 ob ((some r87.1).bind Value.str?) fun t88 =>
 bb (t88.toList == (⟨#[110, 111, 110, 101]⟩ : ByteArray).toList)
 (ob (acall P T k lo F.score_Mean [.slice (some ⟨r87.2.length, 0, none⟩) 2 2] (r87.2 ++ [⟨.fx, [.float .f64 y1, .float .f64 y2]⟩] : Mem)) fun r89 =>
 ob ((some r89.1).bind (Value.flt? .f64)) fun y90 =>
 ob (acall P T k lo F.score_Class [.float .f64 y90] r89.2) fun r91 =>
 ob ((some r91.1).bind Value.str?) fun t92 =>
 bb (t92.toList == (⟨#[110, 111, 110, 101]⟩ : ByteArray).toList)
 (ob (acall P T k lo F.score_Mean [.slice (some ⟨r91.2.length, 0, none⟩) 1 1] (r91.2 ++ [⟨.fx, [.float .f64 y4]⟩] : Mem)) fun r93 =>
 ob ((some r93.1).bind (Value.flt? .f64)) fun y94 =>
 ob (acall P T k lo F.score_Class [.float .f64 y94] r93.2) fun r95 =>
 ob ((some r95.1).bind Value.str?) fun t96 =>
 bb (t96.toList == (⟨#[45, 48]⟩ : ByteArray).toList)
 (ob (acall P T k lo F.score_Mean [.slice (some ⟨r95.2.length, 0, none⟩) 4 4] (r95.2 ++ [⟨.fx, [.float .f64 4846369599423283200, .float .f64 4607182418800017408, .float .f64 4607182418800017408, .float .f64 14069741636278059008]⟩] : Mem)) fun r97 =>
 ob ((some r97.1).bind (Value.flt? .f64)) fun y98 =>
 bb (FloatKind.f64.format.order y98 0 == some .eq)
 (ob (acall P T k lo F.score_Mean [.slice (some ⟨r97.2.length, 0, none⟩) 2 2] (r97.2 ++ [⟨.fx, [.float .f64 y1, .float .f64 4607182418800017408]⟩] : Mem)) fun r99 =>
 ob ((some r99.1).bind (Value.flt? .f64)) fun y100 =>
 some (zoetropelaw06_ScoreKnown.c16383 y1 y2 y3 y4 b5 b6 b7 (FloatKind.f64.format.order y100 y1 == some .eq) r99.2))
 (some (zoetropelaw06_ScoreKnown.c16383 y1 y2 y3 y4 b5 b6 b7 false r97.2)))
 (some (zoetropelaw06_ScoreKnown.c16383 y1 y2 y3 y4 b5 b6 b7 false r95.2)))
 (some (zoetropelaw06_ScoreKnown.c16383 y1 y2 y3 y4 b5 b6 b7 false r91.2)))
 (some (zoetropelaw06_ScoreKnown.c16383 y1 y2 y3 y4 b5 b6 b7 false r87.2)))
 (some (zoetropelaw06_ScoreKnown.c16383 y1 y2 y3 y4 b5 b6 b7 false r83.2)) := by kernel_rfl
theorem zoetropelaw06_ScoreKnown.p16383 (k lo : Nat) (y1 : Nat) (y2 : Nat) (y3 : Nat) (y4 : Nat) (b5 : Bool) (b6 : Bool) (b7 : Bool) (b8 : Bool) (M : Mem) : piece P T k lo F.zoetropelaw06_ScoreKnown 16383 [.v (.float .f64 y1), .v (.float .f64 y2), .v (.float .f64 y3), .v (.float .f64 y4), .v (.bool b5), .v (.bool b6), .v (.bool b7), .v (.bool b8)] [] M =
 ob (acall P T k lo F.score_Class [.float .f64 4602678819172646912] M) fun r101 =>
 ob ((some r101.1).bind Value.str?) fun t102 =>
 bb (t102.toList == (⟨#[108, 111, 119]⟩ : ByteArray).toList)
 (ob (acall P T k lo F.score_Class [.float .f64 4607182418800017408] r101.2) fun r103 =>
 ob ((some r103.1).bind Value.str?) fun t104 =>
 bb (t104.toList == (⟨#[104, 105, 103, 104]⟩ : ByteArray).toList)
 (ob (acall P T k lo F.score_Class [.float .f64 y4] r103.2) fun r105 =>
 ob ((some r105.1).bind Value.str?) fun t106 =>
 bb (t106.toList == (⟨#[45, 48]⟩ : ByteArray).toList)
 (ob (acall P T k lo F.score_Class [.float .f64 0] r105.2) fun r107 =>
 ob ((some r107.1).bind Value.str?) fun t108 =>
 bb (t108.toList == (⟨#[48]⟩ : ByteArray).toList)
 (ob (acall P T k lo F.score_Class [.float .f64 13837309855095848960] r107.2) fun r109 =>
 ob ((some r109.1).bind Value.str?) fun t110 =>
 bb (t110.toList == (⟨#[110, 101, 103, 97, 116, 105, 118, 101]⟩ : ByteArray).toList)
 (ob (acall P T k lo F.score_Class [.float .f64 y2] r109.2) fun r111 =>
 ob ((some r111.1).bind Value.str?) fun t112 =>
 bb (t112.toList == (⟨#[45, 105, 110, 102]⟩ : ByteArray).toList)
 (ob (acall P T k lo F.score_Class [.float .f64 y1] r111.2) fun r113 =>
 ob ((some r113.1).bind Value.str?) fun t114 =>
 bb (t114.toList == (⟨#[105, 110, 102]⟩ : ByteArray).toList)
 (ob (acall P T k lo F.score_Class [.float .f64 y3] r113.2) fun r115 =>
 ob ((some r115.1).bind Value.str?) fun t116 =>
 bb (t116.toList == (⟨#[110, 111, 110, 101]⟩ : ByteArray).toList)
 (ob (acall P T k lo F.score_Class [.float .f64 1] r115.2) fun r117 =>
 ob ((some r117.1).bind Value.str?) fun t118 =>
 bb (t118.toList == (⟨#[108, 111, 119]⟩ : ByteArray).toList)
 (ob (acall P T k lo F.score_Class [.float .f64 9223372036854775809] r117.2) fun r119 =>
 ob ((some r119.1).bind Value.str?) fun t120 =>
 bb (t120.toList == (⟨#[110, 101, 103, 97, 116, 105, 118, 101]⟩ : ByteArray).toList)
 (ob (acall P T k lo F.score_Class [.float .f64 9218378953502702454] r119.2) fun r121 =>
 ob ((some r121.1).bind Value.str?) fun t122 =>
 some (zoetropelaw06_ScoreKnown.c32767 b5 b6 b7 b8 (t122.toList == (⟨#[104, 105, 103, 104]⟩ : ByteArray).toList) r121.2))
 (some (zoetropelaw06_ScoreKnown.c32767 b5 b6 b7 b8 false r119.2)))
 (some (zoetropelaw06_ScoreKnown.c32767 b5 b6 b7 b8 false r117.2)))
 (some (zoetropelaw06_ScoreKnown.c32767 b5 b6 b7 b8 false r115.2)))
 (some (zoetropelaw06_ScoreKnown.c32767 b5 b6 b7 b8 false r113.2)))
 (some (zoetropelaw06_ScoreKnown.c32767 b5 b6 b7 b8 false r111.2)))
 (some (zoetropelaw06_ScoreKnown.c32767 b5 b6 b7 b8 false r109.2)))
 (some (zoetropelaw06_ScoreKnown.c32767 b5 b6 b7 b8 false r107.2)))
 (some (zoetropelaw06_ScoreKnown.c32767 b5 b6 b7 b8 false r105.2)))
 (some (zoetropelaw06_ScoreKnown.c32767 b5 b6 b7 b8 false r103.2)))
 (some (zoetropelaw06_ScoreKnown.c32767 b5 b6 b7 b8 false r101.2)) := by kernel_rfl
theorem zoetropelaw06_ScoreKnown.p32767 (k lo : Nat) (b1 : Bool) (b2 : Bool) (b3 : Bool) (b4 : Bool) (b5 : Bool) (M : Mem) : piece P T k lo F.zoetropelaw06_ScoreKnown 32767 [.v (.bool b1), .v (.bool b2), .v (.bool b3), .v (.bool b4), .v (.bool b5)] [] M =
 ob (acall P T k lo F.zoetropelaw06_works [] M) fun r123 =>
 ob ((some r123.1).bind Value.bool?) fun b124 =>
 bb b124
 (bb b1
 (bb b2
 (bb b3
 (bb b4
 (some (.ret (.bool b5) r123.2))
 (some (.ret (.bool false) r123.2)))
 (some (.ret (.bool false) r123.2)))
 (some (.ret (.bool false) r123.2)))
 (some (.ret (.bool false) r123.2)))
 (some (.ret (.bool false) r123.2)) := by kernel_rfl
theorem zoetropelaw06_ScoreAlike.entry (k lo : Nat) (x1 : Int) (x2 : Int) (A3 : Option Addr) (n4 : Nat) (c5 : Nat) (x6 : Int) (x7 : Int) (A8 : Option Addr) (n9 : Nat) (c10 : Nat) (A11 : Option Addr) (n12 : Nat) (c13 : Nat) (M : Mem) : entry P T k lo F.zoetropelaw06_ScoreAlike [.agg ⟨[.int .i64 x1, .int .i64 x2, .slice A3 n4 c5]⟩, .agg ⟨[.int .i64 x6, .int .i64 x7, .slice A8 n9 c10]⟩, .slice A11 n12 c13] M =
 ob (acall P T k lo F.zoetropelaw06_works [] M) fun r19 =>
 ob ((some r19.1).bind Value.bool?) fun b20 =>
 bb (!b20)
 (some (.ret (.bool false) r19.2))
 (ob (acall P T k lo F.score_Ratio [.agg ⟨[.int .i64 x1, .int .i64 x2, .slice A3 n4 c5]⟩, .agg ⟨[.int .i64 x6, .int .i64 x7, .slice A8 n9 c10]⟩] r19.2) fun r21 =>
 ob ((some r21.1).bind (Value.flt? .f64)) fun y22 =>
 ob (acall P T k lo F.plane_Apart [.agg ⟨[.int .i64 x1, .int .i64 x2, .slice A3 n4 c5]⟩, .agg ⟨[.int .i64 x6, .int .i64 x7, .slice A8 n9 c10]⟩] r21.2) fun r23 =>
 ob (r23.1.tup? 2) fun l24 =>
 ob ((l24[0]?).bind (Value.int? .u64)) fun x25 =>
 ob ((l24[1]?).bind (Value.int? .i64)) fun x26 =>
 bb (x26 != 0)
 (bb (FloatKind.f64.format.order y22 y22 != some .eq)
 (ob (acall P T k lo F.score_Class [.float .f64 y22] r23.2) fun r27 =>
 ob ((some r27.1).bind Value.str?) fun t28 =>
 some (.ret (.bool (t28.toList == (⟨#[110, 111, 110, 101]⟩ : ByteArray).toList)) r27.2))
 (some (.ret (.bool false) r23.2)))
 (ob (acall P T k lo F.score_Ratio [.agg ⟨[.int .i64 x6, .int .i64 x7, .slice A8 n9 c10]⟩, .agg ⟨[.int .i64 x1, .int .i64 x2, .slice A3 n4 c5]⟩] r23.2) fun r29 =>
 ob ((some r29.1).bind (Value.flt? .f64)) fun y30 =>
 bb (FloatKind.f64.format.order y22 y30 != some .eq)
 (some (.ret (.bool false) r29.2))
 (bb (FloatKind.f64.format.order y22 4607182418800017408 == some .lt)
 (some (.ret (.bool false) r29.2))
 (ob (acall P T k r29.2.length F.score_Class [.float .f64 y22] r29.2) fun r31 =>
 ob ((some r31.1).bind Value.str?) fun t32 =>
 ob (acall P T k r29.2.length F.plane_Same [.agg ⟨[.int .i64 x1, .int .i64 x2, .slice A3 n4 c5]⟩, .agg ⟨[.int .i64 x6, .int .i64 x7, .slice A8 n9 c10]⟩] r31.2) fun r33 =>
 ob ((some r33.1).bind Value.bool?) fun b34 =>
 bb (!((t32.toList == (⟨#[105, 110, 102]⟩ : ByteArray).toList) == b34))
 (some (.ret (.bool false) r33.2))
 (ob (acall P T k r33.2.length F.zoetroperef00_CopyBytes [.slice A3 n4 c5] r33.2) fun r35 =>
 ob ((some r35.1).bind Value.slc?) fun s36 =>
 some (zoetropelaw06_ScoreAlike.c8180 A11 n12 c13 y22 0 x6 x7 A8 n9 c10 x1 x2 s36.a s36.n s36.c r35.2)))))) := by kernel_rfl
theorem zoetropelaw06_ScoreAlike.p8180 (k lo : Nat) (A1 : Option Addr) (n2 : Nat) (c3 : Nat) (y4 : Nat) (x5 : Int) (x6 : Int) (x7 : Int) (A8 : Option Addr) (n9 : Nat) (c10 : Nat) (x11 : Int) (x12 : Int) (A13 : Option Addr) (n14 : Nat) (c15 : Nat) (M : Mem) : piece P T k lo F.zoetropelaw06_ScoreAlike 8180 [.v (.slice A1 n2 c3), .l 4 0, .v (.float .f64 y4), .l 11 0, .v (.int .i64 x5)] [[.int .i64 x6, .int .i64 x7, .slice A8 n9 c10], [.int .i64 x11, .int .i64 x12, .slice A13 n14 c15]] M =
 bb (decide (x5 < (n14 : Int)))
 (bb (decide (x5 < (n2 : Int)))
 (bb (decide (x5 < (n9 : Int)))
 (pb (0 ≤ x5 ∧ x5 < (n2 : Int))
 (ob A1 fun a37 =>
 ob ((M.ld (plus a37 x5.toNat)).bind Value.bool?) fun b38 =>
 bb b38
 (pb (0 ≤ x5 ∧ x5 < (n9 : Int))
 (ob A8 fun a39 =>
 ob ((M.ld (plus a39 x5.toNat)).bind (Value.int? .u8)) fun x40 =>
 pb (0 ≤ x5 ∧ x5 < (n14 : Int))
 (ob A13 fun a41 =>
 ob (M.st lo (plus a41 x5.toNat) [.int .u8 x40]) fun M42 =>
 some (zoetropelaw06_ScoreAlike.c32723 A1 n2 c3 y4 x5 x6 x7 A8 n9 c10 x11 x12 A13 n14 c15 M42)) none) none)
 (some (zoetropelaw06_ScoreAlike.c32723 A1 n2 c3 y4 x5 x6 x7 A8 n9 c10 x11 x12 A13 n14 c15 M))) none)
 (ob (acall P T k lo F.score_Ratio [.agg ⟨[.int .i64 x11, .int .i64 x12, .slice A13 n14 c15]⟩, .agg ⟨[.int .i64 x6, .int .i64 x7, .slice A8 n9 c10]⟩] M) fun r43 =>
 ob ((some r43.1).bind (Value.flt? .f64)) fun y44 =>
 some (.ret (.bool (FloatKind.f64.format.order y44 y4 == some .gt || FloatKind.f64.format.order y44 y4 == some .eq)) r43.2)))
 (ob (acall P T k lo F.score_Ratio [.agg ⟨[.int .i64 x11, .int .i64 x12, .slice A13 n14 c15]⟩, .agg ⟨[.int .i64 x6, .int .i64 x7, .slice A8 n9 c10]⟩] M) fun r45 =>
 ob ((some r45.1).bind (Value.flt? .f64)) fun y46 =>
 some (.ret (.bool (FloatKind.f64.format.order y46 y4 == some .gt || FloatKind.f64.format.order y46 y4 == some .eq)) r45.2)))
 (ob (acall P T k lo F.score_Ratio [.agg ⟨[.int .i64 x11, .int .i64 x12, .slice A13 n14 c15]⟩, .agg ⟨[.int .i64 x6, .int .i64 x7, .slice A8 n9 c10]⟩] M) fun r47 =>
 ob ((some r47.1).bind (Value.flt? .f64)) fun y48 =>
 some (.ret (.bool (FloatKind.f64.format.order y48 y4 == some .gt || FloatKind.f64.format.order y48 y4 == some .eq)) r47.2)) := by kernel_rfl
theorem zoetropelaw06_ScoreAlike.p32723 (k lo : Nat) (A1 : Option Addr) (n2 : Nat) (c3 : Nat) (y4 : Nat) (x5 : Int) (x6 : Int) (x7 : Int) (A8 : Option Addr) (n9 : Nat) (c10 : Nat) (x11 : Int) (x12 : Int) (A13 : Option Addr) (n14 : Nat) (c15 : Nat) (M : Mem) : piece P T k lo F.zoetropelaw06_ScoreAlike 32723 [.v (.slice A1 n2 c3), .l 4 0, .v (.float .f64 y4), .l 11 0, .v (.int .i64 x5)] [[.int .i64 x6, .int .i64 x7, .slice A8 n9 c10], [.int .i64 x11, .int .i64 x12, .slice A13 n14 c15]] M =
 some (zoetropelaw06_ScoreAlike.c8180 A1 n2 c3 y4 (IntKind.i64.wrap (x5 + 1)) x6 x7 A8 n9 c10 x11 x12 A13 n14 c15 M) := by kernel_rfl
theorem zoetroperef05_CopyPlane.entry (k lo : Nat) (x1 : Int) (x2 : Int) (A3 : Option Addr) (n4 : Nat) (c5 : Nat) (M : Mem) : entry P T k lo F.zoetroperef05_CopyPlane [.agg ⟨[.int .i64 x1, .int .i64 x2, .slice A3 n4 c5]⟩] M =
 ob (acall P T k M.length F.zoetroperef00_CopyBytes [.slice A3 n4 c5] M) fun r11 =>
 ob ((some r11.1).bind Value.slc?) fun s12 =>
 some (.ret (.agg ⟨[.int .i64 x1, .int .i64 x2, .slice s12.a s12.n s12.c]⟩) r11.2) := by kernel_rfl
theorem zoetroperef06_Same.entry (k lo : Nat) (y1 : Nat) (y2 : Nat) (M : Mem) : entry P T k lo F.zoetroperef06_Same [.float .f64 y1, .float .f64 y2] M =
 ob (acall P T k lo F.zoetroperef06_None [.float .f64 y1] M) fun r8 =>
 ob ((some r8.1).bind Value.bool?) fun b9 =>
 bb b9
 (ob (acall P T k lo F.zoetroperef06_None [.float .f64 y1] r8.2) fun r10 =>
 ob ((some r10.1).bind Value.bool?) fun b11 =>
 bb b11
 (ob (acall P T k lo F.zoetroperef06_None [.float .f64 y2] r10.2) fun r12 =>
 ob ((some r12.1).bind Value.bool?) fun b13 =>
 some (.ret (.bool b13) r12.2))
 (some (.ret (.bool false) r10.2)))
 (ob (acall P T k lo F.zoetroperef06_None [.float .f64 y2] r8.2) fun r14 =>
 ob ((some r14.1).bind Value.bool?) fun b15 =>
 bb b15
 (ob (acall P T k lo F.zoetroperef06_None [.float .f64 y1] r14.2) fun r16 =>
 ob ((some r16.1).bind Value.bool?) fun b17 =>
 bb b17
 (ob (acall P T k lo F.zoetroperef06_None [.float .f64 y2] r16.2) fun r18 =>
 ob ((some r18.1).bind Value.bool?) fun b19 =>
 some (.ret (.bool b19) r18.2))
 (some (.ret (.bool false) r16.2)))
 (bb (FloatKind.f64.format.order y1 y2 == some .eq)
 (bb (FloatKind.f64.format.order y1 0 != some .eq)
 (some (.ret (.bool true) r14.2))
 (some (.ret (.bool (FloatKind.f64.format.order (fdiv .f64 4607182418800017408 y1) (fdiv .f64 4607182418800017408 y2) == some .eq)) r14.2)))
 (some (.ret (.bool false) r14.2)))) := by kernel_rfl
theorem score_Ratio.entry (k lo : Nat) (x1 : Int) (x2 : Int) (A3 : Option Addr) (n4 : Nat) (c5 : Nat) (x6 : Int) (x7 : Int) (A8 : Option Addr) (n9 : Nat) (c10 : Nat) (M : Mem) : entry P T k lo F.score_Ratio [.agg ⟨[.int .i64 x1, .int .i64 x2, .slice A3 n4 c5]⟩, .agg ⟨[.int .i64 x6, .int .i64 x7, .slice A8 n9 c10]⟩] M =
 ob (acall P T k lo F.plane_Apart [.agg ⟨[.int .i64 x1, .int .i64 x2, .slice A3 n4 c5]⟩, .agg ⟨[.int .i64 x6, .int .i64 x7, .slice A8 n9 c10]⟩] M) fun r16 =>
 ob (r16.1.tup? 2) fun l17 =>
 ob ((l17[0]?).bind (Value.int? .u64)) fun x18 =>
 ob ((l17[1]?).bind (Value.int? .i64)) fun x19 =>
 bb (x19 != 0)
 (ob (acall P T k lo F.score_none [] r16.2) fun r20 =>
 ob ((some r20.1).bind (Value.flt? .f64)) fun y21 =>
 some (.ret (.float .f64 y21) r20.2))
 (some (.ret (.float .f64 (fdiv .f64 (FloatKind.f64.nearest (IntKind.i64.wrap (65025 * (n4 : Int)))) (FloatKind.f64.nearest x18))) r16.2)) := by kernel_rfl
theorem zoetroperef06_Ratio.entry (k lo : Nat) (x1 : Int) (x2 : Int) (A3 : Option Addr) (n4 : Nat) (c5 : Nat) (x6 : Int) (x7 : Int) (A8 : Option Addr) (n9 : Nat) (c10 : Nat) (M : Mem) : entry P T k lo F.zoetroperef06_Ratio [.agg ⟨[.int .i64 x1, .int .i64 x2, .slice A3 n4 c5]⟩, .agg ⟨[.int .i64 x6, .int .i64 x7, .slice A8 n9 c10]⟩] M =
 ob (acall P T k lo F.zoetroperef05_Apart [.agg ⟨[.int .i64 x1, .int .i64 x2, .slice A3 n4 c5]⟩, .agg ⟨[.int .i64 x6, .int .i64 x7, .slice A8 n9 c10]⟩] M) fun r16 =>
 ob (r16.1.tup? 2) fun l17 =>
 ob ((l17[0]?).bind (Value.int? .u64)) fun x18 =>
 ob ((l17[1]?).bind (Value.int? .i64)) fun x19 =>
 bb (x19 != 0)
 (ob (acall P T k lo F.zoetroperef06_none [] r16.2) fun r20 =>
 ob ((some r20.1).bind (Value.flt? .f64)) fun y21 =>
 some (.ret (.float .f64 y21) r20.2))
 (some (.ret (.float .f64 (fdiv .f64 (FloatKind.f64.nearest (IntKind.i64.wrap (65025 * (n4 : Int)))) (FloatKind.f64.nearest x18))) r16.2)) := by kernel_rfl
theorem zoetroperef05_Same.entry (k lo : Nat) (x1 : Int) (x2 : Int) (A3 : Option Addr) (n4 : Nat) (c5 : Nat) (x6 : Int) (x7 : Int) (A8 : Option Addr) (n9 : Nat) (c10 : Nat) (M : Mem) : entry P T k lo F.zoetroperef05_Same [.agg ⟨[.int .i64 x1, .int .i64 x2, .slice A3 n4 c5]⟩, .agg ⟨[.int .i64 x6, .int .i64 x7, .slice A8 n9 c10]⟩] M =
 bb (x1 == x6)
 (bb (x2 == x7)
 (ob (acall P T k lo F.zoetroperef00_EqBytes [.slice A3 n4 c5, .slice A8 n9 c10] M) fun r16 =>
 ob ((some r16.1).bind Value.bool?) fun b17 =>
 some (.ret (.bool b17) r16.2))
 (some (.ret (.bool false) M)))
 (some (.ret (.bool false) M)) := by kernel_rfl
theorem zoetropelaw06_works.entry (k lo : Nat) (M : Mem) : entry P T k lo F.zoetropelaw06_works [] M =
 ob (acall P T k lo F.score_Best [.slice (some ⟨M.length, 0, none⟩) 3 3] (M ++ [⟨.fx, [.float .f64 4613937818241073152, .float .f64 4607182418800017408, .float .f64 4607182418800017408]⟩] : Mem)) fun r6 =>
 ob (r6.1.tup? 2) fun l7 =>
 ob ((l7[0]?).bind (Value.int? .i64)) fun x8 =>
 ob ((l7[1]?).bind (Value.int? .i64)) fun x9 =>
 bb (x9 == 0)
 (bb (x8 == 1)
 (ob (acall P T k lo F.zoetropelaw06_row [.slice (some ⟨r6.2.length, 0, none⟩) 2 2] (r6.2 ++ [⟨.fx, [.int .u8 0, .int .u8 0]⟩] : Mem)) fun r10 =>
 ob ((some r10.1).bind (Value.agg? 3)) fun l11 =>
 ob ((l11[0]?).bind (Value.int? .i64)) fun x12 =>
 ob ((l11[1]?).bind (Value.int? .i64)) fun x13 =>
 ob ((l11[2]?).bind Value.slc?) fun s14 =>
 ob (acall P T k lo F.zoetropelaw06_row [.slice (some ⟨r10.2.length, 0, none⟩) 2 2] (r10.2 ++ [⟨.fx, [.int .u8 0, .int .u8 1]⟩] : Mem)) fun r15 =>
 ob ((some r15.1).bind (Value.agg? 3)) fun l16 =>
 ob ((l16[0]?).bind (Value.int? .i64)) fun x17 =>
 ob ((l16[1]?).bind (Value.int? .i64)) fun x18 =>
 ob ((l16[2]?).bind Value.slc?) fun s19 =>
 ob (acall P T k lo F.score_Ratio [.agg ⟨[.int .i64 x12, .int .i64 x13, .slice s14.a s14.n s14.c]⟩, .agg ⟨[.int .i64 x17, .int .i64 x18, .slice s19.a s19.n s19.c]⟩] r15.2) fun r20 =>
 ob ((some r20.1).bind (Value.flt? .f64)) fun y21 =>
 bb (FloatKind.f64.format.order y21 4683673381160091648 == some .eq)
 (ob (acall P T k lo F.score_Cost [.int .u64 10, .int .u64 3, .float .f64 4602678819172646912] r20.2) fun r22 =>
 ob ((some r22.1).bind (Value.flt? .f64)) fun y23 =>
 bb (FloatKind.f64.format.order y23 4622663542519103488 == some .eq)
 (ob (acall P T k lo F.score_Mean [.slice (some ⟨r22.2.length, 0, none⟩) 3 3] (r22.2 ++ [⟨.fx, [.float .f64 4607182418800017408, .float .f64 4611686018427387904, .float .f64 4618441417868443648]⟩] : Mem)) fun r24 =>
 ob ((some r24.1).bind (Value.flt? .f64)) fun y25 =>
 bb (FloatKind.f64.format.order y25 4613937818241073152 == some .eq)
 (ob (acall P T k lo F.score_Class [.float .f64 4602678819172646912] r24.2) fun r26 =>
 ob ((some r26.1).bind Value.str?) fun t27 =>
 some (.ret (.bool (t27.toList == (⟨#[108, 111, 119]⟩ : ByteArray).toList)) r26.2))
 (some (.ret (.bool false) r24.2)))
 (some (.ret (.bool false) r22.2)))
 (some (.ret (.bool false) r20.2)))
 (some (.ret (.bool false) r6.2)))
 (some (.ret (.bool false) r6.2)) := by kernel_rfl
theorem score_Cost.entry (k lo : Nat) (x1 : Int) (x2 : Int) (y3 : Nat) (M : Mem) : entry P T k lo F.score_Cost [.int .u64 x1, .int .u64 x2, .float .f64 y3] M =
 some (.ret (.float .f64 (fadd .f64 (fmul .f64 y3 (FloatKind.f64.nearest x2)) (FloatKind.f64.nearest x1))) M) := by kernel_rfl
theorem zoetroperef06_Cost.entry (k lo : Nat) (x1 : Int) (x2 : Int) (y3 : Nat) (M : Mem) : entry P T k lo F.zoetroperef06_Cost [.int .u64 x1, .int .u64 x2, .float .f64 y3] M =
 some (.ret (.float .f64 (fadd .f64 (fmul .f64 y3 (FloatKind.f64.nearest x2)) (FloatKind.f64.nearest x1))) M) := by kernel_rfl
theorem score_Best.entry (k lo : Nat) (A1 : Option Addr) (n2 : Nat) (c3 : Nat) (M : Mem) : entry P T k lo F.score_Best [.slice A1 n2 c3] M =
 some (score_Best.c116 A1 n2 c3 (-1) A1 n2 c3 (n2 : Int) 0 M) := by kernel_rfl
theorem score_Best.p116 (k lo : Nat) (A1 : Option Addr) (n2 : Nat) (c3 : Nat) (x4 : Int) (A5 : Option Addr) (n6 : Nat) (c7 : Nat) (x8 : Int) (x9 : Int) (M : Mem) : piece P T k lo F.score_Best 116 [.v (.slice A1 n2 c3), .v (.int .i64 x4), .v (.slice A5 n6 c7), .v (.int .i64 x8), .v (.int .i64 x9)] [] M =
 bb (decide (x9 < x8))
 (pb (0 ≤ x9 ∧ x9 < (n6 : Int))
 (ob A5 fun a10 =>
 ob ((M.ld (plus a10 x9.toNat)).bind (Value.flt? .f64)) fun y11 =>
 ob (acall P T k lo F.score_isNone [.float .f64 y11] M) fun r12 =>
 ob ((some r12.1).bind Value.bool?) fun b13 =>
 bb (!b13)
 (bb (decide (x4 < 0))
 (some (score_Best.c935 A1 n2 c3 x9 A5 n6 c7 x8 x9 r12.2))
 (pb (0 ≤ x4 ∧ x4 < (n2 : Int))
 (ob A1 fun a14 =>
 ob ((r12.2.ld (plus a14 x4.toNat)).bind (Value.flt? .f64)) fun y15 =>
 bb (FloatKind.f64.format.order y11 y15 == some .lt)
 (some (score_Best.c935 A1 n2 c3 x9 A5 n6 c7 x8 x9 r12.2))
 (some (score_Best.c935 A1 n2 c3 x4 A5 n6 c7 x8 x9 r12.2))) none))
 (some (score_Best.c935 A1 n2 c3 x4 A5 n6 c7 x8 x9 r12.2))) none)
 (bb (decide (x4 < 0))
 (some (.ret (.tuple ⟨[.int .i64 0, .int .i64 2]⟩) M))
 (some (.ret (.tuple ⟨[.int .i64 x4, .int .i64 0]⟩) M))) := by kernel_rfl
theorem score_Best.p935 (k lo : Nat) (A1 : Option Addr) (n2 : Nat) (c3 : Nat) (x4 : Int) (A5 : Option Addr) (n6 : Nat) (c7 : Nat) (x8 : Int) (x9 : Int) (M : Mem) : piece P T k lo F.score_Best 935 [.v (.slice A1 n2 c3), .v (.int .i64 x4), .v (.slice A5 n6 c7), .v (.int .i64 x8), .v (.int .i64 x9)] [] M =
 some (score_Best.c116 A1 n2 c3 x4 A5 n6 c7 x8 (IntKind.i64.wrap (x9 + 1)) M) := by kernel_rfl
theorem zoetroperef06_Best.entry (k lo : Nat) (A1 : Option Addr) (n2 : Nat) (c3 : Nat) (M : Mem) : entry P T k lo F.zoetroperef06_Best [.slice A1 n2 c3] M =
 some (zoetroperef06_Best.c116 A1 n2 c3 (-1) 0 M) := by kernel_rfl
theorem zoetroperef06_Best.p116 (k lo : Nat) (A1 : Option Addr) (n2 : Nat) (c3 : Nat) (x4 : Int) (x5 : Int) (M : Mem) : piece P T k lo F.zoetroperef06_Best 116 [.v (.slice A1 n2 c3), .v (.int .i64 x4), .v (.int .i64 x5)] [] M =
 bb (decide (x5 < (n2 : Int)))
 (pb (0 ≤ x5 ∧ x5 < (n2 : Int))
 (ob A1 fun a9 =>
 ob ((M.ld (plus a9 x5.toNat)).bind (Value.flt? .f64)) fun y10 =>
 ob (acall P T k lo F.zoetroperef06_None [.float .f64 y10] M) fun r11 =>
 ob ((some r11.1).bind Value.bool?) fun b12 =>
 bb (!b12)
 (bb (decide (x4 < 0))
 (some (zoetroperef06_Best.c467 A1 n2 c3 x5 x5 r11.2))
 (pb (0 ≤ x5 ∧ x5 < (n2 : Int))
 (ob A1 fun a13 =>
 ob ((r11.2.ld (plus a13 x5.toNat)).bind (Value.flt? .f64)) fun y14 =>
 pb (0 ≤ x4 ∧ x4 < (n2 : Int))
 (ob A1 fun a15 =>
 ob ((r11.2.ld (plus a15 x4.toNat)).bind (Value.flt? .f64)) fun y16 =>
 bb (FloatKind.f64.format.order y14 y16 == some .lt)
 (some (zoetroperef06_Best.c467 A1 n2 c3 x5 x5 r11.2))
 (some (zoetroperef06_Best.c467 A1 n2 c3 x4 x5 r11.2))) none) none))
 (some (zoetroperef06_Best.c467 A1 n2 c3 x4 x5 r11.2))) none)
 (bb (decide (x4 < 0))
 (some (.ret (.tuple ⟨[.int .i64 0, .int .i64 2]⟩) M))
 (some (.ret (.tuple ⟨[.int .i64 x4, .int .i64 0]⟩) M))) := by kernel_rfl
theorem zoetroperef06_Best.p467 (k lo : Nat) (A1 : Option Addr) (n2 : Nat) (c3 : Nat) (x4 : Int) (x5 : Int) (M : Mem) : piece P T k lo F.zoetroperef06_Best 467 [.v (.slice A1 n2 c3), .v (.int .i64 x4), .v (.int .i64 x5)] [] M =
 some (zoetroperef06_Best.c116 A1 n2 c3 x4 (IntKind.i64.wrap (x5 + 1)) M) := by kernel_rfl
theorem score_Mean.entry (k lo : Nat) (A1 : Option Addr) (n2 : Nat) (c3 : Nat) (M : Mem) : entry P T k lo F.score_Mean [.slice A1 n2 c3] M =
 bb ((n2 : Int) == 0)
 (ob (acall P T k lo F.score_none [] M) fun r9 =>
 ob ((some r9.1).bind (Value.flt? .f64)) fun y10 =>
 some (.ret (.float .f64 y10) r9.2))
 (pb (0 ≤ (0 : Int) ∧ (0 : Int) < (n2 : Int))
 (ob A1 fun a11 =>
 ob ((M.ld a11).bind (Value.flt? .f64)) fun y12 =>
 pb (0 ≤ (1 : Int) ∧ (1 : Int) ≤ (n2 : Int))
 (some (score_Mean.c244 A1 n2 c3 y12 (slAddr 1 A1 1 c3) (n2 - 1) (c3 - 1) ((n2 - 1 : Nat) : Int) 0 M)) none) none) := by kernel_rfl
theorem score_Mean.p244 (k lo : Nat) (A1 : Option Addr) (n2 : Nat) (c3 : Nat) (y4 : Nat) (A5 : Option Addr) (n6 : Nat) (c7 : Nat) (x8 : Int) (x9 : Int) (M : Mem) : piece P T k lo F.score_Mean 244 [.v (.slice A1 n2 c3), .v (.float .f64 y4), .v (.slice A5 n6 c7), .v (.int .i64 x8), .v (.int .i64 x9)] [] M =
 bb (decide (x9 < x8))
 (pb (0 ≤ x9 ∧ x9 < (n6 : Int))
 (ob A5 fun a13 =>
 ob ((M.ld (plus a13 x9.toNat)).bind (Value.flt? .f64)) fun y14 =>
 some (score_Mean.c244 A1 n2 c3 (fadd .f64 y4 y14) A5 n6 c7 x8 (IntKind.i64.wrap (x9 + 1)) M)) none)
 (some (.ret (.float .f64 (fdiv .f64 y4 (FloatKind.f64.nearest (n2 : Int)))) M)) := by kernel_rfl
theorem zoetroperef06_Mean.entry (k lo : Nat) (A1 : Option Addr) (n2 : Nat) (c3 : Nat) (M : Mem) : entry P T k lo F.zoetroperef06_Mean [.slice A1 n2 c3] M =
 bb ((n2 : Int) == 0)
 (ob (acall P T k lo F.zoetroperef06_none [] M) fun r9 =>
 ob ((some r9.1).bind (Value.flt? .f64)) fun y10 =>
 some (.ret (.float .f64 y10) r9.2))
 (pb (0 ≤ (0 : Int) ∧ (0 : Int) < (n2 : Int))
 (ob A1 fun a11 =>
 ob ((M.ld a11).bind (Value.flt? .f64)) fun y12 =>
 some (zoetroperef06_Mean.c244 A1 n2 c3 y12 1 M)) none) := by kernel_rfl
theorem zoetroperef06_Mean.p244 (k lo : Nat) (A1 : Option Addr) (n2 : Nat) (c3 : Nat) (y4 : Nat) (x5 : Int) (M : Mem) : piece P T k lo F.zoetroperef06_Mean 244 [.v (.slice A1 n2 c3), .v (.float .f64 y4), .v (.int .i64 x5)] [] M =
 bb (decide (x5 < (n2 : Int)))
 (pb (0 ≤ x5 ∧ x5 < (n2 : Int))
 (ob A1 fun a13 =>
 ob ((M.ld (plus a13 x5.toNat)).bind (Value.flt? .f64)) fun y14 =>
 some (zoetroperef06_Mean.c244 A1 n2 c3 (fadd .f64 y4 y14) (IntKind.i64.wrap (x5 + 1)) M)) none)
 (some (.ret (.float .f64 (fdiv .f64 y4 (FloatKind.f64.nearest (n2 : Int)))) M)) := by kernel_rfl
theorem score_Class.entry (k lo : Nat) (y1 : Nat) (M : Mem) : entry P T k lo F.score_Class [.float .f64 y1] M =
 bb (FloatKind.f64.format.order y1 0 == some .lt)
 (some (score_Class.c15 y1 (⟨#[45]⟩ : ByteArray) M))
 (bb (FloatKind.f64.format.order y1 0 == some .eq)
 (bb (FloatKind.f64.format.order (fdiv .f64 4607182418800017408 y1) 0 == some .lt)
 (some (score_Class.c15 y1 (⟨#[45]⟩ : ByteArray) M))
 (some (score_Class.c15 y1 (⟨#[]⟩ : ByteArray) M)))
 (some (score_Class.c15 y1 (⟨#[]⟩ : ByteArray) M))) := by kernel_rfl
theorem score_Class.p15 (k lo : Nat) (y1 : Nat) (t2 : ByteArray) (M : Mem) : piece P T k lo F.score_Class 15 [.v (.float .f64 y1), .v (.string t2)] [] M =
 ob (acall P T k lo F.score_isNone [.float .f64 y1] M) fun r7 =>
 ob ((some r7.1).bind Value.bool?) fun b8 =>
 bb b8
 (some (.ret (.string (⟨#[110, 111, 110, 101]⟩ : ByteArray)) r7.2))
 (bb (FloatKind.f64.format.order y1 0 == some .eq)
 (pb ((((t2).size + ((⟨#[48]⟩ : ByteArray)).size : Nat) : Int) > IntKind.i64.max) none
 (some (.ret (.string (t2 ++ (⟨#[48]⟩ : ByteArray))) r7.2)))
 (ob (acall P T k lo F.score_isNone [.float .f64 (fsub .f64 y1 y1)] r7.2) fun r9 =>
 ob ((some r9.1).bind Value.bool?) fun b10 =>
 bb b10
 (pb ((((t2).size + ((⟨#[105, 110, 102]⟩ : ByteArray)).size : Nat) : Int) > IntKind.i64.max) none
 (some (.ret (.string (t2 ++ (⟨#[105, 110, 102]⟩ : ByteArray))) r9.2)))
 (bb (!(t2.toList == (⟨#[]⟩ : ByteArray).toList))
 (some (.ret (.string (⟨#[110, 101, 103, 97, 116, 105, 118, 101]⟩ : ByteArray)) r9.2))
 (bb (FloatKind.f64.format.order y1 4607182418800017408 == some .lt)
 (some (.ret (.string (⟨#[108, 111, 119]⟩ : ByteArray)) r9.2))
 (some (.ret (.string (⟨#[104, 105, 103, 104]⟩ : ByteArray)) r9.2)))))) := by kernel_rfl
theorem zoetroperef06_Class.entry (k lo : Nat) (y1 : Nat) (M : Mem) : entry P T k lo F.zoetroperef06_Class [.float .f64 y1] M =
 ob (acall P T k lo F.zoetroperef06_None [.float .f64 y1] M) fun r7 =>
 ob ((some r7.1).bind Value.bool?) fun b8 =>
 bb b8
 (some (.ret (.string (⟨#[110, 111, 110, 101]⟩ : ByteArray)) r7.2))
 (bb (FloatKind.f64.format.order y1 0 == some .eq)
 (bb (FloatKind.f64.format.order (fdiv .f64 4607182418800017408 y1) 0 == some .lt)
 (some (.ret (.string (⟨#[45, 48]⟩ : ByteArray)) r7.2))
 (bb (FloatKind.f64.format.order y1 0 == some .eq)
 (some (.ret (.string (⟨#[48]⟩ : ByteArray)) r7.2))
 (bb (FloatKind.f64.format.order (fsub .f64 y1 y1) 0 != some .eq)
 (bb (FloatKind.f64.format.order y1 0 == some .gt)
 (some (.ret (.string (⟨#[105, 110, 102]⟩ : ByteArray)) r7.2))
 (bb (FloatKind.f64.format.order (fsub .f64 y1 y1) 0 != some .eq)
 (some (.ret (.string (⟨#[45, 105, 110, 102]⟩ : ByteArray)) r7.2))
 (bb (FloatKind.f64.format.order y1 0 == some .lt)
 (some (.ret (.string (⟨#[110, 101, 103, 97, 116, 105, 118, 101]⟩ : ByteArray)) r7.2))
 (bb (FloatKind.f64.format.order y1 4607182418800017408 == some .lt)
 (some (.ret (.string (⟨#[108, 111, 119]⟩ : ByteArray)) r7.2))
 (some (.ret (.string (⟨#[104, 105, 103, 104]⟩ : ByteArray)) r7.2))))))
 (bb (FloatKind.f64.format.order (fsub .f64 y1 y1) 0 != some .eq)
 (some (.ret (.string (⟨#[45, 105, 110, 102]⟩ : ByteArray)) r7.2))
 (bb (FloatKind.f64.format.order y1 0 == some .lt)
 (some (.ret (.string (⟨#[110, 101, 103, 97, 116, 105, 118, 101]⟩ : ByteArray)) r7.2))
 (bb (FloatKind.f64.format.order y1 4607182418800017408 == some .lt)
 (some (.ret (.string (⟨#[108, 111, 119]⟩ : ByteArray)) r7.2))
 (some (.ret (.string (⟨#[104, 105, 103, 104]⟩ : ByteArray)) r7.2))))))))
 (bb (FloatKind.f64.format.order y1 0 == some .eq)
 (some (.ret (.string (⟨#[48]⟩ : ByteArray)) r7.2))
 (bb (FloatKind.f64.format.order (fsub .f64 y1 y1) 0 != some .eq)
 (bb (FloatKind.f64.format.order y1 0 == some .gt)
 (some (.ret (.string (⟨#[105, 110, 102]⟩ : ByteArray)) r7.2))
 (bb (FloatKind.f64.format.order (fsub .f64 y1 y1) 0 != some .eq)
 (some (.ret (.string (⟨#[45, 105, 110, 102]⟩ : ByteArray)) r7.2))
 (bb (FloatKind.f64.format.order y1 0 == some .lt)
 (some (.ret (.string (⟨#[110, 101, 103, 97, 116, 105, 118, 101]⟩ : ByteArray)) r7.2))
 (bb (FloatKind.f64.format.order y1 4607182418800017408 == some .lt)
 (some (.ret (.string (⟨#[108, 111, 119]⟩ : ByteArray)) r7.2))
 (some (.ret (.string (⟨#[104, 105, 103, 104]⟩ : ByteArray)) r7.2))))))
 (bb (FloatKind.f64.format.order (fsub .f64 y1 y1) 0 != some .eq)
 (some (.ret (.string (⟨#[45, 105, 110, 102]⟩ : ByteArray)) r7.2))
 (bb (FloatKind.f64.format.order y1 0 == some .lt)
 (some (.ret (.string (⟨#[110, 101, 103, 97, 116, 105, 118, 101]⟩ : ByteArray)) r7.2))
 (bb (FloatKind.f64.format.order y1 4607182418800017408 == some .lt)
 (some (.ret (.string (⟨#[108, 111, 119]⟩ : ByteArray)) r7.2))
 (some (.ret (.string (⟨#[104, 105, 103, 104]⟩ : ByteArray)) r7.2)))))))) := by kernel_rfl
theorem zoetropelaw06_quotients.entry (k lo : Nat) (M : Mem) : entry P T k lo F.zoetropelaw06_quotients [] M =
 some (.ret (.tuple ⟨[.float .f64 (fdiv .f64 4607182418800017408 0), .float .f64 (fdiv .f64 13830554455654793216 0), .float .f64 (fdiv .f64 0 0), .float .f64 (fdiv .f64 13830554455654793216 (fdiv .f64 4607182418800017408 0))]⟩) M) := by kernel_rfl
theorem zoetroperef00_Bring.entry (k lo : Nat) (x1 : Int) (x2 : Int) (M : Mem) : entry P T k lo F.zoetroperef00_Bring [.int .i64 x1, .int .i64 x2] M =
 bb (decide (x2 ≤ 0))
 (some (.ret (.int .i64 0) M))
 (pb (x2 = 0) none
 (bb (decide (Int.tmod x1 x2 < 0))
 (some (zoetroperef00_Bring.c31 (IntKind.i64.wrap ((Int.tmod x1 x2) + x2)) M))
 (some (zoetroperef00_Bring.c31 (Int.tmod x1 x2) M)))) := by kernel_rfl
theorem zoetroperef00_Bring.p31 (k lo : Nat) (x1 : Int) (M : Mem) : piece P T k lo F.zoetroperef00_Bring 31 [.v (.int .i64 x1)] [] M =
 some (.ret (.int .i64 x1) M) := by kernel_rfl
theorem zoetropelaw06_row.entry (k lo : Nat) (A1 : Option Addr) (n2 : Nat) (c3 : Nat) (M : Mem) : entry P T k lo F.zoetropelaw06_row [.slice A1 n2 c3] M =
 some (.ret (.agg ⟨[.int .i64 (n2 : Int), .int .i64 1, .slice A1 n2 c3]⟩) M) := by kernel_rfl
theorem plane_Apart.entry (k lo : Nat) (x1 : Int) (x2 : Int) (A3 : Option Addr) (n4 : Nat) (c5 : Nat) (x6 : Int) (x7 : Int) (A8 : Option Addr) (n9 : Nat) (c10 : Nat) (M : Mem) : entry P T k lo F.plane_Apart [.agg ⟨[.int .i64 x1, .int .i64 x2, .slice A3 n4 c5]⟩, .agg ⟨[.int .i64 x6, .int .i64 x7, .slice A8 n9 c10]⟩] M =
 ob (acall P T k lo F.plane_Check [.agg ⟨[.int .i64 x1, .int .i64 x2, .slice A3 n4 c5]⟩] M) fun r16 =>
 ob ((some r16.1).bind (Value.int? .i64)) fun x17 =>
 bb (x17 != 0)
 (some (.ret (.tuple ⟨[.int .u64 0, .int .i64 2]⟩) r16.2))
 (ob (acall P T k lo F.plane_Check [.agg ⟨[.int .i64 x6, .int .i64 x7, .slice A8 n9 c10]⟩] r16.2) fun r18 =>
 ob ((some r18.1).bind (Value.int? .i64)) fun x19 =>
 bb (x19 != 0)
 (some (.ret (.tuple ⟨[.int .u64 0, .int .i64 2]⟩) r18.2))
 (bb (x1 != x6)
 (some (.ret (.tuple ⟨[.int .u64 0, .int .i64 2]⟩) r18.2))
 (bb (x2 != x7)
 (some (.ret (.tuple ⟨[.int .u64 0, .int .i64 2]⟩) r18.2))
 (some (plane_Apart.c244 0 A3 n4 c5 (n4 : Int) 0 x6 x7 A8 n9 c10 r18.2))))) := by kernel_rfl
theorem plane_Apart.p244 (k lo : Nat) (x1 : Int) (A2 : Option Addr) (n3 : Nat) (c4 : Nat) (x5 : Int) (x6 : Int) (x7 : Int) (x8 : Int) (A9 : Option Addr) (n10 : Nat) (c11 : Nat) (M : Mem) : piece P T k lo F.plane_Apart 244 [.l 3 0, .v (.int .u64 x1), .v (.slice A2 n3 c4), .v (.int .i64 x5), .v (.int .i64 x6)] [[.int .i64 x7, .int .i64 x8, .slice A9 n10 c11]] M =
 bb (decide (x6 < x5))
 (pb (0 ≤ x6 ∧ x6 < (n3 : Int))
 (ob A2 fun a20 =>
 ob ((M.ld (plus a20 x6.toNat)).bind (Value.int? .u8)) fun x21 =>
 pb (0 ≤ x6 ∧ x6 < (n10 : Int))
 (ob A9 fun a22 =>
 ob ((M.ld (plus a22 x6.toNat)).bind (Value.int? .u8)) fun x23 =>
 some (plane_Apart.c244 (IntKind.u64.wrap (x1 + (IntKind.u64.wrap (IntKind.i64.wrap ((IntKind.i64.wrap ((IntKind.i64.wrap x21) - (IntKind.i64.wrap x23))) * (IntKind.i64.wrap ((IntKind.i64.wrap x21) - (IntKind.i64.wrap x23)))))))) A2 n3 c4 x5 (IntKind.i64.wrap (x6 + 1)) x7 x8 A9 n10 c11 M)) none) none)
 (some (.ret (.tuple ⟨[.int .u64 x1, .int .i64 0]⟩) M)) := by kernel_rfl
theorem plane_Same.entry (k lo : Nat) (x1 : Int) (x2 : Int) (A3 : Option Addr) (n4 : Nat) (c5 : Nat) (x6 : Int) (x7 : Int) (A8 : Option Addr) (n9 : Nat) (c10 : Nat) (M : Mem) : entry P T k lo F.plane_Same [.agg ⟨[.int .i64 x1, .int .i64 x2, .slice A3 n4 c5]⟩, .agg ⟨[.int .i64 x6, .int .i64 x7, .slice A8 n9 c10]⟩] M =
 bb (x1 == x6)
 (bb (x2 == x7)
 (ob (acall P T k lo F.slices_Equal__uint8_uint8 [.slice A3 n4 c5, .slice A8 n9 c10] M) fun r16 =>
 ob ((some r16.1).bind Value.bool?) fun b17 =>
 some (.ret (.bool b17) r16.2))
 (some (.ret (.bool false) M)))
 (some (.ret (.bool false) M)) := by kernel_rfl
theorem zoetroperef00_CopyBytes.entry (k lo : Nat) (A1 : Option Addr) (n2 : Nat) (c3 : Nat) (M : Mem) : entry P T k lo F.zoetroperef00_CopyBytes [.slice A1 n2 c3] M =
 ob (Mem.src M A1 n2 n2) fun l9 =>
 ob (M.app lo 1 1 ⟨none, 0, 0⟩ l9 n2) fun r10 =>
 some (.ret (.slice r10.1.a r10.1.n r10.1.c) r10.2) := by kernel_rfl
theorem zoetroperef06_None.entry (k lo : Nat) (y1 : Nat) (M : Mem) : entry P T k lo F.zoetroperef06_None [.float .f64 y1] M =
 some (.ret (.bool (FloatKind.f64.format.order y1 y1 != some .eq)) M) := by kernel_rfl
theorem score_none.entry (k lo : Nat) (M : Mem) : entry P T k lo F.score_none [] M =
 some (.ret (.float .f64 (fdiv .f64 0 0)) M) := by kernel_rfl
theorem zoetroperef05_Apart.entry (k lo : Nat) (x1 : Int) (x2 : Int) (A3 : Option Addr) (n4 : Nat) (c5 : Nat) (x6 : Int) (x7 : Int) (A8 : Option Addr) (n9 : Nat) (c10 : Nat) (M : Mem) : entry P T k lo F.zoetroperef05_Apart [.agg ⟨[.int .i64 x1, .int .i64 x2, .slice A3 n4 c5]⟩, .agg ⟨[.int .i64 x6, .int .i64 x7, .slice A8 n9 c10]⟩] M =
 ob (acall P T k lo F.zoetroperef05_Check [.agg ⟨[.int .i64 x1, .int .i64 x2, .slice A3 n4 c5]⟩] M) fun r16 =>
 ob ((some r16.1).bind (Value.int? .i64)) fun x17 =>
 bb (x17 != 0)
 (some (.ret (.tuple ⟨[.int .u64 0, .int .i64 2]⟩) r16.2))
 (ob (acall P T k lo F.zoetroperef05_Check [.agg ⟨[.int .i64 x6, .int .i64 x7, .slice A8 n9 c10]⟩] r16.2) fun r18 =>
 ob ((some r18.1).bind (Value.int? .i64)) fun x19 =>
 bb (x19 != 0)
 (some (.ret (.tuple ⟨[.int .u64 0, .int .i64 2]⟩) r18.2))
 (bb (x1 != x6)
 (some (.ret (.tuple ⟨[.int .u64 0, .int .i64 2]⟩) r18.2))
 (bb (x2 != x7)
 (some (.ret (.tuple ⟨[.int .u64 0, .int .i64 2]⟩) r18.2))
 (some (zoetroperef05_Apart.c244 0 0 x1 x2 A3 n4 c5 x6 x7 A8 n9 c10 r18.2))))) := by kernel_rfl
theorem zoetroperef05_Apart.p244 (k lo : Nat) (x1 : Int) (x2 : Int) (x3 : Int) (x4 : Int) (A5 : Option Addr) (n6 : Nat) (c7 : Nat) (x8 : Int) (x9 : Int) (A10 : Option Addr) (n11 : Nat) (c12 : Nat) (M : Mem) : piece P T k lo F.zoetroperef05_Apart 244 [.l 2 0, .l 3 0, .v (.int .u64 x1), .v (.int .i64 x2)] [[.int .i64 x3, .int .i64 x4, .slice A5 n6 c7], [.int .i64 x8, .int .i64 x9, .slice A10 n11 c12]] M =
 bb (decide (x2 < (n6 : Int)))
 (pb (0 ≤ x2 ∧ x2 < (n6 : Int))
 (ob A5 fun a20 =>
 ob ((M.ld (plus a20 x2.toNat)).bind (Value.int? .u8)) fun x21 =>
 pb (0 ≤ x2 ∧ x2 < (n11 : Int))
 (ob A10 fun a22 =>
 ob ((M.ld (plus a22 x2.toNat)).bind (Value.int? .u8)) fun x23 =>
 some (zoetroperef05_Apart.c244 (IntKind.u64.wrap (x1 + (IntKind.u64.wrap (IntKind.i64.wrap ((IntKind.i64.wrap ((IntKind.i64.wrap x21) - (IntKind.i64.wrap x23))) * (IntKind.i64.wrap ((IntKind.i64.wrap x21) - (IntKind.i64.wrap x23)))))))) (IntKind.i64.wrap (x2 + 1)) x3 x4 A5 n6 c7 x8 x9 A10 n11 c12 M)) none) none)
 (some (.ret (.tuple ⟨[.int .u64 x1, .int .i64 0]⟩) M)) := by kernel_rfl
theorem zoetroperef06_none.entry (k lo : Nat) (M : Mem) : entry P T k lo F.zoetroperef06_none [] M =
 some (.ret (.float .f64 (fdiv .f64 0 0)) M) := by kernel_rfl
theorem zoetroperef00_EqBytes.entry (k lo : Nat) (A1 : Option Addr) (n2 : Nat) (c3 : Nat) (A4 : Option Addr) (n5 : Nat) (c6 : Nat) (M : Mem) : entry P T k lo F.zoetroperef00_EqBytes [.slice A1 n2 c3, .slice A4 n5 c6] M =
 bb ((n2 : Int) != (n5 : Int))
 (some (.ret (.bool false) M))
 (some (zoetroperef00_EqBytes.c116 A1 n2 c3 A4 n5 c6 0 M)) := by kernel_rfl
theorem zoetroperef00_EqBytes.p116 (k lo : Nat) (A1 : Option Addr) (n2 : Nat) (c3 : Nat) (A4 : Option Addr) (n5 : Nat) (c6 : Nat) (x7 : Int) (M : Mem) : piece P T k lo F.zoetroperef00_EqBytes 116 [.v (.slice A1 n2 c3), .v (.slice A4 n5 c6), .v (.int .i64 x7)] [] M =
 bb (decide (x7 < (n2 : Int)))
 (pb (0 ≤ x7 ∧ x7 < (n2 : Int))
 (ob A1 fun a12 =>
 ob ((M.ld (plus a12 x7.toNat)).bind (Value.int? .u8)) fun x13 =>
 pb (0 ≤ x7 ∧ x7 < (n5 : Int))
 (ob A4 fun a14 =>
 ob ((M.ld (plus a14 x7.toNat)).bind (Value.int? .u8)) fun x15 =>
 bb (x13 != x15)
 (some (.ret (.bool false) M))
 (some (zoetroperef00_EqBytes.c116 A1 n2 c3 A4 n5 c6 (IntKind.i64.wrap (x7 + 1)) M))) none) none)
 (some (.ret (.bool true) M)) := by kernel_rfl
theorem score_isNone.entry (k lo : Nat) (y1 : Nat) (M : Mem) : entry P T k lo F.score_isNone [.float .f64 y1] M =
 some (.ret (.bool (FloatKind.f64.format.order y1 y1 != some .eq)) M) := by kernel_rfl
theorem plane_Check.entry (k lo : Nat) (x1 : Int) (x2 : Int) (A3 : Option Addr) (n4 : Nat) (c5 : Nat) (M : Mem) : entry P T k lo F.plane_Check [.agg ⟨[.int .i64 x1, .int .i64 x2, .slice A3 n4 c5]⟩] M =
 ob (acall P T k lo F.plane_sizes [.int .i64 x1, .int .i64 x2] M) fun r11 =>
 ob ((some r11.1).bind Value.bool?) fun b12 =>
 bb (!b12)
 (some (.ret (.int .i64 2) r11.2))
 (bb ((n4 : Int) != IntKind.i64.wrap (x1 * x2))
 (some (.ret (.int .i64 2) r11.2))
 (some (.ret (.int .i64 0) r11.2))) := by kernel_rfl
theorem slices_Equal__uint8_uint8.entry (k lo : Nat) (A1 : Option Addr) (n2 : Nat) (c3 : Nat) (A4 : Option Addr) (n5 : Nat) (c6 : Nat) (M : Mem) : entry P T k lo F.slices_Equal__uint8_uint8 [.slice A1 n2 c3, .slice A4 n5 c6] M =
 bb ((n2 : Int) != (n5 : Int))
 (some (.ret (.bool false) M))
 (some (slices_Equal__uint8_uint8.c116 A1 n2 c3 A4 n5 c6 (n2 : Int) 0 M)) := by kernel_rfl
theorem slices_Equal__uint8_uint8.p116 (k lo : Nat) (A1 : Option Addr) (n2 : Nat) (c3 : Nat) (A4 : Option Addr) (n5 : Nat) (c6 : Nat) (x7 : Int) (x8 : Int) (M : Mem) : piece P T k lo F.slices_Equal__uint8_uint8 116 [.v (.slice A1 n2 c3), .v (.slice A4 n5 c6), .v (.int .i64 x7), .v (.int .i64 x8)] [] M =
 bb (decide (x8 < x7))
 (pb (0 ≤ x8 ∧ x8 < (n2 : Int))
 (ob A1 fun a12 =>
 ob ((M.ld (plus a12 x8.toNat)).bind (Value.int? .u8)) fun x13 =>
 pb (0 ≤ x8 ∧ x8 < (n5 : Int))
 (ob A4 fun a14 =>
 ob ((M.ld (plus a14 x8.toNat)).bind (Value.int? .u8)) fun x15 =>
 bb (x13 != x15)
 (some (.ret (.bool false) M))
 (some (slices_Equal__uint8_uint8.c116 A1 n2 c3 A4 n5 c6 x7 (IntKind.i64.wrap (x8 + 1)) M))) none) none)
 (some (.ret (.bool true) M)) := by kernel_rfl
theorem zoetroperef05_Check.entry (k lo : Nat) (x1 : Int) (x2 : Int) (A3 : Option Addr) (n4 : Nat) (c5 : Nat) (M : Mem) : entry P T k lo F.zoetroperef05_Check [.agg ⟨[.int .i64 x1, .int .i64 x2, .slice A3 n4 c5]⟩] M =
 bb (decide (x1 < 1))
 (some (.ret (.int .i64 2) M))
 (bb (decide (x1 > 512))
 (some (.ret (.int .i64 2) M))
 (bb (decide (x2 < 1))
 (some (.ret (.int .i64 2) M))
 (bb (decide (x2 > 512))
 (some (.ret (.int .i64 2) M))
 (bb ((n4 : Int) != IntKind.i64.wrap (x1 * x2))
 (some (.ret (.int .i64 2) M))
 (some (.ret (.int .i64 0) M)))))) := by kernel_rfl
theorem plane_sizes.entry (k lo : Nat) (x1 : Int) (x2 : Int) (M : Mem) : entry P T k lo F.plane_sizes [.int .i64 x1, .int .i64 x2] M =
 bb (decide (x1 ≥ 1))
 (bb (decide (x1 ≤ 512))
 (bb (decide (x2 ≥ 1))
 (some (.ret (.bool (decide (x2 ≤ 512))) M))
 (some (.ret (.bool false) M)))
 (some (.ret (.bool false) M)))
 (some (.ret (.bool false) M)) := by kernel_rfl
end Go.Zt
