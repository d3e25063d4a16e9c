/- What functions come to, from cut to cut. -/
import Derived.Test.YtgpobephldelaaaEq0
import Derived.KernelRfl
set_option maxRecDepth 100000
set_option maxHeartbeats 4000000
set_option linter.unusedVariables false
namespace Go.Zt
theorem zoetropelaw15_MotionSingles.entry (k lo : Nat) (x1 : Int) (x2 : Int) (A3 : Option Addr) (n4 : Nat) (c5 : Nat) (x6 : Int) (x7 : Int) (A8 : Option Addr) (n9 : Nat) (c10 : Nat) (x11 : Int) (x12 : Int) (A13 : Option Addr) (n14 : Nat) (c15 : Nat) (x16 : Int) (x17 : Int) (x18 : Int) (x19 : Int) (x20 : Int) (x21 : Int) (x22 : Int) (x23 : Int) (M : Mem) : entry P T k lo F.zoetropelaw15_MotionSingles [.agg ⟨[.int .i64 x1, .int .i64 x2, .slice A3 n4 c5, .int .i64 x6, .int .i64 x7, .slice A8 n9 c10, .int .i64 x11, .int .i64 x12, .slice A13 n14 c15]⟩, .agg ⟨[.int .i64 x16, .int .i64 x17, .int .i64 x18, .int .i64 x19, .int .i64 x20, .int .i64 x21, .int .i64 x22, .int .i64 x23]⟩] M =
 ob (acall P T k lo F.zoetroperef05_CopyFrame [.agg ⟨[.int .i64 x1, .int .i64 x2, .slice A3 n4 c5, .int .i64 x6, .int .i64 x7, .slice A8 n9 c10, .int .i64 x11, .int .i64 x12, .slice A13 n14 c15]⟩] M) fun r29 =>
 ob ((some r29.1).bind (Value.agg? 9)) fun l30 =>
 ob ((l30[0]?).bind (Value.int? .i64)) fun x31 =>
 ob ((l30[1]?).bind (Value.int? .i64)) fun x32 =>
 ob ((l30[2]?).bind Value.slc?) fun s33 =>
 ob ((l30[3]?).bind (Value.int? .i64)) fun x34 =>
 ob ((l30[4]?).bind (Value.int? .i64)) fun x35 =>
 ob ((l30[5]?).bind Value.slc?) fun s36 =>
 ob ((l30[6]?).bind (Value.int? .i64)) fun x37 =>
 ob ((l30[7]?).bind (Value.int? .i64)) fun x38 =>
 ob ((l30[8]?).bind Value.slc?) fun s39 =>
 ob (acall P T k lo F.motion_Single [.agg ⟨[.int .i64 x31, .int .i64 x32, .slice s33.a s33.n s33.c, .int .i64 x34, .int .i64 x35, .slice s36.a s36.n s36.c, .int .i64 x37, .int .i64 x38, .slice s39.a s39.n s39.c]⟩, .int .i64 x16, .agg ⟨[.int .i64 x17, .int .i64 x18, .int .i64 x19, .int .i64 x20]⟩, .agg ⟨[.int .i64 x21, .int .i64 x22]⟩, .int .i64 x23] r29.2) fun r40 =>
 ob (r40.1.tup? 2) fun l41 =>
 ob ((l41[0]?).bind Value.slc?) fun s42 =>
 ob ((l41[1]?).bind (Value.int? .i64)) fun x43 =>
 ob (acall P T k lo F.zoetroperef15_Single [.agg ⟨[.int .i64 x1, .int .i64 x2, .slice A3 n4 c5, .int .i64 x6, .int .i64 x7, .slice A8 n9 c10, .int .i64 x11, .int .i64 x12, .slice A13 n14 c15]⟩, .int .i64 x16, .agg ⟨[.int .i64 x17, .int .i64 x18, .int .i64 x19, .int .i64 x20]⟩, .agg ⟨[.int .i64 x21, .int .i64 x22]⟩, .int .i64 x23] r40.2) fun r44 =>
 ob (r44.1.tup? 2) fun l45 =>
 ob ((l45[0]?).bind Value.slc?) fun s46 =>
 ob ((l45[1]?).bind (Value.int? .i64)) fun x47 =>
 ob (acall P T k lo F.zoetropelaw15_told [.slice s42.a s42.n s42.c, .int .i64 x43, .slice s46.a s46.n s46.c, .int .i64 x47] r44.2) fun r48 =>
 ob ((some r48.1).bind Value.bool?) fun b49 =>
 bb b49
 (ob (acall P T k lo F.zoetroperef05_SameFrame [.agg ⟨[.int .i64 x31, .int .i64 x32, .slice s33.a s33.n s33.c, .int .i64 x34, .int .i64 x35, .slice s36.a s36.n s36.c, .int .i64 x37, .int .i64 x38, .slice s39.a s39.n s39.c]⟩, .agg ⟨[.int .i64 x1, .int .i64 x2, .slice A3 n4 c5, .int .i64 x6, .int .i64 x7, .slice A8 n9 c10, .int .i64 x11, .int .i64 x12, .slice A13 n14 c15]⟩] r48.2) fun r50 =>
 ob ((some r50.1).bind Value.bool?) fun b51 =>
 bb b51
 (ob (acall P T k lo F.zoetropelaw15_works [] r50.2) fun r52 =>
 ob ((some r52.1).bind Value.bool?) fun b53 =>
 some (.ret (.bool b53) r52.2))
 (some (.ret (.bool false) r50.2)))
 (some (.ret (.bool false) r48.2)) := by kernel_rfl
theorem zoetropelaw15_MotionPairs.entry (k lo : Nat) (A1 : Option Addr) (n2 : Nat) (c3 : Nat) (A4 : Option Addr) (n5 : Nat) (c6 : Nat) (x7 : Int) (M : Mem) : entry P T k lo F.zoetropelaw15_MotionPairs [.slice A1 n2 c3, .slice A4 n5 c6, .int .i64 x7] M =
 ob (acall P T k lo F.zoetroperef00_CopyBytes [.slice A1 n2 c3] M) fun r13 =>
 ob ((some r13.1).bind Value.slc?) fun s14 =>
 ob (acall P T k lo F.zoetroperef00_CopyBytes [.slice A4 n5 c6] r13.2) fun r15 =>
 ob ((some r15.1).bind Value.slc?) fun s16 =>
 ob (acall P T k lo F.motion_Pair [.slice s14.a s14.n s14.c, .slice s16.a s16.n s16.c] r15.2) fun r17 =>
 ob (r17.1.tup? 2) fun l18 =>
 ob ((l18[0]?).bind Value.slc?) fun s19 =>
 ob ((l18[1]?).bind (Value.int? .i64)) fun x20 =>
 ob (acall P T k lo F.zoetroperef15_Pair [.slice A1 n2 c3, .slice A4 n5 c6] r17.2) fun r21 =>
 ob (r21.1.tup? 2) fun l22 =>
 ob ((l22[0]?).bind Value.slc?) fun s23 =>
 ob ((l22[1]?).bind (Value.int? .i64)) fun x24 =>
 ob (acall P T k lo F.zoetropelaw15_told [.slice s19.a s19.n s19.c, .int .i64 x20, .slice s23.a s23.n s23.c, .int .i64 x24] r21.2) fun r25 =>
 ob ((some r25.1).bind Value.bool?) fun b26 =>
 bb (!b26)
 (some (.ret (.bool false) r25.2))
 (ob (acall P T k lo F.zoetroperef00_EqBytes [.slice s14.a s14.n s14.c, .slice A1 n2 c3] r25.2) fun r27 =>
 ob ((some r27.1).bind Value.bool?) fun b28 =>
 bb (!b28)
 (some (.ret (.bool false) r27.2))
 (ob (acall P T k lo F.zoetroperef00_EqBytes [.slice s16.a s16.n s16.c, .slice A4 n5 c6] r27.2) fun r29 =>
 ob ((some r29.1).bind Value.bool?) fun b30 =>
 bb (!b30)
 (some (.ret (.bool false) r29.2))
 (some (zoetropelaw15_MotionPairs.c1012 x7 (-1) r29.2)))) := by kernel_rfl
theorem zoetropelaw15_MotionPairs.p1012 (k lo : Nat) (x1 : Int) (x2 : Int) (M : Mem) : piece P T k lo F.zoetropelaw15_MotionPairs 1012 [.v (.int .i64 x1), .v (.int .i64 x2)] [] M =
 bb (decide (x2 < 36))
 (bb (x2 == 35)
 (some (zoetropelaw15_MotionPairs.c32403 x1 x2 x1 M))
 (some (zoetropelaw15_MotionPairs.c32403 x1 x2 x2 M)))
 (ob (acall P T k lo F.zoetropelaw15_works [] M) fun r31 =>
 ob ((some r31.1).bind Value.bool?) fun b32 =>
 some (.ret (.bool b32) r31.2)) := by kernel_rfl
theorem zoetropelaw15_MotionPairs.p32403 (k lo : Nat) (x1 : Int) (x2 : Int) (x3 : Int) (M : Mem) : piece P T k lo F.zoetropelaw15_MotionPairs 32403 [.v (.int .i64 x1), .v (.int .i64 x2), .v (.int .i64 x3)] [] M =
 ob (acall P T k lo F.motion_Weights [.int .i64 x3] M) fun r33 =>
 ob (r33.1.tup? 2) fun l34 =>
 ob ((l34[0]?).bind Value.slc?) fun s35 =>
 ob ((l34[1]?).bind (Value.int? .i64)) fun x36 =>
 ob (acall P T k lo F.zoetroperef15_Weights [.int .i64 x3] r33.2) fun r37 =>
 ob (r37.1.tup? 2) fun l38 =>
 ob ((l38[0]?).bind Value.slc?) fun s39 =>
 ob ((l38[1]?).bind (Value.int? .i64)) fun x40 =>
 bb (x36 != x40)
 (some (.ret (.bool false) r37.2))
 (ob (acall P T k lo F.zoetroperef00_EqInts [.slice s35.a s35.n s35.c, .slice s39.a s39.n s39.c] r37.2) fun r41 =>
 ob ((some r41.1).bind Value.bool?) fun b42 =>
 bb (!b42)
 (some (.ret (.bool false) r41.2))
 (some (zoetropelaw15_MotionPairs.c1012 x1 (IntKind.i64.wrap (x2 + 1)) r41.2))) := by kernel_rfl
theorem zoetropelaw15_MotionBlends.entry (k lo : Nat) (A1 : Option Addr) (n2 : Nat) (c3 : Nat) (x4 : Int) (x5 : Int) (x6 : Int) (x7 : Int) (x8 : Int) (A9 : Option Addr) (n10 : Nat) (c11 : Nat) (M : Mem) : entry P T k lo F.zoetropelaw15_MotionBlends [.agg ⟨[.slice A1 n2 c3, .int .i64 x4, .int .i64 x5, .int .i64 x6, .int .i64 x7, .int .i64 x8, .slice A9 n10 c11]⟩] M =
 ob (acall P T k M.length F.zoetroperef00_CopyBytes [.slice A1 n2 c3] M) fun r17 =>
 ob ((some r17.1).bind Value.slc?) fun s18 =>
 ob (acall P T k M.length F.zoetroperef00_CopyBytes [.slice A9 n10 c11] r17.2) fun r19 =>
 ob ((some r19.1).bind Value.slc?) fun s20 =>
 ob (acall P T k lo F.motion_Above [.slice s18.a s18.n s18.c, .int .i64 x4, .agg ⟨[.int .i64 x5, .int .i64 x6, .int .i64 x7, .int .i64 x8]⟩, .slice s20.a s20.n s20.c] r19.2) fun r21 =>
 ob (r21.1.tup? 2) fun l22 =>
 ob ((l22[0]?).bind Value.slc?) fun s23 =>
 ob ((l22[1]?).bind (Value.int? .i64)) fun x24 =>
 ob (acall P T k lo F.zoetroperef15_Above [.slice A1 n2 c3, .int .i64 x4, .agg ⟨[.int .i64 x5, .int .i64 x6, .int .i64 x7, .int .i64 x8]⟩, .slice A9 n10 c11] r21.2) fun r25 =>
 ob (r25.1.tup? 2) fun l26 =>
 ob ((l26[0]?).bind Value.slc?) fun s27 =>
 ob ((l26[1]?).bind (Value.int? .i64)) fun x28 =>
 ob (acall P T k lo F.motion_Left [.slice s18.a s18.n s18.c, .int .i64 x4, .agg ⟨[.int .i64 x5, .int .i64 x6, .int .i64 x7, .int .i64 x8]⟩, .slice s20.a s20.n s20.c] r25.2) fun r29 =>
 ob (r29.1.tup? 2) fun l30 =>
 ob ((l30[0]?).bind Value.slc?) fun s31 =>
 ob ((l30[1]?).bind (Value.int? .i64)) fun x32 =>
 ob (acall P T k lo F.zoetroperef15_Left [.slice A1 n2 c3, .int .i64 x4, .agg ⟨[.int .i64 x5, .int .i64 x6, .int .i64 x7, .int .i64 x8]⟩, .slice A9 n10 c11] r29.2) fun r33 =>
 ob (r33.1.tup? 2) fun l34 =>
 ob ((l34[0]?).bind Value.slc?) fun s35 =>
 ob ((l34[1]?).bind (Value.int? .i64)) fun x36 =>
 ob (acall P T k lo F.zoetropelaw15_told [.slice s23.a s23.n s23.c, .int .i64 x24, .slice s27.a s27.n s27.c, .int .i64 x28] r33.2) fun r37 =>
 ob ((some r37.1).bind Value.bool?) fun b38 =>
 bb b38
 (ob (acall P T k lo F.zoetropelaw15_told [.slice s31.a s31.n s31.c, .int .i64 x32, .slice s35.a s35.n s35.c, .int .i64 x36] r37.2) fun r39 =>
 ob ((some r39.1).bind Value.bool?) fun b40 =>
 bb b40
 (ob (acall P T k lo F.zoetroperef00_EqBytes [.slice s18.a s18.n s18.c, .slice A1 n2 c3] r39.2) fun r41 =>
 ob ((some r41.1).bind Value.bool?) fun b42 =>
 bb b42
 (ob (acall P T k lo F.zoetroperef00_EqBytes [.slice s20.a s20.n s20.c, .slice A9 n10 c11] r41.2) fun r43 =>
 ob ((some r43.1).bind Value.bool?) fun b44 =>
 bb b44
 (ob (acall P T k lo F.zoetropelaw15_works [] r43.2) fun r45 =>
 ob ((some r45.1).bind Value.bool?) fun b46 =>
 some (.ret (.bool b46) r45.2))
 (some (.ret (.bool false) r43.2)))
 (some (.ret (.bool false) r41.2)))
 (some (.ret (.bool false) r39.2)))
 (some (.ret (.bool false) r37.2)) := by kernel_rfl
theorem zoetropelaw15_MotionFurther.entry (k lo : Nat) (x1 : Int) (x2 : Int) (A3 : Option Addr) (n4 : Nat) (c5 : Nat) (x6 : Int) (x7 : Int) (A8 : Option Addr) (n9 : Nat) (c10 : Nat) (x11 : Int) (x12 : Int) (A13 : Option Addr) (n14 : Nat) (c15 : Nat) (x16 : Int) (x17 : Int) (x18 : Int) (x19 : Int) (x20 : Int) (x21 : Int) (x22 : Int) (x23 : Int) (x24 : Int) (x25 : Int) (M : Mem) : entry P T k lo F.zoetropelaw15_MotionFurther [.agg ⟨[.int .i64 x1, .int .i64 x2, .slice A3 n4 c5, .int .i64 x6, .int .i64 x7, .slice A8 n9 c10, .int .i64 x11, .int .i64 x12, .slice A13 n14 c15]⟩, .agg ⟨[.int .i64 x16, .int .i64 x17, .int .i64 x18, .int .i64 x19, .int .i64 x20, .int .i64 x21, .int .i64 x22, .int .i64 x23]⟩, .agg ⟨[.int .i64 x24, .int .i64 x25]⟩] M =
 ob (acall P T k lo F.zoetropelaw15_works [] M) fun r31 =>
 ob ((some r31.1).bind Value.bool?) fun b32 =>
 bb (!b32)
 (some (.ret (.bool false) r31.2))
 (ob (acall P T k lo F.plane_Whole [.agg ⟨[.int .i64 x1, .int .i64 x2, .slice A3 n4 c5, .int .i64 x6, .int .i64 x7, .slice A8 n9 c10, .int .i64 x11, .int .i64 x12, .slice A13 n14 c15]⟩] r31.2) fun r33 =>
 ob ((some r33.1).bind (Value.int? .i64)) fun x34 =>
 bb (x34 != 0)
 (some (.ret (.bool true) r33.2))
 (ob (acall P T k lo F.zoetropelaw15_may [.agg ⟨[.int .i64 x16, .int .i64 x17, .int .i64 x18, .int .i64 x19, .int .i64 x20, .int .i64 x21, .int .i64 x22, .int .i64 x23]⟩] r33.2) fun r35 =>
 ob ((some r35.1).bind (Value.agg? 8)) fun l36 =>
 ob ((l36[0]?).bind (Value.int? .i64)) fun x37 =>
 ob ((l36[1]?).bind (Value.int? .i64)) fun x38 =>
 ob ((l36[2]?).bind (Value.int? .i64)) fun x39 =>
 ob ((l36[3]?).bind (Value.int? .i64)) fun x40 =>
 ob ((l36[4]?).bind (Value.int? .i64)) fun x41 =>
 ob ((l36[5]?).bind (Value.int? .i64)) fun x42 =>
 ob ((l36[6]?).bind (Value.int? .i64)) fun x43 =>
 ob ((l36[7]?).bind (Value.int? .i64)) fun x44 =>
 bb (x37 == 0)
 (some (zoetropelaw15_MotionFurther.c127 8 x1 x2 A3 n4 c5 x6 x7 A8 n9 c10 x11 x12 A13 n14 c15 x37 x38 x39 x40 x41 x42 x43 x44 x24 x25 r35.2))
 (some (zoetropelaw15_MotionFurther.c127 16 x1 x2 A3 n4 c5 x6 x7 A8 n9 c10 x11 x12 A13 n14 c15 x37 x38 x39 x40 x41 x42 x43 x44 x24 x25 r35.2)))) := by kernel_rfl
theorem zoetropelaw15_MotionFurther.p127 (k lo : Nat) (x1 : Int) (x2 : Int) (x3 : Int) (A4 : Option Addr) (n5 : Nat) (c6 : Nat) (x7 : Int) (x8 : Int) (A9 : Option Addr) (n10 : Nat) (c11 : Nat) (x12 : Int) (x13 : Int) (A14 : Option Addr) (n15 : Nat) (c16 : Nat) (x17 : Int) (x18 : Int) (x19 : Int) (x20 : Int) (x21 : Int) (x22 : Int) (x23 : Int) (x24 : Int) (x25 : Int) (x26 : Int) (M : Mem) : piece P T k lo F.zoetropelaw15_MotionFurther 127 [.l 3 0, .l 4 0, .l 5 0, .v (.int .i64 x1)] [[.int .i64 x2, .int .i64 x3, .slice A4 n5 c6, .int .i64 x7, .int .i64 x8, .slice A9 n10 c11, .int .i64 x12, .int .i64 x13, .slice A14 n15 c16], [.int .i64 x17, .int .i64 x18, .int .i64 x19, .int .i64 x20, .int .i64 x21, .int .i64 x22, .int .i64 x23, .int .i64 x24], [.int .i64 x25, .int .i64 x26]] M =
 ob (acall P T k M.length F.zoetroperef00_Bring [.int .i64 x25, .int .i64 40] M) fun r45 =>
 ob ((some r45.1).bind (Value.int? .i64)) fun x46 =>
 ob (acall P T k M.length F.zoetroperef00_Bring [.int .i64 x26, .int .i64 40] r45.2) fun r47 =>
 ob ((some r47.1).bind (Value.int? .i64)) fun x48 =>
 ob (acall P T k lo F.motion_Single [.agg ⟨[.int .i64 x2, .int .i64 x3, .slice A4 n5 c6, .int .i64 x7, .int .i64 x8, .slice A9 n10 c11, .int .i64 x12, .int .i64 x13, .slice A14 n15 c16]⟩, .int .i64 x17, .agg ⟨[.int .i64 x18, .int .i64 x19, .int .i64 x20, .int .i64 x21]⟩, .agg ⟨[.int .i64 (IntKind.i64.wrap ((IntKind.i64.wrap (Int.tdiv x22 2)) + (IntKind.i64.wrap (x1 * x46)))), .int .i64 (IntKind.i64.wrap ((IntKind.i64.wrap (Int.tdiv x23 2)) + (IntKind.i64.wrap (x1 * x48))))]⟩, .int .i64 x24] r47.2) fun r49 =>
 ob (r49.1.tup? 2) fun l50 =>
 ob ((l50[0]?).bind Value.slc?) fun s51 =>
 ob ((l50[1]?).bind (Value.int? .i64)) fun x52 =>
 ob (acall P T k lo F.motion_Single [.agg ⟨[.int .i64 x2, .int .i64 x3, .slice A4 n5 c6, .int .i64 x7, .int .i64 x8, .slice A9 n10 c11, .int .i64 x12, .int .i64 x13, .slice A14 n15 c16]⟩, .int .i64 x17, .agg ⟨[.int .i64 (IntKind.i64.wrap (x18 + x46)), .int .i64 (IntKind.i64.wrap (x19 + x48)), .int .i64 x20, .int .i64 x21]⟩, .agg ⟨[.int .i64 (IntKind.i64.wrap (Int.tdiv x22 2)), .int .i64 (IntKind.i64.wrap (Int.tdiv x23 2))]⟩, .int .i64 x24] r49.2) fun r53 =>
 ob (r53.1.tup? 2) fun l54 =>
 ob ((l54[0]?).bind Value.slc?) fun s55 =>
 ob ((l54[1]?).bind (Value.int? .i64)) fun x56 =>
 bb (x52 == 0)
 (bb (x56 == 0)
 (ob (acall P T k lo F.zoetroperef00_EqBytes [.slice s51.a s51.n s51.c, .slice s55.a s55.n s55.c] r53.2) fun r57 =>
 ob ((some r57.1).bind Value.bool?) fun b58 =>
 bb b58
 (some (.ret (.bool ((s51.n : Int) == IntKind.i64.wrap (x20 * x21))) r57.2))
 (some (.ret (.bool false) r57.2)))
 (some (.ret (.bool false) r53.2)))
 (some (.ret (.bool false) r53.2)) := by kernel_rfl
theorem zoetropelaw15_MotionBetween.entry (k lo : Nat) (A1 : Option Addr) (n2 : Nat) (c3 : Nat) (x4 : Int) (x5 : Int) (x6 : Int) (x7 : Int) (x8 : Int) (A9 : Option Addr) (n10 : Nat) (c11 : Nat) (b12 : Bool) (M : Mem) : entry P T k lo F.zoetropelaw15_MotionBetween [.agg ⟨[.slice A1 n2 c3, .int .i64 x4, .int .i64 x5, .int .i64 x6, .int .i64 x7, .int .i64 x8, .slice A9 n10 c11]⟩, .bool b12] M =
 ob (acall P T k lo F.zoetropelaw15_works [] M) fun r18 =>
 ob ((some r18.1).bind Value.bool?) fun b19 =>
 bb (!b19)
 (some (.ret (.bool false) r18.2))
 (pb (0 ≤ (0 : Int) ∧ (0 : Int) ≤ (minI (n2 : Int) (n10 : Int)) ∧ (minI (n2 : Int) (n10 : Int)) ≤ (c3 : Int))
 (pb (0 ≤ (0 : Int) ∧ (0 : Int) ≤ (minI (n2 : Int) (n10 : Int)) ∧ (minI (n2 : Int) (n10 : Int)) ≤ (c11 : Int))
 (ob (acall P T k lo F.motion_Pair [.slice (slAddr 1 A1 0 c3) (((minI (n2 : Int) (n10 : Int)).toNat) - 0) (c3 - 0), .slice (slAddr 1 A9 0 c11) (((minI (n2 : Int) (n10 : Int)).toNat) - 0) (c11 - 0)] r18.2) fun r20 =>
 ob (r20.1.tup? 2) fun l21 =>
 ob ((l21[0]?).bind Value.slc?) fun s22 =>
 ob ((l21[1]?).bind (Value.int? .i64)) fun x23 =>
 pb (0 ≤ (0 : Int) ∧ (0 : Int) ≤ (minI (n2 : Int) (n10 : Int)) ∧ (minI (n2 : Int) (n10 : Int)) ≤ (c11 : Int))
 (pb (0 ≤ (0 : Int) ∧ (0 : Int) ≤ (minI (n2 : Int) (n10 : Int)) ∧ (minI (n2 : Int) (n10 : Int)) ≤ (c3 : Int))
 (ob (acall P T k lo F.motion_Pair [.slice (slAddr 1 A9 0 c11) (((minI (n2 : Int) (n10 : Int)).toNat) - 0) (c11 - 0), .slice (slAddr 1 A1 0 c3) (((minI (n2 : Int) (n10 : Int)).toNat) - 0) (c3 - 0)] r20.2) fun r24 =>
 ob (r24.1.tup? 2) fun l25 =>
 ob ((l25[0]?).bind Value.slc?) fun s26 =>
 ob ((l25[1]?).bind (Value.int? .i64)) fun x27 =>
 ob (acall P T k lo F.motion_Pair [.slice A1 n2 c3, .slice A1 n2 c3] r24.2) fun r28 =>
 ob (r28.1.tup? 2) fun l29 =>
 ob ((l29[0]?).bind Value.slc?) fun s30 =>
 ob ((l29[1]?).bind (Value.int? .i64)) fun x31 =>
 bb (x23 != 0)
 (some (.ret (.bool false) r28.2))
 (bb (x27 != 0)
 (some (.ret (.bool false) r28.2))
 (bb (x31 != 0)
 (some (.ret (.bool false) r28.2))
 (ob (acall P T k lo F.zoetroperef00_EqBytes [.slice s22.a s22.n s22.c, .slice s26.a s26.n s26.c] r28.2) fun r32 =>
 ob ((some r32.1).bind Value.bool?) fun b33 =>
 bb (!b33)
 (some (.ret (.bool false) r32.2))
 (ob (acall P T k lo F.zoetroperef00_EqBytes [.slice s30.a s30.n s30.c, .slice A1 n2 c3] r32.2) fun r34 =>
 ob ((some r34.1).bind Value.bool?) fun b35 =>
 bb (!b35)
 (some (.ret (.bool false) r34.2))
 (bb ((s22.n : Int) != (minI (n2 : Int) (n10 : Int)))
 (some (.ret (.bool false) r34.2))
 (some (zoetropelaw15_MotionBetween.c4084 b12 (minI (n2 : Int) (n10 : Int)) s22.a s22.n s22.c 0 A1 n2 c3 x4 x5 x6 x7 x8 A9 n10 c11 r34.2)))))))) none) none) none) none) := by kernel_rfl
theorem zoetropelaw15_MotionBetween.p2047 (k lo : Nat) (A1 : Option Addr) (n2 : Nat) (c3 : Nat) (x4 : Int) (A5 : Option Addr) (n6 : Nat) (c7 : Nat) (x8 : Int) (x9 : Int) (x10 : Int) (x11 : Int) (x12 : Int) (A13 : Option Addr) (n14 : Nat) (c15 : Nat) (M : Mem) : piece P T k lo F.zoetropelaw15_MotionBetween 2047 [.l 2 0, .v (.slice A1 n2 c3), .v (.int .i64 x4)] [[.slice A5 n6 c7, .int .i64 x8, .int .i64 x9, .int .i64 x10, .int .i64 x11, .int .i64 x12, .slice A13 n14 c15]] M =
 bb (x4 != 0)
 (bb (x4 == 2)
 (some (.ret (.bool ((n2 : Int) == 0)) M))
 (some (.ret (.bool false) M)))
 (bb (decide (x8 < 1))
 (some (.ret (.bool false) M))
 (bb ((n2 : Int) != (n6 : Int))
 (some (.ret (.bool false) M))
 (bb ((n14 : Int) != IntKind.i64.wrap (x11 * x12))
 (some (.ret (.bool false) M))
 (some (zoetropelaw15_MotionBetween.c131060 A1 n2 c3 0 A5 n6 c7 x8 x9 x10 x11 x12 A13 n14 c15 M))))) := by kernel_rfl
theorem zoetropelaw15_MotionBetween.p4084 (k lo : Nat) (b1 : Bool) (x2 : Int) (A3 : Option Addr) (n4 : Nat) (c5 : Nat) (x6 : Int) (A7 : Option Addr) (n8 : Nat) (c9 : Nat) (x10 : Int) (x11 : Int) (x12 : Int) (x13 : Int) (x14 : Int) (A15 : Option Addr) (n16 : Nat) (c17 : Nat) (M : Mem) : piece P T k lo F.zoetropelaw15_MotionBetween 4084 [.v (.bool b1), .l 2 0, .v (.int .i64 x2), .v (.slice A3 n4 c5), .v (.int .i64 x6)] [[.slice A7 n8 c9, .int .i64 x10, .int .i64 x11, .int .i64 x12, .int .i64 x13, .int .i64 x14, .slice A15 n16 c17]] M =
 bb (decide (x6 < x2))
 (pb (0 ≤ x6 ∧ x6 < (n4 : Int))
 (ob A3 fun a36 =>
 ob ((M.ld (plus a36 x6.toNat)).bind (Value.int? .u8)) fun x37 =>
 pb (0 ≤ x6 ∧ x6 < (n8 : Int))
 (ob A7 fun a38 =>
 ob ((M.ld (plus a38 x6.toNat)).bind (Value.int? .u8)) fun x39 =>
 pb (0 ≤ x6 ∧ x6 < (n16 : Int))
 (ob A15 fun a40 =>
 ob ((M.ld (plus a40 x6.toNat)).bind (Value.int? .u8)) fun x41 =>
 ob (acall P T k lo F.zoetropelaw15_between [.int .u8 x37, .int .u8 x39, .int .u8 x41] M) fun r42 =>
 ob ((some r42.1).bind Value.bool?) fun b43 =>
 bb (!b43)
 (some (.ret (.bool false) r42.2))
 (some (zoetropelaw15_MotionBetween.c4084 b1 x2 A3 n4 c5 (IntKind.i64.wrap (x6 + 1)) A7 n8 c9 x10 x11 x12 x13 x14 A15 n16 c17 r42.2))) none) none) none)
 (ob (acall P T k lo F.motion_Above [.slice A7 n8 c9, .int .i64 x10, .agg ⟨[.int .i64 x11, .int .i64 x12, .int .i64 x13, .int .i64 x14]⟩, .slice A15 n16 c17] M) fun r44 =>
 ob (r44.1.tup? 2) fun l45 =>
 ob ((l45[0]?).bind Value.slc?) fun s46 =>
 ob ((l45[1]?).bind (Value.int? .i64)) fun x47 =>
 bb b1
 (ob (acall P T k lo F.motion_Left [.slice A7 n8 c9, .int .i64 x10, .agg ⟨[.int .i64 x11, .int .i64 x12, .int .i64 x13, .int .i64 x14]⟩, .slice A15 n16 c17] r44.2) fun r48 =>
 ob (r48.1.tup? 2) fun l49 =>
 ob ((l49[0]?).bind Value.slc?) fun s50 =>
 ob ((l49[1]?).bind (Value.int? .i64)) fun x51 =>
 some (zoetropelaw15_MotionBetween.c2047 s50.a s50.n s50.c x51 A7 n8 c9 x10 x11 x12 x13 x14 A15 n16 c17 r48.2))
 (some (zoetropelaw15_MotionBetween.c2047 s46.a s46.n s46.c x47 A7 n8 c9 x10 x11 x12 x13 x14 A15 n16 c17 r44.2))) := by kernel_rfl
theorem zoetropelaw15_MotionBetween.p131060 (k lo : Nat) (A1 : Option Addr) (n2 : Nat) (c3 : Nat) (x4 : Int) (A5 : Option Addr) (n6 : Nat) (c7 : Nat) (x8 : Int) (x9 : Int) (x10 : Int) (x11 : Int) (x12 : Int) (A13 : Option Addr) (n14 : Nat) (c15 : Nat) (M : Mem) : piece P T k lo F.zoetropelaw15_MotionBetween 131060 [.l 2 0, .v (.slice A1 n2 c3), .v (.int .i64 x4)] [[.slice A5 n6 c7, .int .i64 x8, .int .i64 x9, .int .i64 x10, .int .i64 x11, .int .i64 x12, .slice A13 n14 c15]] M =
 bb (decide (x4 < (n2 : Int)))
 (pb (x8 = 0) none
 (pb (x8 = 0) none
 (bb (decide (IntKind.i64.wrap ((Int.tmod x4 x8) - x9) < 0))
 (pb (0 ≤ x4 ∧ x4 < (n2 : Int))
 (ob A1 fun a52 =>
 ob ((M.ld (plus a52 x4.toNat)).bind (Value.int? .u8)) fun x53 =>
 pb (0 ≤ x4 ∧ x4 < (n6 : Int))
 (ob A5 fun a54 =>
 ob ((M.ld (plus a54 x4.toNat)).bind (Value.int? .u8)) fun x55 =>
 bb (x53 != x55)
 (some (.ret (.bool false) M))
 (some (zoetropelaw15_MotionBetween.c524243 A1 n2 c3 x4 A5 n6 c7 x8 x9 x10 x11 x12 A13 n14 c15 M))) none) none)
 (bb (decide (IntKind.i64.wrap ((Int.tmod x4 x8) - x9) ≥ x11))
 (pb (0 ≤ x4 ∧ x4 < (n2 : Int))
 (ob A1 fun a56 =>
 ob ((M.ld (plus a56 x4.toNat)).bind (Value.int? .u8)) fun x57 =>
 pb (0 ≤ x4 ∧ x4 < (n6 : Int))
 (ob A5 fun a58 =>
 ob ((M.ld (plus a58 x4.toNat)).bind (Value.int? .u8)) fun x59 =>
 bb (x57 != x59)
 (some (.ret (.bool false) M))
 (some (zoetropelaw15_MotionBetween.c524243 A1 n2 c3 x4 A5 n6 c7 x8 x9 x10 x11 x12 A13 n14 c15 M))) none) none)
 (bb (decide (IntKind.i64.wrap ((IntKind.i64.wrap (Int.tdiv x4 x8)) - x10) < 0))
 (pb (0 ≤ x4 ∧ x4 < (n2 : Int))
 (ob A1 fun a60 =>
 ob ((M.ld (plus a60 x4.toNat)).bind (Value.int? .u8)) fun x61 =>
 pb (0 ≤ x4 ∧ x4 < (n6 : Int))
 (ob A5 fun a62 =>
 ob ((M.ld (plus a62 x4.toNat)).bind (Value.int? .u8)) fun x63 =>
 bb (x61 != x63)
 (some (.ret (.bool false) M))
 (some (zoetropelaw15_MotionBetween.c524243 A1 n2 c3 x4 A5 n6 c7 x8 x9 x10 x11 x12 A13 n14 c15 M))) none) none)
 (bb (decide (IntKind.i64.wrap ((IntKind.i64.wrap (Int.tdiv x4 x8)) - x10) ≥ x12))
 (pb (0 ≤ x4 ∧ x4 < (n2 : Int))
 (ob A1 fun a64 =>
 ob ((M.ld (plus a64 x4.toNat)).bind (Value.int? .u8)) fun x65 =>
 pb (0 ≤ x4 ∧ x4 < (n6 : Int))
 (ob A5 fun a66 =>
 ob ((M.ld (plus a66 x4.toNat)).bind (Value.int? .u8)) fun x67 =>
 bb (x65 != x67)
 (some (.ret (.bool false) M))
 (some (zoetropelaw15_MotionBetween.c524243 A1 n2 c3 x4 A5 n6 c7 x8 x9 x10 x11 x12 A13 n14 c15 M))) none) none)
 (pb (0 ≤ x4 ∧ x4 < (n2 : Int))
 (ob A1 fun a68 =>
 ob ((M.ld (plus a68 x4.toNat)).bind (Value.int? .u8)) fun x69 =>
 pb (0 ≤ x4 ∧ x4 < (n6 : Int))
 (ob A5 fun a70 =>
 ob ((M.ld (plus a70 x4.toNat)).bind (Value.int? .u8)) fun x71 =>
 pb (0 ≤ IntKind.i64.wrap ((IntKind.i64.wrap ((IntKind.i64.wrap ((IntKind.i64.wrap (Int.tdiv x4 x8)) - x10)) * x11)) + (IntKind.i64.wrap ((Int.tmod x4 x8) - x9))) ∧ IntKind.i64.wrap ((IntKind.i64.wrap ((IntKind.i64.wrap ((IntKind.i64.wrap (Int.tdiv x4 x8)) - x10)) * x11)) + (IntKind.i64.wrap ((Int.tmod x4 x8) - x9))) < (n14 : Int))
 (ob A13 fun a72 =>
 ob ((M.ld (plus a72 ((IntKind.i64.wrap ((IntKind.i64.wrap ((IntKind.i64.wrap ((IntKind.i64.wrap (Int.tdiv x4 x8)) - x10)) * x11)) + (IntKind.i64.wrap ((Int.tmod x4 x8) - x9)))).toNat))).bind (Value.int? .u8)) fun x73 =>
 ob (acall P T k lo F.zoetropelaw15_between [.int .u8 x69, .int .u8 x71, .int .u8 x73] M) fun r74 =>
 ob ((some r74.1).bind Value.bool?) fun b75 =>
 bb (!b75)
 (some (.ret (.bool false) r74.2))
 (some (zoetropelaw15_MotionBetween.c524243 A1 n2 c3 x4 A5 n6 c7 x8 x9 x10 x11 x12 A13 n14 c15 r74.2))) none) none) none)))))))
 (some (.ret (.bool true) M)) := by kernel_rfl
theorem zoetropelaw15_MotionBetween.p524243 (k lo : Nat) (A1 : Option Addr) (n2 : Nat) (c3 : Nat) (x4 : Int) (A5 : Option Addr) (n6 : Nat) (c7 : Nat) (x8 : Int) (x9 : Int) (x10 : Int) (x11 : Int) (x12 : Int) (A13 : Option Addr) (n14 : Nat) (c15 : Nat) (M : Mem) : piece P T k lo F.zoetropelaw15_MotionBetween 524243 [.l 2 0, .v (.slice A1 n2 c3), .v (.int .i64 x4)] [[.slice A5 n6 c7, .int .i64 x8, .int .i64 x9, .int .i64 x10, .int .i64 x11, .int .i64 x12, .slice A13 n14 c15]] M =
 some (zoetropelaw15_MotionBetween.c131060 A1 n2 c3 (IntKind.i64.wrap (x4 + 1)) A5 n6 c7 x8 x9 x10 x11 x12 A13 n14 c15 M) := by kernel_rfl
theorem zoetropelaw15_MotionTurned.entry (k lo : Nat) (A1 : Option Addr) (n2 : Nat) (c3 : Nat) (x4 : Int) (x5 : Int) (x6 : Int) (x7 : Int) (x8 : Int) (A9 : Option Addr) (n10 : Nat) (c11 : Nat) (M : Mem) : entry P T k lo F.zoetropelaw15_MotionTurned [.agg ⟨[.slice A1 n2 c3, .int .i64 x4, .int .i64 x5, .int .i64 x6, .int .i64 x7, .int .i64 x8, .slice A9 n10 c11]⟩] M =
 ob (acall P T k lo F.zoetropelaw15_works [] M) fun r17 =>
 ob ((some r17.1).bind Value.bool?) fun b18 =>
 bb (!b18)
 (some (.ret (.bool false) r17.2))
 (some (zoetropelaw15_MotionTurned.c244 0 4 A1 n2 c3 x4 x5 x6 x7 x8 A9 n10 c11 r17.2)) := by kernel_rfl
theorem zoetropelaw15_MotionTurned.p244 (k lo : Nat) (x1 : Int) (x2 : Int) (A3 : Option Addr) (n4 : Nat) (c5 : Nat) (x6 : Int) (x7 : Int) (x8 : Int) (x9 : Int) (x10 : Int) (A11 : Option Addr) (n12 : Nat) (c13 : Nat) (M : Mem) : piece P T k lo F.zoetropelaw15_MotionTurned 244 [.l 1 0, .v (.int .i64 x1), .v (.int .i64 x2)] [[.slice A3 n4 c5, .int .i64 x6, .int .i64 x7, .int .i64 x8, .int .i64 x9, .int .i64 x10, .slice A11 n12 c13]] M =
 bb (decide (x2 ≤ 32))
 (ob (acall P T k lo F.motion_Weights [.int .i64 x2] M) fun r19 =>
 ob (r19.1.tup? 2) fun l20 =>
 ob ((l20[0]?).bind Value.slc?) fun s21 =>
 ob ((l20[1]?).bind (Value.int? .i64)) fun x22 =>
 bb (x22 != 0)
 (some (.ret (.bool false) r19.2))
 (bb ((s21.n : Int) != x2)
 (some (.ret (.bool false) r19.2))
 (pb (0 ≤ (0 : Int) ∧ (0 : Int) < (s21.n : Int))
 (ob s21.a fun a23 =>
 ob ((r19.2.ld a23).bind (Value.int? .i64)) fun x24 =>
 bb (decide (x24 < 32))
 (some (.ret (.bool false) r19.2))
 (pb (0 ≤ IntKind.i64.wrap (x2 - 1) ∧ IntKind.i64.wrap (x2 - 1) < (s21.n : Int))
 (ob s21.a fun a25 =>
 ob ((r19.2.ld (plus a25 ((IntKind.i64.wrap (x2 - 1)).toNat))).bind (Value.int? .i64)) fun x26 =>
 bb (decide (x26 > 63))
 (some (.ret (.bool false) r19.2))
 (some (zoetropelaw15_MotionTurned.c125236 x2 s21.a s21.n s21.c 1 A3 n4 c5 x6 x7 x8 x9 x10 A11 n12 c13 r19.2))) none)) none)))
 (ob (acall P T k lo F.motion_Above [.slice A3 n4 c5, .int .i64 x6, .agg ⟨[.int .i64 x7, .int .i64 x8, .int .i64 x9, .int .i64 x10]⟩, .slice A11 n12 c13] M) fun r27 =>
 ob (r27.1.tup? 2) fun l28 =>
 ob ((l28[0]?).bind Value.slc?) fun s29 =>
 ob ((l28[1]?).bind (Value.int? .i64)) fun x30 =>
 bb (x30 != 0)
 (bb (x30 == 2)
 (some (.ret (.bool (x1 == 63)) r27.2))
 (some (.ret (.bool false) r27.2)))
 (bb (decide (x6 < 1))
 (bb (x30 == 2)
 (some (.ret (.bool (x1 == 63)) r27.2))
 (some (.ret (.bool false) r27.2)))
 (bb (decide (x9 < 1))
 (bb (x30 == 2)
 (some (.ret (.bool (x1 == 63)) r27.2))
 (some (.ret (.bool false) r27.2)))
 (pb (x6 = 0) none
 (bb (Int.tmod (n4 : Int) x6 != 0)
 (bb (x30 == 2)
 (some (.ret (.bool (x1 == 63)) r27.2))
 (some (.ret (.bool false) r27.2)))
 (bb ((n12 : Int) != IntKind.i64.wrap (x9 * x10))
 (bb (x30 == 2)
 (some (.ret (.bool (x1 == 63)) r27.2))
 (some (.ret (.bool false) r27.2)))
 (ob (acall P T k r27.2.length F.zoetropelaw15_transposed [.slice A3 n4 c5, .int .i64 x6] r27.2) fun r31 =>
 ob ((some r31.1).bind Value.slc?) fun s32 =>
 pb (x6 = 0) none
 (ob (acall P T k r27.2.length F.zoetropelaw15_transposed [.slice A11 n12 c13, .int .i64 x9] r31.2) fun r33 =>
 ob ((some r33.1).bind Value.slc?) fun s34 =>
 ob (acall P T k r27.2.length F.motion_Left [.slice s32.a s32.n s32.c, .int .i64 (IntKind.i64.wrap (Int.tdiv (n4 : Int) x6)), .agg ⟨[.int .i64 x8, .int .i64 x7, .int .i64 x10, .int .i64 x9]⟩, .slice s34.a s34.n s34.c] r33.2) fun r35 =>
 ob (r35.1.tup? 2) fun l36 =>
 ob ((l36[0]?).bind Value.slc?) fun s37 =>
 ob ((l36[1]?).bind (Value.int? .i64)) fun x38 =>
 bb (x38 == 0)
 (bb (x1 == 63)
 (ob (acall P T k lo F.zoetropelaw15_transposed [.slice s29.a s29.n s29.c, .int .i64 x6] r35.2) fun r39 =>
 ob ((some r39.1).bind Value.slc?) fun s40 =>
 ob (acall P T k lo F.zoetroperef00_EqBytes [.slice s37.a s37.n s37.c, .slice s40.a s40.n s40.c] r39.2) fun r41 =>
 ob ((some r41.1).bind Value.bool?) fun b42 =>
 bb b42
 (some (.ret (.bool ((s29.n : Int) == (n4 : Int))) r41.2))
 (some (.ret (.bool false) r41.2)))
 (some (.ret (.bool false) r35.2)))
 (some (.ret (.bool false) r35.2)))))))))) := by kernel_rfl
theorem zoetropelaw15_MotionTurned.p125236 (k lo : Nat) (x1 : Int) (A2 : Option Addr) (n3 : Nat) (c4 : Nat) (x5 : Int) (A6 : Option Addr) (n7 : Nat) (c8 : Nat) (x9 : Int) (x10 : Int) (x11 : Int) (x12 : Int) (x13 : Int) (A14 : Option Addr) (n15 : Nat) (c16 : Nat) (M : Mem) : piece P T k lo F.zoetropelaw15_MotionTurned 125236 [.l 1 0, .v (.int .i64 x1), .v (.slice A2 n3 c4), .v (.int .i64 x5)] [[.slice A6 n7 c8, .int .i64 x9, .int .i64 x10, .int .i64 x11, .int .i64 x12, .int .i64 x13, .slice A14 n15 c16]] M =
 bb (decide (x5 < x1))
 (pb (0 ≤ x5 ∧ x5 < (n3 : Int))
 (ob A2 fun a43 =>
 ob ((M.ld (plus a43 x5.toNat)).bind (Value.int? .i64)) fun x44 =>
 pb (0 ≤ IntKind.i64.wrap (x5 - 1) ∧ IntKind.i64.wrap (x5 - 1) < (n3 : Int))
 (ob A2 fun a45 =>
 ob ((M.ld (plus a45 ((IntKind.i64.wrap (x5 - 1)).toNat))).bind (Value.int? .i64)) fun x46 =>
 bb (decide (x44 < x46))
 (some (.ret (.bool false) M))
 (some (zoetropelaw15_MotionTurned.c125236 x1 A2 n3 c4 (IntKind.i64.wrap (x5 + 1)) A6 n7 c8 x9 x10 x11 x12 x13 A14 n15 c16 M))) none) none)
 (pb (0 ≤ IntKind.i64.wrap (x1 - 1) ∧ IntKind.i64.wrap (x1 - 1) < (n3 : Int))
 (ob A2 fun a47 =>
 ob ((M.ld (plus a47 ((IntKind.i64.wrap (x1 - 1)).toNat))).bind (Value.int? .i64)) fun x48 =>
 some (zoetropelaw15_MotionTurned.c244 x48 (IntKind.i64.wrap (x1 + 1)) A6 n7 c8 x9 x10 x11 x12 x13 A14 n15 c16 M)) none) := by kernel_rfl
theorem zoetropelaw15_MotionKnown.entry (k lo : Nat) (M : Mem) : entry P T k lo F.zoetropelaw15_MotionKnown [] M =
 ob (acall P T k lo F.motion_Weights [.int .i64 4] M) fun r6 =>
 ob (r6.1.tup? 2) fun l7 =>
 ob ((l7[0]?).bind Value.slc?) fun s8 =>
 ob ((l7[1]?).bind (Value.int? .i64)) fun x9 =>
 ob (acall P T k lo F.motion_Weights [.int .i64 8] r6.2) fun r10 =>
 ob (r10.1.tup? 2) fun l11 =>
 ob ((l11[0]?).bind Value.slc?) fun s12 =>
 ob ((l11[1]?).bind (Value.int? .i64)) fun x13 =>
 ob (acall P T k lo F.motion_Weights [.int .i64 3] r10.2) fun r14 =>
 ob (r14.1.tup? 2) fun l15 =>
 ob ((l15[0]?).bind Value.slc?) fun s16 =>
 ob ((l15[1]?).bind (Value.int? .i64)) fun x17 =>
 ob (acall P T k lo F.motion_Weights [.int .i64 33] r14.2) fun r18 =>
 ob (r18.1.tup? 2) fun l19 =>
 ob ((l19[0]?).bind Value.slc?) fun s20 =>
 ob ((l19[1]?).bind (Value.int? .i64)) fun x21 =>
 ob (acall P T k lo F.motion_Weights [.int .i64 32] r18.2) fun r22 =>
 ob (r22.1.tup? 2) fun l23 =>
 ob ((l23[0]?).bind Value.slc?) fun s24 =>
 ob ((l23[1]?).bind (Value.int? .i64)) fun x25 =>
 bb (x9 == 0)
 (bb (x13 == 0)
 (bb (x17 == 2)
 (bb (x21 == 2)
 (bb (x25 == 0)
 (ob (acall P T k lo F.zoetroperef00_EqInts [.slice s8.a s8.n s8.c, .slice (some ⟨r22.2.length, 0, none⟩) 4 4] (r22.2 ++ [⟨.fx, [.int .i64 36, .int .i64 44, .int .i64 52, .int .i64 60]⟩] : Mem)) fun r26 =>
 ob ((some r26.1).bind Value.bool?) fun b27 =>
 bb b27
 (bb ((s12.n : Int) == 8)
 (pb (0 ≤ (0 : Int) ∧ (0 : Int) < (s12.n : Int))
 (ob s12.a fun a28 =>
 ob ((r26.2.ld a28).bind (Value.int? .i64)) fun x29 =>
 bb (x29 == 34)
 (pb (0 ≤ (7 : Int) ∧ (7 : Int) < (s12.n : Int))
 (ob s12.a fun a30 =>
 ob ((r26.2.ld (plus a30 7)).bind (Value.int? .i64)) fun x31 =>
 bb (x31 == 62)
 (bb ((s24.n : Int) == 32)
 (pb (0 ≤ (0 : Int) ∧ (0 : Int) < (s24.n : Int))
 (ob s24.a fun a32 =>
 ob ((r26.2.ld a32).bind (Value.int? .i64)) fun x33 =>
 bb (x33 == 32)
 (pb (0 ≤ (31 : Int) ∧ (31 : Int) < (s24.n : Int))
 (ob s24.a fun a34 =>
 ob ((r26.2.ld (plus a34 31)).bind (Value.int? .i64)) fun x35 =>
 ob (acall P T k lo F.plane_Frame [.int .i64 16, .int .i64 16, .int .u8 5] r26.2) fun r36 =>
 ob (r36.1.tup? 2) fun l37 =>
 ob ((l37[0]?).bind (Value.agg? 9)) fun l38 =>
 ob ((l38[0]?).bind (Value.int? .i64)) fun x39 =>
 ob ((l38[1]?).bind (Value.int? .i64)) fun x40 =>
 ob ((l38[2]?).bind Value.slc?) fun s41 =>
 ob ((l38[3]?).bind (Value.int? .i64)) fun x42 =>
 ob ((l38[4]?).bind (Value.int? .i64)) fun x43 =>
 ob ((l38[5]?).bind Value.slc?) fun s44 =>
 ob ((l38[6]?).bind (Value.int? .i64)) fun x45 =>
 ob ((l38[7]?).bind (Value.int? .i64)) fun x46 =>
 ob ((l38[8]?).bind Value.slc?) fun s47 =>
 ob ((l37[1]?).bind (Value.int? .i64)) fun x48 =>
 some (zoetropelaw15_MotionKnown.c32756 (x35 == 63) (some ⟨r36.2.length, 0, none⟩) 12 12 0 x39 x40 s41.a s41.n s41.c x42 x43 s44.a s44.n s44.c x45 x46 s47.a s47.n s47.c 0 0 0 4 4 0 0 0 (r36.2 ++ [⟨.fx, [.int .i64 3, .int .i64 0, .int .i64 0, .int .i64 4, .int .i64 4, .int .i64 0, .int .i64 0, .int .i64 0, .int .i64 (-1), .int .i64 0, .int .i64 0, .int .i64 4, .int .i64 4, .int .i64 0, .int .i64 0, .int .i64 0, .int .i64 0, .int .i64 (-1), .int .i64 0, .int .i64 4, .int .i64 4, .int .i64 0, .int .i64 0, .int .i64 0, .int .i64 0, .int .i64 0, .int .i64 1025, .int .i64 4, .int .i64 4, .int .i64 0, .int .i64 0, .int .i64 0, .int .i64 0, .int .i64 0, .int .i64 0, .int .i64 3, .int .i64 4, .int .i64 0, .int .i64 0, .int .i64 0, .int .i64 0, .int .i64 0, .int .i64 0, .int .i64 4, .int .i64 65, .int .i64 0, .int .i64 0, .int .i64 0, .int .i64 0, .int .i64 0, .int .i64 0, .int .i64 4, .int .i64 4, .int .i64 4096, .int .i64 0, .int .i64 0, .int .i64 0, .int .i64 0, .int .i64 0, .int .i64 4, .int .i64 4, .int .i64 (-4096), .int .i64 0, .int .i64 0, .int .i64 0, .int .i64 0, .int .i64 0, .int .i64 4, .int .i64 4, .int .i64 0, .int .i64 4096, .int .i64 0, .int .i64 0, .int .i64 0, .int .i64 0, .int .i64 4, .int .i64 4, .int .i64 0, .int .i64 (-4096), .int .i64 0, .int .i64 0, .int .i64 0, .int .i64 0, .int .i64 4, .int .i64 4, .int .i64 0, .int .i64 0, .int .i64 3, .int .i64 0, .int .i64 0, .int .i64 0, .int .i64 4, .int .i64 4, .int .i64 0, .int .i64 0, .int .i64 (-1)]⟩] : Mem))) none)
 (ob (acall P T k lo F.plane_Frame [.int .i64 16, .int .i64 16, .int .u8 5] r26.2) fun r49 =>
 ob (r49.1.tup? 2) fun l50 =>
 ob ((l50[0]?).bind (Value.agg? 9)) fun l51 =>
 ob ((l51[0]?).bind (Value.int? .i64)) fun x52 =>
 ob ((l51[1]?).bind (Value.int? .i64)) fun x53 =>
 ob ((l51[2]?).bind Value.slc?) fun s54 =>
 ob ((l51[3]?).bind (Value.int? .i64)) fun x55 =>
 ob ((l51[4]?).bind (Value.int? .i64)) fun x56 =>
 ob ((l51[5]?).bind Value.slc?) fun s57 =>
 ob ((l51[6]?).bind (Value.int? .i64)) fun x58 =>
 ob ((l51[7]?).bind (Value.int? .i64)) fun x59 =>
 ob ((l51[8]?).bind Value.slc?) fun s60 =>
 ob ((l50[1]?).bind (Value.int? .i64)) fun x61 =>
 some (zoetropelaw15_MotionKnown.c32756 false (some ⟨r49.2.length, 0, none⟩) 12 12 0 x52 x53 s54.a s54.n s54.c x55 x56 s57.a s57.n s57.c x58 x59 s60.a s60.n s60.c 0 0 0 4 4 0 0 0 (r49.2 ++ [⟨.fx, [.int .i64 3, .int .i64 0, .int .i64 0, .int .i64 4, .int .i64 4, .int .i64 0, .int .i64 0, .int .i64 0, .int .i64 (-1), .int .i64 0, .int .i64 0, .int .i64 4, .int .i64 4, .int .i64 0, .int .i64 0, .int .i64 0, .int .i64 0, .int .i64 (-1), .int .i64 0, .int .i64 4, .int .i64 4, .int .i64 0, .int .i64 0, .int .i64 0, .int .i64 0, .int .i64 0, .int .i64 1025, .int .i64 4, .int .i64 4, .int .i64 0, .int .i64 0, .int .i64 0, .int .i64 0, .int .i64 0, .int .i64 0, .int .i64 3, .int .i64 4, .int .i64 0, .int .i64 0, .int .i64 0, .int .i64 0, .int .i64 0, .int .i64 0, .int .i64 4, .int .i64 65, .int .i64 0, .int .i64 0, .int .i64 0, .int .i64 0, .int .i64 0, .int .i64 0, .int .i64 4, .int .i64 4, .int .i64 4096, .int .i64 0, .int .i64 0, .int .i64 0, .int .i64 0, .int .i64 0, .int .i64 4, .int .i64 4, .int .i64 (-4096), .int .i64 0, .int .i64 0, .int .i64 0, .int .i64 0, .int .i64 0, .int .i64 4, .int .i64 4, .int .i64 0, .int .i64 4096, .int .i64 0, .int .i64 0, .int .i64 0, .int .i64 0, .int .i64 4, .int .i64 4, .int .i64 0, .int .i64 (-4096), .int .i64 0, .int .i64 0, .int .i64 0, .int .i64 0, .int .i64 4, .int .i64 4, .int .i64 0, .int .i64 0, .int .i64 3, .int .i64 0, .int .i64 0, .int .i64 0, .int .i64 4, .int .i64 4, .int .i64 0, .int .i64 0, .int .i64 (-1)]⟩] : Mem)))) none)
 (ob (acall P T k lo F.plane_Frame [.int .i64 16, .int .i64 16, .int .u8 5] r26.2) fun r62 =>
 ob (r62.1.tup? 2) fun l63 =>
 ob ((l63[0]?).bind (Value.agg? 9)) fun l64 =>
 ob ((l64[0]?).bind (Value.int? .i64)) fun x65 =>
 ob ((l64[1]?).bind (Value.int? .i64)) fun x66 =>
 ob ((l64[2]?).bind Value.slc?) fun s67 =>
 ob ((l64[3]?).bind (Value.int? .i64)) fun x68 =>
 ob ((l64[4]?).bind (Value.int? .i64)) fun x69 =>
 ob ((l64[5]?).bind Value.slc?) fun s70 =>
 ob ((l64[6]?).bind (Value.int? .i64)) fun x71 =>
 ob ((l64[7]?).bind (Value.int? .i64)) fun x72 =>
 ob ((l64[8]?).bind Value.slc?) fun s73 =>
 ob ((l63[1]?).bind (Value.int? .i64)) fun x74 =>
 some (zoetropelaw15_MotionKnown.c32756 false (some ⟨r62.2.length, 0, none⟩) 12 12 0 x65 x66 s67.a s67.n s67.c x68 x69 s70.a s70.n s70.c x71 x72 s73.a s73.n s73.c 0 0 0 4 4 0 0 0 (r62.2 ++ [⟨.fx, [.int .i64 3, .int .i64 0, .int .i64 0, .int .i64 4, .int .i64 4, .int .i64 0, .int .i64 0, .int .i64 0, .int .i64 (-1), .int .i64 0, .int .i64 0, .int .i64 4, .int .i64 4, .int .i64 0, .int .i64 0, .int .i64 0, .int .i64 0, .int .i64 (-1), .int .i64 0, .int .i64 4, .int .i64 4, .int .i64 0, .int .i64 0, .int .i64 0, .int .i64 0, .int .i64 0, .int .i64 1025, .int .i64 4, .int .i64 4, .int .i64 0, .int .i64 0, .int .i64 0, .int .i64 0, .int .i64 0, .int .i64 0, .int .i64 3, .int .i64 4, .int .i64 0, .int .i64 0, .int .i64 0, .int .i64 0, .int .i64 0, .int .i64 0, .int .i64 4, .int .i64 65, .int .i64 0, .int .i64 0, .int .i64 0, .int .i64 0, .int .i64 0, .int .i64 0, .int .i64 4, .int .i64 4, .int .i64 4096, .int .i64 0, .int .i64 0, .int .i64 0, .int .i64 0, .int .i64 0, .int .i64 4, .int .i64 4, .int .i64 (-4096), .int .i64 0, .int .i64 0, .int .i64 0, .int .i64 0, .int .i64 0, .int .i64 4, .int .i64 4, .int .i64 0, .int .i64 4096, .int .i64 0, .int .i64 0, .int .i64 0, .int .i64 0, .int .i64 4, .int .i64 4, .int .i64 0, .int .i64 (-4096), .int .i64 0, .int .i64 0, .int .i64 0, .int .i64 0, .int .i64 4, .int .i64 4, .int .i64 0, .int .i64 0, .int .i64 3, .int .i64 0, .int .i64 0, .int .i64 0, .int .i64 4, .int .i64 4, .int .i64 0, .int .i64 0, .int .i64 (-1)]⟩] : Mem))))
 (ob (acall P T k lo F.plane_Frame [.int .i64 16, .int .i64 16, .int .u8 5] r26.2) fun r75 =>
 ob (r75.1.tup? 2) fun l76 =>
 ob ((l76[0]?).bind (Value.agg? 9)) fun l77 =>
 ob ((l77[0]?).bind (Value.int? .i64)) fun x78 =>
 ob ((l77[1]?).bind (Value.int? .i64)) fun x79 =>
 ob ((l77[2]?).bind Value.slc?) fun s80 =>
 ob ((l77[3]?).bind (Value.int? .i64)) fun x81 =>
 ob ((l77[4]?).bind (Value.int? .i64)) fun x82 =>
 ob ((l77[5]?).bind Value.slc?) fun s83 =>
 ob ((l77[6]?).bind (Value.int? .i64)) fun x84 =>
 ob ((l77[7]?).bind (Value.int? .i64)) fun x85 =>
 ob ((l77[8]?).bind Value.slc?) fun s86 =>
 ob ((l76[1]?).bind (Value.int? .i64)) fun x87 =>
 some (zoetropelaw15_MotionKnown.c32756 false (some ⟨r75.2.length, 0, none⟩) 12 12 0 x78 x79 s80.a s80.n s80.c x81 x82 s83.a s83.n s83.c x84 x85 s86.a s86.n s86.c 0 0 0 4 4 0 0 0 (r75.2 ++ [⟨.fx, [.int .i64 3, .int .i64 0, .int .i64 0, .int .i64 4, .int .i64 4, .int .i64 0, .int .i64 0, .int .i64 0, .int .i64 (-1), .int .i64 0, .int .i64 0, .int .i64 4, .int .i64 4, .int .i64 0, .int .i64 0, .int .i64 0, .int .i64 0, .int .i64 (-1), .int .i64 0, .int .i64 4, .int .i64 4, .int .i64 0, .int .i64 0, .int .i64 0, .int .i64 0, .int .i64 0, .int .i64 1025, .int .i64 4, .int .i64 4, .int .i64 0, .int .i64 0, .int .i64 0, .int .i64 0, .int .i64 0, .int .i64 0, .int .i64 3, .int .i64 4, .int .i64 0, .int .i64 0, .int .i64 0, .int .i64 0, .int .i64 0, .int .i64 0, .int .i64 4, .int .i64 65, .int .i64 0, .int .i64 0, .int .i64 0, .int .i64 0, .int .i64 0, .int .i64 0, .int .i64 4, .int .i64 4, .int .i64 4096, .int .i64 0, .int .i64 0, .int .i64 0, .int .i64 0, .int .i64 0, .int .i64 4, .int .i64 4, .int .i64 (-4096), .int .i64 0, .int .i64 0, .int .i64 0, .int .i64 0, .int .i64 0, .int .i64 4, .int .i64 4, .int .i64 0, .int .i64 4096, .int .i64 0, .int .i64 0, .int .i64 0, .int .i64 0, .int .i64 4, .int .i64 4, .int .i64 0, .int .i64 (-4096), .int .i64 0, .int .i64 0, .int .i64 0, .int .i64 0, .int .i64 4, .int .i64 4, .int .i64 0, .int .i64 0, .int .i64 3, .int .i64 0, .int .i64 0, .int .i64 0, .int .i64 4, .int .i64 4, .int .i64 0, .int .i64 0, .int .i64 (-1)]⟩] : Mem)))) none)
 (ob (acall P T k lo F.plane_Frame [.int .i64 16, .int .i64 16, .int .u8 5] r26.2) fun r88 =>
 ob (r88.1.tup? 2) fun l89 =>
 ob ((l89[0]?).bind (Value.agg? 9)) fun l90 =>
 ob ((l90[0]?).bind (Value.int? .i64)) fun x91 =>
 ob ((l90[1]?).bind (Value.int? .i64)) fun x92 =>
 ob ((l90[2]?).bind Value.slc?) fun s93 =>
 ob ((l90[3]?).bind (Value.int? .i64)) fun x94 =>
 ob ((l90[4]?).bind (Value.int? .i64)) fun x95 =>
 ob ((l90[5]?).bind Value.slc?) fun s96 =>
 ob ((l90[6]?).bind (Value.int? .i64)) fun x97 =>
 ob ((l90[7]?).bind (Value.int? .i64)) fun x98 =>
 ob ((l90[8]?).bind Value.slc?) fun s99 =>
 ob ((l89[1]?).bind (Value.int? .i64)) fun x100 =>
 some (zoetropelaw15_MotionKnown.c32756 false (some ⟨r88.2.length, 0, none⟩) 12 12 0 x91 x92 s93.a s93.n s93.c x94 x95 s96.a s96.n s96.c x97 x98 s99.a s99.n s99.c 0 0 0 4 4 0 0 0 (r88.2 ++ [⟨.fx, [.int .i64 3, .int .i64 0, .int .i64 0, .int .i64 4, .int .i64 4, .int .i64 0, .int .i64 0, .int .i64 0, .int .i64 (-1), .int .i64 0, .int .i64 0, .int .i64 4, .int .i64 4, .int .i64 0, .int .i64 0, .int .i64 0, .int .i64 0, .int .i64 (-1), .int .i64 0, .int .i64 4, .int .i64 4, .int .i64 0, .int .i64 0, .int .i64 0, .int .i64 0, .int .i64 0, .int .i64 1025, .int .i64 4, .int .i64 4, .int .i64 0, .int .i64 0, .int .i64 0, .int .i64 0, .int .i64 0, .int .i64 0, .int .i64 3, .int .i64 4, .int .i64 0, .int .i64 0, .int .i64 0, .int .i64 0, .int .i64 0, .int .i64 0, .int .i64 4, .int .i64 65, .int .i64 0, .int .i64 0, .int .i64 0, .int .i64 0, .int .i64 0, .int .i64 0, .int .i64 4, .int .i64 4, .int .i64 4096, .int .i64 0, .int .i64 0, .int .i64 0, .int .i64 0, .int .i64 0, .int .i64 4, .int .i64 4, .int .i64 (-4096), .int .i64 0, .int .i64 0, .int .i64 0, .int .i64 0, .int .i64 0, .int .i64 4, .int .i64 4, .int .i64 0, .int .i64 4096, .int .i64 0, .int .i64 0, .int .i64 0, .int .i64 0, .int .i64 4, .int .i64 4, .int .i64 0, .int .i64 (-4096), .int .i64 0, .int .i64 0, .int .i64 0, .int .i64 0, .int .i64 4, .int .i64 4, .int .i64 0, .int .i64 0, .int .i64 3, .int .i64 0, .int .i64 0, .int .i64 0, .int .i64 4, .int .i64 4, .int .i64 0, .int .i64 0, .int .i64 (-1)]⟩] : Mem)))) none)
 (ob (acall P T k lo F.plane_Frame [.int .i64 16, .int .i64 16, .int .u8 5] r26.2) fun r101 =>
 ob (r101.1.tup? 2) fun l102 =>
 ob ((l102[0]?).bind (Value.agg? 9)) fun l103 =>
 ob ((l103[0]?).bind (Value.int? .i64)) fun x104 =>
 ob ((l103[1]?).bind (Value.int? .i64)) fun x105 =>
 ob ((l103[2]?).bind Value.slc?) fun s106 =>
 ob ((l103[3]?).bind (Value.int? .i64)) fun x107 =>
 ob ((l103[4]?).bind (Value.int? .i64)) fun x108 =>
 ob ((l103[5]?).bind Value.slc?) fun s109 =>
 ob ((l103[6]?).bind (Value.int? .i64)) fun x110 =>
 ob ((l103[7]?).bind (Value.int? .i64)) fun x111 =>
 ob ((l103[8]?).bind Value.slc?) fun s112 =>
 ob ((l102[1]?).bind (Value.int? .i64)) fun x113 =>
 some (zoetropelaw15_MotionKnown.c32756 false (some ⟨r101.2.length, 0, none⟩) 12 12 0 x104 x105 s106.a s106.n s106.c x107 x108 s109.a s109.n s109.c x110 x111 s112.a s112.n s112.c 0 0 0 4 4 0 0 0 (r101.2 ++ [⟨.fx, [.int .i64 3, .int .i64 0, .int .i64 0, .int .i64 4, .int .i64 4, .int .i64 0, .int .i64 0, .int .i64 0, .int .i64 (-1), .int .i64 0, .int .i64 0, .int .i64 4, .int .i64 4, .int .i64 0, .int .i64 0, .int .i64 0, .int .i64 0, .int .i64 (-1), .int .i64 0, .int .i64 4, .int .i64 4, .int .i64 0, .int .i64 0, .int .i64 0, .int .i64 0, .int .i64 0, .int .i64 1025, .int .i64 4, .int .i64 4, .int .i64 0, .int .i64 0, .int .i64 0, .int .i64 0, .int .i64 0, .int .i64 0, .int .i64 3, .int .i64 4, .int .i64 0, .int .i64 0, .int .i64 0, .int .i64 0, .int .i64 0, .int .i64 0, .int .i64 4, .int .i64 65, .int .i64 0, .int .i64 0, .int .i64 0, .int .i64 0, .int .i64 0, .int .i64 0, .int .i64 4, .int .i64 4, .int .i64 4096, .int .i64 0, .int .i64 0, .int .i64 0, .int .i64 0, .int .i64 0, .int .i64 4, .int .i64 4, .int .i64 (-4096), .int .i64 0, .int .i64 0, .int .i64 0, .int .i64 0, .int .i64 0, .int .i64 4, .int .i64 4, .int .i64 0, .int .i64 4096, .int .i64 0, .int .i64 0, .int .i64 0, .int .i64 0, .int .i64 4, .int .i64 4, .int .i64 0, .int .i64 (-4096), .int .i64 0, .int .i64 0, .int .i64 0, .int .i64 0, .int .i64 4, .int .i64 4, .int .i64 0, .int .i64 0, .int .i64 3, .int .i64 0, .int .i64 0, .int .i64 0, .int .i64 4, .int .i64 4, .int .i64 0, .int .i64 0, .int .i64 (-1)]⟩] : Mem))))
 (ob (acall P T k lo F.plane_Frame [.int .i64 16, .int .i64 16, .int .u8 5] r26.2) fun r114 =>
 ob (r114.1.tup? 2) fun l115 =>
 ob ((l115[0]?).bind (Value.agg? 9)) fun l116 =>
 ob ((l116[0]?).bind (Value.int? .i64)) fun x117 =>
 ob ((l116[1]?).bind (Value.int? .i64)) fun x118 =>
 ob ((l116[2]?).bind Value.slc?) fun s119 =>
 ob ((l116[3]?).bind (Value.int? .i64)) fun x120 =>
 ob ((l116[4]?).bind (Value.int? .i64)) fun x121 =>
 ob ((l116[5]?).bind Value.slc?) fun s122 =>
 ob ((l116[6]?).bind (Value.int? .i64)) fun x123 =>
 ob ((l116[7]?).bind (Value.int? .i64)) fun x124 =>
 ob ((l116[8]?).bind Value.slc?) fun s125 =>
 ob ((l115[1]?).bind (Value.int? .i64)) fun x126 =>
 some (zoetropelaw15_MotionKnown.c32756 false (some ⟨r114.2.length, 0, none⟩) 12 12 0 x117 x118 s119.a s119.n s119.c x120 x121 s122.a s122.n s122.c x123 x124 s125.a s125.n s125.c 0 0 0 4 4 0 0 0 (r114.2 ++ [⟨.fx, [.int .i64 3, .int .i64 0, .int .i64 0, .int .i64 4, .int .i64 4, .int .i64 0, .int .i64 0, .int .i64 0, .int .i64 (-1), .int .i64 0, .int .i64 0, .int .i64 4, .int .i64 4, .int .i64 0, .int .i64 0, .int .i64 0, .int .i64 0, .int .i64 (-1), .int .i64 0, .int .i64 4, .int .i64 4, .int .i64 0, .int .i64 0, .int .i64 0, .int .i64 0, .int .i64 0, .int .i64 1025, .int .i64 4, .int .i64 4, .int .i64 0, .int .i64 0, .int .i64 0, .int .i64 0, .int .i64 0, .int .i64 0, .int .i64 3, .int .i64 4, .int .i64 0, .int .i64 0, .int .i64 0, .int .i64 0, .int .i64 0, .int .i64 0, .int .i64 4, .int .i64 65, .int .i64 0, .int .i64 0, .int .i64 0, .int .i64 0, .int .i64 0, .int .i64 0, .int .i64 4, .int .i64 4, .int .i64 4096, .int .i64 0, .int .i64 0, .int .i64 0, .int .i64 0, .int .i64 0, .int .i64 4, .int .i64 4, .int .i64 (-4096), .int .i64 0, .int .i64 0, .int .i64 0, .int .i64 0, .int .i64 0, .int .i64 4, .int .i64 4, .int .i64 0, .int .i64 4096, .int .i64 0, .int .i64 0, .int .i64 0, .int .i64 0, .int .i64 4, .int .i64 4, .int .i64 0, .int .i64 (-4096), .int .i64 0, .int .i64 0, .int .i64 0, .int .i64 0, .int .i64 4, .int .i64 4, .int .i64 0, .int .i64 0, .int .i64 3, .int .i64 0, .int .i64 0, .int .i64 0, .int .i64 4, .int .i64 4, .int .i64 0, .int .i64 0, .int .i64 (-1)]⟩] : Mem))))
 (ob (acall P T k lo F.plane_Frame [.int .i64 16, .int .i64 16, .int .u8 5] r22.2) fun r127 =>
 ob (r127.1.tup? 2) fun l128 =>
 ob ((l128[0]?).bind (Value.agg? 9)) fun l129 =>
 ob ((l129[0]?).bind (Value.int? .i64)) fun x130 =>
 ob ((l129[1]?).bind (Value.int? .i64)) fun x131 =>
 ob ((l129[2]?).bind Value.slc?) fun s132 =>
 ob ((l129[3]?).bind (Value.int? .i64)) fun x133 =>
 ob ((l129[4]?).bind (Value.int? .i64)) fun x134 =>
 ob ((l129[5]?).bind Value.slc?) fun s135 =>
 ob ((l129[6]?).bind (Value.int? .i64)) fun x136 =>
 ob ((l129[7]?).bind (Value.int? .i64)) fun x137 =>
 ob ((l129[8]?).bind Value.slc?) fun s138 =>
 ob ((l128[1]?).bind (Value.int? .i64)) fun x139 =>
 some (zoetropelaw15_MotionKnown.c32756 false (some ⟨r127.2.length, 0, none⟩) 12 12 0 x130 x131 s132.a s132.n s132.c x133 x134 s135.a s135.n s135.c x136 x137 s138.a s138.n s138.c 0 0 0 4 4 0 0 0 (r127.2 ++ [⟨.fx, [.int .i64 3, .int .i64 0, .int .i64 0, .int .i64 4, .int .i64 4, .int .i64 0, .int .i64 0, .int .i64 0, .int .i64 (-1), .int .i64 0, .int .i64 0, .int .i64 4, .int .i64 4, .int .i64 0, .int .i64 0, .int .i64 0, .int .i64 0, .int .i64 (-1), .int .i64 0, .int .i64 4, .int .i64 4, .int .i64 0, .int .i64 0, .int .i64 0, .int .i64 0, .int .i64 0, .int .i64 1025, .int .i64 4, .int .i64 4, .int .i64 0, .int .i64 0, .int .i64 0, .int .i64 0, .int .i64 0, .int .i64 0, .int .i64 3, .int .i64 4, .int .i64 0, .int .i64 0, .int .i64 0, .int .i64 0, .int .i64 0, .int .i64 0, .int .i64 4, .int .i64 65, .int .i64 0, .int .i64 0, .int .i64 0, .int .i64 0, .int .i64 0, .int .i64 0, .int .i64 4, .int .i64 4, .int .i64 4096, .int .i64 0, .int .i64 0, .int .i64 0, .int .i64 0, .int .i64 0, .int .i64 4, .int .i64 4, .int .i64 (-4096), .int .i64 0, .int .i64 0, .int .i64 0, .int .i64 0, .int .i64 0, .int .i64 4, .int .i64 4, .int .i64 0, .int .i64 4096, .int .i64 0, .int .i64 0, .int .i64 0, .int .i64 0, .int .i64 4, .int .i64 4, .int .i64 0, .int .i64 (-4096), .int .i64 0, .int .i64 0, .int .i64 0, .int .i64 0, .int .i64 4, .int .i64 4, .int .i64 0, .int .i64 0, .int .i64 3, .int .i64 0, .int .i64 0, .int .i64 0, .int .i64 4, .int .i64 4, .int .i64 0, .int .i64 0, .int .i64 (-1)]⟩] : Mem))))
 (ob (acall P T k lo F.plane_Frame [.int .i64 16, .int .i64 16, .int .u8 5] r22.2) fun r140 =>
 ob (r140.1.tup? 2) fun l141 =>
 ob ((l141[0]?).bind (Value.agg? 9)) fun l142 =>
 ob ((l142[0]?).bind (Value.int? .i64)) fun x143 =>
 ob ((l142[1]?).bind (Value.int? .i64)) fun x144 =>
 ob ((l142[2]?).bind Value.slc?) fun s145 =>
 ob ((l142[3]?).bind (Value.int? .i64)) fun x146 =>
 ob ((l142[4]?).bind (Value.int? .i64)) fun x147 =>
 ob ((l142[5]?).bind Value.slc?) fun s148 =>
 ob ((l142[6]?).bind (Value.int? .i64)) fun x149 =>
 ob ((l142[7]?).bind (Value.int? .i64)) fun x150 =>
 ob ((l142[8]?).bind Value.slc?) fun s151 =>
 ob ((l141[1]?).bind (Value.int? .i64)) fun x152 =>
 some (zoetropelaw15_MotionKnown.c32756 false (some ⟨r140.2.length, 0, none⟩) 12 12 0 x143 x144 s145.a s145.n s145.c x146 x147 s148.a s148.n s148.c x149 x150 s151.a s151.n s151.c 0 0 0 4 4 0 0 0 (r140.2 ++ [⟨.fx, [.int .i64 3, .int .i64 0, .int .i64 0, .int .i64 4, .int .i64 4, .int .i64 0, .int .i64 0, .int .i64 0, .int .i64 (-1), .int .i64 0, .int .i64 0, .int .i64 4, .int .i64 4, .int .i64 0, .int .i64 0, .int .i64 0, .int .i64 0, .int .i64 (-1), .int .i64 0, .int .i64 4, .int .i64 4, .int .i64 0, .int .i64 0, .int .i64 0, .int .i64 0, .int .i64 0, .int .i64 1025, .int .i64 4, .int .i64 4, .int .i64 0, .int .i64 0, .int .i64 0, .int .i64 0, .int .i64 0, .int .i64 0, .int .i64 3, .int .i64 4, .int .i64 0, .int .i64 0, .int .i64 0, .int .i64 0, .int .i64 0, .int .i64 0, .int .i64 4, .int .i64 65, .int .i64 0, .int .i64 0, .int .i64 0, .int .i64 0, .int .i64 0, .int .i64 0, .int .i64 4, .int .i64 4, .int .i64 4096, .int .i64 0, .int .i64 0, .int .i64 0, .int .i64 0, .int .i64 0, .int .i64 4, .int .i64 4, .int .i64 (-4096), .int .i64 0, .int .i64 0, .int .i64 0, .int .i64 0, .int .i64 0, .int .i64 4, .int .i64 4, .int .i64 0, .int .i64 4096, .int .i64 0, .int .i64 0, .int .i64 0, .int .i64 0, .int .i64 4, .int .i64 4, .int .i64 0, .int .i64 (-4096), .int .i64 0, .int .i64 0, .int .i64 0, .int .i64 0, .int .i64 4, .int .i64 4, .int .i64 0, .int .i64 0, .int .i64 3, .int .i64 0, .int .i64 0, .int .i64 0, .int .i64 4, .int .i64 4, .int .i64 0, .int .i64 0, .int .i64 (-1)]⟩] : Mem))))
 (ob (acall P T k lo F.plane_Frame [.int .i64 16, .int .i64 16, .int .u8 5] r22.2) fun r153 =>
 ob (r153.1.tup? 2) fun l154 =>
 ob ((l154[0]?).bind (Value.agg? 9)) fun l155 =>
 ob ((l155[0]?).bind (Value.int? .i64)) fun x156 =>
 ob ((l155[1]?).bind (Value.int? .i64)) fun x157 =>
 ob ((l155[2]?).bind Value.slc?) fun s158 =>
 ob ((l155[3]?).bind (Value.int? .i64)) fun x159 =>
 ob ((l155[4]?).bind (Value.int? .i64)) fun x160 =>
 ob ((l155[5]?).bind Value.slc?) fun s161 =>
 ob ((l155[6]?).bind (Value.int? .i64)) fun x162 =>
 ob ((l155[7]?).bind (Value.int? .i64)) fun x163 =>
 ob ((l155[8]?).bind Value.slc?) fun s164 =>
 ob ((l154[1]?).bind (Value.int? .i64)) fun x165 =>
 some (zoetropelaw15_MotionKnown.c32756 false (some ⟨r153.2.length, 0, none⟩) 12 12 0 x156 x157 s158.a s158.n s158.c x159 x160 s161.a s161.n s161.c x162 x163 s164.a s164.n s164.c 0 0 0 4 4 0 0 0 (r153.2 ++ [⟨.fx, [.int .i64 3, .int .i64 0, .int .i64 0, .int .i64 4, .int .i64 4, .int .i64 0, .int .i64 0, .int .i64 0, .int .i64 (-1), .int .i64 0, .int .i64 0, .int .i64 4, .int .i64 4, .int .i64 0, .int .i64 0, .int .i64 0, .int .i64 0, .int .i64 (-1), .int .i64 0, .int .i64 4, .int .i64 4, .int .i64 0, .int .i64 0, .int .i64 0, .int .i64 0, .int .i64 0, .int .i64 1025, .int .i64 4, .int .i64 4, .int .i64 0, .int .i64 0, .int .i64 0, .int .i64 0, .int .i64 0, .int .i64 0, .int .i64 3, .int .i64 4, .int .i64 0, .int .i64 0, .int .i64 0, .int .i64 0, .int .i64 0, .int .i64 0, .int .i64 4, .int .i64 65, .int .i64 0, .int .i64 0, .int .i64 0, .int .i64 0, .int .i64 0, .int .i64 0, .int .i64 4, .int .i64 4, .int .i64 4096, .int .i64 0, .int .i64 0, .int .i64 0, .int .i64 0, .int .i64 0, .int .i64 4, .int .i64 4, .int .i64 (-4096), .int .i64 0, .int .i64 0, .int .i64 0, .int .i64 0, .int .i64 0, .int .i64 4, .int .i64 4, .int .i64 0, .int .i64 4096, .int .i64 0, .int .i64 0, .int .i64 0, .int .i64 0, .int .i64 4, .int .i64 4, .int .i64 0, .int .i64 (-4096), .int .i64 0, .int .i64 0, .int .i64 0, .int .i64 0, .int .i64 4, .int .i64 4, .int .i64 0, .int .i64 0, .int .i64 3, .int .i64 0, .int .i64 0, .int .i64 0, .int .i64 4, .int .i64 4, .int .i64 0, .int .i64 0, .int .i64 (-1)]⟩] : Mem))))
 (ob (acall P T k lo F.plane_Frame [.int .i64 16, .int .i64 16, .int .u8 5] r22.2) fun r166 =>
 ob (r166.1.tup? 2) fun l167 =>
 ob ((l167[0]?).bind (Value.agg? 9)) fun l168 =>
 ob ((l168[0]?).bind (Value.int? .i64)) fun x169 =>
 ob ((l168[1]?).bind (Value.int? .i64)) fun x170 =>
 ob ((l168[2]?).bind Value.slc?) fun s171 =>
 ob ((l168[3]?).bind (Value.int? .i64)) fun x172 =>
 ob ((l168[4]?).bind (Value.int? .i64)) fun x173 =>
 ob ((l168[5]?).bind Value.slc?) fun s174 =>
 ob ((l168[6]?).bind (Value.int? .i64)) fun x175 =>
 ob ((l168[7]?).bind (Value.int? .i64)) fun x176 =>
 ob ((l168[8]?).bind Value.slc?) fun s177 =>
 ob ((l167[1]?).bind (Value.int? .i64)) fun x178 =>
 some (zoetropelaw15_MotionKnown.c32756 false (some ⟨r166.2.length, 0, none⟩) 12 12 0 x169 x170 s171.a s171.n s171.c x172 x173 s174.a s174.n s174.c x175 x176 s177.a s177.n s177.c 0 0 0 4 4 0 0 0 (r166.2 ++ [⟨.fx, [.int .i64 3, .int .i64 0, .int .i64 0, .int .i64 4, .int .i64 4, .int .i64 0, .int .i64 0, .int .i64 0, .int .i64 (-1), .int .i64 0, .int .i64 0, .int .i64 4, .int .i64 4, .int .i64 0, .int .i64 0, .int .i64 0, .int .i64 0, .int .i64 (-1), .int .i64 0, .int .i64 4, .int .i64 4, .int .i64 0, .int .i64 0, .int .i64 0, .int .i64 0, .int .i64 0, .int .i64 1025, .int .i64 4, .int .i64 4, .int .i64 0, .int .i64 0, .int .i64 0, .int .i64 0, .int .i64 0, .int .i64 0, .int .i64 3, .int .i64 4, .int .i64 0, .int .i64 0, .int .i64 0, .int .i64 0, .int .i64 0, .int .i64 0, .int .i64 4, .int .i64 65, .int .i64 0, .int .i64 0, .int .i64 0, .int .i64 0, .int .i64 0, .int .i64 0, .int .i64 4, .int .i64 4, .int .i64 4096, .int .i64 0, .int .i64 0, .int .i64 0, .int .i64 0, .int .i64 0, .int .i64 4, .int .i64 4, .int .i64 (-4096), .int .i64 0, .int .i64 0, .int .i64 0, .int .i64 0, .int .i64 0, .int .i64 4, .int .i64 4, .int .i64 0, .int .i64 4096, .int .i64 0, .int .i64 0, .int .i64 0, .int .i64 0, .int .i64 4, .int .i64 4, .int .i64 0, .int .i64 (-4096), .int .i64 0, .int .i64 0, .int .i64 0, .int .i64 0, .int .i64 4, .int .i64 4, .int .i64 0, .int .i64 0, .int .i64 3, .int .i64 0, .int .i64 0, .int .i64 0, .int .i64 4, .int .i64 4, .int .i64 0, .int .i64 0, .int .i64 (-1)]⟩] : Mem))))
 (ob (acall P T k lo F.plane_Frame [.int .i64 16, .int .i64 16, .int .u8 5] r22.2) fun r179 =>
 ob (r179.1.tup? 2) fun l180 =>
 ob ((l180[0]?).bind (Value.agg? 9)) fun l181 =>
 ob ((l181[0]?).bind (Value.int? .i64)) fun x182 =>
 ob ((l181[1]?).bind (Value.int? .i64)) fun x183 =>
 ob ((l181[2]?).bind Value.slc?) fun s184 =>
 ob ((l181[3]?).bind (Value.int? .i64)) fun x185 =>
 ob ((l181[4]?).bind (Value.int? .i64)) fun x186 =>
 ob ((l181[5]?).bind Value.slc?) fun s187 =>
 ob ((l181[6]?).bind (Value.int? .i64)) fun x188 =>
 ob ((l181[7]?).bind (Value.int? .i64)) fun x189 =>
 ob ((l181[8]?).bind Value.slc?) fun s190 =>
 ob ((l180[1]?).bind (Value.int? .i64)) fun x191 =>
 some (zoetropelaw15_MotionKnown.c32756 false (some ⟨r179.2.length, 0, none⟩) 12 12 0 x182 x183 s184.a s184.n s184.c x185 x186 s187.a s187.n s187.c x188 x189 s190.a s190.n s190.c 0 0 0 4 4 0 0 0 (r179.2 ++ [⟨.fx, [.int .i64 3, .int .i64 0, .int .i64 0, .int .i64 4, .int .i64 4, .int .i64 0, .int .i64 0, .int .i64 0, .int .i64 (-1), .int .i64 0, .int .i64 0, .int .i64 4, .int .i64 4, .int .i64 0, .int .i64 0, .int .i64 0, .int .i64 0, .int .i64 (-1), .int .i64 0, .int .i64 4, .int .i64 4, .int .i64 0, .int .i64 0, .int .i64 0, .int .i64 0, .int .i64 0, .int .i64 1025, .int .i64 4, .int .i64 4, .int .i64 0, .int .i64 0, .int .i64 0, .int .i64 0, .int .i64 0, .int .i64 0, .int .i64 3, .int .i64 4, .int .i64 0, .int .i64 0, .int .i64 0, .int .i64 0, .int .i64 0, .int .i64 0, .int .i64 4, .int .i64 65, .int .i64 0, .int .i64 0, .int .i64 0, .int .i64 0, .int .i64 0, .int .i64 0, .int .i64 4, .int .i64 4, .int .i64 4096, .int .i64 0, .int .i64 0, .int .i64 0, .int .i64 0, .int .i64 0, .int .i64 4, .int .i64 4, .int .i64 (-4096), .int .i64 0, .int .i64 0, .int .i64 0, .int .i64 0, .int .i64 0, .int .i64 4, .int .i64 4, .int .i64 0, .int .i64 4096, .int .i64 0, .int .i64 0, .int .i64 0, .int .i64 0, .int .i64 4, .int .i64 4, .int .i64 0, .int .i64 (-4096), .int .i64 0, .int .i64 0, .int .i64 0, .int .i64 0, .int .i64 4, .int .i64 4, .int .i64 0, .int .i64 0, .int .i64 3, .int .i64 0, .int .i64 0, .int .i64 0, .int .i64 4, .int .i64 4, .int .i64 0, .int .i64 0, .int .i64 (-1)]⟩] : Mem))) := by kernel_rfl
theorem zoetropelaw15_MotionKnown.p32756 (k lo : Nat) (b1 : Bool) (A2 : Option Addr) (n3 : Nat) (c4 : Nat) (x5 : Int) (x6 : Int) (x7 : Int) (A8 : Option Addr) (n9 : Nat) (c10 : Nat) (x11 : Int) (x12 : Int) (A13 : Option Addr) (n14 : Nat) (c15 : Nat) (x16 : Int) (x17 : Int) (A18 : Option Addr) (n19 : Nat) (c20 : Nat) (x21 : Int) (x22 : Int) (x23 : Int) (x24 : Int) (x25 : Int) (x26 : Int) (x27 : Int) (x28 : Int) (M : Mem) : piece P T k lo F.zoetropelaw15_MotionKnown 32756 [.v (.bool b1), .l 12 0, .l 14 0, .v (.slice A2 n3 c4), .v (.int .i64 x5)] [[.int .i64 x6, .int .i64 x7, .slice A8 n9 c10, .int .i64 x11, .int .i64 x12, .slice A13 n14 c15, .int .i64 x16, .int .i64 x17, .slice A18 n19 c20], [.int .i64 x21, .int .i64 x22, .int .i64 x23, .int .i64 x24, .int .i64 x25, .int .i64 x26, .int .i64 x27, .int .i64 x28]] M =
 bb (decide (x5 < (n3 : Int)))
 (pb (0 ≤ x5 ∧ x5 < (n3 : Int))
 (ob A2 fun a192 =>
 ob ((M.ld (plus a192 (x5.toNat * 8))).bind (Value.int? .i64)) fun x193 =>
 pb (0 ≤ x5 ∧ x5 < (n3 : Int))
 (ob A2 fun a194 =>
 ob ((M.ld (plus (plus a194 (x5.toNat * 8)) 1)).bind (Value.int? .i64)) fun x195 =>
 ob ((M.ld (plus (plus (plus a194 (x5.toNat * 8)) 1) 1)).bind (Value.int? .i64)) fun x196 =>
 ob ((M.ld (plus (plus (plus a194 (x5.toNat * 8)) 1) 2)).bind (Value.int? .i64)) fun x197 =>
 ob ((M.ld (plus (plus (plus a194 (x5.toNat * 8)) 1) 3)).bind (Value.int? .i64)) fun x198 =>
 pb (0 ≤ x5 ∧ x5 < (n3 : Int))
 (ob A2 fun a199 =>
 ob ((M.ld (plus (plus a199 (x5.toNat * 8)) 5)).bind (Value.int? .i64)) fun x200 =>
 ob ((M.ld (plus (plus (plus a199 (x5.toNat * 8)) 5) 1)).bind (Value.int? .i64)) fun x201 =>
 pb (0 ≤ x5 ∧ x5 < (n3 : Int))
 (ob A2 fun a202 =>
 ob ((M.ld (plus (plus a202 (x5.toNat * 8)) 7)).bind (Value.int? .i64)) fun x203 =>
 ob (acall P T k lo F.motion_Single [.agg ⟨[.int .i64 x6, .int .i64 x7, .slice A8 n9 c10, .int .i64 x11, .int .i64 x12, .slice A13 n14 c15, .int .i64 x16, .int .i64 x17, .slice A18 n19 c20]⟩, .int .i64 x193, .agg ⟨[.int .i64 x195, .int .i64 x196, .int .i64 x197, .int .i64 x198]⟩, .agg ⟨[.int .i64 x200, .int .i64 x201]⟩, .int .i64 x203] M) fun r204 =>
 ob (r204.1.tup? 2) fun l205 =>
 ob ((l205[0]?).bind Value.slc?) fun s206 =>
 ob ((l205[1]?).bind (Value.int? .i64)) fun x207 =>
 bb (x207 != 2)
 (some (.ret (.bool false) r204.2))
 (some (zoetropelaw15_MotionKnown.c32756 b1 A2 n3 c4 (IntKind.i64.wrap (x5 + 1)) x6 x7 A8 n9 c10 x11 x12 A13 n14 c15 x16 x17 A18 n19 c20 x21 x22 x23 x24 x25 x26 x27 x28 r204.2))) none) none) none) none)
 (ob (acall P T k lo F.motion_Single [.agg ⟨[.int .i64 x6, .int .i64 x7, .slice A8 n9 c10, .int .i64 x11, .int .i64 x12, .slice A13 n14 c15, .int .i64 x16, .int .i64 x17, .slice A18 n19 c20]⟩, .int .i64 2, .agg ⟨[.int .i64 1024, .int .i64 1024, .int .i64 64, .int .i64 64]⟩, .agg ⟨[.int .i64 4095, .int .i64 (-4095)]⟩, .int .i64 1] M) fun r208 =>
 ob (r208.1.tup? 2) fun l209 =>
 ob ((l209[0]?).bind Value.slc?) fun s210 =>
 ob ((l209[1]?).bind (Value.int? .i64)) fun x211 =>
 ob (acall P T k lo F.motion_Single [.agg ⟨[.int .i64 0, .int .i64 0, .slice none 0 0, .int .i64 0, .int .i64 0, .slice none 0 0, .int .i64 0, .int .i64 0, .slice none 0 0]⟩, .int .i64 0, .agg ⟨[.int .i64 x22, .int .i64 x23, .int .i64 x24, .int .i64 x25]⟩, .agg ⟨[.int .i64 0, .int .i64 0]⟩, .int .i64 0] r208.2) fun r212 =>
 ob (r212.1.tup? 2) fun l213 =>
 ob ((l213[0]?).bind Value.slc?) fun s214 =>
 ob ((l213[1]?).bind (Value.int? .i64)) fun x215 =>
 ob (acall P T k lo F.motion_Pair [.slice (some ⟨r212.2.length, 0, none⟩) 1 1, .slice none 0 0] (r212.2 ++ [⟨.fx, [.int .u8 1]⟩] : Mem)) fun r216 =>
 ob (r216.1.tup? 2) fun l217 =>
 ob ((l217[0]?).bind Value.slc?) fun s218 =>
 ob ((l217[1]?).bind (Value.int? .i64)) fun x219 =>
 ob (acall P T k lo F.motion_Pair [.slice none 0 0, .slice none 0 0] r216.2) fun r220 =>
 ob (r220.1.tup? 2) fun l221 =>
 ob ((l221[0]?).bind Value.slc?) fun s222 =>
 ob ((l221[1]?).bind (Value.int? .i64)) fun x223 =>
 some (zoetropelaw15_MotionKnown.c2097140 b1 s210.a s210.n s210.c x211 x215 x219 s222.a s222.n s222.c x223 (some ⟨r220.2.length, 0, none⟩) 6 6 0 (r220.2 ++ [⟨.fx, [.int .i64 0, .int .i64 0, .int .i64 1, .int .i64 3, .int .i64 1, .int .i64 0, .int .i64 2, .int .i64 4, .int .i64 0, .int .i64 1, .int .i64 1, .int .i64 4, .int .i64 (-1), .int .i64 0, .int .i64 1, .int .i64 4, .int .i64 0, .int .i64 0, .int .i64 1, .int .i64 33, .int .i64 0, .int .i64 0, .int .i64 0, .int .i64 4]⟩] : Mem))) := by kernel_rfl
theorem zoetropelaw15_MotionKnown.p2097140 (k lo : Nat) (b1 : Bool) (A2 : Option Addr) (n3 : Nat) (c4 : Nat) (x5 : Int) (x6 : Int) (x7 : Int) (A8 : Option Addr) (n9 : Nat) (c10 : Nat) (x11 : Int) (A12 : Option Addr) (n13 : Nat) (c14 : Nat) (x15 : Int) (M : Mem) : piece P T k lo F.zoetropelaw15_MotionKnown 2097140 [.v (.bool b1), .v (.slice A2 n3 c4), .v (.int .i64 x5), .v (.int .i64 x6), .v (.int .i64 x7), .v (.slice A8 n9 c10), .v (.int .i64 x11), .v (.slice A12 n13 c14), .v (.int .i64 x15)] [] M =
 bb (decide (x15 < (n13 : Int)))
 (ob (acall P T k M.length F.zoetropelaw15_flat [.int .i64 8, .int .u8 1] M) fun r224 =>
 ob ((some r224.1).bind Value.slc?) fun s225 =>
 pb (0 ≤ x15 ∧ x15 < (n13 : Int))
 (ob A12 fun a226 =>
 ob ((if ((plus a226 (x15.toNat * 4)).block) < M.length then r224.2.ld (plus a226 (x15.toNat * 4)) else none).bind (Value.int? .i64)) fun x227 =>
 ob ((if ((plus a226 (x15.toNat * 4)).block) < M.length then r224.2.ld (plus (plus a226 (x15.toNat * 4)) 1) else none).bind (Value.int? .i64)) fun x228 =>
 ob ((if ((plus a226 (x15.toNat * 4)).block) < M.length then r224.2.ld (plus (plus a226 (x15.toNat * 4)) 2) else none).bind (Value.int? .i64)) fun x229 =>
 ob ((if ((plus a226 (x15.toNat * 4)).block) < M.length then r224.2.ld (plus (plus a226 (x15.toNat * 4)) 3) else none).bind (Value.int? .i64)) fun x230 =>
 pb (0 ≤ x15 ∧ x15 < (n13 : Int))
 (ob A12 fun a231 =>
 ob ((if ((plus (plus a231 (x15.toNat * 4)) 2).block) < M.length then r224.2.ld (plus (plus a231 (x15.toNat * 4)) 2) else none).bind (Value.int? .i64)) fun x232 =>
 pb (0 ≤ x15 ∧ x15 < (n13 : Int))
 (ob A12 fun a233 =>
 ob ((if ((plus (plus a233 (x15.toNat * 4)) 3).block) < M.length then r224.2.ld (plus (plus a233 (x15.toNat * 4)) 3) else none).bind (Value.int? .i64)) fun x234 =>
 ob (acall P T k M.length F.zoetropelaw15_flat [.int .i64 (IntKind.i64.wrap (x232 * x234)), .int .u8 2] r224.2) fun r235 =>
 ob ((some r235.1).bind Value.slc?) fun s236 =>
 ob (acall P T k M.length F.motion_Above [.slice s225.a s225.n s225.c, .int .i64 2, .agg ⟨[.int .i64 x227, .int .i64 x228, .int .i64 x229, .int .i64 x230]⟩, .slice s236.a s236.n s236.c] r235.2) fun r237 =>
 ob (r237.1.tup? 2) fun l238 =>
 ob ((l238[0]?).bind Value.slc?) fun s239 =>
 ob ((l238[1]?).bind (Value.int? .i64)) fun x240 =>
 bb (x240 != 2)
 (some (.ret (.bool false) r237.2))
 (some (zoetropelaw15_MotionKnown.c2097140 b1 A2 n3 c4 x5 x6 x7 A8 n9 c10 x11 A12 n13 c14 (IntKind.i64.wrap (x15 + 1)) r237.2))) none) none) none)
 (ob (acall P T k lo F.zoetropelaw15_flat [.int .i64 7, .int .u8 1] M) fun r241 =>
 ob ((some r241.1).bind Value.slc?) fun s242 =>
 ob (acall P T k lo F.zoetropelaw15_flat [.int .i64 3, .int .u8 2] r241.2) fun r243 =>
 ob ((some r243.1).bind Value.slc?) fun s244 =>
 ob (acall P T k lo F.motion_Above [.slice s242.a s242.n s242.c, .int .i64 2, .agg ⟨[.int .i64 0, .int .i64 0, .int .i64 1, .int .i64 3]⟩, .slice s244.a s244.n s244.c] r243.2) fun r245 =>
 ob (r245.1.tup? 2) fun l246 =>
 ob ((l246[0]?).bind Value.slc?) fun s247 =>
 ob ((l246[1]?).bind (Value.int? .i64)) fun x248 =>
 ob (acall P T k lo F.zoetropelaw15_flat [.int .i64 8, .int .u8 1] r245.2) fun r249 =>
 ob ((some r249.1).bind Value.slc?) fun s250 =>
 ob (acall P T k lo F.zoetropelaw15_flat [.int .i64 4, .int .u8 2] r249.2) fun r251 =>
 ob ((some r251.1).bind Value.slc?) fun s252 =>
 ob (acall P T k lo F.motion_Above [.slice s250.a s250.n s250.c, .int .i64 0, .agg ⟨[.int .i64 0, .int .i64 0, .int .i64 1, .int .i64 4]⟩, .slice s252.a s252.n s252.c] r251.2) fun r253 =>
 ob (r253.1.tup? 2) fun l254 =>
 ob ((l254[0]?).bind Value.slc?) fun s255 =>
 ob ((l254[1]?).bind (Value.int? .i64)) fun x256 =>
 ob (acall P T k lo F.zoetropelaw15_flat [.int .i64 260, .int .u8 1] r253.2) fun r257 =>
 ob ((some r257.1).bind Value.slc?) fun s258 =>
 ob (acall P T k lo F.zoetropelaw15_flat [.int .i64 4, .int .u8 2] r257.2) fun r259 =>
 ob ((some r259.1).bind Value.slc?) fun s260 =>
 ob (acall P T k lo F.motion_Above [.slice s258.a s258.n s258.c, .int .i64 65, .agg ⟨[.int .i64 0, .int .i64 0, .int .i64 1, .int .i64 4]⟩, .slice s260.a s260.n s260.c] r259.2) fun r261 =>
 ob (r261.1.tup? 2) fun l262 =>
 ob ((l262[0]?).bind Value.slc?) fun s263 =>
 ob ((l262[1]?).bind (Value.int? .i64)) fun x264 =>
 ob (acall P T k lo F.zoetropelaw15_flat [.int .i64 260, .int .u8 1] r261.2) fun r265 =>
 ob ((some r265.1).bind Value.slc?) fun s266 =>
 ob (acall P T k lo F.zoetropelaw15_flat [.int .i64 4, .int .u8 2] r265.2) fun r267 =>
 ob ((some r267.1).bind Value.slc?) fun s268 =>
 ob (acall P T k lo F.motion_Left [.slice s266.a s266.n s266.c, .int .i64 4, .agg ⟨[.int .i64 0, .int .i64 0, .int .i64 4, .int .i64 1]⟩, .slice s268.a s268.n s268.c] r267.2) fun r269 =>
 ob (r269.1.tup? 2) fun l270 =>
 ob ((l270[0]?).bind Value.slc?) fun s271 =>
 ob ((l270[1]?).bind (Value.int? .i64)) fun x272 =>
 ob (acall P T k lo F.zoetropelaw15_flat [.int .i64 8, .int .u8 1] r269.2) fun r273 =>
 ob ((some r273.1).bind Value.slc?) fun s274 =>
 ob (acall P T k lo F.zoetropelaw15_flat [.int .i64 3, .int .u8 2] r273.2) fun r275 =>
 ob ((some r275.1).bind Value.slc?) fun s276 =>
 ob (acall P T k lo F.motion_Left [.slice s274.a s274.n s274.c, .int .i64 4, .agg ⟨[.int .i64 0, .int .i64 0, .int .i64 4, .int .i64 1]⟩, .slice s276.a s276.n s276.c] r275.2) fun r277 =>
 ob (r277.1.tup? 2) fun l278 =>
 ob ((l278[0]?).bind Value.slc?) fun s279 =>
 ob ((l278[1]?).bind (Value.int? .i64)) fun x280 =>
 ob (acall P T k lo F.zoetropelaw15_flat [.int .i64 4, .int .u8 2] r277.2) fun r281 =>
 ob ((some r281.1).bind Value.slc?) fun s282 =>
 ob (acall P T k lo F.motion_Left [.slice none 0 0, .int .i64 4, .agg ⟨[.int .i64 0, .int .i64 0, .int .i64 4, .int .i64 1]⟩, .slice s282.a s282.n s282.c] r281.2) fun r283 =>
 ob (r283.1.tup? 2) fun l284 =>
 ob ((l284[0]?).bind Value.slc?) fun s285 =>
 ob ((l284[1]?).bind (Value.int? .i64)) fun x286 =>
 bb (x6 == 2)
 (bb (x7 == 2)
 (bb (x11 == 0)
 (bb ((n9 : Int) == 0)
 (bb (x248 == 2)
 (bb (x256 == 2)
 (bb (x264 == 2)
 (bb (x272 == 2)
 (bb (x280 == 2)
 (ob (acall P T k lo F.zoetropelaw15_works [] r283.2) fun r287 =>
 ob ((some r287.1).bind Value.bool?) fun b288 =>
 bb b288
 (bb b1
 (bb (x5 == 0)
 (ob (acall P T k lo F.zoetropelaw15_flat [.int .i64 4096, .int .u8 5] r287.2) fun r289 =>
 ob ((some r289.1).bind Value.slc?) fun s290 =>
 ob (acall P T k lo F.zoetroperef00_EqBytes [.slice A2 n3 c4, .slice s290.a s290.n s290.c] r289.2) fun r291 =>
 ob ((some r291.1).bind Value.bool?) fun b292 =>
 bb b292
 (some (.ret (.bool (x286 == 2)) r291.2))
 (some (.ret (.bool false) r291.2)))
 (some (.ret (.bool false) r287.2)))
 (some (.ret (.bool false) r287.2)))
 (some (.ret (.bool false) r287.2)))
 (ob (acall P T k lo F.zoetropelaw15_works [] r283.2) fun r293 =>
 ob ((some r293.1).bind Value.bool?) fun b294 =>
 bb b294
 (bb b1
 (bb (x5 == 0)
 (ob (acall P T k lo F.zoetropelaw15_flat [.int .i64 4096, .int .u8 5] r293.2) fun r295 =>
 ob ((some r295.1).bind Value.slc?) fun s296 =>
 ob (acall P T k lo F.zoetroperef00_EqBytes [.slice A2 n3 c4, .slice s296.a s296.n s296.c] r295.2) fun r297 =>
 ob ((some r297.1).bind Value.bool?) fun b298 =>
 bb b298
 (some (.ret (.bool false) r297.2))
 (some (.ret (.bool false) r297.2)))
 (some (.ret (.bool false) r293.2)))
 (some (.ret (.bool false) r293.2)))
 (some (.ret (.bool false) r293.2))))
 (ob (acall P T k lo F.zoetropelaw15_works [] r283.2) fun r299 =>
 ob ((some r299.1).bind Value.bool?) fun b300 =>
 bb b300
 (bb b1
 (bb (x5 == 0)
 (ob (acall P T k lo F.zoetropelaw15_flat [.int .i64 4096, .int .u8 5] r299.2) fun r301 =>
 ob ((some r301.1).bind Value.slc?) fun s302 =>
 ob (acall P T k lo F.zoetroperef00_EqBytes [.slice A2 n3 c4, .slice s302.a s302.n s302.c] r301.2) fun r303 =>
 ob ((some r303.1).bind Value.bool?) fun b304 =>
 bb b304
 (some (.ret (.bool false) r303.2))
 (some (.ret (.bool false) r303.2)))
 (some (.ret (.bool false) r299.2)))
 (some (.ret (.bool false) r299.2)))
 (some (.ret (.bool false) r299.2))))
 (ob (acall P T k lo F.zoetropelaw15_works [] r283.2) fun r305 =>
 ob ((some r305.1).bind Value.bool?) fun b306 =>
 bb b306
 (bb b1
 (bb (x5 == 0)
 (ob (acall P T k lo F.zoetropelaw15_flat [.int .i64 4096, .int .u8 5] r305.2) fun r307 =>
 ob ((some r307.1).bind Value.slc?) fun s308 =>
 ob (acall P T k lo F.zoetroperef00_EqBytes [.slice A2 n3 c4, .slice s308.a s308.n s308.c] r307.2) fun r309 =>
 ob ((some r309.1).bind Value.bool?) fun b310 =>
 bb b310
 (some (.ret (.bool false) r309.2))
 (some (.ret (.bool false) r309.2)))
 (some (.ret (.bool false) r305.2)))
 (some (.ret (.bool false) r305.2)))
 (some (.ret (.bool false) r305.2))))
 (ob (acall P T k lo F.zoetropelaw15_works [] r283.2) fun r311 =>
 ob ((some r311.1).bind Value.bool?) fun b312 =>
 bb b312
 (bb b1
 (bb (x5 == 0)
 (ob (acall P T k lo F.zoetropelaw15_flat [.int .i64 4096, .int .u8 5] r311.2) fun r313 =>
 ob ((some r313.1).bind Value.slc?) fun s314 =>
 ob (acall P T k lo F.zoetroperef00_EqBytes [.slice A2 n3 c4, .slice s314.a s314.n s314.c] r313.2) fun r315 =>
 ob ((some r315.1).bind Value.bool?) fun b316 =>
 bb b316
 (some (.ret (.bool false) r315.2))
 (some (.ret (.bool false) r315.2)))
 (some (.ret (.bool false) r311.2)))
 (some (.ret (.bool false) r311.2)))
 (some (.ret (.bool false) r311.2))))
 (ob (acall P T k lo F.zoetropelaw15_works [] r283.2) fun r317 =>
 ob ((some r317.1).bind Value.bool?) fun b318 =>
 bb b318
 (bb b1
 (bb (x5 == 0)
 (ob (acall P T k lo F.zoetropelaw15_flat [.int .i64 4096, .int .u8 5] r317.2) fun r319 =>
 ob ((some r319.1).bind Value.slc?) fun s320 =>
 ob (acall P T k lo F.zoetroperef00_EqBytes [.slice A2 n3 c4, .slice s320.a s320.n s320.c] r319.2) fun r321 =>
 ob ((some r321.1).bind Value.bool?) fun b322 =>
 bb b322
 (some (.ret (.bool false) r321.2))
 (some (.ret (.bool false) r321.2)))
 (some (.ret (.bool false) r317.2)))
 (some (.ret (.bool false) r317.2)))
 (some (.ret (.bool false) r317.2))))
 (ob (acall P T k lo F.zoetropelaw15_works [] r283.2) fun r323 =>
 ob ((some r323.1).bind Value.bool?) fun b324 =>
 bb b324
 (bb b1
 (bb (x5 == 0)
 (ob (acall P T k lo F.zoetropelaw15_flat [.int .i64 4096, .int .u8 5] r323.2) fun r325 =>
 ob ((some r325.1).bind Value.slc?) fun s326 =>
 ob (acall P T k lo F.zoetroperef00_EqBytes [.slice A2 n3 c4, .slice s326.a s326.n s326.c] r325.2) fun r327 =>
 ob ((some r327.1).bind Value.bool?) fun b328 =>
 bb b328
 (some (.ret (.bool false) r327.2))
 (some (.ret (.bool false) r327.2)))
 (some (.ret (.bool false) r323.2)))
 (some (.ret (.bool false) r323.2)))
 (some (.ret (.bool false) r323.2))))
 (ob (acall P T k lo F.zoetropelaw15_works [] r283.2) fun r329 =>
 ob ((some r329.1).bind Value.bool?) fun b330 =>
 bb b330
 (bb b1
 (bb (x5 == 0)
 (ob (acall P T k lo F.zoetropelaw15_flat [.int .i64 4096, .int .u8 5] r329.2) fun r331 =>
 ob ((some r331.1).bind Value.slc?) fun s332 =>
 ob (acall P T k lo F.zoetroperef00_EqBytes [.slice A2 n3 c4, .slice s332.a s332.n s332.c] r331.2) fun r333 =>
 ob ((some r333.1).bind Value.bool?) fun b334 =>
 bb b334
 (some (.ret (.bool false) r333.2))
 (some (.ret (.bool false) r333.2)))
 (some (.ret (.bool false) r329.2)))
 (some (.ret (.bool false) r329.2)))
 (some (.ret (.bool false) r329.2))))
 (ob (acall P T k lo F.zoetropelaw15_works [] r283.2) fun r335 =>
 ob ((some r335.1).bind Value.bool?) fun b336 =>
 bb b336
 (bb b1
 (bb (x5 == 0)
 (ob (acall P T k lo F.zoetropelaw15_flat [.int .i64 4096, .int .u8 5] r335.2) fun r337 =>
 ob ((some r337.1).bind Value.slc?) fun s338 =>
 ob (acall P T k lo F.zoetroperef00_EqBytes [.slice A2 n3 c4, .slice s338.a s338.n s338.c] r337.2) fun r339 =>
 ob ((some r339.1).bind Value.bool?) fun b340 =>
 bb b340
 (some (.ret (.bool false) r339.2))
 (some (.ret (.bool false) r339.2)))
 (some (.ret (.bool false) r335.2)))
 (some (.ret (.bool false) r335.2)))
 (some (.ret (.bool false) r335.2))))
 (ob (acall P T k lo F.zoetropelaw15_works [] r283.2) fun r341 =>
 ob ((some r341.1).bind Value.bool?) fun b342 =>
 bb b342
 (bb b1
 (bb (x5 == 0)
 (ob (acall P T k lo F.zoetropelaw15_flat [.int .i64 4096, .int .u8 5] r341.2) fun r343 =>
 ob ((some r343.1).bind Value.slc?) fun s344 =>
 ob (acall P T k lo F.zoetroperef00_EqBytes [.slice A2 n3 c4, .slice s344.a s344.n s344.c] r343.2) fun r345 =>
 ob ((some r345.1).bind Value.bool?) fun b346 =>
 bb b346
 (some (.ret (.bool false) r345.2))
 (some (.ret (.bool false) r345.2)))
 (some (.ret (.bool false) r341.2)))
 (some (.ret (.bool false) r341.2)))
 (some (.ret (.bool false) r341.2)))) := by kernel_rfl
theorem zoetropelaw15_MotionWhole.entry (k lo : Nat) (x1 : Int) (x2 : Int) (A3 : Option Addr) (n4 : Nat) (c5 : Nat) (x6 : Int) (x7 : Int) (A8 : Option Addr) (n9 : Nat) (c10 : Nat) (x11 : Int) (x12 : Int) (A13 : Option Addr) (n14 : Nat) (c15 : Nat) (x16 : Int) (x17 : Int) (x18 : Int) (x19 : Int) (x20 : Int) (x21 : Int) (x22 : Int) (x23 : Int) (M : Mem) : entry P T k lo F.zoetropelaw15_MotionWhole [.agg ⟨[.int .i64 x1, .int .i64 x2, .slice A3 n4 c5, .int .i64 x6, .int .i64 x7, .slice A8 n9 c10, .int .i64 x11, .int .i64 x12, .slice A13 n14 c15]⟩, .agg ⟨[.int .i64 x16, .int .i64 x17, .int .i64 x18, .int .i64 x19, .int .i64 x20, .int .i64 x21, .int .i64 x22, .int .i64 x23]⟩] M =
 ob (acall P T k lo F.zoetropelaw15_works [] M) fun r29 =>
 ob ((some r29.1).bind Value.bool?) fun b30 =>
 bb (!b30)
 (some (.ret (.bool false) r29.2))
 (ob (acall P T k lo F.plane_Whole [.agg ⟨[.int .i64 x1, .int .i64 x2, .slice A3 n4 c5, .int .i64 x6, .int .i64 x7, .slice A8 n9 c10, .int .i64 x11, .int .i64 x12, .slice A13 n14 c15]⟩] r29.2) fun r31 =>
 ob ((some r31.1).bind (Value.int? .i64)) fun x32 =>
 bb (x32 != 0)
 (ob (acall P T k lo F.motion_Single [.agg ⟨[.int .i64 x1, .int .i64 x2, .slice A3 n4 c5, .int .i64 x6, .int .i64 x7, .slice A8 n9 c10, .int .i64 x11, .int .i64 x12, .slice A13 n14 c15]⟩, .int .i64 0, .agg ⟨[.int .i64 0, .int .i64 0, .int .i64 4, .int .i64 4]⟩, .agg ⟨[.int .i64 0, .int .i64 0]⟩, .int .i64 0] r31.2) fun r33 =>
 ob (r33.1.tup? 2) fun l34 =>
 ob ((l34[0]?).bind Value.slc?) fun s35 =>
 ob ((l34[1]?).bind (Value.int? .i64)) fun x36 =>
 some (.ret (.bool (x36 == 2)) r33.2))
 (ob (acall P T k lo F.zoetropelaw15_may [.agg ⟨[.int .i64 x16, .int .i64 x17, .int .i64 x18, .int .i64 x19, .int .i64 x20, .int .i64 x21, .int .i64 x22, .int .i64 x23]⟩] r31.2) fun r37 =>
 ob ((some r37.1).bind (Value.agg? 8)) fun l38 =>
 ob ((l38[0]?).bind (Value.int? .i64)) fun x39 =>
 ob ((l38[1]?).bind (Value.int? .i64)) fun x40 =>
 ob ((l38[2]?).bind (Value.int? .i64)) fun x41 =>
 ob ((l38[3]?).bind (Value.int? .i64)) fun x42 =>
 ob ((l38[4]?).bind (Value.int? .i64)) fun x43 =>
 ob ((l38[5]?).bind (Value.int? .i64)) fun x44 =>
 ob ((l38[6]?).bind (Value.int? .i64)) fun x45 =>
 ob ((l38[7]?).bind (Value.int? .i64)) fun x46 =>
 bb (x39 == 0)
 (some (zoetropelaw15_MotionWhole.c127 8 x1 x2 A3 n4 c5 x6 x7 A8 n9 c10 x11 x12 A13 n14 c15 x39 x40 x41 x42 x43 x44 x45 x46 r37.2))
 (some (zoetropelaw15_MotionWhole.c127 16 x1 x2 A3 n4 c5 x6 x7 A8 n9 c10 x11 x12 A13 n14 c15 x39 x40 x41 x42 x43 x44 x45 x46 r37.2)))) := by kernel_rfl
theorem zoetropelaw15_MotionWhole.p127 (k lo : Nat) (x1 : Int) (x2 : Int) (x3 : Int) (A4 : Option Addr) (n5 : Nat) (c6 : Nat) (x7 : Int) (x8 : Int) (A9 : Option Addr) (n10 : Nat) (c11 : Nat) (x12 : Int) (x13 : Int) (A14 : Option Addr) (n15 : Nat) (c16 : Nat) (x17 : Int) (x18 : Int) (x19 : Int) (x20 : Int) (x21 : Int) (x22 : Int) (x23 : Int) (x24 : Int) (M : Mem) : piece P T k lo F.zoetropelaw15_MotionWhole 127 [.l 2 0, .l 3 0, .v (.int .i64 x1)] [[.int .i64 x2, .int .i64 x3, .slice A4 n5 c6, .int .i64 x7, .int .i64 x8, .slice A9 n10 c11, .int .i64 x12, .int .i64 x13, .slice A14 n15 c16], [.int .i64 x17, .int .i64 x18, .int .i64 x19, .int .i64 x20, .int .i64 x21, .int .i64 x22, .int .i64 x23, .int .i64 x24]] M =
 pb (x1 = 0) none
 (pb (x1 = 0) none
 (ob (acall P T k lo F.motion_Single [.agg ⟨[.int .i64 x2, .int .i64 x3, .slice A4 n5 c6, .int .i64 x7, .int .i64 x8, .slice A9 n10 c11, .int .i64 x12, .int .i64 x13, .slice A14 n15 c16]⟩, .int .i64 x17, .agg ⟨[.int .i64 x18, .int .i64 x19, .int .i64 x20, .int .i64 x21]⟩, .agg ⟨[.int .i64 (IntKind.i64.wrap ((IntKind.i64.wrap (Int.tdiv x22 x1)) * x1)), .int .i64 (IntKind.i64.wrap ((IntKind.i64.wrap (Int.tdiv x23 x1)) * x1))]⟩, .int .i64 x24] M) fun r47 =>
 ob (r47.1.tup? 2) fun l48 =>
 ob ((l48[0]?).bind Value.slc?) fun s49 =>
 ob ((l48[1]?).bind (Value.int? .i64)) fun x50 =>
 bb (x50 != 0)
 (some (.ret (.bool false) r47.2))
 (bb ((s49.n : Int) != IntKind.i64.wrap (x20 * x21))
 (some (.ret (.bool false) r47.2))
 (some (zoetropelaw15_MotionWhole.c16372 (IntKind.i64.wrap (Int.tdiv x22 x1)) (IntKind.i64.wrap (Int.tdiv x23 x1)) s49.a s49.n s49.c 0 x2 x3 A4 n5 c6 x7 x8 A9 n10 c11 x12 x13 A14 n15 c16 x17 x18 x19 x20 x21 x22 x23 x24 r47.2))))) := by kernel_rfl
theorem zoetropelaw15_MotionWhole.p16372 (k lo : Nat) (x1 : Int) (x2 : Int) (A3 : Option Addr) (n4 : Nat) (c5 : Nat) (x6 : Int) (x7 : Int) (x8 : Int) (A9 : Option Addr) (n10 : Nat) (c11 : Nat) (x12 : Int) (x13 : Int) (A14 : Option Addr) (n15 : Nat) (c16 : Nat) (x17 : Int) (x18 : Int) (A19 : Option Addr) (n20 : Nat) (c21 : Nat) (x22 : Int) (x23 : Int) (x24 : Int) (x25 : Int) (x26 : Int) (x27 : Int) (x28 : Int) (x29 : Int) (M : Mem) : piece P T k lo F.zoetropelaw15_MotionWhole 16372 [.l 2 0, .l 3 0, .v (.int .i64 x1), .v (.int .i64 x2), .v (.slice A3 n4 c5), .v (.int .i64 x6)] [[.int .i64 x7, .int .i64 x8, .slice A9 n10 c11, .int .i64 x12, .int .i64 x13, .slice A14 n15 c16, .int .i64 x17, .int .i64 x18, .slice A19 n20 c21], [.int .i64 x22, .int .i64 x23, .int .i64 x24, .int .i64 x25, .int .i64 x26, .int .i64 x27, .int .i64 x28, .int .i64 x29]] M =
 bb (decide (x6 < (n4 : Int)))
 (pb (0 ≤ x6 ∧ x6 < (n4 : Int))
 (ob A3 fun a51 =>
 ob ((if ((plus a51 x6.toNat).block) < M.length then M.ld (plus a51 x6.toNat) else none).bind (Value.int? .u8)) fun x52 =>
 pb (0 ≤ x22 ∧ x22 < (3 : Int))
 (ob ((([.int .i64 x7, .int .i64 x8, .slice A9 n10 c11, .int .i64 x12, .int .i64 x13, .slice A14 n15 c16, .int .i64 x17, .int .i64 x18, .slice A19 n20 c21] : List Value)[0 + (x22.toNat * 3) + 0]?).bind (Value.int? .i64)) fun x53 =>
 ob ((([.int .i64 x7, .int .i64 x8, .slice A9 n10 c11, .int .i64 x12, .int .i64 x13, .slice A14 n15 c16, .int .i64 x17, .int .i64 x18, .slice A19 n20 c21] : List Value)[0 + (x22.toNat * 3) + 1]?).bind (Value.int? .i64)) fun x54 =>
 ob ((([.int .i64 x7, .int .i64 x8, .slice A9 n10 c11, .int .i64 x12, .int .i64 x13, .slice A14 n15 c16, .int .i64 x17, .int .i64 x18, .slice A19 n20 c21] : List Value)[0 + (x22.toNat * 3) + 2]?).bind Value.slc?) fun s55 =>
 pb (x25 = 0) none
 (pb (x25 = 0) none
 (ob (acall P T k M.length F.plane_At [.agg ⟨[.int .i64 x53, .int .i64 x54, .slice s55.a s55.n s55.c]⟩, .int .i64 (IntKind.i64.wrap ((IntKind.i64.wrap (x23 + (Int.tmod x6 x25))) + x1)), .int .i64 (IntKind.i64.wrap ((IntKind.i64.wrap (x24 + (IntKind.i64.wrap (Int.tdiv x6 x25)))) + x2))] M) fun r56 =>
 ob ((some r56.1).bind (Value.int? .u8)) fun x57 =>
 bb (x52 != x57)
 (some (.ret (.bool false) r56.2))
 (some (zoetropelaw15_MotionWhole.c16372 x1 x2 A3 n4 c5 (IntKind.i64.wrap (x6 + 1)) x7 x8 A9 n10 c11 x12 x13 A14 n15 c16 x17 x18 A19 n20 c21 x22 x23 x24 x25 x26 x27 x28 x29 r56.2))))) none) none)
 (some (.ret (.bool true) M)) := by kernel_rfl
theorem zoetroperef05_CopyFrame.entry (k lo : Nat) (x1 : Int) (x2 : Int) (A3 : Option Addr) (n4 : Nat) (c5 : Nat) (x6 : Int) (x7 : Int) (A8 : Option Addr) (n9 : Nat) (c10 : Nat) (x11 : Int) (x12 : Int) (A13 : Option Addr) (n14 : Nat) (c15 : Nat) (M : Mem) : entry P T k lo F.zoetroperef05_CopyFrame [.agg ⟨[.int .i64 x1, .int .i64 x2, .slice A3 n4 c5, .int .i64 x6, .int .i64 x7, .slice A8 n9 c10, .int .i64 x11, .int .i64 x12, .slice A13 n14 c15]⟩] M =
 some (zoetroperef05_CopyFrame.c116 0 x1 x2 A3 n4 c5 x6 x7 A8 n9 c10 x11 x12 A13 n14 c15 0 0 none 0 0 0 0 none 0 0 0 0 none 0 0 ([.int .i64 0, .int .i64 0, .slice none 0 0, .int .i64 0, .int .i64 0, .slice none 0 0, .int .i64 0, .int .i64 0, .slice none 0 0]) M) := by kernel_rfl
theorem zoetroperef05_CopyFrame.p116 (k lo : Nat) (x1 : Int) (x2 : Int) (x3 : Int) (A4 : Option Addr) (n5 : Nat) (c6 : Nat) (x7 : Int) (x8 : Int) (A9 : Option Addr) (n10 : Nat) (c11 : Nat) (x12 : Int) (x13 : Int) (A14 : Option Addr) (n15 : Nat) (c16 : Nat) (x17 : Int) (x18 : Int) (A19 : Option Addr) (n20 : Nat) (c21 : Nat) (x22 : Int) (x23 : Int) (A24 : Option Addr) (n25 : Nat) (c26 : Nat) (x27 : Int) (x28 : Int) (A29 : Option Addr) (n30 : Nat) (c31 : Nat) (cs32 : List Value) (M : Mem) : piece P T k lo F.zoetroperef05_CopyFrame 116 [.l 1 0, .l 2 0, .l 3 0, .v (.int .i64 x1)] [[.int .i64 x2, .int .i64 x3, .slice A4 n5 c6, .int .i64 x7, .int .i64 x8, .slice A9 n10 c11, .int .i64 x12, .int .i64 x13, .slice A14 n15 c16], [.int .i64 x17, .int .i64 x18, .slice A19 n20 c21, .int .i64 x22, .int .i64 x23, .slice A24 n25 c26, .int .i64 x27, .int .i64 x28, .slice A29 n30 c31], cs32] M =
 bb (decide (x1 < 3))
 (pb (0 ≤ x1 ∧ x1 < (3 : Int))
 (ob ((([.int .i64 x2, .int .i64 x3, .slice A4 n5 c6, .int .i64 x7, .int .i64 x8, .slice A9 n10 c11, .int .i64 x12, .int .i64 x13, .slice A14 n15 c16] : List Value)[0 + (x1.toNat * 3) + 0]?).bind (Value.int? .i64)) fun x33 =>
 ob ((([.int .i64 x2, .int .i64 x3, .slice A4 n5 c6, .int .i64 x7, .int .i64 x8, .slice A9 n10 c11, .int .i64 x12, .int .i64 x13, .slice A14 n15 c16] : List Value)[0 + (x1.toNat * 3) + 1]?).bind (Value.int? .i64)) fun x34 =>
 ob ((([.int .i64 x2, .int .i64 x3, .slice A4 n5 c6, .int .i64 x7, .int .i64 x8, .slice A9 n10 c11, .int .i64 x12, .int .i64 x13, .slice A14 n15 c16] : List Value)[0 + (x1.toNat * 3) + 2]?).bind Value.slc?) fun s35 =>
 ob (acall P T k lo F.zoetroperef05_CopyPlane [.agg ⟨[.int .i64 x33, .int .i64 x34, .slice s35.a s35.n s35.c]⟩] M) fun r36 =>
 ob ((some r36.1).bind (Value.agg? 3)) fun l37 =>
 ob ((l37[0]?).bind (Value.int? .i64)) fun x38 =>
 ob ((l37[1]?).bind (Value.int? .i64)) fun x39 =>
 ob ((l37[2]?).bind Value.slc?) fun s40 =>
 pb (0 ≤ x1 ∧ x1 < (3 : Int))
 (pb (0 + (x1.toNat * 3) + 3 ≤ cs32.length)
 (some (zoetroperef05_CopyFrame.c116 (IntKind.i64.wrap (x1 + 1)) x2 x3 A4 n5 c6 x7 x8 A9 n10 c11 x12 x13 A14 n15 c16 x17 x18 A19 n20 c21 x22 x23 A24 n25 c26 x27 x28 A29 n30 c31 (setL cs32 (0 + (x1.toNat * 3)) [.int .i64 x38, .int .i64 x39, .slice s40.a s40.n s40.c]) r36.2)) none) none) none)
 (ob ((cs32[0]?).bind (Value.int? .i64)) fun x41 =>
 ob ((cs32[1]?).bind (Value.int? .i64)) fun x42 =>
 ob ((cs32[2]?).bind Value.slc?) fun s43 =>
 ob ((cs32[3]?).bind (Value.int? .i64)) fun x44 =>
 ob ((cs32[4]?).bind (Value.int? .i64)) fun x45 =>
 ob ((cs32[5]?).bind Value.slc?) fun s46 =>
 ob ((cs32[6]?).bind (Value.int? .i64)) fun x47 =>
 ob ((cs32[7]?).bind (Value.int? .i64)) fun x48 =>
 ob ((cs32[8]?).bind Value.slc?) fun s49 =>
 some (.ret (.agg ⟨[.int .i64 x41, .int .i64 x42, .slice s43.a s43.n s43.c, .int .i64 x44, .int .i64 x45, .slice s46.a s46.n s46.c, .int .i64 x47, .int .i64 x48, .slice s49.a s49.n s49.c]⟩) M)) := by kernel_rfl
theorem motion_Single.entry (k lo : Nat) (x1 : Int) (x2 : Int) (A3 : Option Addr) (n4 : Nat) (c5 : Nat) (x6 : Int) (x7 : Int) (A8 : Option Addr) (n9 : Nat) (c10 : Nat) (x11 : Int) (x12 : Int) (A13 : Option Addr) (n14 : Nat) (c15 : Nat) (x16 : Int) (x17 : Int) (x18 : Int) (x19 : Int) (x20 : Int) (x21 : Int) (x22 : Int) (x23 : Int) (M : Mem) : entry P T k lo F.motion_Single [.agg ⟨[.int .i64 x1, .int .i64 x2, .slice A3 n4 c5, .int .i64 x6, .int .i64 x7, .slice A8 n9 c10, .int .i64 x11, .int .i64 x12, .slice A13 n14 c15]⟩, .int .i64 x16, .agg ⟨[.int .i64 x17, .int .i64 x18, .int .i64 x19, .int .i64 x20]⟩, .agg ⟨[.int .i64 x21, .int .i64 x22]⟩, .int .i64 x23] M =
 ob (acall P T k lo F.plane_Whole [.agg ⟨[.int .i64 x1, .int .i64 x2, .slice A3 n4 c5, .int .i64 x6, .int .i64 x7, .slice A8 n9 c10, .int .i64 x11, .int .i64 x12, .slice A13 n14 c15]⟩] M) fun r29 =>
 ob ((some r29.1).bind (Value.int? .i64)) fun x30 =>
 bb (x30 != 0)
 (some (motion_Single.c25 x16 x23 (x30 != 0) x1 x2 A3 n4 c5 x6 x7 A8 n9 c10 x11 x12 A13 n14 c15 x17 x18 x19 x20 x21 x22 r29.2))
 (ob (acall P T k lo F.motion_within [.int .i64 x16, .int .i64 0, .int .i64 2] r29.2) fun r31 =>
 ob ((some r31.1).bind Value.bool?) fun b32 =>
 some (motion_Single.c25 x16 x23 (!b32) x1 x2 A3 n4 c5 x6 x7 A8 n9 c10 x11 x12 A13 n14 c15 x17 x18 x19 x20 x21 x22 r31.2)) := by kernel_rfl
theorem motion_Single.p15 (k lo : Nat) (x1 : Int) (x2 : Int) (x3 : Int) (x4 : Int) (A5 : Option Addr) (n6 : Nat) (c7 : Nat) (x8 : Int) (x9 : Int) (A10 : Option Addr) (n11 : Nat) (c12 : Nat) (x13 : Int) (x14 : Int) (A15 : Option Addr) (n16 : Nat) (c17 : Nat) (x18 : Int) (x19 : Int) (x20 : Int) (x21 : Int) (x22 : Int) (x23 : Int) (M : Mem) : piece P T k lo F.motion_Single 15 [.v (.int .i64 x1), .v (.int .i64 x2), .l 5 0, .l 7 0, .l 8 0] [[.int .i64 x3, .int .i64 x4, .slice A5 n6 c7, .int .i64 x8, .int .i64 x9, .slice A10 n11 c12, .int .i64 x13, .int .i64 x14, .slice A15 n16 c17], [.int .i64 x18, .int .i64 x19, .int .i64 x20, .int .i64 x21], [.int .i64 x22, .int .i64 x23]] M =
 pb (0 ≤ x1 ∧ x1 < (3 : Int))
 (ob ((([.int .i64 x3, .int .i64 x4, .slice A5 n6 c7, .int .i64 x8, .int .i64 x9, .slice A10 n11 c12, .int .i64 x13, .int .i64 x14, .slice A15 n16 c17] : List Value)[0 + (x1.toNat * 3) + 0]?).bind (Value.int? .i64)) fun x45 =>
 ob ((([.int .i64 x3, .int .i64 x4, .slice A5 n6 c7, .int .i64 x8, .int .i64 x9, .slice A10 n11 c12, .int .i64 x13, .int .i64 x14, .slice A15 n16 c17] : List Value)[0 + (x1.toNat * 3) + 1]?).bind (Value.int? .i64)) fun x46 =>
 ob ((([.int .i64 x3, .int .i64 x4, .slice A5 n6 c7, .int .i64 x8, .int .i64 x9, .slice A10 n11 c12, .int .i64 x13, .int .i64 x14, .slice A15 n16 c17] : List Value)[0 + (x1.toNat * 3) + 2]?).bind Value.slc?) fun s47 =>
 ob (acall P T k lo F.subpel_Fetch [.agg ⟨[.int .i64 x45, .int .i64 x46, .slice s47.a s47.n s47.c]⟩, .int .i64 (IntKind.i64.wrap ((IntKind.i64.wrap (16 * x18)) + x22)), .int .i64 (IntKind.i64.wrap ((IntKind.i64.wrap (16 * x19)) + x23)), .int .i64 x20, .int .i64 x21, .int .i64 x2] M) fun r48 =>
 ob (r48.1.tup? 2) fun l49 =>
 ob ((l49[0]?).bind Value.slc?) fun s50 =>
 ob ((l49[1]?).bind (Value.int? .i64)) fun x51 =>
 some (.ret (.tuple ⟨[.slice s50.a s50.n s50.c, .int .i64 x51]⟩) r48.2)) none := by kernel_rfl
theorem motion_Single.p25 (k lo : Nat) (x1 : Int) (x2 : Int) (b3 : Bool) (x4 : Int) (x5 : Int) (A6 : Option Addr) (n7 : Nat) (c8 : Nat) (x9 : Int) (x10 : Int) (A11 : Option Addr) (n12 : Nat) (c13 : Nat) (x14 : Int) (x15 : Int) (A16 : Option Addr) (n17 : Nat) (c18 : Nat) (x19 : Int) (x20 : Int) (x21 : Int) (x22 : Int) (x23 : Int) (x24 : Int) (M : Mem) : piece P T k lo F.motion_Single 25 [.v (.int .i64 x1), .v (.int .i64 x2), .l 5 0, .l 7 0, .l 8 0, .v (.bool b3)] [[.int .i64 x4, .int .i64 x5, .slice A6 n7 c8, .int .i64 x9, .int .i64 x10, .slice A11 n12 c13, .int .i64 x14, .int .i64 x15, .slice A16 n17 c18], [.int .i64 x19, .int .i64 x20, .int .i64 x21, .int .i64 x22], [.int .i64 x23, .int .i64 x24]] M =
 bb b3
 (some (.ret (.tuple ⟨[.slice none 0 0, .int .i64 2]⟩) M))
 (ob (acall P T k lo F.motion_within [.int .i64 x19, .int .i64 0, .int .i64 1024] M) fun r33 =>
 ob ((some r33.1).bind Value.bool?) fun b34 =>
 bb (!b34)
 (some (motion_Single.c103 x1 x2 (!b34) x4 x5 A6 n7 c8 x9 x10 A11 n12 c13 x14 x15 A16 n17 c18 x19 x20 x21 x22 x23 x24 r33.2))
 (ob (acall P T k lo F.motion_within [.int .i64 x20, .int .i64 0, .int .i64 1024] r33.2) fun r35 =>
 ob ((some r35.1).bind Value.bool?) fun b36 =>
 bb (!b36)
 (some (motion_Single.c103 x1 x2 (!b36) x4 x5 A6 n7 c8 x9 x10 A11 n12 c13 x14 x15 A16 n17 c18 x19 x20 x21 x22 x23 x24 r35.2))
 (ob (acall P T k lo F.motion_within [.int .i64 x21, .int .i64 4, .int .i64 64] r35.2) fun r37 =>
 ob ((some r37.1).bind Value.bool?) fun b38 =>
 bb (!b38)
 (some (motion_Single.c103 x1 x2 (!b38) x4 x5 A6 n7 c8 x9 x10 A11 n12 c13 x14 x15 A16 n17 c18 x19 x20 x21 x22 x23 x24 r37.2))
 (ob (acall P T k lo F.motion_within [.int .i64 x22, .int .i64 4, .int .i64 64] r37.2) fun r39 =>
 ob ((some r39.1).bind Value.bool?) fun b40 =>
 some (motion_Single.c103 x1 x2 (!b40) x4 x5 A6 n7 c8 x9 x10 A11 n12 c13 x14 x15 A16 n17 c18 x19 x20 x21 x22 x23 x24 r39.2))))) := by kernel_rfl
theorem motion_Single.p103 (k lo : Nat) (x1 : Int) (x2 : Int) (b3 : Bool) (x4 : Int) (x5 : Int) (A6 : Option Addr) (n7 : Nat) (c8 : Nat) (x9 : Int) (x10 : Int) (A11 : Option Addr) (n12 : Nat) (c13 : Nat) (x14 : Int) (x15 : Int) (A16 : Option Addr) (n17 : Nat) (c18 : Nat) (x19 : Int) (x20 : Int) (x21 : Int) (x22 : Int) (x23 : Int) (x24 : Int) (M : Mem) : piece P T k lo F.motion_Single 103 [.v (.int .i64 x1), .v (.int .i64 x2), .l 5 0, .l 7 0, .l 8 0, .v (.bool b3)] [[.int .i64 x4, .int .i64 x5, .slice A6 n7 c8, .int .i64 x9, .int .i64 x10, .slice A11 n12 c13, .int .i64 x14, .int .i64 x15, .slice A16 n17 c18], [.int .i64 x19, .int .i64 x20, .int .i64 x21, .int .i64 x22], [.int .i64 x23, .int .i64 x24]] M =
 bb b3
 (some (.ret (.tuple ⟨[.slice none 0 0, .int .i64 2]⟩) M))
 (ob (acall P T k lo F.motion_within [.int .i64 x23, .int .i64 (-4095), .int .i64 4095] M) fun r41 =>
 ob ((some r41.1).bind Value.bool?) fun b42 =>
 bb (!b42)
 (some (motion_Single.c415 x1 x2 (!b42) x4 x5 A6 n7 c8 x9 x10 A11 n12 c13 x14 x15 A16 n17 c18 x19 x20 x21 x22 x23 x24 r41.2))
 (ob (acall P T k lo F.motion_within [.int .i64 x24, .int .i64 (-4095), .int .i64 4095] r41.2) fun r43 =>
 ob ((some r43.1).bind Value.bool?) fun b44 =>
 some (motion_Single.c415 x1 x2 (!b44) x4 x5 A6 n7 c8 x9 x10 A11 n12 c13 x14 x15 A16 n17 c18 x19 x20 x21 x22 x23 x24 r43.2))) := by kernel_rfl
theorem motion_Single.p415 (k lo : Nat) (x1 : Int) (x2 : Int) (b3 : Bool) (x4 : Int) (x5 : Int) (A6 : Option Addr) (n7 : Nat) (c8 : Nat) (x9 : Int) (x10 : Int) (A11 : Option Addr) (n12 : Nat) (c13 : Nat) (x14 : Int) (x15 : Int) (A16 : Option Addr) (n17 : Nat) (c18 : Nat) (x19 : Int) (x20 : Int) (x21 : Int) (x22 : Int) (x23 : Int) (x24 : Int) (M : Mem) : piece P T k lo F.motion_Single 415 [.v (.int .i64 x1), .v (.int .i64 x2), .l 5 0, .l 7 0, .l 8 0, .v (.bool b3)] [[.int .i64 x4, .int .i64 x5, .slice A6 n7 c8, .int .i64 x9, .int .i64 x10, .slice A11 n12 c13, .int .i64 x14, .int .i64 x15, .slice A16 n17 c18], [.int .i64 x19, .int .i64 x20, .int .i64 x21, .int .i64 x22], [.int .i64 x23, .int .i64 x24]] M =
 bb b3
 (some (.ret (.tuple ⟨[.slice none 0 0, .int .i64 2]⟩) M))
 (bb (x1 == 0)
 (some (motion_Single.c15 x1 x2 x4 x5 A6 n7 c8 x9 x10 A11 n12 c13 x14 x15 A16 n17 c18 x19 x20 x21 x22 (IntKind.i64.wrap (2 * x23)) (IntKind.i64.wrap (2 * x24)) M))
 (some (motion_Single.c15 x1 x2 x4 x5 A6 n7 c8 x9 x10 A11 n12 c13 x14 x15 A16 n17 c18 x19 x20 x21 x22 x23 x24 M))) := by kernel_rfl
theorem zoetroperef15_Single.entry (k lo : Nat) (x1 : Int) (x2 : Int) (A3 : Option Addr) (n4 : Nat) (c5 : Nat) (x6 : Int) (x7 : Int) (A8 : Option Addr) (n9 : Nat) (c10 : Nat) (x11 : Int) (x12 : Int) (A13 : Option Addr) (n14 : Nat) (c15 : Nat) (x16 : Int) (x17 : Int) (x18 : Int) (x19 : Int) (x20 : Int) (x21 : Int) (x22 : Int) (x23 : Int) (M : Mem) : entry P T k lo F.zoetroperef15_Single [.agg ⟨[.int .i64 x1, .int .i64 x2, .slice A3 n4 c5, .int .i64 x6, .int .i64 x7, .slice A8 n9 c10, .int .i64 x11, .int .i64 x12, .slice A13 n14 c15]⟩, .int .i64 x16, .agg ⟨[.int .i64 x17, .int .i64 x18, .int .i64 x19, .int .i64 x20]⟩, .agg ⟨[.int .i64 x21, .int .i64 x22]⟩, .int .i64 x23] M =
 ob (acall P T k lo F.zoetroperef05_Whole [.agg ⟨[.int .i64 x1, .int .i64 x2, .slice A3 n4 c5, .int .i64 x6, .int .i64 x7, .slice A8 n9 c10, .int .i64 x11, .int .i64 x12, .slice A13 n14 c15]⟩] M) fun r29 =>
 ob ((some r29.1).bind (Value.int? .i64)) fun x30 =>
 bb (x30 != 0)
 (some (.ret (.tuple ⟨[.slice none 0 0, .int .i64 2]⟩) r29.2))
 (bb (decide (x16 < 0))
 (some (.ret (.tuple ⟨[.slice none 0 0, .int .i64 2]⟩) r29.2))
 (bb (decide (x16 > 2))
 (some (.ret (.tuple ⟨[.slice none 0 0, .int .i64 2]⟩) r29.2))
 (bb (decide (x17 < 0))
 (some (.ret (.tuple ⟨[.slice none 0 0, .int .i64 2]⟩) r29.2))
 (bb (decide (x17 > 1024))
 (some (.ret (.tuple ⟨[.slice none 0 0, .int .i64 2]⟩) r29.2))
 (bb (decide (x18 < 0))
 (some (.ret (.tuple ⟨[.slice none 0 0, .int .i64 2]⟩) r29.2))
 (bb (decide (x18 > 1024))
 (some (.ret (.tuple ⟨[.slice none 0 0, .int .i64 2]⟩) r29.2))
 (bb (decide (x19 < 4))
 (some (.ret (.tuple ⟨[.slice none 0 0, .int .i64 2]⟩) r29.2))
 (bb (decide (x19 > 64))
 (some (.ret (.tuple ⟨[.slice none 0 0, .int .i64 2]⟩) r29.2))
 (bb (decide (x20 < 4))
 (some (.ret (.tuple ⟨[.slice none 0 0, .int .i64 2]⟩) r29.2))
 (bb (decide (x20 > 64))
 (some (.ret (.tuple ⟨[.slice none 0 0, .int .i64 2]⟩) r29.2))
 (ob (acall P T k lo F.zoetroperef15_part [.int .i64 x21] r29.2) fun r31 =>
 ob ((some r31.1).bind Value.bool?) fun b32 =>
 bb (!b32)
 (some (.ret (.tuple ⟨[.slice none 0 0, .int .i64 2]⟩) r31.2))
 (ob (acall P T k lo F.zoetroperef15_part [.int .i64 x22] r31.2) fun r33 =>
 ob ((some r33.1).bind Value.bool?) fun b34 =>
 bb (!b34)
 (some (.ret (.tuple ⟨[.slice none 0 0, .int .i64 2]⟩) r33.2))
 (bb (x16 == 0)
 (some (zoetroperef15_Single.c31 x16 x23 2 x1 x2 A3 n4 c5 x6 x7 A8 n9 c10 x11 x12 A13 n14 c15 x17 x18 x19 x20 x21 x22 r33.2))
 (some (zoetroperef15_Single.c31 x16 x23 1 x1 x2 A3 n4 c5 x6 x7 A8 n9 c10 x11 x12 A13 n14 c15 x17 x18 x19 x20 x21 x22 r33.2))))))))))))))) := by kernel_rfl
theorem zoetroperef15_Single.p31 (k lo : Nat) (x1 : Int) (x2 : Int) (x3 : Int) (x4 : Int) (x5 : Int) (A6 : Option Addr) (n7 : Nat) (c8 : Nat) (x9 : Int) (x10 : Int) (A11 : Option Addr) (n12 : Nat) (c13 : Nat) (x14 : Int) (x15 : Int) (A16 : Option Addr) (n17 : Nat) (c18 : Nat) (x19 : Int) (x20 : Int) (x21 : Int) (x22 : Int) (x23 : Int) (x24 : Int) (M : Mem) : piece P T k lo F.zoetroperef15_Single 31 [.v (.int .i64 x1), .v (.int .i64 x2), .l 5 0, .l 7 0, .l 8 0, .v (.int .i64 x3)] [[.int .i64 x4, .int .i64 x5, .slice A6 n7 c8, .int .i64 x9, .int .i64 x10, .slice A11 n12 c13, .int .i64 x14, .int .i64 x15, .slice A16 n17 c18], [.int .i64 x19, .int .i64 x20, .int .i64 x21, .int .i64 x22], [.int .i64 x23, .int .i64 x24]] M =
 pb (0 ≤ x1 ∧ x1 < (3 : Int))
 (ob ((([.int .i64 x4, .int .i64 x5, .slice A6 n7 c8, .int .i64 x9, .int .i64 x10, .slice A11 n12 c13, .int .i64 x14, .int .i64 x15, .slice A16 n17 c18] : List Value)[0 + (x1.toNat * 3) + 0]?).bind (Value.int? .i64)) fun x35 =>
 ob ((([.int .i64 x4, .int .i64 x5, .slice A6 n7 c8, .int .i64 x9, .int .i64 x10, .slice A11 n12 c13, .int .i64 x14, .int .i64 x15, .slice A16 n17 c18] : List Value)[0 + (x1.toNat * 3) + 1]?).bind (Value.int? .i64)) fun x36 =>
 ob ((([.int .i64 x4, .int .i64 x5, .slice A6 n7 c8, .int .i64 x9, .int .i64 x10, .slice A11 n12 c13, .int .i64 x14, .int .i64 x15, .slice A16 n17 c18] : List Value)[0 + (x1.toNat * 3) + 2]?).bind Value.slc?) fun s37 =>
 ob (acall P T k lo F.zoetroperef14_Fetch [.agg ⟨[.int .i64 x35, .int .i64 x36, .slice s37.a s37.n s37.c]⟩, .int .i64 (IntKind.i64.wrap ((IntKind.i64.wrap (16 * x19)) + (IntKind.i64.wrap (x3 * x23)))), .int .i64 (IntKind.i64.wrap ((IntKind.i64.wrap (16 * x20)) + (IntKind.i64.wrap (x3 * x24)))), .int .i64 x21, .int .i64 x22, .int .i64 x2] M) fun r38 =>
 ob (r38.1.tup? 2) fun l39 =>
 ob ((l39[0]?).bind Value.slc?) fun s40 =>
 ob ((l39[1]?).bind (Value.int? .i64)) fun x41 =>
 some (.ret (.tuple ⟨[.slice s40.a s40.n s40.c, .int .i64 x41]⟩) r38.2)) none := by kernel_rfl
theorem zoetropelaw15_told.entry (k lo : Nat) (A1 : Option Addr) (n2 : Nat) (c3 : Nat) (x4 : Int) (A5 : Option Addr) (n6 : Nat) (c7 : Nat) (x8 : Int) (M : Mem) : entry P T k lo F.zoetropelaw15_told [.slice A1 n2 c3, .int .i64 x4, .slice A5 n6 c7, .int .i64 x8] M =
 bb (x4 == x8)
 (ob (acall P T k lo F.zoetroperef00_EqBytes [.slice A1 n2 c3, .slice A5 n6 c7] M) fun r14 =>
 ob ((some r14.1).bind Value.bool?) fun b15 =>
 some (zoetropelaw15_told.c116 A1 n2 c3 b15 0 r14.2))
 (some (zoetropelaw15_told.c116 A1 n2 c3 false 0 M)) := by kernel_rfl
theorem zoetropelaw15_told.p116 (k lo : Nat) (A1 : Option Addr) (n2 : Nat) (c3 : Nat) (b4 : Bool) (x5 : Int) (M : Mem) : piece P T k lo F.zoetropelaw15_told 116 [.v (.slice A1 n2 c3), .v (.bool b4), .v (.int .i64 x5)] [] M =
 bb (decide (x5 < (n2 : Int)))
 (pb (0 ≤ x5 ∧ x5 < (n2 : Int))
 (ob A1 fun a16 =>
 ob ((M.ld (plus a16 x5.toNat)).bind (Value.int? .u8)) fun x17 =>
 pb (0 ≤ x5 ∧ x5 < (n2 : Int))
 (ob A1 fun a18 =>
 ob (M.st lo (plus a18 x5.toNat) [.int .u8 (xorI .u8 x17 255)]) fun M19 =>
 some (zoetropelaw15_told.c116 A1 n2 c3 b4 (IntKind.i64.wrap (x5 + 1)) M19)) none) none)
 (some (.ret (.bool b4) M)) := by kernel_rfl
theorem zoetroperef05_SameFrame.entry (k lo : Nat) (x1 : Int) (x2 : Int) (A3 : Option Addr) (n4 : Nat) (c5 : Nat) (x6 : Int) (x7 : Int) (A8 : Option Addr) (n9 : Nat) (c10 : Nat) (x11 : Int) (x12 : Int) (A13 : Option Addr) (n14 : Nat) (c15 : Nat) (x16 : Int) (x17 : Int) (A18 : Option Addr) (n19 : Nat) (c20 : Nat) (x21 : Int) (x22 : Int) (A23 : Option Addr) (n24 : Nat) (c25 : Nat) (x26 : Int) (x27 : Int) (A28 : Option Addr) (n29 : Nat) (c30 : Nat) (M : Mem) : entry P T k lo F.zoetroperef05_SameFrame [.agg ⟨[.int .i64 x1, .int .i64 x2, .slice A3 n4 c5, .int .i64 x6, .int .i64 x7, .slice A8 n9 c10, .int .i64 x11, .int .i64 x12, .slice A13 n14 c15]⟩, .agg ⟨[.int .i64 x16, .int .i64 x17, .slice A18 n19 c20, .int .i64 x21, .int .i64 x22, .slice A23 n24 c25, .int .i64 x26, .int .i64 x27, .slice A28 n29 c30]⟩] M =
 ob (acall P T k lo F.zoetroperef05_Same [.agg ⟨[.int .i64 x1, .int .i64 x2, .slice A3 n4 c5]⟩, .agg ⟨[.int .i64 x16, .int .i64 x17, .slice A18 n19 c20]⟩] M) fun r36 =>
 ob ((some r36.1).bind Value.bool?) fun b37 =>
 bb b37
 (ob (acall P T k lo F.zoetroperef05_Same [.agg ⟨[.int .i64 x6, .int .i64 x7, .slice A8 n9 c10]⟩, .agg ⟨[.int .i64 x21, .int .i64 x22, .slice A23 n24 c25]⟩] r36.2) fun r38 =>
 ob ((some r38.1).bind Value.bool?) fun b39 =>
 bb b39
 (ob (acall P T k lo F.zoetroperef05_Same [.agg ⟨[.int .i64 x11, .int .i64 x12, .slice A13 n14 c15]⟩, .agg ⟨[.int .i64 x26, .int .i64 x27, .slice A28 n29 c30]⟩] r38.2) fun r40 =>
 ob ((some r40.1).bind Value.bool?) fun b41 =>
 some (.ret (.bool b41) r40.2))
 (some (.ret (.bool false) r38.2)))
 (some (.ret (.bool false) r36.2)) := by kernel_rfl
theorem zoetropelaw15_works.entry (k lo : Nat) (M : Mem) : entry P T k lo F.zoetropelaw15_works [] M =
 ob (acall P T k lo F.zoetropelaw15_flat [.int .i64 8, .int .u8 100] M) fun r6 =>
 ob ((some r6.1).bind Value.slc?) fun s7 =>
 ob (acall P T k lo F.zoetropelaw15_flat [.int .i64 4, .int .u8 0] r6.2) fun r8 =>
 ob ((some r8.1).bind Value.slc?) fun s9 =>
 ob (acall P T k lo F.motion_Above [.slice s7.a s7.n s7.c, .int .i64 2, .agg ⟨[.int .i64 0, .int .i64 0, .int .i64 1, .int .i64 4]⟩, .slice s9.a s9.n s9.c] r8.2) fun r10 =>
 ob (r10.1.tup? 2) fun l11 =>
 ob ((l11[0]?).bind Value.slc?) fun s12 =>
 ob ((l11[1]?).bind (Value.int? .i64)) fun x13 =>
 ob (acall P T k lo F.zoetropelaw15_flat [.int .i64 8, .int .u8 100] r10.2) fun r14 =>
 ob ((some r14.1).bind Value.slc?) fun s15 =>
 ob (acall P T k lo F.zoetropelaw15_flat [.int .i64 4, .int .u8 200] r14.2) fun r16 =>
 ob ((some r16.1).bind Value.slc?) fun s17 =>
 ob (acall P T k lo F.motion_Left [.slice s15.a s15.n s15.c, .int .i64 4, .agg ⟨[.int .i64 0, .int .i64 1, .int .i64 4, .int .i64 1]⟩, .slice s17.a s17.n s17.c] r16.2) fun r18 =>
 ob (r18.1.tup? 2) fun l19 =>
 ob ((l19[0]?).bind Value.slc?) fun s20 =>
 ob ((l19[1]?).bind (Value.int? .i64)) fun x21 =>
 ob (acall P T k lo F.motion_Pair [.slice (some ⟨r18.2.length, 0, none⟩) 3 3, .slice (some ⟨(r18.2 ++ [⟨.fx, [.int .u8 0, .int .u8 1, .int .u8 255]⟩] : Mem).length, 0, none⟩) 3 3] ((r18.2 ++ [⟨.fx, [.int .u8 0, .int .u8 1, .int .u8 255]⟩] : Mem) ++ [⟨.fx, [.int .u8 1, .int .u8 2, .int .u8 255]⟩] : Mem)) fun r22 =>
 ob (r22.1.tup? 2) fun l23 =>
 ob ((l23[0]?).bind Value.slc?) fun s24 =>
 ob ((l23[1]?).bind (Value.int? .i64)) fun x25 =>
 ob (acall P T k lo F.plane_Frame [.int .i64 16, .int .i64 16, .int .u8 9] r22.2) fun r26 =>
 ob (r26.1.tup? 2) fun l27 =>
 ob ((l27[0]?).bind (Value.agg? 9)) fun l28 =>
 ob ((l28[0]?).bind (Value.int? .i64)) fun x29 =>
 ob ((l28[1]?).bind (Value.int? .i64)) fun x30 =>
 ob ((l28[2]?).bind Value.slc?) fun s31 =>
 ob ((l28[3]?).bind (Value.int? .i64)) fun x32 =>
 ob ((l28[4]?).bind (Value.int? .i64)) fun x33 =>
 ob ((l28[5]?).bind Value.slc?) fun s34 =>
 ob ((l28[6]?).bind (Value.int? .i64)) fun x35 =>
 ob ((l28[7]?).bind (Value.int? .i64)) fun x36 =>
 ob ((l28[8]?).bind Value.slc?) fun s37 =>
 ob ((l27[1]?).bind (Value.int? .i64)) fun x38 =>
 ob (acall P T k lo F.motion_Single [.agg ⟨[.int .i64 x29, .int .i64 x30, .slice s31.a s31.n s31.c, .int .i64 x32, .int .i64 x33, .slice s34.a s34.n s34.c, .int .i64 x35, .int .i64 x36, .slice s37.a s37.n s37.c]⟩, .int .i64 1, .agg ⟨[.int .i64 0, .int .i64 0, .int .i64 4, .int .i64 4]⟩, .agg ⟨[.int .i64 5, .int .i64 (-7)]⟩, .int .i64 0] r26.2) fun r39 =>
 ob (r39.1.tup? 2) fun l40 =>
 ob ((l40[0]?).bind Value.slc?) fun s41 =>
 ob ((l40[1]?).bind (Value.int? .i64)) fun x42 =>
 bb (x13 == 0)
 (bb (x21 == 0)
 (bb (x25 == 0)
 (bb (x38 == 0)
 (bb (x42 == 0)
 (ob (acall P T k lo F.zoetroperef00_EqBytes [.slice s12.a s12.n s12.c, .slice (some ⟨r39.2.length, 0, none⟩) 8 8] (r39.2 ++ [⟨.fx, [.int .u8 56, .int .u8 100, .int .u8 69, .int .u8 100, .int .u8 81, .int .u8 100, .int .u8 94, .int .u8 100]⟩] : Mem)) fun r43 =>
 ob ((some r43.1).bind Value.bool?) fun b44 =>
 bb b44
 (ob (acall P T k lo F.zoetroperef00_EqBytes [.slice s20.a s20.n s20.c, .slice (some ⟨r43.2.length, 0, none⟩) 8 8] (r43.2 ++ [⟨.fx, [.int .u8 100, .int .u8 100, .int .u8 100, .int .u8 100, .int .u8 144, .int .u8 131, .int .u8 119, .int .u8 106]⟩] : Mem)) fun r45 =>
 ob ((some r45.1).bind Value.bool?) fun b46 =>
 bb b46
 (ob (acall P T k lo F.zoetroperef00_EqBytes [.slice s24.a s24.n s24.c, .slice (some ⟨r45.2.length, 0, none⟩) 3 3] (r45.2 ++ [⟨.fx, [.int .u8 1, .int .u8 2, .int .u8 255]⟩] : Mem)) fun r47 =>
 ob ((some r47.1).bind Value.bool?) fun b48 =>
 bb b48
 (ob (acall P T k lo F.zoetropelaw15_flat [.int .i64 16, .int .u8 9] r47.2) fun r49 =>
 ob ((some r49.1).bind Value.slc?) fun s50 =>
 ob (acall P T k lo F.zoetroperef00_EqBytes [.slice s41.a s41.n s41.c, .slice s50.a s50.n s50.c] r49.2) fun r51 =>
 ob ((some r51.1).bind Value.bool?) fun b52 =>
 some (.ret (.bool b52) r51.2))
 (some (.ret (.bool false) r47.2)))
 (some (.ret (.bool false) r45.2)))
 (some (.ret (.bool false) r43.2)))
 (some (.ret (.bool false) r39.2)))
 (some (.ret (.bool false) r39.2)))
 (some (.ret (.bool false) r39.2)))
 (some (.ret (.bool false) r39.2)))
 (some (.ret (.bool false) r39.2)) := by kernel_rfl
theorem zoetroperef00_CopyBytes.entry (k lo : Nat) (A1 : Option Addr) (n2 : Nat) (c3 : Nat) (M : Mem) : entry P T k lo F.zoetroperef00_CopyBytes [.slice A1 n2 c3] M =
 ob (Mem.src M A1 n2 n2) fun l9 =>
 ob (M.app lo 1 1 ⟨none, 0, 0⟩ l9 n2) fun r10 =>
 some (.ret (.slice r10.1.a r10.1.n r10.1.c) r10.2) := by kernel_rfl
theorem motion_Pair.entry (k lo : Nat) (A1 : Option Addr) (n2 : Nat) (c3 : Nat) (A4 : Option Addr) (n5 : Nat) (c6 : Nat) (M : Mem) : entry P T k lo F.motion_Pair [.slice A1 n2 c3, .slice A4 n5 c6] M =
 bb ((n2 : Int) != (n5 : Int))
 (some (.ret (.tuple ⟨[.slice none 0 0, .int .i64 2]⟩) M))
 (ob (acall P T k lo F.slices_Clone__uint8_uint8 [.slice A1 n2 c3] M) fun r12 =>
 ob ((some r12.1).bind Value.slc?) fun s13 =>
 some (motion_Pair.c244 s13.a s13.n s13.c A4 n5 c6 (n5 : Int) 0 r12.2)) := by kernel_rfl
theorem motion_Pair.p244 (k lo : Nat) (A1 : Option Addr) (n2 : Nat) (c3 : Nat) (A4 : Option Addr) (n5 : Nat) (c6 : Nat) (x7 : Int) (x8 : Int) (M : Mem) : piece P T k lo F.motion_Pair 244 [.v (.slice A1 n2 c3), .v (.slice A4 n5 c6), .v (.int .i64 x7), .v (.int .i64 x8)] [] M =
 bb (decide (x8 < x7))
 (pb (0 ≤ x8 ∧ x8 < (n5 : Int))
 (ob A4 fun a14 =>
 ob ((M.ld (plus a14 x8.toNat)).bind (Value.int? .u8)) fun x15 =>
 pb (0 ≤ x8 ∧ x8 < (n2 : Int))
 (ob A1 fun a16 =>
 ob ((M.ld (plus a16 x8.toNat)).bind (Value.int? .u8)) fun x17 =>
 pb (0 ≤ x8 ∧ x8 < (n2 : Int))
 (ob A1 fun a18 =>
 ob (M.st lo (plus a18 x8.toNat) [.int .u8 (IntKind.u8.wrap (shrI .u64 (IntKind.u64.wrap ((IntKind.u64.wrap ((IntKind.u64.wrap x17) + (IntKind.u64.wrap x15))) + 1)) 1))]) fun M19 =>
 some (motion_Pair.c244 A1 n2 c3 A4 n5 c6 x7 (IntKind.i64.wrap (x8 + 1)) M19)) none) none) none)
 (some (.ret (.tuple ⟨[.slice A1 n2 c3, .int .i64 0]⟩) M)) := by kernel_rfl
theorem zoetroperef15_Pair.entry (k lo : Nat) (A1 : Option Addr) (n2 : Nat) (c3 : Nat) (A4 : Option Addr) (n5 : Nat) (c6 : Nat) (M : Mem) : entry P T k lo F.zoetroperef15_Pair [.slice A1 n2 c3, .slice A4 n5 c6] M =
 bb ((n2 : Int) != (n5 : Int))
 (some (.ret (.tuple ⟨[.slice none 0 0, .int .i64 2]⟩) M))
 (some (zoetroperef15_Pair.c244 A1 n2 c3 A4 n5 c6 none 0 0 0 M)) := by kernel_rfl
theorem zoetroperef15_Pair.p244 (k lo : Nat) (A1 : Option Addr) (n2 : Nat) (c3 : Nat) (A4 : Option Addr) (n5 : Nat) (c6 : Nat) (A7 : Option Addr) (n8 : Nat) (c9 : Nat) (x10 : Int) (M : Mem) : piece P T k lo F.zoetroperef15_Pair 244 [.v (.slice A1 n2 c3), .v (.slice A4 n5 c6), .v (.slice A7 n8 c9), .v (.int .i64 x10)] [] M =
 bb (decide (x10 < (n2 : Int)))
 (pb (0 ≤ x10 ∧ x10 < (n2 : Int))
 (ob A1 fun a12 =>
 ob ((M.ld (plus a12 x10.toNat)).bind (Value.int? .u8)) fun x13 =>
 pb (0 ≤ x10 ∧ x10 < (n5 : Int))
 (ob A4 fun a14 =>
 ob ((M.ld (plus a14 x10.toNat)).bind (Value.int? .u8)) fun x15 =>
 ob (M.app lo 1 1 ⟨A7, n8, c9⟩ ([.int .u8 (IntKind.u8.wrap (IntKind.i64.wrap (Int.tdiv (IntKind.i64.wrap ((IntKind.i64.wrap ((IntKind.i64.wrap x13) + (IntKind.i64.wrap x15))) + 1)) 2)))]) 1) fun r16 =>
 some (zoetroperef15_Pair.c244 A1 n2 c3 A4 n5 c6 r16.1.a r16.1.n r16.1.c (IntKind.i64.wrap (x10 + 1)) r16.2)) none) none)
 (some (.ret (.tuple ⟨[.slice A7 n8 c9, .int .i64 0]⟩) M)) := by kernel_rfl
theorem zoetroperef00_EqBytes.entry (k lo : Nat) (A1 : Option Addr) (n2 : Nat) (c3 : Nat) (A4 : Option Addr) (n5 : Nat) (c6 : Nat) (M : Mem) : entry P T k lo F.zoetroperef00_EqBytes [.slice A1 n2 c3, .slice A4 n5 c6] M =
 bb ((n2 : Int) != (n5 : Int))
 (some (.ret (.bool false) M))
 (some (zoetroperef00_EqBytes.c116 A1 n2 c3 A4 n5 c6 0 M)) := by kernel_rfl
theorem zoetroperef00_EqBytes.p116 (k lo : Nat) (A1 : Option Addr) (n2 : Nat) (c3 : Nat) (A4 : Option Addr) (n5 : Nat) (c6 : Nat) (x7 : Int) (M : Mem) : piece P T k lo F.zoetroperef00_EqBytes 116 [.v (.slice A1 n2 c3), .v (.slice A4 n5 c6), .v (.int .i64 x7)] [] M =
 bb (decide (x7 < (n2 : Int)))
 (pb (0 ≤ x7 ∧ x7 < (n2 : Int))
 (ob A1 fun a12 =>
 ob ((M.ld (plus a12 x7.toNat)).bind (Value.int? .u8)) fun x13 =>
 pb (0 ≤ x7 ∧ x7 < (n5 : Int))
 (ob A4 fun a14 =>
 ob ((M.ld (plus a14 x7.toNat)).bind (Value.int? .u8)) fun x15 =>
 bb (x13 != x15)
 (some (.ret (.bool false) M))
 (some (zoetroperef00_EqBytes.c116 A1 n2 c3 A4 n5 c6 (IntKind.i64.wrap (x7 + 1)) M))) none) none)
 (some (.ret (.bool true) M)) := by kernel_rfl
theorem motion_Weights.entry (k lo : Nat) (x1 : Int) (M : Mem) : entry P T k lo F.motion_Weights [.int .i64 x1] M =
 ob (acall P T k lo F.motion_within [.int .i64 x1, .int .i64 4, .int .i64 32] M) fun r7 =>
 ob ((some r7.1).bind Value.bool?) fun b8 =>
 bb (!b8)
 (some (.ret (.tuple ⟨[.slice none 0 0, .int .i64 2]⟩) r7.2))
 (pb (0 ≤ x1 ∧ room x1.toNat 8)
 (some (motion_Weights.c244 x1 (some ⟨r7.2.length, 0, none⟩) x1.toNat x1.toNat (x1.toNat : Int) 0 (r7.2 ++ [⟨.fx, zerosL [.int .i64 0] x1.toNat⟩] : Mem))) none) := by kernel_rfl
theorem motion_Weights.p244 (k lo : Nat) (x1 : Int) (A2 : Option Addr) (n3 : Nat) (c4 : Nat) (x5 : Int) (x6 : Int) (M : Mem) : piece P T k lo F.motion_Weights 244 [.v (.int .i64 x1), .v (.slice A2 n3 c4), .v (.int .i64 x5), .v (.int .i64 x6)] [] M =
 bb (decide (x6 < x5))
 (pb (x1 = 0) none
 (pb (0 ≤ x6 ∧ x6 < (n3 : Int))
 (ob A2 fun a9 =>
 ob (M.st lo (plus a9 x6.toNat) [.int .i64 (IntKind.i64.wrap (32 + (IntKind.i64.wrap (Int.tdiv (IntKind.i64.wrap ((IntKind.i64.wrap ((IntKind.i64.wrap (2 * x6)) + 1)) * 16)) x1))))]) fun M10 =>
 some (motion_Weights.c244 x1 A2 n3 c4 x5 (IntKind.i64.wrap (x6 + 1)) M10)) none))
 (some (.ret (.tuple ⟨[.slice A2 n3 c4, .int .i64 0]⟩) M)) := by kernel_rfl
theorem zoetroperef15_Weights.entry (k lo : Nat) (x1 : Int) (M : Mem) : entry P T k lo F.zoetroperef15_Weights [.int .i64 x1] M =
 bb (decide (x1 < 4))
 (some (.ret (.tuple ⟨[.slice none 0 0, .int .i64 2]⟩) M))
 (bb (decide (x1 > 32))
 (some (.ret (.tuple ⟨[.slice none 0 0, .int .i64 2]⟩) M))
 (some (zoetroperef15_Weights.c244 x1 none 0 0 0 M))) := by kernel_rfl
theorem zoetroperef15_Weights.p244 (k lo : Nat) (x1 : Int) (A2 : Option Addr) (n3 : Nat) (c4 : Nat) (x5 : Int) (M : Mem) : piece P T k lo F.zoetroperef15_Weights 244 [.v (.int .i64 x1), .v (.slice A2 n3 c4), .v (.int .i64 x5)] [] M =
 bb (decide (x5 < x1))
 (pb (IntKind.i64.wrap (2 * x1) = 0) none
 (ob (M.app lo 1 8 ⟨A2, n3, c4⟩ ([.int .i64 (IntKind.i64.wrap (32 + (IntKind.i64.wrap (Int.tdiv (IntKind.i64.wrap ((IntKind.i64.wrap ((IntKind.i64.wrap (2 * x5)) + 1)) * 32)) (IntKind.i64.wrap (2 * x1))))))]) 1) fun r7 =>
 some (zoetroperef15_Weights.c244 x1 r7.1.a r7.1.n r7.1.c (IntKind.i64.wrap (x5 + 1)) r7.2)))
 (some (.ret (.tuple ⟨[.slice A2 n3 c4, .int .i64 0]⟩) M)) := by kernel_rfl
theorem zoetroperef00_EqInts.entry (k lo : Nat) (A1 : Option Addr) (n2 : Nat) (c3 : Nat) (A4 : Option Addr) (n5 : Nat) (c6 : Nat) (M : Mem) : entry P T k lo F.zoetroperef00_EqInts [.slice A1 n2 c3, .slice A4 n5 c6] M =
 bb ((n2 : Int) != (n5 : Int))
 (some (.ret (.bool false) M))
 (some (zoetroperef00_EqInts.c116 A1 n2 c3 A4 n5 c6 0 M)) := by kernel_rfl
theorem zoetroperef00_EqInts.p116 (k lo : Nat) (A1 : Option Addr) (n2 : Nat) (c3 : Nat) (A4 : Option Addr) (n5 : Nat) (c6 : Nat) (x7 : Int) (M : Mem) : piece P T k lo F.zoetroperef00_EqInts 116 [.v (.slice A1 n2 c3), .v (.slice A4 n5 c6), .v (.int .i64 x7)] [] M =
 bb (decide (x7 < (n2 : Int)))
 (pb (0 ≤ x7 ∧ x7 < (n2 : Int))
 (ob A1 fun a12 =>
 ob ((M.ld (plus a12 x7.toNat)).bind (Value.int? .i64)) fun x13 =>
 pb (0 ≤ x7 ∧ x7 < (n5 : Int))
 (ob A4 fun a14 =>
 ob ((M.ld (plus a14 x7.toNat)).bind (Value.int? .i64)) fun x15 =>
 bb (x13 != x15)
 (some (.ret (.bool false) M))
 (some (zoetroperef00_EqInts.c116 A1 n2 c3 A4 n5 c6 (IntKind.i64.wrap (x7 + 1)) M))) none) none)
 (some (.ret (.bool true) M)) := by kernel_rfl
theorem motion_Above.entry (k lo : Nat) (A1 : Option Addr) (n2 : Nat) (c3 : Nat) (x4 : Int) (x5 : Int) (x6 : Int) (x7 : Int) (x8 : Int) (A9 : Option Addr) (n10 : Nat) (c11 : Nat) (M : Mem) : entry P T k lo F.motion_Above [.slice A1 n2 c3, .int .i64 x4, .agg ⟨[.int .i64 x5, .int .i64 x6, .int .i64 x7, .int .i64 x8]⟩, .slice A9 n10 c11] M =
 ob (acall P T k lo F.motion_blend [.slice A1 n2 c3, .int .i64 x4, .agg ⟨[.int .i64 x5, .int .i64 x6, .int .i64 x7, .int .i64 x8]⟩, .slice A9 n10 c11, .int .i64 x8, .func (.func F.motion_Above_1) ⟨[]⟩ ⟨[]⟩] M) fun r17 =>
 ob (r17.1.tup? 2) fun l18 =>
 ob ((l18[0]?).bind Value.slc?) fun s19 =>
 ob ((l18[1]?).bind (Value.int? .i64)) fun x20 =>
 some (.ret (.tuple ⟨[.slice s19.a s19.n s19.c, .int .i64 x20]⟩) r17.2) := by kernel_rfl
theorem zoetroperef15_Above.entry (k lo : Nat) (A1 : Option Addr) (n2 : Nat) (c3 : Nat) (x4 : Int) (x5 : Int) (x6 : Int) (x7 : Int) (x8 : Int) (A9 : Option Addr) (n10 : Nat) (c11 : Nat) (M : Mem) : entry P T k lo F.zoetroperef15_Above [.slice A1 n2 c3, .int .i64 x4, .agg ⟨[.int .i64 x5, .int .i64 x6, .int .i64 x7, .int .i64 x8]⟩, .slice A9 n10 c11] M =
 ob (acall P T k lo F.zoetroperef15_Weights [.int .i64 x8] M) fun r17 =>
 ob (r17.1.tup? 2) fun l18 =>
 ob ((l18[0]?).bind Value.slc?) fun s19 =>
 ob ((l18[1]?).bind (Value.int? .i64)) fun x20 =>
 ob (acall P T k lo F.zoetroperef15_within [.slice A1 n2 c3, .int .i64 x4, .agg ⟨[.int .i64 x5, .int .i64 x6, .int .i64 x7, .int .i64 x8]⟩] r17.2) fun r21 =>
 ob ((some r21.1).bind Value.bool?) fun b22 =>
 bb (!b22)
 (some (.ret (.tuple ⟨[.slice none 0 0, .int .i64 2]⟩) r21.2))
 (bb (x20 != 0)
 (some (.ret (.tuple ⟨[.slice none 0 0, .int .i64 2]⟩) r21.2))
 (bb ((n10 : Int) != IntKind.i64.wrap (x7 * x8))
 (some (.ret (.tuple ⟨[.slice none 0 0, .int .i64 2]⟩) r21.2))
 (ob (acall P T k lo F.zoetroperef00_CopyBytes [.slice A1 n2 c3] r21.2) fun r23 =>
 ob ((some r23.1).bind Value.slc?) fun s24 =>
 some (zoetroperef15_Above.c500 x4 A9 n10 c11 s19.a s19.n s19.c s24.a s24.n s24.c 0 x5 x6 x7 x8 r23.2)))) := by kernel_rfl
theorem zoetroperef15_Above.p500 (k lo : Nat) (x1 : Int) (A2 : Option Addr) (n3 : Nat) (c4 : Nat) (A5 : Option Addr) (n6 : Nat) (c7 : Nat) (A8 : Option Addr) (n9 : Nat) (c10 : Nat) (x11 : Int) (x12 : Int) (x13 : Int) (x14 : Int) (x15 : Int) (M : Mem) : piece P T k lo F.zoetroperef15_Above 500 [.v (.int .i64 x1), .v (.slice A2 n3 c4), .l 6 0, .v (.slice A5 n6 c7), .v (.slice A8 n9 c10), .v (.int .i64 x11)] [[.int .i64 x12, .int .i64 x13, .int .i64 x14, .int .i64 x15]] M =
 bb (decide (x11 < (n3 : Int)))
 (pb (x14 = 0) none
 (pb (x14 = 0) none
 (pb (x14 = 0) none
 (pb (0 ≤ IntKind.i64.wrap (Int.tdiv x11 x14) ∧ IntKind.i64.wrap (Int.tdiv x11 x14) < (n6 : Int))
 (ob A5 fun a25 =>
 ob ((M.ld (plus a25 ((IntKind.i64.wrap (Int.tdiv x11 x14)).toNat))).bind (Value.int? .i64)) fun x26 =>
 pb (0 ≤ x11 ∧ x11 < (n3 : Int))
 (ob A2 fun a27 =>
 ob ((M.ld (plus a27 x11.toNat)).bind (Value.int? .u8)) fun x28 =>
 ob (acall P T k lo F.zoetroperef15_blend [.slice A8 n9 c10, .int .i64 (IntKind.i64.wrap ((IntKind.i64.wrap ((IntKind.i64.wrap ((IntKind.i64.wrap (x13 + (IntKind.i64.wrap (Int.tdiv x11 x14)))) * x1)) + x12)) + (Int.tmod x11 x14))), .int .i64 x26, .int .u8 x28] M) fun r29 =>
 ob (r29.1.tup? 0) fun l30 =>
 some (zoetroperef15_Above.c500 x1 A2 n3 c4 A5 n6 c7 A8 n9 c10 (IntKind.i64.wrap (x11 + 1)) x12 x13 x14 x15 r29.2)) none) none))))
 (some (.ret (.tuple ⟨[.slice A8 n9 c10, .int .i64 0]⟩) M)) := by kernel_rfl
theorem motion_Left.entry (k lo : Nat) (A1 : Option Addr) (n2 : Nat) (c3 : Nat) (x4 : Int) (x5 : Int) (x6 : Int) (x7 : Int) (x8 : Int) (A9 : Option Addr) (n10 : Nat) (c11 : Nat) (M : Mem) : entry P T k lo F.motion_Left [.slice A1 n2 c3, .int .i64 x4, .agg ⟨[.int .i64 x5, .int .i64 x6, .int .i64 x7, .int .i64 x8]⟩, .slice A9 n10 c11] M =
 ob (acall P T k lo F.motion_blend [.slice A1 n2 c3, .int .i64 x4, .agg ⟨[.int .i64 x5, .int .i64 x6, .int .i64 x7, .int .i64 x8]⟩, .slice A9 n10 c11, .int .i64 x7, .func (.func F.motion_Left_1) ⟨[]⟩ ⟨[]⟩] M) fun r17 =>
 ob (r17.1.tup? 2) fun l18 =>
 ob ((l18[0]?).bind Value.slc?) fun s19 =>
 ob ((l18[1]?).bind (Value.int? .i64)) fun x20 =>
 some (.ret (.tuple ⟨[.slice s19.a s19.n s19.c, .int .i64 x20]⟩) r17.2) := by kernel_rfl
theorem zoetroperef15_Left.entry (k lo : Nat) (A1 : Option Addr) (n2 : Nat) (c3 : Nat) (x4 : Int) (x5 : Int) (x6 : Int) (x7 : Int) (x8 : Int) (A9 : Option Addr) (n10 : Nat) (c11 : Nat) (M : Mem) : entry P T k lo F.zoetroperef15_Left [.slice A1 n2 c3, .int .i64 x4, .agg ⟨[.int .i64 x5, .int .i64 x6, .int .i64 x7, .int .i64 x8]⟩, .slice A9 n10 c11] M =
 ob (acall P T k lo F.zoetroperef15_Weights [.int .i64 x7] M) fun r17 =>
 ob (r17.1.tup? 2) fun l18 =>
 ob ((l18[0]?).bind Value.slc?) fun s19 =>
 ob ((l18[1]?).bind (Value.int? .i64)) fun x20 =>
 ob (acall P T k lo F.zoetroperef15_within [.slice A1 n2 c3, .int .i64 x4, .agg ⟨[.int .i64 x5, .int .i64 x6, .int .i64 x7, .int .i64 x8]⟩] r17.2) fun r21 =>
 ob ((some r21.1).bind Value.bool?) fun b22 =>
 bb (!b22)
 (some (.ret (.tuple ⟨[.slice none 0 0, .int .i64 2]⟩) r21.2))
 (bb (x20 != 0)
 (some (.ret (.tuple ⟨[.slice none 0 0, .int .i64 2]⟩) r21.2))
 (bb ((n10 : Int) != IntKind.i64.wrap (x7 * x8))
 (some (.ret (.tuple ⟨[.slice none 0 0, .int .i64 2]⟩) r21.2))
 (ob (acall P T k lo F.zoetroperef00_CopyBytes [.slice A1 n2 c3] r21.2) fun r23 =>
 ob ((some r23.1).bind Value.slc?) fun s24 =>
 some (zoetroperef15_Left.c500 x4 A9 n10 c11 s19.a s19.n s19.c s24.a s24.n s24.c 0 x5 x6 x7 x8 r23.2)))) := by kernel_rfl
theorem zoetroperef15_Left.p500 (k lo : Nat) (x1 : Int) (A2 : Option Addr) (n3 : Nat) (c4 : Nat) (A5 : Option Addr) (n6 : Nat) (c7 : Nat) (A8 : Option Addr) (n9 : Nat) (c10 : Nat) (x11 : Int) (x12 : Int) (x13 : Int) (x14 : Int) (x15 : Int) (M : Mem) : piece P T k lo F.zoetroperef15_Left 500 [.v (.int .i64 x1), .v (.slice A2 n3 c4), .l 6 0, .v (.slice A5 n6 c7), .v (.slice A8 n9 c10), .v (.int .i64 x11)] [[.int .i64 x12, .int .i64 x13, .int .i64 x14, .int .i64 x15]] M =
 bb (decide (x11 < (n3 : Int)))
 (pb (x14 = 0) none
 (pb (x14 = 0) none
 (pb (x14 = 0) none
 (pb (0 ≤ Int.tmod x11 x14 ∧ Int.tmod x11 x14 < (n6 : Int))
 (ob A5 fun a25 =>
 ob ((M.ld (plus a25 ((Int.tmod x11 x14).toNat))).bind (Value.int? .i64)) fun x26 =>
 pb (0 ≤ x11 ∧ x11 < (n3 : Int))
 (ob A2 fun a27 =>
 ob ((M.ld (plus a27 x11.toNat)).bind (Value.int? .u8)) fun x28 =>
 ob (acall P T k lo F.zoetroperef15_blend [.slice A8 n9 c10, .int .i64 (IntKind.i64.wrap ((IntKind.i64.wrap ((IntKind.i64.wrap ((IntKind.i64.wrap (x13 + (IntKind.i64.wrap (Int.tdiv x11 x14)))) * x1)) + x12)) + (Int.tmod x11 x14))), .int .i64 x26, .int .u8 x28] M) fun r29 =>
 ob (r29.1.tup? 0) fun l30 =>
 some (zoetroperef15_Left.c500 x1 A2 n3 c4 A5 n6 c7 A8 n9 c10 (IntKind.i64.wrap (x11 + 1)) x12 x13 x14 x15 r29.2)) none) none))))
 (some (.ret (.tuple ⟨[.slice A8 n9 c10, .int .i64 0]⟩) M)) := by kernel_rfl
end Go.Zt
