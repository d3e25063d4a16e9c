/- What functions come to, from cut to cut. -/
import Derived.Test.YtkmakjapgkfdnaaEq0
import Derived.KernelRfl
set_option maxRecDepth 100000
set_option maxHeartbeats 4000000
set_option linter.unusedVariables false
namespace Go.Zt
theorem zoetropelaw05_PlaneCuts.entry (k lo : Nat) (x1 : Int) (x2 : Int) (A3 : Option Addr) (n4 : Nat) (c5 : Nat) (x6 : Int) (x7 : Int) (x8 : Int) (x9 : Int) (A10 : Option Addr) (n11 : Nat) (c12 : Nat) (M : Mem) : entry P T k lo F.zoetropelaw05_PlaneCuts [.agg ⟨[.int .i64 x1, .int .i64 x2, .slice A3 n4 c5]⟩, .agg ⟨[.int .i64 x6, .int .i64 x7, .int .i64 x8, .int .i64 x9]⟩, .slice A10 n11 c12] M =
 ob (acall P T k lo F.zoetroperef05_CopyPlane [.agg ⟨[.int .i64 x1, .int .i64 x2, .slice A3 n4 c5]⟩] M) fun r18 =>
 ob ((some r18.1).bind (Value.agg? 3)) fun l19 =>
 ob ((l19[0]?).bind (Value.int? .i64)) fun x20 =>
 ob ((l19[1]?).bind (Value.int? .i64)) fun x21 =>
 ob ((l19[2]?).bind Value.slc?) fun s22 =>
 ob (acall P T k lo F.zoetroperef00_CopyBytes [.slice A10 n11 c12] r18.2) fun r23 =>
 ob ((some r23.1).bind Value.slc?) fun s24 =>
 ob (acall P T k lo F.plane_Cut [.agg ⟨[.int .i64 x20, .int .i64 x21, .slice s22.a s22.n s22.c]⟩, .agg ⟨[.int .i64 x6, .int .i64 x7, .int .i64 x8, .int .i64 x9]⟩] r23.2) fun r25 =>
 ob (r25.1.tup? 2) fun l26 =>
 ob ((l26[0]?).bind Value.slc?) fun s27 =>
 ob ((l26[1]?).bind (Value.int? .i64)) fun x28 =>
 ob (acall P T k lo F.zoetroperef05_Cut [.agg ⟨[.int .i64 x1, .int .i64 x2, .slice A3 n4 c5]⟩, .agg ⟨[.int .i64 x6, .int .i64 x7, .int .i64 x8, .int .i64 x9]⟩] r25.2) fun r29 =>
 ob (r29.1.tup? 2) fun l30 =>
 ob ((l30[0]?).bind Value.slc?) fun s31 =>
 ob ((l30[1]?).bind (Value.int? .i64)) fun x32 =>
 bb (x28 != x32)
 (some (.ret (.bool false) r29.2))
 (ob (acall P T k lo F.zoetroperef00_EqBytes [.slice s27.a s27.n s27.c, .slice s31.a s31.n s31.c] r29.2) fun r33 =>
 ob ((some r33.1).bind Value.bool?) fun b34 =>
 bb (!b34)
 (some (.ret (.bool false) r33.2))
 (some (zoetropelaw05_PlaneCuts.c1012 A10 n11 c12 s24.a s24.n s24.c s27.a s27.n s27.c 0 x1 x2 A3 n4 c5 x6 x7 x8 x9 x20 x21 s22.a s22.n s22.c r33.2))) := by kernel_rfl
theorem zoetropelaw05_PlaneCuts.p1012 (k lo : Nat) (A1 : Option Addr) (n2 : Nat) (c3 : Nat) (A4 : Option Addr) (n5 : Nat) (c6 : Nat) (A7 : Option Addr) (n8 : Nat) (c9 : Nat) (x10 : Int) (x11 : Int) (x12 : Int) (A13 : Option Addr) (n14 : Nat) (c15 : Nat) (x16 : Int) (x17 : Int) (x18 : Int) (x19 : Int) (x20 : Int) (x21 : Int) (A22 : Option Addr) (n23 : Nat) (c24 : Nat) (M : Mem) : piece P T k lo F.zoetropelaw05_PlaneCuts 1012 [.v (.slice A1 n2 c3), .l 3 0, .l 4 0, .l 7 0, .v (.slice A4 n5 c6), .v (.slice A7 n8 c9), .v (.int .i64 x10)] [[.int .i64 x11, .int .i64 x12, .slice A13 n14 c15], [.int .i64 x16, .int .i64 x17, .int .i64 x18, .int .i64 x19], [.int .i64 x20, .int .i64 x21, .slice A22 n23 c24]] M =
 bb (decide (x10 < (n8 : Int)))
 (pb (0 ≤ x10 ∧ x10 < (n8 : Int))
 (ob A7 fun a35 =>
 ob ((M.ld (plus a35 x10.toNat)).bind (Value.int? .u8)) fun x36 =>
 pb (0 ≤ x10 ∧ x10 < (n8 : Int))
 (ob A7 fun a37 =>
 ob (M.st lo (plus a37 x10.toNat) [.int .u8 (xorI .u8 x36 255)]) fun M38 =>
 some (zoetropelaw05_PlaneCuts.c1012 A1 n2 c3 A4 n5 c6 A7 n8 c9 (IntKind.i64.wrap (x10 + 1)) x11 x12 A13 n14 c15 x16 x17 x18 x19 x20 x21 A22 n23 c24 M38)) none) none)
 (ob (acall P T k lo F.plane_Lay [.agg ⟨[.int .i64 x20, .int .i64 x21, .slice A22 n23 c24]⟩, .agg ⟨[.int .i64 x16, .int .i64 x17, .int .i64 x18, .int .i64 x19]⟩, .slice A4 n5 c6] M) fun r39 =>
 ob (r39.1.tup? 2) fun l40 =>
 ob ((l40[0]?).bind (Value.agg? 3)) fun l41 =>
 ob ((l41[0]?).bind (Value.int? .i64)) fun x42 =>
 ob ((l41[1]?).bind (Value.int? .i64)) fun x43 =>
 ob ((l41[2]?).bind Value.slc?) fun s44 =>
 ob ((l40[1]?).bind (Value.int? .i64)) fun x45 =>
 ob (acall P T k lo F.zoetroperef05_Lay [.agg ⟨[.int .i64 x11, .int .i64 x12, .slice A13 n14 c15]⟩, .agg ⟨[.int .i64 x16, .int .i64 x17, .int .i64 x18, .int .i64 x19]⟩, .slice A1 n2 c3] r39.2) fun r46 =>
 ob (r46.1.tup? 2) fun l47 =>
 ob ((l47[0]?).bind (Value.agg? 3)) fun l48 =>
 ob ((l48[0]?).bind (Value.int? .i64)) fun x49 =>
 ob ((l48[1]?).bind (Value.int? .i64)) fun x50 =>
 ob ((l48[2]?).bind Value.slc?) fun s51 =>
 ob ((l47[1]?).bind (Value.int? .i64)) fun x52 =>
 ob (acall P T k lo F.zoetropelaw05_told [.agg ⟨[.int .i64 x42, .int .i64 x43, .slice s44.a s44.n s44.c]⟩, .int .i64 x45, .agg ⟨[.int .i64 x49, .int .i64 x50, .slice s51.a s51.n s51.c]⟩, .int .i64 x52] r46.2) fun r53 =>
 ob ((some r53.1).bind Value.bool?) fun b54 =>
 bb (!b54)
 (some (.ret (.bool false) r53.2))
 (ob (acall P T k lo F.zoetroperef00_EqBytes [.slice A4 n5 c6, .slice A1 n2 c3] r53.2) fun r55 =>
 ob ((some r55.1).bind Value.bool?) fun b56 =>
 bb (!b56)
 (some (.ret (.bool false) r55.2))
 (ob (acall P T k lo F.zoetroperef05_Same [.agg ⟨[.int .i64 x20, .int .i64 x21, .slice A22 n23 c24]⟩, .agg ⟨[.int .i64 x11, .int .i64 x12, .slice A13 n14 c15]⟩] r55.2) fun r57 =>
 ob ((some r57.1).bind Value.bool?) fun b58 =>
 bb (!b58)
 (some (.ret (.bool false) r57.2))
 (ob (acall P T k lo F.plane_Pad [.agg ⟨[.int .i64 x20, .int .i64 x21, .slice A22 n23 c24]⟩, .int .i64 x18, .int .i64 x19] r57.2) fun r59 =>
 ob (r59.1.tup? 2) fun l60 =>
 ob ((l60[0]?).bind (Value.agg? 3)) fun l61 =>
 ob ((l61[0]?).bind (Value.int? .i64)) fun x62 =>
 ob ((l61[1]?).bind (Value.int? .i64)) fun x63 =>
 ob ((l61[2]?).bind Value.slc?) fun s64 =>
 ob ((l60[1]?).bind (Value.int? .i64)) fun x65 =>
 ob (acall P T k lo F.zoetroperef05_Pad [.agg ⟨[.int .i64 x11, .int .i64 x12, .slice A13 n14 c15]⟩, .int .i64 x18, .int .i64 x19] r59.2) fun r66 =>
 ob (r66.1.tup? 2) fun l67 =>
 ob ((l67[0]?).bind (Value.agg? 3)) fun l68 =>
 ob ((l68[0]?).bind (Value.int? .i64)) fun x69 =>
 ob ((l68[1]?).bind (Value.int? .i64)) fun x70 =>
 ob ((l68[2]?).bind Value.slc?) fun s71 =>
 ob ((l67[1]?).bind (Value.int? .i64)) fun x72 =>
 ob (acall P T k r66.2.length F.zoetroperef00_Bring [.int .i64 x16, .int .i64 9] r66.2) fun r73 =>
 ob ((some r73.1).bind (Value.int? .i64)) fun x74 =>
 ob (acall P T k r66.2.length F.zoetroperef00_Bring [.int .i64 x17, .int .i64 9] r73.2) fun r75 =>
 ob ((some r75.1).bind (Value.int? .i64)) fun x76 =>
 ob (acall P T k r66.2.length F.plane_Pad [.agg ⟨[.int .i64 x20, .int .i64 x21, .slice A22 n23 c24]⟩, .int .i64 (IntKind.i64.wrap (x11 + x74)), .int .i64 (IntKind.i64.wrap (x12 + x76))] r75.2) fun r77 =>
 ob (r77.1.tup? 2) fun l78 =>
 ob ((l78[0]?).bind (Value.agg? 3)) fun l79 =>
 ob ((l79[0]?).bind (Value.int? .i64)) fun x80 =>
 ob ((l79[1]?).bind (Value.int? .i64)) fun x81 =>
 ob ((l79[2]?).bind Value.slc?) fun s82 =>
 ob ((l78[1]?).bind (Value.int? .i64)) fun x83 =>
 ob (acall P T k r77.2.length F.zoetroperef00_Bring [.int .i64 x16, .int .i64 9] r77.2) fun r84 =>
 ob ((some r84.1).bind (Value.int? .i64)) fun x85 =>
 ob (acall P T k r77.2.length F.zoetroperef00_Bring [.int .i64 x17, .int .i64 9] r84.2) fun r86 =>
 ob ((some r86.1).bind (Value.int? .i64)) fun x87 =>
 ob (acall P T k r77.2.length F.zoetroperef05_Pad [.agg ⟨[.int .i64 x11, .int .i64 x12, .slice A13 n14 c15]⟩, .int .i64 (IntKind.i64.wrap (x11 + x85)), .int .i64 (IntKind.i64.wrap (x12 + x87))] r86.2) fun r88 =>
 ob (r88.1.tup? 2) fun l89 =>
 ob ((l89[0]?).bind (Value.agg? 3)) fun l90 =>
 ob ((l90[0]?).bind (Value.int? .i64)) fun x91 =>
 ob ((l90[1]?).bind (Value.int? .i64)) fun x92 =>
 ob ((l90[2]?).bind Value.slc?) fun s93 =>
 ob ((l89[1]?).bind (Value.int? .i64)) fun x94 =>
 ob (acall P T k lo F.zoetropelaw05_told [.agg ⟨[.int .i64 x62, .int .i64 x63, .slice s64.a s64.n s64.c]⟩, .int .i64 x65, .agg ⟨[.int .i64 x69, .int .i64 x70, .slice s71.a s71.n s71.c]⟩, .int .i64 x72] r88.2) fun r95 =>
 ob ((some r95.1).bind Value.bool?) fun b96 =>
 bb b96
 (ob (acall P T k lo F.zoetropelaw05_told [.agg ⟨[.int .i64 x80, .int .i64 x81, .slice s82.a s82.n s82.c]⟩, .int .i64 x83, .agg ⟨[.int .i64 x91, .int .i64 x92, .slice s93.a s93.n s93.c]⟩, .int .i64 x94] r95.2) fun r97 =>
 ob ((some r97.1).bind Value.bool?) fun b98 =>
 bb b98
 (ob (acall P T k lo F.zoetroperef05_Same [.agg ⟨[.int .i64 x20, .int .i64 x21, .slice A22 n23 c24]⟩, .agg ⟨[.int .i64 x11, .int .i64 x12, .slice A13 n14 c15]⟩] r97.2) fun r99 =>
 ob ((some r99.1).bind Value.bool?) fun b100 =>
 bb b100
 (ob (acall P T k lo F.zoetropelaw05_works [] r99.2) fun r101 =>
 ob ((some r101.1).bind Value.bool?) fun b102 =>
 some (.ret (.bool b102) r101.2))
 (some (.ret (.bool false) r99.2)))
 (some (.ret (.bool false) r97.2)))
 (some (.ret (.bool false) r95.2)))))) := by kernel_rfl
theorem zoetropelaw05_PlaneFrames.entry (k lo : Nat) (x1 : Int) (x2 : Int) (A3 : Option Addr) (n4 : Nat) (c5 : Nat) (x6 : Int) (x7 : Int) (A8 : Option Addr) (n9 : Nat) (c10 : Nat) (x11 : Int) (x12 : Int) (A13 : Option Addr) (n14 : Nat) (c15 : Nat) (x16 : Int) (x17 : Int) (M : Mem) : entry P T k lo F.zoetropelaw05_PlaneFrames [.agg ⟨[.int .i64 x1, .int .i64 x2, .slice A3 n4 c5, .int .i64 x6, .int .i64 x7, .slice A8 n9 c10, .int .i64 x11, .int .i64 x12, .slice A13 n14 c15]⟩, .int .i64 x16, .int .i64 x17] M =
 ob (acall P T k lo F.zoetroperef05_CopyFrame [.agg ⟨[.int .i64 x1, .int .i64 x2, .slice A3 n4 c5, .int .i64 x6, .int .i64 x7, .slice A8 n9 c10, .int .i64 x11, .int .i64 x12, .slice A13 n14 c15]⟩] M) fun r23 =>
 ob ((some r23.1).bind (Value.agg? 9)) fun l24 =>
 ob ((l24[0]?).bind (Value.int? .i64)) fun x25 =>
 ob ((l24[1]?).bind (Value.int? .i64)) fun x26 =>
 ob ((l24[2]?).bind Value.slc?) fun s27 =>
 ob ((l24[3]?).bind (Value.int? .i64)) fun x28 =>
 ob ((l24[4]?).bind (Value.int? .i64)) fun x29 =>
 ob ((l24[5]?).bind Value.slc?) fun s30 =>
 ob ((l24[6]?).bind (Value.int? .i64)) fun x31 =>
 ob ((l24[7]?).bind (Value.int? .i64)) fun x32 =>
 ob ((l24[8]?).bind Value.slc?) fun s33 =>
 ob (acall P T k r23.2.length F.plane_Whole [.agg ⟨[.int .i64 x25, .int .i64 x26, .slice s27.a s27.n s27.c, .int .i64 x28, .int .i64 x29, .slice s30.a s30.n s30.c, .int .i64 x31, .int .i64 x32, .slice s33.a s33.n s33.c]⟩] r23.2) fun r34 =>
 ob ((some r34.1).bind (Value.int? .i64)) fun x35 =>
 ob (acall P T k r23.2.length F.zoetroperef05_Whole [.agg ⟨[.int .i64 x1, .int .i64 x2, .slice A3 n4 c5, .int .i64 x6, .int .i64 x7, .slice A8 n9 c10, .int .i64 x11, .int .i64 x12, .slice A13 n14 c15]⟩] r34.2) fun r36 =>
 ob ((some r36.1).bind (Value.int? .i64)) fun x37 =>
 bb (x35 != x37)
 (some (.ret (.bool false) r36.2))
 (ob (acall P T k lo F.plane_Frame [.int .i64 x16, .int .i64 x17, .int .u8 9] r36.2) fun r38 =>
 ob (r38.1.tup? 2) fun l39 =>
 ob ((l39[0]?).bind (Value.agg? 9)) fun l40 =>
 ob ((l40[0]?).bind (Value.int? .i64)) fun x41 =>
 ob ((l40[1]?).bind (Value.int? .i64)) fun x42 =>
 ob ((l40[2]?).bind Value.slc?) fun s43 =>
 ob ((l40[3]?).bind (Value.int? .i64)) fun x44 =>
 ob ((l40[4]?).bind (Value.int? .i64)) fun x45 =>
 ob ((l40[5]?).bind Value.slc?) fun s46 =>
 ob ((l40[6]?).bind (Value.int? .i64)) fun x47 =>
 ob ((l40[7]?).bind (Value.int? .i64)) fun x48 =>
 ob ((l40[8]?).bind Value.slc?) fun s49 =>
 ob ((l39[1]?).bind (Value.int? .i64)) fun x50 =>
 ob (acall P T k lo F.zoetroperef05_Frame [.int .i64 x16, .int .i64 x17, .int .u8 9] r38.2) fun r51 =>
 ob (r51.1.tup? 2) fun l52 =>
 ob ((l52[0]?).bind (Value.agg? 9)) fun l53 =>
 ob ((l53[0]?).bind (Value.int? .i64)) fun x54 =>
 ob ((l53[1]?).bind (Value.int? .i64)) fun x55 =>
 ob ((l53[2]?).bind Value.slc?) fun s56 =>
 ob ((l53[3]?).bind (Value.int? .i64)) fun x57 =>
 ob ((l53[4]?).bind (Value.int? .i64)) fun x58 =>
 ob ((l53[5]?).bind Value.slc?) fun s59 =>
 ob ((l53[6]?).bind (Value.int? .i64)) fun x60 =>
 ob ((l53[7]?).bind (Value.int? .i64)) fun x61 =>
 ob ((l53[8]?).bind Value.slc?) fun s62 =>
 ob ((l52[1]?).bind (Value.int? .i64)) fun x63 =>
 ob (acall P T k lo F.plane_Coded [.agg ⟨[.int .i64 x25, .int .i64 x26, .slice s27.a s27.n s27.c, .int .i64 x28, .int .i64 x29, .slice s30.a s30.n s30.c, .int .i64 x31, .int .i64 x32, .slice s33.a s33.n s33.c]⟩] r51.2) fun r64 =>
 ob (r64.1.tup? 2) fun l65 =>
 ob ((l65[0]?).bind (Value.agg? 9)) fun l66 =>
 ob ((l66[0]?).bind (Value.int? .i64)) fun x67 =>
 ob ((l66[1]?).bind (Value.int? .i64)) fun x68 =>
 ob ((l66[2]?).bind Value.slc?) fun s69 =>
 ob ((l66[3]?).bind (Value.int? .i64)) fun x70 =>
 ob ((l66[4]?).bind (Value.int? .i64)) fun x71 =>
 ob ((l66[5]?).bind Value.slc?) fun s72 =>
 ob ((l66[6]?).bind (Value.int? .i64)) fun x73 =>
 ob ((l66[7]?).bind (Value.int? .i64)) fun x74 =>
 ob ((l66[8]?).bind Value.slc?) fun s75 =>
 ob ((l65[1]?).bind (Value.int? .i64)) fun x76 =>
 ob (acall P T k lo F.zoetroperef05_Coded [.agg ⟨[.int .i64 x1, .int .i64 x2, .slice A3 n4 c5, .int .i64 x6, .int .i64 x7, .slice A8 n9 c10, .int .i64 x11, .int .i64 x12, .slice A13 n14 c15]⟩] r64.2) fun r77 =>
 ob (r77.1.tup? 2) fun l78 =>
 ob ((l78[0]?).bind (Value.agg? 9)) fun l79 =>
 ob ((l79[0]?).bind (Value.int? .i64)) fun x80 =>
 ob ((l79[1]?).bind (Value.int? .i64)) fun x81 =>
 ob ((l79[2]?).bind Value.slc?) fun s82 =>
 ob ((l79[3]?).bind (Value.int? .i64)) fun x83 =>
 ob ((l79[4]?).bind (Value.int? .i64)) fun x84 =>
 ob ((l79[5]?).bind Value.slc?) fun s85 =>
 ob ((l79[6]?).bind (Value.int? .i64)) fun x86 =>
 ob ((l79[7]?).bind (Value.int? .i64)) fun x87 =>
 ob ((l79[8]?).bind Value.slc?) fun s88 =>
 ob ((l78[1]?).bind (Value.int? .i64)) fun x89 =>
 ob (acall P T k lo F.plane_Crop [.agg ⟨[.int .i64 x25, .int .i64 x26, .slice s27.a s27.n s27.c, .int .i64 x28, .int .i64 x29, .slice s30.a s30.n s30.c, .int .i64 x31, .int .i64 x32, .slice s33.a s33.n s33.c]⟩, .int .i64 x16, .int .i64 x17] r77.2) fun r90 =>
 ob (r90.1.tup? 2) fun l91 =>
 ob ((l91[0]?).bind (Value.agg? 9)) fun l92 =>
 ob ((l92[0]?).bind (Value.int? .i64)) fun x93 =>
 ob ((l92[1]?).bind (Value.int? .i64)) fun x94 =>
 ob ((l92[2]?).bind Value.slc?) fun s95 =>
 ob ((l92[3]?).bind (Value.int? .i64)) fun x96 =>
 ob ((l92[4]?).bind (Value.int? .i64)) fun x97 =>
 ob ((l92[5]?).bind Value.slc?) fun s98 =>
 ob ((l92[6]?).bind (Value.int? .i64)) fun x99 =>
 ob ((l92[7]?).bind (Value.int? .i64)) fun x100 =>
 ob ((l92[8]?).bind Value.slc?) fun s101 =>
 ob ((l91[1]?).bind (Value.int? .i64)) fun x102 =>
 ob (acall P T k lo F.zoetroperef05_Crop [.agg ⟨[.int .i64 x1, .int .i64 x2, .slice A3 n4 c5, .int .i64 x6, .int .i64 x7, .slice A8 n9 c10, .int .i64 x11, .int .i64 x12, .slice A13 n14 c15]⟩, .int .i64 x16, .int .i64 x17] r90.2) fun r103 =>
 ob (r103.1.tup? 2) fun l104 =>
 ob ((l104[0]?).bind (Value.agg? 9)) fun l105 =>
 ob ((l105[0]?).bind (Value.int? .i64)) fun x106 =>
 ob ((l105[1]?).bind (Value.int? .i64)) fun x107 =>
 ob ((l105[2]?).bind Value.slc?) fun s108 =>
 ob ((l105[3]?).bind (Value.int? .i64)) fun x109 =>
 ob ((l105[4]?).bind (Value.int? .i64)) fun x110 =>
 ob ((l105[5]?).bind Value.slc?) fun s111 =>
 ob ((l105[6]?).bind (Value.int? .i64)) fun x112 =>
 ob ((l105[7]?).bind (Value.int? .i64)) fun x113 =>
 ob ((l105[8]?).bind Value.slc?) fun s114 =>
 ob ((l104[1]?).bind (Value.int? .i64)) fun x115 =>
 ob (acall P T k lo F.zoetropelaw05_toldFrame [.agg ⟨[.int .i64 x41, .int .i64 x42, .slice s43.a s43.n s43.c, .int .i64 x44, .int .i64 x45, .slice s46.a s46.n s46.c, .int .i64 x47, .int .i64 x48, .slice s49.a s49.n s49.c]⟩, .int .i64 x50, .agg ⟨[.int .i64 x54, .int .i64 x55, .slice s56.a s56.n s56.c, .int .i64 x57, .int .i64 x58, .slice s59.a s59.n s59.c, .int .i64 x60, .int .i64 x61, .slice s62.a s62.n s62.c]⟩, .int .i64 x63] r103.2) fun r116 =>
 ob ((some r116.1).bind Value.bool?) fun b117 =>
 bb b117
 (ob (acall P T k lo F.zoetropelaw05_toldFrame [.agg ⟨[.int .i64 x67, .int .i64 x68, .slice s69.a s69.n s69.c, .int .i64 x70, .int .i64 x71, .slice s72.a s72.n s72.c, .int .i64 x73, .int .i64 x74, .slice s75.a s75.n s75.c]⟩, .int .i64 x76, .agg ⟨[.int .i64 x80, .int .i64 x81, .slice s82.a s82.n s82.c, .int .i64 x83, .int .i64 x84, .slice s85.a s85.n s85.c, .int .i64 x86, .int .i64 x87, .slice s88.a s88.n s88.c]⟩, .int .i64 x89] r116.2) fun r118 =>
 ob ((some r118.1).bind Value.bool?) fun b119 =>
 bb b119
 (ob (acall P T k lo F.zoetropelaw05_toldFrame [.agg ⟨[.int .i64 x93, .int .i64 x94, .slice s95.a s95.n s95.c, .int .i64 x96, .int .i64 x97, .slice s98.a s98.n s98.c, .int .i64 x99, .int .i64 x100, .slice s101.a s101.n s101.c]⟩, .int .i64 x102, .agg ⟨[.int .i64 x106, .int .i64 x107, .slice s108.a s108.n s108.c, .int .i64 x109, .int .i64 x110, .slice s111.a s111.n s111.c, .int .i64 x112, .int .i64 x113, .slice s114.a s114.n s114.c]⟩, .int .i64 x115] r118.2) fun r120 =>
 ob ((some r120.1).bind Value.bool?) fun b121 =>
 bb b121
 (ob (acall P T k lo F.zoetroperef05_SameFrame [.agg ⟨[.int .i64 x25, .int .i64 x26, .slice s27.a s27.n s27.c, .int .i64 x28, .int .i64 x29, .slice s30.a s30.n s30.c, .int .i64 x31, .int .i64 x32, .slice s33.a s33.n s33.c]⟩, .agg ⟨[.int .i64 x1, .int .i64 x2, .slice A3 n4 c5, .int .i64 x6, .int .i64 x7, .slice A8 n9 c10, .int .i64 x11, .int .i64 x12, .slice A13 n14 c15]⟩] r120.2) fun r122 =>
 ob ((some r122.1).bind Value.bool?) fun b123 =>
 bb b123
 (ob (acall P T k lo F.zoetropelaw05_works [] r122.2) fun r124 =>
 ob ((some r124.1).bind Value.bool?) fun b125 =>
 some (.ret (.bool b125) r124.2))
 (some (.ret (.bool false) r122.2)))
 (some (.ret (.bool false) r120.2)))
 (some (.ret (.bool false) r118.2)))
 (some (.ret (.bool false) r116.2))) := by kernel_rfl
theorem zoetropelaw05_PlaneLaid.entry (k lo : Nat) (x1 : Int) (x2 : Int) (A3 : Option Addr) (n4 : Nat) (c5 : Nat) (x6 : Int) (x7 : Int) (x8 : Int) (x9 : Int) (x10 : Int) (M : Mem) : entry P T k lo F.zoetropelaw05_PlaneLaid [.agg ⟨[.int .i64 x1, .int .i64 x2, .slice A3 n4 c5]⟩, .agg ⟨[.int .i64 x6, .int .i64 x7, .int .i64 x8, .int .i64 x9]⟩, .int .i64 x10] M =
 ob (acall P T k lo F.zoetropelaw05_works [] M) fun r16 =>
 ob ((some r16.1).bind Value.bool?) fun b17 =>
 bb (!b17)
 (some (.ret (.bool false) r16.2))
 (ob (acall P T k lo F.plane_Check [.agg ⟨[.int .i64 x1, .int .i64 x2, .slice A3 n4 c5]⟩] r16.2) fun r18 =>
 ob ((some r18.1).bind (Value.int? .i64)) fun x19 =>
 bb (x19 != 0)
 (ob (acall P T k lo F.plane_Cut [.agg ⟨[.int .i64 x1, .int .i64 x2, .slice A3 n4 c5]⟩, .agg ⟨[.int .i64 x6, .int .i64 x7, .int .i64 x8, .int .i64 x9]⟩] r18.2) fun r20 =>
 ob (r20.1.tup? 2) fun l21 =>
 ob ((l21[0]?).bind Value.slc?) fun s22 =>
 ob ((l21[1]?).bind (Value.int? .i64)) fun x23 =>
 some (.ret (.bool (x23 == 2)) r20.2))
 (ob (acall P T k lo F.zoetropelaw05_solid [.agg ⟨[.int .i64 x1, .int .i64 x2, .slice A3 n4 c5]⟩] r18.2) fun r24 =>
 ob ((some r24.1).bind Value.bool?) fun b25 =>
 bb (!b25)
 (some (.ret (.bool false) r24.2))
 (ob (acall P T k lo F.zoetropelaw05_inside [.agg ⟨[.int .i64 x1, .int .i64 x2, .slice A3 n4 c5]⟩, .agg ⟨[.int .i64 x6, .int .i64 x7, .int .i64 x8, .int .i64 x9]⟩] r24.2) fun r26 =>
 ob ((some r26.1).bind (Value.agg? 4)) fun l27 =>
 ob ((l27[0]?).bind (Value.int? .i64)) fun x28 =>
 ob ((l27[1]?).bind (Value.int? .i64)) fun x29 =>
 ob ((l27[2]?).bind (Value.int? .i64)) fun x30 =>
 ob ((l27[3]?).bind (Value.int? .i64)) fun x31 =>
 pb (0 ≤ IntKind.i64.wrap (x30 * x31) ∧ room ((IntKind.i64.wrap (x30 * x31)).toNat) 1)
 (some (zoetropelaw05_PlaneLaid.c2036 x10 (some ⟨r26.2.length, 0, none⟩) ((IntKind.i64.wrap (x30 * x31)).toNat) ((IntKind.i64.wrap (x30 * x31)).toNat) 0 x1 x2 A3 n4 c5 x28 x29 x30 x31 (r26.2 ++ [⟨.fx, zerosL [.int .u8 0] ((IntKind.i64.wrap (x30 * x31)).toNat)⟩] : Mem))) none))) := by kernel_rfl
theorem zoetropelaw05_PlaneLaid.p2036 (k lo : Nat) (x1 : Int) (A2 : Option Addr) (n3 : Nat) (c4 : Nat) (x5 : Int) (x6 : Int) (x7 : Int) (A8 : Option Addr) (n9 : Nat) (c10 : Nat) (x11 : Int) (x12 : Int) (x13 : Int) (x14 : Int) (M : Mem) : piece P T k lo F.zoetropelaw05_PlaneLaid 2036 [.v (.int .i64 x1), .l 3 0, .l 4 0, .v (.slice A2 n3 c4), .v (.int .i64 x5)] [[.int .i64 x6, .int .i64 x7, .slice A8 n9 c10], [.int .i64 x11, .int .i64 x12, .int .i64 x13, .int .i64 x14]] M =
 bb (decide (x5 < (n3 : Int)))
 (pb (0 ≤ x5 ∧ x5 < (n3 : Int))
 (ob A2 fun a32 =>
 ob (M.st lo (plus a32 x5.toNat) [.int .u8 (IntKind.u8.wrap (IntKind.i64.wrap (x1 + (IntKind.i64.wrap (7 * x5)))))]) fun M33 =>
 some (zoetropelaw05_PlaneLaid.c2036 x1 A2 n3 c4 (IntKind.i64.wrap (x5 + 1)) x6 x7 A8 n9 c10 x11 x12 x13 x14 M33)) none)
 (ob (acall P T k lo F.plane_Lay [.agg ⟨[.int .i64 x6, .int .i64 x7, .slice A8 n9 c10]⟩, .agg ⟨[.int .i64 x11, .int .i64 x12, .int .i64 x13, .int .i64 x14]⟩, .slice A2 n3 c4] M) fun r34 =>
 ob (r34.1.tup? 2) fun l35 =>
 ob ((l35[0]?).bind (Value.agg? 3)) fun l36 =>
 ob ((l36[0]?).bind (Value.int? .i64)) fun x37 =>
 ob ((l36[1]?).bind (Value.int? .i64)) fun x38 =>
 ob ((l36[2]?).bind Value.slc?) fun s39 =>
 ob ((l35[1]?).bind (Value.int? .i64)) fun x40 =>
 ob (acall P T k lo F.plane_Cut [.agg ⟨[.int .i64 x37, .int .i64 x38, .slice s39.a s39.n s39.c]⟩, .agg ⟨[.int .i64 x11, .int .i64 x12, .int .i64 x13, .int .i64 x14]⟩] r34.2) fun r41 =>
 ob (r41.1.tup? 2) fun l42 =>
 ob ((l42[0]?).bind Value.slc?) fun s43 =>
 ob ((l42[1]?).bind (Value.int? .i64)) fun x44 =>
 ob (acall P T k lo F.plane_Cut [.agg ⟨[.int .i64 x6, .int .i64 x7, .slice A8 n9 c10]⟩, .agg ⟨[.int .i64 x11, .int .i64 x12, .int .i64 x13, .int .i64 x14]⟩] r41.2) fun r45 =>
 ob (r45.1.tup? 2) fun l46 =>
 ob ((l46[0]?).bind Value.slc?) fun s47 =>
 ob ((l46[1]?).bind (Value.int? .i64)) fun x48 =>
 ob (acall P T k lo F.plane_Lay [.agg ⟨[.int .i64 x37, .int .i64 x38, .slice s39.a s39.n s39.c]⟩, .agg ⟨[.int .i64 x11, .int .i64 x12, .int .i64 x13, .int .i64 x14]⟩, .slice s47.a s47.n s47.c] r45.2) fun r49 =>
 ob (r49.1.tup? 2) fun l50 =>
 ob ((l50[0]?).bind (Value.agg? 3)) fun l51 =>
 ob ((l51[0]?).bind (Value.int? .i64)) fun x52 =>
 ob ((l51[1]?).bind (Value.int? .i64)) fun x53 =>
 ob ((l51[2]?).bind Value.slc?) fun s54 =>
 ob ((l50[1]?).bind (Value.int? .i64)) fun x55 =>
 bb (x40 != 0)
 (some (.ret (.bool false) r49.2))
 (bb (x44 != 0)
 (some (.ret (.bool false) r49.2))
 (bb (x48 != 0)
 (some (.ret (.bool false) r49.2))
 (bb (x55 != 0)
 (some (.ret (.bool false) r49.2))
 (ob (acall P T k lo F.zoetroperef00_EqBytes [.slice s43.a s43.n s43.c, .slice A2 n3 c4] r49.2) fun r56 =>
 ob ((some r56.1).bind Value.bool?) fun b57 =>
 bb (!b57)
 (some (.ret (.bool false) r56.2))
 (ob (acall P T k lo F.plane_Same [.agg ⟨[.int .i64 x52, .int .i64 x53, .slice s54.a s54.n s54.c]⟩, .agg ⟨[.int .i64 x6, .int .i64 x7, .slice A8 n9 c10]⟩] r56.2) fun r58 =>
 ob ((some r58.1).bind Value.bool?) fun b59 =>
 bb (!b59)
 (some (.ret (.bool false) r58.2))
 (bb ((s39.n : Int) != (n9 : Int))
 (some (.ret (.bool false) r58.2))
 (some (zoetropelaw05_PlaneLaid.c131060 0 x6 x7 A8 n9 c10 x11 x12 x13 x14 x37 x38 s39.a s39.n s39.c r58.2))))))))) := by kernel_rfl
theorem zoetropelaw05_PlaneLaid.p131060 (k lo : Nat) (x1 : Int) (x2 : Int) (x3 : Int) (A4 : Option Addr) (n5 : Nat) (c6 : Nat) (x7 : Int) (x8 : Int) (x9 : Int) (x10 : Int) (x11 : Int) (x12 : Int) (A13 : Option Addr) (n14 : Nat) (c15 : Nat) (M : Mem) : piece P T k lo F.zoetropelaw05_PlaneLaid 131060 [.l 3 0, .l 4 0, .l 11 0, .v (.int .i64 x1)] [[.int .i64 x2, .int .i64 x3, .slice A4 n5 c6], [.int .i64 x7, .int .i64 x8, .int .i64 x9, .int .i64 x10], [.int .i64 x11, .int .i64 x12, .slice A13 n14 c15]] M =
 bb (decide (x1 < (n5 : Int)))
 (pb (x2 = 0) none
 (pb (x2 = 0) none
 (bb (decide (Int.tmod x1 x2 ≥ x7))
 (bb (decide (Int.tmod x1 x2 < IntKind.i64.wrap (x7 + x9)))
 (bb (decide (IntKind.i64.wrap (Int.tdiv x1 x2) ≥ x8))
 (bb (!decide (IntKind.i64.wrap (Int.tdiv x1 x2) < IntKind.i64.wrap (x8 + x10)))
 (pb (0 ≤ x1 ∧ x1 < (n14 : Int))
 (ob A13 fun a60 =>
 ob ((M.ld (plus a60 x1.toNat)).bind (Value.int? .u8)) fun x61 =>
 pb (0 ≤ x1 ∧ x1 < (n5 : Int))
 (ob A4 fun a62 =>
 ob ((M.ld (plus a62 x1.toNat)).bind (Value.int? .u8)) fun x63 =>
 bb (x61 != x63)
 (some (.ret (.bool false) M))
 (some (zoetropelaw05_PlaneLaid.c131060 (IntKind.i64.wrap (x1 + 1)) x2 x3 A4 n5 c6 x7 x8 x9 x10 x11 x12 A13 n14 c15 M))) none) none)
 (some (zoetropelaw05_PlaneLaid.c131060 (IntKind.i64.wrap (x1 + 1)) x2 x3 A4 n5 c6 x7 x8 x9 x10 x11 x12 A13 n14 c15 M)))
 (pb (0 ≤ x1 ∧ x1 < (n14 : Int))
 (ob A13 fun a64 =>
 ob ((M.ld (plus a64 x1.toNat)).bind (Value.int? .u8)) fun x65 =>
 pb (0 ≤ x1 ∧ x1 < (n5 : Int))
 (ob A4 fun a66 =>
 ob ((M.ld (plus a66 x1.toNat)).bind (Value.int? .u8)) fun x67 =>
 bb (x65 != x67)
 (some (.ret (.bool false) M))
 (some (zoetropelaw05_PlaneLaid.c131060 (IntKind.i64.wrap (x1 + 1)) x2 x3 A4 n5 c6 x7 x8 x9 x10 x11 x12 A13 n14 c15 M))) none) none))
 (pb (0 ≤ x1 ∧ x1 < (n14 : Int))
 (ob A13 fun a68 =>
 ob ((M.ld (plus a68 x1.toNat)).bind (Value.int? .u8)) fun x69 =>
 pb (0 ≤ x1 ∧ x1 < (n5 : Int))
 (ob A4 fun a70 =>
 ob ((M.ld (plus a70 x1.toNat)).bind (Value.int? .u8)) fun x71 =>
 bb (x69 != x71)
 (some (.ret (.bool false) M))
 (some (zoetropelaw05_PlaneLaid.c131060 (IntKind.i64.wrap (x1 + 1)) x2 x3 A4 n5 c6 x7 x8 x9 x10 x11 x12 A13 n14 c15 M))) none) none))
 (pb (0 ≤ x1 ∧ x1 < (n14 : Int))
 (ob A13 fun a72 =>
 ob ((M.ld (plus a72 x1.toNat)).bind (Value.int? .u8)) fun x73 =>
 pb (0 ≤ x1 ∧ x1 < (n5 : Int))
 (ob A4 fun a74 =>
 ob ((M.ld (plus a74 x1.toNat)).bind (Value.int? .u8)) fun x75 =>
 bb (x73 != x75)
 (some (.ret (.bool false) M))
 (some (zoetropelaw05_PlaneLaid.c131060 (IntKind.i64.wrap (x1 + 1)) x2 x3 A4 n5 c6 x7 x8 x9 x10 x11 x12 A13 n14 c15 M))) none) none))))
 (some (.ret (.bool true) M)) := by kernel_rfl
theorem zoetropelaw05_PlaneApart.entry (k lo : Nat) (x1 : Int) (x2 : Int) (A3 : Option Addr) (n4 : Nat) (c5 : Nat) (x6 : Int) (x7 : Int) (M : Mem) : entry P T k lo F.zoetropelaw05_PlaneApart [.agg ⟨[.int .i64 x1, .int .i64 x2, .slice A3 n4 c5]⟩, .int .i64 x6, .int .u8 x7] M =
 ob (acall P T k lo F.zoetropelaw05_works [] M) fun r13 =>
 ob ((some r13.1).bind Value.bool?) fun b14 =>
 bb (!b14)
 (some (.ret (.bool false) r13.2))
 (ob (acall P T k lo F.plane_Check [.agg ⟨[.int .i64 x1, .int .i64 x2, .slice A3 n4 c5]⟩] r13.2) fun r15 =>
 ob ((some r15.1).bind (Value.int? .i64)) fun x16 =>
 bb (x16 != 0)
 (ob (acall P T k lo F.plane_Apart [.agg ⟨[.int .i64 x1, .int .i64 x2, .slice A3 n4 c5]⟩, .agg ⟨[.int .i64 x1, .int .i64 x2, .slice A3 n4 c5]⟩] r15.2) fun r17 =>
 ob (r17.1.tup? 2) fun l18 =>
 ob ((l18[0]?).bind (Value.int? .u64)) fun x19 =>
 ob ((l18[1]?).bind (Value.int? .i64)) fun x20 =>
 some (.ret (.bool (x20 == 2)) r17.2))
 (ob (acall P T k lo F.zoetropelaw05_solid [.agg ⟨[.int .i64 x1, .int .i64 x2, .slice A3 n4 c5]⟩] r15.2) fun r21 =>
 ob ((some r21.1).bind Value.bool?) fun b22 =>
 bb (!b22)
 (some (.ret (.bool false) r21.2))
 (ob (acall P T k lo F.zoetroperef00_Bring [.int .i64 x6, .int .i64 (n4 : Int)] r21.2) fun r23 =>
 ob ((some r23.1).bind (Value.int? .i64)) fun x24 =>
 pb (x1 = 0) none
 (pb (x1 = 0) none
 (ob (acall P T k r23.2.length F.plane_Lay [.agg ⟨[.int .i64 x1, .int .i64 x2, .slice A3 n4 c5]⟩, .agg ⟨[.int .i64 (Int.tmod x24 x1), .int .i64 (IntKind.i64.wrap (Int.tdiv x24 x1)), .int .i64 1, .int .i64 1]⟩, .slice (some ⟨r23.2.length, 0, none⟩) 1 1] (r23.2 ++ [⟨.fx, [.int .u8 x7]⟩] : Mem)) fun r25 =>
 ob (r25.1.tup? 2) fun l26 =>
 ob ((l26[0]?).bind (Value.agg? 3)) fun l27 =>
 ob ((l27[0]?).bind (Value.int? .i64)) fun x28 =>
 ob ((l27[1]?).bind (Value.int? .i64)) fun x29 =>
 ob ((l27[2]?).bind Value.slc?) fun s30 =>
 ob ((l26[1]?).bind (Value.int? .i64)) fun x31 =>
 ob (acall P T k lo F.plane_Apart [.agg ⟨[.int .i64 x1, .int .i64 x2, .slice A3 n4 c5]⟩, .agg ⟨[.int .i64 x28, .int .i64 x29, .slice s30.a s30.n s30.c]⟩] r25.2) fun r32 =>
 ob (r32.1.tup? 2) fun l33 =>
 ob ((l33[0]?).bind (Value.int? .u64)) fun x34 =>
 ob ((l33[1]?).bind (Value.int? .i64)) fun x35 =>
 ob (acall P T k lo F.plane_Apart [.agg ⟨[.int .i64 x28, .int .i64 x29, .slice s30.a s30.n s30.c]⟩, .agg ⟨[.int .i64 x1, .int .i64 x2, .slice A3 n4 c5]⟩] r32.2) fun r36 =>
 ob (r36.1.tup? 2) fun l37 =>
 ob ((l37[0]?).bind (Value.int? .u64)) fun x38 =>
 ob ((l37[1]?).bind (Value.int? .i64)) fun x39 =>
 ob (acall P T k lo F.plane_Apart [.agg ⟨[.int .i64 x1, .int .i64 x2, .slice A3 n4 c5]⟩, .agg ⟨[.int .i64 x1, .int .i64 x2, .slice A3 n4 c5]⟩] r36.2) fun r40 =>
 ob (r40.1.tup? 2) fun l41 =>
 ob ((l41[0]?).bind (Value.int? .u64)) fun x42 =>
 ob ((l41[1]?).bind (Value.int? .i64)) fun x43 =>
 pb (0 ≤ x24 ∧ x24 < (n4 : Int))
 (ob A3 fun a44 =>
 ob ((r40.2.ld (plus a44 x24.toNat)).bind (Value.int? .u8)) fun x45 =>
 bb (x31 == 0)
 (bb (x35 == 0)
 (bb (x39 == 0)
 (bb (x43 == 0)
 (bb (x42 == 0)
 (bb (x34 == x38)
 (bb (x34 == IntKind.u64.wrap (IntKind.i64.wrap ((IntKind.i64.wrap ((IntKind.i64.wrap x7) - (IntKind.i64.wrap x45))) * (IntKind.i64.wrap ((IntKind.i64.wrap x7) - (IntKind.i64.wrap x45))))))
 (ob (acall P T k lo F.plane_Same [.agg ⟨[.int .i64 x1, .int .i64 x2, .slice A3 n4 c5]⟩, .agg ⟨[.int .i64 x28, .int .i64 x29, .slice s30.a s30.n s30.c]⟩] r40.2) fun r46 =>
 ob ((some r46.1).bind Value.bool?) fun b47 =>
 some (.ret (.bool ((x34 == 0) == b47)) r46.2))
 (some (.ret (.bool false) r40.2)))
 (some (.ret (.bool false) r40.2)))
 (some (.ret (.bool false) r40.2)))
 (some (.ret (.bool false) r40.2)))
 (some (.ret (.bool false) r40.2)))
 (some (.ret (.bool false) r40.2)))
 (some (.ret (.bool false) r40.2))) none))))) := by kernel_rfl
theorem zoetropelaw05_PlaneTells.entry (k lo : Nat) (x1 : Int) (x2 : Int) (A3 : Option Addr) (n4 : Nat) (c5 : Nat) (x6 : Int) (x7 : Int) (A8 : Option Addr) (n9 : Nat) (c10 : Nat) (x11 : Int) (x12 : Int) (M : Mem) : entry P T k lo F.zoetropelaw05_PlaneTells [.agg ⟨[.int .i64 x1, .int .i64 x2, .slice A3 n4 c5]⟩, .agg ⟨[.int .i64 x6, .int .i64 x7, .slice A8 n9 c10]⟩, .agg ⟨[.int .i64 x11, .int .i64 x12]⟩] M =
 ob (acall P T k M.length F.zoetroperef05_CopyPlane [.agg ⟨[.int .i64 x1, .int .i64 x2, .slice A3 n4 c5]⟩] M) fun r18 =>
 ob ((some r18.1).bind (Value.agg? 3)) fun l19 =>
 ob ((l19[0]?).bind (Value.int? .i64)) fun x20 =>
 ob ((l19[1]?).bind (Value.int? .i64)) fun x21 =>
 ob ((l19[2]?).bind Value.slc?) fun s22 =>
 ob (acall P T k M.length F.zoetroperef05_CopyPlane [.agg ⟨[.int .i64 x6, .int .i64 x7, .slice A8 n9 c10]⟩] r18.2) fun r23 =>
 ob ((some r23.1).bind (Value.agg? 3)) fun l24 =>
 ob ((l24[0]?).bind (Value.int? .i64)) fun x25 =>
 ob ((l24[1]?).bind (Value.int? .i64)) fun x26 =>
 ob ((l24[2]?).bind Value.slc?) fun s27 =>
 ob (acall P T k r23.2.length F.plane_Check [.agg ⟨[.int .i64 x20, .int .i64 x21, .slice s22.a s22.n s22.c]⟩] r23.2) fun r28 =>
 ob ((some r28.1).bind (Value.int? .i64)) fun x29 =>
 ob (acall P T k r23.2.length F.zoetroperef05_Check [.agg ⟨[.int .i64 x1, .int .i64 x2, .slice A3 n4 c5]⟩] r28.2) fun r30 =>
 ob ((some r30.1).bind (Value.int? .i64)) fun x31 =>
 bb (x29 != x31)
 (some (.ret (.bool false) r30.2))
 (ob (acall P T k r23.2.length F.plane_Same [.agg ⟨[.int .i64 x20, .int .i64 x21, .slice s22.a s22.n s22.c]⟩, .agg ⟨[.int .i64 x25, .int .i64 x26, .slice s27.a s27.n s27.c]⟩] r30.2) fun r32 =>
 ob ((some r32.1).bind Value.bool?) fun b33 =>
 ob (acall P T k r23.2.length F.zoetroperef05_Same [.agg ⟨[.int .i64 x1, .int .i64 x2, .slice A3 n4 c5]⟩, .agg ⟨[.int .i64 x6, .int .i64 x7, .slice A8 n9 c10]⟩] r32.2) fun r34 =>
 ob ((some r34.1).bind Value.bool?) fun b35 =>
 bb (!(b33 == b35))
 (some (.ret (.bool false) r34.2))
 (ob (acall P T k r23.2.length F.zoetroperef05_CopyPlane [.agg ⟨[.int .i64 x1, .int .i64 x2, .slice A3 n4 c5]⟩] r34.2) fun r36 =>
 ob ((some r36.1).bind (Value.agg? 3)) fun l37 =>
 ob ((l37[0]?).bind (Value.int? .i64)) fun x38 =>
 ob ((l37[1]?).bind (Value.int? .i64)) fun x39 =>
 ob ((l37[2]?).bind Value.slc?) fun s40 =>
 ob (acall P T k r23.2.length F.plane_Same [.agg ⟨[.int .i64 x20, .int .i64 x21, .slice s22.a s22.n s22.c]⟩, .agg ⟨[.int .i64 x38, .int .i64 x39, .slice s40.a s40.n s40.c]⟩] r36.2) fun r41 =>
 ob ((some r41.1).bind Value.bool?) fun b42 =>
 bb (!b42)
 (some (.ret (.bool false) r41.2))
 (some (zoetropelaw05_PlaneTells.c244 (-2) x1 x2 A3 n4 c5 x6 x7 A8 n9 c10 x11 x12 x20 x21 s22.a s22.n s22.c x25 x26 s27.a s27.n s27.c r41.2)))) := by kernel_rfl
theorem zoetropelaw05_PlaneTells.p244 (k lo : Nat) (x1 : Int) (x2 : Int) (x3 : Int) (A4 : Option Addr) (n5 : Nat) (c6 : Nat) (x7 : Int) (x8 : Int) (A9 : Option Addr) (n10 : Nat) (c11 : Nat) (x12 : Int) (x13 : Int) (x14 : Int) (x15 : Int) (A16 : Option Addr) (n17 : Nat) (c18 : Nat) (x19 : Int) (x20 : Int) (A21 : Option Addr) (n22 : Nat) (c23 : Nat) (M : Mem) : piece P T k lo F.zoetropelaw05_PlaneTells 244 [.l 3 0, .l 4 0, .l 5 0, .l 7 0, .l 8 0, .v (.int .i64 x1)] [[.int .i64 x2, .int .i64 x3, .slice A4 n5 c6], [.int .i64 x7, .int .i64 x8, .slice A9 n10 c11], [.int .i64 x12, .int .i64 x13], [.int .i64 x14, .int .i64 x15, .slice A16 n17 c18], [.int .i64 x19, .int .i64 x20, .slice A21 n22 c23]] M =
 bb (decide (x1 < 20))
 (ob (acall P T k M.length F.plane_At [.agg ⟨[.int .i64 x14, .int .i64 x15, .slice A16 n17 c18]⟩, .int .i64 (IntKind.i64.wrap (x12 + x1)), .int .i64 (IntKind.i64.wrap (x13 - x1))] M) fun r43 =>
 ob ((some r43.1).bind (Value.int? .u8)) fun x44 =>
 ob (acall P T k M.length F.zoetroperef05_At [.agg ⟨[.int .i64 x2, .int .i64 x3, .slice A4 n5 c6]⟩, .int .i64 (IntKind.i64.wrap (x12 + x1)), .int .i64 (IntKind.i64.wrap (x13 - x1))] r43.2) fun r45 =>
 ob ((some r45.1).bind (Value.int? .u8)) fun x46 =>
 bb (x44 != x46)
 (some (.ret (.bool false) r45.2))
 (ob (acall P T k M.length F.plane_At [.agg ⟨[.int .i64 x14, .int .i64 x15, .slice A16 n17 c18]⟩, .int .i64 x1, .int .i64 (Int.tmod x1 3)] r45.2) fun r47 =>
 ob ((some r47.1).bind (Value.int? .u8)) fun x48 =>
 ob (acall P T k M.length F.zoetroperef05_At [.agg ⟨[.int .i64 x2, .int .i64 x3, .slice A4 n5 c6]⟩, .int .i64 x1, .int .i64 (Int.tmod x1 3)] r47.2) fun r49 =>
 ob ((some r49.1).bind (Value.int? .u8)) fun x50 =>
 bb (x48 != x50)
 (some (.ret (.bool false) r49.2))
 (some (zoetropelaw05_PlaneTells.c244 (IntKind.i64.wrap (x1 + 1)) x2 x3 A4 n5 c6 x7 x8 A9 n10 c11 x12 x13 x14 x15 A16 n17 c18 x19 x20 A21 n22 c23 r49.2))))
 (ob (acall P T k lo F.plane_Apart [.agg ⟨[.int .i64 x14, .int .i64 x15, .slice A16 n17 c18]⟩, .agg ⟨[.int .i64 x19, .int .i64 x20, .slice A21 n22 c23]⟩] M) fun r51 =>
 ob (r51.1.tup? 2) fun l52 =>
 ob ((l52[0]?).bind (Value.int? .u64)) fun x53 =>
 ob ((l52[1]?).bind (Value.int? .i64)) fun x54 =>
 ob (acall P T k lo F.zoetroperef05_Apart [.agg ⟨[.int .i64 x2, .int .i64 x3, .slice A4 n5 c6]⟩, .agg ⟨[.int .i64 x7, .int .i64 x8, .slice A9 n10 c11]⟩] r51.2) fun r55 =>
 ob (r55.1.tup? 2) fun l56 =>
 ob ((l56[0]?).bind (Value.int? .u64)) fun x57 =>
 ob ((l56[1]?).bind (Value.int? .i64)) fun x58 =>
 ob (acall P T k lo F.plane_New [.int .i64 x12, .int .i64 x13, .int .u8 77] r55.2) fun r59 =>
 ob (r59.1.tup? 2) fun l60 =>
 ob ((l60[0]?).bind (Value.agg? 3)) fun l61 =>
 ob ((l61[0]?).bind (Value.int? .i64)) fun x62 =>
 ob ((l61[1]?).bind (Value.int? .i64)) fun x63 =>
 ob ((l61[2]?).bind Value.slc?) fun s64 =>
 ob ((l60[1]?).bind (Value.int? .i64)) fun x65 =>
 ob (acall P T k lo F.zoetroperef05_New [.int .i64 x12, .int .i64 x13, .int .u8 77] r59.2) fun r66 =>
 ob (r66.1.tup? 2) fun l67 =>
 ob ((l67[0]?).bind (Value.agg? 3)) fun l68 =>
 ob ((l68[0]?).bind (Value.int? .i64)) fun x69 =>
 ob ((l68[1]?).bind (Value.int? .i64)) fun x70 =>
 ob ((l68[2]?).bind Value.slc?) fun s71 =>
 ob ((l67[1]?).bind (Value.int? .i64)) fun x72 =>
 bb (x53 == x57)
 (bb (x54 == x58)
 (ob (acall P T k lo F.zoetropelaw05_told [.agg ⟨[.int .i64 x62, .int .i64 x63, .slice s64.a s64.n s64.c]⟩, .int .i64 x65, .agg ⟨[.int .i64 x69, .int .i64 x70, .slice s71.a s71.n s71.c]⟩, .int .i64 x72] r66.2) fun r73 =>
 ob ((some r73.1).bind Value.bool?) fun b74 =>
 bb b74
 (ob (acall P T k lo F.zoetroperef05_Same [.agg ⟨[.int .i64 x14, .int .i64 x15, .slice A16 n17 c18]⟩, .agg ⟨[.int .i64 x2, .int .i64 x3, .slice A4 n5 c6]⟩] r73.2) fun r75 =>
 ob ((some r75.1).bind Value.bool?) fun b76 =>
 bb b76
 (ob (acall P T k lo F.zoetroperef05_Same [.agg ⟨[.int .i64 x19, .int .i64 x20, .slice A21 n22 c23]⟩, .agg ⟨[.int .i64 x7, .int .i64 x8, .slice A9 n10 c11]⟩] r75.2) fun r77 =>
 ob ((some r77.1).bind Value.bool?) fun b78 =>
 bb b78
 (ob (acall P T k lo F.zoetropelaw05_works [] r77.2) fun r79 =>
 ob ((some r79.1).bind Value.bool?) fun b80 =>
 some (.ret (.bool b80) r79.2))
 (some (.ret (.bool false) r77.2)))
 (some (.ret (.bool false) r75.2)))
 (some (.ret (.bool false) r73.2)))
 (some (.ret (.bool false) r66.2)))
 (some (.ret (.bool false) r66.2))) := by kernel_rfl
theorem zoetropelaw05_PlaneBack.entry (k lo : Nat) (x1 : Int) (x2 : Int) (A3 : Option Addr) (n4 : Nat) (c5 : Nat) (x6 : Int) (x7 : Int) (A8 : Option Addr) (n9 : Nat) (c10 : Nat) (x11 : Int) (x12 : Int) (A13 : Option Addr) (n14 : Nat) (c15 : Nat) (x16 : Int) (x17 : Int) (M : Mem) : entry P T k lo F.zoetropelaw05_PlaneBack [.agg ⟨[.int .i64 x1, .int .i64 x2, .slice A3 n4 c5, .int .i64 x6, .int .i64 x7, .slice A8 n9 c10, .int .i64 x11, .int .i64 x12, .slice A13 n14 c15]⟩, .int .i64 x16, .int .i64 x17] M =
 ob (acall P T k lo F.zoetropelaw05_works [] M) fun r23 =>
 ob ((some r23.1).bind Value.bool?) fun b24 =>
 bb (!b24)
 (some (.ret (.bool false) r23.2))
 (ob (acall P T k lo F.plane_Whole [.agg ⟨[.int .i64 x1, .int .i64 x2, .slice A3 n4 c5, .int .i64 x6, .int .i64 x7, .slice A8 n9 c10, .int .i64 x11, .int .i64 x12, .slice A13 n14 c15]⟩] r23.2) fun r25 =>
 ob ((some r25.1).bind (Value.int? .i64)) fun x26 =>
 bb (x26 != 0)
 (ob (acall P T k lo F.plane_Coded [.agg ⟨[.int .i64 x1, .int .i64 x2, .slice A3 n4 c5, .int .i64 x6, .int .i64 x7, .slice A8 n9 c10, .int .i64 x11, .int .i64 x12, .slice A13 n14 c15]⟩] r25.2) fun r27 =>
 ob (r27.1.tup? 2) fun l28 =>
 ob ((l28[0]?).bind (Value.agg? 9)) fun l29 =>
 ob ((l29[0]?).bind (Value.int? .i64)) fun x30 =>
 ob ((l29[1]?).bind (Value.int? .i64)) fun x31 =>
 ob ((l29[2]?).bind Value.slc?) fun s32 =>
 ob ((l29[3]?).bind (Value.int? .i64)) fun x33 =>
 ob ((l29[4]?).bind (Value.int? .i64)) fun x34 =>
 ob ((l29[5]?).bind Value.slc?) fun s35 =>
 ob ((l29[6]?).bind (Value.int? .i64)) fun x36 =>
 ob ((l29[7]?).bind (Value.int? .i64)) fun x37 =>
 ob ((l29[8]?).bind Value.slc?) fun s38 =>
 ob ((l28[1]?).bind (Value.int? .i64)) fun x39 =>
 some (.ret (.bool (x39 == 2)) r27.2))
 (ob (acall P T k lo F.plane_Coded [.agg ⟨[.int .i64 x1, .int .i64 x2, .slice A3 n4 c5, .int .i64 x6, .int .i64 x7, .slice A8 n9 c10, .int .i64 x11, .int .i64 x12, .slice A13 n14 c15]⟩] r25.2) fun r40 =>
 ob (r40.1.tup? 2) fun l41 =>
 ob ((l41[0]?).bind (Value.agg? 9)) fun l42 =>
 ob ((l42[0]?).bind (Value.int? .i64)) fun x43 =>
 ob ((l42[1]?).bind (Value.int? .i64)) fun x44 =>
 ob ((l42[2]?).bind Value.slc?) fun s45 =>
 ob ((l42[3]?).bind (Value.int? .i64)) fun x46 =>
 ob ((l42[4]?).bind (Value.int? .i64)) fun x47 =>
 ob ((l42[5]?).bind Value.slc?) fun s48 =>
 ob ((l42[6]?).bind (Value.int? .i64)) fun x49 =>
 ob ((l42[7]?).bind (Value.int? .i64)) fun x50 =>
 ob ((l42[8]?).bind Value.slc?) fun s51 =>
 ob ((l41[1]?).bind (Value.int? .i64)) fun x52 =>
 ob (acall P T k lo F.plane_Crop [.agg ⟨[.int .i64 x43, .int .i64 x44, .slice s45.a s45.n s45.c, .int .i64 x46, .int .i64 x47, .slice s48.a s48.n s48.c, .int .i64 x49, .int .i64 x50, .slice s51.a s51.n s51.c]⟩, .int .i64 x1, .int .i64 x2] r40.2) fun r53 =>
 ob (r53.1.tup? 2) fun l54 =>
 ob ((l54[0]?).bind (Value.agg? 9)) fun l55 =>
 ob ((l55[0]?).bind (Value.int? .i64)) fun x56 =>
 ob ((l55[1]?).bind (Value.int? .i64)) fun x57 =>
 ob ((l55[2]?).bind Value.slc?) fun s58 =>
 ob ((l55[3]?).bind (Value.int? .i64)) fun x59 =>
 ob ((l55[4]?).bind (Value.int? .i64)) fun x60 =>
 ob ((l55[5]?).bind Value.slc?) fun s61 =>
 ob ((l55[6]?).bind (Value.int? .i64)) fun x62 =>
 ob ((l55[7]?).bind (Value.int? .i64)) fun x63 =>
 ob ((l55[8]?).bind Value.slc?) fun s64 =>
 ob ((l54[1]?).bind (Value.int? .i64)) fun x65 =>
 ob (acall P T k lo F.plane_Coded [.agg ⟨[.int .i64 x43, .int .i64 x44, .slice s45.a s45.n s45.c, .int .i64 x46, .int .i64 x47, .slice s48.a s48.n s48.c, .int .i64 x49, .int .i64 x50, .slice s51.a s51.n s51.c]⟩] r53.2) fun r66 =>
 ob (r66.1.tup? 2) fun l67 =>
 ob ((l67[0]?).bind (Value.agg? 9)) fun l68 =>
 ob ((l68[0]?).bind (Value.int? .i64)) fun x69 =>
 ob ((l68[1]?).bind (Value.int? .i64)) fun x70 =>
 ob ((l68[2]?).bind Value.slc?) fun s71 =>
 ob ((l68[3]?).bind (Value.int? .i64)) fun x72 =>
 ob ((l68[4]?).bind (Value.int? .i64)) fun x73 =>
 ob ((l68[5]?).bind Value.slc?) fun s74 =>
 ob ((l68[6]?).bind (Value.int? .i64)) fun x75 =>
 ob ((l68[7]?).bind (Value.int? .i64)) fun x76 =>
 ob ((l68[8]?).bind Value.slc?) fun s77 =>
 ob ((l67[1]?).bind (Value.int? .i64)) fun x78 =>
 bb (x52 != 0)
 (some (.ret (.bool false) r66.2))
 (bb (x65 != 0)
 (some (.ret (.bool false) r66.2))
 (bb (x78 != 0)
 (some (.ret (.bool false) r66.2))
 (ob (acall P T k lo F.plane_Whole [.agg ⟨[.int .i64 x43, .int .i64 x44, .slice s45.a s45.n s45.c, .int .i64 x46, .int .i64 x47, .slice s48.a s48.n s48.c, .int .i64 x49, .int .i64 x50, .slice s51.a s51.n s51.c]⟩] r66.2) fun r79 =>
 ob ((some r79.1).bind (Value.int? .i64)) fun x80 =>
 bb (x80 != 0)
 (some (.ret (.bool false) r79.2))
 (bb (Int.tmod x43 8 != 0)
 (some (.ret (.bool false) r79.2))
 (bb (Int.tmod x44 8 != 0)
 (some (.ret (.bool false) r79.2))
 (bb (decide (IntKind.i64.wrap (x43 - x1) > 7))
 (some (.ret (.bool false) r79.2))
 (bb (decide (IntKind.i64.wrap (x44 - x2) > 7))
 (some (.ret (.bool false) r79.2))
 (some (zoetropelaw05_PlaneBack.c4084 x16 x17 0 x1 x2 A3 n4 c5 x6 x7 A8 n9 c10 x11 x12 A13 n14 c15 x43 x44 s45.a s45.n s45.c x46 x47 s48.a s48.n s48.c x49 x50 s51.a s51.n s51.c x56 x57 s58.a s58.n s58.c x59 x60 s61.a s61.n s61.c x62 x63 s64.a s64.n s64.c x69 x70 s71.a s71.n s71.c x72 x73 s74.a s74.n s74.c x75 x76 s77.a s77.n s77.c r79.2))))))))))) := by kernel_rfl
theorem zoetropelaw05_PlaneBack.p4084 (k lo : Nat) (x1 : Int) (x2 : Int) (x3 : Int) (x4 : Int) (x5 : Int) (A6 : Option Addr) (n7 : Nat) (c8 : Nat) (x9 : Int) (x10 : Int) (A11 : Option Addr) (n12 : Nat) (c13 : Nat) (x14 : Int) (x15 : Int) (A16 : Option Addr) (n17 : Nat) (c18 : Nat) (x19 : Int) (x20 : Int) (A21 : Option Addr) (n22 : Nat) (c23 : Nat) (x24 : Int) (x25 : Int) (A26 : Option Addr) (n27 : Nat) (c28 : Nat) (x29 : Int) (x30 : Int) (A31 : Option Addr) (n32 : Nat) (c33 : Nat) (x34 : Int) (x35 : Int) (A36 : Option Addr) (n37 : Nat) (c38 : Nat) (x39 : Int) (x40 : Int) (A41 : Option Addr) (n42 : Nat) (c43 : Nat) (x44 : Int) (x45 : Int) (A46 : Option Addr) (n47 : Nat) (c48 : Nat) (x49 : Int) (x50 : Int) (A51 : Option Addr) (n52 : Nat) (c53 : Nat) (x54 : Int) (x55 : Int) (A56 : Option Addr) (n57 : Nat) (c58 : Nat) (x59 : Int) (x60 : Int) (A61 : Option Addr) (n62 : Nat) (c63 : Nat) (M : Mem) : piece P T k lo F.zoetropelaw05_PlaneBack 4084 [.v (.int .i64 x1), .v (.int .i64 x2), .l 3 0, .l 9 0, .l 11 0, .l 13 0, .v (.int .i64 x3)] [[.int .i64 x4, .int .i64 x5, .slice A6 n7 c8, .int .i64 x9, .int .i64 x10, .slice A11 n12 c13, .int .i64 x14, .int .i64 x15, .slice A16 n17 c18], [.int .i64 x19, .int .i64 x20, .slice A21 n22 c23, .int .i64 x24, .int .i64 x25, .slice A26 n27 c28, .int .i64 x29, .int .i64 x30, .slice A31 n32 c33], [.int .i64 x34, .int .i64 x35, .slice A36 n37 c38, .int .i64 x39, .int .i64 x40, .slice A41 n42 c43, .int .i64 x44, .int .i64 x45, .slice A46 n47 c48], [.int .i64 x49, .int .i64 x50, .slice A51 n52 c53, .int .i64 x54, .int .i64 x55, .slice A56 n57 c58, .int .i64 x59, .int .i64 x60, .slice A61 n62 c63]] M =
 bb (decide (x3 < 3))
 (pb (0 ≤ x3 ∧ x3 < (3 : Int))
 (ob ((([.int .i64 x4, .int .i64 x5, .slice A6 n7 c8, .int .i64 x9, .int .i64 x10, .slice A11 n12 c13, .int .i64 x14, .int .i64 x15, .slice A16 n17 c18] : List Value)[0 + (x3.toNat * 3) + 0]?).bind (Value.int? .i64)) fun x81 =>
 ob ((([.int .i64 x4, .int .i64 x5, .slice A6 n7 c8, .int .i64 x9, .int .i64 x10, .slice A11 n12 c13, .int .i64 x14, .int .i64 x15, .slice A16 n17 c18] : List Value)[0 + (x3.toNat * 3) + 1]?).bind (Value.int? .i64)) fun x82 =>
 ob ((([.int .i64 x4, .int .i64 x5, .slice A6 n7 c8, .int .i64 x9, .int .i64 x10, .slice A11 n12 c13, .int .i64 x14, .int .i64 x15, .slice A16 n17 c18] : List Value)[0 + (x3.toNat * 3) + 2]?).bind Value.slc?) fun s83 =>
 ob (acall P T k lo F.zoetropelaw05_solid [.agg ⟨[.int .i64 x81, .int .i64 x82, .slice s83.a s83.n s83.c]⟩] M) fun r84 =>
 ob ((some r84.1).bind Value.bool?) fun b85 =>
 bb (!b85)
 (some (.ret (.bool false) r84.2))
 (pb (0 ≤ x3 ∧ x3 < (3 : Int))
 (ob ((([.int .i64 x34, .int .i64 x35, .slice A36 n37 c38, .int .i64 x39, .int .i64 x40, .slice A41 n42 c43, .int .i64 x44, .int .i64 x45, .slice A46 n47 c48] : List Value)[0 + (x3.toNat * 3) + 0]?).bind (Value.int? .i64)) fun x86 =>
 ob ((([.int .i64 x34, .int .i64 x35, .slice A36 n37 c38, .int .i64 x39, .int .i64 x40, .slice A41 n42 c43, .int .i64 x44, .int .i64 x45, .slice A46 n47 c48] : List Value)[0 + (x3.toNat * 3) + 1]?).bind (Value.int? .i64)) fun x87 =>
 ob ((([.int .i64 x34, .int .i64 x35, .slice A36 n37 c38, .int .i64 x39, .int .i64 x40, .slice A41 n42 c43, .int .i64 x44, .int .i64 x45, .slice A46 n47 c48] : List Value)[0 + (x3.toNat * 3) + 2]?).bind Value.slc?) fun s88 =>
 ob (acall P T k lo F.plane_Same [.agg ⟨[.int .i64 x86, .int .i64 x87, .slice s88.a s88.n s88.c]⟩, .agg ⟨[.int .i64 x81, .int .i64 x82, .slice s83.a s83.n s83.c]⟩] r84.2) fun r89 =>
 ob ((some r89.1).bind Value.bool?) fun b90 =>
 bb (!b90)
 (some (.ret (.bool false) r89.2))
 (pb (0 ≤ x3 ∧ x3 < (3 : Int))
 (ob ((([.int .i64 x49, .int .i64 x50, .slice A51 n52 c53, .int .i64 x54, .int .i64 x55, .slice A56 n57 c58, .int .i64 x59, .int .i64 x60, .slice A61 n62 c63] : List Value)[0 + (x3.toNat * 3) + 0]?).bind (Value.int? .i64)) fun x91 =>
 ob ((([.int .i64 x49, .int .i64 x50, .slice A51 n52 c53, .int .i64 x54, .int .i64 x55, .slice A56 n57 c58, .int .i64 x59, .int .i64 x60, .slice A61 n62 c63] : List Value)[0 + (x3.toNat * 3) + 1]?).bind (Value.int? .i64)) fun x92 =>
 ob ((([.int .i64 x49, .int .i64 x50, .slice A51 n52 c53, .int .i64 x54, .int .i64 x55, .slice A56 n57 c58, .int .i64 x59, .int .i64 x60, .slice A61 n62 c63] : List Value)[0 + (x3.toNat * 3) + 2]?).bind Value.slc?) fun s93 =>
 pb (0 ≤ x3 ∧ x3 < (3 : Int))
 (ob ((([.int .i64 x19, .int .i64 x20, .slice A21 n22 c23, .int .i64 x24, .int .i64 x25, .slice A26 n27 c28, .int .i64 x29, .int .i64 x30, .slice A31 n32 c33] : List Value)[0 + (x3.toNat * 3) + 0]?).bind (Value.int? .i64)) fun x94 =>
 ob ((([.int .i64 x19, .int .i64 x20, .slice A21 n22 c23, .int .i64 x24, .int .i64 x25, .slice A26 n27 c28, .int .i64 x29, .int .i64 x30, .slice A31 n32 c33] : List Value)[0 + (x3.toNat * 3) + 1]?).bind (Value.int? .i64)) fun x95 =>
 ob ((([.int .i64 x19, .int .i64 x20, .slice A21 n22 c23, .int .i64 x24, .int .i64 x25, .slice A26 n27 c28, .int .i64 x29, .int .i64 x30, .slice A31 n32 c33] : List Value)[0 + (x3.toNat * 3) + 2]?).bind Value.slc?) fun s96 =>
 ob (acall P T k lo F.plane_Same [.agg ⟨[.int .i64 x91, .int .i64 x92, .slice s93.a s93.n s93.c]⟩, .agg ⟨[.int .i64 x94, .int .i64 x95, .slice s96.a s96.n s96.c]⟩] r89.2) fun r97 =>
 ob ((some r97.1).bind Value.bool?) fun b98 =>
 bb (!b98)
 (some (.ret (.bool false) r97.2))
 (some (zoetropelaw05_PlaneBack.c1045660 x1 x2 x3 (-3) x4 x5 A6 n7 c8 x9 x10 A11 n12 c13 x14 x15 A16 n17 c18 x19 x20 A21 n22 c23 x24 x25 A26 n27 c28 x29 x30 A31 n32 c33 x34 x35 A36 n37 c38 x39 x40 A41 n42 c43 x44 x45 A46 n47 c48 x49 x50 A51 n52 c53 x54 x55 A56 n57 c58 x59 x60 A61 n62 c63 x81 x82 s83.a s83.n s83.c r97.2))) none) none)) none)) none)
 (some (.ret (.bool true) M)) := by kernel_rfl
theorem zoetropelaw05_PlaneBack.p1045660 (k lo : Nat) (x1 : Int) (x2 : Int) (x3 : Int) (x4 : Int) (x5 : Int) (x6 : Int) (A7 : Option Addr) (n8 : Nat) (c9 : Nat) (x10 : Int) (x11 : Int) (A12 : Option Addr) (n13 : Nat) (c14 : Nat) (x15 : Int) (x16 : Int) (A17 : Option Addr) (n18 : Nat) (c19 : Nat) (x20 : Int) (x21 : Int) (A22 : Option Addr) (n23 : Nat) (c24 : Nat) (x25 : Int) (x26 : Int) (A27 : Option Addr) (n28 : Nat) (c29 : Nat) (x30 : Int) (x31 : Int) (A32 : Option Addr) (n33 : Nat) (c34 : Nat) (x35 : Int) (x36 : Int) (A37 : Option Addr) (n38 : Nat) (c39 : Nat) (x40 : Int) (x41 : Int) (A42 : Option Addr) (n43 : Nat) (c44 : Nat) (x45 : Int) (x46 : Int) (A47 : Option Addr) (n48 : Nat) (c49 : Nat) (x50 : Int) (x51 : Int) (A52 : Option Addr) (n53 : Nat) (c54 : Nat) (x55 : Int) (x56 : Int) (A57 : Option Addr) (n58 : Nat) (c59 : Nat) (x60 : Int) (x61 : Int) (A62 : Option Addr) (n63 : Nat) (c64 : Nat) (x65 : Int) (x66 : Int) (A67 : Option Addr) (n68 : Nat) (c69 : Nat) (M : Mem) : piece P T k lo F.zoetropelaw05_PlaneBack 1045660 [.v (.int .i64 x1), .v (.int .i64 x2), .l 3 0, .l 9 0, .l 11 0, .l 13 0, .v (.int .i64 x3), .l 16 0, .v (.int .i64 x4)] [[.int .i64 x5, .int .i64 x6, .slice A7 n8 c9, .int .i64 x10, .int .i64 x11, .slice A12 n13 c14, .int .i64 x15, .int .i64 x16, .slice A17 n18 c19], [.int .i64 x20, .int .i64 x21, .slice A22 n23 c24, .int .i64 x25, .int .i64 x26, .slice A27 n28 c29, .int .i64 x30, .int .i64 x31, .slice A32 n33 c34], [.int .i64 x35, .int .i64 x36, .slice A37 n38 c39, .int .i64 x40, .int .i64 x41, .slice A42 n43 c44, .int .i64 x45, .int .i64 x46, .slice A47 n48 c49], [.int .i64 x50, .int .i64 x51, .slice A52 n53 c54, .int .i64 x55, .int .i64 x56, .slice A57 n58 c59, .int .i64 x60, .int .i64 x61, .slice A62 n63 c64], [.int .i64 x65, .int .i64 x66, .slice A67 n68 c69]] M =
 bb (decide (x4 < 12))
 (ob (acall P T k lo F.zoetroperef00_Bring [.int .i64 x1, .int .i64 300] M) fun r99 =>
 ob ((some r99.1).bind (Value.int? .i64)) fun x100 =>
 ob (acall P T k lo F.zoetroperef00_Bring [.int .i64 x2, .int .i64 300] r99.2) fun r101 =>
 ob ((some r101.1).bind (Value.int? .i64)) fun x102 =>
 pb (0 ≤ IntKind.i64.wrap ((IntKind.i64.wrap ((minI (maxI (IntKind.i64.wrap (x102 - x4)) 0) (IntKind.i64.wrap (x66 - 1))) * x65)) + (minI (maxI (IntKind.i64.wrap (x100 + x4)) 0) (IntKind.i64.wrap (x65 - 1)))) ∧ IntKind.i64.wrap ((IntKind.i64.wrap ((minI (maxI (IntKind.i64.wrap (x102 - x4)) 0) (IntKind.i64.wrap (x66 - 1))) * x65)) + (minI (maxI (IntKind.i64.wrap (x100 + x4)) 0) (IntKind.i64.wrap (x65 - 1)))) < (n68 : Int))
 (ob A67 fun a103 =>
 ob ((r101.2.ld (plus a103 ((IntKind.i64.wrap ((IntKind.i64.wrap ((minI (maxI (IntKind.i64.wrap (x102 - x4)) 0) (IntKind.i64.wrap (x66 - 1))) * x65)) + (minI (maxI (IntKind.i64.wrap (x100 + x4)) 0) (IntKind.i64.wrap (x65 - 1))))).toNat))).bind (Value.int? .u8)) fun x104 =>
 ob (acall P T k lo F.plane_At [.agg ⟨[.int .i64 x65, .int .i64 x66, .slice A67 n68 c69]⟩, .int .i64 (IntKind.i64.wrap (x100 + x4)), .int .i64 (IntKind.i64.wrap (x102 - x4))] r101.2) fun r105 =>
 ob ((some r105.1).bind (Value.int? .u8)) fun x106 =>
 bb (x106 != x104)
 (some (.ret (.bool false) r105.2))
 (pb (0 ≤ x3 ∧ x3 < (3 : Int))
 (ob ((([.int .i64 x20, .int .i64 x21, .slice A22 n23 c24, .int .i64 x25, .int .i64 x26, .slice A27 n28 c29, .int .i64 x30, .int .i64 x31, .slice A32 n33 c34] : List Value)[0 + (x3.toNat * 3) + 0]?).bind (Value.int? .i64)) fun x107 =>
 ob ((([.int .i64 x20, .int .i64 x21, .slice A22 n23 c24, .int .i64 x25, .int .i64 x26, .slice A27 n28 c29, .int .i64 x30, .int .i64 x31, .slice A32 n33 c34] : List Value)[0 + (x3.toNat * 3) + 1]?).bind (Value.int? .i64)) fun x108 =>
 ob ((([.int .i64 x20, .int .i64 x21, .slice A22 n23 c24, .int .i64 x25, .int .i64 x26, .slice A27 n28 c29, .int .i64 x30, .int .i64 x31, .slice A32 n33 c34] : List Value)[0 + (x3.toNat * 3) + 2]?).bind Value.slc?) fun s109 =>
 ob (acall P T k lo F.plane_At [.agg ⟨[.int .i64 x107, .int .i64 x108, .slice s109.a s109.n s109.c]⟩, .int .i64 (IntKind.i64.wrap (x100 + x4)), .int .i64 (IntKind.i64.wrap (x102 - x4))] r105.2) fun r110 =>
 ob ((some r110.1).bind (Value.int? .u8)) fun x111 =>
 bb (x111 != x104)
 (some (.ret (.bool false) r110.2))
 (some (zoetropelaw05_PlaneBack.c1045660 x1 x2 x3 (IntKind.i64.wrap (x4 + 1)) x5 x6 A7 n8 c9 x10 x11 A12 n13 c14 x15 x16 A17 n18 c19 x20 x21 A22 n23 c24 x25 x26 A27 n28 c29 x30 x31 A32 n33 c34 x35 x36 A37 n38 c39 x40 x41 A42 n43 c44 x45 x46 A47 n48 c49 x50 x51 A52 n53 c54 x55 x56 A57 n58 c59 x60 x61 A62 n63 c64 x65 x66 A67 n68 c69 r110.2))) none)) none)
 (some (zoetropelaw05_PlaneBack.c4084 x1 x2 (IntKind.i64.wrap (x3 + 1)) x5 x6 A7 n8 c9 x10 x11 A12 n13 c14 x15 x16 A17 n18 c19 x20 x21 A22 n23 c24 x25 x26 A27 n28 c29 x30 x31 A32 n33 c34 x35 x36 A37 n38 c39 x40 x41 A42 n43 c44 x45 x46 A47 n48 c49 x50 x51 A52 n53 c54 x55 x56 A57 n58 c59 x60 x61 A62 n63 c64 M)) := by kernel_rfl
theorem zoetropelaw05_PlaneKnown.entry (k lo : Nat) (M : Mem) : entry P T k lo F.zoetropelaw05_PlaneKnown [] M =
 ob (acall P T k lo F.zoetropelaw05_four [] M) fun r6 =>
 ob ((some r6.1).bind (Value.agg? 3)) fun l7 =>
 ob ((l7[0]?).bind (Value.int? .i64)) fun x8 =>
 ob ((l7[1]?).bind (Value.int? .i64)) fun x9 =>
 ob ((l7[2]?).bind Value.slc?) fun s10 =>
 ob (acall P T k lo F.plane_At [.agg ⟨[.int .i64 x8, .int .i64 x9, .slice s10.a s10.n s10.c]⟩, .int .i64 0, .int .i64 0] r6.2) fun r11 =>
 ob ((some r11.1).bind (Value.int? .u8)) fun x12 =>
 bb (x12 == 1)
 (ob (acall P T k lo F.plane_At [.agg ⟨[.int .i64 x8, .int .i64 x9, .slice s10.a s10.n s10.c]⟩, .int .i64 5, .int .i64 0] r11.2) fun r13 =>
 ob ((some r13.1).bind (Value.int? .u8)) fun x14 =>
 bb (x14 == 2)
 (ob (acall P T k lo F.plane_At [.agg ⟨[.int .i64 x8, .int .i64 x9, .slice s10.a s10.n s10.c]⟩, .int .i64 (-1), .int .i64 9] r13.2) fun r15 =>
 ob ((some r15.1).bind (Value.int? .u8)) fun x16 =>
 bb (x16 == 3)
 (ob (acall P T k lo F.plane_At [.agg ⟨[.int .i64 x8, .int .i64 x9, .slice s10.a s10.n s10.c]⟩, .int .i64 (-4611686018427387904), .int .i64 4611686018427387904] r15.2) fun r17 =>
 ob ((some r17.1).bind (Value.int? .u8)) fun x18 =>
 bb (x18 == 3)
 (ob (acall P T k lo F.plane_At [.agg ⟨[.int .i64 0, .int .i64 0, .slice none 0 0]⟩, .int .i64 0, .int .i64 0] r17.2) fun r19 =>
 ob ((some r19.1).bind (Value.int? .u8)) fun x20 =>
 ob (Mem.fill (r19.2 ++ [⟨.op 0, []⟩, ⟨.op 0, []⟩, ⟨.op 0, []⟩, ⟨.op 0, []⟩] : Mem) lo r19.2.length 1 ([.int .u8 1, .int .u8 2, .int .u8 3])) fun r21 =>
 pb (0 ≤ (513 : Int) ∧ room 513 1)
 (ob (Mem.fill r21.2 lo (r19.2.length + 1) 1 (zerosL [.int .u8 0] 513)) fun r22 =>
 ob (Mem.fill r22.2 lo (r19.2.length + 1 + 1) 1 ([.int .u8 1])) fun r23 =>
 pb (0 ≤ (513 : Int) ∧ room 513 1)
 (ob (Mem.fill r23.2 lo (r19.2.length + 1 + 1 + 1) 1 (zerosL [.int .u8 0] 513)) fun r24 =>
 some (zoetropelaw05_PlaneKnown.c500 (x20 == 0) (some ⟨r24.2.length, 0, none⟩) 7 7 0 x8 x9 s10.a s10.n s10.c (r24.2 ++ [⟨.fx, [.int .i64 0, .int .i64 0, .slice none 0 0, .int .i64 2, .int .i64 2, .slice (some r21.1) 3 3, .int .i64 513, .int .i64 1, .slice (some r22.1) 513 513, .int .i64 0, .int .i64 5, .slice none 0 0, .int .i64 (-1), .int .i64 (-1), .slice (some r23.1) 1 1, .int .i64 4294967296, .int .i64 4294967296, .slice none 0 0, .int .i64 1, .int .i64 513, .slice (some r24.1) 513 513]⟩] : Mem))) none) none)
 (ob (Mem.fill (r17.2 ++ [⟨.op 0, []⟩, ⟨.op 0, []⟩, ⟨.op 0, []⟩, ⟨.op 0, []⟩] : Mem) lo r17.2.length 1 ([.int .u8 1, .int .u8 2, .int .u8 3])) fun r25 =>
 pb (0 ≤ (513 : Int) ∧ room 513 1)
 (ob (Mem.fill r25.2 lo (r17.2.length + 1) 1 (zerosL [.int .u8 0] 513)) fun r26 =>
 ob (Mem.fill r26.2 lo (r17.2.length + 1 + 1) 1 ([.int .u8 1])) fun r27 =>
 pb (0 ≤ (513 : Int) ∧ room 513 1)
 (ob (Mem.fill r27.2 lo (r17.2.length + 1 + 1 + 1) 1 (zerosL [.int .u8 0] 513)) fun r28 =>
 some (zoetropelaw05_PlaneKnown.c500 false (some ⟨r28.2.length, 0, none⟩) 7 7 0 x8 x9 s10.a s10.n s10.c (r28.2 ++ [⟨.fx, [.int .i64 0, .int .i64 0, .slice none 0 0, .int .i64 2, .int .i64 2, .slice (some r25.1) 3 3, .int .i64 513, .int .i64 1, .slice (some r26.1) 513 513, .int .i64 0, .int .i64 5, .slice none 0 0, .int .i64 (-1), .int .i64 (-1), .slice (some r27.1) 1 1, .int .i64 4294967296, .int .i64 4294967296, .slice none 0 0, .int .i64 1, .int .i64 513, .slice (some r28.1) 513 513]⟩] : Mem))) none) none))
 (ob (Mem.fill (r15.2 ++ [⟨.op 0, []⟩, ⟨.op 0, []⟩, ⟨.op 0, []⟩, ⟨.op 0, []⟩] : Mem) lo r15.2.length 1 ([.int .u8 1, .int .u8 2, .int .u8 3])) fun r29 =>
 pb (0 ≤ (513 : Int) ∧ room 513 1)
 (ob (Mem.fill r29.2 lo (r15.2.length + 1) 1 (zerosL [.int .u8 0] 513)) fun r30 =>
 ob (Mem.fill r30.2 lo (r15.2.length + 1 + 1) 1 ([.int .u8 1])) fun r31 =>
 pb (0 ≤ (513 : Int) ∧ room 513 1)
 (ob (Mem.fill r31.2 lo (r15.2.length + 1 + 1 + 1) 1 (zerosL [.int .u8 0] 513)) fun r32 =>
 some (zoetropelaw05_PlaneKnown.c500 false (some ⟨r32.2.length, 0, none⟩) 7 7 0 x8 x9 s10.a s10.n s10.c (r32.2 ++ [⟨.fx, [.int .i64 0, .int .i64 0, .slice none 0 0, .int .i64 2, .int .i64 2, .slice (some r29.1) 3 3, .int .i64 513, .int .i64 1, .slice (some r30.1) 513 513, .int .i64 0, .int .i64 5, .slice none 0 0, .int .i64 (-1), .int .i64 (-1), .slice (some r31.1) 1 1, .int .i64 4294967296, .int .i64 4294967296, .slice none 0 0, .int .i64 1, .int .i64 513, .slice (some r32.1) 513 513]⟩] : Mem))) none) none))
 (ob (Mem.fill (r13.2 ++ [⟨.op 0, []⟩, ⟨.op 0, []⟩, ⟨.op 0, []⟩, ⟨.op 0, []⟩] : Mem) lo r13.2.length 1 ([.int .u8 1, .int .u8 2, .int .u8 3])) fun r33 =>
 pb (0 ≤ (513 : Int) ∧ room 513 1)
 (ob (Mem.fill r33.2 lo (r13.2.length + 1) 1 (zerosL [.int .u8 0] 513)) fun r34 =>
 ob (Mem.fill r34.2 lo (r13.2.length + 1 + 1) 1 ([.int .u8 1])) fun r35 =>
 pb (0 ≤ (513 : Int) ∧ room 513 1)
 (ob (Mem.fill r35.2 lo (r13.2.length + 1 + 1 + 1) 1 (zerosL [.int .u8 0] 513)) fun r36 =>
 some (zoetropelaw05_PlaneKnown.c500 false (some ⟨r36.2.length, 0, none⟩) 7 7 0 x8 x9 s10.a s10.n s10.c (r36.2 ++ [⟨.fx, [.int .i64 0, .int .i64 0, .slice none 0 0, .int .i64 2, .int .i64 2, .slice (some r33.1) 3 3, .int .i64 513, .int .i64 1, .slice (some r34.1) 513 513, .int .i64 0, .int .i64 5, .slice none 0 0, .int .i64 (-1), .int .i64 (-1), .slice (some r35.1) 1 1, .int .i64 4294967296, .int .i64 4294967296, .slice none 0 0, .int .i64 1, .int .i64 513, .slice (some r36.1) 513 513]⟩] : Mem))) none) none))
 (ob (Mem.fill (r11.2 ++ [⟨.op 0, []⟩, ⟨.op 0, []⟩, ⟨.op 0, []⟩, ⟨.op 0, []⟩] : Mem) lo r11.2.length 1 ([.int .u8 1, .int .u8 2, .int .u8 3])) fun r37 =>
 pb (0 ≤ (513 : Int) ∧ room 513 1)
 (ob (Mem.fill r37.2 lo (r11.2.length + 1) 1 (zerosL [.int .u8 0] 513)) fun r38 =>
 ob (Mem.fill r38.2 lo (r11.2.length + 1 + 1) 1 ([.int .u8 1])) fun r39 =>
 pb (0 ≤ (513 : Int) ∧ room 513 1)
 (ob (Mem.fill r39.2 lo (r11.2.length + 1 + 1 + 1) 1 (zerosL [.int .u8 0] 513)) fun r40 =>
 some (zoetropelaw05_PlaneKnown.c500 false (some ⟨r40.2.length, 0, none⟩) 7 7 0 x8 x9 s10.a s10.n s10.c (r40.2 ++ [⟨.fx, [.int .i64 0, .int .i64 0, .slice none 0 0, .int .i64 2, .int .i64 2, .slice (some r37.1) 3 3, .int .i64 513, .int .i64 1, .slice (some r38.1) 513 513, .int .i64 0, .int .i64 5, .slice none 0 0, .int .i64 (-1), .int .i64 (-1), .slice (some r39.1) 1 1, .int .i64 4294967296, .int .i64 4294967296, .slice none 0 0, .int .i64 1, .int .i64 513, .slice (some r40.1) 513 513]⟩] : Mem))) none) none) := by kernel_rfl
theorem zoetropelaw05_PlaneKnown.p500 (k lo : Nat) (b1 : Bool) (A2 : Option Addr) (n3 : Nat) (c4 : Nat) (x5 : Int) (x6 : Int) (x7 : Int) (A8 : Option Addr) (n9 : Nat) (c10 : Nat) (M : Mem) : piece P T k lo F.zoetropelaw05_PlaneKnown 500 [.l 1 0, .v (.bool b1), .v (.slice A2 n3 c4), .v (.int .i64 x5)] [[.int .i64 x6, .int .i64 x7, .slice A8 n9 c10]] M =
 bb (decide (x5 < (n3 : Int)))
 (pb (0 ≤ x5 ∧ x5 < (n3 : Int))
 (ob A2 fun a41 =>
 ob ((M.ld (plus a41 (x5.toNat * 3))).bind (Value.int? .i64)) fun x42 =>
 ob ((M.ld (plus (plus a41 (x5.toNat * 3)) 1)).bind (Value.int? .i64)) fun x43 =>
 ob ((M.ld (plus (plus a41 (x5.toNat * 3)) 2)).bind Value.slc?) fun s44 =>
 ob (acall P T k lo F.plane_Cut [.agg ⟨[.int .i64 x42, .int .i64 x43, .slice s44.a s44.n s44.c]⟩, .agg ⟨[.int .i64 0, .int .i64 0, .int .i64 1, .int .i64 1]⟩] M) fun r45 =>
 ob (r45.1.tup? 2) fun l46 =>
 ob ((l46[0]?).bind Value.slc?) fun s47 =>
 ob ((l46[1]?).bind (Value.int? .i64)) fun x48 =>
 pb (0 ≤ x5 ∧ x5 < (n3 : Int))
 (ob A2 fun a49 =>
 ob ((r45.2.ld (plus a49 (x5.toNat * 3))).bind (Value.int? .i64)) fun x50 =>
 ob ((r45.2.ld (plus (plus a49 (x5.toNat * 3)) 1)).bind (Value.int? .i64)) fun x51 =>
 ob ((r45.2.ld (plus (plus a49 (x5.toNat * 3)) 2)).bind Value.slc?) fun s52 =>
 ob (acall P T k lo F.plane_Pad [.agg ⟨[.int .i64 x50, .int .i64 x51, .slice s52.a s52.n s52.c]⟩, .int .i64 512, .int .i64 512] r45.2) fun r53 =>
 ob (r53.1.tup? 2) fun l54 =>
 ob ((l54[0]?).bind (Value.agg? 3)) fun l55 =>
 ob ((l55[0]?).bind (Value.int? .i64)) fun x56 =>
 ob ((l55[1]?).bind (Value.int? .i64)) fun x57 =>
 ob ((l55[2]?).bind Value.slc?) fun s58 =>
 ob ((l54[1]?).bind (Value.int? .i64)) fun x59 =>
 pb (0 ≤ x5 ∧ x5 < (n3 : Int))
 (ob A2 fun a60 =>
 ob ((r53.2.ld (plus a60 (x5.toNat * 3))).bind (Value.int? .i64)) fun x61 =>
 ob ((r53.2.ld (plus (plus a60 (x5.toNat * 3)) 1)).bind (Value.int? .i64)) fun x62 =>
 ob ((r53.2.ld (plus (plus a60 (x5.toNat * 3)) 2)).bind Value.slc?) fun s63 =>
 pb (0 ≤ x5 ∧ x5 < (n3 : Int))
 (ob A2 fun a64 =>
 ob ((r53.2.ld (plus a64 (x5.toNat * 3))).bind (Value.int? .i64)) fun x65 =>
 ob ((r53.2.ld (plus (plus a64 (x5.toNat * 3)) 1)).bind (Value.int? .i64)) fun x66 =>
 ob ((r53.2.ld (plus (plus a64 (x5.toNat * 3)) 2)).bind Value.slc?) fun s67 =>
 ob (acall P T k lo F.plane_Apart [.agg ⟨[.int .i64 x61, .int .i64 x62, .slice s63.a s63.n s63.c]⟩, .agg ⟨[.int .i64 x65, .int .i64 x66, .slice s67.a s67.n s67.c]⟩] r53.2) fun r68 =>
 ob (r68.1.tup? 2) fun l69 =>
 ob ((l69[0]?).bind (Value.int? .u64)) fun x70 =>
 ob ((l69[1]?).bind (Value.int? .i64)) fun x71 =>
 pb (0 ≤ x5 ∧ x5 < (n3 : Int))
 (ob A2 fun a72 =>
 ob ((r68.2.ld (plus a72 (x5.toNat * 3))).bind (Value.int? .i64)) fun x73 =>
 ob ((r68.2.ld (plus (plus a72 (x5.toNat * 3)) 1)).bind (Value.int? .i64)) fun x74 =>
 ob ((r68.2.ld (plus (plus a72 (x5.toNat * 3)) 2)).bind Value.slc?) fun s75 =>
 ob (acall P T k lo F.plane_Check [.agg ⟨[.int .i64 x73, .int .i64 x74, .slice s75.a s75.n s75.c]⟩] r68.2) fun r76 =>
 ob ((some r76.1).bind (Value.int? .i64)) fun x77 =>
 bb (x77 != 2)
 (some (.ret (.bool false) r76.2))
 (bb (x48 != 2)
 (some (.ret (.bool false) r76.2))
 (bb (x59 != 2)
 (some (.ret (.bool false) r76.2))
 (bb (x71 != 2)
 (some (.ret (.bool false) r76.2))
 (some (zoetropelaw05_PlaneKnown.c500 b1 A2 n3 c4 (IntKind.i64.wrap (x5 + 1)) x6 x7 A8 n9 c10 r76.2)))))) none) none) none) none) none)
 (some (zoetropelaw05_PlaneKnown.c2036 b1 (some ⟨M.length, 0, none⟩) 8 8 0 x6 x7 A8 n9 c10 (M ++ [⟨.fx, [.int .i64 1, .int .i64 0, .int .i64 2, .int .i64 1, .int .i64 0, .int .i64 0, .int .i64 0, .int .i64 1, .int .i64 0, .int .i64 0, .int .i64 1, .int .i64 0, .int .i64 (-1), .int .i64 0, .int .i64 1, .int .i64 1, .int .i64 0, .int .i64 2, .int .i64 1, .int .i64 1, .int .i64 9223372036854775807, .int .i64 0, .int .i64 9223372036854775807, .int .i64 1, .int .i64 0, .int .i64 1, .int .i64 1, .int .i64 2, .int .i64 1, .int .i64 1, .int .i64 0, .int .i64 0]⟩] : Mem))) := by kernel_rfl
theorem zoetropelaw05_PlaneKnown.p2036 (k lo : Nat) (b1 : Bool) (A2 : Option Addr) (n3 : Nat) (c4 : Nat) (x5 : Int) (x6 : Int) (x7 : Int) (A8 : Option Addr) (n9 : Nat) (c10 : Nat) (M : Mem) : piece P T k lo F.zoetropelaw05_PlaneKnown 2036 [.l 1 0, .v (.bool b1), .v (.slice A2 n3 c4), .v (.int .i64 x5)] [[.int .i64 x6, .int .i64 x7, .slice A8 n9 c10]] M =
 bb (decide (x5 < (n3 : Int)))
 (pb (0 ≤ x5 ∧ x5 < (n3 : Int))
 (ob A2 fun a78 =>
 ob ((M.ld (plus a78 (x5.toNat * 4))).bind (Value.int? .i64)) fun x79 =>
 ob ((M.ld (plus (plus a78 (x5.toNat * 4)) 1)).bind (Value.int? .i64)) fun x80 =>
 ob ((M.ld (plus (plus a78 (x5.toNat * 4)) 2)).bind (Value.int? .i64)) fun x81 =>
 ob ((M.ld (plus (plus a78 (x5.toNat * 4)) 3)).bind (Value.int? .i64)) fun x82 =>
 ob (acall P T k lo F.plane_Cut [.agg ⟨[.int .i64 x6, .int .i64 x7, .slice A8 n9 c10]⟩, .agg ⟨[.int .i64 x79, .int .i64 x80, .int .i64 x81, .int .i64 x82]⟩] M) fun r83 =>
 ob (r83.1.tup? 2) fun l84 =>
 ob ((l84[0]?).bind Value.slc?) fun s85 =>
 ob ((l84[1]?).bind (Value.int? .i64)) fun x86 =>
 pb (0 ≤ x5 ∧ x5 < (n3 : Int))
 (ob A2 fun a87 =>
 ob ((r83.2.ld (plus a87 (x5.toNat * 4))).bind (Value.int? .i64)) fun x88 =>
 ob ((r83.2.ld (plus (plus a87 (x5.toNat * 4)) 1)).bind (Value.int? .i64)) fun x89 =>
 ob ((r83.2.ld (plus (plus a87 (x5.toNat * 4)) 2)).bind (Value.int? .i64)) fun x90 =>
 ob ((r83.2.ld (plus (plus a87 (x5.toNat * 4)) 3)).bind (Value.int? .i64)) fun x91 =>
 ob (acall P T k lo F.plane_Lay [.agg ⟨[.int .i64 x6, .int .i64 x7, .slice A8 n9 c10]⟩, .agg ⟨[.int .i64 x88, .int .i64 x89, .int .i64 x90, .int .i64 x91]⟩, .slice none 0 0] r83.2) fun r92 =>
 ob (r92.1.tup? 2) fun l93 =>
 ob ((l93[0]?).bind (Value.agg? 3)) fun l94 =>
 ob ((l94[0]?).bind (Value.int? .i64)) fun x95 =>
 ob ((l94[1]?).bind (Value.int? .i64)) fun x96 =>
 ob ((l94[2]?).bind Value.slc?) fun s97 =>
 ob ((l93[1]?).bind (Value.int? .i64)) fun x98 =>
 bb (x86 != 2)
 (some (.ret (.bool false) r92.2))
 (bb (x98 != 2)
 (some (.ret (.bool false) r92.2))
 (some (zoetropelaw05_PlaneKnown.c2036 b1 A2 n3 c4 (IntKind.i64.wrap (x5 + 1)) x6 x7 A8 n9 c10 r92.2)))) none) none)
 (ob (acall P T k lo F.plane_Pad [.agg ⟨[.int .i64 x6, .int .i64 x7, .slice A8 n9 c10]⟩, .int .i64 5, .int .i64 2] M) fun r99 =>
 ob (r99.1.tup? 2) fun l100 =>
 ob ((l100[0]?).bind (Value.agg? 3)) fun l101 =>
 ob ((l101[0]?).bind (Value.int? .i64)) fun x102 =>
 ob ((l101[1]?).bind (Value.int? .i64)) fun x103 =>
 ob ((l101[2]?).bind Value.slc?) fun s104 =>
 ob ((l100[1]?).bind (Value.int? .i64)) fun x105 =>
 ob (acall P T k lo F.plane_Lay [.agg ⟨[.int .i64 x6, .int .i64 x7, .slice A8 n9 c10]⟩, .agg ⟨[.int .i64 0, .int .i64 0, .int .i64 1, .int .i64 1]⟩, .slice (some ⟨r99.2.length, 0, none⟩) 2 2] (r99.2 ++ [⟨.fx, [.int .u8 7, .int .u8 8]⟩] : Mem)) fun r106 =>
 ob (r106.1.tup? 2) fun l107 =>
 ob ((l107[0]?).bind (Value.agg? 3)) fun l108 =>
 ob ((l108[0]?).bind (Value.int? .i64)) fun x109 =>
 ob ((l108[1]?).bind (Value.int? .i64)) fun x110 =>
 ob ((l108[2]?).bind Value.slc?) fun s111 =>
 ob ((l107[1]?).bind (Value.int? .i64)) fun x112 =>
 ob (acall P T k lo F.plane_Apart [.agg ⟨[.int .i64 2, .int .i64 1, .slice (some ⟨r106.2.length, 0, none⟩) 2 2]⟩, .agg ⟨[.int .i64 1, .int .i64 2, .slice (some ⟨(r106.2 ++ [⟨.fx, [.int .u8 1, .int .u8 2]⟩] : Mem).length, 0, none⟩) 2 2]⟩] ((r106.2 ++ [⟨.fx, [.int .u8 1, .int .u8 2]⟩] : Mem) ++ [⟨.fx, [.int .u8 1, .int .u8 2]⟩] : Mem)) fun r113 =>
 ob (r113.1.tup? 2) fun l114 =>
 ob ((l114[0]?).bind (Value.int? .u64)) fun x115 =>
 ob ((l114[1]?).bind (Value.int? .i64)) fun x116 =>
 ob (acall P T k lo F.plane_Same [.agg ⟨[.int .i64 2, .int .i64 1, .slice (some ⟨r113.2.length, 0, none⟩) 2 2]⟩, .agg ⟨[.int .i64 1, .int .i64 2, .slice (some ⟨(r113.2 ++ [⟨.fx, [.int .u8 1, .int .u8 2]⟩] : Mem).length, 0, none⟩) 2 2]⟩] ((r113.2 ++ [⟨.fx, [.int .u8 1, .int .u8 2]⟩] : Mem) ++ [⟨.fx, [.int .u8 1, .int .u8 2]⟩] : Mem)) fun r117 =>
 ob ((some r117.1).bind Value.bool?) fun b118 =>
 bb b118
 (some (.ret (.bool false) r117.2))
 (bb (x105 != 0)
 (some (.ret (.bool false) r117.2))
 (bb (x112 != 2)
 (some (.ret (.bool false) r117.2))
 (bb (x116 != 2)
 (some (.ret (.bool false) r117.2))
 (ob (acall P T k lo F.zoetroperef00_EqBytes [.slice s104.a s104.n s104.c, .slice (some ⟨r117.2.length, 0, none⟩) 10 10] (r117.2 ++ [⟨.fx, [.int .u8 1, .int .u8 2, .int .u8 2, .int .u8 2, .int .u8 2, .int .u8 3, .int .u8 4, .int .u8 4, .int .u8 4, .int .u8 4]⟩] : Mem)) fun r119 =>
 ob ((some r119.1).bind Value.bool?) fun b120 =>
 bb (!b120)
 (some (.ret (.bool false) r119.2))
 (ob (acall P T k lo F.plane_Lay [.agg ⟨[.int .i64 x6, .int .i64 x7, .slice A8 n9 c10]⟩, .agg ⟨[.int .i64 0, .int .i64 1, .int .i64 2, .int .i64 1]⟩, .slice (some ⟨r119.2.length, 0, none⟩) 1 1] (r119.2 ++ [⟨.fx, [.int .u8 7]⟩] : Mem)) fun r121 =>
 ob (r121.1.tup? 2) fun l122 =>
 ob ((l122[0]?).bind (Value.agg? 3)) fun l123 =>
 ob ((l123[0]?).bind (Value.int? .i64)) fun x124 =>
 ob ((l123[1]?).bind (Value.int? .i64)) fun x125 =>
 ob ((l123[2]?).bind Value.slc?) fun s126 =>
 ob ((l122[1]?).bind (Value.int? .i64)) fun x127 =>
 ob (acall P T k lo F.plane_Pad [.agg ⟨[.int .i64 x6, .int .i64 x7, .slice A8 n9 c10]⟩, .int .i64 1, .int .i64 2] r121.2) fun r128 =>
 ob (r128.1.tup? 2) fun l129 =>
 ob ((l129[0]?).bind (Value.agg? 3)) fun l130 =>
 ob ((l130[0]?).bind (Value.int? .i64)) fun x131 =>
 ob ((l130[1]?).bind (Value.int? .i64)) fun x132 =>
 ob ((l130[2]?).bind Value.slc?) fun s133 =>
 ob ((l129[1]?).bind (Value.int? .i64)) fun x134 =>
 ob (acall P T k lo F.plane_Pad [.agg ⟨[.int .i64 x6, .int .i64 x7, .slice A8 n9 c10]⟩, .int .i64 513, .int .i64 2] r128.2) fun r135 =>
 ob (r135.1.tup? 2) fun l136 =>
 ob ((l136[0]?).bind (Value.agg? 3)) fun l137 =>
 ob ((l137[0]?).bind (Value.int? .i64)) fun x138 =>
 ob ((l137[1]?).bind (Value.int? .i64)) fun x139 =>
 ob ((l137[2]?).bind Value.slc?) fun s140 =>
 ob ((l136[1]?).bind (Value.int? .i64)) fun x141 =>
 ob (acall P T k lo F.plane_New [.int .i64 0, .int .i64 1, .int .u8 0] r135.2) fun r142 =>
 ob (r142.1.tup? 2) fun l143 =>
 ob ((l143[0]?).bind (Value.agg? 3)) fun l144 =>
 ob ((l144[0]?).bind (Value.int? .i64)) fun x145 =>
 ob ((l144[1]?).bind (Value.int? .i64)) fun x146 =>
 ob ((l144[2]?).bind Value.slc?) fun s147 =>
 ob ((l143[1]?).bind (Value.int? .i64)) fun x148 =>
 ob (acall P T k lo F.plane_New [.int .i64 1, .int .i64 513, .int .u8 0] r142.2) fun r149 =>
 ob (r149.1.tup? 2) fun l150 =>
 ob ((l150[0]?).bind (Value.agg? 3)) fun l151 =>
 ob ((l151[0]?).bind (Value.int? .i64)) fun x152 =>
 ob ((l151[1]?).bind (Value.int? .i64)) fun x153 =>
 ob ((l151[2]?).bind Value.slc?) fun s154 =>
 ob ((l150[1]?).bind (Value.int? .i64)) fun x155 =>
 ob (acall P T k lo F.plane_New [.int .i64 512, .int .i64 1, .int .u8 6] r149.2) fun r156 =>
 ob (r156.1.tup? 2) fun l157 =>
 ob ((l157[0]?).bind (Value.agg? 3)) fun l158 =>
 ob ((l158[0]?).bind (Value.int? .i64)) fun x159 =>
 ob ((l158[1]?).bind (Value.int? .i64)) fun x160 =>
 ob ((l158[2]?).bind Value.slc?) fun s161 =>
 ob ((l157[1]?).bind (Value.int? .i64)) fun x162 =>
 bb (x127 == 2)
 (bb (x134 == 2)
 (bb (x141 == 2)
 (bb (x148 == 2)
 (bb (x155 == 2)
 (bb (x162 == 0)
 (bb ((s161.n : Int) == 512)
 (ob (acall P T k lo F.plane_At [.agg ⟨[.int .i64 x159, .int .i64 x160, .slice s161.a s161.n s161.c]⟩, .int .i64 511, .int .i64 0] r156.2) fun r163 =>
 ob ((some r163.1).bind (Value.int? .u8)) fun x164 =>
 some (zoetropelaw05_PlaneKnown.c8388596 b1 (x164 == 6) (some ⟨r163.2.length, 0, none⟩) 7 7 7 0 (r163.2 ++ [⟨.fx, [.int .i64 15, .int .i64 16, .int .i64 16, .int .i64 14, .int .i64 258, .int .i64 16, .int .i64 16, .int .i64 257, .int .i64 17, .int .i64 16, .int .i64 0, .int .i64 0, .int .i64 (-16), .int .i64 16]⟩] : Mem)))
 (some (zoetropelaw05_PlaneKnown.c8388596 b1 false (some ⟨r156.2.length, 0, none⟩) 7 7 7 0 (r156.2 ++ [⟨.fx, [.int .i64 15, .int .i64 16, .int .i64 16, .int .i64 14, .int .i64 258, .int .i64 16, .int .i64 16, .int .i64 257, .int .i64 17, .int .i64 16, .int .i64 0, .int .i64 0, .int .i64 (-16), .int .i64 16]⟩] : Mem))))
 (some (zoetropelaw05_PlaneKnown.c8388596 b1 false (some ⟨r156.2.length, 0, none⟩) 7 7 7 0 (r156.2 ++ [⟨.fx, [.int .i64 15, .int .i64 16, .int .i64 16, .int .i64 14, .int .i64 258, .int .i64 16, .int .i64 16, .int .i64 257, .int .i64 17, .int .i64 16, .int .i64 0, .int .i64 0, .int .i64 (-16), .int .i64 16]⟩] : Mem))))
 (some (zoetropelaw05_PlaneKnown.c8388596 b1 false (some ⟨r156.2.length, 0, none⟩) 7 7 7 0 (r156.2 ++ [⟨.fx, [.int .i64 15, .int .i64 16, .int .i64 16, .int .i64 14, .int .i64 258, .int .i64 16, .int .i64 16, .int .i64 257, .int .i64 17, .int .i64 16, .int .i64 0, .int .i64 0, .int .i64 (-16), .int .i64 16]⟩] : Mem))))
 (some (zoetropelaw05_PlaneKnown.c8388596 b1 false (some ⟨r156.2.length, 0, none⟩) 7 7 7 0 (r156.2 ++ [⟨.fx, [.int .i64 15, .int .i64 16, .int .i64 16, .int .i64 14, .int .i64 258, .int .i64 16, .int .i64 16, .int .i64 257, .int .i64 17, .int .i64 16, .int .i64 0, .int .i64 0, .int .i64 (-16), .int .i64 16]⟩] : Mem))))
 (some (zoetropelaw05_PlaneKnown.c8388596 b1 false (some ⟨r156.2.length, 0, none⟩) 7 7 7 0 (r156.2 ++ [⟨.fx, [.int .i64 15, .int .i64 16, .int .i64 16, .int .i64 14, .int .i64 258, .int .i64 16, .int .i64 16, .int .i64 257, .int .i64 17, .int .i64 16, .int .i64 0, .int .i64 0, .int .i64 (-16), .int .i64 16]⟩] : Mem))))
 (some (zoetropelaw05_PlaneKnown.c8388596 b1 false (some ⟨r156.2.length, 0, none⟩) 7 7 7 0 (r156.2 ++ [⟨.fx, [.int .i64 15, .int .i64 16, .int .i64 16, .int .i64 14, .int .i64 258, .int .i64 16, .int .i64 16, .int .i64 257, .int .i64 17, .int .i64 16, .int .i64 0, .int .i64 0, .int .i64 (-16), .int .i64 16]⟩] : Mem))))
 (some (zoetropelaw05_PlaneKnown.c8388596 b1 false (some ⟨r156.2.length, 0, none⟩) 7 7 7 0 (r156.2 ++ [⟨.fx, [.int .i64 15, .int .i64 16, .int .i64 16, .int .i64 14, .int .i64 258, .int .i64 16, .int .i64 16, .int .i64 257, .int .i64 17, .int .i64 16, .int .i64 0, .int .i64 0, .int .i64 (-16), .int .i64 16]⟩] : Mem))))))))) := by kernel_rfl
theorem zoetropelaw05_PlaneKnown.p8388596 (k lo : Nat) (b1 : Bool) (b2 : Bool) (A3 : Option Addr) (n4 : Nat) (c5 : Nat) (x6 : Int) (x7 : Int) (M : Mem) : piece P T k lo F.zoetropelaw05_PlaneKnown 8388596 [.v (.bool b1), .v (.bool b2), .v (.slice A3 n4 c5), .v (.int .i64 x6), .v (.int .i64 x7)] [] M =
 bb (decide (x7 < x6))
 (pb (0 ≤ x7 ∧ x7 < (n4 : Int))
 (ob A3 fun a165 =>
 ob ((M.ld (plus a165 (x7.toNat * 2))).bind (Value.int? .i64)) fun x166 =>
 ob ((M.ld (plus (plus a165 (x7.toNat * 2)) 1)).bind (Value.int? .i64)) fun x167 =>
 ob (acall P T k lo F.plane_Frame [.int .i64 x166, .int .i64 x167, .int .u8 1] M) fun r168 =>
 ob (r168.1.tup? 2) fun l169 =>
 ob ((l169[0]?).bind (Value.agg? 9)) fun l170 =>
 ob ((l170[0]?).bind (Value.int? .i64)) fun x171 =>
 ob ((l170[1]?).bind (Value.int? .i64)) fun x172 =>
 ob ((l170[2]?).bind Value.slc?) fun s173 =>
 ob ((l170[3]?).bind (Value.int? .i64)) fun x174 =>
 ob ((l170[4]?).bind (Value.int? .i64)) fun x175 =>
 ob ((l170[5]?).bind Value.slc?) fun s176 =>
 ob ((l170[6]?).bind (Value.int? .i64)) fun x177 =>
 ob ((l170[7]?).bind (Value.int? .i64)) fun x178 =>
 ob ((l170[8]?).bind Value.slc?) fun s179 =>
 ob ((l169[1]?).bind (Value.int? .i64)) fun x180 =>
 bb (x180 != 2)
 (some (.ret (.bool false) r168.2))
 (some (zoetropelaw05_PlaneKnown.c8388596 b1 b2 A3 n4 c5 x6 (IntKind.i64.wrap (x7 + 1)) r168.2))) none)
 (ob (acall P T k lo F.plane_Frame [.int .i64 256, .int .i64 256, .int .u8 1] M) fun r181 =>
 ob (r181.1.tup? 2) fun l182 =>
 ob ((l182[0]?).bind (Value.agg? 9)) fun l183 =>
 ob ((l183[0]?).bind (Value.int? .i64)) fun x184 =>
 ob ((l183[1]?).bind (Value.int? .i64)) fun x185 =>
 ob ((l183[2]?).bind Value.slc?) fun s186 =>
 ob ((l183[3]?).bind (Value.int? .i64)) fun x187 =>
 ob ((l183[4]?).bind (Value.int? .i64)) fun x188 =>
 ob ((l183[5]?).bind Value.slc?) fun s189 =>
 ob ((l183[6]?).bind (Value.int? .i64)) fun x190 =>
 ob ((l183[7]?).bind (Value.int? .i64)) fun x191 =>
 ob ((l183[8]?).bind Value.slc?) fun s192 =>
 ob ((l182[1]?).bind (Value.int? .i64)) fun x193 =>
 ob (acall P T k lo F.plane_Crop [.agg ⟨[.int .i64 x184, .int .i64 x185, .slice s186.a s186.n s186.c, .int .i64 x187, .int .i64 x188, .slice s189.a s189.n s189.c, .int .i64 x190, .int .i64 x191, .slice s192.a s192.n s192.c]⟩, .int .i64 16, .int .i64 16] r181.2) fun r194 =>
 ob (r194.1.tup? 2) fun l195 =>
 ob ((l195[0]?).bind (Value.agg? 9)) fun l196 =>
 ob ((l196[0]?).bind (Value.int? .i64)) fun x197 =>
 ob ((l196[1]?).bind (Value.int? .i64)) fun x198 =>
 ob ((l196[2]?).bind Value.slc?) fun s199 =>
 ob ((l196[3]?).bind (Value.int? .i64)) fun x200 =>
 ob ((l196[4]?).bind (Value.int? .i64)) fun x201 =>
 ob ((l196[5]?).bind Value.slc?) fun s202 =>
 ob ((l196[6]?).bind (Value.int? .i64)) fun x203 =>
 ob ((l196[7]?).bind (Value.int? .i64)) fun x204 =>
 ob ((l196[8]?).bind Value.slc?) fun s205 =>
 ob ((l195[1]?).bind (Value.int? .i64)) fun x206 =>
 ob (acall P T k lo F.plane_Crop [.agg ⟨[.int .i64 x184, .int .i64 x185, .slice s186.a s186.n s186.c, .int .i64 x187, .int .i64 x188, .slice s189.a s189.n s189.c, .int .i64 x190, .int .i64 x191, .slice s192.a s192.n s192.c]⟩, .int .i64 14, .int .i64 16] r194.2) fun r207 =>
 ob (r207.1.tup? 2) fun l208 =>
 ob ((l208[0]?).bind (Value.agg? 9)) fun l209 =>
 ob ((l209[0]?).bind (Value.int? .i64)) fun x210 =>
 ob ((l209[1]?).bind (Value.int? .i64)) fun x211 =>
 ob ((l209[2]?).bind Value.slc?) fun s212 =>
 ob ((l209[3]?).bind (Value.int? .i64)) fun x213 =>
 ob ((l209[4]?).bind (Value.int? .i64)) fun x214 =>
 ob ((l209[5]?).bind Value.slc?) fun s215 =>
 ob ((l209[6]?).bind (Value.int? .i64)) fun x216 =>
 ob ((l209[7]?).bind (Value.int? .i64)) fun x217 =>
 ob ((l209[8]?).bind Value.slc?) fun s218 =>
 ob ((l208[1]?).bind (Value.int? .i64)) fun x219 =>
 ob (acall P T k lo F.plane_Crop [.agg ⟨[.int .i64 x184, .int .i64 x185, .slice s186.a s186.n s186.c, .int .i64 x187, .int .i64 x188, .slice s189.a s189.n s189.c, .int .i64 x190, .int .i64 x191, .slice s192.a s192.n s192.c]⟩, .int .i64 16, .int .i64 17] r207.2) fun r220 =>
 ob (r220.1.tup? 2) fun l221 =>
 ob ((l221[0]?).bind (Value.agg? 9)) fun l222 =>
 ob ((l222[0]?).bind (Value.int? .i64)) fun x223 =>
 ob ((l222[1]?).bind (Value.int? .i64)) fun x224 =>
 ob ((l222[2]?).bind Value.slc?) fun s225 =>
 ob ((l222[3]?).bind (Value.int? .i64)) fun x226 =>
 ob ((l222[4]?).bind (Value.int? .i64)) fun x227 =>
 ob ((l222[5]?).bind Value.slc?) fun s228 =>
 ob ((l222[6]?).bind (Value.int? .i64)) fun x229 =>
 ob ((l222[7]?).bind (Value.int? .i64)) fun x230 =>
 ob ((l222[8]?).bind Value.slc?) fun s231 =>
 ob ((l221[1]?).bind (Value.int? .i64)) fun x232 =>
 ob (acall P T k lo F.plane_Crop [.agg ⟨[.int .i64 x197, .int .i64 x198, .slice s199.a s199.n s199.c, .int .i64 x200, .int .i64 x201, .slice s202.a s202.n s202.c, .int .i64 x203, .int .i64 x204, .slice s205.a s205.n s205.c]⟩, .int .i64 18, .int .i64 16] r220.2) fun r233 =>
 ob (r233.1.tup? 2) fun l234 =>
 ob ((l234[0]?).bind (Value.agg? 9)) fun l235 =>
 ob ((l235[0]?).bind (Value.int? .i64)) fun x236 =>
 ob ((l235[1]?).bind (Value.int? .i64)) fun x237 =>
 ob ((l235[2]?).bind Value.slc?) fun s238 =>
 ob ((l235[3]?).bind (Value.int? .i64)) fun x239 =>
 ob ((l235[4]?).bind (Value.int? .i64)) fun x240 =>
 ob ((l235[5]?).bind Value.slc?) fun s241 =>
 ob ((l235[6]?).bind (Value.int? .i64)) fun x242 =>
 ob ((l235[7]?).bind (Value.int? .i64)) fun x243 =>
 ob ((l235[8]?).bind Value.slc?) fun s244 =>
 ob ((l234[1]?).bind (Value.int? .i64)) fun x245 =>
 ob (acall P T k lo F.zoetropelaw05_works [] r233.2) fun r246 =>
 ob ((some r246.1).bind Value.bool?) fun b247 =>
 bb b247
 (bb b1
 (bb b2
 (bb (x193 == 0)
 (bb (x206 == 0)
 (bb (x219 == 2)
 (bb (x232 == 2)
 (bb (x245 == 2)
 (ob (acall P T k lo F.plane_Whole [.agg ⟨[.int .i64 x197, .int .i64 x198, .slice s199.a s199.n s199.c, .int .i64 x200, .int .i64 x201, .slice s202.a s202.n s202.c, .int .i64 4, .int .i64 x204, .slice s205.a s205.n s205.c]⟩] r246.2) fun r248 =>
 ob ((some r248.1).bind (Value.int? .i64)) fun x249 =>
 bb (x249 == 2)
 (ob (acall P T k lo F.plane_Whole [.agg ⟨[.int .i64 0, .int .i64 0, .slice none 0 0, .int .i64 0, .int .i64 0, .slice none 0 0, .int .i64 0, .int .i64 0, .slice none 0 0]⟩] r248.2) fun r250 =>
 ob ((some r250.1).bind (Value.int? .i64)) fun x251 =>
 some (.ret (.bool (x251 == 2)) r250.2))
 (some (.ret (.bool false) r248.2)))
 (some (.ret (.bool false) r246.2)))
 (some (.ret (.bool false) r246.2)))
 (some (.ret (.bool false) r246.2)))
 (some (.ret (.bool false) r246.2)))
 (some (.ret (.bool false) r246.2)))
 (some (.ret (.bool false) r246.2)))
 (some (.ret (.bool false) r246.2)))
 (some (.ret (.bool false) r246.2))) := by kernel_rfl
theorem zoetroperef05_CopyPlane.entry (k lo : Nat) (x1 : Int) (x2 : Int) (A3 : Option Addr) (n4 : Nat) (c5 : Nat) (M : Mem) : entry P T k lo F.zoetroperef05_CopyPlane [.agg ⟨[.int .i64 x1, .int .i64 x2, .slice A3 n4 c5]⟩] M =
 ob (acall P T k M.length F.zoetroperef00_CopyBytes [.slice A3 n4 c5] M) fun r11 =>
 ob ((some r11.1).bind Value.slc?) fun s12 =>
 some (.ret (.agg ⟨[.int .i64 x1, .int .i64 x2, .slice s12.a s12.n s12.c]⟩) r11.2) := by kernel_rfl
theorem zoetroperef00_CopyBytes.entry (k lo : Nat) (A1 : Option Addr) (n2 : Nat) (c3 : Nat) (M : Mem) : entry P T k lo F.zoetroperef00_CopyBytes [.slice A1 n2 c3] M =
 ob (Mem.src M A1 n2 n2) fun l9 =>
 ob (M.app lo 1 1 ⟨none, 0, 0⟩ l9 n2) fun r10 =>
 some (.ret (.slice r10.1.a r10.1.n r10.1.c) r10.2) := by kernel_rfl
theorem plane_Cut.entry (k lo : Nat) (x1 : Int) (x2 : Int) (A3 : Option Addr) (n4 : Nat) (c5 : Nat) (x6 : Int) (x7 : Int) (x8 : Int) (x9 : Int) (M : Mem) : entry P T k lo F.plane_Cut [.agg ⟨[.int .i64 x1, .int .i64 x2, .slice A3 n4 c5]⟩, .agg ⟨[.int .i64 x6, .int .i64 x7, .int .i64 x8, .int .i64 x9]⟩] M =
 ob (acall P T k lo F.plane_within [.agg ⟨[.int .i64 x1, .int .i64 x2, .slice A3 n4 c5]⟩, .agg ⟨[.int .i64 x6, .int .i64 x7, .int .i64 x8, .int .i64 x9]⟩] M) fun r15 =>
 ob ((some r15.1).bind Value.bool?) fun b16 =>
 bb (!b16)
 (some (.ret (.tuple ⟨[.slice none 0 0, .int .i64 2]⟩) r15.2))
 (pb (0 ≤ IntKind.i64.wrap (x8 * x9) ∧ room ((IntKind.i64.wrap (x8 * x9)).toNat) 1)
 (some (plane_Cut.c244 (some ⟨r15.2.length, 0, some 0⟩) 0 0 x9 0 x1 x2 A3 n4 c5 x6 x7 x8 x9 (r15.2 ++ [⟨.op 1, []⟩] : Mem))) none) := by kernel_rfl
theorem plane_Cut.p244 (k lo : Nat) (A1 : Option Addr) (n2 : Nat) (c3 : Nat) (x4 : Int) (x5 : Int) (x6 : Int) (x7 : Int) (A8 : Option Addr) (n9 : Nat) (c10 : Nat) (x11 : Int) (x12 : Int) (x13 : Int) (x14 : Int) (M : Mem) : piece P T k lo F.plane_Cut 244 [.l 2 0, .l 3 0, .v (.slice A1 n2 c3), .v (.int .i64 x4), .v (.int .i64 x5)] [[.int .i64 x6, .int .i64 x7, .slice A8 n9 c10], [.int .i64 x11, .int .i64 x12, .int .i64 x13, .int .i64 x14]] M =
 bb (decide (x5 < x4))
 (ob (acall P T k lo F.plane_row [.agg ⟨[.int .i64 x6, .int .i64 x7, .slice A8 n9 c10]⟩, .agg ⟨[.int .i64 x11, .int .i64 x12, .int .i64 x13, .int .i64 x14]⟩, .int .i64 x5] M) fun r17 =>
 ob ((some r17.1).bind Value.slc?) fun s18 =>
 ob (Mem.src r17.2 s18.a s18.n s18.n) fun l19 =>
 ob (r17.2.app lo 1 1 ⟨A1, n2, c3⟩ l19 s18.n) fun r20 =>
 some (plane_Cut.c244 r20.1.a r20.1.n r20.1.c x4 (IntKind.i64.wrap (x5 + 1)) x6 x7 A8 n9 c10 x11 x12 x13 x14 r20.2))
 (some (.ret (.tuple ⟨[.slice A1 n2 c3, .int .i64 0]⟩) M)) := by kernel_rfl
theorem zoetroperef05_Cut.entry (k lo : Nat) (x1 : Int) (x2 : Int) (A3 : Option Addr) (n4 : Nat) (c5 : Nat) (x6 : Int) (x7 : Int) (x8 : Int) (x9 : Int) (M : Mem) : entry P T k lo F.zoetroperef05_Cut [.agg ⟨[.int .i64 x1, .int .i64 x2, .slice A3 n4 c5]⟩, .agg ⟨[.int .i64 x6, .int .i64 x7, .int .i64 x8, .int .i64 x9]⟩] M =
 ob (acall P T k lo F.zoetroperef05_Check [.agg ⟨[.int .i64 x1, .int .i64 x2, .slice A3 n4 c5]⟩] M) fun r15 =>
 ob ((some r15.1).bind (Value.int? .i64)) fun x16 =>
 bb (x16 != 0)
 (some (.ret (.tuple ⟨[.slice none 0 0, .int .i64 2]⟩) r15.2))
 (ob (acall P T k lo F.zoetroperef05_Within [.agg ⟨[.int .i64 x1, .int .i64 x2, .slice A3 n4 c5]⟩, .agg ⟨[.int .i64 x6, .int .i64 x7, .int .i64 x8, .int .i64 x9]⟩] r15.2) fun r17 =>
 ob ((some r17.1).bind Value.bool?) fun b18 =>
 bb (!b18)
 (some (.ret (.tuple ⟨[.slice none 0 0, .int .i64 2]⟩) r17.2))
 (some (zoetroperef05_Cut.c244 none 0 0 x7 x1 x2 A3 n4 c5 x6 x7 x8 x9 r17.2))) := by kernel_rfl
theorem zoetroperef05_Cut.p244 (k lo : Nat) (A1 : Option Addr) (n2 : Nat) (c3 : Nat) (x4 : Int) (x5 : Int) (x6 : Int) (A7 : Option Addr) (n8 : Nat) (c9 : Nat) (x10 : Int) (x11 : Int) (x12 : Int) (x13 : Int) (M : Mem) : piece P T k lo F.zoetroperef05_Cut 244 [.l 2 0, .l 3 0, .v (.slice A1 n2 c3), .v (.int .i64 x4)] [[.int .i64 x5, .int .i64 x6, .slice A7 n8 c9], [.int .i64 x10, .int .i64 x11, .int .i64 x12, .int .i64 x13]] M =
 bb (decide (x4 < IntKind.i64.wrap (x11 + x13)))
 (some (zoetroperef05_Cut.c15652 A1 n2 c3 x4 x10 x5 x6 A7 n8 c9 x10 x11 x12 x13 M))
 (some (.ret (.tuple ⟨[.slice A1 n2 c3, .int .i64 0]⟩) M)) := by kernel_rfl
theorem zoetroperef05_Cut.p15652 (k lo : Nat) (A1 : Option Addr) (n2 : Nat) (c3 : Nat) (x4 : Int) (x5 : Int) (x6 : Int) (x7 : Int) (A8 : Option Addr) (n9 : Nat) (c10 : Nat) (x11 : Int) (x12 : Int) (x13 : Int) (x14 : Int) (M : Mem) : piece P T k lo F.zoetroperef05_Cut 15652 [.l 2 0, .l 3 0, .v (.slice A1 n2 c3), .v (.int .i64 x4), .v (.int .i64 x5)] [[.int .i64 x6, .int .i64 x7, .slice A8 n9 c10], [.int .i64 x11, .int .i64 x12, .int .i64 x13, .int .i64 x14]] M =
 bb (decide (x5 < IntKind.i64.wrap (x11 + x13)))
 (pb (0 ≤ IntKind.i64.wrap ((IntKind.i64.wrap (x4 * x6)) + x5) ∧ IntKind.i64.wrap ((IntKind.i64.wrap (x4 * x6)) + x5) < (n9 : Int))
 (ob A8 fun a19 =>
 ob ((M.ld (plus a19 ((IntKind.i64.wrap ((IntKind.i64.wrap (x4 * x6)) + x5)).toNat))).bind (Value.int? .u8)) fun x20 =>
 ob (M.app lo 1 1 ⟨A1, n2, c3⟩ ([.int .u8 x20]) 1) fun r21 =>
 some (zoetroperef05_Cut.c15652 r21.1.a r21.1.n r21.1.c x4 (IntKind.i64.wrap (x5 + 1)) x6 x7 A8 n9 c10 x11 x12 x13 x14 r21.2)) none)
 (some (zoetroperef05_Cut.c244 A1 n2 c3 (IntKind.i64.wrap (x4 + 1)) x6 x7 A8 n9 c10 x11 x12 x13 x14 M)) := by kernel_rfl
theorem zoetroperef00_EqBytes.entry (k lo : Nat) (A1 : Option Addr) (n2 : Nat) (c3 : Nat) (A4 : Option Addr) (n5 : Nat) (c6 : Nat) (M : Mem) : entry P T k lo F.zoetroperef00_EqBytes [.slice A1 n2 c3, .slice A4 n5 c6] M =
 bb ((n2 : Int) != (n5 : Int))
 (some (.ret (.bool false) M))
 (some (zoetroperef00_EqBytes.c116 A1 n2 c3 A4 n5 c6 0 M)) := by kernel_rfl
theorem zoetroperef00_EqBytes.p116 (k lo : Nat) (A1 : Option Addr) (n2 : Nat) (c3 : Nat) (A4 : Option Addr) (n5 : Nat) (c6 : Nat) (x7 : Int) (M : Mem) : piece P T k lo F.zoetroperef00_EqBytes 116 [.v (.slice A1 n2 c3), .v (.slice A4 n5 c6), .v (.int .i64 x7)] [] M =
 bb (decide (x7 < (n2 : Int)))
 (pb (0 ≤ x7 ∧ x7 < (n2 : Int))
 (ob A1 fun a12 =>
 ob ((M.ld (plus a12 x7.toNat)).bind (Value.int? .u8)) fun x13 =>
 pb (0 ≤ x7 ∧ x7 < (n5 : Int))
 (ob A4 fun a14 =>
 ob ((M.ld (plus a14 x7.toNat)).bind (Value.int? .u8)) fun x15 =>
 bb (x13 != x15)
 (some (.ret (.bool false) M))
 (some (zoetroperef00_EqBytes.c116 A1 n2 c3 A4 n5 c6 (IntKind.i64.wrap (x7 + 1)) M))) none) none)
 (some (.ret (.bool true) M)) := by kernel_rfl
theorem plane_Lay.entry (k lo : Nat) (x1 : Int) (x2 : Int) (A3 : Option Addr) (n4 : Nat) (c5 : Nat) (x6 : Int) (x7 : Int) (x8 : Int) (x9 : Int) (A10 : Option Addr) (n11 : Nat) (c12 : Nat) (M : Mem) : entry P T k lo F.plane_Lay [.agg ⟨[.int .i64 x1, .int .i64 x2, .slice A3 n4 c5]⟩, .agg ⟨[.int .i64 x6, .int .i64 x7, .int .i64 x8, .int .i64 x9]⟩, .slice A10 n11 c12] M =
 ob (acall P T k lo F.plane_within [.agg ⟨[.int .i64 x1, .int .i64 x2, .slice A3 n4 c5]⟩, .agg ⟨[.int .i64 x6, .int .i64 x7, .int .i64 x8, .int .i64 x9]⟩] M) fun r18 =>
 ob ((some r18.1).bind Value.bool?) fun b19 =>
 bb (!b19)
 (some (.ret (.tuple ⟨[.agg ⟨[.int .i64 0, .int .i64 0, .slice none 0 0]⟩, .int .i64 2]⟩) r18.2))
 (bb ((n11 : Int) != IntKind.i64.wrap (x8 * x9))
 (some (.ret (.tuple ⟨[.agg ⟨[.int .i64 0, .int .i64 0, .slice none 0 0]⟩, .int .i64 2]⟩) r18.2))
 (ob (acall P T k lo F.slices_Clone__uint8_uint8 [.slice A3 n4 c5] r18.2) fun r20 =>
 ob ((some r20.1).bind Value.slc?) fun s21 =>
 some (plane_Lay.c244 A10 n11 c12 x9 0 x1 x2 s21.a s21.n s21.c x6 x7 x8 x9 0 0 none 0 0 r20.2))) := by kernel_rfl
theorem plane_Lay.p244 (k lo : Nat) (A1 : Option Addr) (n2 : Nat) (c3 : Nat) (x4 : Int) (x5 : Int) (x6 : Int) (x7 : Int) (A8 : Option Addr) (n9 : Nat) (c10 : Nat) (x11 : Int) (x12 : Int) (x13 : Int) (x14 : Int) (x15 : Int) (x16 : Int) (A17 : Option Addr) (n18 : Nat) (c19 : Nat) (M : Mem) : piece P T k lo F.plane_Lay 244 [.v (.slice A1 n2 c3), .l 3 0, .l 4 0, .l 6 0, .v (.int .i64 x4), .v (.int .i64 x5)] [[.int .i64 x6, .int .i64 x7, .slice A8 n9 c10], [.int .i64 x11, .int .i64 x12, .int .i64 x13, .int .i64 x14], [.int .i64 x15, .int .i64 x16, .slice A17 n18 c19]] M =
 bb (decide (x5 < x4))
 (ob (acall P T k M.length F.plane_row [.agg ⟨[.int .i64 x6, .int .i64 x7, .slice A8 n9 c10]⟩, .agg ⟨[.int .i64 x11, .int .i64 x12, .int .i64 x13, .int .i64 x14]⟩, .int .i64 x5] M) fun r22 =>
 ob ((some r22.1).bind Value.slc?) fun s23 =>
 pb (0 ≤ IntKind.i64.wrap (x5 * x13) ∧ IntKind.i64.wrap (x5 * x13) ≤ (n2 : Int))
 (ob (Mem.src r22.2 (slAddr 1 A1 ((IntKind.i64.wrap (x5 * x13)).toNat) c3) (Nat.min (n2 - ((IntKind.i64.wrap (x5 * x13)).toNat)) s23.n) (Nat.min (n2 - ((IntKind.i64.wrap (x5 * x13)).toNat)) s23.n)) fun l24 =>
 pb (Nat.min (n2 - ((IntKind.i64.wrap (x5 * x13)).toNat)) s23.n = 0) (some (plane_Lay.c244 A1 n2 c3 x4 (IntKind.i64.wrap (x5 + 1)) x6 x7 A8 n9 c10 x11 x12 x13 x14 x15 x16 A17 n18 c19 r22.2))
 (ob s23.a fun a26 =>
 ob (r22.2.st lo a26 l24) fun M25 =>
 some (plane_Lay.c244 A1 n2 c3 x4 (IntKind.i64.wrap (x5 + 1)) x6 x7 A8 n9 c10 x11 x12 x13 x14 x15 x16 A17 n18 c19 M25))) none)
 (some (.ret (.tuple ⟨[.agg ⟨[.int .i64 x6, .int .i64 x7, .slice A8 n9 c10]⟩, .int .i64 0]⟩) M)) := by kernel_rfl
theorem zoetroperef05_Lay.entry (k lo : Nat) (x1 : Int) (x2 : Int) (A3 : Option Addr) (n4 : Nat) (c5 : Nat) (x6 : Int) (x7 : Int) (x8 : Int) (x9 : Int) (A10 : Option Addr) (n11 : Nat) (c12 : Nat) (M : Mem) : entry P T k lo F.zoetroperef05_Lay [.agg ⟨[.int .i64 x1, .int .i64 x2, .slice A3 n4 c5]⟩, .agg ⟨[.int .i64 x6, .int .i64 x7, .int .i64 x8, .int .i64 x9]⟩, .slice A10 n11 c12] M =
 ob (acall P T k lo F.zoetroperef05_Check [.agg ⟨[.int .i64 x1, .int .i64 x2, .slice A3 n4 c5]⟩] M) fun r18 =>
 ob ((some r18.1).bind (Value.int? .i64)) fun x19 =>
 bb (x19 != 0)
 (some (.ret (.tuple ⟨[.agg ⟨[.int .i64 0, .int .i64 0, .slice none 0 0]⟩, .int .i64 2]⟩) r18.2))
 (ob (acall P T k lo F.zoetroperef05_Within [.agg ⟨[.int .i64 x1, .int .i64 x2, .slice A3 n4 c5]⟩, .agg ⟨[.int .i64 x6, .int .i64 x7, .int .i64 x8, .int .i64 x9]⟩] r18.2) fun r20 =>
 ob ((some r20.1).bind Value.bool?) fun b21 =>
 bb (!b21)
 (some (.ret (.tuple ⟨[.agg ⟨[.int .i64 0, .int .i64 0, .slice none 0 0]⟩, .int .i64 2]⟩) r20.2))
 (bb ((n11 : Int) != IntKind.i64.wrap (x8 * x9))
 (some (.ret (.tuple ⟨[.agg ⟨[.int .i64 0, .int .i64 0, .slice none 0 0]⟩, .int .i64 2]⟩) r20.2))
 (ob (acall P T k r20.2.length F.zoetroperef00_CopyBytes [.slice A3 n4 c5] r20.2) fun r22 =>
 ob ((some r22.1).bind Value.slc?) fun s23 =>
 some (zoetroperef05_Lay.c244 A10 n11 c12 0 x1 x2 A3 n4 c5 x6 x7 x8 x9 0 0 none 0 0 x1 x2 s23.a s23.n s23.c r22.2)))) := by kernel_rfl
theorem zoetroperef05_Lay.p244 (k lo : Nat) (A1 : Option Addr) (n2 : Nat) (c3 : Nat) (x4 : Int) (x5 : Int) (x6 : Int) (A7 : Option Addr) (n8 : Nat) (c9 : Nat) (x10 : Int) (x11 : Int) (x12 : Int) (x13 : Int) (x14 : Int) (x15 : Int) (A16 : Option Addr) (n17 : Nat) (c18 : Nat) (x19 : Int) (x20 : Int) (A21 : Option Addr) (n22 : Nat) (c23 : Nat) (M : Mem) : piece P T k lo F.zoetroperef05_Lay 244 [.v (.slice A1 n2 c3), .l 3 0, .l 4 0, .l 6 0, .l 8 0, .v (.int .i64 x4)] [[.int .i64 x5, .int .i64 x6, .slice A7 n8 c9], [.int .i64 x10, .int .i64 x11, .int .i64 x12, .int .i64 x13], [.int .i64 x14, .int .i64 x15, .slice A16 n17 c18], [.int .i64 x19, .int .i64 x20, .slice A21 n22 c23]] M =
 bb (decide (x4 < (n2 : Int)))
 (pb (x12 = 0) none
 (pb (x12 = 0) none
 (pb (0 ≤ x4 ∧ x4 < (n2 : Int))
 (ob A1 fun a24 =>
 ob ((M.ld (plus a24 x4.toNat)).bind (Value.int? .u8)) fun x25 =>
 pb (0 ≤ IntKind.i64.wrap ((IntKind.i64.wrap ((IntKind.i64.wrap ((IntKind.i64.wrap (x11 + (IntKind.i64.wrap (Int.tdiv x4 x12)))) * x5)) + x10)) + (Int.tmod x4 x12)) ∧ IntKind.i64.wrap ((IntKind.i64.wrap ((IntKind.i64.wrap ((IntKind.i64.wrap (x11 + (IntKind.i64.wrap (Int.tdiv x4 x12)))) * x5)) + x10)) + (Int.tmod x4 x12)) < (n22 : Int))
 (ob A21 fun a26 =>
 ob (M.st lo (plus a26 ((IntKind.i64.wrap ((IntKind.i64.wrap ((IntKind.i64.wrap ((IntKind.i64.wrap (x11 + (IntKind.i64.wrap (Int.tdiv x4 x12)))) * x5)) + x10)) + (Int.tmod x4 x12))).toNat)) [.int .u8 x25]) fun M27 =>
 some (zoetroperef05_Lay.c244 A1 n2 c3 (IntKind.i64.wrap (x4 + 1)) x5 x6 A7 n8 c9 x10 x11 x12 x13 x14 x15 A16 n17 c18 x19 x20 A21 n22 c23 M27)) none) none)))
 (some (.ret (.tuple ⟨[.agg ⟨[.int .i64 x19, .int .i64 x20, .slice A21 n22 c23]⟩, .int .i64 0]⟩) M)) := by kernel_rfl
theorem zoetropelaw05_told.entry (k lo : Nat) (x1 : Int) (x2 : Int) (A3 : Option Addr) (n4 : Nat) (c5 : Nat) (x6 : Int) (x7 : Int) (x8 : Int) (A9 : Option Addr) (n10 : Nat) (c11 : Nat) (x12 : Int) (M : Mem) : entry P T k lo F.zoetropelaw05_told [.agg ⟨[.int .i64 x1, .int .i64 x2, .slice A3 n4 c5]⟩, .int .i64 x6, .agg ⟨[.int .i64 x7, .int .i64 x8, .slice A9 n10 c11]⟩, .int .i64 x12] M =
 bb (x6 == x12)
 (ob (acall P T k lo F.zoetroperef05_Same [.agg ⟨[.int .i64 x1, .int .i64 x2, .slice A3 n4 c5]⟩, .agg ⟨[.int .i64 x7, .int .i64 x8, .slice A9 n10 c11]⟩] M) fun r18 =>
 ob ((some r18.1).bind Value.bool?) fun b19 =>
 ob (acall P T k lo F.zoetropelaw05_spoil [.agg ⟨[.int .i64 x1, .int .i64 x2, .slice A3 n4 c5]⟩] r18.2) fun r20 =>
 ob (r20.1.tup? 0) fun l21 =>
 some (.ret (.bool b19) r20.2))
 (ob (acall P T k lo F.zoetropelaw05_spoil [.agg ⟨[.int .i64 x1, .int .i64 x2, .slice A3 n4 c5]⟩] M) fun r22 =>
 ob (r22.1.tup? 0) fun l23 =>
 some (.ret (.bool false) r22.2)) := by kernel_rfl
theorem zoetroperef05_Same.entry (k lo : Nat) (x1 : Int) (x2 : Int) (A3 : Option Addr) (n4 : Nat) (c5 : Nat) (x6 : Int) (x7 : Int) (A8 : Option Addr) (n9 : Nat) (c10 : Nat) (M : Mem) : entry P T k lo F.zoetroperef05_Same [.agg ⟨[.int .i64 x1, .int .i64 x2, .slice A3 n4 c5]⟩, .agg ⟨[.int .i64 x6, .int .i64 x7, .slice A8 n9 c10]⟩] M =
 bb (x1 == x6)
 (bb (x2 == x7)
 (ob (acall P T k lo F.zoetroperef00_EqBytes [.slice A3 n4 c5, .slice A8 n9 c10] M) fun r16 =>
 ob ((some r16.1).bind Value.bool?) fun b17 =>
 some (.ret (.bool b17) r16.2))
 (some (.ret (.bool false) M)))
 (some (.ret (.bool false) M)) := by kernel_rfl
theorem plane_Pad.entry (k lo : Nat) (x1 : Int) (x2 : Int) (A3 : Option Addr) (n4 : Nat) (c5 : Nat) (x6 : Int) (x7 : Int) (M : Mem) : entry P T k lo F.plane_Pad [.agg ⟨[.int .i64 x1, .int .i64 x2, .slice A3 n4 c5]⟩, .int .i64 x6, .int .i64 x7] M =
 ob (acall P T k lo F.plane_Check [.agg ⟨[.int .i64 x1, .int .i64 x2, .slice A3 n4 c5]⟩] M) fun r13 =>
 ob ((some r13.1).bind (Value.int? .i64)) fun x14 =>
 bb (x14 != 0)
 (some (.ret (.tuple ⟨[.agg ⟨[.int .i64 0, .int .i64 0, .slice none 0 0]⟩, .int .i64 2]⟩) r13.2))
 (ob (acall P T k lo F.plane_sizes [.int .i64 x6, .int .i64 x7] r13.2) fun r15 =>
 ob ((some r15.1).bind Value.bool?) fun b16 =>
 bb (!b16)
 (some (.ret (.tuple ⟨[.agg ⟨[.int .i64 0, .int .i64 0, .slice none 0 0]⟩, .int .i64 2]⟩) r15.2))
 (bb (decide (x6 < x1))
 (some (.ret (.tuple ⟨[.agg ⟨[.int .i64 0, .int .i64 0, .slice none 0 0]⟩, .int .i64 2]⟩) r15.2))
 (bb (decide (x7 < x2))
 (some (.ret (.tuple ⟨[.agg ⟨[.int .i64 0, .int .i64 0, .slice none 0 0]⟩, .int .i64 2]⟩) r15.2))
 (ob (acall P T k lo F.plane_sized [.agg ⟨[.int .i64 x1, .int .i64 x2, .slice A3 n4 c5]⟩, .int .i64 x6, .int .i64 x7] r15.2) fun r17 =>
 ob ((some r17.1).bind (Value.agg? 3)) fun l18 =>
 ob ((l18[0]?).bind (Value.int? .i64)) fun x19 =>
 ob ((l18[1]?).bind (Value.int? .i64)) fun x20 =>
 ob ((l18[2]?).bind Value.slc?) fun s21 =>
 some (.ret (.tuple ⟨[.agg ⟨[.int .i64 x19, .int .i64 x20, .slice s21.a s21.n s21.c]⟩, .int .i64 0]⟩) r17.2))))) := by kernel_rfl
theorem zoetroperef05_Pad.entry (k lo : Nat) (x1 : Int) (x2 : Int) (A3 : Option Addr) (n4 : Nat) (c5 : Nat) (x6 : Int) (x7 : Int) (M : Mem) : entry P T k lo F.zoetroperef05_Pad [.agg ⟨[.int .i64 x1, .int .i64 x2, .slice A3 n4 c5]⟩, .int .i64 x6, .int .i64 x7] M =
 ob (acall P T k lo F.zoetroperef05_Check [.agg ⟨[.int .i64 x1, .int .i64 x2, .slice A3 n4 c5]⟩] M) fun r13 =>
 ob ((some r13.1).bind (Value.int? .i64)) fun x14 =>
 bb (x14 != 0)
 (some (.ret (.tuple ⟨[.agg ⟨[.int .i64 0, .int .i64 0, .slice none 0 0]⟩, .int .i64 2]⟩) r13.2))
 (bb (decide (x6 < x1))
 (some (.ret (.tuple ⟨[.agg ⟨[.int .i64 0, .int .i64 0, .slice none 0 0]⟩, .int .i64 2]⟩) r13.2))
 (bb (decide (x6 > 512))
 (some (.ret (.tuple ⟨[.agg ⟨[.int .i64 0, .int .i64 0, .slice none 0 0]⟩, .int .i64 2]⟩) r13.2))
 (bb (decide (x7 < x2))
 (some (.ret (.tuple ⟨[.agg ⟨[.int .i64 0, .int .i64 0, .slice none 0 0]⟩, .int .i64 2]⟩) r13.2))
 (bb (decide (x7 > 512))
 (some (.ret (.tuple ⟨[.agg ⟨[.int .i64 0, .int .i64 0, .slice none 0 0]⟩, .int .i64 2]⟩) r13.2))
 (ob (acall P T k lo F.zoetroperef05_sized [.agg ⟨[.int .i64 x1, .int .i64 x2, .slice A3 n4 c5]⟩, .int .i64 x6, .int .i64 x7] r13.2) fun r15 =>
 ob ((some r15.1).bind (Value.agg? 3)) fun l16 =>
 ob ((l16[0]?).bind (Value.int? .i64)) fun x17 =>
 ob ((l16[1]?).bind (Value.int? .i64)) fun x18 =>
 ob ((l16[2]?).bind Value.slc?) fun s19 =>
 some (.ret (.tuple ⟨[.agg ⟨[.int .i64 x17, .int .i64 x18, .slice s19.a s19.n s19.c]⟩, .int .i64 0]⟩) r15.2)))))) := by kernel_rfl
theorem zoetroperef00_Bring.entry (k lo : Nat) (x1 : Int) (x2 : Int) (M : Mem) : entry P T k lo F.zoetroperef00_Bring [.int .i64 x1, .int .i64 x2] M =
 bb (decide (x2 ≤ 0))
 (some (.ret (.int .i64 0) M))
 (pb (x2 = 0) none
 (bb (decide (Int.tmod x1 x2 < 0))
 (some (zoetroperef00_Bring.c31 (IntKind.i64.wrap ((Int.tmod x1 x2) + x2)) M))
 (some (zoetroperef00_Bring.c31 (Int.tmod x1 x2) M)))) := by kernel_rfl
theorem zoetroperef00_Bring.p31 (k lo : Nat) (x1 : Int) (M : Mem) : piece P T k lo F.zoetroperef00_Bring 31 [.v (.int .i64 x1)] [] M =
 some (.ret (.int .i64 x1) M) := by kernel_rfl
theorem zoetropelaw05_works.entry (k lo : Nat) (M : Mem) : entry P T k lo F.zoetropelaw05_works [] M =
 ob (acall P T k lo F.zoetropelaw05_four [] M) fun r6 =>
 ob ((some r6.1).bind (Value.agg? 3)) fun l7 =>
 ob ((l7[0]?).bind (Value.int? .i64)) fun x8 =>
 ob ((l7[1]?).bind (Value.int? .i64)) fun x9 =>
 ob ((l7[2]?).bind Value.slc?) fun s10 =>
 ob (acall P T k lo F.plane_Cut [.agg ⟨[.int .i64 x8, .int .i64 x9, .slice s10.a s10.n s10.c]⟩, .agg ⟨[.int .i64 1, .int .i64 0, .int .i64 1, .int .i64 2]⟩] r6.2) fun r11 =>
 ob (r11.1.tup? 2) fun l12 =>
 ob ((l12[0]?).bind Value.slc?) fun s13 =>
 ob ((l12[1]?).bind (Value.int? .i64)) fun x14 =>
 ob (acall P T k lo F.zoetropelaw05_four [] r11.2) fun r15 =>
 ob ((some r15.1).bind (Value.agg? 3)) fun l16 =>
 ob ((l16[0]?).bind (Value.int? .i64)) fun x17 =>
 ob ((l16[1]?).bind (Value.int? .i64)) fun x18 =>
 ob ((l16[2]?).bind Value.slc?) fun s19 =>
 ob (acall P T k lo F.plane_Lay [.agg ⟨[.int .i64 x17, .int .i64 x18, .slice s19.a s19.n s19.c]⟩, .agg ⟨[.int .i64 0, .int .i64 1, .int .i64 2, .int .i64 1]⟩, .slice (some ⟨r15.2.length, 0, none⟩) 2 2] (r15.2 ++ [⟨.fx, [.int .u8 7, .int .u8 8]⟩] : Mem)) fun r20 =>
 ob (r20.1.tup? 2) fun l21 =>
 ob ((l21[0]?).bind (Value.agg? 3)) fun l22 =>
 ob ((l22[0]?).bind (Value.int? .i64)) fun x23 =>
 ob ((l22[1]?).bind (Value.int? .i64)) fun x24 =>
 ob ((l22[2]?).bind Value.slc?) fun s25 =>
 ob ((l21[1]?).bind (Value.int? .i64)) fun x26 =>
 ob (acall P T k lo F.zoetropelaw05_four [] r20.2) fun r27 =>
 ob ((some r27.1).bind (Value.agg? 3)) fun l28 =>
 ob ((l28[0]?).bind (Value.int? .i64)) fun x29 =>
 ob ((l28[1]?).bind (Value.int? .i64)) fun x30 =>
 ob ((l28[2]?).bind Value.slc?) fun s31 =>
 ob (acall P T k lo F.plane_Pad [.agg ⟨[.int .i64 x29, .int .i64 x30, .slice s31.a s31.n s31.c]⟩, .int .i64 3, .int .i64 3] r27.2) fun r32 =>
 ob (r32.1.tup? 2) fun l33 =>
 ob ((l33[0]?).bind (Value.agg? 3)) fun l34 =>
 ob ((l34[0]?).bind (Value.int? .i64)) fun x35 =>
 ob ((l34[1]?).bind (Value.int? .i64)) fun x36 =>
 ob ((l34[2]?).bind Value.slc?) fun s37 =>
 ob ((l33[1]?).bind (Value.int? .i64)) fun x38 =>
 ob (acall P T k lo F.zoetropelaw05_four [] r32.2) fun r39 =>
 ob ((some r39.1).bind (Value.agg? 3)) fun l40 =>
 ob ((l40[0]?).bind (Value.int? .i64)) fun x41 =>
 ob ((l40[1]?).bind (Value.int? .i64)) fun x42 =>
 ob ((l40[2]?).bind Value.slc?) fun s43 =>
 ob (acall P T k lo F.plane_Apart [.agg ⟨[.int .i64 x41, .int .i64 x42, .slice s43.a s43.n s43.c]⟩, .agg ⟨[.int .i64 2, .int .i64 2, .slice (some ⟨r39.2.length, 0, none⟩) 4 4]⟩] (r39.2 ++ [⟨.fx, [.int .u8 1, .int .u8 2, .int .u8 3, .int .u8 7]⟩] : Mem)) fun r44 =>
 ob (r44.1.tup? 2) fun l45 =>
 ob ((l45[0]?).bind (Value.int? .u64)) fun x46 =>
 ob ((l45[1]?).bind (Value.int? .i64)) fun x47 =>
 ob (acall P T k lo F.plane_Frame [.int .i64 18, .int .i64 16, .int .u8 5] r44.2) fun r48 =>
 ob (r48.1.tup? 2) fun l49 =>
 ob ((l49[0]?).bind (Value.agg? 9)) fun l50 =>
 ob ((l50[0]?).bind (Value.int? .i64)) fun x51 =>
 ob ((l50[1]?).bind (Value.int? .i64)) fun x52 =>
 ob ((l50[2]?).bind Value.slc?) fun s53 =>
 ob ((l50[3]?).bind (Value.int? .i64)) fun x54 =>
 ob ((l50[4]?).bind (Value.int? .i64)) fun x55 =>
 ob ((l50[5]?).bind Value.slc?) fun s56 =>
 ob ((l50[6]?).bind (Value.int? .i64)) fun x57 =>
 ob ((l50[7]?).bind (Value.int? .i64)) fun x58 =>
 ob ((l50[8]?).bind Value.slc?) fun s59 =>
 ob ((l49[1]?).bind (Value.int? .i64)) fun x60 =>
 ob (acall P T k lo F.plane_Coded [.agg ⟨[.int .i64 x51, .int .i64 x52, .slice s53.a s53.n s53.c, .int .i64 x54, .int .i64 x55, .slice s56.a s56.n s56.c, .int .i64 x57, .int .i64 x58, .slice s59.a s59.n s59.c]⟩] r48.2) fun r61 =>
 ob (r61.1.tup? 2) fun l62 =>
 ob ((l62[0]?).bind (Value.agg? 9)) fun l63 =>
 ob ((l63[0]?).bind (Value.int? .i64)) fun x64 =>
 ob ((l63[1]?).bind (Value.int? .i64)) fun x65 =>
 ob ((l63[2]?).bind Value.slc?) fun s66 =>
 ob ((l63[3]?).bind (Value.int? .i64)) fun x67 =>
 ob ((l63[4]?).bind (Value.int? .i64)) fun x68 =>
 ob ((l63[5]?).bind Value.slc?) fun s69 =>
 ob ((l63[6]?).bind (Value.int? .i64)) fun x70 =>
 ob ((l63[7]?).bind (Value.int? .i64)) fun x71 =>
 ob ((l63[8]?).bind Value.slc?) fun s72 =>
 ob ((l62[1]?).bind (Value.int? .i64)) fun x73 =>
 bb (x14 == 0)
 (bb (x26 == 0)
 (bb (x38 == 0)
 (bb (x47 == 0)
 (bb (x60 == 0)
 (bb (x73 == 0)
 (ob (acall P T k lo F.zoetroperef00_EqBytes [.slice s13.a s13.n s13.c, .slice (some ⟨r61.2.length, 0, none⟩) 2 2] (r61.2 ++ [⟨.fx, [.int .u8 2, .int .u8 4]⟩] : Mem)) fun r74 =>
 ob ((some r74.1).bind Value.bool?) fun b75 =>
 bb b75
 (ob (acall P T k lo F.zoetroperef00_EqBytes [.slice s25.a s25.n s25.c, .slice (some ⟨r74.2.length, 0, none⟩) 4 4] (r74.2 ++ [⟨.fx, [.int .u8 1, .int .u8 2, .int .u8 7, .int .u8 8]⟩] : Mem)) fun r76 =>
 ob ((some r76.1).bind Value.bool?) fun b77 =>
 bb b77
 (ob (acall P T k lo F.zoetroperef00_EqBytes [.slice s37.a s37.n s37.c, .slice (some ⟨r76.2.length, 0, none⟩) 9 9] (r76.2 ++ [⟨.fx, [.int .u8 1, .int .u8 2, .int .u8 2, .int .u8 3, .int .u8 4, .int .u8 4, .int .u8 3, .int .u8 4, .int .u8 4]⟩] : Mem)) fun r78 =>
 ob ((some r78.1).bind Value.bool?) fun b79 =>
 bb b79
 (bb (x46 == 9)
 (bb (x64 == 24)
 (bb (x67 == 12)
 (ob (acall P T k lo F.plane_Whole [.agg ⟨[.int .i64 x64, .int .i64 x65, .slice s66.a s66.n s66.c, .int .i64 x67, .int .i64 x68, .slice s69.a s69.n s69.c, .int .i64 x70, .int .i64 x71, .slice s72.a s72.n s72.c]⟩] r78.2) fun r80 =>
 ob ((some r80.1).bind (Value.int? .i64)) fun x81 =>
 some (.ret (.bool (x81 == 0)) r80.2))
 (some (.ret (.bool false) r78.2)))
 (some (.ret (.bool false) r78.2)))
 (some (.ret (.bool false) r78.2)))
 (some (.ret (.bool false) r78.2)))
 (some (.ret (.bool false) r76.2)))
 (some (.ret (.bool false) r74.2)))
 (some (.ret (.bool false) r61.2)))
 (some (.ret (.bool false) r61.2)))
 (some (.ret (.bool false) r61.2)))
 (some (.ret (.bool false) r61.2)))
 (some (.ret (.bool false) r61.2)))
 (some (.ret (.bool false) r61.2)) := by kernel_rfl
theorem zoetroperef05_CopyFrame.entry (k lo : Nat) (x1 : Int) (x2 : Int) (A3 : Option Addr) (n4 : Nat) (c5 : Nat) (x6 : Int) (x7 : Int) (A8 : Option Addr) (n9 : Nat) (c10 : Nat) (x11 : Int) (x12 : Int) (A13 : Option Addr) (n14 : Nat) (c15 : Nat) (M : Mem) : entry P T k lo F.zoetroperef05_CopyFrame [.agg ⟨[.int .i64 x1, .int .i64 x2, .slice A3 n4 c5, .int .i64 x6, .int .i64 x7, .slice A8 n9 c10, .int .i64 x11, .int .i64 x12, .slice A13 n14 c15]⟩] M =
 some (zoetroperef05_CopyFrame.c116 0 x1 x2 A3 n4 c5 x6 x7 A8 n9 c10 x11 x12 A13 n14 c15 0 0 none 0 0 0 0 none 0 0 0 0 none 0 0 ([.int .i64 0, .int .i64 0, .slice none 0 0, .int .i64 0, .int .i64 0, .slice none 0 0, .int .i64 0, .int .i64 0, .slice none 0 0]) M) := by kernel_rfl
theorem zoetroperef05_CopyFrame.p116 (k lo : Nat) (x1 : Int) (x2 : Int) (x3 : Int) (A4 : Option Addr) (n5 : Nat) (c6 : Nat) (x7 : Int) (x8 : Int) (A9 : Option Addr) (n10 : Nat) (c11 : Nat) (x12 : Int) (x13 : Int) (A14 : Option Addr) (n15 : Nat) (c16 : Nat) (x17 : Int) (x18 : Int) (A19 : Option Addr) (n20 : Nat) (c21 : Nat) (x22 : Int) (x23 : Int) (A24 : Option Addr) (n25 : Nat) (c26 : Nat) (x27 : Int) (x28 : Int) (A29 : Option Addr) (n30 : Nat) (c31 : Nat) (cs32 : List Value) (M : Mem) : piece P T k lo F.zoetroperef05_CopyFrame 116 [.l 1 0, .l 2 0, .l 3 0, .v (.int .i64 x1)] [[.int .i64 x2, .int .i64 x3, .slice A4 n5 c6, .int .i64 x7, .int .i64 x8, .slice A9 n10 c11, .int .i64 x12, .int .i64 x13, .slice A14 n15 c16], [.int .i64 x17, .int .i64 x18, .slice A19 n20 c21, .int .i64 x22, .int .i64 x23, .slice A24 n25 c26, .int .i64 x27, .int .i64 x28, .slice A29 n30 c31], cs32] M =
 bb (decide (x1 < 3))
 (pb (0 ≤ x1 ∧ x1 < (3 : Int))
 (ob ((([.int .i64 x2, .int .i64 x3, .slice A4 n5 c6, .int .i64 x7, .int .i64 x8, .slice A9 n10 c11, .int .i64 x12, .int .i64 x13, .slice A14 n15 c16] : List Value)[0 + (x1.toNat * 3) + 0]?).bind (Value.int? .i64)) fun x33 =>
 ob ((([.int .i64 x2, .int .i64 x3, .slice A4 n5 c6, .int .i64 x7, .int .i64 x8, .slice A9 n10 c11, .int .i64 x12, .int .i64 x13, .slice A14 n15 c16] : List Value)[0 + (x1.toNat * 3) + 1]?).bind (Value.int? .i64)) fun x34 =>
 ob ((([.int .i64 x2, .int .i64 x3, .slice A4 n5 c6, .int .i64 x7, .int .i64 x8, .slice A9 n10 c11, .int .i64 x12, .int .i64 x13, .slice A14 n15 c16] : List Value)[0 + (x1.toNat * 3) + 2]?).bind Value.slc?) fun s35 =>
 ob (acall P T k lo F.zoetroperef05_CopyPlane [.agg ⟨[.int .i64 x33, .int .i64 x34, .slice s35.a s35.n s35.c]⟩] M) fun r36 =>
 ob ((some r36.1).bind (Value.agg? 3)) fun l37 =>
 ob ((l37[0]?).bind (Value.int? .i64)) fun x38 =>
 ob ((l37[1]?).bind (Value.int? .i64)) fun x39 =>
 ob ((l37[2]?).bind Value.slc?) fun s40 =>
 pb (0 ≤ x1 ∧ x1 < (3 : Int))
 (pb (0 + (x1.toNat * 3) + 3 ≤ cs32.length)
 (some (zoetroperef05_CopyFrame.c116 (IntKind.i64.wrap (x1 + 1)) x2 x3 A4 n5 c6 x7 x8 A9 n10 c11 x12 x13 A14 n15 c16 x17 x18 A19 n20 c21 x22 x23 A24 n25 c26 x27 x28 A29 n30 c31 (setL cs32 (0 + (x1.toNat * 3)) [.int .i64 x38, .int .i64 x39, .slice s40.a s40.n s40.c]) r36.2)) none) none) none)
 (ob ((cs32[0]?).bind (Value.int? .i64)) fun x41 =>
 ob ((cs32[1]?).bind (Value.int? .i64)) fun x42 =>
 ob ((cs32[2]?).bind Value.slc?) fun s43 =>
 ob ((cs32[3]?).bind (Value.int? .i64)) fun x44 =>
 ob ((cs32[4]?).bind (Value.int? .i64)) fun x45 =>
 ob ((cs32[5]?).bind Value.slc?) fun s46 =>
 ob ((cs32[6]?).bind (Value.int? .i64)) fun x47 =>
 ob ((cs32[7]?).bind (Value.int? .i64)) fun x48 =>
 ob ((cs32[8]?).bind Value.slc?) fun s49 =>
 some (.ret (.agg ⟨[.int .i64 x41, .int .i64 x42, .slice s43.a s43.n s43.c, .int .i64 x44, .int .i64 x45, .slice s46.a s46.n s46.c, .int .i64 x47, .int .i64 x48, .slice s49.a s49.n s49.c]⟩) M)) := by kernel_rfl
theorem plane_Whole.entry (k lo : Nat) (x1 : Int) (x2 : Int) (A3 : Option Addr) (n4 : Nat) (c5 : Nat) (x6 : Int) (x7 : Int) (A8 : Option Addr) (n9 : Nat) (c10 : Nat) (x11 : Int) (x12 : Int) (A13 : Option Addr) (n14 : Nat) (c15 : Nat) (M : Mem) : entry P T k lo F.plane_Whole [.agg ⟨[.int .i64 x1, .int .i64 x2, .slice A3 n4 c5, .int .i64 x6, .int .i64 x7, .slice A8 n9 c10, .int .i64 x11, .int .i64 x12, .slice A13 n14 c15]⟩] M =
 some (plane_Whole.c116 x1 x2 x1 x2 A3 n4 c5 x6 x7 A8 n9 c10 x11 x12 A13 n14 c15 0 M) := by kernel_rfl
theorem plane_Whole.p116 (k lo : Nat) (x1 : Int) (x2 : Int) (x3 : Int) (x4 : Int) (A5 : Option Addr) (n6 : Nat) (c7 : Nat) (x8 : Int) (x9 : Int) (A10 : Option Addr) (n11 : Nat) (c12 : Nat) (x13 : Int) (x14 : Int) (A15 : Option Addr) (n16 : Nat) (c17 : Nat) (x18 : Int) (M : Mem) : piece P T k lo F.plane_Whole 116 [.v (.int .i64 x1), .v (.int .i64 x2), .v (.agg ⟨[.int .i64 x3, .int .i64 x4, .slice A5 n6 c7, .int .i64 x8, .int .i64 x9, .slice A10 n11 c12, .int .i64 x13, .int .i64 x14, .slice A15 n16 c17]⟩), .v (.int .i64 x18)] [] M =
 bb (decide (x18 < 3))
 (pb (0 ≤ x18 ∧ x18 < (3 : Int))
 (ob ((([.int .i64 x3, .int .i64 x4, .slice A5 n6 c7, .int .i64 x8, .int .i64 x9, .slice A10 n11 c12, .int .i64 x13, .int .i64 x14, .slice A15 n16 c17] : List Value)[x18.toNat * 3 + 0]?).bind (Value.int? .i64)) fun x21 =>
 ob ((([.int .i64 x3, .int .i64 x4, .slice A5 n6 c7, .int .i64 x8, .int .i64 x9, .slice A10 n11 c12, .int .i64 x13, .int .i64 x14, .slice A15 n16 c17] : List Value)[x18.toNat * 3 + 1]?).bind (Value.int? .i64)) fun x22 =>
 ob ((([.int .i64 x3, .int .i64 x4, .slice A5 n6 c7, .int .i64 x8, .int .i64 x9, .slice A10 n11 c12, .int .i64 x13, .int .i64 x14, .slice A15 n16 c17] : List Value)[x18.toNat * 3 + 2]?).bind Value.slc?) fun s23 =>
 ob (acall P T k lo F.plane_Check [.agg ⟨[.int .i64 x21, .int .i64 x22, .slice s23.a s23.n s23.c]⟩] M) fun r24 =>
 ob ((some r24.1).bind (Value.int? .i64)) fun x25 =>
 bb (x25 != 0)
 (some (.ret (.int .i64 2) r24.2))
 (ob (acall P T k lo F.plane_sides [.int .i64 x1, .int .i64 x2] r24.2) fun r26 =>
 ob ((some r26.1).bind Value.bool?) fun b27 =>
 bb (!b27)
 (some (.ret (.int .i64 2) r26.2))
 (pb ((minI x18 1) < 0) none
 (bb (x21 != shrI .i64 x1 ((minI x18 1).toNat))
 (some (.ret (.int .i64 2) r26.2))
 (pb ((minI x18 1) < 0) none
 (bb (x22 != shrI .i64 x2 ((minI x18 1).toNat))
 (some (.ret (.int .i64 2) r26.2))
 (some (plane_Whole.c116 x1 x2 x3 x4 A5 n6 c7 x8 x9 A10 n11 c12 x13 x14 A15 n16 c17 (IntKind.i64.wrap (x18 + 1)) r26.2)))))))) none)
 (some (.ret (.int .i64 0) M)) := by kernel_rfl
theorem zoetroperef05_Whole.entry (k lo : Nat) (x1 : Int) (x2 : Int) (A3 : Option Addr) (n4 : Nat) (c5 : Nat) (x6 : Int) (x7 : Int) (A8 : Option Addr) (n9 : Nat) (c10 : Nat) (x11 : Int) (x12 : Int) (A13 : Option Addr) (n14 : Nat) (c15 : Nat) (M : Mem) : entry P T k lo F.zoetroperef05_Whole [.agg ⟨[.int .i64 x1, .int .i64 x2, .slice A3 n4 c5, .int .i64 x6, .int .i64 x7, .slice A8 n9 c10, .int .i64 x11, .int .i64 x12, .slice A13 n14 c15]⟩] M =
 ob (acall P T k lo F.zoetroperef05_Check [.agg ⟨[.int .i64 x1, .int .i64 x2, .slice A3 n4 c5]⟩] M) fun r21 =>
 ob ((some r21.1).bind (Value.int? .i64)) fun x22 =>
 bb (x22 != 0)
 (some (.ret (.int .i64 2) r21.2))
 (ob (acall P T k lo F.zoetroperef05_side [.int .i64 x1] r21.2) fun r23 =>
 ob ((some r23.1).bind Value.bool?) fun b24 =>
 bb (!b24)
 (some (.ret (.int .i64 2) r23.2))
 (ob (acall P T k lo F.zoetroperef05_side [.int .i64 x2] r23.2) fun r25 =>
 ob ((some r25.1).bind Value.bool?) fun b26 =>
 bb (!b26)
 (some (.ret (.int .i64 2) r25.2))
 (some (zoetroperef05_Whole.c116 1 x1 x2 A3 n4 c5 x6 x7 A8 n9 c10 x11 x12 A13 n14 c15 r25.2)))) := by kernel_rfl
theorem zoetroperef05_Whole.p116 (k lo : Nat) (x1 : Int) (x2 : Int) (x3 : Int) (A4 : Option Addr) (n5 : Nat) (c6 : Nat) (x7 : Int) (x8 : Int) (A9 : Option Addr) (n10 : Nat) (c11 : Nat) (x12 : Int) (x13 : Int) (A14 : Option Addr) (n15 : Nat) (c16 : Nat) (M : Mem) : piece P T k lo F.zoetroperef05_Whole 116 [.l 1 0, .v (.int .i64 x1)] [[.int .i64 x2, .int .i64 x3, .slice A4 n5 c6, .int .i64 x7, .int .i64 x8, .slice A9 n10 c11, .int .i64 x12, .int .i64 x13, .slice A14 n15 c16]] M =
 bb (decide (x1 < 3))
 (pb (0 ≤ x1 ∧ x1 < (3 : Int))
 (ob ((([.int .i64 x2, .int .i64 x3, .slice A4 n5 c6, .int .i64 x7, .int .i64 x8, .slice A9 n10 c11, .int .i64 x12, .int .i64 x13, .slice A14 n15 c16] : List Value)[0 + (x1.toNat * 3) + 0]?).bind (Value.int? .i64)) fun x27 =>
 ob ((([.int .i64 x2, .int .i64 x3, .slice A4 n5 c6, .int .i64 x7, .int .i64 x8, .slice A9 n10 c11, .int .i64 x12, .int .i64 x13, .slice A14 n15 c16] : List Value)[0 + (x1.toNat * 3) + 1]?).bind (Value.int? .i64)) fun x28 =>
 ob ((([.int .i64 x2, .int .i64 x3, .slice A4 n5 c6, .int .i64 x7, .int .i64 x8, .slice A9 n10 c11, .int .i64 x12, .int .i64 x13, .slice A14 n15 c16] : List Value)[0 + (x1.toNat * 3) + 2]?).bind Value.slc?) fun s29 =>
 ob (acall P T k lo F.zoetroperef05_Check [.agg ⟨[.int .i64 x27, .int .i64 x28, .slice s29.a s29.n s29.c]⟩] M) fun r30 =>
 ob ((some r30.1).bind (Value.int? .i64)) fun x31 =>
 bb (x31 != 0)
 (some (.ret (.int .i64 2) r30.2))
 (pb (0 ≤ x1 ∧ x1 < (3 : Int))
 (ob ((([.int .i64 x2, .int .i64 x3, .slice A4 n5 c6, .int .i64 x7, .int .i64 x8, .slice A9 n10 c11, .int .i64 x12, .int .i64 x13, .slice A14 n15 c16] : List Value)[0 + (x1.toNat * 3) + 0 + 0]?).bind (Value.int? .i64)) fun x32 =>
 bb (x32 != IntKind.i64.wrap (Int.tdiv x2 2))
 (some (.ret (.int .i64 2) r30.2))
 (pb (0 ≤ x1 ∧ x1 < (3 : Int))
 (ob ((([.int .i64 x2, .int .i64 x3, .slice A4 n5 c6, .int .i64 x7, .int .i64 x8, .slice A9 n10 c11, .int .i64 x12, .int .i64 x13, .slice A14 n15 c16] : List Value)[0 + (x1.toNat * 3) + 1 + 0]?).bind (Value.int? .i64)) fun x33 =>
 bb (x33 != IntKind.i64.wrap (Int.tdiv x3 2))
 (some (.ret (.int .i64 2) r30.2))
 (some (zoetroperef05_Whole.c116 (IntKind.i64.wrap (x1 + 1)) x2 x3 A4 n5 c6 x7 x8 A9 n10 c11 x12 x13 A14 n15 c16 r30.2))) none)) none)) none)
 (some (.ret (.int .i64 0) M)) := by kernel_rfl
theorem plane_Frame.entry (k lo : Nat) (x1 : Int) (x2 : Int) (x3 : Int) (M : Mem) : entry P T k lo F.plane_Frame [.int .i64 x1, .int .i64 x2, .int .u8 x3] M =
 ob (acall P T k lo F.plane_sides [.int .i64 x1, .int .i64 x2] M) fun r9 =>
 ob ((some r9.1).bind Value.bool?) fun b10 =>
 bb (!b10)
 (some (.ret (.tuple ⟨[.agg ⟨[.int .i64 0, .int .i64 0, .slice none 0 0, .int .i64 0, .int .i64 0, .slice none 0 0, .int .i64 0, .int .i64 0, .slice none 0 0]⟩, .int .i64 2]⟩) r9.2))
 (some (plane_Frame.c244 x1 x2 x3 0 0 0 none 0 0 0 0 none 0 0 0 0 none 0 0 ([.int .i64 0, .int .i64 0, .slice none 0 0, .int .i64 0, .int .i64 0, .slice none 0 0, .int .i64 0, .int .i64 0, .slice none 0 0]) r9.2)) := by kernel_rfl
theorem plane_Frame.p244 (k lo : Nat) (x1 : Int) (x2 : Int) (x3 : Int) (x4 : Int) (x5 : Int) (x6 : Int) (A7 : Option Addr) (n8 : Nat) (c9 : Nat) (x10 : Int) (x11 : Int) (A12 : Option Addr) (n13 : Nat) (c14 : Nat) (x15 : Int) (x16 : Int) (A17 : Option Addr) (n18 : Nat) (c19 : Nat) (cs20 : List Value) (M : Mem) : piece P T k lo F.plane_Frame 244 [.v (.int .i64 x1), .v (.int .i64 x2), .v (.int .u8 x3), .l 6 0, .l 8 0, .v (.int .i64 x4)] [[.int .i64 x5, .int .i64 x6, .slice A7 n8 c9, .int .i64 x10, .int .i64 x11, .slice A12 n13 c14, .int .i64 x15, .int .i64 x16, .slice A17 n18 c19], cs20] M =
 bb (decide (x4 < 3))
 (ob (acall P T k lo F.plane_New [.int .i64 x1, .int .i64 x2, .int .u8 x3] M) fun r21 =>
 ob (r21.1.tup? 2) fun l22 =>
 ob ((l22[0]?).bind (Value.agg? 3)) fun l23 =>
 ob ((l23[0]?).bind (Value.int? .i64)) fun x24 =>
 ob ((l23[1]?).bind (Value.int? .i64)) fun x25 =>
 ob ((l23[2]?).bind Value.slc?) fun s26 =>
 ob ((l22[1]?).bind (Value.int? .i64)) fun x27 =>
 bb (x27 != 0)
 (some (.ret (.tuple ⟨[.agg ⟨[.int .i64 0, .int .i64 0, .slice none 0 0, .int .i64 0, .int .i64 0, .slice none 0 0, .int .i64 0, .int .i64 0, .slice none 0 0]⟩, .int .i64 x27]⟩) r21.2))
 (pb (0 ≤ x4 ∧ x4 < (3 : Int))
 (pb (0 + (x4.toNat * 3) + 3 ≤ cs20.length)
 (bb (x4 == 0)
 (some (plane_Frame.c1959 (IntKind.i64.wrap (Int.tdiv x1 2)) (IntKind.i64.wrap (Int.tdiv x2 2)) x3 x4 x5 x6 A7 n8 c9 x10 x11 A12 n13 c14 x15 x16 A17 n18 c19 (setL cs20 (0 + (x4.toNat * 3)) [.int .i64 x24, .int .i64 x25, .slice s26.a s26.n s26.c]) r21.2))
 (some (plane_Frame.c1959 x1 x2 x3 x4 x5 x6 A7 n8 c9 x10 x11 A12 n13 c14 x15 x16 A17 n18 c19 (setL cs20 (0 + (x4.toNat * 3)) [.int .i64 x24, .int .i64 x25, .slice s26.a s26.n s26.c]) r21.2))) none) none))
 (ob ((cs20[0]?).bind (Value.int? .i64)) fun x28 =>
 ob ((cs20[1]?).bind (Value.int? .i64)) fun x29 =>
 ob ((cs20[2]?).bind Value.slc?) fun s30 =>
 ob ((cs20[3]?).bind (Value.int? .i64)) fun x31 =>
 ob ((cs20[4]?).bind (Value.int? .i64)) fun x32 =>
 ob ((cs20[5]?).bind Value.slc?) fun s33 =>
 ob ((cs20[6]?).bind (Value.int? .i64)) fun x34 =>
 ob ((cs20[7]?).bind (Value.int? .i64)) fun x35 =>
 ob ((cs20[8]?).bind Value.slc?) fun s36 =>
 some (.ret (.tuple ⟨[.agg ⟨[.int .i64 x28, .int .i64 x29, .slice s30.a s30.n s30.c, .int .i64 x31, .int .i64 x32, .slice s33.a s33.n s33.c, .int .i64 x34, .int .i64 x35, .slice s36.a s36.n s36.c]⟩, .int .i64 0]⟩) M)) := by kernel_rfl
theorem plane_Frame.p1959 (k lo : Nat) (x1 : Int) (x2 : Int) (x3 : Int) (x4 : Int) (x5 : Int) (x6 : Int) (A7 : Option Addr) (n8 : Nat) (c9 : Nat) (x10 : Int) (x11 : Int) (A12 : Option Addr) (n13 : Nat) (c14 : Nat) (x15 : Int) (x16 : Int) (A17 : Option Addr) (n18 : Nat) (c19 : Nat) (cs20 : List Value) (M : Mem) : piece P T k lo F.plane_Frame 1959 [.v (.int .i64 x1), .v (.int .i64 x2), .v (.int .u8 x3), .l 6 0, .l 8 0, .v (.int .i64 x4)] [[.int .i64 x5, .int .i64 x6, .slice A7 n8 c9, .int .i64 x10, .int .i64 x11, .slice A12 n13 c14, .int .i64 x15, .int .i64 x16, .slice A17 n18 c19], cs20] M =
 some (plane_Frame.c244 x1 x2 x3 (IntKind.i64.wrap (x4 + 1)) x5 x6 A7 n8 c9 x10 x11 A12 n13 c14 x15 x16 A17 n18 c19 cs20 M) := by kernel_rfl
theorem zoetroperef05_Frame.entry (k lo : Nat) (x1 : Int) (x2 : Int) (x3 : Int) (M : Mem) : entry P T k lo F.zoetroperef05_Frame [.int .i64 x1, .int .i64 x2, .int .u8 x3] M =
 ob (acall P T k lo F.zoetroperef05_side [.int .i64 x1] M) fun r9 =>
 ob ((some r9.1).bind Value.bool?) fun b10 =>
 bb (!b10)
 (some (.ret (.tuple ⟨[.agg ⟨[.int .i64 0, .int .i64 0, .slice none 0 0, .int .i64 0, .int .i64 0, .slice none 0 0, .int .i64 0, .int .i64 0, .slice none 0 0]⟩, .int .i64 2]⟩) r9.2))
 (ob (acall P T k lo F.zoetroperef05_side [.int .i64 x2] r9.2) fun r11 =>
 ob ((some r11.1).bind Value.bool?) fun b12 =>
 bb (!b12)
 (some (.ret (.tuple ⟨[.agg ⟨[.int .i64 0, .int .i64 0, .slice none 0 0, .int .i64 0, .int .i64 0, .slice none 0 0, .int .i64 0, .int .i64 0, .slice none 0 0]⟩, .int .i64 2]⟩) r11.2))
 (ob (acall P T k lo F.zoetroperef05_New [.int .i64 x1, .int .i64 x2, .int .u8 x3] r11.2) fun r13 =>
 ob (r13.1.tup? 2) fun l14 =>
 ob ((l14[0]?).bind (Value.agg? 3)) fun l15 =>
 ob ((l15[0]?).bind (Value.int? .i64)) fun x16 =>
 ob ((l15[1]?).bind (Value.int? .i64)) fun x17 =>
 ob ((l15[2]?).bind Value.slc?) fun s18 =>
 ob ((l14[1]?).bind (Value.int? .i64)) fun x19 =>
 ob (acall P T k lo F.zoetroperef05_New [.int .i64 (IntKind.i64.wrap (Int.tdiv x1 2)), .int .i64 (IntKind.i64.wrap (Int.tdiv x2 2)), .int .u8 x3] r13.2) fun r20 =>
 ob (r20.1.tup? 2) fun l21 =>
 ob ((l21[0]?).bind (Value.agg? 3)) fun l22 =>
 ob ((l22[0]?).bind (Value.int? .i64)) fun x23 =>
 ob ((l22[1]?).bind (Value.int? .i64)) fun x24 =>
 ob ((l22[2]?).bind Value.slc?) fun s25 =>
 ob ((l21[1]?).bind (Value.int? .i64)) fun x26 =>
 ob (acall P T k lo F.zoetroperef05_New [.int .i64 (IntKind.i64.wrap (Int.tdiv x1 2)), .int .i64 (IntKind.i64.wrap (Int.tdiv x2 2)), .int .u8 x3] r20.2) fun r27 =>
 ob (r27.1.tup? 2) fun l28 =>
 ob ((l28[0]?).bind (Value.agg? 3)) fun l29 =>
 ob ((l29[0]?).bind (Value.int? .i64)) fun x30 =>
 ob ((l29[1]?).bind (Value.int? .i64)) fun x31 =>
 ob ((l29[2]?).bind Value.slc?) fun s32 =>
 ob ((l28[1]?).bind (Value.int? .i64)) fun x33 =>
 some (.ret (.tuple ⟨[.agg ⟨[.int .i64 x16, .int .i64 x17, .slice s18.a s18.n s18.c, .int .i64 x23, .int .i64 x24, .slice s25.a s25.n s25.c, .int .i64 x30, .int .i64 x31, .slice s32.a s32.n s32.c]⟩, .int .i64 0]⟩) r27.2))) := by kernel_rfl
end Go.Zt
