/- What functions come to, from cut to cut. -/
import Derived.Test.YtkmakjapgkfdnaaEq0
import Derived.KernelRfl
set_option maxRecDepth 100000
set_option maxHeartbeats 4000000
set_option linter.unusedVariables false
namespace Go.Zt
theorem plane_Coded.entry (k lo : Nat) (x1 : Int) (x2 : Int) (A3 : Option Addr) (n4 : Nat) (c5 : Nat) (x6 : Int) (x7 : Int) (A8 : Option Addr) (n9 : Nat) (c10 : Nat) (x11 : Int) (x12 : Int) (A13 : Option Addr) (n14 : Nat) (c15 : Nat) (M : Mem) : entry P T k lo F.plane_Coded [.agg ⟨[.int .i64 x1, .int .i64 x2, .slice A3 n4 c5, .int .i64 x6, .int .i64 x7, .slice A8 n9 c10, .int .i64 x11, .int .i64 x12, .slice A13 n14 c15]⟩] M =
 ob (acall P T k lo F.plane_Whole [.agg ⟨[.int .i64 x1, .int .i64 x2, .slice A3 n4 c5, .int .i64 x6, .int .i64 x7, .slice A8 n9 c10, .int .i64 x11, .int .i64 x12, .slice A13 n14 c15]⟩] M) fun r21 =>
 ob ((some r21.1).bind (Value.int? .i64)) fun x22 =>
 bb (x22 != 0)
 (some (.ret (.tuple ⟨[.agg ⟨[.int .i64 0, .int .i64 0, .slice none 0 0, .int .i64 0, .int .i64 0, .slice none 0 0, .int .i64 0, .int .i64 0, .slice none 0 0]⟩, .int .i64 x22]⟩) r21.2))
 (ob (acall P T k lo F.plane_resized [.agg ⟨[.int .i64 x1, .int .i64 x2, .slice A3 n4 c5, .int .i64 x6, .int .i64 x7, .slice A8 n9 c10, .int .i64 x11, .int .i64 x12, .slice A13 n14 c15]⟩, .int .i64 (clrI .i64 (IntKind.i64.wrap (x1 + 7)) 7), .int .i64 (clrI .i64 (IntKind.i64.wrap (x2 + 7)) 7)] r21.2) fun r23 =>
 ob ((some r23.1).bind (Value.agg? 9)) fun l24 =>
 ob ((l24[0]?).bind (Value.int? .i64)) fun x25 =>
 ob ((l24[1]?).bind (Value.int? .i64)) fun x26 =>
 ob ((l24[2]?).bind Value.slc?) fun s27 =>
 ob ((l24[3]?).bind (Value.int? .i64)) fun x28 =>
 ob ((l24[4]?).bind (Value.int? .i64)) fun x29 =>
 ob ((l24[5]?).bind Value.slc?) fun s30 =>
 ob ((l24[6]?).bind (Value.int? .i64)) fun x31 =>
 ob ((l24[7]?).bind (Value.int? .i64)) fun x32 =>
 ob ((l24[8]?).bind Value.slc?) fun s33 =>
 some (.ret (.tuple ⟨[.agg ⟨[.int .i64 x25, .int .i64 x26, .slice s27.a s27.n s27.c, .int .i64 x28, .int .i64 x29, .slice s30.a s30.n s30.c, .int .i64 x31, .int .i64 x32, .slice s33.a s33.n s33.c]⟩, .int .i64 0]⟩) r23.2)) := by kernel_rfl
theorem zoetroperef05_Coded.entry (k lo : Nat) (x1 : Int) (x2 : Int) (A3 : Option Addr) (n4 : Nat) (c5 : Nat) (x6 : Int) (x7 : Int) (A8 : Option Addr) (n9 : Nat) (c10 : Nat) (x11 : Int) (x12 : Int) (A13 : Option Addr) (n14 : Nat) (c15 : Nat) (M : Mem) : entry P T k lo F.zoetroperef05_Coded [.agg ⟨[.int .i64 x1, .int .i64 x2, .slice A3 n4 c5, .int .i64 x6, .int .i64 x7, .slice A8 n9 c10, .int .i64 x11, .int .i64 x12, .slice A13 n14 c15]⟩] M =
 ob (acall P T k lo F.zoetroperef05_Whole [.agg ⟨[.int .i64 x1, .int .i64 x2, .slice A3 n4 c5, .int .i64 x6, .int .i64 x7, .slice A8 n9 c10, .int .i64 x11, .int .i64 x12, .slice A13 n14 c15]⟩] M) fun r21 =>
 ob ((some r21.1).bind (Value.int? .i64)) fun x22 =>
 bb (x22 != 0)
 (some (.ret (.tuple ⟨[.agg ⟨[.int .i64 0, .int .i64 0, .slice none 0 0, .int .i64 0, .int .i64 0, .slice none 0 0, .int .i64 0, .int .i64 0, .slice none 0 0]⟩, .int .i64 2]⟩) r21.2))
 (ob (acall P T k lo F.zoetroperef05_resized [.agg ⟨[.int .i64 x1, .int .i64 x2, .slice A3 n4 c5, .int .i64 x6, .int .i64 x7, .slice A8 n9 c10, .int .i64 x11, .int .i64 x12, .slice A13 n14 c15]⟩, .int .i64 (IntKind.i64.wrap ((IntKind.i64.wrap (Int.tdiv (IntKind.i64.wrap (x1 + 7)) 8)) * 8)), .int .i64 (IntKind.i64.wrap ((IntKind.i64.wrap (Int.tdiv (IntKind.i64.wrap (x2 + 7)) 8)) * 8))] r21.2) fun r23 =>
 ob ((some r23.1).bind (Value.agg? 9)) fun l24 =>
 ob ((l24[0]?).bind (Value.int? .i64)) fun x25 =>
 ob ((l24[1]?).bind (Value.int? .i64)) fun x26 =>
 ob ((l24[2]?).bind Value.slc?) fun s27 =>
 ob ((l24[3]?).bind (Value.int? .i64)) fun x28 =>
 ob ((l24[4]?).bind (Value.int? .i64)) fun x29 =>
 ob ((l24[5]?).bind Value.slc?) fun s30 =>
 ob ((l24[6]?).bind (Value.int? .i64)) fun x31 =>
 ob ((l24[7]?).bind (Value.int? .i64)) fun x32 =>
 ob ((l24[8]?).bind Value.slc?) fun s33 =>
 some (.ret (.tuple ⟨[.agg ⟨[.int .i64 x25, .int .i64 x26, .slice s27.a s27.n s27.c, .int .i64 x28, .int .i64 x29, .slice s30.a s30.n s30.c, .int .i64 x31, .int .i64 x32, .slice s33.a s33.n s33.c]⟩, .int .i64 0]⟩) r23.2)) := by kernel_rfl
theorem plane_Crop.entry (k lo : Nat) (x1 : Int) (x2 : Int) (A3 : Option Addr) (n4 : Nat) (c5 : Nat) (x6 : Int) (x7 : Int) (A8 : Option Addr) (n9 : Nat) (c10 : Nat) (x11 : Int) (x12 : Int) (A13 : Option Addr) (n14 : Nat) (c15 : Nat) (x16 : Int) (x17 : Int) (M : Mem) : entry P T k lo F.plane_Crop [.agg ⟨[.int .i64 x1, .int .i64 x2, .slice A3 n4 c5, .int .i64 x6, .int .i64 x7, .slice A8 n9 c10, .int .i64 x11, .int .i64 x12, .slice A13 n14 c15]⟩, .int .i64 x16, .int .i64 x17] M =
 ob (acall P T k lo F.plane_Whole [.agg ⟨[.int .i64 x1, .int .i64 x2, .slice A3 n4 c5, .int .i64 x6, .int .i64 x7, .slice A8 n9 c10, .int .i64 x11, .int .i64 x12, .slice A13 n14 c15]⟩] M) fun r23 =>
 ob ((some r23.1).bind (Value.int? .i64)) fun x24 =>
 bb (x24 != 0)
 (some (.ret (.tuple ⟨[.agg ⟨[.int .i64 0, .int .i64 0, .slice none 0 0, .int .i64 0, .int .i64 0, .slice none 0 0, .int .i64 0, .int .i64 0, .slice none 0 0]⟩, .int .i64 x24]⟩) r23.2))
 (ob (acall P T k lo F.plane_sides [.int .i64 x16, .int .i64 x17] r23.2) fun r25 =>
 ob ((some r25.1).bind Value.bool?) fun b26 =>
 bb (!b26)
 (some (.ret (.tuple ⟨[.agg ⟨[.int .i64 0, .int .i64 0, .slice none 0 0, .int .i64 0, .int .i64 0, .slice none 0 0, .int .i64 0, .int .i64 0, .slice none 0 0]⟩, .int .i64 2]⟩) r25.2))
 (bb (decide (x16 > x1))
 (some (.ret (.tuple ⟨[.agg ⟨[.int .i64 0, .int .i64 0, .slice none 0 0, .int .i64 0, .int .i64 0, .slice none 0 0, .int .i64 0, .int .i64 0, .slice none 0 0]⟩, .int .i64 2]⟩) r25.2))
 (bb (decide (x17 > x2))
 (some (.ret (.tuple ⟨[.agg ⟨[.int .i64 0, .int .i64 0, .slice none 0 0, .int .i64 0, .int .i64 0, .slice none 0 0, .int .i64 0, .int .i64 0, .slice none 0 0]⟩, .int .i64 2]⟩) r25.2))
 (ob (acall P T k lo F.plane_resized [.agg ⟨[.int .i64 x1, .int .i64 x2, .slice A3 n4 c5, .int .i64 x6, .int .i64 x7, .slice A8 n9 c10, .int .i64 x11, .int .i64 x12, .slice A13 n14 c15]⟩, .int .i64 x16, .int .i64 x17] r25.2) fun r27 =>
 ob ((some r27.1).bind (Value.agg? 9)) fun l28 =>
 ob ((l28[0]?).bind (Value.int? .i64)) fun x29 =>
 ob ((l28[1]?).bind (Value.int? .i64)) fun x30 =>
 ob ((l28[2]?).bind Value.slc?) fun s31 =>
 ob ((l28[3]?).bind (Value.int? .i64)) fun x32 =>
 ob ((l28[4]?).bind (Value.int? .i64)) fun x33 =>
 ob ((l28[5]?).bind Value.slc?) fun s34 =>
 ob ((l28[6]?).bind (Value.int? .i64)) fun x35 =>
 ob ((l28[7]?).bind (Value.int? .i64)) fun x36 =>
 ob ((l28[8]?).bind Value.slc?) fun s37 =>
 some (.ret (.tuple ⟨[.agg ⟨[.int .i64 x29, .int .i64 x30, .slice s31.a s31.n s31.c, .int .i64 x32, .int .i64 x33, .slice s34.a s34.n s34.c, .int .i64 x35, .int .i64 x36, .slice s37.a s37.n s37.c]⟩, .int .i64 0]⟩) r27.2))))) := by kernel_rfl
theorem zoetroperef05_Crop.entry (k lo : Nat) (x1 : Int) (x2 : Int) (A3 : Option Addr) (n4 : Nat) (c5 : Nat) (x6 : Int) (x7 : Int) (A8 : Option Addr) (n9 : Nat) (c10 : Nat) (x11 : Int) (x12 : Int) (A13 : Option Addr) (n14 : Nat) (c15 : Nat) (x16 : Int) (x17 : Int) (M : Mem) : entry P T k lo F.zoetroperef05_Crop [.agg ⟨[.int .i64 x1, .int .i64 x2, .slice A3 n4 c5, .int .i64 x6, .int .i64 x7, .slice A8 n9 c10, .int .i64 x11, .int .i64 x12, .slice A13 n14 c15]⟩, .int .i64 x16, .int .i64 x17] M =
 ob (acall P T k lo F.zoetroperef05_Whole [.agg ⟨[.int .i64 x1, .int .i64 x2, .slice A3 n4 c5, .int .i64 x6, .int .i64 x7, .slice A8 n9 c10, .int .i64 x11, .int .i64 x12, .slice A13 n14 c15]⟩] M) fun r23 =>
 ob ((some r23.1).bind (Value.int? .i64)) fun x24 =>
 bb (x24 != 0)
 (some (.ret (.tuple ⟨[.agg ⟨[.int .i64 0, .int .i64 0, .slice none 0 0, .int .i64 0, .int .i64 0, .slice none 0 0, .int .i64 0, .int .i64 0, .slice none 0 0]⟩, .int .i64 2]⟩) r23.2))
 (ob (acall P T k lo F.zoetroperef05_side [.int .i64 x16] r23.2) fun r25 =>
 ob ((some r25.1).bind Value.bool?) fun b26 =>
 bb (!b26)
 (some (.ret (.tuple ⟨[.agg ⟨[.int .i64 0, .int .i64 0, .slice none 0 0, .int .i64 0, .int .i64 0, .slice none 0 0, .int .i64 0, .int .i64 0, .slice none 0 0]⟩, .int .i64 2]⟩) r25.2))
 (ob (acall P T k lo F.zoetroperef05_side [.int .i64 x17] r25.2) fun r27 =>
 ob ((some r27.1).bind Value.bool?) fun b28 =>
 bb (!b28)
 (some (.ret (.tuple ⟨[.agg ⟨[.int .i64 0, .int .i64 0, .slice none 0 0, .int .i64 0, .int .i64 0, .slice none 0 0, .int .i64 0, .int .i64 0, .slice none 0 0]⟩, .int .i64 2]⟩) r27.2))
 (bb (decide (x16 > x1))
 (some (.ret (.tuple ⟨[.agg ⟨[.int .i64 0, .int .i64 0, .slice none 0 0, .int .i64 0, .int .i64 0, .slice none 0 0, .int .i64 0, .int .i64 0, .slice none 0 0]⟩, .int .i64 2]⟩) r27.2))
 (bb (decide (x17 > x2))
 (some (.ret (.tuple ⟨[.agg ⟨[.int .i64 0, .int .i64 0, .slice none 0 0, .int .i64 0, .int .i64 0, .slice none 0 0, .int .i64 0, .int .i64 0, .slice none 0 0]⟩, .int .i64 2]⟩) r27.2))
 (ob (acall P T k lo F.zoetroperef05_resized [.agg ⟨[.int .i64 x1, .int .i64 x2, .slice A3 n4 c5, .int .i64 x6, .int .i64 x7, .slice A8 n9 c10, .int .i64 x11, .int .i64 x12, .slice A13 n14 c15]⟩, .int .i64 x16, .int .i64 x17] r27.2) fun r29 =>
 ob ((some r29.1).bind (Value.agg? 9)) fun l30 =>
 ob ((l30[0]?).bind (Value.int? .i64)) fun x31 =>
 ob ((l30[1]?).bind (Value.int? .i64)) fun x32 =>
 ob ((l30[2]?).bind Value.slc?) fun s33 =>
 ob ((l30[3]?).bind (Value.int? .i64)) fun x34 =>
 ob ((l30[4]?).bind (Value.int? .i64)) fun x35 =>
 ob ((l30[5]?).bind Value.slc?) fun s36 =>
 ob ((l30[6]?).bind (Value.int? .i64)) fun x37 =>
 ob ((l30[7]?).bind (Value.int? .i64)) fun x38 =>
 ob ((l30[8]?).bind Value.slc?) fun s39 =>
 some (.ret (.tuple ⟨[.agg ⟨[.int .i64 x31, .int .i64 x32, .slice s33.a s33.n s33.c, .int .i64 x34, .int .i64 x35, .slice s36.a s36.n s36.c, .int .i64 x37, .int .i64 x38, .slice s39.a s39.n s39.c]⟩, .int .i64 0]⟩) r29.2)))))) := by kernel_rfl
theorem zoetropelaw05_toldFrame.entry (k lo : Nat) (x1 : Int) (x2 : Int) (A3 : Option Addr) (n4 : Nat) (c5 : Nat) (x6 : Int) (x7 : Int) (A8 : Option Addr) (n9 : Nat) (c10 : Nat) (x11 : Int) (x12 : Int) (A13 : Option Addr) (n14 : Nat) (c15 : Nat) (x16 : Int) (x17 : Int) (x18 : Int) (A19 : Option Addr) (n20 : Nat) (c21 : Nat) (x22 : Int) (x23 : Int) (A24 : Option Addr) (n25 : Nat) (c26 : Nat) (x27 : Int) (x28 : Int) (A29 : Option Addr) (n30 : Nat) (c31 : Nat) (x32 : Int) (M : Mem) : entry P T k lo F.zoetropelaw05_toldFrame [.agg ⟨[.int .i64 x1, .int .i64 x2, .slice A3 n4 c5, .int .i64 x6, .int .i64 x7, .slice A8 n9 c10, .int .i64 x11, .int .i64 x12, .slice A13 n14 c15]⟩, .int .i64 x16, .agg ⟨[.int .i64 x17, .int .i64 x18, .slice A19 n20 c21, .int .i64 x22, .int .i64 x23, .slice A24 n25 c26, .int .i64 x27, .int .i64 x28, .slice A29 n30 c31]⟩, .int .i64 x32] M =
 bb (x16 == x32)
 (ob (acall P T k lo F.zoetroperef05_SameFrame [.agg ⟨[.int .i64 x1, .int .i64 x2, .slice A3 n4 c5, .int .i64 x6, .int .i64 x7, .slice A8 n9 c10, .int .i64 x11, .int .i64 x12, .slice A13 n14 c15]⟩, .agg ⟨[.int .i64 x17, .int .i64 x18, .slice A19 n20 c21, .int .i64 x22, .int .i64 x23, .slice A24 n25 c26, .int .i64 x27, .int .i64 x28, .slice A29 n30 c31]⟩] M) fun r38 =>
 ob ((some r38.1).bind Value.bool?) fun b39 =>
 some (zoetropelaw05_toldFrame.c116 b39 0 x1 x2 A3 n4 c5 x6 x7 A8 n9 c10 x11 x12 A13 n14 c15 r38.2))
 (some (zoetropelaw05_toldFrame.c116 false 0 x1 x2 A3 n4 c5 x6 x7 A8 n9 c10 x11 x12 A13 n14 c15 M)) := by kernel_rfl
theorem zoetropelaw05_toldFrame.p116 (k lo : Nat) (b1 : Bool) (x2 : Int) (x3 : Int) (x4 : Int) (A5 : Option Addr) (n6 : Nat) (c7 : Nat) (x8 : Int) (x9 : Int) (A10 : Option Addr) (n11 : Nat) (c12 : Nat) (x13 : Int) (x14 : Int) (A15 : Option Addr) (n16 : Nat) (c17 : Nat) (M : Mem) : piece P T k lo F.zoetropelaw05_toldFrame 116 [.l 4 0, .v (.bool b1), .v (.int .i64 x2)] [[.int .i64 x3, .int .i64 x4, .slice A5 n6 c7, .int .i64 x8, .int .i64 x9, .slice A10 n11 c12, .int .i64 x13, .int .i64 x14, .slice A15 n16 c17]] M =
 bb (decide (x2 < 3))
 (pb (0 ≤ x2 ∧ x2 < (3 : Int))
 (ob ((([.int .i64 x3, .int .i64 x4, .slice A5 n6 c7, .int .i64 x8, .int .i64 x9, .slice A10 n11 c12, .int .i64 x13, .int .i64 x14, .slice A15 n16 c17] : List Value)[0 + (x2.toNat * 3) + 0]?).bind (Value.int? .i64)) fun x40 =>
 ob ((([.int .i64 x3, .int .i64 x4, .slice A5 n6 c7, .int .i64 x8, .int .i64 x9, .slice A10 n11 c12, .int .i64 x13, .int .i64 x14, .slice A15 n16 c17] : List Value)[0 + (x2.toNat * 3) + 1]?).bind (Value.int? .i64)) fun x41 =>
 ob ((([.int .i64 x3, .int .i64 x4, .slice A5 n6 c7, .int .i64 x8, .int .i64 x9, .slice A10 n11 c12, .int .i64 x13, .int .i64 x14, .slice A15 n16 c17] : List Value)[0 + (x2.toNat * 3) + 2]?).bind Value.slc?) fun s42 =>
 ob (acall P T k lo F.zoetropelaw05_spoil [.agg ⟨[.int .i64 x40, .int .i64 x41, .slice s42.a s42.n s42.c]⟩] M) fun r43 =>
 ob (r43.1.tup? 0) fun l44 =>
 some (zoetropelaw05_toldFrame.c116 b1 (IntKind.i64.wrap (x2 + 1)) x3 x4 A5 n6 c7 x8 x9 A10 n11 c12 x13 x14 A15 n16 c17 r43.2)) none)
 (some (.ret (.bool b1) M)) := by kernel_rfl
theorem zoetroperef05_SameFrame.entry (k lo : Nat) (x1 : Int) (x2 : Int) (A3 : Option Addr) (n4 : Nat) (c5 : Nat) (x6 : Int) (x7 : Int) (A8 : Option Addr) (n9 : Nat) (c10 : Nat) (x11 : Int) (x12 : Int) (A13 : Option Addr) (n14 : Nat) (c15 : Nat) (x16 : Int) (x17 : Int) (A18 : Option Addr) (n19 : Nat) (c20 : Nat) (x21 : Int) (x22 : Int) (A23 : Option Addr) (n24 : Nat) (c25 : Nat) (x26 : Int) (x27 : Int) (A28 : Option Addr) (n29 : Nat) (c30 : Nat) (M : Mem) : entry P T k lo F.zoetroperef05_SameFrame [.agg ⟨[.int .i64 x1, .int .i64 x2, .slice A3 n4 c5, .int .i64 x6, .int .i64 x7, .slice A8 n9 c10, .int .i64 x11, .int .i64 x12, .slice A13 n14 c15]⟩, .agg ⟨[.int .i64 x16, .int .i64 x17, .slice A18 n19 c20, .int .i64 x21, .int .i64 x22, .slice A23 n24 c25, .int .i64 x26, .int .i64 x27, .slice A28 n29 c30]⟩] M =
 ob (acall P T k lo F.zoetroperef05_Same [.agg ⟨[.int .i64 x1, .int .i64 x2, .slice A3 n4 c5]⟩, .agg ⟨[.int .i64 x16, .int .i64 x17, .slice A18 n19 c20]⟩] M) fun r36 =>
 ob ((some r36.1).bind Value.bool?) fun b37 =>
 bb b37
 (ob (acall P T k lo F.zoetroperef05_Same [.agg ⟨[.int .i64 x6, .int .i64 x7, .slice A8 n9 c10]⟩, .agg ⟨[.int .i64 x21, .int .i64 x22, .slice A23 n24 c25]⟩] r36.2) fun r38 =>
 ob ((some r38.1).bind Value.bool?) fun b39 =>
 bb b39
 (ob (acall P T k lo F.zoetroperef05_Same [.agg ⟨[.int .i64 x11, .int .i64 x12, .slice A13 n14 c15]⟩, .agg ⟨[.int .i64 x26, .int .i64 x27, .slice A28 n29 c30]⟩] r38.2) fun r40 =>
 ob ((some r40.1).bind Value.bool?) fun b41 =>
 some (.ret (.bool b41) r40.2))
 (some (.ret (.bool false) r38.2)))
 (some (.ret (.bool false) r36.2)) := by kernel_rfl
theorem plane_Check.entry (k lo : Nat) (x1 : Int) (x2 : Int) (A3 : Option Addr) (n4 : Nat) (c5 : Nat) (M : Mem) : entry P T k lo F.plane_Check [.agg ⟨[.int .i64 x1, .int .i64 x2, .slice A3 n4 c5]⟩] M =
 ob (acall P T k lo F.plane_sizes [.int .i64 x1, .int .i64 x2] M) fun r11 =>
 ob ((some r11.1).bind Value.bool?) fun b12 =>
 bb (!b12)
 (some (.ret (.int .i64 2) r11.2))
 (bb ((n4 : Int) != IntKind.i64.wrap (x1 * x2))
 (some (.ret (.int .i64 2) r11.2))
 (some (.ret (.int .i64 0) r11.2))) := by kernel_rfl
theorem zoetropelaw05_solid.entry (k lo : Nat) (x1 : Int) (x2 : Int) (A3 : Option Addr) (n4 : Nat) (c5 : Nat) (M : Mem) : entry P T k lo F.zoetropelaw05_solid [.agg ⟨[.int .i64 x1, .int .i64 x2, .slice A3 n4 c5]⟩] M =
 bb (decide (x1 ≥ 1))
 (bb (decide (x2 ≥ 1))
 (bb (decide (x1 ≤ 512))
 (bb (decide (x2 ≤ 512))
 (some (.ret (.bool ((n4 : Int) == IntKind.i64.wrap (x1 * x2))) M))
 (some (.ret (.bool false) M)))
 (some (.ret (.bool false) M)))
 (some (.ret (.bool false) M)))
 (some (.ret (.bool false) M)) := by kernel_rfl
theorem zoetropelaw05_inside.entry (k lo : Nat) (x1 : Int) (x2 : Int) (A3 : Option Addr) (n4 : Nat) (c5 : Nat) (x6 : Int) (x7 : Int) (x8 : Int) (x9 : Int) (M : Mem) : entry P T k lo F.zoetropelaw05_inside [.agg ⟨[.int .i64 x1, .int .i64 x2, .slice A3 n4 c5]⟩, .agg ⟨[.int .i64 x6, .int .i64 x7, .int .i64 x8, .int .i64 x9]⟩] M =
 ob (acall P T k M.length F.zoetroperef00_Bring [.int .i64 x8, .int .i64 x1] M) fun r15 =>
 ob ((some r15.1).bind (Value.int? .i64)) fun x16 =>
 ob (acall P T k M.length F.zoetroperef00_Bring [.int .i64 x9, .int .i64 x2] r15.2) fun r17 =>
 ob ((some r17.1).bind (Value.int? .i64)) fun x18 =>
 ob (acall P T k r17.2.length F.zoetroperef00_Bring [.int .i64 x6, .int .i64 (IntKind.i64.wrap ((IntKind.i64.wrap (x1 - (IntKind.i64.wrap (1 + x16)))) + 1))] r17.2) fun r19 =>
 ob ((some r19.1).bind (Value.int? .i64)) fun x20 =>
 ob (acall P T k r17.2.length F.zoetroperef00_Bring [.int .i64 x7, .int .i64 (IntKind.i64.wrap ((IntKind.i64.wrap (x2 - (IntKind.i64.wrap (1 + x18)))) + 1))] r19.2) fun r21 =>
 ob ((some r21.1).bind (Value.int? .i64)) fun x22 =>
 some (.ret (.agg ⟨[.int .i64 x20, .int .i64 x22, .int .i64 (IntKind.i64.wrap (1 + x16)), .int .i64 (IntKind.i64.wrap (1 + x18))]⟩) r21.2) := by kernel_rfl
theorem plane_Same.entry (k lo : Nat) (x1 : Int) (x2 : Int) (A3 : Option Addr) (n4 : Nat) (c5 : Nat) (x6 : Int) (x7 : Int) (A8 : Option Addr) (n9 : Nat) (c10 : Nat) (M : Mem) : entry P T k lo F.plane_Same [.agg ⟨[.int .i64 x1, .int .i64 x2, .slice A3 n4 c5]⟩, .agg ⟨[.int .i64 x6, .int .i64 x7, .slice A8 n9 c10]⟩] M =
 bb (x1 == x6)
 (bb (x2 == x7)
 (ob (acall P T k lo F.slices_Equal__uint8_uint8 [.slice A3 n4 c5, .slice A8 n9 c10] M) fun r16 =>
 ob ((some r16.1).bind Value.bool?) fun b17 =>
 some (.ret (.bool b17) r16.2))
 (some (.ret (.bool false) M)))
 (some (.ret (.bool false) M)) := by kernel_rfl
theorem plane_Apart.entry (k lo : Nat) (x1 : Int) (x2 : Int) (A3 : Option Addr) (n4 : Nat) (c5 : Nat) (x6 : Int) (x7 : Int) (A8 : Option Addr) (n9 : Nat) (c10 : Nat) (M : Mem) : entry P T k lo F.plane_Apart [.agg ⟨[.int .i64 x1, .int .i64 x2, .slice A3 n4 c5]⟩, .agg ⟨[.int .i64 x6, .int .i64 x7, .slice A8 n9 c10]⟩] M =
 ob (acall P T k lo F.plane_Check [.agg ⟨[.int .i64 x1, .int .i64 x2, .slice A3 n4 c5]⟩] M) fun r16 =>
 ob ((some r16.1).bind (Value.int? .i64)) fun x17 =>
 bb (x17 != 0)
 (some (.ret (.tuple ⟨[.int .u64 0, .int .i64 2]⟩) r16.2))
 (ob (acall P T k lo F.plane_Check [.agg ⟨[.int .i64 x6, .int .i64 x7, .slice A8 n9 c10]⟩] r16.2) fun r18 =>
 ob ((some r18.1).bind (Value.int? .i64)) fun x19 =>
 bb (x19 != 0)
 (some (.ret (.tuple ⟨[.int .u64 0, .int .i64 2]⟩) r18.2))
 (bb (x1 != x6)
 (some (.ret (.tuple ⟨[.int .u64 0, .int .i64 2]⟩) r18.2))
 (bb (x2 != x7)
 (some (.ret (.tuple ⟨[.int .u64 0, .int .i64 2]⟩) r18.2))
 (some (plane_Apart.c244 0 A3 n4 c5 (n4 : Int) 0 x6 x7 A8 n9 c10 r18.2))))) := by kernel_rfl
theorem plane_Apart.p244 (k lo : Nat) (x1 : Int) (A2 : Option Addr) (n3 : Nat) (c4 : Nat) (x5 : Int) (x6 : Int) (x7 : Int) (x8 : Int) (A9 : Option Addr) (n10 : Nat) (c11 : Nat) (M : Mem) : piece P T k lo F.plane_Apart 244 [.l 3 0, .v (.int .u64 x1), .v (.slice A2 n3 c4), .v (.int .i64 x5), .v (.int .i64 x6)] [[.int .i64 x7, .int .i64 x8, .slice A9 n10 c11]] M =
 bb (decide (x6 < x5))
 (pb (0 ≤ x6 ∧ x6 < (n3 : Int))
 (ob A2 fun a20 =>
 ob ((M.ld (plus a20 x6.toNat)).bind (Value.int? .u8)) fun x21 =>
 pb (0 ≤ x6 ∧ x6 < (n10 : Int))
 (ob A9 fun a22 =>
 ob ((M.ld (plus a22 x6.toNat)).bind (Value.int? .u8)) fun x23 =>
 some (plane_Apart.c244 (IntKind.u64.wrap (x1 + (IntKind.u64.wrap (IntKind.i64.wrap ((IntKind.i64.wrap ((IntKind.i64.wrap x21) - (IntKind.i64.wrap x23))) * (IntKind.i64.wrap ((IntKind.i64.wrap x21) - (IntKind.i64.wrap x23)))))))) A2 n3 c4 x5 (IntKind.i64.wrap (x6 + 1)) x7 x8 A9 n10 c11 M)) none) none)
 (some (.ret (.tuple ⟨[.int .u64 x1, .int .i64 0]⟩) M)) := by kernel_rfl
theorem zoetroperef05_Check.entry (k lo : Nat) (x1 : Int) (x2 : Int) (A3 : Option Addr) (n4 : Nat) (c5 : Nat) (M : Mem) : entry P T k lo F.zoetroperef05_Check [.agg ⟨[.int .i64 x1, .int .i64 x2, .slice A3 n4 c5]⟩] M =
 bb (decide (x1 < 1))
 (some (.ret (.int .i64 2) M))
 (bb (decide (x1 > 512))
 (some (.ret (.int .i64 2) M))
 (bb (decide (x2 < 1))
 (some (.ret (.int .i64 2) M))
 (bb (decide (x2 > 512))
 (some (.ret (.int .i64 2) M))
 (bb ((n4 : Int) != IntKind.i64.wrap (x1 * x2))
 (some (.ret (.int .i64 2) M))
 (some (.ret (.int .i64 0) M)))))) := by kernel_rfl
theorem plane_At.entry (k lo : Nat) (x1 : Int) (x2 : Int) (A3 : Option Addr) (n4 : Nat) (c5 : Nat) (x6 : Int) (x7 : Int) (M : Mem) : entry P T k lo F.plane_At [.agg ⟨[.int .i64 x1, .int .i64 x2, .slice A3 n4 c5]⟩, .int .i64 x6, .int .i64 x7] M =
 ob (acall P T k lo F.plane_Check [.agg ⟨[.int .i64 x1, .int .i64 x2, .slice A3 n4 c5]⟩] M) fun r13 =>
 ob ((some r13.1).bind (Value.int? .i64)) fun x14 =>
 bb (x14 != 0)
 (some (.ret (.int .u8 0) r13.2))
 (pb (0 ≤ IntKind.i64.wrap ((IntKind.i64.wrap ((minI (maxI x7 0) (IntKind.i64.wrap (x2 - 1))) * x1)) + (minI (maxI x6 0) (IntKind.i64.wrap (x1 - 1)))) ∧ IntKind.i64.wrap ((IntKind.i64.wrap ((minI (maxI x7 0) (IntKind.i64.wrap (x2 - 1))) * x1)) + (minI (maxI x6 0) (IntKind.i64.wrap (x1 - 1)))) < (n4 : Int))
 (ob A3 fun a15 =>
 ob ((r13.2.ld (plus a15 ((IntKind.i64.wrap ((IntKind.i64.wrap ((minI (maxI x7 0) (IntKind.i64.wrap (x2 - 1))) * x1)) + (minI (maxI x6 0) (IntKind.i64.wrap (x1 - 1))))).toNat))).bind (Value.int? .u8)) fun x16 =>
 some (.ret (.int .u8 x16) r13.2)) none) := by kernel_rfl
theorem zoetroperef05_At.entry (k lo : Nat) (x1 : Int) (x2 : Int) (A3 : Option Addr) (n4 : Nat) (c5 : Nat) (x6 : Int) (x7 : Int) (M : Mem) : entry P T k lo F.zoetroperef05_At [.agg ⟨[.int .i64 x1, .int .i64 x2, .slice A3 n4 c5]⟩, .int .i64 x6, .int .i64 x7] M =
 ob (acall P T k lo F.zoetroperef05_Check [.agg ⟨[.int .i64 x1, .int .i64 x2, .slice A3 n4 c5]⟩] M) fun r13 =>
 ob ((some r13.1).bind (Value.int? .i64)) fun x14 =>
 bb (x14 != 0)
 (some (.ret (.int .u8 0) r13.2))
 (ob (acall P T k r13.2.length F.zoetroperef00_Clip [.int .i64 x7, .int .i64 0, .int .i64 (IntKind.i64.wrap (x2 - 1))] r13.2) fun r15 =>
 ob ((some r15.1).bind (Value.int? .i64)) fun x16 =>
 ob (acall P T k r13.2.length F.zoetroperef00_Clip [.int .i64 x6, .int .i64 0, .int .i64 (IntKind.i64.wrap (x1 - 1))] r15.2) fun r17 =>
 ob ((some r17.1).bind (Value.int? .i64)) fun x18 =>
 pb (0 ≤ IntKind.i64.wrap ((IntKind.i64.wrap (x16 * x1)) + x18) ∧ IntKind.i64.wrap ((IntKind.i64.wrap (x16 * x1)) + x18) < (n4 : Int))
 (ob A3 fun a19 =>
 ob ((r17.2.ld (plus a19 ((IntKind.i64.wrap ((IntKind.i64.wrap (x16 * x1)) + x18)).toNat))).bind (Value.int? .u8)) fun x20 =>
 some (.ret (.int .u8 x20) r17.2)) none) := by kernel_rfl
theorem zoetroperef05_Apart.entry (k lo : Nat) (x1 : Int) (x2 : Int) (A3 : Option Addr) (n4 : Nat) (c5 : Nat) (x6 : Int) (x7 : Int) (A8 : Option Addr) (n9 : Nat) (c10 : Nat) (M : Mem) : entry P T k lo F.zoetroperef05_Apart [.agg ⟨[.int .i64 x1, .int .i64 x2, .slice A3 n4 c5]⟩, .agg ⟨[.int .i64 x6, .int .i64 x7, .slice A8 n9 c10]⟩] M =
 ob (acall P T k lo F.zoetroperef05_Check [.agg ⟨[.int .i64 x1, .int .i64 x2, .slice A3 n4 c5]⟩] M) fun r16 =>
 ob ((some r16.1).bind (Value.int? .i64)) fun x17 =>
 bb (x17 != 0)
 (some (.ret (.tuple ⟨[.int .u64 0, .int .i64 2]⟩) r16.2))
 (ob (acall P T k lo F.zoetroperef05_Check [.agg ⟨[.int .i64 x6, .int .i64 x7, .slice A8 n9 c10]⟩] r16.2) fun r18 =>
 ob ((some r18.1).bind (Value.int? .i64)) fun x19 =>
 bb (x19 != 0)
 (some (.ret (.tuple ⟨[.int .u64 0, .int .i64 2]⟩) r18.2))
 (bb (x1 != x6)
 (some (.ret (.tuple ⟨[.int .u64 0, .int .i64 2]⟩) r18.2))
 (bb (x2 != x7)
 (some (.ret (.tuple ⟨[.int .u64 0, .int .i64 2]⟩) r18.2))
 (some (zoetroperef05_Apart.c244 0 0 x1 x2 A3 n4 c5 x6 x7 A8 n9 c10 r18.2))))) := by kernel_rfl
theorem zoetroperef05_Apart.p244 (k lo : Nat) (x1 : Int) (x2 : Int) (x3 : Int) (x4 : Int) (A5 : Option Addr) (n6 : Nat) (c7 : Nat) (x8 : Int) (x9 : Int) (A10 : Option Addr) (n11 : Nat) (c12 : Nat) (M : Mem) : piece P T k lo F.zoetroperef05_Apart 244 [.l 2 0, .l 3 0, .v (.int .u64 x1), .v (.int .i64 x2)] [[.int .i64 x3, .int .i64 x4, .slice A5 n6 c7], [.int .i64 x8, .int .i64 x9, .slice A10 n11 c12]] M =
 bb (decide (x2 < (n6 : Int)))
 (pb (0 ≤ x2 ∧ x2 < (n6 : Int))
 (ob A5 fun a20 =>
 ob ((M.ld (plus a20 x2.toNat)).bind (Value.int? .u8)) fun x21 =>
 pb (0 ≤ x2 ∧ x2 < (n11 : Int))
 (ob A10 fun a22 =>
 ob ((M.ld (plus a22 x2.toNat)).bind (Value.int? .u8)) fun x23 =>
 some (zoetroperef05_Apart.c244 (IntKind.u64.wrap (x1 + (IntKind.u64.wrap (IntKind.i64.wrap ((IntKind.i64.wrap ((IntKind.i64.wrap x21) - (IntKind.i64.wrap x23))) * (IntKind.i64.wrap ((IntKind.i64.wrap x21) - (IntKind.i64.wrap x23)))))))) (IntKind.i64.wrap (x2 + 1)) x3 x4 A5 n6 c7 x8 x9 A10 n11 c12 M)) none) none)
 (some (.ret (.tuple ⟨[.int .u64 x1, .int .i64 0]⟩) M)) := by kernel_rfl
theorem plane_New.entry (k lo : Nat) (x1 : Int) (x2 : Int) (x3 : Int) (M : Mem) : entry P T k lo F.plane_New [.int .i64 x1, .int .i64 x2, .int .u8 x3] M =
 ob (acall P T k lo F.plane_sizes [.int .i64 x1, .int .i64 x2] M) fun r9 =>
 ob ((some r9.1).bind Value.bool?) fun b10 =>
 bb (!b10)
 (some (.ret (.tuple ⟨[.agg ⟨[.int .i64 0, .int .i64 0, .slice none 0 0]⟩, .int .i64 2]⟩) r9.2))
 (ob (acall P T k lo F.slices_Repeat__uint8_uint8 [.slice (some ⟨r9.2.length, 0, none⟩) 1 1, .int .i64 (IntKind.i64.wrap (x1 * x2))] (r9.2 ++ [⟨.fx, [.int .u8 x3]⟩] : Mem)) fun r11 =>
 ob ((some r11.1).bind Value.slc?) fun s12 =>
 some (.ret (.tuple ⟨[.agg ⟨[.int .i64 x1, .int .i64 x2, .slice s12.a s12.n s12.c]⟩, .int .i64 0]⟩) r11.2)) := by kernel_rfl
theorem zoetroperef05_New.entry (k lo : Nat) (x1 : Int) (x2 : Int) (x3 : Int) (M : Mem) : entry P T k lo F.zoetroperef05_New [.int .i64 x1, .int .i64 x2, .int .u8 x3] M =
 bb (decide (x1 < 1))
 (some (.ret (.tuple ⟨[.agg ⟨[.int .i64 0, .int .i64 0, .slice none 0 0]⟩, .int .i64 2]⟩) M))
 (bb (decide (x1 > 512))
 (some (.ret (.tuple ⟨[.agg ⟨[.int .i64 0, .int .i64 0, .slice none 0 0]⟩, .int .i64 2]⟩) M))
 (bb (decide (x2 < 1))
 (some (.ret (.tuple ⟨[.agg ⟨[.int .i64 0, .int .i64 0, .slice none 0 0]⟩, .int .i64 2]⟩) M))
 (bb (decide (x2 > 512))
 (some (.ret (.tuple ⟨[.agg ⟨[.int .i64 0, .int .i64 0, .slice none 0 0]⟩, .int .i64 2]⟩) M))
 (pb (0 ≤ IntKind.i64.wrap (x1 * x2) ∧ room ((IntKind.i64.wrap (x1 * x2)).toNat) 1)
 (some (zoetroperef05_New.c244 x1 x2 x3 0 0 0 none 0 0 x1 x2 (some ⟨M.length, 0, none⟩) ((IntKind.i64.wrap (x1 * x2)).toNat) ((IntKind.i64.wrap (x1 * x2)).toNat) (M ++ [⟨.fx, zerosL [.int .u8 0] ((IntKind.i64.wrap (x1 * x2)).toNat)⟩] : Mem))) none)))) := by kernel_rfl
theorem zoetroperef05_New.p244 (k lo : Nat) (x1 : Int) (x2 : Int) (x3 : Int) (x4 : Int) (x5 : Int) (x6 : Int) (A7 : Option Addr) (n8 : Nat) (c9 : Nat) (x10 : Int) (x11 : Int) (A12 : Option Addr) (n13 : Nat) (c14 : Nat) (M : Mem) : piece P T k lo F.zoetroperef05_New 244 [.v (.int .i64 x1), .v (.int .i64 x2), .v (.int .u8 x3), .l 6 0, .l 8 0, .v (.int .i64 x4)] [[.int .i64 x5, .int .i64 x6, .slice A7 n8 c9], [.int .i64 x10, .int .i64 x11, .slice A12 n13 c14]] M =
 bb (decide (x4 < IntKind.i64.wrap (x1 * x2)))
 (pb (0 ≤ x4 ∧ x4 < (n13 : Int))
 (ob A12 fun a15 =>
 ob (M.st lo (plus a15 x4.toNat) [.int .u8 x3]) fun M16 =>
 some (zoetroperef05_New.c244 x1 x2 x3 (IntKind.i64.wrap (x4 + 1)) x5 x6 A7 n8 c9 x10 x11 A12 n13 c14 M16)) none)
 (some (.ret (.tuple ⟨[.agg ⟨[.int .i64 x10, .int .i64 x11, .slice A12 n13 c14]⟩, .int .i64 0]⟩) M)) := by kernel_rfl
theorem zoetropelaw05_four.entry (k lo : Nat) (M : Mem) : entry P T k lo F.zoetropelaw05_four [] M =
 some (.ret (.agg ⟨[.int .i64 2, .int .i64 2, .slice (some ⟨M.length, 0, none⟩) 4 4]⟩) (M ++ [⟨.fx, [.int .u8 1, .int .u8 2, .int .u8 3, .int .u8 4]⟩] : Mem)) := by kernel_rfl
theorem plane_within.entry (k lo : Nat) (x1 : Int) (x2 : Int) (A3 : Option Addr) (n4 : Nat) (c5 : Nat) (x6 : Int) (x7 : Int) (x8 : Int) (x9 : Int) (M : Mem) : entry P T k lo F.plane_within [.agg ⟨[.int .i64 x1, .int .i64 x2, .slice A3 n4 c5]⟩, .agg ⟨[.int .i64 x6, .int .i64 x7, .int .i64 x8, .int .i64 x9]⟩] M =
 ob (acall P T k lo F.plane_Check [.agg ⟨[.int .i64 x1, .int .i64 x2, .slice A3 n4 c5]⟩] M) fun r15 =>
 ob ((some r15.1).bind (Value.int? .i64)) fun x16 =>
 bb (x16 == 0)
 (bb (decide (x8 ≥ 1))
 (bb (decide (x9 ≥ 1))
 (bb (decide (x6 ≥ 0))
 (bb (decide (x7 ≥ 0))
 (bb (decide (x8 ≤ x1))
 (bb (decide (x9 ≤ x2))
 (bb (decide (x6 ≤ IntKind.i64.wrap (x1 - x8)))
 (some (.ret (.bool (decide (x7 ≤ IntKind.i64.wrap (x2 - x9)))) r15.2))
 (some (.ret (.bool false) r15.2)))
 (some (.ret (.bool false) r15.2)))
 (some (.ret (.bool false) r15.2)))
 (some (.ret (.bool false) r15.2)))
 (some (.ret (.bool false) r15.2)))
 (some (.ret (.bool false) r15.2)))
 (some (.ret (.bool false) r15.2)))
 (some (.ret (.bool false) r15.2)) := by kernel_rfl
theorem plane_row.entry (k lo : Nat) (x1 : Int) (x2 : Int) (A3 : Option Addr) (n4 : Nat) (c5 : Nat) (x6 : Int) (x7 : Int) (x8 : Int) (x9 : Int) (x10 : Int) (M : Mem) : entry P T k lo F.plane_row [.agg ⟨[.int .i64 x1, .int .i64 x2, .slice A3 n4 c5]⟩, .agg ⟨[.int .i64 x6, .int .i64 x7, .int .i64 x8, .int .i64 x9]⟩, .int .i64 x10] M =
 pb (0 ≤ IntKind.i64.wrap ((IntKind.i64.wrap ((IntKind.i64.wrap (x7 + x10)) * x1)) + x6) ∧ IntKind.i64.wrap ((IntKind.i64.wrap ((IntKind.i64.wrap (x7 + x10)) * x1)) + x6) ≤ IntKind.i64.wrap ((IntKind.i64.wrap ((IntKind.i64.wrap ((IntKind.i64.wrap (x7 + x10)) * x1)) + x6)) + x8) ∧ IntKind.i64.wrap ((IntKind.i64.wrap ((IntKind.i64.wrap ((IntKind.i64.wrap (x7 + x10)) * x1)) + x6)) + x8) ≤ IntKind.i64.wrap ((IntKind.i64.wrap ((IntKind.i64.wrap ((IntKind.i64.wrap (x7 + x10)) * x1)) + x6)) + x8) ∧ IntKind.i64.wrap ((IntKind.i64.wrap ((IntKind.i64.wrap ((IntKind.i64.wrap (x7 + x10)) * x1)) + x6)) + x8) ≤ (c5 : Int))
 (some (.ret (.slice (slAddr3 1 A3 ((IntKind.i64.wrap ((IntKind.i64.wrap ((IntKind.i64.wrap (x7 + x10)) * x1)) + x6)).toNat) ((IntKind.i64.wrap ((IntKind.i64.wrap ((IntKind.i64.wrap ((IntKind.i64.wrap (x7 + x10)) * x1)) + x6)) + x8)).toNat)) (((IntKind.i64.wrap ((IntKind.i64.wrap ((IntKind.i64.wrap ((IntKind.i64.wrap (x7 + x10)) * x1)) + x6)) + x8)).toNat) - ((IntKind.i64.wrap ((IntKind.i64.wrap ((IntKind.i64.wrap (x7 + x10)) * x1)) + x6)).toNat)) (((IntKind.i64.wrap ((IntKind.i64.wrap ((IntKind.i64.wrap ((IntKind.i64.wrap (x7 + x10)) * x1)) + x6)) + x8)).toNat) - ((IntKind.i64.wrap ((IntKind.i64.wrap ((IntKind.i64.wrap (x7 + x10)) * x1)) + x6)).toNat))) M)) none := by kernel_rfl
theorem zoetroperef05_Within.entry (k lo : Nat) (x1 : Int) (x2 : Int) (A3 : Option Addr) (n4 : Nat) (c5 : Nat) (x6 : Int) (x7 : Int) (x8 : Int) (x9 : Int) (M : Mem) : entry P T k lo F.zoetroperef05_Within [.agg ⟨[.int .i64 x1, .int .i64 x2, .slice A3 n4 c5]⟩, .agg ⟨[.int .i64 x6, .int .i64 x7, .int .i64 x8, .int .i64 x9]⟩] M =
 bb (decide (x8 ≥ 1))
 (bb (decide (x9 ≥ 1))
 (bb (decide (x6 ≥ 0))
 (bb (decide (x7 ≥ 0))
 (bb (decide (x8 ≤ x1))
 (bb (decide (x9 ≤ x2))
 (bb (decide (x6 ≤ IntKind.i64.wrap (x1 - x8)))
 (some (.ret (.bool (decide (x7 ≤ IntKind.i64.wrap (x2 - x9)))) M))
 (some (.ret (.bool false) M)))
 (some (.ret (.bool false) M)))
 (some (.ret (.bool false) M)))
 (some (.ret (.bool false) M)))
 (some (.ret (.bool false) M)))
 (some (.ret (.bool false) M)))
 (some (.ret (.bool false) M)) := by kernel_rfl
theorem slices_Clone__uint8_uint8.entry (k lo : Nat) (A1 : Option Addr) (n2 : Nat) (c3 : Nat) (M : Mem) : entry P T k lo F.slices_Clone__uint8_uint8 [.slice A1 n2 c3] M =
 bb A1.isNone
 (some (.ret (.slice none 0 0) M))
 (ob (Mem.src (M ++ [⟨.fx, []⟩] : Mem) A1 n2 n2) fun l9 =>
 ob ((M ++ [⟨.fx, []⟩] : Mem).app lo 1 1 ⟨some ⟨M.length, 0, none⟩, 0, 0⟩ l9 n2) fun r10 =>
 some (.ret (.slice r10.1.a r10.1.n r10.1.c) r10.2)) := by kernel_rfl
theorem zoetropelaw05_spoil.entry (k lo : Nat) (x1 : Int) (x2 : Int) (A3 : Option Addr) (n4 : Nat) (c5 : Nat) (M : Mem) : entry P T k lo F.zoetropelaw05_spoil [.agg ⟨[.int .i64 x1, .int .i64 x2, .slice A3 n4 c5]⟩] M =
 some (zoetropelaw05_spoil.c28 0 x1 x2 A3 n4 c5 M) := by kernel_rfl
theorem zoetropelaw05_spoil.p28 (k lo : Nat) (x1 : Int) (x2 : Int) (x3 : Int) (A4 : Option Addr) (n5 : Nat) (c6 : Nat) (M : Mem) : piece P T k lo F.zoetropelaw05_spoil 28 [.l 1 0, .v (.int .i64 x1)] [[.int .i64 x2, .int .i64 x3, .slice A4 n5 c6]] M =
 bb (decide (x1 < (n5 : Int)))
 (pb (0 ≤ x1 ∧ x1 < (n5 : Int))
 (ob A4 fun a11 =>
 ob ((M.ld (plus a11 x1.toNat)).bind (Value.int? .u8)) fun x12 =>
 pb (0 ≤ x1 ∧ x1 < (n5 : Int))
 (ob A4 fun a13 =>
 ob (M.st lo (plus a13 x1.toNat) [.int .u8 (xorI .u8 x12 255)]) fun M14 =>
 some (zoetropelaw05_spoil.c28 (IntKind.i64.wrap (x1 + 1)) x2 x3 A4 n5 c6 M14)) none) none)
 (some (.ret (.tuple ⟨[]⟩) M)) := by kernel_rfl
theorem plane_sizes.entry (k lo : Nat) (x1 : Int) (x2 : Int) (M : Mem) : entry P T k lo F.plane_sizes [.int .i64 x1, .int .i64 x2] M =
 bb (decide (x1 ≥ 1))
 (bb (decide (x1 ≤ 512))
 (bb (decide (x2 ≥ 1))
 (some (.ret (.bool (decide (x2 ≤ 512))) M))
 (some (.ret (.bool false) M)))
 (some (.ret (.bool false) M)))
 (some (.ret (.bool false) M)) := by kernel_rfl
theorem plane_sized.entry (k lo : Nat) (x1 : Int) (x2 : Int) (A3 : Option Addr) (n4 : Nat) (c5 : Nat) (x6 : Int) (x7 : Int) (M : Mem) : entry P T k lo F.plane_sized [.agg ⟨[.int .i64 x1, .int .i64 x2, .slice A3 n4 c5]⟩, .int .i64 x6, .int .i64 x7] M =
 pb (0 ≤ IntKind.i64.wrap (x6 * x7) ∧ room ((IntKind.i64.wrap (x6 * x7)).toNat) 1)
 (some (plane_sized.c116 x6 x7 0 x1 x2 A3 n4 c5 0 0 none 0 0 x6 x7 (some ⟨M.length, 0, none⟩) ((IntKind.i64.wrap (x6 * x7)).toNat) ((IntKind.i64.wrap (x6 * x7)).toNat) (M ++ [⟨.fx, zerosL [.int .u8 0] ((IntKind.i64.wrap (x6 * x7)).toNat)⟩] : Mem))) none := by kernel_rfl
theorem plane_sized.p116 (k lo : Nat) (x1 : Int) (x2 : Int) (x3 : Int) (x4 : Int) (x5 : Int) (A6 : Option Addr) (n7 : Nat) (c8 : Nat) (x9 : Int) (x10 : Int) (A11 : Option Addr) (n12 : Nat) (c13 : Nat) (x14 : Int) (x15 : Int) (A16 : Option Addr) (n17 : Nat) (c18 : Nat) (M : Mem) : piece P T k lo F.plane_sized 116 [.v (.int .i64 x1), .l 3 0, .l 6 0, .l 7 0, .v (.int .i64 x2), .v (.int .i64 x3)] [[.int .i64 x4, .int .i64 x5, .slice A6 n7 c8], [.int .i64 x9, .int .i64 x10, .slice A11 n12 c13], [.int .i64 x14, .int .i64 x15, .slice A16 n17 c18]] M =
 bb (decide (x3 < x2))
 (pb (0 ≤ IntKind.i64.wrap ((minI x3 (IntKind.i64.wrap (x5 - 1))) * x4) ∧ IntKind.i64.wrap ((minI x3 (IntKind.i64.wrap (x5 - 1))) * x4) ≤ (n7 : Int))
 (pb (0 ≤ (0 : Int) ∧ (0 : Int) ≤ x4 ∧ x4 ≤ ((c8 - ((IntKind.i64.wrap ((minI x3 (IntKind.i64.wrap (x5 - 1))) * x4)).toNat) : Nat) : Int))
 (pb (0 ≤ IntKind.i64.wrap (x3 * x1) ∧ IntKind.i64.wrap (x3 * x1) ≤ (n17 : Int))
 (pb (0 ≤ (0 : Int) ∧ (0 : Int) ≤ x1 ∧ x1 ≤ ((c18 - ((IntKind.i64.wrap (x3 * x1)).toNat) : Nat) : Int))
 (ob (Mem.src M (slAddr 1 (slAddr 1 A6 ((IntKind.i64.wrap ((minI x3 (IntKind.i64.wrap (x5 - 1))) * x4)).toNat) c8) 0 (c8 - ((IntKind.i64.wrap ((minI x3 (IntKind.i64.wrap (x5 - 1))) * x4)).toNat))) (Nat.min (x4.toNat - 0) (x1.toNat - 0)) (Nat.min (x4.toNat - 0) (x1.toNat - 0))) fun l19 =>
 pb (Nat.min (x4.toNat - 0) (x1.toNat - 0) = 0) (some (plane_sized.c119612 x1 (slAddr 1 (slAddr 1 A6 ((IntKind.i64.wrap ((minI x3 (IntKind.i64.wrap (x5 - 1))) * x4)).toNat) c8) 0 (c8 - ((IntKind.i64.wrap ((minI x3 (IntKind.i64.wrap (x5 - 1))) * x4)).toNat))) (x4.toNat - 0) ((c8 - ((IntKind.i64.wrap ((minI x3 (IntKind.i64.wrap (x5 - 1))) * x4)).toNat)) - 0) (slAddr 1 (slAddr 1 A16 ((IntKind.i64.wrap (x3 * x1)).toNat) c18) 0 (c18 - ((IntKind.i64.wrap (x3 * x1)).toNat))) (x1.toNat - 0) ((c18 - ((IntKind.i64.wrap (x3 * x1)).toNat)) - 0) 0 x2 x3 x4 x5 A6 n7 c8 x9 x10 A11 n12 c13 x14 x15 A16 n17 c18 M))
 (ob (slAddr 1 (slAddr 1 A16 ((IntKind.i64.wrap (x3 * x1)).toNat) c18) 0 (c18 - ((IntKind.i64.wrap (x3 * x1)).toNat))) fun a21 =>
 ob (M.st lo a21 l19) fun M20 =>
 some (plane_sized.c119612 x1 (slAddr 1 (slAddr 1 A6 ((IntKind.i64.wrap ((minI x3 (IntKind.i64.wrap (x5 - 1))) * x4)).toNat) c8) 0 (c8 - ((IntKind.i64.wrap ((minI x3 (IntKind.i64.wrap (x5 - 1))) * x4)).toNat))) (x4.toNat - 0) ((c8 - ((IntKind.i64.wrap ((minI x3 (IntKind.i64.wrap (x5 - 1))) * x4)).toNat)) - 0) (slAddr 1 (slAddr 1 A16 ((IntKind.i64.wrap (x3 * x1)).toNat) c18) 0 (c18 - ((IntKind.i64.wrap (x3 * x1)).toNat))) (x1.toNat - 0) ((c18 - ((IntKind.i64.wrap (x3 * x1)).toNat)) - 0) ((Nat.min (x4.toNat - 0) (x1.toNat - 0) : Nat) : Int) x2 x3 x4 x5 A6 n7 c8 x9 x10 A11 n12 c13 x14 x15 A16 n17 c18 M20))) none) none) none) none)
 (some (.ret (.agg ⟨[.int .i64 x14, .int .i64 x15, .slice A16 n17 c18]⟩) M)) := by kernel_rfl
theorem plane_sized.p119612 (k lo : Nat) (x1 : Int) (A2 : Option Addr) (n3 : Nat) (c4 : Nat) (A5 : Option Addr) (n6 : Nat) (c7 : Nat) (x8 : Int) (x9 : Int) (x10 : Int) (x11 : Int) (x12 : Int) (A13 : Option Addr) (n14 : Nat) (c15 : Nat) (x16 : Int) (x17 : Int) (A18 : Option Addr) (n19 : Nat) (c20 : Nat) (x21 : Int) (x22 : Int) (A23 : Option Addr) (n24 : Nat) (c25 : Nat) (M : Mem) : piece P T k lo F.plane_sized 119612 [.v (.int .i64 x1), .l 3 0, .l 6 0, .l 7 0, .v (.slice A2 n3 c4), .v (.slice A5 n6 c7), .v (.int .i64 x8), .v (.int .i64 x9), .v (.int .i64 x10)] [[.int .i64 x11, .int .i64 x12, .slice A13 n14 c15], [.int .i64 x16, .int .i64 x17, .slice A18 n19 c20], [.int .i64 x21, .int .i64 x22, .slice A23 n24 c25]] M =
 bb (decide (x8 < x1))
 (pb (0 ≤ IntKind.i64.wrap (x11 - 1) ∧ IntKind.i64.wrap (x11 - 1) < (n3 : Int))
 (ob A2 fun a26 =>
 ob ((M.ld (plus a26 ((IntKind.i64.wrap (x11 - 1)).toNat))).bind (Value.int? .u8)) fun x27 =>
 pb (0 ≤ x8 ∧ x8 < (n6 : Int))
 (ob A5 fun a28 =>
 ob (M.st lo (plus a28 x8.toNat) [.int .u8 x27]) fun M29 =>
 some (plane_sized.c119612 x1 A2 n3 c4 A5 n6 c7 (IntKind.i64.wrap (x8 + 1)) x9 x10 x11 x12 A13 n14 c15 x16 x17 A18 n19 c20 x21 x22 A23 n24 c25 M29)) none) none)
 (some (plane_sized.c116 x1 x9 (IntKind.i64.wrap (x10 + 1)) x11 x12 A13 n14 c15 x16 x17 A18 n19 c20 x21 x22 A23 n24 c25 M)) := by kernel_rfl
theorem zoetroperef05_sized.entry (k lo : Nat) (x1 : Int) (x2 : Int) (A3 : Option Addr) (n4 : Nat) (c5 : Nat) (x6 : Int) (x7 : Int) (M : Mem) : entry P T k lo F.zoetroperef05_sized [.agg ⟨[.int .i64 x1, .int .i64 x2, .slice A3 n4 c5]⟩, .int .i64 x6, .int .i64 x7] M =
 pb (0 ≤ IntKind.i64.wrap (x6 * x7) ∧ room ((IntKind.i64.wrap (x6 * x7)).toNat) 1)
 (some (zoetroperef05_sized.c116 x6 x7 0 x1 x2 A3 n4 c5 0 0 none 0 0 x6 x7 (some ⟨M.length, 0, none⟩) ((IntKind.i64.wrap (x6 * x7)).toNat) ((IntKind.i64.wrap (x6 * x7)).toNat) (M ++ [⟨.fx, zerosL [.int .u8 0] ((IntKind.i64.wrap (x6 * x7)).toNat)⟩] : Mem))) none := by kernel_rfl
theorem zoetroperef05_sized.p116 (k lo : Nat) (x1 : Int) (x2 : Int) (x3 : Int) (x4 : Int) (x5 : Int) (A6 : Option Addr) (n7 : Nat) (c8 : Nat) (x9 : Int) (x10 : Int) (A11 : Option Addr) (n12 : Nat) (c13 : Nat) (x14 : Int) (x15 : Int) (A16 : Option Addr) (n17 : Nat) (c18 : Nat) (M : Mem) : piece P T k lo F.zoetroperef05_sized 116 [.v (.int .i64 x1), .v (.int .i64 x2), .l 3 0, .l 6 0, .l 7 0, .v (.int .i64 x3)] [[.int .i64 x4, .int .i64 x5, .slice A6 n7 c8], [.int .i64 x9, .int .i64 x10, .slice A11 n12 c13], [.int .i64 x14, .int .i64 x15, .slice A16 n17 c18]] M =
 bb (decide (x3 < IntKind.i64.wrap (x1 * x2)))
 (pb (x1 = 0) none
 (pb (x1 = 0) none
 (ob (acall P T k M.length F.zoetroperef05_At [.agg ⟨[.int .i64 x4, .int .i64 x5, .slice A6 n7 c8]⟩, .int .i64 (Int.tmod x3 x1), .int .i64 (IntKind.i64.wrap (Int.tdiv x3 x1))] M) fun r19 =>
 ob ((some r19.1).bind (Value.int? .u8)) fun x20 =>
 pb (0 ≤ x3 ∧ x3 < (n17 : Int))
 (ob A16 fun a21 =>
 ob (r19.2.st lo (plus a21 x3.toNat) [.int .u8 x20]) fun M22 =>
 some (zoetroperef05_sized.c116 x1 x2 (IntKind.i64.wrap (x3 + 1)) x4 x5 A6 n7 c8 x9 x10 A11 n12 c13 x14 x15 A16 n17 c18 M22)) none)))
 (some (.ret (.agg ⟨[.int .i64 x14, .int .i64 x15, .slice A16 n17 c18]⟩) M)) := by kernel_rfl
theorem plane_sides.entry (k lo : Nat) (x1 : Int) (x2 : Int) (M : Mem) : entry P T k lo F.plane_sides [.int .i64 x1, .int .i64 x2] M =
 bb (andI .i64 x1 1 == 0)
 (bb (andI .i64 x2 1 == 0)
 (bb (decide ((minI x1 x2) ≥ 16))
 (some (.ret (.bool (decide ((maxI x1 x2) ≤ 256))) M))
 (some (.ret (.bool false) M)))
 (some (.ret (.bool false) M)))
 (some (.ret (.bool false) M)) := by kernel_rfl
theorem zoetroperef05_side.entry (k lo : Nat) (x1 : Int) (M : Mem) : entry P T k lo F.zoetroperef05_side [.int .i64 x1] M =
 bb (Int.tmod x1 2 == 0)
 (bb (decide (x1 ≥ 16))
 (some (.ret (.bool (decide (x1 ≤ 256))) M))
 (some (.ret (.bool false) M)))
 (some (.ret (.bool false) M)) := by kernel_rfl
theorem plane_resized.entry (k lo : Nat) (x1 : Int) (x2 : Int) (A3 : Option Addr) (n4 : Nat) (c5 : Nat) (x6 : Int) (x7 : Int) (A8 : Option Addr) (n9 : Nat) (c10 : Nat) (x11 : Int) (x12 : Int) (A13 : Option Addr) (n14 : Nat) (c15 : Nat) (x16 : Int) (x17 : Int) (M : Mem) : entry P T k lo F.plane_resized [.agg ⟨[.int .i64 x1, .int .i64 x2, .slice A3 n4 c5, .int .i64 x6, .int .i64 x7, .slice A8 n9 c10, .int .i64 x11, .int .i64 x12, .slice A13 n14 c15]⟩, .int .i64 x16, .int .i64 x17] M =
 some (plane_resized.c116 x16 x17 x1 x2 A3 n4 c5 x6 x7 A8 n9 c10 x11 x12 A13 n14 c15 0 0 0 none 0 0 0 0 none 0 0 0 0 none 0 0 ([.int .i64 0, .int .i64 0, .slice none 0 0, .int .i64 0, .int .i64 0, .slice none 0 0, .int .i64 0, .int .i64 0, .slice none 0 0]) M) := by kernel_rfl
theorem plane_resized.p116 (k lo : Nat) (x1 : Int) (x2 : Int) (x3 : Int) (x4 : Int) (A5 : Option Addr) (n6 : Nat) (c7 : Nat) (x8 : Int) (x9 : Int) (A10 : Option Addr) (n11 : Nat) (c12 : Nat) (x13 : Int) (x14 : Int) (A15 : Option Addr) (n16 : Nat) (c17 : Nat) (x18 : Int) (x19 : Int) (x20 : Int) (A21 : Option Addr) (n22 : Nat) (c23 : Nat) (x24 : Int) (x25 : Int) (A26 : Option Addr) (n27 : Nat) (c28 : Nat) (x29 : Int) (x30 : Int) (A31 : Option Addr) (n32 : Nat) (c33 : Nat) (cs34 : List Value) (M : Mem) : piece P T k lo F.plane_resized 116 [.v (.int .i64 x1), .v (.int .i64 x2), .l 6 0, .l 7 0, .v (.agg ⟨[.int .i64 x3, .int .i64 x4, .slice A5 n6 c7, .int .i64 x8, .int .i64 x9, .slice A10 n11 c12, .int .i64 x13, .int .i64 x14, .slice A15 n16 c17]⟩), .v (.int .i64 x18)] [[.int .i64 x19, .int .i64 x20, .slice A21 n22 c23, .int .i64 x24, .int .i64 x25, .slice A26 n27 c28, .int .i64 x29, .int .i64 x30, .slice A31 n32 c33], cs34] M =
 bb (decide (x18 < 3))
 (pb (0 ≤ x18 ∧ x18 < (3 : Int))
 (ob ((([.int .i64 x3, .int .i64 x4, .slice A5 n6 c7, .int .i64 x8, .int .i64 x9, .slice A10 n11 c12, .int .i64 x13, .int .i64 x14, .slice A15 n16 c17] : List Value)[x18.toNat * 3 + 0]?).bind (Value.int? .i64)) fun x35 =>
 ob ((([.int .i64 x3, .int .i64 x4, .slice A5 n6 c7, .int .i64 x8, .int .i64 x9, .slice A10 n11 c12, .int .i64 x13, .int .i64 x14, .slice A15 n16 c17] : List Value)[x18.toNat * 3 + 1]?).bind (Value.int? .i64)) fun x36 =>
 ob ((([.int .i64 x3, .int .i64 x4, .slice A5 n6 c7, .int .i64 x8, .int .i64 x9, .slice A10 n11 c12, .int .i64 x13, .int .i64 x14, .slice A15 n16 c17] : List Value)[x18.toNat * 3 + 2]?).bind Value.slc?) fun s37 =>
 pb ((minI x18 1) < 0) none
 (pb ((minI x18 1) < 0) none
 (ob (acall P T k lo F.plane_sized [.agg ⟨[.int .i64 x35, .int .i64 x36, .slice s37.a s37.n s37.c]⟩, .int .i64 (shrI .i64 x1 ((minI x18 1).toNat)), .int .i64 (shrI .i64 x2 ((minI x18 1).toNat))] M) fun r38 =>
 ob ((some r38.1).bind (Value.agg? 3)) fun l39 =>
 ob ((l39[0]?).bind (Value.int? .i64)) fun x40 =>
 ob ((l39[1]?).bind (Value.int? .i64)) fun x41 =>
 ob ((l39[2]?).bind Value.slc?) fun s42 =>
 pb (0 ≤ x18 ∧ x18 < (3 : Int))
 (pb (0 + (x18.toNat * 3) + 3 ≤ cs34.length)
 (some (plane_resized.c116 x1 x2 x3 x4 A5 n6 c7 x8 x9 A10 n11 c12 x13 x14 A15 n16 c17 (IntKind.i64.wrap (x18 + 1)) x19 x20 A21 n22 c23 x24 x25 A26 n27 c28 x29 x30 A31 n32 c33 (setL cs34 (0 + (x18.toNat * 3)) [.int .i64 x40, .int .i64 x41, .slice s42.a s42.n s42.c]) r38.2)) none) none))) none)
 (ob ((cs34[0]?).bind (Value.int? .i64)) fun x43 =>
 ob ((cs34[1]?).bind (Value.int? .i64)) fun x44 =>
 ob ((cs34[2]?).bind Value.slc?) fun s45 =>
 ob ((cs34[3]?).bind (Value.int? .i64)) fun x46 =>
 ob ((cs34[4]?).bind (Value.int? .i64)) fun x47 =>
 ob ((cs34[5]?).bind Value.slc?) fun s48 =>
 ob ((cs34[6]?).bind (Value.int? .i64)) fun x49 =>
 ob ((cs34[7]?).bind (Value.int? .i64)) fun x50 =>
 ob ((cs34[8]?).bind Value.slc?) fun s51 =>
 some (.ret (.agg ⟨[.int .i64 x43, .int .i64 x44, .slice s45.a s45.n s45.c, .int .i64 x46, .int .i64 x47, .slice s48.a s48.n s48.c, .int .i64 x49, .int .i64 x50, .slice s51.a s51.n s51.c]⟩) M)) := by kernel_rfl
theorem zoetroperef05_resized.entry (k lo : Nat) (x1 : Int) (x2 : Int) (A3 : Option Addr) (n4 : Nat) (c5 : Nat) (x6 : Int) (x7 : Int) (A8 : Option Addr) (n9 : Nat) (c10 : Nat) (x11 : Int) (x12 : Int) (A13 : Option Addr) (n14 : Nat) (c15 : Nat) (x16 : Int) (x17 : Int) (M : Mem) : entry P T k lo F.zoetroperef05_resized [.agg ⟨[.int .i64 x1, .int .i64 x2, .slice A3 n4 c5, .int .i64 x6, .int .i64 x7, .slice A8 n9 c10, .int .i64 x11, .int .i64 x12, .slice A13 n14 c15]⟩, .int .i64 x16, .int .i64 x17] M =
 ob (acall P T k lo F.zoetroperef05_sized [.agg ⟨[.int .i64 x1, .int .i64 x2, .slice A3 n4 c5]⟩, .int .i64 x16, .int .i64 x17] M) fun r23 =>
 ob ((some r23.1).bind (Value.agg? 3)) fun l24 =>
 ob ((l24[0]?).bind (Value.int? .i64)) fun x25 =>
 ob ((l24[1]?).bind (Value.int? .i64)) fun x26 =>
 ob ((l24[2]?).bind Value.slc?) fun s27 =>
 ob (acall P T k lo F.zoetroperef05_sized [.agg ⟨[.int .i64 x6, .int .i64 x7, .slice A8 n9 c10]⟩, .int .i64 (IntKind.i64.wrap (Int.tdiv x16 2)), .int .i64 (IntKind.i64.wrap (Int.tdiv x17 2))] r23.2) fun r28 =>
 ob ((some r28.1).bind (Value.agg? 3)) fun l29 =>
 ob ((l29[0]?).bind (Value.int? .i64)) fun x30 =>
 ob ((l29[1]?).bind (Value.int? .i64)) fun x31 =>
 ob ((l29[2]?).bind Value.slc?) fun s32 =>
 ob (acall P T k lo F.zoetroperef05_sized [.agg ⟨[.int .i64 x11, .int .i64 x12, .slice A13 n14 c15]⟩, .int .i64 (IntKind.i64.wrap (Int.tdiv x16 2)), .int .i64 (IntKind.i64.wrap (Int.tdiv x17 2))] r28.2) fun r33 =>
 ob ((some r33.1).bind (Value.agg? 3)) fun l34 =>
 ob ((l34[0]?).bind (Value.int? .i64)) fun x35 =>
 ob ((l34[1]?).bind (Value.int? .i64)) fun x36 =>
 ob ((l34[2]?).bind Value.slc?) fun s37 =>
 some (.ret (.agg ⟨[.int .i64 x25, .int .i64 x26, .slice s27.a s27.n s27.c, .int .i64 x30, .int .i64 x31, .slice s32.a s32.n s32.c, .int .i64 x35, .int .i64 x36, .slice s37.a s37.n s37.c]⟩) r33.2) := by kernel_rfl
theorem slices_Equal__uint8_uint8.entry (k lo : Nat) (A1 : Option Addr) (n2 : Nat) (c3 : Nat) (A4 : Option Addr) (n5 : Nat) (c6 : Nat) (M : Mem) : entry P T k lo F.slices_Equal__uint8_uint8 [.slice A1 n2 c3, .slice A4 n5 c6] M =
 bb ((n2 : Int) != (n5 : Int))
 (some (.ret (.bool false) M))
 (some (slices_Equal__uint8_uint8.c116 A1 n2 c3 A4 n5 c6 (n2 : Int) 0 M)) := by kernel_rfl
theorem slices_Equal__uint8_uint8.p116 (k lo : Nat) (A1 : Option Addr) (n2 : Nat) (c3 : Nat) (A4 : Option Addr) (n5 : Nat) (c6 : Nat) (x7 : Int) (x8 : Int) (M : Mem) : piece P T k lo F.slices_Equal__uint8_uint8 116 [.v (.slice A1 n2 c3), .v (.slice A4 n5 c6), .v (.int .i64 x7), .v (.int .i64 x8)] [] M =
 bb (decide (x8 < x7))
 (pb (0 ≤ x8 ∧ x8 < (n2 : Int))
 (ob A1 fun a12 =>
 ob ((M.ld (plus a12 x8.toNat)).bind (Value.int? .u8)) fun x13 =>
 pb (0 ≤ x8 ∧ x8 < (n5 : Int))
 (ob A4 fun a14 =>
 ob ((M.ld (plus a14 x8.toNat)).bind (Value.int? .u8)) fun x15 =>
 bb (x13 != x15)
 (some (.ret (.bool false) M))
 (some (slices_Equal__uint8_uint8.c116 A1 n2 c3 A4 n5 c6 x7 (IntKind.i64.wrap (x8 + 1)) M))) none) none)
 (some (.ret (.bool true) M)) := by kernel_rfl
theorem zoetroperef00_Clip.entry (k lo : Nat) (x1 : Int) (x2 : Int) (x3 : Int) (M : Mem) : entry P T k lo F.zoetroperef00_Clip [.int .i64 x1, .int .i64 x2, .int .i64 x3] M =
 bb (decide (x1 < x2))
 (some (.ret (.int .i64 x2) M))
 (bb (decide (x1 > x3))
 (some (.ret (.int .i64 x3) M))
 (some (.ret (.int .i64 x1) M))) := by kernel_rfl
theorem slices_Repeat__uint8_uint8.entry (k lo : Nat) (A1 : Option Addr) (n2 : Nat) (c3 : Nat) (x4 : Int) (M : Mem) : entry P T k lo F.slices_Repeat__uint8_uint8 [.slice A1 n2 c3, .int .i64 x4] M =
 bb (decide (x4 < 0))
 (none)
 (some (slices_Repeat__uint8_uint8.c7 A1 n2 c3 x4 M)) := by kernel_rfl
theorem slices_Repeat__uint8_uint8.p7 (k lo : Nat) (A1 : Option Addr) (n2 : Nat) (c3 : Nat) (x4 : Int) (M : Mem) : piece P T k lo F.slices_Repeat__uint8_uint8 7 [.v (.slice A1 n2 c3), .v (.int .i64 x4)] [] M =
 ob (acall P T k lo F.math_bits_Mul [.int .u64 (IntKind.u64.wrap (n2 : Int)), .int .u64 (IntKind.u64.wrap x4)] M) fun r10 =>
 ob (r10.1.tup? 2) fun l11 =>
 ob ((l11[0]?).bind (Value.int? .u64)) fun x12 =>
 ob ((l11[1]?).bind (Value.int? .u64)) fun x13 =>
 bb (decide (x12 > 0))
 (none)
 (bb (decide (x13 > 9223372036854775807))
 (none)
 (some (slices_Repeat__uint8_uint8.c31 A1 n2 c3 x13 r10.2))) := by kernel_rfl
theorem slices_Repeat__uint8_uint8.p31 (k lo : Nat) (A1 : Option Addr) (n2 : Nat) (c3 : Nat) (x4 : Int) (M : Mem) : piece P T k lo F.slices_Repeat__uint8_uint8 31 [.v (.slice A1 n2 c3), .v (.int .u64 x4)] [] M =
 pb (0 ≤ IntKind.i64.wrap x4 ∧ room ((IntKind.i64.wrap x4).toNat) 1)
 (ob (Mem.src (M ++ [⟨.fx, zerosL [.int .u8 0] ((IntKind.i64.wrap x4).toNat)⟩] : Mem) A1 (Nat.min n2 ((IntKind.i64.wrap x4).toNat)) (Nat.min n2 ((IntKind.i64.wrap x4).toNat))) fun l14 =>
 pb (Nat.min n2 ((IntKind.i64.wrap x4).toNat) = 0) (some (slices_Repeat__uint8_uint8.c1016 (some ⟨M.length, 0, none⟩) ((IntKind.i64.wrap x4).toNat) ((IntKind.i64.wrap x4).toNat) 0 (M ++ [⟨.fx, zerosL [.int .u8 0] ((IntKind.i64.wrap x4).toNat)⟩] : Mem)))
 (ob ((M ++ [⟨.fx, zerosL [.int .u8 0] ((IntKind.i64.wrap x4).toNat)⟩] : Mem).st lo ⟨M.length, 0, none⟩ l14) fun M15 =>
 some (slices_Repeat__uint8_uint8.c1016 (some ⟨M.length, 0, none⟩) ((IntKind.i64.wrap x4).toNat) ((IntKind.i64.wrap x4).toNat) ((Nat.min n2 ((IntKind.i64.wrap x4).toNat) : Nat) : Int) M15))) none := by kernel_rfl
theorem slices_Repeat__uint8_uint8.p1016 (k lo : Nat) (A1 : Option Addr) (n2 : Nat) (c3 : Nat) (x4 : Int) (M : Mem) : piece P T k lo F.slices_Repeat__uint8_uint8 1016 [.v (.slice A1 n2 c3), .v (.int .i64 x4)] [] M =
 bb (decide (x4 < (n2 : Int)))
 (pb (0 ≤ x4 ∧ x4 ≤ (n2 : Int))
 (pb (0 ≤ (0 : Int) ∧ (0 : Int) ≤ x4 ∧ x4 ≤ (c3 : Int))
 (ob (Mem.src M (slAddr 1 A1 0 c3) (Nat.min (x4.toNat - 0) (n2 - x4.toNat)) (Nat.min (x4.toNat - 0) (n2 - x4.toNat))) fun l17 =>
 pb (Nat.min (x4.toNat - 0) (n2 - x4.toNat) = 0) (some (slices_Repeat__uint8_uint8.c1016 A1 n2 c3 (IntKind.i64.wrap (x4 + 0)) M))
 (ob (slAddr 1 A1 x4.toNat c3) fun a19 =>
 ob (M.st lo a19 l17) fun M18 =>
 some (slices_Repeat__uint8_uint8.c1016 A1 n2 c3 (IntKind.i64.wrap (x4 + ((Nat.min (x4.toNat - 0) (n2 - x4.toNat) : Nat) : Int))) M18))) none) none)
 (some (.ret (.slice A1 n2 c3) M)) := by kernel_rfl
theorem math_bits_Mul.entry (k lo : Nat) (x1 : Int) (x2 : Int) (M : Mem) : entry P T k lo F.math_bits_Mul [.int .u64 x1, .int .u64 x2] M =
 ob (acall P T k lo F.math_bits_Mul64 [.int .u64 x1, .int .u64 x2] M) fun r8 =>
 ob (r8.1.tup? 2) fun l9 =>
 ob ((l9[0]?).bind (Value.int? .u64)) fun x10 =>
 ob ((l9[1]?).bind (Value.int? .u64)) fun x11 =>
 some (.ret (.tuple ⟨[.int .u64 x10, .int .u64 x11]⟩) r8.2) := by kernel_rfl
theorem math_bits_Mul32.entry (k lo : Nat) (x1 : Int) (x2 : Int) (M : Mem) : entry P T k lo F.math_bits_Mul32 [.int .u32 x1, .int .u32 x2] M =
 some (.ret (.tuple ⟨[.int .u32 (IntKind.u32.wrap (shrI .u64 (IntKind.u64.wrap ((IntKind.u64.wrap x1) * (IntKind.u64.wrap x2))) 32)), .int .u32 (IntKind.u32.wrap (IntKind.u64.wrap ((IntKind.u64.wrap x1) * (IntKind.u64.wrap x2))))]⟩) M) := by kernel_rfl
theorem math_bits_Mul64.entry (k lo : Nat) (x1 : Int) (x2 : Int) (M : Mem) : entry P T k lo F.math_bits_Mul64 [.int .u64 x1, .int .u64 x2] M =
 some (.ret (.tuple ⟨[.int .u64 (IntKind.u64.wrap ((IntKind.u64.wrap ((IntKind.u64.wrap ((shrI .u64 x1 32) * (shrI .u64 x2 32))) + (shrI .u64 (IntKind.u64.wrap ((IntKind.u64.wrap ((shrI .u64 x1 32) * (andI .u64 x2 4294967295))) + (shrI .u64 (IntKind.u64.wrap ((andI .u64 x1 4294967295) * (andI .u64 x2 4294967295))) 32))) 32))) + (shrI .u64 (IntKind.u64.wrap ((andI .u64 (IntKind.u64.wrap ((IntKind.u64.wrap ((shrI .u64 x1 32) * (andI .u64 x2 4294967295))) + (shrI .u64 (IntKind.u64.wrap ((andI .u64 x1 4294967295) * (andI .u64 x2 4294967295))) 32))) 4294967295) + (IntKind.u64.wrap ((andI .u64 x1 4294967295) * (shrI .u64 x2 32))))) 32))), .int .u64 (IntKind.u64.wrap (x1 * x2))]⟩) M) := by kernel_rfl
end Go.Zt
