/- What the law ChainRuns needs of the text Arg. -/
import Derived.Test.YtbbfdebfhgdciaaGreatPAb29
import Derived.Test.YtbbfdebfhgdciaaGreatPEq0
import Derived.KernelRfl
set_option linter.unusedVariables false
set_option linter.unusedSimpArgs false
set_option maxRecDepth 100000
namespace Go.Zt
theorem j8 {a a' b b':List Value}(h:a=a')(k:b=b'):a ++ b=a' ++ b':=by rw [h,k]
theorem Y3 {M:Mem}{d:Nat}{cs:List Value}(h:yy P M (d+1) 3 cs):∃ (x:Int),cs=[.int .i64 x]∧(Lit.int .i64 x).wf=true:=zhh Go.Proofs.Tryz.underlying3 h
theorem Y22 {M:Mem}{d:Nat}{cs:List Value}(h:yy P M (d+2) 22 cs):∃ (A:Option Addr) (c:Nat) (l:List Int),cs=[.slice A l.length c]∧l.length≤c∧l.length*1≤140737488351232∧RdI M .u8 A l∧(∀ x ∈ l,(Lit.int .u8 x).wf=true):=zez Go.Proofs.Tryz.underlying22 Go.Proofs.Tryz.underlying5 (by kernel_rfl) (by kernel_rfl) h
theorem Y24 {M:Mem}{d:Nat}{cs:List Value}(h:yy P M (d+3) 24 cs):∃ (x_0:Int) (x_1:Int) (A_2:Option Addr) (c_2:Nat) (l_2:List Int),cs=[.int .i64 x_0,.int .i64 x_1,.slice A_2 l_2.length c_2]∧(Lit.int .i64 x_0).wf=true∧(Lit.int .i64 x_1).wf=true∧l_2.length≤c_2∧l_2.length*1≤140737488351232∧RdI M .u8 A_2 l_2∧(∀ x ∈ l_2,(Lit.int .u8 x).wf=true):=by
 obtain ⟨e,hf⟩:=z0l (g:=fun _=>true) Go.Proofs.Tryz.underlying24 (by kernel_rfl) h
 obtain ⟨x_0,e0,p0_0⟩:=Y3 (d:=d+1) (hf _ (List.Mem.head _))
 obtain ⟨x_1,e1,p1_0⟩:=Y3 (d:=d+1) (hf _ (List.Mem.tail _ (List.Mem.head _)))
 obtain ⟨A_2,c_2,l_2,e2,p2_0,p2_1,p2_2,p2_3⟩:=Y22 (d:=d+0) (hf _ (List.Mem.tail _ (List.Mem.tail _ (List.Mem.head _))))
 exact ⟨x_0,x_1,A_2,c_2,l_2,e.trans (j8 e0 (j8 e1 (j8 e2 (rfl)))),p0_0,p1_0,p2_0,p2_1,p2_2,p2_3⟩
theorem Y25 {M:Mem}{d:Nat}{cs:List Value}(h:yy P M (d+4) 25 cs):∃ (x_0_0:Int) (x_1_0:Int) (A_2_0:Option Addr) (c_2_0:Nat) (l_2_0:List Int) (x_0_1:Int) (x_1_1:Int) (A_2_1:Option Addr) (c_2_1:Nat) (l_2_1:List Int) (x_0_2:Int) (x_1_2:Int) (A_2_2:Option Addr) (c_2_2:Nat) (l_2_2:List Int),cs=[.int .i64 x_0_0,.int .i64 x_1_0,.slice A_2_0 l_2_0.length c_2_0,.int .i64 x_0_1,.int .i64 x_1_1,.slice A_2_1 l_2_1.length c_2_1,.int .i64 x_0_2,.int .i64 x_1_2,.slice A_2_2 l_2_2.length c_2_2]∧(Lit.int .i64 x_0_0).wf=true∧(Lit.int .i64 x_1_0).wf=true∧l_2_0.length≤c_2_0∧l_2_0.length*1≤140737488351232∧RdI M .u8 A_2_0 l_2_0∧(∀ x ∈ l_2_0,(Lit.int .u8 x).wf=true)∧(Lit.int .i64 x_0_1).wf=true∧(Lit.int .i64 x_1_1).wf=true∧l_2_1.length≤c_2_1∧l_2_1.length*1≤140737488351232∧RdI M .u8 A_2_1 l_2_1∧(∀ x ∈ l_2_1,(Lit.int .u8 x).wf=true)∧(Lit.int .i64 x_0_2).wf=true∧(Lit.int .i64 x_1_2).wf=true∧l_2_2.length≤c_2_2∧l_2_2.length*1≤140737488351232∧RdI M .u8 A_2_2 l_2_2∧(∀ x ∈ l_2_2,(Lit.int .u8 x).wf=true):=by
 obtain ⟨e,hf⟩:=z0e (n:=3) (z:=3) Go.Proofs.Tryz.underlying25 (by kernel_rfl) (by kernel_rfl) h
 obtain ⟨x_0_0,x_1_0,A_2_0,c_2_0,l_2_0,e0,p0_0,p0_1,p0_2,p0_3,p0_4,p0_5⟩:=Y24 (d:=d+0) (hf 0 (by decide))
 obtain ⟨x_0_1,x_1_1,A_2_1,c_2_1,l_2_1,e1,p1_0,p1_1,p1_2,p1_3,p1_4,p1_5⟩:=Y24 (d:=d+0) (hf 1 (by decide))
 obtain ⟨x_0_2,x_1_2,A_2_2,c_2_2,l_2_2,e2,p2_0,p2_1,p2_2,p2_3,p2_4,p2_5⟩:=Y24 (d:=d+0) (hf 2 (by decide))
 exact ⟨x_0_0,x_1_0,A_2_0,c_2_0,l_2_0,x_0_1,x_1_1,A_2_1,c_2_1,l_2_1,x_0_2,x_1_2,A_2_2,c_2_2,l_2_2,e.trans (j8 e0 (j8 e1 (j8 e2 (rfl)))),p0_0,p0_1,p0_2,p0_3,p0_4,p0_5,p1_0,p1_1,p1_2,p1_3,p1_4,p1_5,p2_0,p2_1,p2_2,p2_3,p2_4,p2_5⟩
theorem Y27 {M:Mem}{d:Nat}{cs:List Value}(h:yy P M (d+5) 27 cs):∃ (x_0_0_0:Int) (x_1_0_0:Int) (A_2_0_0:Option Addr) (c_2_0_0:Nat) (l_2_0_0:List Int) (x_0_1_0:Int) (x_1_1_0:Int) (A_2_1_0:Option Addr) (c_2_1_0:Nat) (l_2_1_0:List Int) (x_0_2_0:Int) (x_1_2_0:Int) (A_2_2_0:Option Addr) (c_2_2_0:Nat) (l_2_2_0:List Int),cs=[.int .i64 x_0_0_0,.int .i64 x_1_0_0,.slice A_2_0_0 l_2_0_0.length c_2_0_0,.int .i64 x_0_1_0,.int .i64 x_1_1_0,.slice A_2_1_0 l_2_1_0.length c_2_1_0,.int .i64 x_0_2_0,.int .i64 x_1_2_0,.slice A_2_2_0 l_2_2_0.length c_2_2_0]∧(Lit.int .i64 x_0_0_0).wf=true∧(Lit.int .i64 x_1_0_0).wf=true∧l_2_0_0.length≤c_2_0_0∧l_2_0_0.length*1≤140737488351232∧RdI M .u8 A_2_0_0 l_2_0_0∧(∀ x ∈ l_2_0_0,(Lit.int .u8 x).wf=true)∧(Lit.int .i64 x_0_1_0).wf=true∧(Lit.int .i64 x_1_1_0).wf=true∧l_2_1_0.length≤c_2_1_0∧l_2_1_0.length*1≤140737488351232∧RdI M .u8 A_2_1_0 l_2_1_0∧(∀ x ∈ l_2_1_0,(Lit.int .u8 x).wf=true)∧(Lit.int .i64 x_0_2_0).wf=true∧(Lit.int .i64 x_1_2_0).wf=true∧l_2_2_0.length≤c_2_2_0∧l_2_2_0.length*1≤140737488351232∧RdI M .u8 A_2_2_0 l_2_2_0∧(∀ x ∈ l_2_2_0,(Lit.int .u8 x).wf=true):=by
 obtain ⟨e,hf⟩:=z0l (g:=fun _=>true) Go.Proofs.Tryz.underlying27 (by kernel_rfl) h
 obtain ⟨x_0_0_0,x_1_0_0,A_2_0_0,c_2_0_0,l_2_0_0,x_0_1_0,x_1_1_0,A_2_1_0,c_2_1_0,l_2_1_0,x_0_2_0,x_1_2_0,A_2_2_0,c_2_2_0,l_2_2_0,e0,p0_0,p0_1,p0_2,p0_3,p0_4,p0_5,p0_6,p0_7,p0_8,p0_9,p0_10,p0_11,p0_12,p0_13,p0_14,p0_15,p0_16,p0_17⟩:=Y25 (d:=d+0) (hf _ (List.Mem.head _))
 exact ⟨x_0_0_0,x_1_0_0,A_2_0_0,c_2_0_0,l_2_0_0,x_0_1_0,x_1_1_0,A_2_1_0,c_2_1_0,l_2_1_0,x_0_2_0,x_1_2_0,A_2_2_0,c_2_2_0,l_2_2_0,e.trans (j8 e0 (rfl)),p0_0,p0_1,p0_2,p0_3,p0_4,p0_5,p0_6,p0_7,p0_8,p0_9,p0_10,p0_11,p0_12,p0_13,p0_14,p0_15,p0_16,p0_17⟩
theorem Y4 {M:Mem}{d:Nat}{cs:List Value}(h:yy P M (d+1) 4 cs):∃ (b:Bool),cs=[.bool b]:=zex Go.Proofs.Tryz.underlying4 h
theorem Y28 {M:Mem}{d:Nat}{cs:List Value}(h:yy P M (d+2) 28 cs):∃ (x_0:Int) (x_1:Int) (x_2:Int),cs=[.int .i64 x_0,.int .i64 x_1,.int .i64 x_2]∧(Lit.int .i64 x_0).wf=true∧(Lit.int .i64 x_1).wf=true∧(Lit.int .i64 x_2).wf=true:=by
 obtain ⟨e,hf⟩:=z0e (n:=3) (z:=1) Go.Proofs.Tryz.underlying28 (by kernel_rfl) (by kernel_rfl) h
 obtain ⟨x_0,e0,p0_0⟩:=Y3 (d:=d+0) (hf 0 (by decide))
 obtain ⟨x_1,e1,p1_0⟩:=Y3 (d:=d+0) (hf 1 (by decide))
 obtain ⟨x_2,e2,p2_0⟩:=Y3 (d:=d+0) (hf 2 (by decide))
 exact ⟨x_0,x_1,x_2,e.trans (j8 e0 (j8 e1 (j8 e2 (rfl)))),p0_0,p1_0,p2_0⟩
theorem Y29 {M:Mem}{d:Nat}{cs:List Value}(h:yy P M (d+2) 29 cs):∃ (x_0:Int) (x_1:Int) (x_2:Int) (x_3:Int) (x_4:Int),cs=[.int .i64 x_0,.int .i64 x_1,.int .i64 x_2,.int .i64 x_3,.int .i64 x_4]∧(Lit.int .i64 x_0).wf=true∧(Lit.int .i64 x_1).wf=true∧(Lit.int .i64 x_2).wf=true∧(Lit.int .i64 x_3).wf=true∧(Lit.int .i64 x_4).wf=true:=by
 obtain ⟨e,hf⟩:=z0e (n:=5) (z:=1) Go.Proofs.Tryz.underlying29 (by kernel_rfl) (by kernel_rfl) h
 obtain ⟨x_0,e0,p0_0⟩:=Y3 (d:=d+0) (hf 0 (by decide))
 obtain ⟨x_1,e1,p1_0⟩:=Y3 (d:=d+0) (hf 1 (by decide))
 obtain ⟨x_2,e2,p2_0⟩:=Y3 (d:=d+0) (hf 2 (by decide))
 obtain ⟨x_3,e3,p3_0⟩:=Y3 (d:=d+0) (hf 3 (by decide))
 obtain ⟨x_4,e4,p4_0⟩:=Y3 (d:=d+0) (hf 4 (by decide))
 exact ⟨x_0,x_1,x_2,x_3,x_4,e.trans (j8 e0 (j8 e1 (j8 e2 (j8 e3 (j8 e4 (rfl)))))),p0_0,p1_0,p2_0,p3_0,p4_0⟩
theorem Y30 {M:Mem}{d:Nat}{cs:List Value}(h:yy P M (d+2) 30 cs):∃ (x_0:Int) (x_1:Int) (x_2:Int) (x_3:Int),cs=[.int .i64 x_0,.int .i64 x_1,.int .i64 x_2,.int .i64 x_3]∧(Lit.int .i64 x_0).wf=true∧(Lit.int .i64 x_1).wf=true∧(Lit.int .i64 x_2).wf=true∧(Lit.int .i64 x_3).wf=true:=by
 obtain ⟨e,hf⟩:=z0e (n:=4) (z:=1) Go.Proofs.Tryz.underlying30 (by kernel_rfl) (by kernel_rfl) h
 obtain ⟨x_0,e0,p0_0⟩:=Y3 (d:=d+0) (hf 0 (by decide))
 obtain ⟨x_1,e1,p1_0⟩:=Y3 (d:=d+0) (hf 1 (by decide))
 obtain ⟨x_2,e2,p2_0⟩:=Y3 (d:=d+0) (hf 2 (by decide))
 obtain ⟨x_3,e3,p3_0⟩:=Y3 (d:=d+0) (hf 3 (by decide))
 exact ⟨x_0,x_1,x_2,x_3,e.trans (j8 e0 (j8 e1 (j8 e2 (j8 e3 (rfl))))),p0_0,p1_0,p2_0,p3_0⟩
theorem Y89 {M:Mem}{d:Nat}{cs:List Value}(h:yy P M (d+2) 89 cs):∃ (x_0:Int) (x_1:Int) (x_2:Int) (x_3:Int),cs=[.int .i64 x_0,.int .i64 x_1,.int .i64 x_2,.int .i64 x_3]∧(Lit.int .i64 x_0).wf=true∧(Lit.int .i64 x_1).wf=true∧(Lit.int .i64 x_2).wf=true∧(Lit.int .i64 x_3).wf=true:=by
 obtain ⟨e,hf⟩:=z0l (g:=fun _=>true) Go.Proofs.Tryz.underlying89 (by kernel_rfl) h
 obtain ⟨x_0,e0,p0_0⟩:=Y3 (d:=d+0) (hf _ (List.Mem.head _))
 obtain ⟨x_1,e1,p1_0⟩:=Y3 (d:=d+0) (hf _ (List.Mem.tail _ (List.Mem.head _)))
 obtain ⟨x_2,e2,p2_0⟩:=Y3 (d:=d+0) (hf _ (List.Mem.tail _ (List.Mem.tail _ (List.Mem.head _))))
 obtain ⟨x_3,e3,p3_0⟩:=Y3 (d:=d+0) (hf _ (List.Mem.tail _ (List.Mem.tail _ (List.Mem.tail _ (List.Mem.head _)))))
 exact ⟨x_0,x_1,x_2,x_3,e.trans (j8 e0 (j8 e1 (j8 e2 (j8 e3 (rfl))))),p0_0,p1_0,p2_0,p3_0⟩
theorem Y31 {M:Mem}{d:Nat}{cs:List Value}(h:yy P M (d+3) 31 cs):∃ (A:Option Addr) (n:Nat) (c:Nat) (v:List Value),cs=[.slice A n c]∧n≤c∧n*32≤140737488351232∧Rd M A n 4 v∧(∀ i,i < n→yy P M (d+2) 89 ((v.drop (i*4)).take 4)):=z5d Go.Proofs.Tryz.underlying31 (by kernel_rfl) (by kernel_rfl) h
theorem Y32 {M:Mem}{d:Nat}{cs:List Value}(h:yy P M (d+2) 32 cs):∃ (b_0:Bool) (b_1:Bool) (b_2:Bool),cs=[.bool b_0,.bool b_1,.bool b_2]:=by
 obtain ⟨e,hf⟩:=z0e (n:=3) (z:=1) Go.Proofs.Tryz.underlying32 (by kernel_rfl) (by kernel_rfl) h
 obtain ⟨b_0,e0⟩:=Y4 (d:=d+0) (hf 0 (by decide))
 obtain ⟨b_1,e1⟩:=Y4 (d:=d+0) (hf 1 (by decide))
 obtain ⟨b_2,e2⟩:=Y4 (d:=d+0) (hf 2 (by decide))
 exact ⟨b_0,b_1,b_2,e.trans (j8 e0 (j8 e1 (j8 e2 (rfl))))⟩
theorem Y34 {M:Mem}{d:Nat}{cs:List Value}(h:yy P M (d+4) 34 cs):∃ (b_0:Bool) (x_1:Int) (b_2:Bool) (b_3:Bool) (x_4:Int) (x_0_5:Int) (x_1_5:Int) (x_2_5:Int) (x_6:Int) (x_7:Int) (x_0_8:Int) (x_1_8:Int) (x_2_8:Int) (x_3_8:Int) (x_4_8:Int) (x_9:Int) (x_10:Int) (b_11:Bool) (x_0_12:Int) (x_1_12:Int) (x_2_12:Int) (x_3_12:Int) (x_13:Int) (b_14:Bool) (x_15:Int) (x_16:Int) (A_17:Option Addr) (n_17:Nat) (c_17:Nat) (v_17:List Value) (b_0_18:Bool) (b_1_18:Bool) (b_2_18:Bool),cs=[.bool b_0,.int .i64 x_1,.bool b_2,.bool b_3,.int .i64 x_4,.int .i64 x_0_5,.int .i64 x_1_5,.int .i64 x_2_5,.int .i64 x_6,.int .i64 x_7,.int .i64 x_0_8,.int .i64 x_1_8,.int .i64 x_2_8,.int .i64 x_3_8,.int .i64 x_4_8,.int .i64 x_9,.int .i64 x_10,.bool b_11,.int .i64 x_0_12,.int .i64 x_1_12,.int .i64 x_2_12,.int .i64 x_3_12,.int .i64 x_13,.bool b_14,.int .i64 x_15,.int .i64 x_16,.slice A_17 n_17 c_17,.bool b_0_18,.bool b_1_18,.bool b_2_18]∧(Lit.int .i64 x_1).wf=true∧(Lit.int .i64 x_4).wf=true∧(Lit.int .i64 x_0_5).wf=true∧(Lit.int .i64 x_1_5).wf=true∧(Lit.int .i64 x_2_5).wf=true∧(Lit.int .i64 x_6).wf=true∧(Lit.int .i64 x_7).wf=true∧(Lit.int .i64 x_0_8).wf=true∧(Lit.int .i64 x_1_8).wf=true∧(Lit.int .i64 x_2_8).wf=true∧(Lit.int .i64 x_3_8).wf=true∧(Lit.int .i64 x_4_8).wf=true∧(Lit.int .i64 x_9).wf=true∧(Lit.int .i64 x_10).wf=true∧(Lit.int .i64 x_0_12).wf=true∧(Lit.int .i64 x_1_12).wf=true∧(Lit.int .i64 x_2_12).wf=true∧(Lit.int .i64 x_3_12).wf=true∧(Lit.int .i64 x_13).wf=true∧(Lit.int .i64 x_15).wf=true∧(Lit.int .i64 x_16).wf=true∧n_17≤c_17∧n_17*32≤140737488351232∧Rd M A_17 n_17 4 v_17∧(∀ i,i < n_17→yy P M (d+2) 89 ((v_17.drop (i*4)).take 4)):=by
 obtain ⟨e,hf⟩:=z0l (g:=fun _=>true) Go.Proofs.Tryz.underlying34 (by kernel_rfl) h
 obtain ⟨b_0,e0⟩:=Y4 (d:=d+2) (hf _ (List.Mem.head _))
 obtain ⟨x_1,e1,p1_0⟩:=Y3 (d:=d+2) (hf _ (List.Mem.tail _ (List.Mem.head _)))
 obtain ⟨b_2,e2⟩:=Y4 (d:=d+2) (hf _ (List.Mem.tail _ (List.Mem.tail _ (List.Mem.head _))))
 obtain ⟨b_3,e3⟩:=Y4 (d:=d+2) (hf _ (List.Mem.tail _ (List.Mem.tail _ (List.Mem.tail _ (List.Mem.head _)))))
 obtain ⟨x_4,e4,p4_0⟩:=Y3 (d:=d+2) (hf _ (List.Mem.tail _ (List.Mem.tail _ (List.Mem.tail _ (List.Mem.tail _ (List.Mem.head _))))))
 obtain ⟨x_0_5,x_1_5,x_2_5,e5,p5_0,p5_1,p5_2⟩:=Y28 (d:=d+1) (hf _ (List.Mem.tail _ (List.Mem.tail _ (List.Mem.tail _ (List.Mem.tail _ (List.Mem.tail _ (List.Mem.head _)))))))
 obtain ⟨x_6,e6,p6_0⟩:=Y3 (d:=d+2) (hf _ (List.Mem.tail _ (List.Mem.tail _ (List.Mem.tail _ (List.Mem.tail _ (List.Mem.tail _ (List.Mem.tail _ (List.Mem.head _))))))))
 obtain ⟨x_7,e7,p7_0⟩:=Y3 (d:=d+2) (hf _ (List.Mem.tail _ (List.Mem.tail _ (List.Mem.tail _ (List.Mem.tail _ (List.Mem.tail _ (List.Mem.tail _ (List.Mem.tail _ (List.Mem.head _)))))))))
 obtain ⟨x_0_8,x_1_8,x_2_8,x_3_8,x_4_8,e8,p8_0,p8_1,p8_2,p8_3,p8_4⟩:=Y29 (d:=d+1) (hf _ (List.Mem.tail _ (List.Mem.tail _ (List.Mem.tail _ (List.Mem.tail _ (List.Mem.tail _ (List.Mem.tail _ (List.Mem.tail _ (List.Mem.tail _ (List.Mem.head _))))))))))
 obtain ⟨x_9,e9,p9_0⟩:=Y3 (d:=d+2) (hf _ (List.Mem.tail _ (List.Mem.tail _ (List.Mem.tail _ (List.Mem.tail _ (List.Mem.tail _ (List.Mem.tail _ (List.Mem.tail _ (List.Mem.tail _ (List.Mem.tail _ (List.Mem.head _)))))))))))
 obtain ⟨x_10,e10,p10_0⟩:=Y3 (d:=d+2) (hf _ (List.Mem.tail _ (List.Mem.tail _ (List.Mem.tail _ (List.Mem.tail _ (List.Mem.tail _ (List.Mem.tail _ (List.Mem.tail _ (List.Mem.tail _ (List.Mem.tail _ (List.Mem.tail _ (List.Mem.head _))))))))))))
 obtain ⟨b_11,e11⟩:=Y4 (d:=d+2) (hf _ (List.Mem.tail _ (List.Mem.tail _ (List.Mem.tail _ (List.Mem.tail _ (List.Mem.tail _ (List.Mem.tail _ (List.Mem.tail _ (List.Mem.tail _ (List.Mem.tail _ (List.Mem.tail _ (List.Mem.tail _ (List.Mem.head _)))))))))))))
 obtain ⟨x_0_12,x_1_12,x_2_12,x_3_12,e12,p12_0,p12_1,p12_2,p12_3⟩:=Y30 (d:=d+1) (hf _ (List.Mem.tail _ (List.Mem.tail _ (List.Mem.tail _ (List.Mem.tail _ (List.Mem.tail _ (List.Mem.tail _ (List.Mem.tail _ (List.Mem.tail _ (List.Mem.tail _ (List.Mem.tail _ (List.Mem.tail _ (List.Mem.tail _ (List.Mem.head _))))))))))))))
 obtain ⟨x_13,e13,p13_0⟩:=Y3 (d:=d+2) (hf _ (List.Mem.tail _ (List.Mem.tail _ (List.Mem.tail _ (List.Mem.tail _ (List.Mem.tail _ (List.Mem.tail _ (List.Mem.tail _ (List.Mem.tail _ (List.Mem.tail _ (List.Mem.tail _ (List.Mem.tail _ (List.Mem.tail _ (List.Mem.tail _ (List.Mem.head _)))))))))))))))
 obtain ⟨b_14,e14⟩:=Y4 (d:=d+2) (hf _ (List.Mem.tail _ (List.Mem.tail _ (List.Mem.tail _ (List.Mem.tail _ (List.Mem.tail _ (List.Mem.tail _ (List.Mem.tail _ (List.Mem.tail _ (List.Mem.tail _ (List.Mem.tail _ (List.Mem.tail _ (List.Mem.tail _ (List.Mem.tail _ (List.Mem.tail _ (List.Mem.head _))))))))))))))))
 obtain ⟨x_15,e15,p15_0⟩:=Y3 (d:=d+2) (hf _ (List.Mem.tail _ (List.Mem.tail _ (List.Mem.tail _ (List.Mem.tail _ (List.Mem.tail _ (List.Mem.tail _ (List.Mem.tail _ (List.Mem.tail _ (List.Mem.tail _ (List.Mem.tail _ (List.Mem.tail _ (List.Mem.tail _ (List.Mem.tail _ (List.Mem.tail _ (List.Mem.tail _ (List.Mem.head _)))))))))))))))))
 obtain ⟨x_16,e16,p16_0⟩:=Y3 (d:=d+2) (hf _ (List.Mem.tail _ (List.Mem.tail _ (List.Mem.tail _ (List.Mem.tail _ (List.Mem.tail _ (List.Mem.tail _ (List.Mem.tail _ (List.Mem.tail _ (List.Mem.tail _ (List.Mem.tail _ (List.Mem.tail _ (List.Mem.tail _ (List.Mem.tail _ (List.Mem.tail _ (List.Mem.tail _ (List.Mem.tail _ (List.Mem.head _))))))))))))))))))
 obtain ⟨A_17,n_17,c_17,v_17,e17,p17_0,p17_1,p17_2,p17_3⟩:=Y31 (d:=d+0) (hf _ (List.Mem.tail _ (List.Mem.tail _ (List.Mem.tail _ (List.Mem.tail _ (List.Mem.tail _ (List.Mem.tail _ (List.Mem.tail _ (List.Mem.tail _ (List.Mem.tail _ (List.Mem.tail _ (List.Mem.tail _ (List.Mem.tail _ (List.Mem.tail _ (List.Mem.tail _ (List.Mem.tail _ (List.Mem.tail _ (List.Mem.tail _ (List.Mem.head _)))))))))))))))))))
 obtain ⟨b_0_18,b_1_18,b_2_18,e18⟩:=Y32 (d:=d+1) (hf _ (List.Mem.tail _ (List.Mem.tail _ (List.Mem.tail _ (List.Mem.tail _ (List.Mem.tail _ (List.Mem.tail _ (List.Mem.tail _ (List.Mem.tail _ (List.Mem.tail _ (List.Mem.tail _ (List.Mem.tail _ (List.Mem.tail _ (List.Mem.tail _ (List.Mem.tail _ (List.Mem.tail _ (List.Mem.tail _ (List.Mem.tail _ (List.Mem.tail _ (List.Mem.head _))))))))))))))))))))
 exact ⟨b_0,x_1,b_2,b_3,x_4,x_0_5,x_1_5,x_2_5,x_6,x_7,x_0_8,x_1_8,x_2_8,x_3_8,x_4_8,x_9,x_10,b_11,x_0_12,x_1_12,x_2_12,x_3_12,x_13,b_14,x_15,x_16,A_17,n_17,c_17,v_17,b_0_18,b_1_18,b_2_18,e.trans (j8 e0 (j8 e1 (j8 e2 (j8 e3 (j8 e4 (j8 e5 (j8 e6 (j8 e7 (j8 e8 (j8 e9 (j8 e10 (j8 e11 (j8 e12 (j8 e13 (j8 e14 (j8 e15 (j8 e16 (j8 e17 (j8 e18 (rfl)))))))))))))))))))),p1_0,p4_0,p5_0,p5_1,p5_2,p6_0,p7_0,p8_0,p8_1,p8_2,p8_3,p8_4,p9_0,p10_0,p12_0,p12_1,p12_2,p12_3,p13_0,p15_0,p16_0,p17_0,p17_1,p17_2,p17_3⟩
theorem Y35 {M:Mem}{d:Nat}{cs:List Value}(h:yy P M (d+2) 35 cs):∃ (A:Option Addr) (c:Nat) (l:List Int),cs=[.slice A l.length c]∧l.length≤c∧l.length*8≤140737488351232∧RdI M .i64 A l∧(∀ x ∈ l,(Lit.int .i64 x).wf=true):=zez Go.Proofs.Tryz.underlying35 Go.Proofs.Tryz.underlying3 (by kernel_rfl) (by kernel_rfl) h
theorem Y36 {M:Mem}{d:Nat}{cs:List Value}(h:yy P M (d+2) 36 cs):∃ (A:Option Addr) (c:Nat) (l:List Bool),cs=[.slice A l.length c]∧l.length≤c∧l.length*1≤140737488351232∧RdB M A l:=zld Go.Proofs.Tryz.underlying36 Go.Proofs.Tryz.underlying4 (by kernel_rfl) (by kernel_rfl) h
theorem Y38 {M:Mem}{d:Nat}{cs:List Value}(h:yy P M (d+3) 38 cs):∃ (x_0:Int) (x_1:Int) (A_2:Option Addr) (c_2:Nat) (l_2:List Int) (A_3:Option Addr) (c_3:Nat) (l_3:List Int) (A_4:Option Addr) (c_4:Nat) (l_4:List Bool),cs=[.int .i64 x_0,.int .i64 x_1,.slice A_2 l_2.length c_2,.slice A_3 l_3.length c_3,.slice A_4 l_4.length c_4]∧(Lit.int .i64 x_0).wf=true∧(Lit.int .i64 x_1).wf=true∧l_2.length≤c_2∧l_2.length*1≤140737488351232∧RdI M .u8 A_2 l_2∧(∀ x ∈ l_2,(Lit.int .u8 x).wf=true)∧l_3.length≤c_3∧l_3.length*8≤140737488351232∧RdI M .i64 A_3 l_3∧(∀ x ∈ l_3,(Lit.int .i64 x).wf=true)∧l_4.length≤c_4∧l_4.length*1≤140737488351232∧RdB M A_4 l_4:=by
 obtain ⟨e,hf⟩:=z0l (g:=fun _=>true) Go.Proofs.Tryz.underlying38 (by kernel_rfl) h
 obtain ⟨x_0,e0,p0_0⟩:=Y3 (d:=d+1) (hf _ (List.Mem.head _))
 obtain ⟨x_1,e1,p1_0⟩:=Y3 (d:=d+1) (hf _ (List.Mem.tail _ (List.Mem.head _)))
 obtain ⟨A_2,c_2,l_2,e2,p2_0,p2_1,p2_2,p2_3⟩:=Y22 (d:=d+0) (hf _ (List.Mem.tail _ (List.Mem.tail _ (List.Mem.head _))))
 obtain ⟨A_3,c_3,l_3,e3,p3_0,p3_1,p3_2,p3_3⟩:=Y35 (d:=d+0) (hf _ (List.Mem.tail _ (List.Mem.tail _ (List.Mem.tail _ (List.Mem.head _)))))
 obtain ⟨A_4,c_4,l_4,e4,p4_0,p4_1,p4_2⟩:=Y36 (d:=d+0) (hf _ (List.Mem.tail _ (List.Mem.tail _ (List.Mem.tail _ (List.Mem.tail _ (List.Mem.head _))))))
 exact ⟨x_0,x_1,A_2,c_2,l_2,A_3,c_3,l_3,A_4,c_4,l_4,e.trans (j8 e0 (j8 e1 (j8 e2 (j8 e3 (j8 e4 (rfl)))))),p0_0,p1_0,p2_0,p2_1,p2_2,p2_3,p3_0,p3_1,p3_2,p3_3,p4_0,p4_1,p4_2⟩
theorem Y39 {M:Mem}{d:Nat}{cs:List Value}(h:yy P M (d+4) 39 cs):∃ (x_0_0:Int) (x_1_0:Int) (A_2_0:Option Addr) (c_2_0:Nat) (l_2_0:List Int) (A_3_0:Option Addr) (c_3_0:Nat) (l_3_0:List Int) (A_4_0:Option Addr) (c_4_0:Nat) (l_4_0:List Bool) (x_0_1:Int) (x_1_1:Int) (A_2_1:Option Addr) (c_2_1:Nat) (l_2_1:List Int) (A_3_1:Option Addr) (c_3_1:Nat) (l_3_1:List Int) (A_4_1:Option Addr) (c_4_1:Nat) (l_4_1:List Bool) (x_0_2:Int) (x_1_2:Int) (A_2_2:Option Addr) (c_2_2:Nat) (l_2_2:List Int) (A_3_2:Option Addr) (c_3_2:Nat) (l_3_2:List Int) (A_4_2:Option Addr) (c_4_2:Nat) (l_4_2:List Bool),cs=[.int .i64 x_0_0,.int .i64 x_1_0,.slice A_2_0 l_2_0.length c_2_0,.slice A_3_0 l_3_0.length c_3_0,.slice A_4_0 l_4_0.length c_4_0,.int .i64 x_0_1,.int .i64 x_1_1,.slice A_2_1 l_2_1.length c_2_1,.slice A_3_1 l_3_1.length c_3_1,.slice A_4_1 l_4_1.length c_4_1,.int .i64 x_0_2,.int .i64 x_1_2,.slice A_2_2 l_2_2.length c_2_2,.slice A_3_2 l_3_2.length c_3_2,.slice A_4_2 l_4_2.length c_4_2]∧(Lit.int .i64 x_0_0).wf=true∧(Lit.int .i64 x_1_0).wf=true∧l_2_0.length≤c_2_0∧l_2_0.length*1≤140737488351232∧RdI M .u8 A_2_0 l_2_0∧(∀ x ∈ l_2_0,(Lit.int .u8 x).wf=true)∧l_3_0.length≤c_3_0∧l_3_0.length*8≤140737488351232∧RdI M .i64 A_3_0 l_3_0∧(∀ x ∈ l_3_0,(Lit.int .i64 x).wf=true)∧l_4_0.length≤c_4_0∧l_4_0.length*1≤140737488351232∧RdB M A_4_0 l_4_0∧(Lit.int .i64 x_0_1).wf=true∧(Lit.int .i64 x_1_1).wf=true∧l_2_1.length≤c_2_1∧l_2_1.length*1≤140737488351232∧RdI M .u8 A_2_1 l_2_1∧(∀ x ∈ l_2_1,(Lit.int .u8 x).wf=true)∧l_3_1.length≤c_3_1∧l_3_1.length*8≤140737488351232∧RdI M .i64 A_3_1 l_3_1∧(∀ x ∈ l_3_1,(Lit.int .i64 x).wf=true)∧l_4_1.length≤c_4_1∧l_4_1.length*1≤140737488351232∧RdB M A_4_1 l_4_1∧(Lit.int .i64 x_0_2).wf=true∧(Lit.int .i64 x_1_2).wf=true∧l_2_2.length≤c_2_2∧l_2_2.length*1≤140737488351232∧RdI M .u8 A_2_2 l_2_2∧(∀ x ∈ l_2_2,(Lit.int .u8 x).wf=true)∧l_3_2.length≤c_3_2∧l_3_2.length*8≤140737488351232∧RdI M .i64 A_3_2 l_3_2∧(∀ x ∈ l_3_2,(Lit.int .i64 x).wf=true)∧l_4_2.length≤c_4_2∧l_4_2.length*1≤140737488351232∧RdB M A_4_2 l_4_2:=by
 obtain ⟨e,hf⟩:=z0e (n:=3) (z:=5) Go.Proofs.Tryz.underlying39 (by kernel_rfl) (by kernel_rfl) h
 obtain ⟨x_0_0,x_1_0,A_2_0,c_2_0,l_2_0,A_3_0,c_3_0,l_3_0,A_4_0,c_4_0,l_4_0,e0,p0_0,p0_1,p0_2,p0_3,p0_4,p0_5,p0_6,p0_7,p0_8,p0_9,p0_10,p0_11,p0_12⟩:=Y38 (d:=d+0) (hf 0 (by decide))
 obtain ⟨x_0_1,x_1_1,A_2_1,c_2_1,l_2_1,A_3_1,c_3_1,l_3_1,A_4_1,c_4_1,l_4_1,e1,p1_0,p1_1,p1_2,p1_3,p1_4,p1_5,p1_6,p1_7,p1_8,p1_9,p1_10,p1_11,p1_12⟩:=Y38 (d:=d+0) (hf 1 (by decide))
 obtain ⟨x_0_2,x_1_2,A_2_2,c_2_2,l_2_2,A_3_2,c_3_2,l_3_2,A_4_2,c_4_2,l_4_2,e2,p2_0,p2_1,p2_2,p2_3,p2_4,p2_5,p2_6,p2_7,p2_8,p2_9,p2_10,p2_11,p2_12⟩:=Y38 (d:=d+0) (hf 2 (by decide))
 exact ⟨x_0_0,x_1_0,A_2_0,c_2_0,l_2_0,A_3_0,c_3_0,l_3_0,A_4_0,c_4_0,l_4_0,x_0_1,x_1_1,A_2_1,c_2_1,l_2_1,A_3_1,c_3_1,l_3_1,A_4_1,c_4_1,l_4_1,x_0_2,x_1_2,A_2_2,c_2_2,l_2_2,A_3_2,c_3_2,l_3_2,A_4_2,c_4_2,l_4_2,e.trans (j8 e0 (j8 e1 (j8 e2 (rfl)))),p0_0,p0_1,p0_2,p0_3,p0_4,p0_5,p0_6,p0_7,p0_8,p0_9,p0_10,p0_11,p0_12,p1_0,p1_1,p1_2,p1_3,p1_4,p1_5,p1_6,p1_7,p1_8,p1_9,p1_10,p1_11,p1_12,p2_0,p2_1,p2_2,p2_3,p2_4,p2_5,p2_6,p2_7,p2_8,p2_9,p2_10,p2_11,p2_12⟩
theorem Y75 {M:Mem}{d:Nat}{cs:List Value}(h:yy P M (d+2) 75 cs):∃ (x_0:Int) (x_1:Int) (x_2:Int),cs=[.int .i64 x_0,.int .i64 x_1,.int .i64 x_2]∧(Lit.int .i64 x_0).wf=true∧(Lit.int .i64 x_1).wf=true∧(Lit.int .i64 x_2).wf=true:=by
 obtain ⟨e,hf⟩:=z0e (n:=3) (z:=1) Go.Proofs.Tryz.underlying75 (by kernel_rfl) (by kernel_rfl) h
 obtain ⟨x_0,e0,p0_0⟩:=Y3 (d:=d+0) (hf 0 (by decide))
 obtain ⟨x_1,e1,p1_0⟩:=Y3 (d:=d+0) (hf 1 (by decide))
 obtain ⟨x_2,e2,p2_0⟩:=Y3 (d:=d+0) (hf 2 (by decide))
 exact ⟨x_0,x_1,x_2,e.trans (j8 e0 (j8 e1 (j8 e2 (rfl)))),p0_0,p1_0,p2_0⟩
theorem Y77 {M:Mem}{d:Nat}{cs:List Value}(h:yy P M (d+3) 77 cs):∃ (b_0:Bool) (x_0_1:Int) (x_1_1:Int) (x_2_1:Int) (x_0_2:Int) (x_1_2:Int) (x_2_2:Int),cs=[.bool b_0,.int .i64 x_0_1,.int .i64 x_1_1,.int .i64 x_2_1,.int .i64 x_0_2,.int .i64 x_1_2,.int .i64 x_2_2]∧(Lit.int .i64 x_0_1).wf=true∧(Lit.int .i64 x_1_1).wf=true∧(Lit.int .i64 x_2_1).wf=true∧(Lit.int .i64 x_0_2).wf=true∧(Lit.int .i64 x_1_2).wf=true∧(Lit.int .i64 x_2_2).wf=true:=by
 obtain ⟨e,hf⟩:=z0l (g:=fun _=>true) Go.Proofs.Tryz.underlying77 (by kernel_rfl) h
 obtain ⟨b_0,e0⟩:=Y4 (d:=d+1) (hf _ (List.Mem.head _))
 obtain ⟨x_0_1,x_1_1,x_2_1,e1,p1_0,p1_1,p1_2⟩:=Y75 (d:=d+0) (hf _ (List.Mem.tail _ (List.Mem.head _)))
 obtain ⟨x_0_2,x_1_2,x_2_2,e2,p2_0,p2_1,p2_2⟩:=Y75 (d:=d+0) (hf _ (List.Mem.tail _ (List.Mem.tail _ (List.Mem.head _))))
 exact ⟨b_0,x_0_1,x_1_1,x_2_1,x_0_2,x_1_2,x_2_2,e.trans (j8 e0 (j8 e1 (j8 e2 (rfl)))),p1_0,p1_1,p1_2,p2_0,p2_1,p2_2⟩
theorem Y40 {M:Mem}{d:Nat}{cs:List Value}(h:yy P M (d+4) 40 cs):∃ (A:Option Addr) (n:Nat) (c:Nat) (v:List Value),cs=[.slice A n c]∧n≤c∧n*56≤140737488351232∧Rd M A n 7 v∧(∀ i,i < n→yy P M (d+3) 77 ((v.drop (i*7)).take 7)):=z5d Go.Proofs.Tryz.underlying40 (by kernel_rfl) (by kernel_rfl) h
theorem Y41 {M:Mem}{d:Nat}{cs:List Value}(h:yy P M (d+5) 41 cs):∃ (A_0:Option Addr) (n_0:Nat) (c_0:Nat) (v_0:List Value) (A_1:Option Addr) (n_1:Nat) (c_1:Nat) (v_1:List Value) (A_2:Option Addr) (n_2:Nat) (c_2:Nat) (v_2:List Value),cs=[.slice A_0 n_0 c_0,.slice A_1 n_1 c_1,.slice A_2 n_2 c_2]∧n_0≤c_0∧n_0*56≤140737488351232∧Rd M A_0 n_0 7 v_0∧(∀ i,i < n_0→yy P M (d+3) 77 ((v_0.drop (i*7)).take 7))∧n_1≤c_1∧n_1*56≤140737488351232∧Rd M A_1 n_1 7 v_1∧(∀ i,i < n_1→yy P M (d+3) 77 ((v_1.drop (i*7)).take 7))∧n_2≤c_2∧n_2*56≤140737488351232∧Rd M A_2 n_2 7 v_2∧(∀ i,i < n_2→yy P M (d+3) 77 ((v_2.drop (i*7)).take 7)):=by
 obtain ⟨e,hf⟩:=z0e (n:=3) (z:=1) Go.Proofs.Tryz.underlying41 (by kernel_rfl) (by kernel_rfl) h
 obtain ⟨A_0,n_0,c_0,v_0,e0,p0_0,p0_1,p0_2,p0_3⟩:=Y40 (d:=d+0) (hf 0 (by decide))
 obtain ⟨A_1,n_1,c_1,v_1,e1,p1_0,p1_1,p1_2,p1_3⟩:=Y40 (d:=d+0) (hf 1 (by decide))
 obtain ⟨A_2,n_2,c_2,v_2,e2,p2_0,p2_1,p2_2,p2_3⟩:=Y40 (d:=d+0) (hf 2 (by decide))
 exact ⟨A_0,n_0,c_0,v_0,A_1,n_1,c_1,v_1,A_2,n_2,c_2,v_2,e.trans (j8 e0 (j8 e1 (j8 e2 (rfl)))),p0_0,p0_1,p0_2,p0_3,p1_0,p1_1,p1_2,p1_3,p2_0,p2_1,p2_2,p2_3⟩
theorem Y43 {M:Mem}{d:Nat}{cs:List Value}(h:yy P M (d+6) 43 cs):∃ (c_0 c_1 c_2 c_3:List Value),cs=c_0 ++ (c_1 ++ (c_2 ++ (c_3 ++ [])))∧yy P M (d+5) 39 c_0∧yy P M (d+5) 36 c_1∧yy P M (d+5) 35 c_2∧yy P M (d+5) 41 c_3:=by
 obtain ⟨e,hf⟩:=z0l (g:=fun _=>true) Go.Proofs.Tryz.underlying43 (by kernel_rfl) h
 exact ⟨_,_,_,_,e,hf _ (List.Mem.head _),hf _ (List.Mem.tail _ (List.Mem.head _)),hf _ (List.Mem.tail _ (List.Mem.tail _ (List.Mem.head _))),hf _ (List.Mem.tail _ (List.Mem.tail _ (List.Mem.tail _ (List.Mem.head _))))⟩
end Go.Zt

