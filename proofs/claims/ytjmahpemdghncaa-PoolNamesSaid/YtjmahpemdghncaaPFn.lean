/- What the law PoolNames needs of the text Fn. -/
import Derived.Test.YtjmahpemdghncaaPFm
set_option linter.unusedVariables false
set_option linter.unusedSimpArgs false
set_option maxRecDepth 100000
namespace Go.Zt
theorem rcheck_ok (lo : Nat) (w h : Int) (A : Option Addr) (n c : Nat) (M : Mem) : Ac P T lo F.zoetroperef05_Check [.agg ⟨[.int .i64 w, .int .i64 h, .slice A n c]⟩] M fun r => r = (.int .i64 (checkS w h n), M) := by
  refine Ac.of (Evp.of_eq (fun k => zoetroperef05_Check.entry k ..) ?_)
  refine Evp.dec (fun h1 => Evp.ret (Run.ret (by unfold checkS; rw [if_neg (by omega)]))) fun h1 => ?_
  refine Evp.dec (fun h2 => Evp.ret (Run.ret (by unfold checkS; rw [if_neg (by omega)]))) fun h2 => ?_
  refine Evp.dec (fun h3 => Evp.ret (Run.ret (by unfold checkS; rw [if_neg (by omega)]))) fun h3 => ?_
  refine Evp.dec (fun h4 => Evp.ret (Run.ret (by unfold checkS; rw [if_neg (by omega)]))) fun h4 => ?_
  have hm := area (w := w) (h := h) (by omega)
  rw [w64 (by omega)]
  refine Evp.neb (fun h5 => ?_) fun h5 => ?_
  · exact Evp.ret (Run.ret (by unfold checkS; rw [if_neg (by omega)]))
  · exact Evp.ret (Run.ret (by unfold checkS; rw [if_pos (by omega)]))
theorem rside_ok (lo : Nat) (n : Int) (M : Mem) : Ac P T lo F.zoetroperef05_side [.int .i64 n] M fun r => r = (.bool (decide (sideP n)), M) := by
  have ht : Int.tmod n 2 = 0 ↔ n % 2 = 0 := by rw [← Int.dvd_iff_tmod_eq_zero, Int.dvd_iff_emod_eq_zero]
  refine Ac.of (Evp.of_eq (fun k => zoetroperef05_side.entry k ..) ?_)
  refine Evp.eqb (fun h1 => ?_) fun h1 => Evp.ret (Run.ret (by rw [decide_eq_false (fun e => h1 (ht.2 e.1))]))
  have h1 := ht.1 h1
  refine Evp.dec (fun h3 => ?_) fun h3 => Evp.ret (Run.ret (by rw [decide_eq_false (fun e => by unfold sideP at e; omega)]))
  refine Evp.ret (Run.ret ?_)
  congr 2
  exact decide_eq_decide.2 (by unfold sideP; omega)
section
variable (lo : Nat) (w0 h0 w1 h1 w2 h2 : Int) (A0 A1 A2 : Option Addr) (n0 c0 n1 c1 n2 c2 : Nat) (M : Mem)
theorem rwhole_ok : Ac P T lo F.zoetroperef05_Whole [.agg ⟨[.int .i64 w0, .int .i64 h0, .slice A0 n0 c0, .int .i64 w1, .int .i64 h1, .slice A1 n1 c1, .int .i64 w2, .int .i64 h2, .slice A2 n2 c2]⟩] M fun r => r = (.int .i64 (wholeS w0 h0 n0 w1 h1 n1 w2 h2 n2), M) := by
  have bad : ¬ WholeP w0 h0 n0 w1 h1 n1 w2 h2 n2 → Run P T lo F.zoetroperef05_Whole (.ret (.int .i64 2) M) fun r => r = (.int .i64 (wholeS w0 h0 n0 w1 h1 n1 w2 h2 n2), M) := fun h => Run.ret (by unfold wholeS; rw [if_neg h])
  refine Ac.of (Evp.of_eq (fun k => zoetroperef05_Whole.entry k ..) ?_)
  refine Evp.ob (rcheck_ok ..) ?_
  rintro _ rfl
  simp only [ret_int, ret_bool, ret_flt, ret_slc, ret_str, ret_ptr, ret_agg, ret_tup, ob_some, bb_true, bb_false, List.getElem?_cons_zero, List.getElem?_cons_succ, List.length_cons, List.length_nil, Nat.reduceAdd, Nat.reduceLT]
  refine Evp.neb (fun h => Evp.ret (bad fun e => h e.1)) fun k0 => ?_
  refine Evp.ob (rside_ok ..) ?_
  rintro _ rfl
  simp only [ret_int, ret_bool, ret_flt, ret_slc, ret_str, ret_ptr, ret_agg, ret_tup, ob_some, bb_true, bb_false, List.getElem?_cons_zero, List.getElem?_cons_succ, List.length_cons, List.length_nil, Nat.reduceAdd, Nat.reduceLT]
  refine Evp.nb (fun h => Evp.ret (bad fun e => of_decide_eq_false h e.2.1)) fun s1 => ?_
  refine Evp.ob (rside_ok ..) ?_
  rintro _ rfl
  simp only [ret_int, ret_bool, ret_flt, ret_slc, ret_str, ret_ptr, ret_agg, ret_tup, ob_some, bb_true, bb_false, List.getElem?_cons_zero, List.getElem?_cons_succ, List.length_cons, List.length_nil, Nat.reduceAdd, Nat.reduceLT]
  refine Evp.nb (fun h => Evp.ret (bad fun e => of_decide_eq_false h e.2.2.1)) fun s2 => ?_
  have s1 := of_decide_eq_true s1
  have s2 := of_decide_eq_true s2
  have s1' := s1
  have s2' := s2
  unfold sideP at s1' s2'
  have d1 : IntKind.i64.wrap (Int.tdiv w0 2) = w0 / 2 := by rw [Int.tdiv_eq_ediv_of_nonneg (by omega)]; exact w64 (by omega)
  have d2 : IntKind.i64.wrap (Int.tdiv h0 2) = h0 / 2 := by rw [Int.tdiv_eq_ediv_of_nonneg (by omega)]; exact w64 (by omega)
  refine Evp.ret ?_
  refine Run.cut (Evp.of_eq (fun k => zoetroperef05_Whole.p116 k ..) ?_)
  refine Evp.tt rfl (Evp.pos (by decide) (Evp.some rfl (Evp.some rfl (Evp.some rfl ?_))))
  refine Evp.ob (rcheck_ok ..) ?_
  rintro _ rfl
  simp only [ret_int, ret_bool, ret_flt, ret_slc, ret_str, ret_ptr, ret_agg, ret_tup, ob_some, bb_true, bb_false, List.getElem?_cons_zero, List.getElem?_cons_succ, List.length_cons, List.length_nil, Nat.reduceAdd, Nat.reduceLT]
  refine Evp.neb (fun h => Evp.ret (bad fun e => h e.2.2.2.1)) fun k1 => ?_
  refine Evp.pos (by decide) (Evp.some rfl ?_)
  rw [d1, d2]
  refine Evp.neb (fun h => Evp.ret (bad fun e => h e.2.2.2.2.1)) fun e1 => ?_
  refine Evp.pos (by decide) (Evp.some rfl ?_)
  refine Evp.neb (fun h => Evp.ret (bad fun e => h e.2.2.2.2.2.1)) fun e2 => ?_
  rw [show IntKind.i64.wrap (1 + 1) = 2 from by decide]
  refine Evp.ret ?_
  refine Run.cut (Evp.of_eq (fun k => zoetroperef05_Whole.p116 k ..) ?_)
  refine Evp.tt rfl (Evp.pos (by decide) (Evp.some rfl (Evp.some rfl (Evp.some rfl ?_))))
  refine Evp.ob (rcheck_ok ..) ?_
  rintro _ rfl
  simp only [ret_int, ret_bool, ret_flt, ret_slc, ret_str, ret_ptr, ret_agg, ret_tup, ob_some, bb_true, bb_false, List.getElem?_cons_zero, List.getElem?_cons_succ, List.length_cons, List.length_nil, Nat.reduceAdd, Nat.reduceLT]
  refine Evp.neb (fun h => Evp.ret (bad fun e => h e.2.2.2.2.2.2.1)) fun k2 => ?_
  refine Evp.pos (by decide) (Evp.some rfl ?_)
  rw [d1, d2]
  refine Evp.neb (fun h => Evp.ret (bad fun e => h e.2.2.2.2.2.2.2.1)) fun e3 => ?_
  refine Evp.pos (by decide) (Evp.some rfl ?_)
  refine Evp.neb (fun h => Evp.ret (bad fun e => h e.2.2.2.2.2.2.2.2)) fun e4 => ?_
  rw [show IntKind.i64.wrap (2 + 1) = 3 from by decide]
  refine Evp.ret ?_
  refine Run.cut (Evp.of_eq (fun k => zoetroperef05_Whole.p116 k ..) ?_)
  refine Evp.ff rfl (Evp.ret (Run.ret ?_))
  unfold wholeS
  rw [if_pos ⟨k0, s1, s2, k1, e1, e2, k2, e3, e4⟩]
end
abbrev frc (f : FrV) (A0 A1 A2 : Option Addr) (c0 c1 c2 : Nat) : List Value := [.int .i64 f.w0, .int .i64 f.h0, .slice A0 f.x0.length c0, .int .i64 f.w1, .int .i64 f.h1, .slice A1 f.x1.length c1, .int .i64 f.w2, .int .i64 f.h2, .slice A2 f.x2.length c2]
def SmallF (f : FrV) : Prop := f.x0.length ≤ 262144 ∧ f.x1.length ≤ 262144 ∧ f.x2.length ≤ 262144
theorem WholeF.small {f : FrV} (h : WholeF f) : SmallF f := ⟨h.len.1.2, h.len.2.1.2, h.len.2.2.2⟩
theorem Grow.onS {M0 M : Mem} {z n : Nat} {A : Option Addr} {cs : List Value} (h : Grow M0 M z A n cs) : OnS (fun b => M0.length ≤ b) A := fun a e => by
  rcases h.at_ with ⟨e', _⟩ | ⟨b, e', h1, _⟩
  · rw [e'] at e; cases e
  · rw [e'] at e; injection e with e; rw [← e]; exact h1
section
variable (lo : Nat) (S : Nat → Prop) (A0 A1 A2 : Option Addr) (c0 c1 c2 : Nat) (f : FrV) (M : Mem) (hf : FrIs S M A0 A1 A2 f)
include hf
theorem rfcopy_ok (hn : SmallF f) (hlo : lo ≤ M.length) : Ac P T lo F.zoetroperef26_CopyFrame [.agg ⟨frc f A0 A1 A2 c0 c1 c2⟩] M fun r => ∃ B0 B1 B2 d0 d1 d2 M', r = (.agg ⟨frc f B0 B1 B2 d0 d1 d2⟩, M') ∧ Pre M M' ∧ FrIs (fun b => M.length ≤ b) M' B0 B1 B2 f := by
  obtain ⟨n0, n1, n2⟩ := hn
  refine Ac.of (Evp.of_eq (fun k => zoetroperef26_CopyFrame.entry k ..) ?_)
  refine Evp.ret ?_
  refine Run.cut (Evp.of_eq (fun k => zoetroperef26_CopyFrame.p116 k ..) ?_)
  refine Evp.tt rfl (Evp.pos (by decide) (Evp.some rfl (Evp.pos (by decide) (Evp.some rfl (Evp.pos (by decide) (Evp.some rfl ?_))))))
  refine Evp.ob (copyBytes_ok _ A0 c0 f.x0 M hf.r0 (by omega) (Nat.le_refl _)) ?_
  rintro _ ⟨B0, d0, M1, rfl, p1, _, g0⟩
  simp only [ret_int, ret_bool, ret_flt, ret_slc, ret_str, ret_ptr, ret_agg, ret_tup, ob_some, bb_true, bb_false, List.getElem?_cons_zero, List.getElem?_cons_succ, List.length_cons, List.length_nil, Nat.reduceAdd, Nat.reduceLT]
  refine Evp.pos (by decide) (Evp.pos (Nat.le_of_ble_eq_true rfl) ?_)
  rw [show IntKind.i64.wrap (0 + 1) = 1 from by decide]
  refine Evp.ret ?_
  have l1 := p1.len
  refine Run.cut (Evp.of_eq (fun k => zoetroperef26_CopyFrame.p116 k ..) ?_)
  refine Evp.tt rfl (Evp.pos (by decide) (Evp.some rfl (Evp.pos (by decide) (Evp.some rfl (Evp.pos (by decide) (Evp.some rfl ?_))))))
  refine Evp.ob (copyBytes_ok _ A1 c1 f.x1 M1 (hf.r1.pre p1) (by omega) (Nat.le_refl _)) ?_
  rintro _ ⟨B1, d1, M2, rfl, p2, _, g1⟩
  simp only [ret_int, ret_bool, ret_flt, ret_slc, ret_str, ret_ptr, ret_agg, ret_tup, ob_some, bb_true, bb_false, List.getElem?_cons_zero, List.getElem?_cons_succ, List.length_cons, List.length_nil, Nat.reduceAdd, Nat.reduceLT]
  refine Evp.pos (by decide) (Evp.pos (Nat.le_of_ble_eq_true rfl) ?_)
  rw [show IntKind.i64.wrap (1 + 1) = 2 from by decide]
  refine Evp.ret ?_
  have l2 := p2.len
  refine Run.cut (Evp.of_eq (fun k => zoetroperef26_CopyFrame.p116 k ..) ?_)
  refine Evp.tt rfl (Evp.pos (by decide) (Evp.some rfl (Evp.pos (by decide) (Evp.some rfl (Evp.pos (by decide) (Evp.some rfl ?_))))))
  refine Evp.ob (copyBytes_ok _ A2 c2 f.x2 M2 (hf.r2.pre (p1.trans p2)) (by omega) (Nat.le_refl _)) ?_
  rintro _ ⟨B2, d2, M3, rfl, p3, _, g2⟩
  simp only [ret_int, ret_bool, ret_flt, ret_slc, ret_str, ret_ptr, ret_agg, ret_tup, ob_some, bb_true, bb_false, List.getElem?_cons_zero, List.getElem?_cons_succ, List.length_cons, List.length_nil, Nat.reduceAdd, Nat.reduceLT]
  refine Evp.pos (by decide) (Evp.pos (Nat.le_of_ble_eq_true rfl) ?_)
  rw [show IntKind.i64.wrap (2 + 1) = 3 from by decide]
  refine Evp.ret ?_
  refine Run.cut (Evp.of_eq (fun k => zoetroperef26_CopyFrame.p116 k ..) ?_)
  refine Evp.ff rfl ?_
  refine Evp.some rfl (Evp.some rfl (Evp.some rfl (Evp.some rfl (Evp.some rfl (Evp.some rfl (Evp.some rfl (Evp.some rfl (Evp.some rfl ?_))))))))
  exact Evp.ret (Run.ret ⟨B0, B1, B2, d0, d1, d2, M3, rfl, (p1.trans p2).trans p3, g0.onS, g1.onS.mono fun b h => by omega, g2.onS.mono fun b h => by omega, g0.rdI.pre (p2.trans p3), g1.rdI.pre p3, g2.rdI⟩)
theorem rfsame_ok (S' : Nat → Prop) (B0 B1 B2 : Option Addr) (d0 d1 d2 : Nat) (g : FrV) (hg : FrIs S' M B0 B1 B2 g) (hn : SmallF f) :
    Ac P T lo F.zoetroperef26_SameFrame [.agg ⟨frc f A0 A1 A2 c0 c1 c2⟩, .agg ⟨frc g B0 B1 B2 d0 d1 d2⟩] M fun r => r = (.bool (decide (f = g)), M) := by
  obtain ⟨n0, n1, n2⟩ := hn
  have no : f ≠ g → Run P T lo F.zoetroperef26_SameFrame (.ret (.bool false) M) fun r => r = (.bool (decide (f = g)), M) := fun h => Run.ret (by rw [decide_eq_false h])
  refine Ac.of (Evp.of_eq (fun k => zoetroperef26_SameFrame.entry k ..) ?_)
  refine Evp.ret ?_
  refine Run.cut (Evp.of_eq (fun k => zoetroperef26_SameFrame.p52 k ..) ?_)
  refine Evp.tt rfl (Evp.pos (by decide) (Evp.some rfl (Evp.pos (by decide) (Evp.some rfl ?_))))
  refine Evp.neb (fun h => Evp.ret (no fun e => h (by rw [e]))) fun q1 => ?_
  refine Evp.pos (by decide) (Evp.some rfl (Evp.pos (by decide) (Evp.some rfl ?_)))
  refine Evp.neb (fun h => Evp.ret (no fun e => h (by rw [e]))) fun q2 => ?_
  refine Evp.pos (by decide) (Evp.some rfl (Evp.pos (by decide) (Evp.some rfl ?_)))
  refine Evp.ob (eqBytes_ok lo A0 B0 c0 d0 f.x0 g.x0 M hf.r0 hg.r0 (by omega)) ?_
  rintro _ rfl
  simp only [ret_int, ret_bool, ret_flt, ret_slc, ret_str, ret_ptr, ret_agg, ret_tup, ob_some, bb_true, bb_false, List.getElem?_cons_zero, List.getElem?_cons_succ, List.length_cons, List.length_nil, Nat.reduceAdd, Nat.reduceLT]
  refine Evp.nb (fun h => Evp.ret (no fun e => of_decide_eq_false h (by rw [e]))) fun q3 => Evp.ret ?_
  have q3 := of_decide_eq_true q3
  rw [show IntKind.i64.wrap (0 + 1) = 1 from by decide]
  refine Run.cut (Evp.of_eq (fun k => zoetroperef26_SameFrame.p52 k ..) ?_)
  refine Evp.tt rfl (Evp.pos (by decide) (Evp.some rfl (Evp.pos (by decide) (Evp.some rfl ?_))))
  refine Evp.neb (fun h => Evp.ret (no fun e => h (by rw [e]))) fun q4 => ?_
  refine Evp.pos (by decide) (Evp.some rfl (Evp.pos (by decide) (Evp.some rfl ?_)))
  refine Evp.neb (fun h => Evp.ret (no fun e => h (by rw [e]))) fun q5 => ?_
  refine Evp.pos (by decide) (Evp.some rfl (Evp.pos (by decide) (Evp.some rfl ?_)))
  refine Evp.ob (eqBytes_ok lo A1 B1 c1 d1 f.x1 g.x1 M hf.r1 hg.r1 (by omega)) ?_
  rintro _ rfl
  simp only [ret_int, ret_bool, ret_flt, ret_slc, ret_str, ret_ptr, ret_agg, ret_tup, ob_some, bb_true, bb_false, List.getElem?_cons_zero, List.getElem?_cons_succ, List.length_cons, List.length_nil, Nat.reduceAdd, Nat.reduceLT]
  refine Evp.nb (fun h => Evp.ret (no fun e => of_decide_eq_false h (by rw [e]))) fun q6 => Evp.ret ?_
  have q6 := of_decide_eq_true q6
  rw [show IntKind.i64.wrap (1 + 1) = 2 from by decide]
  refine Run.cut (Evp.of_eq (fun k => zoetroperef26_SameFrame.p52 k ..) ?_)
  refine Evp.tt rfl (Evp.pos (by decide) (Evp.some rfl (Evp.pos (by decide) (Evp.some rfl ?_))))
  refine Evp.neb (fun h => Evp.ret (no fun e => h (by rw [e]))) fun q7 => ?_
  refine Evp.pos (by decide) (Evp.some rfl (Evp.pos (by decide) (Evp.some rfl ?_)))
  refine Evp.neb (fun h => Evp.ret (no fun e => h (by rw [e]))) fun q8 => ?_
  refine Evp.pos (by decide) (Evp.some rfl (Evp.pos (by decide) (Evp.some rfl ?_)))
  refine Evp.ob (eqBytes_ok lo A2 B2 c2 d2 f.x2 g.x2 M hf.r2 hg.r2 (by omega)) ?_
  rintro _ rfl
  simp only [ret_int, ret_bool, ret_flt, ret_slc, ret_str, ret_ptr, ret_agg, ret_tup, ob_some, bb_true, bb_false, List.getElem?_cons_zero, List.getElem?_cons_succ, List.length_cons, List.length_nil, Nat.reduceAdd, Nat.reduceLT]
  refine Evp.nb (fun h => Evp.ret (no fun e => of_decide_eq_false h (by rw [e]))) fun q9 => Evp.ret ?_
  have q9 := of_decide_eq_true q9
  rw [show IntKind.i64.wrap (2 + 1) = 3 from by decide]
  refine Run.cut (Evp.of_eq (fun k => zoetroperef26_SameFrame.p52 k ..) ?_)
  refine Evp.ff rfl (Evp.ret (Run.ret ?_))
  rw [decide_eq_true ((FrV.eq_iff f g).1 ⟨q1, q2, q3, q4, q5, q6, q7, q8, q9⟩)]
end
def RefCells (cs : List Value) (R : Nat → RawS) : Prop := cs.length = 88 ∧ ∀ n, n < 8 → cs[n]? = some (.bool (R n).t) ∧ (∀ j, j < 9 → cs[8 + n * 9 + j]? = (R n).cells[1 + j]?) ∧ cs[80 + n]? = (R n).cells[10]?
def RefRaw (M : Mem) (b : Nat) (R : Nat → RawS) : Prop := ∃ cs, M[b]? = some ⟨.fx, cs⟩ ∧ RefCells cs R
def RefIs (S : Nat → Prop) (M : Mem) (b : Nat) (sl : Nat → Option SlotV) : Prop := ∃ R, RefRaw M b R ∧ ∀ n, n < 8 → SlotIs S M (R n) (sl n)
theorem RefRaw.keep {M M' : Mem} {b : Nat} {R : Nat → RawS} (h : RefRaw M b R) (hk : ∀ k, M[b]? = some k → M'[b]? = some k) : RefRaw M' b R := by
  obtain ⟨cs, h1, h2⟩ := h
  exact ⟨cs, hk _ h1, h2⟩
section
variable {S S' : Nat → Prop} {M M' : Mem} {b : Nat} {sl : Nat → Option SlotV}
theorem RefIs.keep (h : RefIs S M b sl) (hb : ∀ k, M[b]? = some k → M'[b]? = some k) (hk : KeepS S M M') : RefIs S M' b sl := by
  obtain ⟨R, h1, h2⟩ := h
  exact ⟨R, h1.keep hb, fun n hn => (h2 n hn).keepS hk⟩
theorem RefIs.pre (h : RefIs S M b sl) (hp : Pre M M') : RefIs S M' b sl := h.keep (fun k hk => hp b k hk) hp.keepS
theorem RefIs.mono (h : RefIs S M b sl) (hs : ∀ b, S b → S' b) : RefIs S' M b sl := by
  obtain ⟨R, h1, h2⟩ := h
  exact ⟨R, h1, fun n hn => (h2 n hn).mono hs⟩
theorem RefIs.in_ (h : RefIs S M b sl) : b < M.length := by
  obtain ⟨R, ⟨cs, h1, _⟩, _⟩ := h
  exact lt_of_get h1
end
section
variable {M : Mem} {b : Nat} {R : Nat → RawS} (h : RefRaw M b R)
include h
theorem RefRaw.is {n : Nat} (hn : n < 8) : (M.ld (plus ⟨b, 0, none⟩ n)).bind Value.bool? = some (R n).t := by
  obtain ⟨cs, h1, h2, h3⟩ := h
  rw [fx_ldp h1, (h3 n hn).1]; rfl
theorem RefRaw.fr {n j : Nat} (hn : n < 8) (hj : j < 9) : M.ld (plus (plus (plus ⟨b, 0, none⟩ 8) (n * 9)) j) = (R n).cells[1 + j]? := by
  obtain ⟨cs, h1, h2, h3⟩ := h
  rw [show plus (plus (plus (⟨b, 0, none⟩ : Addr) 8) (n * 9)) j = plus ⟨b, 0, none⟩ (8 + n * 9 + j) by simp only [plus_eq, Nat.zero_add, Nat.add_assoc], fx_ldp h1, (h3 n hn).2.1 j hj]
theorem RefRaw.st {n : Nat} (hn : n < 8) : (M.ld (plus (plus ⟨b, 0, none⟩ 80) n)).bind Value.slc? = some ⟨(R n).As, (R n).ns, (R n).cs⟩ := by
  obtain ⟨cs, h1, h2, h3⟩ := h
  rw [show plus (plus (⟨b, 0, none⟩ : Addr) 80) n = plus ⟨b, 0, none⟩ (80 + n) by simp only [plus_eq, Nat.zero_add], fx_ldp h1, (h3 n hn).2.2]; rfl
end
section
variable {α : Type} {Q : α → Prop}
theorem evp_ld9 {M : Mem} {r : RawS} {a1 : Addr} {f : Nat → Int → Int → Slc → Int → Int → Slc → Int → Int → Slc → Option α}
    (h : ∀ j, j < 9 → M.ld (plus a1 j) = r.cells[1 + j]?)
    (hf : Evp (fun kk => f kk r.w0 r.h0 ⟨r.A0, r.n0, r.c0⟩ r.w1 r.h1 ⟨r.A1, r.n1, r.c1⟩ r.w2 r.h2 ⟨r.A2, r.n2, r.c2⟩) Q) :
    Evp (fun kk => ob ((M.ld a1).bind (Value.int? .i64)) fun v1 => ob ((M.ld (plus a1 1)).bind (Value.int? .i64)) fun v2 => ob ((M.ld (plus a1 2)).bind Value.slc?) fun v3 => ob ((M.ld (plus a1 3)).bind (Value.int? .i64)) fun v4 => ob ((M.ld (plus a1 4)).bind (Value.int? .i64)) fun v5 => ob ((M.ld (plus a1 5)).bind Value.slc?) fun v6 =>
      ob ((M.ld (plus a1 6)).bind (Value.int? .i64)) fun v7 => ob ((M.ld (plus a1 7)).bind (Value.int? .i64)) fun v8 => ob ((M.ld (plus a1 8)).bind Value.slc?) fun v9 => f kk v1 v2 v3 v4 v5 v6 v7 v8 v9) Q := by
  refine Evp.of_eq (fun kk => ?_) hf
  have h0 := h 0 (by decide)
  rw [plus_zero] at h0
  rw [h0, h 1 (by decide), h 2 (by decide), h 3 (by decide), h 4 (by decide), h 5 (by decide), h 6 (by decide), h 7 (by decide), h 8 (by decide)]
  simp only [RawS.cells, ret_int, ret_bool, ret_flt, ret_slc, ret_str, ret_ptr, ret_agg, ret_tup, ob_some, bb_true, bb_false, List.getElem?_cons_zero, List.getElem?_cons_succ, List.length_cons, List.length_nil, Nat.reduceAdd, Nat.reduceLT]
end
section
variable (lo : Nat) (S : Nat → Prop) (b : Nat) (sl : Nat → Option SlotV) (M : Mem)
theorem rnew_ok : Ac P T lo F.zoetroperef26_New [] M fun r => ∃ M', r = (.pointer (some ⟨M.length, 0, none⟩), M') ∧ Pre M M' ∧ M'.length = M.length + 1 ∧ RefIs S M' M.length (fun _ => none) := by
  refine Ac.of (Evp.of_eq (fun k => zoetroperef26_New.entry k ..) ?_)
  refine Evp.ret (Run.ret ⟨_, rfl, Pre.app _ _, by simp, fun _ => RawS.zero, ⟨_, push_self _ _, rfl, fun n hn => ?_⟩, fun n _ => rfl⟩)
  refine ⟨?_, fun j hj => ?_, ?_⟩
  · match n, hn with
    | 0, _ | 1, _ | 2, _ | 3, _ | 4, _ | 5, _ | 6, _ | 7, _ => rfl
  · match n, hn, j, hj with
    | 0, _, 0, _ | 0, _, 1, _ | 0, _, 2, _ | 0, _, 3, _ | 0, _, 4, _ | 0, _, 5, _ | 0, _, 6, _ | 0, _, 7, _ | 0, _, 8, _ | 1, _, 0, _ | 1, _, 1, _ | 1, _, 2, _ | 1, _, 3, _ | 1, _, 4, _ | 1, _, 5, _ | 1, _, 6, _ | 1, _, 7, _ | 1, _, 8, _ | 2, _, 0, _ | 2, _, 1, _ | 2, _, 2, _ | 2, _, 3, _ | 2, _, 4, _ | 2, _, 5, _ | 2, _, 6, _ | 2, _, 7, _ | 2, _, 8, _ | 3, _, 0, _ | 3, _, 1, _ | 3, _, 2, _ | 3, _, 3, _ | 3, _, 4, _ | 3, _, 5, _ | 3, _, 6, _ | 3, _, 7, _ | 3, _, 8, _ | 4, _, 0, _ | 4, _, 1, _ | 4, _, 2, _ | 4, _, 3, _ | 4, _, 4, _ | 4, _, 5, _ | 4, _, 6, _ | 4, _, 7, _ | 4, _, 8, _ | 5, _, 0, _ | 5, _, 1, _ | 5, _, 2, _ | 5, _, 3, _ | 5, _, 4, _ | 5, _, 5, _ | 5, _, 6, _ | 5, _, 7, _ | 5, _, 8, _ | 6, _, 0, _ | 6, _, 1, _ | 6, _, 2, _ | 6, _, 3, _ | 6, _, 4, _ | 6, _, 5, _ | 6, _, 6, _ | 6, _, 7, _ | 6, _, 8, _ | 7, _, 0, _ | 7, _, 1, _ | 7, _, 2, _ | 7, _, 3, _ | 7, _, 4, _ | 7, _, 5, _ | 7, _, 6, _ | 7, _, 7, _ | 7, _, 8, _ => rfl
  · match n, hn with
    | 0, _ | 1, _ | 2, _ | 3, _ | 4, _ | 5, _ | 6, _ | 7, _ => rfl
theorem rslot_bad (n : Int) (hn : n < 0 ∨ 8 ≤ n) : Ac P T lo F.zoetroperef26_Pool_slot [.pointer (some ⟨b, 0, none⟩), .int .i64 n] M fun r => r = (.int .i64 2, M) := by
  refine Ac.of (Evp.of_eq (fun k => zoetroperef26_Pool_slot.entry k ..) ?_)
  exact Evp.dec (fun _ => Evp.ret (Run.ret rfl)) fun _ => Evp.dec (fun _ => Evp.ret (Run.ret rfl)) fun _ => absurd hn (by omega)
theorem rslot_ok (h : RefIs S M b sl) (n : Nat) (hn : n < 8) : Ac P T lo F.zoetroperef26_Pool_slot [.pointer (some ⟨b, 0, none⟩), .int .i64 n] M fun r => r = (.int .i64 (if (sl n).isSome = true then 0 else 6), M) := by
  obtain ⟨R, hR, h2⟩ := h
  have ht := (h2 n hn).t
  refine Ac.of (Evp.of_eq (fun k => zoetroperef26_Pool_slot.entry k ..) ?_)
  refine Evp.dec (fun h => absurd h (by omega)) fun _ => Evp.dec (fun h => absurd h (by omega)) fun _ => ?_
  refine Evp.pos (by omega) ?_
  simp only [Int.toNat_natCast]
  refine Evp.some (hR.is hn) ?_
  rw [ht]
  refine Evp.nb (fun h => Evp.ret (Run.ret (by rw [h]; rfl))) fun h => Evp.ret (Run.ret (by rw [h]; rfl))
theorem rframe_bad (n : Int) (hn : n < 0 ∨ 8 ≤ n) : Ac P T lo F.zoetroperef26_Pool_Frame [.pointer (some ⟨b, 0, none⟩), .int .i64 n] M fun r => r = (.tuple ⟨[.agg ⟨[.int .i64 0, .int .i64 0, .slice none 0 0, .int .i64 0, .int .i64 0, .slice none 0 0, .int .i64 0, .int .i64 0, .slice none 0 0]⟩, .int .i64 2]⟩, M) := by
  refine Ac.of (Evp.of_eq (fun k => zoetroperef26_Pool_Frame.entry k ..) ?_)
  refine Evp.ob (rslot_bad lo b M n hn) ?_
  rintro _ rfl
  simp only [ret_int, ret_bool, ret_flt, ret_slc, ret_str, ret_ptr, ret_agg, ret_tup, ob_some, bb_true, bb_false, List.getElem?_cons_zero, List.getElem?_cons_succ, List.length_cons, List.length_nil, Nat.reduceAdd, Nat.reduceLT]
  exact Evp.tt rfl (Evp.ret (Run.ret rfl))
theorem rframe_none (h : RefIs S M b sl) (n : Nat) (hn : n < 8) (hs : sl n = none) : Ac P T lo F.zoetroperef26_Pool_Frame [.pointer (some ⟨b, 0, none⟩), .int .i64 n] M fun r => r = (.tuple ⟨[.agg ⟨[.int .i64 0, .int .i64 0, .slice none 0 0, .int .i64 0, .int .i64 0, .slice none 0 0, .int .i64 0, .int .i64 0, .slice none 0 0]⟩, .int .i64 6]⟩, M) := by
  refine Ac.of (Evp.of_eq (fun k => zoetroperef26_Pool_Frame.entry k ..) ?_)
  refine Evp.ob (rslot_ok lo S b sl M h n hn) ?_
  rintro _ rfl
  rw [hs]
  simp only [ret_int, ret_bool, ret_flt, ret_slc, ret_str, ret_ptr, ret_agg, ret_tup, ob_some, bb_true, bb_false, List.getElem?_cons_zero, List.getElem?_cons_succ, List.length_cons, List.length_nil, Nat.reduceAdd, Nat.reduceLT]
  exact Evp.tt rfl (Evp.ret (Run.ret rfl))
theorem rframe_some (h : RefIs S M b sl) (n : Nat) (hn : n < 8) (f : FrV) (rows : List (List Tb)) (hs : sl n = some (f, rows)) (hlo : lo ≤ M.length) :
    Ac P T lo F.zoetroperef26_Pool_Frame [.pointer (some ⟨b, 0, none⟩), .int .i64 n] M fun r => ∃ B0 B1 B2 d0 d1 d2 M', r = (.tuple ⟨[.agg ⟨frc f B0 B1 B2 d0 d1 d2⟩, .int .i64 0]⟩, M') ∧ Pre M M' ∧ FrIs (fun b => M.length ≤ b) M' B0 B1 B2 f := by
  have h' := h
  obtain ⟨R, hR, h2⟩ := h
  have hr := h2 n hn
  rw [hs] at hr
  have hr : SlotS S M (R n) f rows := hr
  refine Ac.of (Evp.of_eq (fun k => zoetroperef26_Pool_Frame.entry k ..) ?_)
  refine Evp.ob (rslot_ok lo S b sl M h' n hn) ?_
  rintro _ rfl
  rw [hs]
  simp only [ret_int, ret_bool, ret_flt, ret_slc, ret_str, ret_ptr, ret_agg, ret_tup, ob_some, bb_true, bb_false, List.getElem?_cons_zero, List.getElem?_cons_succ, List.length_cons, List.length_nil, Nat.reduceAdd, Nat.reduceLT]
  refine Evp.ff rfl (Evp.pos (by omega) ?_)
  simp only [Int.toNat_natCast]
  refine evp_ld9 (r := R n) (fun j hj => hR.fr hn hj) ?_
  rw [hr.w0, hr.h0, hr.n0, hr.w1, hr.h1, hr.n1, hr.w2, hr.h2, hr.n2]
  refine Evp.ob (rfcopy_ok lo S _ _ _ _ _ _ f M hr.fr hr.fw.small hlo) ?_
  rintro _ ⟨B0, B1, B2, d0, d1, d2, M', rfl, k⟩
  simp only [ret_int, ret_bool, ret_flt, ret_slc, ret_str, ret_ptr, ret_agg, ret_tup, ob_some, bb_true, bb_false, List.getElem?_cons_zero, List.getElem?_cons_succ, List.length_cons, List.length_nil, Nat.reduceAdd, Nat.reduceLT]
  exact Evp.ret (Run.ret ⟨B0, B1, B2, d0, d1, d2, M', rfl, k⟩)
theorem rset_bad (n : Int) (hn : n < 0 ∨ 8 ≤ n) : Ac P T lo F.zoetroperef26_Pool_Set [.pointer (some ⟨b, 0, none⟩), .int .i64 n] M fun r => r = (.tuple ⟨[.agg ⟨[.slice none 0 0]⟩, .int .i64 2]⟩, M) := by
  refine Ac.of (Evp.of_eq (fun k => zoetroperef26_Pool_Set.entry k ..) ?_)
  refine Evp.ob (rslot_bad lo b M n hn) ?_
  rintro _ rfl
  simp only [ret_int, ret_bool, ret_flt, ret_slc, ret_str, ret_ptr, ret_agg, ret_tup, ob_some, bb_true, bb_false, List.getElem?_cons_zero, List.getElem?_cons_succ, List.length_cons, List.length_nil, Nat.reduceAdd, Nat.reduceLT]
  exact Evp.tt rfl (Evp.ret (Run.ret rfl))
theorem rset_none (h : RefIs S M b sl) (n : Nat) (hn : n < 8) (hs : sl n = none) : Ac P T lo F.zoetroperef26_Pool_Set [.pointer (some ⟨b, 0, none⟩), .int .i64 n] M fun r => r = (.tuple ⟨[.agg ⟨[.slice none 0 0]⟩, .int .i64 6]⟩, M) := by
  refine Ac.of (Evp.of_eq (fun k => zoetroperef26_Pool_Set.entry k ..) ?_)
  refine Evp.ob (rslot_ok lo S b sl M h n hn) ?_
  rintro _ rfl
  rw [hs]
  simp only [ret_int, ret_bool, ret_flt, ret_slc, ret_str, ret_ptr, ret_agg, ret_tup, ob_some, bb_true, bb_false, List.getElem?_cons_zero, List.getElem?_cons_succ, List.length_cons, List.length_nil, Nat.reduceAdd, Nat.reduceLT]
  exact Evp.tt rfl (Evp.ret (Run.ret rfl))
theorem rset_some (h : RefIs S M b sl) (n : Nat) (hn : n < 8) (f : FrV) (rows : List (List Tb)) (hs : sl n = some (f, rows)) (hlo : lo ≤ M.length) :
    Ac P T lo F.zoetroperef26_Pool_Set [.pointer (some ⟨b, 0, none⟩), .int .i64 n] M fun r => ∃ A c M', r = (.tuple ⟨[.agg ⟨[.slice A rows.length c]⟩, .int .i64 0]⟩, M') ∧ Pre M M' ∧ SetIs (fun b => M.length ≤ b) M' A rows := by
  have h' := h
  obtain ⟨R, hR, h2⟩ := h
  have hr := h2 n hn
  rw [hs] at hr
  have hr : SlotS S M (R n) f rows := hr
  refine Ac.of (Evp.of_eq (fun k => zoetroperef26_Pool_Set.entry k ..) ?_)
  refine Evp.ob (rslot_ok lo S b sl M h' n hn) ?_
  rintro _ rfl
  rw [hs]
  simp only [ret_int, ret_bool, ret_flt, ret_slc, ret_str, ret_ptr, ret_agg, ret_tup, ob_some, bb_true, bb_false, List.getElem?_cons_zero, List.getElem?_cons_succ, List.length_cons, List.length_nil, Nat.reduceAdd, Nat.reduceLT]
  refine Evp.ff rfl (Evp.pos (by omega) ?_)
  simp only [Int.toNat_natCast]
  refine Evp.some (hR.st hn) ?_
  dsimp only
  rw [hr.ns]
  refine Evp.ob (rcopy_ok lo S (R n).As (R n).cs rows M hlo hr.set hr.sp) ?_
  rintro _ ⟨A, c, M', rfl, k⟩
  simp only [ret_int, ret_bool, ret_flt, ret_slc, ret_str, ret_ptr, ret_agg, ret_tup, ob_some, bb_true, bb_false, List.getElem?_cons_zero, List.getElem?_cons_succ, List.length_cons, List.length_nil, Nat.reduceAdd, Nat.reduceLT]
  exact Evp.ret (Run.ret ⟨A, c, M', rfl, k⟩)
def hasD (sl : Nat → Option SlotV) : Nat → Int
  | 0 => 0
  | d + 1 => hasD sl d * 2 + if (sl (7 - d)).isSome then 1 else 0
theorem hasD_b (sl : Nat → Option SlotV) : ∀ d, 0 ≤ hasD sl d ∧ hasD sl d < 2 ^ d
  | 0 => ⟨Int.le_refl _, by show (0 : Int) < 2 ^ 0; decide⟩
  | d + 1 => by
    have := hasD_b sl d
    rw [hasD, Int.pow_succ]
    split <;> omega
theorem hasD_eq (sl : Nat → Option SlotV) : hasD sl 8 = hasN sl 8 := by
  simp only [hasD, hasN]
  cases (sl 0).isSome <;> cases (sl 1).isSome <;> cases (sl 2).isSome <;> cases (sl 3).isSome <;> cases (sl 4).isSome <;> cases (sl 5).isSome <;> cases (sl 6).isSome <;> cases (sl 7).isSome <;> rfl
theorem rhas_ok (h : RefIs S M b sl) : Ac P T lo F.zoetroperef26_Pool_Has [.pointer (some ⟨b, 0, none⟩)] M fun r => r = (.int .i64 (hasN sl 8), M) := by
  obtain ⟨R, hR, h2⟩ := h
  have loop : ∀ (d k : Nat), 8 - k = d → k ≤ 8 → Run P T lo F.zoetroperef26_Pool_Has (zoetroperef26_Pool_Has.c116 ⟨b, 0, none⟩ (hasD sl k) (7 - (k : Int)) M) fun r => r = (.int .i64 (hasN sl 8), M) := by
    intro d
    induction d with
    | zero =>
      intro k hd hk
      obtain rfl : k = 8 := by omega
      refine Run.cut (Evp.of_eq (fun k => zoetroperef26_Pool_Has.p116 k ..) ?_)
      exact Evp.dec (fun h => absurd h (by omega)) fun _ => Evp.ret (Run.ret (by rw [hasD_eq]))
    | succ d ih =>
      intro k hd hk
      have hb := hasD_b sl k
      have hp : (2 : Int) ^ k ≤ 128 := by
        have h1 : (2 : Nat) ^ k ≤ 2 ^ 7 := Nat.pow_le_pow_right (by decide) (by omega)
        have h2 : ((2 ^ k : Nat) : Int) = (2 : Int) ^ k := by simp
        omega
      refine Run.cut (Evp.of_eq (fun k => zoetroperef26_Pool_Has.p116 k ..) ?_)
      refine Evp.dec (fun _ => ?_) fun h => absurd h (by omega)
      refine Evp.pos (by omega) ?_
      rw [show (7 - (k : Int)).toNat = 7 - k by omega]
      refine Evp.some (hR.is (n := 7 - k) (by omega)) ?_
      rw [(h2 (7 - k) (by omega)).t]
      have e : hasD sl (k + 1) = hasD sl k * 2 + if (sl (7 - k)).isSome then 1 else 0 := rfl
      have nx := ih (k + 1) (by omega) (by omega)
      rw [show 7 - ((k + 1 : Nat) : Int) = 7 - (k : Int) - 1 by omega] at nx
      refine Evp.bb (fun ht => Evp.ret ?_) fun ht => Evp.ret ?_
      · rw [w64 (x := hasD sl k * 2) (by omega), w64 (x := hasD sl k * 2 + 1) (by omega)]
        refine Run.cut (Evp.of_eq (fun k => zoetroperef26_Pool_Has.p467 k ..) ?_)
        rw [w64 (x := 7 - (k : Int) - 1) (by omega)]
        rw [e, ht] at nx
        exact Evp.ret nx
      · rw [w64 (x := hasD sl k * 2) (by omega)]
        refine Run.cut (Evp.of_eq (fun k => zoetroperef26_Pool_Has.p467 k ..) ?_)
        rw [w64 (x := 7 - (k : Int) - 1) (by omega)]
        rw [e, ht] at nx
        simp only [Bool.false_eq_true, if_false, Int.add_zero] at nx
        exact Evp.ret nx
  refine Ac.of (Evp.of_eq (fun k => zoetroperef26_Pool_Has.entry k ..) ?_)
  exact Evp.ret (loop _ 0 rfl (by omega))
end
end Go.Zt
