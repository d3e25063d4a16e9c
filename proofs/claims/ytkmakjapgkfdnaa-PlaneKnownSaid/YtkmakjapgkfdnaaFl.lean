/- Frames: what the document says. -/
import Derived.Test.YtkmakjapgkfdnaaFk
set_option linter.unusedVariables false
set_option linter.unusedSimpArgs false
set_option maxRecDepth 100000
namespace Go.Zt
theorem rside_ok (lo : Nat) (n : Int) (M : Mem) : Ac P T lo F.zoetroperef05_side [.int .i64 n] M fun r => r = (.bool (decide (sideP n)), M) := by
  have ht : Int.tmod n 2 = 0 ↔ n % 2 = 0 := by rw [← Int.dvd_iff_tmod_eq_zero, Int.dvd_iff_emod_eq_zero]
  refine Ac.of (Evp.of_eq (fun k => zoetroperef05_side.entry k ..) ?_)
  refine Evp.eqb (fun h1 => ?_) fun h1 => Evp.ret (Run.ret (by rw [decide_eq_false (fun e => h1 (ht.2 e.1))]))
  have h1 := ht.1 h1
  refine Evp.dec (fun h3 => ?_) fun h3 => Evp.ret (Run.ret (by rw [decide_eq_false (fun e => by unfold sideP at e; omega)]))
  refine Evp.ret (Run.ret ?_)
  congr 2
  exact decide_eq_decide.2 (by unfold sideP; omega)
section
variable (lo : Nat) (w0 h0 w1 h1 w2 h2 : Int) (A0 A1 A2 : Option Addr) (n0 c0 n1 c1 n2 c2 : Nat) (M : Mem)
theorem rwhole_ok : Ac P T lo F.zoetroperef05_Whole [.agg ⟨[.int .i64 w0, .int .i64 h0, .slice A0 n0 c0, .int .i64 w1, .int .i64 h1, .slice A1 n1 c1, .int .i64 w2, .int .i64 h2, .slice A2 n2 c2]⟩] M fun r => r = (.int .i64 (wholeS w0 h0 n0 w1 h1 n1 w2 h2 n2), M) := by
  have bad : ¬ WholeP w0 h0 n0 w1 h1 n1 w2 h2 n2 → Run P T lo F.zoetroperef05_Whole (.ret (.int .i64 2) M) fun r => r = (.int .i64 (wholeS w0 h0 n0 w1 h1 n1 w2 h2 n2), M) := fun h => Run.ret (by unfold wholeS; rw [if_neg h])
  refine Ac.of (Evp.of_eq (fun k => zoetroperef05_Whole.entry k ..) ?_)
  refine Evp.ob (rcheck_ok ..) ?_
  rintro _ rfl
  simp only [ret_int, ret_bool, ret_flt, ret_slc, ret_str, ret_ptr, ret_agg, ret_tup, ob_some, bb_true, bb_false, List.getElem?_cons_zero, List.getElem?_cons_succ, List.length_cons, List.length_nil, Nat.reduceAdd, Nat.reduceLT]
  refine Evp.neb (fun h => Evp.ret (bad fun e => h e.1)) fun k0 => ?_
  refine Evp.ob (rside_ok ..) ?_
  rintro _ rfl
  simp only [ret_int, ret_bool, ret_flt, ret_slc, ret_str, ret_ptr, ret_agg, ret_tup, ob_some, bb_true, bb_false, List.getElem?_cons_zero, List.getElem?_cons_succ, List.length_cons, List.length_nil, Nat.reduceAdd, Nat.reduceLT]
  refine Evp.nb (fun h => Evp.ret (bad fun e => of_decide_eq_false h e.2.1)) fun s1 => ?_
  refine Evp.ob (rside_ok ..) ?_
  rintro _ rfl
  simp only [ret_int, ret_bool, ret_flt, ret_slc, ret_str, ret_ptr, ret_agg, ret_tup, ob_some, bb_true, bb_false, List.getElem?_cons_zero, List.getElem?_cons_succ, List.length_cons, List.length_nil, Nat.reduceAdd, Nat.reduceLT]
  refine Evp.nb (fun h => Evp.ret (bad fun e => of_decide_eq_false h e.2.2.1)) fun s2 => ?_
  have s1 := of_decide_eq_true s1
  have s2 := of_decide_eq_true s2
  have s1' := s1
  have s2' := s2
  unfold sideP at s1' s2'
  have d1 : IntKind.i64.wrap (Int.tdiv w0 2) = w0 / 2 := by rw [Int.tdiv_eq_ediv_of_nonneg (by omega)]; exact w64 (by omega)
  have d2 : IntKind.i64.wrap (Int.tdiv h0 2) = h0 / 2 := by rw [Int.tdiv_eq_ediv_of_nonneg (by omega)]; exact w64 (by omega)
  refine Evp.ret ?_
  refine Run.cut (Evp.of_eq (fun k => zoetroperef05_Whole.p116 k ..) ?_)
  refine Evp.tt rfl (Evp.pos (by decide) (Evp.some rfl (Evp.some rfl (Evp.some rfl ?_))))
  refine Evp.ob (rcheck_ok ..) ?_
  rintro _ rfl
  simp only [ret_int, ret_bool, ret_flt, ret_slc, ret_str, ret_ptr, ret_agg, ret_tup, ob_some, bb_true, bb_false, List.getElem?_cons_zero, List.getElem?_cons_succ, List.length_cons, List.length_nil, Nat.reduceAdd, Nat.reduceLT]
  refine Evp.neb (fun h => Evp.ret (bad fun e => h e.2.2.2.1)) fun k1 => ?_
  refine Evp.pos (by decide) (Evp.some rfl ?_)
  rw [d1, d2]
  refine Evp.neb (fun h => Evp.ret (bad fun e => h e.2.2.2.2.1)) fun e1 => ?_
  refine Evp.pos (by decide) (Evp.some rfl ?_)
  refine Evp.neb (fun h => Evp.ret (bad fun e => h e.2.2.2.2.2.1)) fun e2 => ?_
  rw [show IntKind.i64.wrap (1 + 1) = 2 from by decide]
  refine Evp.ret ?_
  refine Run.cut (Evp.of_eq (fun k => zoetroperef05_Whole.p116 k ..) ?_)
  refine Evp.tt rfl (Evp.pos (by decide) (Evp.some rfl (Evp.some rfl (Evp.some rfl ?_))))
  refine Evp.ob (rcheck_ok ..) ?_
  rintro _ rfl
  simp only [ret_int, ret_bool, ret_flt, ret_slc, ret_str, ret_ptr, ret_agg, ret_tup, ob_some, bb_true, bb_false, List.getElem?_cons_zero, List.getElem?_cons_succ, List.length_cons, List.length_nil, Nat.reduceAdd, Nat.reduceLT]
  refine Evp.neb (fun h => Evp.ret (bad fun e => h e.2.2.2.2.2.2.1)) fun k2 => ?_
  refine Evp.pos (by decide) (Evp.some rfl ?_)
  rw [d1, d2]
  refine Evp.neb (fun h => Evp.ret (bad fun e => h e.2.2.2.2.2.2.2.1)) fun e3 => ?_
  refine Evp.pos (by decide) (Evp.some rfl ?_)
  refine Evp.neb (fun h => Evp.ret (bad fun e => h e.2.2.2.2.2.2.2.2)) fun e4 => ?_
  rw [show IntKind.i64.wrap (2 + 1) = 3 from by decide]
  refine Evp.ret ?_
  refine Run.cut (Evp.of_eq (fun k => zoetroperef05_Whole.p116 k ..) ?_)
  refine Evp.ff rfl (Evp.ret (Run.ret ?_))
  unfold wholeS
  rw [if_pos ⟨k0, s1, s2, k1, e1, e2, k2, e3, e4⟩]
end
/-- Three planes and an error. -/
structure F3 where
  (p0 q0 p1 q1 p2 q2 : Int) (l0 l1 l2 : List Int) (e : Int)
def noF : F3 := ⟨0, 0, 0, 0, 0, 0, [], [], [], 2⟩
def F3v (f : F3) (A0 A1 A2 : Option Addr) (c0 c1 c2 : Nat) : Value := .agg ⟨[.int .i64 f.p0, .int .i64 f.q0, .slice A0 f.l0.length c0, .int .i64 f.p1, .int .i64 f.q1, .slice A1 f.l1.length c1, .int .i64 f.p2, .int .i64 f.q2, .slice A2 f.l2.length c2]⟩
def Sep (A A' : Option Addr) (l : List Int) : Prop := l = [] ∨ ∀ a a', A = some a → A' = some a' → a.block ≠ a'.block
def F3o (f : F3) (M M' : Mem) (A0 A1 A2 : Option Addr) : Prop := OwnM M M' A0 f.l0 ∧ OwnM M M' A1 f.l1 ∧ OwnM M M' A2 f.l2 ∧ Sep A0 A1 f.l0 ∧ Sep A0 A2 f.l0 ∧ Sep A1 A2 f.l1 ∧ f.l0.length ≤ 262144 ∧ f.l1.length ≤ 262144 ∧ f.l2.length ≤ 262144
def FrameOut (f : F3) (M : Mem) (r : Value × Mem) : Prop := ∃ A0 A1 A2 c0 c1 c2 M', r = (.tuple ⟨[F3v f A0 A1 A2 c0 c1 c2, .int .i64 f.e]⟩, M') ∧ Pre M M' ∧ F3o f M M' A0 A1 A2
theorem noF_out {M : Mem} : FrameOut noF M (.tuple ⟨[.agg ⟨[.int .i64 0, .int .i64 0, .slice none 0 0, .int .i64 0, .int .i64 0, .slice none 0 0, .int .i64 0, .int .i64 0, .slice none 0 0]⟩, .int .i64 2]⟩, M) :=
  ⟨none, none, none, 0, 0, 0, M, rfl, Pre.refl M, .inl rfl, .inl rfl, .inl rfl, .inl rfl, .inl rfl, .inl rfl, by decide, by decide, by decide⟩
theorem F3o.of {f : F3} {M M' : Mem} {a0 a1 a2 : Addr} (b0 : Buf M M' a0 (f.l0.map (Value.int .u8))) (b1 : Buf M M' a1 (f.l1.map (Value.int .u8))) (b2 : Buf M M' a2 (f.l2.map (Value.int .u8))) (n01 : a0.block ≠ a1.block) (n02 : a0.block ≠ a2.block) (n12 : a1.block ≠ a2.block) (h0 : f.l0.length ≤ 262144) (h1 : f.l1.length ≤ 262144) (h2 : f.l2.length ≤ 262144) : F3o f M M' (some a0) (some a1) (some a2) :=
  ⟨.inr ⟨a0, rfl, b0⟩, .inr ⟨a1, rfl, b1⟩, .inr ⟨a2, rfl, b2⟩, .inr fun a a' h h' => by cases h; cases h'; exact n01, .inr fun a a' h h' => by cases h; cases h'; exact n02, .inr fun a a' h h' => by cases h; cases h'; exact n12, h0, h1, h2⟩
def frameF (w h : Nat) (v : Int) : F3 := ⟨w, h, (w / 2 : Nat), (h / 2 : Nat), (w / 2 : Nat), (h / 2 : Nat), List.replicate (w * h) v, List.replicate ((w / 2) * (h / 2)) v, List.replicate ((w / 2) * (h / 2)) v, 0⟩
def frameS (w h v : Int) : F3 := if sideP w ∧ sideP h then frameF w.toNat h.toNat v else noF
theorem rnew_nat (lo : Nat) (w h : Nat) (v : Int) (M : Mem) (hlo : lo ≤ M.length) (hw : 1 ≤ w ∧ w ≤ 512) (hh : 1 ≤ h ∧ h ≤ 512) :
    Ac P T lo F.zoetroperef05_New [.int .i64 w, .int .i64 h, .int .u8 v] M fun r => ∃ a M', r = (.tuple ⟨[.agg ⟨[.int .i64 w, .int .i64 h, .slice (some a) (w * h) (w * h)]⟩, .int .i64 0]⟩, M') ∧ Pre M M' ∧ Buf M M' a ((List.replicate (w * h) v).map (Value.int .u8)) := by
  refine Ac.mono (rnew_ok lo w h v M hlo) ?_
  rintro ⟨r, M'⟩ ⟨hp, h2⟩
  rw [if_pos (by omega), ← Int.natCast_mul] at h2
  simp only [Int.toNat_natCast] at h2
  obtain ⟨a, rfl, hb⟩ := h2
  exact ⟨a, M', rfl, hp, hb⟩
theorem small {w h : Nat} (hw : w ≤ 512) (hh : h ≤ 512) : w * h ≤ 262144 := Nat.mul_le_mul hw hh
section
variable (lo : Nat) (w h v : Int) (M : Mem)
theorem pframe_ok (hlo : lo ≤ M.length) : Ac P T lo F.plane_Frame [.int .i64 w, .int .i64 h, .int .u8 v] M (FrameOut (frameS w h v) M) := by
  by_cases hs : sideP w ∧ sideP h
  · have hs' := hs
    unfold sideP at hs'
    obtain ⟨w, rfl⟩ := Int.eq_ofNat_of_zero_le (a := w) (by omega)
    obtain ⟨h, rfl⟩ := Int.eq_ofNat_of_zero_le (a := h) (by omega)
    have e : frameS w h v = frameF w h v := by unfold frameS; rw [if_pos hs]; rfl
    rw [e]
    refine Ac.mono (frame_ok lo w h v M hlo hs) ?_
    rintro _ ⟨a0, a1, a2, M', rfl, hp, b0, b1, b2, n01, n02, n12⟩
    refine ⟨some a0, some a1, some a2, w * h, (w / 2) * (h / 2), (w / 2) * (h / 2), M', ?_, hp, F3o.of (f := frameF w h v) b0 b1 b2 n01 n02 n12 ?_ ?_ ?_⟩
    · simp [F3v, frameF]
    · rw [show (frameF w h v).l0.length = w * h from List.length_replicate]; exact small (by omega) (by omega)
    · rw [show (frameF w h v).l1.length = (w / 2) * (h / 2) from List.length_replicate]; exact small (by omega) (by omega)
    · rw [show (frameF w h v).l2.length = (w / 2) * (h / 2) from List.length_replicate]; exact small (by omega) (by omega)
  · have e : frameS w h v = noF := by unfold frameS; rw [if_neg hs]
    rw [e]
    refine Ac.of (Evp.of_eq (fun k => plane_Frame.entry k ..) ?_)
    refine Evp.ob (sides_ok ..) ?_
    rintro _ rfl
    simp only [ret_int, ret_bool, ret_flt, ret_slc, ret_str, ret_ptr, ret_agg, ret_tup, ob_some, bb_true, bb_false, List.getElem?_cons_zero, List.getElem?_cons_succ, List.length_cons, List.length_nil, Nat.reduceAdd, Nat.reduceLT]
    refine Evp.tt (by rw [decide_eq_false hs]; rfl) ?_
    exact Evp.ret (Run.ret noF_out)
theorem rframe_ok (hlo : lo ≤ M.length) : Ac P T lo F.zoetroperef05_Frame [.int .i64 w, .int .i64 h, .int .u8 v] M (FrameOut (frameS w h v) M) := by
  by_cases hs : sideP w ∧ sideP h
  · have hs' := hs
    unfold sideP at hs'
    obtain ⟨w, rfl⟩ := Int.eq_ofNat_of_zero_le (a := w) (by omega)
    obtain ⟨h, rfl⟩ := Int.eq_ofNat_of_zero_le (a := h) (by omega)
    have e : frameS w h v = frameF w h v := by unfold frameS; rw [if_pos hs]; rfl
    rw [e]
    have t1 : Int.tdiv ((w : Nat) : Int) 2 = ((w / 2 : Nat) : Int) := rfl
    have t2 : Int.tdiv ((h : Nat) : Int) 2 = ((h / 2 : Nat) : Int) := rfl
    refine Ac.of (Evp.of_eq (fun k => zoetroperef05_Frame.entry k ..) ?_)
    refine Evp.ob (rside_ok ..) ?_
    rintro _ rfl
    simp only [ret_int, ret_bool, ret_flt, ret_slc, ret_str, ret_ptr, ret_agg, ret_tup, ob_some, bb_true, bb_false, List.getElem?_cons_zero, List.getElem?_cons_succ, List.length_cons, List.length_nil, Nat.reduceAdd, Nat.reduceLT]
    refine Evp.ff (by rw [decide_eq_true hs.1]; rfl) ?_
    refine Evp.ob (rside_ok ..) ?_
    rintro _ rfl
    simp only [ret_int, ret_bool, ret_flt, ret_slc, ret_str, ret_ptr, ret_agg, ret_tup, ob_some, bb_true, bb_false, List.getElem?_cons_zero, List.getElem?_cons_succ, List.length_cons, List.length_nil, Nat.reduceAdd, Nat.reduceLT]
    refine Evp.ff (by rw [decide_eq_true hs.2]; rfl) ?_
    rw [t1, t2, w64 (x := ((w / 2 : Nat) : Int)) (by omega), w64 (x := ((h / 2 : Nat) : Int)) (by omega)]
    refine Evp.ob (rnew_nat lo w h v M hlo (by omega) (by omega)) ?_
    rintro _ ⟨a0, M1, rfl, p1, b0⟩
    simp only [ret_int, ret_bool, ret_flt, ret_slc, ret_str, ret_ptr, ret_agg, ret_tup, ob_some, bb_true, bb_false, List.getElem?_cons_zero, List.getElem?_cons_succ, List.length_cons, List.length_nil, Nat.reduceAdd, Nat.reduceLT]
    have l1 := p1.len
    refine Evp.ob (rnew_nat lo (w / 2) (h / 2) v M1 (by omega) (by omega) (by omega)) ?_
    rintro _ ⟨a1, M2, rfl, p2, b1⟩
    simp only [ret_int, ret_bool, ret_flt, ret_slc, ret_str, ret_ptr, ret_agg, ret_tup, ob_some, bb_true, bb_false, List.getElem?_cons_zero, List.getElem?_cons_succ, List.length_cons, List.length_nil, Nat.reduceAdd, Nat.reduceLT]
    have l2 := p2.len
    refine Evp.ob (rnew_nat lo (w / 2) (h / 2) v M2 (by omega) (by omega) (by omega)) ?_
    rintro _ ⟨a2, M3, rfl, p3, b2⟩
    simp only [ret_int, ret_bool, ret_flt, ret_slc, ret_str, ret_ptr, ret_agg, ret_tup, ob_some, bb_true, bb_false, List.getElem?_cons_zero, List.getElem?_cons_succ, List.length_cons, List.length_nil, Nat.reduceAdd, Nat.reduceLT]
    have i0 := b0.in_
    have i1 := b1.in_
    have n1 := b1.new
    have n2 := b2.new
    refine Evp.ret (Run.ret ⟨some a0, some a1, some a2, w * h, (w / 2) * (h / 2), (w / 2) * (h / 2), M3, ?_, (p1.trans p2).trans p3, F3o.of (f := frameF w h v) (b0.pre (p2.trans p3)) ((b1.floor l1).pre p3) (b2.floor (by omega)) (by omega) (by omega) (by omega) ?_ ?_ ?_⟩)
    · simp [F3v, frameF]
    · rw [show (frameF w h v).l0.length = w * h from List.length_replicate]; exact small (by omega) (by omega)
    · rw [show (frameF w h v).l1.length = (w / 2) * (h / 2) from List.length_replicate]; exact small (by omega) (by omega)
    · rw [show (frameF w h v).l2.length = (w / 2) * (h / 2) from List.length_replicate]; exact small (by omega) (by omega)
  · have e : frameS w h v = noF := by unfold frameS; rw [if_neg hs]
    rw [e]
    refine Ac.of (Evp.of_eq (fun k => zoetroperef05_Frame.entry k ..) ?_)
    refine Evp.ob (rside_ok ..) ?_
    rintro _ rfl
    simp only [ret_int, ret_bool, ret_flt, ret_slc, ret_str, ret_ptr, ret_agg, ret_tup, ob_some, bb_true, bb_false, List.getElem?_cons_zero, List.getElem?_cons_succ, List.length_cons, List.length_nil, Nat.reduceAdd, Nat.reduceLT]
    refine Evp.nb (fun h1 => Evp.ret (Run.ret noF_out)) fun h1 => ?_
    refine Evp.ob (rside_ok ..) ?_
    rintro _ rfl
    simp only [ret_int, ret_bool, ret_flt, ret_slc, ret_str, ret_ptr, ret_agg, ret_tup, ob_some, bb_true, bb_false, List.getElem?_cons_zero, List.getElem?_cons_succ, List.length_cons, List.length_nil, Nat.reduceAdd, Nat.reduceLT]
    refine Evp.nb (fun h2 => Evp.ret (Run.ret noF_out)) fun h2 => ?_
    exact absurd ⟨of_decide_eq_true h1, of_decide_eq_true h2⟩ hs
end
/-! ### Coded and Crop -/
def resF (w h W H : Nat) (xs ys zs : List Int) : F3 := ⟨W, H, (W / 2 : Nat), (H / 2 : Nat), (W / 2 : Nat), (H / 2 : Nat), sizedS w h xs W (H * W), sizedS (w / 2 : Nat) (h / 2 : Nat) ys (W / 2) ((H / 2) * (W / 2)), sizedS (w / 2 : Nat) (h / 2 : Nat) zs (W / 2) ((H / 2) * (W / 2)), 0⟩
section
variable (lo : Nat) (w h W H : Nat) (A0 A1 A2 : Option Addr) (c0 c1 c2 : Nat) (xs ys zs : List Int) (M : Mem)
theorem rresized_ok (hlo : lo ≤ M.length) (hx : RdI M .u8 A0 xs) (hy : RdI M .u8 A1 ys) (hz : RdI M .u8 A2 zs) (k0 : checkS w h xs.length = 0) (k1 : checkS (w / 2 : Nat) (h / 2 : Nat) ys.length = 0) (k2 : checkS (w / 2 : Nat) (h / 2 : Nat) zs.length = 0) (hS : sideP W ∧ sideP H) :
    Ac P T lo F.zoetroperef05_resized [.agg ⟨[.int .i64 w, .int .i64 h, .slice A0 xs.length c0, .int .i64 (w / 2 : Nat), .int .i64 (h / 2 : Nat), .slice A1 ys.length c1, .int .i64 (w / 2 : Nat), .int .i64 (h / 2 : Nat), .slice A2 zs.length c2]⟩, .int .i64 W, .int .i64 H] M fun r =>
      ∃ a0 a1 a2 M', r = (.agg ⟨[.int .i64 W, .int .i64 H, .slice (some a0) (H * W) (H * W), .int .i64 (W / 2 : Nat), .int .i64 (H / 2 : Nat), .slice (some a1) ((H / 2) * (W / 2)) ((H / 2) * (W / 2)), .int .i64 (W / 2 : Nat), .int .i64 (H / 2 : Nat), .slice (some a2) ((H / 2) * (W / 2)) ((H / 2) * (W / 2))]⟩, M') ∧ Pre M M' ∧
        Buf M M' a0 ((sizedS w h xs W (H * W)).map (Value.int .u8)) ∧ Buf M M' a1 ((sizedS (w / 2 : Nat) (h / 2 : Nat) ys (W / 2) ((H / 2) * (W / 2))).map (Value.int .u8)) ∧ Buf M M' a2 ((sizedS (w / 2 : Nat) (h / 2 : Nat) zs (W / 2) ((H / 2) * (W / 2))).map (Value.int .u8)) ∧ a0.block ≠ a1.block ∧ a0.block ≠ a2.block ∧ a1.block ≠ a2.block := by
  unfold sideP at hS
  have t1 : Int.tdiv ((W : Nat) : Int) 2 = ((W / 2 : Nat) : Int) := rfl
  have t2 : Int.tdiv ((H : Nat) : Int) 2 = ((H / 2 : Nat) : Int) := rfl
  refine Ac.of (Evp.of_eq (fun k => zoetroperef05_resized.entry k ..) ?_)
  rw [t1, t2, w64 (x := ((W / 2 : Nat) : Int)) (by omega), w64 (x := ((H / 2 : Nat) : Int)) (by omega)]
  refine Evp.ob (rsized_ok lo w h W H A0 c0 xs M hlo hx k0 (by omega) (by omega)) ?_
  rintro _ ⟨a0, M1, rfl, p1, b0⟩
  simp only [ret_int, ret_bool, ret_flt, ret_slc, ret_str, ret_ptr, ret_agg, ret_tup, ob_some, bb_true, bb_false, List.getElem?_cons_zero, List.getElem?_cons_succ, List.length_cons, List.length_nil, Nat.reduceAdd, Nat.reduceLT]
  have l1 := p1.len
  refine Evp.ob (rsized_ok lo _ _ (W / 2) (H / 2) A1 c1 ys M1 (by omega) (hy.pre p1) k1 (by omega) (by omega)) ?_
  rintro _ ⟨a1, M2, rfl, p2, b1⟩
  simp only [ret_int, ret_bool, ret_flt, ret_slc, ret_str, ret_ptr, ret_agg, ret_tup, ob_some, bb_true, bb_false, List.getElem?_cons_zero, List.getElem?_cons_succ, List.length_cons, List.length_nil, Nat.reduceAdd, Nat.reduceLT]
  have l2 := p2.len
  refine Evp.ob (rsized_ok lo _ _ (W / 2) (H / 2) A2 c2 zs M2 (by omega) (hz.pre (p1.trans p2)) k2 (by omega) (by omega)) ?_
  rintro _ ⟨a2, M3, rfl, p3, b2⟩
  simp only [ret_int, ret_bool, ret_flt, ret_slc, ret_str, ret_ptr, ret_agg, ret_tup, ob_some, bb_true, bb_false, List.getElem?_cons_zero, List.getElem?_cons_succ, List.length_cons, List.length_nil, Nat.reduceAdd, Nat.reduceLT]
  have i0 := b0.in_
  have i1 := b1.in_
  have m1 := b1.new
  have m2 := b2.new
  exact Evp.ret (Run.ret ⟨a0, a1, a2, M3, rfl, (p1.trans p2).trans p3, b0.pre (p2.trans p3), (b1.floor l1).pre p3, b2.floor (by omega), by omega, by omega, by omega⟩)
theorem res_out {M' : Mem} {a0 a1 a2 : Addr} (hS : sideP W ∧ sideP H) (hp : Pre M M')
    (hb : Buf M M' a0 ((sizedS w h xs W (H * W)).map (Value.int .u8)) ∧ Buf M M' a1 ((sizedS (w / 2 : Nat) (h / 2 : Nat) ys (W / 2) ((H / 2) * (W / 2))).map (Value.int .u8)) ∧ Buf M M' a2 ((sizedS (w / 2 : Nat) (h / 2 : Nat) zs (W / 2) ((H / 2) * (W / 2))).map (Value.int .u8)) ∧ a0.block ≠ a1.block ∧ a0.block ≠ a2.block ∧ a1.block ≠ a2.block) :
    FrameOut (resF w h W H xs ys zs) M (.tuple ⟨[.agg ⟨[.int .i64 W, .int .i64 H, .slice (some a0) (H * W) (H * W), .int .i64 (W / 2 : Nat), .int .i64 (H / 2 : Nat), .slice (some a1) ((H / 2) * (W / 2)) ((H / 2) * (W / 2)), .int .i64 (W / 2 : Nat), .int .i64 (H / 2 : Nat), .slice (some a2) ((H / 2) * (W / 2)) ((H / 2) * (W / 2))]⟩, .int .i64 0]⟩, M') := by
  unfold sideP at hS
  obtain ⟨b0, b1, b2, n01, n02, n12⟩ := hb
  refine ⟨some a0, some a1, some a2, H * W, (H / 2) * (W / 2), (H / 2) * (W / 2), M', ?_, hp, F3o.of (f := resF w h W H xs ys zs) b0 b1 b2 n01 n02 n12 ?_ ?_ ?_⟩
  · simp [F3v, resF, sizedS_len]
  · rw [show (resF w h W H xs ys zs).l0.length = H * W from sizedS_len ..]; exact small (by omega) (by omega)
  · rw [show (resF w h W H xs ys zs).l1.length = (H / 2) * (W / 2) from sizedS_len ..]; exact small (by omega) (by omega)
  · rw [show (resF w h W H xs ys zs).l2.length = (H / 2) * (W / 2) from sizedS_len ..]; exact small (by omega) (by omega)
end
end Go.Zt
