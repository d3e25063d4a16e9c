/- PlaneKnown. -/
import Derived.Test.YtkmakjapgkfdnaaFn
set_option linter.unusedVariables false
set_option linter.unusedSimpArgs false
set_option maxRecDepth 100000
namespace Go.Zt
theorem fill_ne {M : Mem} {lo i z : Nat} {c0 cs : List Value} (h : M[i]? = some ⟨.op 0, c0⟩) (hlo : lo ≤ i) (hz : z ≠ 0) (hne : cs ≠ []) : M.fill lo i z cs = some (⟨i, 0, some cs.length⟩, M.set i ⟨.op z, cs⟩) := by
  unfold Mem.fill
  simp only [h]
  rw [if_pos ⟨hlo, hz⟩]
  cases cs with
  | nil => exact absurd rfl hne
  | cons c cs => rfl
theorem op_rd {M : Mem} {b z n w : Nat} {cs : List Value} (h : M[b]? = some ⟨.op z, cs⟩) (hl : cs.length = n * w) : Rd M (some ⟨b, 0, some cs.length⟩) n w cs :=
  Buf.rd (M0 := []) ⟨.op z, rfl, Nat.zero_le _, h, .inr ⟨z, rfl, rfl⟩⟩ hl
theorem byl {l : List Int} (h : l.all (fun x => decide (0 ≤ x) && decide (x ≤ 255)) = true) : Bytes l := fun x hx => by
  have := List.all_eq_true.1 h x hx
  simpa using this
def noP : Value := .agg ⟨[.int .i64 0, .int .i64 0, .slice none 0 0]⟩
section
variable (lo : Nat) (w h : Int) (A : Option Addr) (n c : Nat) (xs : List Int) (M : Mem)
theorem cut_bad (x y rw rh : Int) (hlo : lo ≤ M.length) (hr : RdI M .u8 A xs) (hn : xs.length = n) (hc : n ≤ c) (hb : ¬ (checkS w h n = 0 ∧ WithinP w h x y rw rh)) :
    Ac P T lo F.plane_Cut [.agg ⟨[.int .i64 w, .int .i64 h, .slice A n c]⟩, .agg ⟨[.int .i64 x, .int .i64 y, .int .i64 rw, .int .i64 rh]⟩] M fun r => ∃ M', r = (.tuple ⟨[.slice none 0 0, .int .i64 2]⟩, M') ∧ Pre M M' := by
  subst hn
  refine Ac.mono (pcut_ok lo w h A c xs x y rw rh M hr hc hlo) ?_
  rintro ⟨v, M'⟩ ⟨p, h⟩
  rw [if_neg hb] at h
  exact ⟨M', by rw [← h], p⟩
theorem lay_bad (x y rw rh : Int) (B : Option Addr) (m cb : Nat) (bs : List Int) (hlo : lo ≤ M.length) (hr : RdI M .u8 A xs) (hn : xs.length = n) (hB : RdI M .u8 B bs) (hm : bs.length = m) (hcb : m ≤ cb) (hb : ¬ (checkS w h n = 0 ∧ WithinP w h x y rw rh ∧ (m : Int) = rw * rh)) :
    Ac P T lo F.plane_Lay [.agg ⟨[.int .i64 w, .int .i64 h, .slice A n c]⟩, .agg ⟨[.int .i64 x, .int .i64 y, .int .i64 rw, .int .i64 rh]⟩, .slice B m cb] M fun r => ∃ M', r = (.tuple ⟨[.agg ⟨[.int .i64 0, .int .i64 0, .slice none 0 0]⟩, .int .i64 2]⟩, M') ∧ Pre M M' := by
  subst hn; subst hm
  refine Ac.mono (play_ok lo w h A c xs x y rw rh B cb bs M hr hB hcb hlo) ?_
  rintro ⟨v, M'⟩ ⟨p, h⟩
  rw [if_neg hb] at h
  exact ⟨M', by rw [← h], p⟩
theorem pad_bad (W H : Int) (hlo : lo ≤ M.length) (hr : RdI M .u8 A xs) (hn : xs.length = n) (hc : n ≤ c) (hb : ¬ (checkS w h n = 0 ∧ w ≤ W ∧ W ≤ 512 ∧ h ≤ H ∧ H ≤ 512)) :
    Ac P T lo F.plane_Pad [.agg ⟨[.int .i64 w, .int .i64 h, .slice A n c]⟩, .int .i64 W, .int .i64 H] M fun r => ∃ M', r = (.tuple ⟨[.agg ⟨[.int .i64 0, .int .i64 0, .slice none 0 0]⟩, .int .i64 2]⟩, M') ∧ Pre M M' := by
  subst hn
  refine Ac.mono (ppad_ok lo w h W H A c xs M hlo hr hc) ?_
  rintro ⟨v, M'⟩ ⟨p, h⟩
  rw [if_neg hb] at h
  exact ⟨M', by rw [← h], p⟩
theorem apart_bad (w' h' : Int) (B : Option Addr) (m cb : Nat) (ys : List Int) (hr : RdI M .u8 A xs) (hn : xs.length = n) (bx : Bytes xs) (hB : RdI M .u8 B ys) (hm : ys.length = m) (bb : Bytes ys) (hb : ¬ (checkS w h n = 0 ∧ checkS w' h' m = 0 ∧ w = w' ∧ h = h')) :
    Ac P T lo F.plane_Apart [.agg ⟨[.int .i64 w, .int .i64 h, .slice A n c]⟩, .agg ⟨[.int .i64 w', .int .i64 h', .slice B m cb]⟩] M fun r => r = (.tuple ⟨[.int .u64 0, .int .i64 2]⟩, M) := by
  subst hn; subst hm
  refine Ac.mono (apart_ok lo w h w' h' A B c cb xs ys M hr hB bx bb) ?_
  rintro _ rfl
  rw [if_neg hb]
theorem new_bad (v : Int) (hlo : lo ≤ M.length) (hb : ¬ (1 ≤ w ∧ w ≤ 512 ∧ 1 ≤ h ∧ h ≤ 512)) :
    Ac P T lo F.plane_New [.int .i64 w, .int .i64 h, .int .u8 v] M fun r => ∃ M', r = (.tuple ⟨[.agg ⟨[.int .i64 0, .int .i64 0, .slice none 0 0]⟩, .int .i64 2]⟩, M') ∧ Pre M M' := by
  refine Ac.mono (new_ok lo w h v M hlo) ?_
  rintro ⟨v, M'⟩ ⟨p, h⟩
  rw [if_neg hb] at h
  exact ⟨M', by rw [← h], p⟩
theorem frame_bad (v : Int) (hlo : lo ≤ M.length) (hb : ¬ (sideP w ∧ sideP h)) :
    Ac P T lo F.plane_Frame [.int .i64 w, .int .i64 h, .int .u8 v] M fun r => ∃ A0 A1 A2 c0 c1 c2 M', r = (.tuple ⟨[.agg ⟨[.int .i64 0, .int .i64 0, .slice A0 0 c0, .int .i64 0, .int .i64 0, .slice A1 0 c1, .int .i64 0, .int .i64 0, .slice A2 0 c2]⟩, .int .i64 2]⟩, M') ∧ Pre M M' := by
  refine Ac.mono (pframe_ok lo w h v M hlo) ?_
  rintro ⟨v, M'⟩ ⟨A0, A1, A2, c0, c1, c2, M', h, p, _⟩
  unfold frameS at h
  rw [if_neg hb] at h
  exact ⟨A0, A1, A2, c0, c1, c2, M', h, p⟩
theorem at_names (x y : Int) (hx : RdI M .u8 A xs) (hn : xs.length = n) : Ac P T lo F.plane_At [.agg ⟨[.int .i64 w, .int .i64 h, .slice A n c]⟩, .int .i64 x, .int .i64 y] M fun r => r = (.int .u8 (atS w h xs x y), M) := by
  subst hn
  exact pat_ok lo w h A c xs x y M hx
end
section
variable (lo : Nat) (w0 h0 w1 h1 w2 h2 : Int) (A0 A1 A2 : Option Addr) (n0 c0 n1 c1 n2 c2 : Nat) (M : Mem) (W H : Int)
theorem crop_bad (hb : ¬ ((sideP W ∧ sideP H) ∧ W ≤ w0 ∧ H ≤ h0)) :
    Ac P T lo F.plane_Crop [.agg ⟨[.int .i64 w0, .int .i64 h0, .slice A0 n0 c0, .int .i64 w1, .int .i64 h1, .slice A1 n1 c1, .int .i64 w2, .int .i64 h2, .slice A2 n2 c2]⟩, .int .i64 W, .int .i64 H] M fun r => r = (.tuple ⟨[.agg ⟨[.int .i64 0, .int .i64 0, .slice none 0 0, .int .i64 0, .int .i64 0, .slice none 0 0, .int .i64 0, .int .i64 0, .slice none 0 0]⟩, .int .i64 2]⟩, M) := by
  refine Ac.of (Evp.of_eq (fun k => plane_Crop.entry k ..) ?_)
  refine Evp.ob (whole_ok ..) ?_
  rintro _ rfl
  simp only [ret_int, ret_bool, ret_flt, ret_slc, ret_str, ret_ptr, ret_agg, ret_tup, ob_some, bb_true, bb_false, List.getElem?_cons_zero, List.getElem?_cons_succ, List.length_cons, List.length_nil, Nat.reduceAdd, Nat.reduceLT]
  by_cases hw : WholeP w0 h0 n0 w1 h1 n1 w2 h2 n2
  · rw [show wholeS w0 h0 n0 w1 h1 n1 w2 h2 n2 = 0 from if_pos hw]
    refine Evp.ff rfl ?_
    refine Evp.ob (sides_ok ..) ?_
    rintro _ rfl
    simp only [ret_int, ret_bool, ret_flt, ret_slc, ret_str, ret_ptr, ret_agg, ret_tup, ob_some, bb_true, bb_false, List.getElem?_cons_zero, List.getElem?_cons_succ, List.length_cons, List.length_nil, Nat.reduceAdd, Nat.reduceLT]
    refine Evp.nb (fun h => Evp.ret (Run.ret rfl)) fun hs0 => ?_
    have hS := of_decide_eq_true hs0
    refine Evp.dec (fun h => Evp.ret (Run.ret rfl)) fun g1 => ?_
    refine Evp.dec (fun h => Evp.ret (Run.ret rfl)) fun g2 => ?_
    exact absurd ⟨hS, by omega, by omega⟩ hb
  · rw [show wholeS w0 h0 n0 w1 h1 n1 w2 h2 n2 = 2 from if_neg hw]
    refine Evp.tt rfl ?_
    exact Evp.ret (Run.ret rfl)
end
/-! ### The loops -/
def BadAt (cs : List Value) (M : Mem) (o : Nat) : Prop := ∃ (w h : Int) (A : Option Addr) (n c : Nat) (xs : List Int), (cs[o]? = some (.int .i64 w) ∧ cs[o + 1]? = some (.int .i64 h) ∧ cs[o + 2]? = some (.slice A n c)) ∧ RdI M .u8 A xs ∧ xs.length = n ∧ n ≤ c ∧ Bytes xs ∧ checkS w h n = 2
def RectAt (cs : List Value) (o : Nat) : Prop := ∃ (x y rw rh : Int), (cs[o]? = some (.int .i64 x) ∧ cs[o + 1]? = some (.int .i64 y) ∧ cs[o + 2]? = some (.int .i64 rw) ∧ cs[o + 3]? = some (.int .i64 rh)) ∧ ¬ WithinP 2 2 x y rw rh
def SizeAt (cs : List Value) (o : Nat) : Prop := ∃ (w h : Int), (cs[o]? = some (.int .i64 w) ∧ cs[o + 1]? = some (.int .i64 h)) ∧ ¬ (sideP w ∧ sideP h)
section
variable (lo : Nat) (M0 : Mem) (hlo : lo ≤ M0.length)
include hlo
theorem known_end (M : Mem) (p0 : Pre M0 M) (A : Option Addr) (n c : Nat) (x7 : Int) (hi : 7 ≤ x7) : Run P T lo F.zoetropelaw05_PlaneKnown (zoetropelaw05_PlaneKnown.c8388596 true true A n c 7 x7 M) fun r => r.1 = .bool true := by
  refine Run.cut (Evp.of_eq (fun k => zoetropelaw05_PlaneKnown.p8388596 k ..) ?_)
  refine Evp.dec (fun h => absurd h (by omega)) fun _ => ?_
  refine Evp.ob (frame_ok lo 256 256 1 M (Nat.le_trans hlo p0.len) (by decide)) ?_
  rintro _ ⟨a0, a1, a2, M2, rfl, p2, b0, b1, b2, _⟩
  simp only [ret_int, ret_bool, ret_flt, ret_slc, ret_str, ret_ptr, ret_agg, ret_tup, ob_some, bb_true, bb_false, List.getElem?_cons_zero, List.getElem?_cons_succ, List.length_cons, List.length_nil, Nat.reduceAdd, Nat.reduceLT]
  have q2 := p0.trans p2
  have r0 : RdI M2 .u8 (some a0) (List.replicate (256 * 256) 1) := b0.rdI
  have r1 : RdI M2 .u8 (some a1) (List.replicate (256 / 2 * (256 / 2)) 1) := b1.rdI
  have r2 : RdI M2 .u8 (some a2) (List.replicate (256 / 2 * (256 / 2)) 1) := b2.rdI
  have l0 : (List.replicate (256 * 256) (1 : Int)).length = 256 * 256 := List.length_replicate
  have l1 : (List.replicate (256 / 2 * (256 / 2)) (1 : Int)).length = 256 / 2 * (256 / 2) := List.length_replicate
  generalize List.replicate (256 * 256) (1 : Int) = xs at *
  generalize List.replicate (256 / 2 * (256 / 2)) (1 : Int) = ys at *
  have K := pcrop_ok lo 256 256 (256 / 2 : Nat) (256 / 2 : Nat) (256 / 2 : Nat) (256 / 2 : Nat) (some a0) (some a1) (some a2) (256 * 256) (256 / 2 * (256 / 2)) (256 / 2 * (256 / 2)) xs ys ys M2 16 16 (Nat.le_trans hlo q2.len) r0 r1 r2 (by omega) (by omega) (by omega)
  have e : cropS 256 256 (256 / 2 : Nat) (256 / 2 : Nat) (256 / 2 : Nat) (256 / 2 : Nat) xs ys ys 16 16 = resF 256 256 16 16 xs ys ys := by
    unfold cropS
    rw [l0, l1]
    exact if_pos (by decide)
  rw [e, l0, l1] at K
  refine Evp.ob K ?_
  rintro _ ⟨B0, B1, B2, d0, d1, d2, M3, rfl, p3, _⟩
  unfold F3v resF
  simp only [ret_int, ret_bool, ret_flt, ret_slc, ret_str, ret_ptr, ret_agg, ret_tup, ob_some, bb_true, bb_false, List.getElem?_cons_zero, List.getElem?_cons_succ, List.length_cons, List.length_nil, Nat.reduceAdd, Nat.reduceLT]
  refine Evp.ob (crop_bad lo 256 256 _ _ _ _ _ _ _ _ _ _ _ _ _ M3 14 16 (by decide)) ?_
  rintro _ rfl
  simp only [ret_int, ret_bool, ret_flt, ret_slc, ret_str, ret_ptr, ret_agg, ret_tup, ob_some, bb_true, bb_false, List.getElem?_cons_zero, List.getElem?_cons_succ, List.length_cons, List.length_nil, Nat.reduceAdd, Nat.reduceLT]
  refine Evp.ob (crop_bad lo 256 256 _ _ _ _ _ _ _ _ _ _ _ _ _ M3 16 17 (by decide)) ?_
  rintro _ rfl
  simp only [ret_int, ret_bool, ret_flt, ret_slc, ret_str, ret_ptr, ret_agg, ret_tup, ob_some, bb_true, bb_false, List.getElem?_cons_zero, List.getElem?_cons_succ, List.length_cons, List.length_nil, Nat.reduceAdd, Nat.reduceLT]
  refine Evp.ob (crop_bad lo (16 : Nat) (16 : Nat) _ _ _ _ _ _ _ _ _ _ _ _ _ M3 18 16 (by decide)) ?_
  rintro _ rfl
  simp only [ret_int, ret_bool, ret_flt, ret_slc, ret_str, ret_ptr, ret_agg, ret_tup, ob_some, bb_true, bb_false, List.getElem?_cons_zero, List.getElem?_cons_succ, List.length_cons, List.length_nil, Nat.reduceAdd, Nat.reduceLT]
  have q3 := q2.trans p3
  refine Evp.ob (works_ok lo M3 (Nat.le_trans hlo q3.len)) ?_
  rintro _ ⟨M4, rfl, p4⟩
  simp only [ret_int, ret_bool, ret_flt, ret_slc, ret_str, ret_ptr, ret_agg, ret_tup, ob_some, bb_true, bb_false, List.getElem?_cons_zero, List.getElem?_cons_succ, List.length_cons, List.length_nil, Nat.reduceAdd, Nat.reduceLT]
  refine Evp.tt rfl (Evp.tt rfl (Evp.tt rfl (Evp.tt rfl (Evp.tt rfl (Evp.tt rfl (Evp.tt rfl (Evp.tt rfl ?_)))))))
  refine Evp.ob (whole_ok ..) ?_
  rintro _ rfl
  simp only [ret_int, ret_bool, ret_flt, ret_slc, ret_str, ret_ptr, ret_agg, ret_tup, ob_some, bb_true, bb_false, List.getElem?_cons_zero, List.getElem?_cons_succ, List.length_cons, List.length_nil, Nat.reduceAdd, Nat.reduceLT]
  rw [show ∀ a b c : Int, wholeS (16 : Nat) (16 : Nat) a (16 / 2 : Nat) (16 / 2 : Nat) b 4 (16 / 2 : Nat) c = 2 from fun a b c => if_neg fun h => by have := h.2.2.2.2.2.2.2.1; revert this; decide]
  refine Evp.tt rfl ?_
  refine Evp.ob (whole_ok ..) ?_
  rintro _ rfl
  simp only [ret_int, ret_bool, ret_flt, ret_slc, ret_str, ret_ptr, ret_agg, ret_tup, ob_some, bb_true, bb_false, List.getElem?_cons_zero, List.getElem?_cons_succ, List.length_cons, List.length_nil, Nat.reduceAdd, Nat.reduceLT]
  exact Evp.ret (Run.ret (congrArg Value.bool (show (wholeS 0 0 ((0 : Nat) : Int) 0 0 ((0 : Nat) : Int) 0 0 ((0 : Nat) : Int) == 2) = true by decide)))
theorem known_sizes (b : Nat) (cs : List Value) (M1 : Mem) (hb : M1[b]? = some ⟨.fx, cs⟩) (hs : ∀ i, i < 7 → SizeAt cs (i * 2)) : ∀ (d i : Nat) (M : Mem), 7 - i = d → i ≤ 7 → Pre M0 M → Pre M1 M → Run P T lo F.zoetropelaw05_PlaneKnown (zoetropelaw05_PlaneKnown.c8388596 true true (some ⟨b, 0, none⟩) 7 7 7 i M) fun r => r.1 = .bool true := by
  intro d
  induction d with
  | zero =>
    intro i M hd hi p0 p1
    exact known_end lo M0 hlo M p0 _ _ _ i (by omega)
  | succ d ih =>
    intro i M hd hi p0 p1
    obtain ⟨w, h, ⟨c0, c1⟩, bad⟩ := hs i (by omega)
    have ld : ∀ j, M.ld (plus ⟨b, 0, none⟩ j) = cs[j]? := fun j => fx_ldp (p1 b _ hb) _
    refine Run.cut (Evp.of_eq (fun k => zoetropelaw05_PlaneKnown.p8388596 k ..) ?_)
    refine Evp.dec (fun _ => ?_) fun h => absurd h (by omega)
    refine Evp.pos (by omega) (Evp.some rfl ?_)
    simp only [Int.toNat_natCast, plus_plus]
    rw [ld, ld, c0, c1]
    simp only [ret_int, ret_bool, ret_flt, ret_slc, ret_str, ret_ptr, ret_agg, ret_tup, ob_some, bb_true, bb_false, List.getElem?_cons_zero, List.getElem?_cons_succ, List.length_cons, List.length_nil, Nat.reduceAdd, Nat.reduceLT]
    refine Evp.ob (frame_bad lo w h M 1 (Nat.le_trans hlo p0.len) bad) ?_
    rintro _ ⟨A0, A1, A2, d0, d1, d2, M2, rfl, p2⟩
    simp only [ret_int, ret_bool, ret_flt, ret_slc, ret_str, ret_ptr, ret_agg, ret_tup, ob_some, bb_true, bb_false, List.getElem?_cons_zero, List.getElem?_cons_succ, List.length_cons, List.length_nil, Nat.reduceAdd, Nat.reduceLT]
    refine Evp.neb (fun e => absurd rfl e) fun _ => ?_
    rw [w64 (by omega), show (i : Int) + 1 = ((i + 1 : Nat) : Int) by omega]
    exact Evp.ret (ih (i + 1) M2 (by omega) (by omega) (p0.trans p2) (p1.trans p2))
def p4 : List Int := [1, 2, 3, 4]
theorem known_mid (A : Option Addr) (M : Mem) (p0 : Pre M0 M) (hx : RdI M .u8 A p4) (B : Option Addr) (x5 : Int) (hi : 8 ≤ x5) : Run P T lo F.zoetropelaw05_PlaneKnown (zoetropelaw05_PlaneKnown.c2036 true B 8 8 x5 2 2 A 4 4 M) fun r => r.1 = .bool true := by
  refine Run.cut (Evp.of_eq (fun k => zoetropelaw05_PlaneKnown.p2036 k ..) ?_)
  refine Evp.dec (fun h => absurd h (by omega)) fun _ => ?_
  have hl := Nat.le_trans hlo p0.len
  refine Evp.ob (ppad_ok lo 2 2 5 2 A 4 p4 M hl hx (by decide)) ?_
  rintro ⟨v, M2⟩ ⟨p2, h⟩
  rw [if_pos (by decide)] at h
  obtain ⟨a, rfl, b2⟩ := h
  rw [show sizedS 2 2 p4 (5 : Int).toNat ((2 : Int).toNat * (5 : Int).toNat) = [1, 2, 2, 2, 2, 3, 4, 4, 4, 4] by decide +kernel] at b2
  simp only [ret_int, ret_bool, ret_flt, ret_slc, ret_str, ret_ptr, ret_agg, ret_tup, ob_some, bb_true, bb_false, List.getElem?_cons_zero, List.getElem?_cons_succ, List.length_cons, List.length_nil, Nat.reduceAdd, Nat.reduceLT]
  have q2 := p0.trans p2
  have p3 := Pre.app M2 [⟨.fx, ([7, 8] : List Int).map (Value.int .u8)⟩]
  have q3 := p2.trans p3
  refine Evp.ob (lay_bad lo 2 2 A 4 4 p4 _ 0 0 1 1 (some ⟨M2.length, 0, none⟩) 2 2 [7, 8] (Nat.le_trans hl q3.len) (hx.pre q3) rfl (RdI.lit (k := .u8) [7, 8]) rfl (by decide) (by decide)) ?_
  rintro _ ⟨M4, rfl, p4'⟩
  simp only [ret_int, ret_bool, ret_flt, ret_slc, ret_str, ret_ptr, ret_agg, ret_tup, ob_some, bb_true, bb_false, List.getElem?_cons_zero, List.getElem?_cons_succ, List.length_cons, List.length_nil, Nat.reduceAdd, Nat.reduceLT]
  have q4 := q3.trans p4'
  have two : ∀ N : Mem, RdI ((N ++ [⟨.fx, ([1, 2] : List Int).map (Value.int .u8)⟩]) ++ [⟨.fx, ([1, 2] : List Int).map (Value.int .u8)⟩]) .u8 (some ⟨N.length, 0, none⟩) [1, 2] := fun N => (RdI.lit (M := N) (k := .u8) [1, 2]).pre (Pre.app _ _)
  have two' : ∀ N : Mem, RdI ((N ++ [⟨.fx, ([1, 2] : List Int).map (Value.int .u8)⟩]) ++ [⟨.fx, ([1, 2] : List Int).map (Value.int .u8)⟩]) .u8 (some ⟨(N ++ [⟨.fx, ([1, 2] : List Int).map (Value.int .u8)⟩] : Mem).length, 0, none⟩) [1, 2] := fun N => RdI.lit (k := .u8) [1, 2]
  have b12 : Bytes [1, 2] := byl (by decide)
  refine Evp.ob (Q1 := fun r => ∃ M', r = (.tuple ⟨[.int .u64 0, .int .i64 2]⟩, M') ∧ Pre M4 M') (Ac.mono (apart_bad lo 2 1 _ 2 2 [1, 2] _ 1 2 _ 2 2 [1, 2] (two M4) rfl b12 (two' M4) rfl b12 (by decide)) fun r e => ⟨_, e, (Pre.app _ _).trans (Pre.app _ _)⟩) ?_
  rintro _ ⟨M5, rfl, p5⟩
  simp only [ret_int, ret_bool, ret_flt, ret_slc, ret_str, ret_ptr, ret_agg, ret_tup, ob_some, bb_true, bb_false, List.getElem?_cons_zero, List.getElem?_cons_succ, List.length_cons, List.length_nil, Nat.reduceAdd, Nat.reduceLT]
  refine Evp.ob (Q1 := fun r => ∃ M', r = (.bool false, M') ∧ Pre M5 M') (Ac.mono (same_ok lo 2 1 1 2 _ _ 2 2 [1, 2] [1, 2] _ (two M5) (two' M5) (by decide)) fun r e => ⟨_, e, (Pre.app _ _).trans (Pre.app _ _)⟩) ?_
  rintro _ ⟨M6, rfl, p6⟩
  simp only [ret_int, ret_bool, ret_flt, ret_slc, ret_str, ret_ptr, ret_agg, ret_tup, ob_some, bb_true, bb_false, List.getElem?_cons_zero, List.getElem?_cons_succ, List.length_cons, List.length_nil, Nat.reduceAdd, Nat.reduceLT]
  refine Evp.ff rfl (Evp.neb (fun e => absurd rfl e) fun _ => Evp.neb (fun e => absurd rfl e) fun _ => Evp.neb (fun e => absurd rfl e) fun _ => ?_)
  have q6 := (q4.trans p5).trans p6
  have s6 := ((p3.trans p4').trans p5).trans p6
  refine Evp.ob (Q1 := fun r => ∃ M', r = (.bool true, M') ∧ Pre M6 M') (Ac.mono (eqBytes_ok lo (some a) (some ⟨M6.length, 0, none⟩) 10 10 [1, 2, 2, 2, 2, 3, 4, 4, 4, 4] [1, 2, 2, 2, 2, 3, 4, 4, 4, 4] _ ((b2.rdI.pre s6).pre (Pre.app _ _)) (RdI.lit (k := .u8) _) (by decide)) fun r e => ⟨_, e.trans (by rw [decide_eq_true rfl]), Pre.app _ _⟩) ?_
  rintro _ ⟨M7, rfl, p7⟩
  simp only [ret_int, ret_bool, ret_flt, ret_slc, ret_str, ret_ptr, ret_agg, ret_tup, ob_some, bb_true, bb_false, List.getElem?_cons_zero, List.getElem?_cons_succ, List.length_cons, List.length_nil, Nat.reduceAdd, Nat.reduceLT]
  refine Evp.ff rfl ?_
  have p8 := Pre.app M7 [⟨.fx, ([7] : List Int).map (Value.int .u8)⟩]
  have q8 := (q6.trans p7).trans p8
  refine Evp.ob (lay_bad lo 2 2 A 4 4 p4 _ 0 1 2 1 (some ⟨M7.length, 0, none⟩) 1 1 [7] (Nat.le_trans hl q8.len) (hx.pre q8) rfl (RdI.lit (k := .u8) [7]) rfl (by decide) (by decide)) ?_
  rintro _ ⟨M9, rfl, p9⟩
  simp only [ret_int, ret_bool, ret_flt, ret_slc, ret_str, ret_ptr, ret_agg, ret_tup, ob_some, bb_true, bb_false, List.getElem?_cons_zero, List.getElem?_cons_succ, List.length_cons, List.length_nil, Nat.reduceAdd, Nat.reduceLT]
  have q9 := q8.trans p9
  refine Evp.ob (pad_bad lo 2 2 A 4 4 p4 M9 1 2 (Nat.le_trans hl q9.len) (hx.pre q9) rfl (by decide) (by decide)) ?_
  rintro _ ⟨M10, rfl, p10⟩
  simp only [ret_int, ret_bool, ret_flt, ret_slc, ret_str, ret_ptr, ret_agg, ret_tup, ob_some, bb_true, bb_false, List.getElem?_cons_zero, List.getElem?_cons_succ, List.length_cons, List.length_nil, Nat.reduceAdd, Nat.reduceLT]
  have q10 := q9.trans p10
  refine Evp.ob (pad_bad lo 2 2 A 4 4 p4 M10 513 2 (Nat.le_trans hl q10.len) (hx.pre q10) rfl (by decide) (by decide)) ?_
  rintro _ ⟨M11, rfl, p11⟩
  simp only [ret_int, ret_bool, ret_flt, ret_slc, ret_str, ret_ptr, ret_agg, ret_tup, ob_some, bb_true, bb_false, List.getElem?_cons_zero, List.getElem?_cons_succ, List.length_cons, List.length_nil, Nat.reduceAdd, Nat.reduceLT]
  have q11 := q10.trans p11
  refine Evp.ob (new_bad lo 0 1 M11 0 (Nat.le_trans hl q11.len) (by decide)) ?_
  rintro _ ⟨M12, rfl, p12⟩
  simp only [ret_int, ret_bool, ret_flt, ret_slc, ret_str, ret_ptr, ret_agg, ret_tup, ob_some, bb_true, bb_false, List.getElem?_cons_zero, List.getElem?_cons_succ, List.length_cons, List.length_nil, Nat.reduceAdd, Nat.reduceLT]
  have q12 := q11.trans p12
  refine Evp.ob (new_bad lo 1 513 M12 0 (Nat.le_trans hl q12.len) (by decide)) ?_
  rintro _ ⟨M13, rfl, p13⟩
  simp only [ret_int, ret_bool, ret_flt, ret_slc, ret_str, ret_ptr, ret_agg, ret_tup, ob_some, bb_true, bb_false, List.getElem?_cons_zero, List.getElem?_cons_succ, List.length_cons, List.length_nil, Nat.reduceAdd, Nat.reduceLT]
  have q13 := q12.trans p13
  refine Evp.ob (new_ok lo 512 1 6 M13 (Nat.le_trans hl q13.len)) ?_
  rintro ⟨v, M14⟩ ⟨p14, h⟩
  rw [if_pos (by decide)] at h
  obtain ⟨a14, rfl, b14⟩ := h
  simp only [ret_int, ret_bool, ret_flt, ret_slc, ret_str, ret_ptr, ret_agg, ret_tup, ob_some, bb_true, bb_false, List.getElem?_cons_zero, List.getElem?_cons_succ, List.length_cons, List.length_nil, Nat.reduceAdd, Nat.reduceLT]
  refine Evp.tt rfl (Evp.tt rfl (Evp.tt rfl (Evp.tt rfl (Evp.tt rfl (Evp.tt rfl (Evp.tt rfl ?_))))))
  refine Evp.ob (at_names lo 512 1 _ _ _ (List.replicate (512 * 1 : Int).toNat 6) M14 511 0 b14.rdI List.length_replicate) ?_
  rintro _ rfl
  simp only [ret_int, ret_bool, ret_flt, ret_slc, ret_str, ret_ptr, ret_agg, ret_tup, ob_some, bb_true, bb_false, List.getElem?_cons_zero, List.getElem?_cons_succ, List.length_cons, List.length_nil, Nat.reduceAdd, Nat.reduceLT]
  rw [show (atS 512 1 (List.replicate (512 * 1 : Int).toNat 6) 511 0 == 6) = true by decide +kernel]
  have q14 := (p0.trans q13).trans p14
  refine Evp.ret (known_sizes lo M0 hlo _ _ _ (push_self M14 _) (fun i hi => ?_) _ 0 _ rfl (by decide) (q14.trans (Pre.app _ _)) (Pre.refl _))
  match i, hi with
  | 0, _ => exact ⟨_, _, ⟨rfl, rfl⟩, by decide⟩
  | 1, _ => exact ⟨_, _, ⟨rfl, rfl⟩, by decide⟩
  | 2, _ => exact ⟨_, _, ⟨rfl, rfl⟩, by decide⟩
  | 3, _ => exact ⟨_, _, ⟨rfl, rfl⟩, by decide⟩
  | 4, _ => exact ⟨_, _, ⟨rfl, rfl⟩, by decide⟩
  | 5, _ => exact ⟨_, _, ⟨rfl, rfl⟩, by decide⟩
  | 6, _ => exact ⟨_, _, ⟨rfl, rfl⟩, by decide⟩
theorem known_rects (A : Option Addr) (b : Nat) (cs : List Value) (M1 : Mem) (hx : RdI M1 .u8 A p4) (hb : M1[b]? = some ⟨.fx, cs⟩) (hs : ∀ i, i < 8 → RectAt cs (i * 4)) : ∀ (d i : Nat) (M : Mem), 8 - i = d → i ≤ 8 → Pre M0 M → Pre M1 M → Run P T lo F.zoetropelaw05_PlaneKnown (zoetropelaw05_PlaneKnown.c2036 true (some ⟨b, 0, none⟩) 8 8 i 2 2 A 4 4 M) fun r => r.1 = .bool true := by
  intro d
  induction d with
  | zero =>
    intro i M hd hi p0 p1
    exact known_mid lo M0 hlo A M p0 (hx.pre p1) _ i (by omega)
  | succ d ih =>
    intro i M hd hi p0 p1
    obtain ⟨x, y, rw', rh, ⟨c0, c1, c2, c3⟩, bad⟩ := hs i (by omega)
    have ld : ∀ {M' : Mem}, Pre M M' → ∀ j, M'.ld (plus ⟨b, 0, none⟩ j) = cs[j]? := fun p j => fx_ldp (p b _ (p1 b _ hb)) _
    have hl := Nat.le_trans hlo p0.len
    have pz := Pre.refl M
    refine Run.cut (Evp.of_eq (fun k => zoetropelaw05_PlaneKnown.p2036 k ..) ?_)
    refine Evp.dec (fun _ => ?_) fun h => absurd h (by omega)
    refine Evp.pos (by omega) (Evp.some rfl ?_)
    simp only [Int.toNat_natCast, plus_plus]
    rw [ld pz, ld pz, ld pz, ld pz, c0, c1, c2, c3]
    simp only [ret_int, ret_bool, ret_flt, ret_slc, ret_str, ret_ptr, ret_agg, ret_tup, ob_some, bb_true, bb_false, List.getElem?_cons_zero, List.getElem?_cons_succ, List.length_cons, List.length_nil, Nat.reduceAdd, Nat.reduceLT]
    refine Evp.ob (cut_bad lo 2 2 A 4 4 p4 M x y rw' rh hl (hx.pre p1) rfl (by decide) (fun e => bad e.2)) ?_
    rintro _ ⟨M2, rfl, p2⟩
    simp only [ret_int, ret_bool, ret_flt, ret_slc, ret_str, ret_ptr, ret_agg, ret_tup, ob_some, bb_true, bb_false, List.getElem?_cons_zero, List.getElem?_cons_succ, List.length_cons, List.length_nil, Nat.reduceAdd, Nat.reduceLT]
    refine Evp.pos (by omega) (Evp.some rfl ?_)
    rw [ld p2, ld p2, ld p2, ld p2, c0, c1, c2, c3]
    simp only [ret_int, ret_bool, ret_flt, ret_slc, ret_str, ret_ptr, ret_agg, ret_tup, ob_some, bb_true, bb_false, List.getElem?_cons_zero, List.getElem?_cons_succ, List.length_cons, List.length_nil, Nat.reduceAdd, Nat.reduceLT]
    refine Evp.ob (lay_bad lo 2 2 A 4 4 p4 M2 x y rw' rh none 0 0 [] (Nat.le_trans hl p2.len) (hx.pre (p1.trans p2)) rfl RdI.nil rfl (by decide) (fun e => bad e.2.1)) ?_
    rintro _ ⟨M3, rfl, p3⟩
    simp only [ret_int, ret_bool, ret_flt, ret_slc, ret_str, ret_ptr, ret_agg, ret_tup, ob_some, bb_true, bb_false, List.getElem?_cons_zero, List.getElem?_cons_succ, List.length_cons, List.length_nil, Nat.reduceAdd, Nat.reduceLT]
    refine Evp.neb (fun e => absurd rfl e) fun _ => Evp.neb (fun e => absurd rfl e) fun _ => ?_
    rw [w64 (by omega), show (i : Int) + 1 = ((i + 1 : Nat) : Int) by omega]
    exact Evp.ret (ih (i + 1) M3 (by omega) (by omega) (p0.trans (p2.trans p3)) (p1.trans (p2.trans p3)))
theorem known_bad (A : Option Addr) (b : Nat) (cs : List Value) (M1 : Mem) (hx : RdI M1 .u8 A p4) (hb : M1[b]? = some ⟨.fx, cs⟩) (hs : ∀ i, i < 7 → BadAt cs M1 (i * 3)) : ∀ (d i : Nat) (M : Mem), 7 - i = d → i ≤ 7 → Pre M0 M → Pre M1 M → Run P T lo F.zoetropelaw05_PlaneKnown (zoetropelaw05_PlaneKnown.c500 true (some ⟨b, 0, none⟩) 7 7 i 2 2 A 4 4 M) fun r => r.1 = .bool true := by
  intro d
  induction d with
  | zero =>
    intro i M hd hi p0 p1
    refine Run.cut (Evp.of_eq (fun k => zoetropelaw05_PlaneKnown.p500 k ..) ?_)
    refine Evp.dec (fun h => absurd h (by omega)) fun _ => ?_
    refine Evp.ret (known_rects lo M0 hlo A _ _ _ ((hx.pre p1).pre (Pre.app _ _)) (push_self M _) (fun i hi => ?_) _ 0 _ rfl (by decide) (p0.trans (Pre.app _ _)) (Pre.refl _))
    match i, hi with
    | 0, _ => exact ⟨_, _, _, _, ⟨rfl, rfl, rfl, rfl⟩, by decide⟩
    | 1, _ => exact ⟨_, _, _, _, ⟨rfl, rfl, rfl, rfl⟩, by decide⟩
    | 2, _ => exact ⟨_, _, _, _, ⟨rfl, rfl, rfl, rfl⟩, by decide⟩
    | 3, _ => exact ⟨_, _, _, _, ⟨rfl, rfl, rfl, rfl⟩, by decide⟩
    | 4, _ => exact ⟨_, _, _, _, ⟨rfl, rfl, rfl, rfl⟩, by decide⟩
    | 5, _ => exact ⟨_, _, _, _, ⟨rfl, rfl, rfl, rfl⟩, by decide⟩
    | 6, _ => exact ⟨_, _, _, _, ⟨rfl, rfl, rfl, rfl⟩, by decide⟩
    | 7, _ => exact ⟨_, _, _, _, ⟨rfl, rfl, rfl, rfl⟩, by decide⟩
  | succ d ih =>
    intro i M hd hi p0 p1
    obtain ⟨w, h, B, n, c, xs, ⟨c0, c1, c2⟩, rx, ln, hc, bx, ck⟩ := hs i (by omega)
    have ld : ∀ {M' : Mem}, Pre M M' → ∀ j, M'.ld (plus ⟨b, 0, none⟩ j) = cs[j]? := fun p j => fx_ldp (p b _ (p1 b _ hb)) _
    have hl := Nat.le_trans hlo p0.len
    have pz := Pre.refl M
    have ck' : checkS w h n ≠ 0 := by rw [ck]; decide
    refine Run.cut (Evp.of_eq (fun k => zoetropelaw05_PlaneKnown.p500 k ..) ?_)
    refine Evp.dec (fun _ => ?_) fun h => absurd h (by omega)
    refine Evp.pos (by omega) (Evp.some rfl ?_)
    simp only [Int.toNat_natCast, plus_plus]
    rw [ld pz, ld pz, ld pz, c0, c1, c2]
    simp only [ret_int, ret_bool, ret_flt, ret_slc, ret_str, ret_ptr, ret_agg, ret_tup, ob_some, bb_true, bb_false, List.getElem?_cons_zero, List.getElem?_cons_succ, List.length_cons, List.length_nil, Nat.reduceAdd, Nat.reduceLT]
    refine Evp.ob (cut_bad lo w h B n c xs M 0 0 1 1 hl (rx.pre p1) ln hc (fun e => ck' e.1)) ?_
    rintro _ ⟨M2, rfl, p2⟩
    simp only [ret_int, ret_bool, ret_flt, ret_slc, ret_str, ret_ptr, ret_agg, ret_tup, ob_some, bb_true, bb_false, List.getElem?_cons_zero, List.getElem?_cons_succ, List.length_cons, List.length_nil, Nat.reduceAdd, Nat.reduceLT]
    refine Evp.pos (by omega) (Evp.some rfl ?_)
    rw [ld p2, ld p2, ld p2, c0, c1, c2]
    simp only [ret_int, ret_bool, ret_flt, ret_slc, ret_str, ret_ptr, ret_agg, ret_tup, ob_some, bb_true, bb_false, List.getElem?_cons_zero, List.getElem?_cons_succ, List.length_cons, List.length_nil, Nat.reduceAdd, Nat.reduceLT]
    refine Evp.ob (pad_bad lo w h B n c xs M2 512 512 (Nat.le_trans hl p2.len) (rx.pre (p1.trans p2)) ln hc (fun e => ck' e.1)) ?_
    rintro _ ⟨M3, rfl, p3⟩
    simp only [ret_int, ret_bool, ret_flt, ret_slc, ret_str, ret_ptr, ret_agg, ret_tup, ob_some, bb_true, bb_false, List.getElem?_cons_zero, List.getElem?_cons_succ, List.length_cons, List.length_nil, Nat.reduceAdd, Nat.reduceLT]
    have q3 := p2.trans p3
    refine Evp.pos (by omega) (Evp.some rfl ?_)
    rw [ld q3, ld q3, ld q3, c0, c1, c2]
    simp only [ret_int, ret_bool, ret_flt, ret_slc, ret_str, ret_ptr, ret_agg, ret_tup, ob_some, bb_true, bb_false, List.getElem?_cons_zero, List.getElem?_cons_succ, List.length_cons, List.length_nil, Nat.reduceAdd, Nat.reduceLT]
    refine Evp.pos (by omega) (Evp.some rfl ?_)
    try rw [ld q3, ld q3, ld q3, c0, c1, c2]
    simp only [ret_int, ret_bool, ret_flt, ret_slc, ret_str, ret_ptr, ret_agg, ret_tup, ob_some, bb_true, bb_false, List.getElem?_cons_zero, List.getElem?_cons_succ, List.length_cons, List.length_nil, Nat.reduceAdd, Nat.reduceLT]
    have rx3 := rx.pre (p1.trans q3)
    refine Evp.ob (apart_bad lo w h B n c xs M3 w h B n c xs rx3 ln bx rx3 ln bx (fun e => ck' e.1)) ?_
    rintro _ rfl
    simp only [ret_int, ret_bool, ret_flt, ret_slc, ret_str, ret_ptr, ret_agg, ret_tup, ob_some, bb_true, bb_false, List.getElem?_cons_zero, List.getElem?_cons_succ, List.length_cons, List.length_nil, Nat.reduceAdd, Nat.reduceLT]
    refine Evp.pos (by omega) (Evp.some rfl ?_)
    rw [ld q3, ld q3, ld q3, c0, c1, c2]
    simp only [ret_int, ret_bool, ret_flt, ret_slc, ret_str, ret_ptr, ret_agg, ret_tup, ob_some, bb_true, bb_false, List.getElem?_cons_zero, List.getElem?_cons_succ, List.length_cons, List.length_nil, Nat.reduceAdd, Nat.reduceLT]
    refine Evp.ob (check_ok lo w h B n c M3) ?_
    rintro _ rfl
    simp only [ret_int, ret_bool, ret_flt, ret_slc, ret_str, ret_ptr, ret_agg, ret_tup, ob_some, bb_true, bb_false, List.getElem?_cons_zero, List.getElem?_cons_succ, List.length_cons, List.length_nil, Nat.reduceAdd, Nat.reduceLT]
    rw [ck]
    refine Evp.neb (fun e => absurd rfl e) fun _ => Evp.neb (fun e => absurd rfl e) fun _ => Evp.neb (fun e => absurd rfl e) fun _ => Evp.neb (fun e => absurd rfl e) fun _ => ?_
    rw [w64 (by omega), show (i : Int) + 1 = ((i + 1 : Nat) : Int) by omega]
    exact Evp.ret (ih (i + 1) M3 (by omega) (by omega) (p0.trans q3) (p1.trans q3))
end
theorem PlaneKnown_law (M : Mem) (vs : List Value) (hro : AllRo M) (hv : LaysArgs P M [] vs) : Ac P T M.length F.zoetropelaw05_PlaneKnown vs M fun r => r.1 = .bool true := by
  obtain rfl := Arg.PlaneKnown hv
  refine Ac.of (Evp.of_eq (fun k => zoetropelaw05_PlaneKnown.entry k ..) ?_)
  refine Evp.ob (four_ok M.length M) ?_
  rintro _ rfl
  simp only [ret_int, ret_bool, ret_flt, ret_slc, ret_str, ret_ptr, ret_agg, ret_tup, ob_some, bb_true, bb_false, List.getElem?_cons_zero, List.getElem?_cons_succ, List.length_cons, List.length_nil, Nat.reduceAdd, Nat.reduceLT]
  have p1 := Pre.app M [⟨.fx, p4.map (Value.int .u8)⟩]
  have hx : RdI (M ++ [⟨.fx, p4.map (Value.int .u8)⟩]) .u8 (some ⟨M.length, 0, none⟩) p4 := RdI.lit p4
  have e : (M ++ [⟨.fx, [.int .u8 1, .int .u8 2, .int .u8 3, .int .u8 4]⟩] : Mem) = M ++ [⟨.fx, p4.map (Value.int .u8)⟩] := rfl
  rw [e]
  generalize (M ++ [⟨.fx, p4.map (Value.int .u8)⟩] : Mem) = M1 at *
  clear e
  refine Evp.ob (at_names M.length 2 2 _ 4 4 p4 M1 0 0 hx rfl) ?_
  rintro _ rfl
  simp only [ret_int, ret_bool, ret_flt, ret_slc, ret_str, ret_ptr, ret_agg, ret_tup, ob_some, bb_true, bb_false, List.getElem?_cons_zero, List.getElem?_cons_succ, List.length_cons, List.length_nil, Nat.reduceAdd, Nat.reduceLT]
  refine Evp.tt (by decide +kernel) ?_
  refine Evp.ob (at_names M.length 2 2 _ 4 4 p4 M1 5 0 hx rfl) ?_
  rintro _ rfl
  simp only [ret_int, ret_bool, ret_flt, ret_slc, ret_str, ret_ptr, ret_agg, ret_tup, ob_some, bb_true, bb_false, List.getElem?_cons_zero, List.getElem?_cons_succ, List.length_cons, List.length_nil, Nat.reduceAdd, Nat.reduceLT]
  refine Evp.tt (by decide +kernel) ?_
  refine Evp.ob (at_names M.length 2 2 _ 4 4 p4 M1 (-1) 9 hx rfl) ?_
  rintro _ rfl
  simp only [ret_int, ret_bool, ret_flt, ret_slc, ret_str, ret_ptr, ret_agg, ret_tup, ob_some, bb_true, bb_false, List.getElem?_cons_zero, List.getElem?_cons_succ, List.length_cons, List.length_nil, Nat.reduceAdd, Nat.reduceLT]
  refine Evp.tt (by decide +kernel) ?_
  refine Evp.ob (at_names M.length 2 2 _ 4 4 p4 M1 (-4611686018427387904) 4611686018427387904 hx rfl) ?_
  rintro _ rfl
  simp only [ret_int, ret_bool, ret_flt, ret_slc, ret_str, ret_ptr, ret_agg, ret_tup, ob_some, bb_true, bb_false, List.getElem?_cons_zero, List.getElem?_cons_succ, List.length_cons, List.length_nil, Nat.reduceAdd, Nat.reduceLT]
  refine Evp.tt (by decide +kernel) ?_
  refine Evp.ob (at_names M.length 0 0 none 0 0 [] M1 0 0 RdI.nil rfl) ?_
  rintro _ rfl
  simp only [ret_int, ret_bool, ret_flt, ret_slc, ret_str, ret_ptr, ret_agg, ret_tup, ob_some, bb_true, bb_false, List.getElem?_cons_zero, List.getElem?_cons_succ, List.length_cons, List.length_nil, Nat.reduceAdd, Nat.reduceLT]
  rw [show (atS 0 0 [] 0 0 == 0) = true by decide +kernel]
  have hl := p1.len
  have f0 : (M1 ++ [⟨.op 0, []⟩, ⟨.op 0, []⟩, ⟨.op 0, []⟩, ⟨.op 0, []⟩] : Mem)[M1.length]? = some ⟨.op 0, []⟩ := by simp
  have f1 : (M1 ++ [⟨.op 0, []⟩, ⟨.op 0, []⟩, ⟨.op 0, []⟩, ⟨.op 0, []⟩] : Mem)[M1.length + 1]? = some ⟨.op 0, []⟩ := by simp
  have f2 : (M1 ++ [⟨.op 0, []⟩, ⟨.op 0, []⟩, ⟨.op 0, []⟩, ⟨.op 0, []⟩] : Mem)[M1.length + 1 + 1]? = some ⟨.op 0, []⟩ := by simp [Nat.add_assoc]
  have f3 : (M1 ++ [⟨.op 0, []⟩, ⟨.op 0, []⟩, ⟨.op 0, []⟩, ⟨.op 0, []⟩] : Mem)[M1.length + 1 + 1 + 1]? = some ⟨.op 0, []⟩ := by simp [Nat.add_assoc]
  have pa : Pre M1 (M1 ++ [⟨.op 0, []⟩, ⟨.op 0, []⟩, ⟨.op 0, []⟩, ⟨.op 0, []⟩]) := Pre.app _ _
  have Z : zerosL [.int .u8 0] 513 = (List.replicate 513 (0 : Int)).map (Value.int .u8) := by rw [zerosL_one, List.map_replicate]
  have Zl : (zerosL [.int .u8 0] 513).length = 513 := by rw [Z]; simp
  have Zn : zerosL [.int .u8 0] 513 ≠ [] := fun e => by rw [e] at Zl; cases Zl
  generalize zerosL [.int .u8 0] 513 = zz at *
  generalize (M1 ++ [⟨.op 0, []⟩, ⟨.op 0, []⟩, ⟨.op 0, []⟩, ⟨.op 0, []⟩] : Mem) = Ma at *
  refine Evp.some (fill_ne f0 hl (by decide) (by simp)) (Evp.pos (by decide) ?_)
  simp only []
  refine Evp.some (fill_ne (c0 := []) (by rw [List.getElem?_set_ne (by omega)]; exact f1) (by omega) (by decide) Zn) ?_
  simp only []
  refine Evp.some (fill_ne (c0 := []) (by rw [List.getElem?_set_ne (by omega), List.getElem?_set_ne (by omega)]; exact f2) (by omega) (by decide) (by simp)) (Evp.pos (by decide) ?_)
  simp only []
  refine Evp.some (fill_ne (c0 := []) (by rw [List.getElem?_set_ne (by omega), List.getElem?_set_ne (by omega), List.getElem?_set_ne (by omega)]; exact f3) (by omega) (by decide) Zn) ?_
  simp only []
  have s1 := pa.set (Nat.le_refl _) (⟨.op 1, [.int .u8 1, .int .u8 2, .int .u8 3]⟩ : Blk)
  have s2 := s1.set (b := M1.length + 1) (by omega) (⟨.op 1, zz⟩ : Blk)
  have s3 := s2.set (b := M1.length + 1 + 1) (by omega) (⟨.op 1, [.int .u8 1]⟩ : Blk)
  have s4 := s3.set (b := M1.length + 1 + 1 + 1) (by omega) (⟨.op 1, zz⟩ : Blk)
  have g0 : ((((Ma.set M1.length ⟨.op 1, [.int .u8 1, .int .u8 2, .int .u8 3]⟩).set (M1.length + 1) ⟨.op 1, zz⟩).set (M1.length + 1 + 1) ⟨.op 1, [.int .u8 1]⟩).set (M1.length + 1 + 1 + 1) ⟨.op 1, zz⟩)[M1.length]? = some ⟨.op 1, [.int .u8 1, .int .u8 2, .int .u8 3]⟩ := by
    rw [List.getElem?_set_ne (by omega), List.getElem?_set_ne (by omega), List.getElem?_set_ne (by omega), List.getElem?_set_self (lt_of_get f0)]
  have g1 : ((((Ma.set M1.length ⟨.op 1, [.int .u8 1, .int .u8 2, .int .u8 3]⟩).set (M1.length + 1) ⟨.op 1, zz⟩).set (M1.length + 1 + 1) ⟨.op 1, [.int .u8 1]⟩).set (M1.length + 1 + 1 + 1) ⟨.op 1, zz⟩)[M1.length + 1]? = some ⟨.op 1, zz⟩ := by
    rw [List.getElem?_set_ne (by omega), List.getElem?_set_ne (by omega), List.getElem?_set_self (by rw [List.length_set]; exact lt_of_get f1)]
  have g2 : ((((Ma.set M1.length ⟨.op 1, [.int .u8 1, .int .u8 2, .int .u8 3]⟩).set (M1.length + 1) ⟨.op 1, zz⟩).set (M1.length + 1 + 1) ⟨.op 1, [.int .u8 1]⟩).set (M1.length + 1 + 1 + 1) ⟨.op 1, zz⟩)[M1.length + 1 + 1]? = some ⟨.op 1, [.int .u8 1]⟩ := by
    rw [List.getElem?_set_ne (by omega), List.getElem?_set_self (by simp only [List.length_set]; exact lt_of_get f2)]
  have g3 : ((((Ma.set M1.length ⟨.op 1, [.int .u8 1, .int .u8 2, .int .u8 3]⟩).set (M1.length + 1) ⟨.op 1, zz⟩).set (M1.length + 1 + 1) ⟨.op 1, [.int .u8 1]⟩).set (M1.length + 1 + 1 + 1) ⟨.op 1, zz⟩)[M1.length + 1 + 1 + 1]? = some ⟨.op 1, zz⟩ := by
    rw [List.getElem?_set_self (by simp only [List.length_set]; exact lt_of_get f3)]
  generalize ((((Ma.set M1.length ⟨.op 1, [.int .u8 1, .int .u8 2, .int .u8 3]⟩).set (M1.length + 1) ⟨.op 1, zz⟩).set (M1.length + 1 + 1) ⟨.op 1, [.int .u8 1]⟩).set (M1.length + 1 + 1 + 1) ⟨.op 1, zz⟩) = Me at *
  have R0 : RdI Me .u8 (some ⟨M1.length, 0, some 3⟩) [1, 2, 3] := op_rd (n := 3) (w := 1) (cs := [.int .u8 1, .int .u8 2, .int .u8 3]) g0 rfl
  have R1 : RdI Me .u8 (some ⟨M1.length + 1, 0, some zz.length⟩) (List.replicate 513 0) := by have := op_rd (n := 513) (w := 1) g1 (by rw [Zl]); rw [Z] at this ⊢; unfold RdI; rw [List.length_replicate]; exact this
  have R2 : RdI Me .u8 (some ⟨M1.length + 1 + 1, 0, some 1⟩) [1] := op_rd (n := 1) (w := 1) (cs := [.int .u8 1]) g2 rfl
  have R3 : RdI Me .u8 (some ⟨M1.length + 1 + 1 + 1, 0, some zz.length⟩) (List.replicate 513 0) := by have := op_rd (n := 513) (w := 1) g3 (by rw [Zl]); rw [Z] at this ⊢; unfold RdI; rw [List.length_replicate]; exact this
  have Bz : Bytes (List.replicate 513 0) := fun x hx => by rw [(List.mem_replicate.1 hx).2]; decide
  have Lz : (List.replicate 513 (0 : Int)).length = 513 := List.length_replicate
  have pd : ∀ k : Blk, Pre Me (Me ++ [k]) := fun k => Pre.app _ _
  refine Evp.ret (known_bad M.length M (Nat.le_refl _) _ _ _ _ ((hx.pre s4).pre (pd _)) (push_self Me _) (fun i hi => ?_) _ 0 _ rfl (by decide) ((p1.trans s4).trans (pd _)) (Pre.refl _))
  match i, hi with
  | 0, _ => exact ⟨0, 0, none, 0, 0, [], ⟨rfl, rfl, rfl⟩, RdI.nil, rfl, by decide, byl rfl, by decide⟩
  | 1, _ => exact ⟨2, 2, _, 3, 3, [1, 2, 3], ⟨rfl, rfl, rfl⟩, R0.pre (pd _), rfl, by decide, byl rfl, by decide⟩
  | 2, _ => exact ⟨513, 1, _, 513, 513, _, ⟨rfl, rfl, rfl⟩, R1.pre (pd _), Lz, by decide, Bz, by decide⟩
  | 3, _ => exact ⟨0, 5, none, 0, 0, [], ⟨rfl, rfl, rfl⟩, RdI.nil, rfl, by decide, byl rfl, by decide⟩
  | 4, _ => exact ⟨-1, -1, _, 1, 1, [1], ⟨rfl, rfl, rfl⟩, R2.pre (pd _), rfl, by decide, byl rfl, by decide⟩
  | 5, _ => exact ⟨4294967296, 4294967296, none, 0, 0, [], ⟨rfl, rfl, rfl⟩, RdI.nil, rfl, by decide, byl rfl, by decide⟩
  | 6, _ => exact ⟨1, 513, _, 513, 513, _, ⟨rfl, rfl, rfl⟩, R3.pre (pd _), Lz, by decide, Bz, by decide⟩
end Go.Zt
