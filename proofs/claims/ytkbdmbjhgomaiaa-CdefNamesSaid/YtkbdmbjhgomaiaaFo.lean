/- Frames of the program: all planes, all blocks. -/
import Derived.Test.YtkbdmbjhgomaiaaFn
set_option linter.unusedVariables false
set_option linter.unusedSimpArgs false
set_option maxRecDepth 100000
namespace Go.Zt
theorem cut8_len (f : Fr3) (X Y : Nat) : (cut8 f X Y).length = 64 := cutS_len ..
theorem cut8_bytes {f : Fr3} (h : Bytes f.p0.xs) (X Y : Nat) : Bytes (cut8 f X Y) := fun z hz => by
  unfold cut8 cutS at hz
  obtain ⟨i, _, rfl⟩ := List.mem_map.1 hz
  exact h.get _
structure FrIn (M : Mem) (f : Fr3) : Prop where
  rd : ∀ n, n < 3 → RdI M .u8 (f.at n).A (f.at n).xs
  by_ : ∀ n, n < 3 → Bytes (f.at n).xs
  cap : ∀ n, n < 3 → (f.at n).xs.length ≤ (f.at n).c
theorem FrIn.ok {M : Mem} {f : Fr3} (h : FrIn M f) (hw : WholeF f) : FrOk M f := ⟨h.rd, h.by_, h.cap, fun n hn => by
  rcases lt3 hn with rfl | rfl | rfl
  · exact hw.1
  · exact hw.2.2.2.1
  · exact hw.2.2.2.2.2.2.1⟩
theorem FrIn.pre {M M' : Mem} {f : Fr3} (h : FrIn M f) (hp : Pre M M') : FrIn M' f := ⟨fun n hn => (h.rd n hn).pre hp, h.by_, h.cap⟩
theorem FrOk.pre {M M' : Mem} {f : Fr3} (h : FrOk M f) (hp : Pre M M') : FrOk M' f := ⟨fun n hn => (h.rd n hn).pre hp, h.by_, h.cap, h.chk⟩
/-- A block's place in its planes. -/
theorem blk_in {f : Fr3} (hw : WholeF f) (h8 : f.p0.w % 8 = 0) (v8 : f.p0.h % 8 = 0) {X Y : Nat} (hX : X % 8 = 0 ∧ X + 8 ≤ f.p0.w.toNat) (hY : Y % 8 = 0 ∧ Y + 8 ≤ f.p0.h.toNat) :
    ∀ n, n < 3 → n ≠ 0 → X / 2 + 4 ≤ (f.at n).w.toNat ∧ Y / 2 + 4 ≤ (f.at n).h.toNat := fun n hn h0 => by
  obtain ⟨_, s1, s2, _, e1, e2, _, e3, e4⟩ := hw
  unfold sideP at s1 s2
  rcases lt3 hn with rfl | rfl | rfl
  · exact absurd rfl h0
  · show X / 2 + 4 ≤ f.p1.w.toNat ∧ Y / 2 + 4 ≤ f.p1.h.toNat
    omega
  · show X / 2 + 4 ≤ f.p2.w.toNat ∧ Y / 2 + 4 ≤ f.p2.h.toNat
    omega
section
variable (lo : Nat) (f : Fr3) (V Q : Option Addr) (vn vc qn qc : Nat) (hd : Hd) (M0 : Mem) (ad : Nat → Addr) (cc : Nat → Nat) (R : Value × Mem → Prop)
variable (hlo : lo ≤ M0.length) (hf : FrOk M0 f) (hcc : ∀ n, n < 3 → (f.at n).xs.length ≤ cc n) (hw : WholeF f) (h8 : f.p0.w % 8 = 0) (v8 : f.p0.h % 8 = 0)
include hlo hf hcc hw h8 v8
theorem prog_planes (ac len i : Int) (X Y : Nat) (hX : X % 8 = 0 ∧ X + 8 ≤ f.p0.w.toNat) (hY : Y % 8 = 0 ∧ Y + 8 ≤ f.p0.h.toNat) (a b c d : Int) (hs : (0 ≤ a ∧ a ≤ 15) ∧ (0 ≤ c ∧ c ≤ 15) ∧ (0 ≤ b ∧ b ≤ 3) ∧ (0 ≤ d ∧ d ≤ 3)) (hdamp : 3 ≤ hd.damp ∧ hd.damp ≤ 6) (os : Nat → List Int) (M : Mem) (hp : Pre M0 M) (hB : Bufs M0 M f ad os)
    (next : ∀ M', Pre M0 M' → Bufs M0 M' f ad (fun n => newN f hd.damp X Y a b c d n (os n)) → Run P T lo F.cdef_Frame (cdef_Frame.c16295 V vn vc ac Q qn qc len i f.p0.w f.p0.h f.p0.A f.p0.xs.length f.p0.c f.p1.w f.p1.h f.p1.A f.p1.xs.length f.p1.c f.p2.w f.p2.h f.p2.A f.p2.xs.length f.p2.c hd.h0 hd.h1 hd.h2 hd.h3 hd.h4 hd.h5 hd.h6 hd.h7 hd.h8 hd.h9 hd.h10 hd.h11 hd.h12 hd.h13 hd.h14 hd.h15 hd.h16 hd.h17 hd.h18 hd.h19 hd.h20 hd.h21 hd.h22 hd.cdef hd.damp hd.h25 hd.A hd.n hd.c hd.h27 hd.h28 hd.h29 0 0 none 0 0 0 0 none 0 0 0 0 none 0 0 (csL f ad cc) M') R) :
    Run P T lo F.cdef_Frame (kN V vn vc ac X Y (bestD (cut8 f X Y) 8 : Nat) (strD (cut8 f X Y)) Q qn qc len i 0 f hd (csL f ad cc) a b c d M) R := by
  obtain ⟨s1, s2, s3, s4⟩ := hs
  have hb8 : bestD (cut8 f X Y) 8 < 8 := by have := bestD_lt (cut8 f X Y) 8; omega
  have hst := strD_le (cut8_bytes (hf.by_ 0 (by omega)) X Y)
  have sz := blk_in hw h8 v8 hX hY
  have sw : sideP f.p0.w := hw.2.1
  have sh : sideP f.p0.h := hw.2.2.1
  unfold sideP at sw sh
  have hpr := primS_le (n := a) (t := strD (cut8 f X Y)) s1
  have stepN : ∀ n, n < 3 → ∀ (os : Nat → List Int) (M : Mem), Pre M0 M → Bufs M0 M f ad os → (∀ M', Pre M0 M' → Bufs M0 M' f ad (upd os n (newN f hd.damp X Y a b c d n (os n))) → Run P T lo F.cdef_Frame (kN V vn vc ac X Y (bestD (cut8 f X Y) 8 : Nat) (strD (cut8 f X Y)) Q qn qc len i ((n + 1 : Nat) : Int) f hd (csL f ad cc) a b c d M') R) →
      Run P T lo F.cdef_Frame (kN V vn vc ac X Y (bestD (cut8 f X Y) 8 : Nat) (strD (cut8 f X Y)) Q qn qc len i (n : Int) f hd (csL f ad cc) a b c d M) R := fun n hn os M hp hB nx => by
    refine Run.cut (Evp.of_eq (fun k => cdef_Frame.p33371132 k ..) ?_)
    refine Evp.dec (fun _ => ?_) fun g => absurd g (by omega)
    refine Evp.ob (primary_ok M.length a (strD (cut8 f X Y)) M s1 hst) ?_
    rintro _ rfl
    simp only [ret_int, ret_bool, ret_flt, ret_slc, ret_str, ret_ptr, ret_agg, ret_tup, ob_some, bb_true, bb_false, List.getElem?_cons_zero, List.getElem?_cons_succ, List.length_cons, List.length_nil, Nat.reduceAdd, Nat.reduceLT]
    by_cases h0 : n = 0
    · subst h0
      refine Evp.dec (fun g => absurd g (by omega)) fun _ => Evp.ret ?_
      refine prog_block lo f V Q vn vc qn qc hd ac X Y (strD (cut8 f X Y)) len i (bestD (cut8 f X Y) 8) a b c d M0 ad cc R hlo hf hcc 0 (by omega) 8 X Y (.inl rfl) hX.2 hY.2 _ a b hd.damp hb8 hpr s3 (by omega) os M hp hB fun M' q1 q2 => nx M' q1 ?_
      unfold newN
      rw [if_pos rfl]
      exact q2
    · refine Evp.dec (fun _ => Evp.ret ?_) fun g => absurd g (by omega)
      rw [show Int.tdiv (X : Int) 2 = ((X / 2 : Nat) : Int) from rfl, show Int.tdiv (Y : Int) 2 = ((Y / 2 : Nat) : Int) from rfl, w64 (x := ((X / 2 : Nat) : Int)) (by omega), w64 (x := ((Y / 2 : Nat) : Int)) (by omega), w64 (x := hd.damp - 1) (by omega)]
      obtain ⟨z1, z2⟩ := sz n hn h0
      refine prog_block lo f V Q vn vc qn qc hd ac X Y (strD (cut8 f X Y)) len i (bestD (cut8 f X Y) 8) a b c d M0 ad cc R hlo hf hcc n hn 4 (X / 2) (Y / 2) (.inr rfl) z1 z2 c c d (hd.damp - 1) hb8 s2 s4 (by omega) os M hp hB fun M' q1 q2 => nx M' q1 ?_
      unfold newN
      rw [if_neg h0]
      exact q2
  refine stepN 0 (by omega) os M hp hB fun M1 p1 b1 => ?_
  refine stepN 1 (by omega) _ M1 p1 b1 fun M2 p2 b2 => ?_
  refine stepN 2 (by omega) _ M2 p2 b2 fun M3 p3 b3 => ?_
  refine Run.cut (Evp.of_eq (fun k => cdef_Frame.p33371132 k ..) ?_)
  refine Evp.dec (fun g => absurd g (by decide)) fun _ => Evp.ret (next M3 p3 (b3.congr fun n hn => ?_))
  rcases lt3 hn with rfl | rfl | rfl <;> rfl
theorem prog_blocks (qs : List Bool) (ws L : List Int) (hq : qs.length = f.p0.w.toNat / 8 * (f.p0.h.toNat / 8)) (hws : (ws.length : Int) = (f.p0.w + 63) / 64 * ((f.p0.h + 63) / 64)) (hC : CdefP hd ws L) (hQ : RdB M0 Q qs) (hV : RdI M0 .i64 V ws) (hL : Rd M0 hd.A hd.n 4 (L.map (Value.int .i64)))
    (fin : ∀ M', Pre M0 M' → Bufs M0 M' f ad (foldF f qs ws L hd.damp qs.length) → R (.tuple ⟨[.agg ⟨csL f ad cc⟩, .int .i64 0]⟩, M')) :
    ∀ (e i : Nat) (M : Mem), qs.length - i = e → i ≤ qs.length → Pre M0 M → Bufs M0 M f ad (foldF f qs ws L hd.damp i) →
      Run P T lo F.cdef_Frame (kI V ws.length vc ((f.p0.w.toNat / 8 : Nat) : Int) Q qs.length qc (qs.length : Int) i f hd (csL f ad cc) M) R := by
  have sw : sideP f.p0.w := hw.2.1
  have sh : sideP f.p0.h := hw.2.2.1
  unfold sideP at sw sh
  obtain ⟨W, hW⟩ := Int.eq_ofNat_of_zero_le (a := f.p0.w) (by omega)
  obtain ⟨H, hH⟩ := Int.eq_ofNat_of_zero_le (a := f.p0.h) (by omega)
  have eW : f.p0.w.toNat = W := by omega
  have eH : f.p0.h.toNat = H := by omega
  have hqm : qs.length ≤ 32 * 32 := by rw [hq]; exact Nat.mul_le_mul (by omega) (by omega)
  have hwl : ws.length = (W + 63) / 64 * ((H + 63) / 64) := by
    rw [hW, hH, show ((W : Int) + 63) / 64 = (((W + 63) / 64 : Nat) : Int) by omega, show ((H : Int) + 63) / 64 = (((H + 63) / 64 : Nat) : Int) by omega, ← Int.natCast_mul] at hws
    omega
  have hwm : ws.length ≤ 5 * 5 := by rw [hwl]; exact Nat.mul_le_mul (by omega) (by omega)
  intro e
  induction e with
  | zero =>
    intro i M he hi hp hB
    obtain rfl : i = qs.length := by omega
    refine Run.cut (Evp.of_eq (fun k => cdef_Frame.p2036 k ..) ?_)
    refine Evp.dec (fun g => absurd g (by omega)) fun _ => ?_
    refine Evp.some rfl (Evp.some rfl (Evp.some rfl (Evp.some rfl (Evp.some rfl (Evp.some rfl (Evp.some rfl (Evp.some rfl (Evp.some rfl ?_))))))))
    exact Evp.ret (Run.ret (fin M hp hB))
  | succ e ih =>
    intro i M he hi hp hB
    have on : ∀ M', Pre M0 M' → Bufs M0 M' f ad (foldF f qs ws L hd.damp (i + 1)) → Run P T lo F.cdef_Frame (cdef_Frame.c16295 V ws.length vc ((f.p0.w.toNat / 8 : Nat) : Int) Q qs.length qc (qs.length : Int) i f.p0.w f.p0.h f.p0.A f.p0.xs.length f.p0.c f.p1.w f.p1.h f.p1.A f.p1.xs.length f.p1.c f.p2.w f.p2.h f.p2.A f.p2.xs.length f.p2.c hd.h0 hd.h1 hd.h2 hd.h3 hd.h4 hd.h5 hd.h6 hd.h7 hd.h8 hd.h9 hd.h10 hd.h11 hd.h12 hd.h13 hd.h14 hd.h15 hd.h16 hd.h17 hd.h18 hd.h19 hd.h20 hd.h21 hd.h22 hd.cdef hd.damp hd.h25 hd.A hd.n hd.c hd.h27 hd.h28 hd.h29 0 0 none 0 0 0 0 none 0 0 0 0 none 0 0 (csL f ad cc) M') R := fun M' q1 q2 => by
      refine Run.cut (Evp.of_eq (fun k => cdef_Frame.p16295 k ..) ?_)
      rw [w64 (by omega)]
      exact Evp.ret (ih (i + 1) M' (by omega) (by omega) q1 q2)
    have hiq : i < f.p0.w.toNat / 8 * (f.p0.h.toNat / 8) := by omega
    rw [Nat.mul_comm] at hiq
    obtain ⟨i0, i1, i2, i3⟩ := dm_lt hiq
    refine Run.cut (Evp.of_eq (fun k => cdef_Frame.p2036 k ..) ?_)
    refine Evp.dec (fun _ => ?_) fun g => absurd g (by omega)
    refine Evp.pos (by omega) ?_
    simp only [Int.toNat_natCast]
    refine Evp.ldB (hQ.pre hp) (by omega) fun _ _ => ?_
    refine Evp.bb (fun g => Evp.ret (on M hp ?_)) fun g => ?_
    · show Bufs M0 M f ad (if qs.getD i false = true then foldF f qs ws L hd.damp i else _)
      rw [if_pos g]
      exact hB
    have on2 := fun M' q1 q2 => on M' q1 (show Bufs M0 M' f ad (if qs.getD i false = true then foldF f qs ws L hd.damp i else _) from by rw [if_neg (by rw [g]; decide)]; exact q2)
    clear on
    refine Evp.neg (by omega) (Evp.neg (by omega) ?_)
    have tm : Int.tmod (i : Int) ((f.p0.w.toNat / 8 : Nat) : Int) = ((i % (f.p0.w.toNat / 8) : Nat) : Int) := rfl
    have td : Int.tdiv (i : Int) ((f.p0.w.toNat / 8 : Nat) : Int) = ((i / (f.p0.w.toNat / 8) : Nat) : Int) := rfl
    rw [tm, td]
    rw [eW] at *
    obtain ⟨X, hX⟩ : ∃ X, X = 8 * (i % (W / 8)) := ⟨_, rfl⟩
    obtain ⟨Y, hY⟩ : ∃ Y, Y = 8 * (i / (W / 8)) := ⟨_, rfl⟩
    rw [← hX, ← hY] at on2
    have eX : IntKind.i64.wrap (8 * ((i % (W / 8) : Nat) : Int)) = (X : Int) := by
      rw [w64 (by generalize i % (W / 8) = u at *; omega)]; rw [hX]; generalize i % (W / 8) = u at *; omega
    have eY : IntKind.i64.wrap (8 * (IntKind.i64.wrap ((i / (W / 8) : Nat) : Int))) = (Y : Int) := by
      rw [w64 (x := ((i / (W / 8) : Nat) : Int)) (by generalize i / (W / 8) = u at *; omega), w64 (by generalize i / (W / 8) = u at *; omega)]; rw [hY]; generalize i / (W / 8) = u at *; omega
    rw [eX, eY]
    have bX : X % 8 = 0 ∧ X + 8 ≤ W := by generalize i % (W / 8) = u at *; omega
    have bY : Y % 8 = 0 ∧ Y + 8 ≤ H := by generalize i / (W / 8) = u at *; omega
    clear eX eY tm td
    have bY64 : Y / 64 < (H + 63) / 64 := by omega
    have bX64 : X / 64 < (W + 63) / 64 := by omega
    have hJ : Y / 64 * ((W + 63) / 64) + X / 64 < ws.length := by
      rw [hwl, Nat.mul_comm ((W + 63) / 64)]
      exact dm_in bY64 bX64
    have eJ : IntKind.i64.wrap ((IntKind.i64.wrap ((IntKind.i64.wrap (Int.tdiv (Y : Int) 64)) * (IntKind.i64.wrap (Int.tdiv (IntKind.i64.wrap ((IntKind.i64.wrap (f.p0.w + 64)) - 1)) 64)))) + (IntKind.i64.wrap (Int.tdiv (X : Int) 64))) = ((Y / 64 * ((W + 63) / 64) + X / 64 : Nat) : Int) := by
      rw [hW, w64 (x := (W : Int) + 64) (by omega), w64 (x := (W : Int) + 64 - 1) (by omega), show (W : Int) + 64 - 1 = ((W + 63 : Nat) : Int) by omega, show Int.tdiv ((W + 63 : Nat) : Int) 64 = (((W + 63) / 64 : Nat) : Int) from rfl,
        show Int.tdiv (Y : Int) 64 = ((Y / 64 : Nat) : Int) from rfl, show Int.tdiv (X : Int) 64 = ((X / 64 : Nat) : Int) from rfl, w64 (x := (((W + 63) / 64 : Nat) : Int)) (by omega), w64 (x := ((Y / 64 : Nat) : Int)) (by omega), w64 (x := ((X / 64 : Nat) : Int)) (by omega), ← Int.natCast_mul]
      generalize Y / 64 * ((W + 63) / 64) = u at *
      rw [w64 (x := (u : Int)) (by omega), w64 (by omega)]; omega
    rw [eJ]
    generalize Y / 64 * ((W + 63) / 64) + X / 64 = J at *
    refine Evp.pos (by omega) ?_
    simp only [Int.toNat_natCast]
    refine Evp.ldI (hV.pre hp) hJ fun _ _ => ?_
    have hJ4 := hC.2.2.2 J hJ
    refine Evp.pos (by omega) ?_
    obtain ⟨q, hq'⟩ : ∃ q, q = (ws.getD J 0).toNat := ⟨_, rfl⟩
    rw [← hq'] at on2 ⊢
    have hqn : q < hd.n := by omega
    obtain ⟨a, ea, l0, l1, l2, l3⟩ := ldS (hL.pre hp) (i := q) hqn
    have sq := hC.2.2.1 q hqn
    refine Evp.some ea (Evp.some l0 (Evp.some l1 (Evp.some l2 (Evp.some l3 ?_))))
    refine Evp.ob (pcut_ok lo f.p0.w f.p0.h f.p0.A f.p0.c f.p0.xs X Y 8 8 M ((hf.rd 0 (by omega)).pre hp) (hf.cap 0 (by omega)) (Nat.le_trans hlo hp.len)) ?_
    rintro ⟨v, M2⟩ ⟨p2, hb⟩
    rw [if_pos ⟨hf.chk 0 (by omega), show WithinP f.p0.w f.p0.h X Y 8 8 from ⟨by decide, by decide, by omega, by omega, by omega, by omega⟩⟩] at hb
    obtain ⟨B, cb, e', gB, _⟩ := hb
    have e8 : cutS f.p0.w.toNat f.p0.xs (X : Int).toNat (Y : Int).toNat (8 : Int).toNat ((8 : Int).toNat * (8 : Int).toNat) = cut8 f X Y := rfl
    rw [e8] at e' gB
    simp only at e' gB p2
    subst e'
    simp only [ret_int, ret_bool, ret_flt, ret_slc, ret_str, ret_ptr, ret_agg, ret_tup, ob_some, bb_true, bb_false, List.getElem?_cons_zero, List.getElem?_cons_succ, List.length_cons, List.length_nil, Nat.reduceAdd, Nat.reduceLT]
    refine Evp.neb (fun g => absurd rfl g) fun _ => ?_
    have rB : RdI M2 .u8 B (cut8 f X Y) := gB.rd
    refine Evp.ob (direction_ok lo B cb (cut8 f X Y) M2 rB (cut8_bytes (hf.by_ 0 (by omega)) X Y)) ?_
    rintro _ rfl
    rw [if_pos (cut8_len f X Y)]
    simp only [ret_int, ret_bool, ret_flt, ret_slc, ret_str, ret_ptr, ret_agg, ret_tup, ob_some, bb_true, bb_false, List.getElem?_cons_zero, List.getElem?_cons_succ, List.length_cons, List.length_nil, Nat.reduceAdd, Nat.reduceLT]
    refine Evp.ret ?_
    exact prog_planes lo f V Q ws.length vc qs.length qc hd M0 ad cc R hlo hf hcc hw h8 v8 _ _ _ X Y ⟨bX.1, by omega⟩ ⟨bY.1, by omega⟩ _ _ _ _ sq hC.1 _ M2 (hp.trans p2) (hB.pre p2) on2
end
abbrev zeroF : List Value := [.int .i64 0, .int .i64 0, .slice none 0 0, .int .i64 0, .int .i64 0, .slice none 0 0, .int .i64 0, .int .i64 0, .slice none 0 0]
def outF (f : Fr3) (qs : List Bool) (ws : List Int) (hd : Hd) (L : List Int) : Nat → List Int := if hd.cdef = true then foldF f qs ws L hd.damp qs.length else fun n => (f.at n).xs
/-- What Frame hands back. -/
def FrameR (f : Fr3) (qs : List Bool) (ws : List Int) (hd : Hd) (L : List Int) (M : Mem) (r : Value × Mem) : Prop :=
  Pre M r.2 ∧ ((MayP f qs.length ws hd L ∧ ∃ ad cc, r.1 = .tuple ⟨[.agg ⟨csL f ad cc⟩, .int .i64 0]⟩ ∧ (∀ n, n < 3 → (f.at n).xs.length ≤ cc n) ∧ Bufs M r.2 f ad (outF f qs ws hd L)) ∨ (¬ MayP f qs.length ws hd L ∧ r.1 = .tuple ⟨[.agg ⟨zeroF⟩, .int .i64 2]⟩))
def pick3 {α : Type} (a b c : α) : Nat → α
  | 0 => a
  | 1 => b
  | _ => c
theorem bufs_of {M0 M1 M2 M3 : Mem} {f : Fr3} (hf : FrOk M0 f) {A0 A1 A2 : Option Addr} (p1 : Pre M0 M1) (p2 : Pre M1 M2) (p3 : Pre M2 M3) (o0 : OwnM M0 M1 A0 f.p0.xs) (o1 : OwnM M1 M2 A1 f.p1.xs) (o2 : OwnM M2 M3 A2 f.p2.xs) :
    ∃ a0 a1 a2, A0 = some a0 ∧ A1 = some a1 ∧ A2 = some a2 ∧ Bufs M0 M3 f (pick3 a0 a1 a2) fun n => (f.at n).xs := by
  have pos : ∀ n, n < 3 → (f.at n).xs ≠ [] := fun n hn e => by
    have := checkS_len' (hf.chk n hn)
    have a := area ⟨this.1, this.2.1, this.2.2.1, this.2.2.2.1⟩
    have h := this.2.2.2.2
    rw [e] at h
    simp only [List.length_nil] at h
    omega
  rcases o0 with e | ⟨a0, e0, b0⟩
  · exact absurd e (pos 0 (by omega))
  rcases o1 with e | ⟨a1, e1, b1⟩
  · exact absurd e (pos 1 (by omega))
  rcases o2 with e | ⟨a2, e2, b2⟩
  · exact absurd e (pos 2 (by omega))
  have i0 := b0.in_
  have i1 := b1.in_
  have n1 := b1.new
  have n2 := b2.new
  have l1 := p1.len
  have l2 := p2.len
  have ne : a0.block ≠ a1.block ∧ a0.block ≠ a2.block ∧ a1.block ≠ a2.block := ⟨by omega, by omega, by omega⟩
  refine ⟨a0, a1, a2, e0, e1, e2, fun n hn => ?_, fun _ _ => rfl, fun m n hm hn hmn => ?_⟩
  · rcases lt3 hn with rfl | rfl | rfl
    · exact b0.pre (p2.trans p3)
    · exact (b1.floor l1).pre p3
    · exact b2.floor (by omega)
  · rcases lt3 hm with rfl | rfl | rfl <;> rcases lt3 hn with rfl | rfl | rfl
    · exact absurd rfl hmn
    · exact ne.1
    · exact ne.2.1
    · exact ne.1.symm
    · exact absurd rfl hmn
    · exact ne.2.2
    · exact ne.2.1.symm
    · exact ne.2.2.symm
    · exact absurd rfl hmn
section
variable (lo : Nat) (f : Fr3) (Q V : Option Addr) (qc vc : Nat) (qs : List Bool) (ws : List Int) (hd : Hd) (L : List Int) (M : Mem)
variable (hlo : lo ≤ M.length) (hf : FrIn M f) (hQ : RdB M Q qs) (hV : RdI M .i64 V ws) (hn : ws.length ≤ 17592186043904) (hL : Rd M hd.A hd.n 4 (L.map (Value.int .i64)))
include hlo hf hQ hV hn hL
theorem cframe_ok : Ac P T lo F.cdef_Frame [.agg ⟨f.cells⟩, .slice Q qs.length qc, .slice V ws.length vc, .agg ⟨hd.cells⟩] M (FrameR f qs ws hd L M) := by
  refine Ac.of (Evp.of_eq (fun k => cdef_Frame.entry k ..) ?_)
  refine Evp.ob (may_ok lo f Q V qs.length qc vc ws hd L M hV hn hL) ?_
  rintro _ ⟨b, M0, rfl, p0, hb⟩
  simp only [ret_int, ret_bool, ret_flt, ret_slc, ret_str, ret_ptr, ret_agg, ret_tup, ob_some, bb_true, bb_false, List.getElem?_cons_zero, List.getElem?_cons_succ, List.length_cons, List.length_nil, Nat.reduceAdd, Nat.reduceLT]
  refine Evp.nb (fun g => ?_) fun g => ?_
  · have hm : ¬ MayP f qs.length ws hd L := fun e => by rw [hb.2 e] at g; cases g
    exact Evp.ret (Run.ret ⟨p0, .inr ⟨hm, rfl⟩⟩)
  have hm := hb.1 g
  have hw := hm.1
  have hf0 := (hf.ok hw).pre p0
  have sm : ∀ n, n < 3 → (f.at n).xs.length ≤ 140737488351232 := fun n hn => by
    have := checkS_len' (hf0.chk n hn)
    have a := area ⟨this.1, this.2.1, this.2.2.1, this.2.2.2.1⟩
    have h := this.2.2.2.2
    omega
  have hlo0 := Nat.le_trans hlo p0.len
  refine Evp.ret ?_
  refine Run.cut (Evp.of_eq (fun k => cdef_Frame.p244 k ..) ?_)
  refine Evp.tt rfl (Evp.pos (by decide) (Evp.some rfl ?_))
  refine Evp.ob (cloneAny_ok lo f.p0.A f.p0.c f.p0.xs M0 (hf0.rd 0 (by omega)) (sm 0 (by omega)) hlo0) ?_
  rintro _ ⟨A0, c0, M1, rfl, p1, k0, o0⟩
  simp only [ret_int, ret_bool, ret_flt, ret_slc, ret_str, ret_ptr, ret_agg, ret_tup, ob_some, bb_true, bb_false, List.getElem?_cons_zero, List.getElem?_cons_succ, List.length_cons, List.length_nil, Nat.reduceAdd, Nat.reduceLT]
  refine Evp.pos (by decide) (Evp.pos (Nat.le_of_ble_eq_true rfl) ?_)
  rw [show IntKind.i64.wrap (0 + 1) = 1 from by decide]
  refine Evp.ret ?_
  refine Run.cut (Evp.of_eq (fun k => cdef_Frame.p244 k ..) ?_)
  refine Evp.tt rfl (Evp.pos (by decide) (Evp.some rfl ?_))
  refine Evp.ob (cloneAny_ok lo f.p1.A f.p1.c f.p1.xs M1 ((hf0.rd 1 (by omega)).pre p1) (sm 1 (by omega)) (Nat.le_trans hlo0 p1.len)) ?_
  rintro _ ⟨A1, c1, M2, rfl, p2, k1, o1⟩
  simp only [ret_int, ret_bool, ret_flt, ret_slc, ret_str, ret_ptr, ret_agg, ret_tup, ob_some, bb_true, bb_false, List.getElem?_cons_zero, List.getElem?_cons_succ, List.length_cons, List.length_nil, Nat.reduceAdd, Nat.reduceLT]
  refine Evp.pos (by decide) (Evp.pos (Nat.le_of_ble_eq_true rfl) ?_)
  rw [show IntKind.i64.wrap (1 + 1) = 2 from by decide]
  refine Evp.ret ?_
  refine Run.cut (Evp.of_eq (fun k => cdef_Frame.p244 k ..) ?_)
  refine Evp.tt rfl (Evp.pos (by decide) (Evp.some rfl ?_))
  refine Evp.ob (cloneAny_ok lo f.p2.A f.p2.c f.p2.xs M2 ((hf0.rd 2 (by omega)).pre (p1.trans p2)) (sm 2 (by omega)) (Nat.le_trans hlo0 (p1.trans p2).len)) ?_
  rintro _ ⟨A2, c2, M3, rfl, p3, k2, o2⟩
  simp only [ret_int, ret_bool, ret_flt, ret_slc, ret_str, ret_ptr, ret_agg, ret_tup, ob_some, bb_true, bb_false, List.getElem?_cons_zero, List.getElem?_cons_succ, List.length_cons, List.length_nil, Nat.reduceAdd, Nat.reduceLT]
  refine Evp.pos (by decide) (Evp.pos (Nat.le_of_ble_eq_true rfl) ?_)
  rw [show IntKind.i64.wrap (2 + 1) = 3 from by decide]
  obtain ⟨a0, a1, a2, rfl, rfl, rfl, hB⟩ := bufs_of hf0 p1 p2 p3 o0 o1 o2
  have p03 := (p1.trans p2).trans p3
  have hcc : ∀ n, n < 3 → (f.at n).xs.length ≤ pick3 c0 c1 c2 n := fun n hn => by
    rcases lt3 hn with rfl | rfl | rfl
    · exact k0
    · exact k1
    · exact k2
  refine Evp.ret ?_
  refine Run.cut (Evp.of_eq (fun k => cdef_Frame.p244 k ..) ?_)
  refine Evp.ff rfl ?_
  refine Evp.nb (fun gc => ?_) fun gc => ?_
  · refine Evp.some rfl (Evp.some rfl (Evp.some rfl (Evp.some rfl (Evp.some rfl (Evp.some rfl (Evp.some rfl (Evp.some rfl (Evp.some rfl ?_))))))))
    refine Evp.ret (Run.ret ⟨p0.trans p03, .inl ⟨hm, pick3 a0 a1 a2, pick3 c0 c1 c2, rfl, hcc, ?_⟩⟩)
    unfold outF
    rw [if_neg (by rw [gc]; decide)]
    exact ⟨fun n hn => (hB.buf n hn).floor p0.len, hB.len, hB.ne⟩
  · have hC := hm.2.2.2.2.2 gc
    have sw : sideP f.p0.w := hw.2.1
    have sh : sideP f.p0.h := hw.2.2.1
    unfold sideP at sw sh
    have hq : qs.length = f.p0.w.toNat / 8 * (f.p0.h.toNat / 8) := by
      have := hm.2.2.2.1
      obtain ⟨W, hW⟩ := Int.eq_ofNat_of_zero_le (a := f.p0.w) (by omega)
      obtain ⟨H, hH⟩ := Int.eq_ofNat_of_zero_le (a := f.p0.h) (by omega)
      rw [hW, hH, show (W : Int) / 8 = ((W / 8 : Nat) : Int) by omega, show (H : Int) / 8 = ((H / 8 : Nat) : Int) by omega, ← Int.natCast_mul] at this
      rw [hW, hH]
      simp only [Int.toNat_natCast]
      omega
    have eac : IntKind.i64.wrap (Int.tdiv f.p0.w 8) = ((f.p0.w.toNat / 8 : Nat) : Int) := by
      rw [Int.tdiv_eq_ediv_of_nonneg (by omega), w64 (by omega)]; omega
    rw [eac]
    refine Evp.ret ?_
    refine prog_blocks lo f V Q vc qc hd M0 (pick3 a0 a1 a2) (pick3 c0 c1 c2) (FrameR f qs ws hd L M) hlo0 hf0 hcc hw hm.2.1 hm.2.2.1 qs ws L hq hm.2.2.2.2.1 hC (hQ.pre p0) (hV.pre p0) (hL.pre p0) (fun M' q1 q2 => ⟨p0.trans q1, .inl ⟨hm, pick3 a0 a1 a2, pick3 c0 c1 c2, rfl, hcc, ?_⟩⟩) qs.length 0 M3 rfl (Nat.zero_le _) p03 hB
    unfold outF
    rw [if_pos gc]
    exact ⟨fun n hn => (q2.buf n hn).floor p0.len, q2.len, q2.ne⟩
end
end Go.Zt
