/- The document's sample and Block; CdefBlocks. -/
import Derived.Test.YtkbdmbjhgomaiaaFk
set_option linter.unusedVariables false
set_option linter.unusedSimpArgs false
set_option maxRecDepth 100000
namespace Go.Zt
theorem both_b {w h : Nat} {xs : List Int} (bx : Bytes xs) {x y v p : Int} {T : List Int} (hT : TapB T) {t : Nat} (ht : t < 6) {n : Nat} {s : S3} (hs : S3B v n s) : S3B v (n + 2) (bothS w h xs x y v p T t s) :=
  ask_b bx hT ht (ask_b bx hT ht hs)
theorem tap_vals {dir pri sec k : Nat} (hd : dir < 8) (hk : k < 2) :
    (tR (tapsS dir pri sec) (3 * k) = alongL.getD (dir % 8 * 4 + k * 2) 0 ∧ tC (tapsS dir pri sec) (3 * k) = alongL.getD (dir % 8 * 4 + k * 2 + 1) 0 ∧ tS (tapsS dir pri sec) (3 * k) = pri ∧ tM (tapsS dir pri sec) (3 * k) = timesN pri k) ∧
    (tR (tapsS dir pri sec) (3 * k + 1) = alongL.getD ((dir + 2) % 8 * 4 + k * 2) 0 ∧ tC (tapsS dir pri sec) (3 * k + 1) = alongL.getD ((dir + 2) % 8 * 4 + k * 2 + 1) 0 ∧ tS (tapsS dir pri sec) (3 * k + 1) = sec ∧ tM (tapsS dir pri sec) (3 * k + 1) = 2 - (k : Int)) ∧
    (tR (tapsS dir pri sec) (3 * k + 2) = alongL.getD ((dir + 6) % 8 * 4 + k * 2) 0 ∧ tC (tapsS dir pri sec) (3 * k + 2) = alongL.getD ((dir + 6) % 8 * 4 + k * 2 + 1) 0 ∧ tS (tapsS dir pri sec) (3 * k + 2) = sec ∧ tM (tapsS dir pri sec) (3 * k + 2) = 2 - (k : Int)) := by
  rw [Nat.mod_eq_of_lt hd]
  have : k = 0 ∨ k = 1 := by omega
  rcases this with rfl | rfl
  · exact ⟨⟨rfl, rfl, rfl, rfl⟩, ⟨rfl, rfl, rfl, rfl⟩, rfl, rfl, rfl, rfl⟩
  · exact ⟨⟨rfl, rfl, rfl, rfl⟩, ⟨rfl, rfl, rfl, rfl⟩, rfl, rfl, rfl, rfl⟩
theorem step_pick (d k : Nat) (hk : k < 2) :
    (([.int .i64 (alongL.getD (d % 8 * 4) 0), .int .i64 (alongL.getD (d % 8 * 4 + 1) 0), .int .i64 (alongL.getD (d % 8 * 4 + 2) 0), .int .i64 (alongL.getD (d % 8 * 4 + 3) 0)] : List Value)[k * 2 + 0]?).bind (Value.int? .i64) = some (alongL.getD (d % 8 * 4 + k * 2) 0) ∧
    (([.int .i64 (alongL.getD (d % 8 * 4) 0), .int .i64 (alongL.getD (d % 8 * 4 + 1) 0), .int .i64 (alongL.getD (d % 8 * 4 + 2) 0), .int .i64 (alongL.getD (d % 8 * 4 + 3) 0)] : List Value)[k * 2 + 1]?).bind (Value.int? .i64) = some (alongL.getD (d % 8 * 4 + k * 2 + 1) 0) := by
  have : k = 0 ∨ k = 1 := by omega
  rcases this with rfl | rfl
  · exact ⟨rfl, rfl⟩
  · exact ⟨rfl, rfl⟩
section
variable (lo : Nat) (w h : Nat) (A : Option Addr) (cap : Nat) (xs : List Int) (x y : Nat) (p : Int) (M0 : Mem) (dir pri sec : Nat)
variable (hlo : lo ≤ M0.length) (hx : RdI M0 .u8 A xs) (bx : Bytes xs) (hw : 1 ≤ w ∧ w ≤ 512) (hh : 1 ≤ h ∧ h ≤ 512) (hl : xs.length = h * w) (hxw : x < w) (hyh : y < h) (hd : dir < 8)
include hlo hx bx hw hh hl hxw hyh hd
theorem half_ok (a : Addr) (v : Int) (ev : v = atP w xs x y) (k : Nat) (hk : k < 2) (s : S3) (hs : S3B v (6 * k) s) (M : Mem) (hp : Pre M0 M) (hb : Buf M0 M a (boxS w h A xs.length cap x y s)) (Q : Value × Mem → Prop)
    (next : ∀ M', Pre M0 M' → Buf M0 M' a (boxS w h A xs.length cap x y (bothS w h xs x y v p (tapsS dir pri sec) (3 * k + 1) (bothS w h xs x y v p (tapsS dir pri sec) (3 * k + 2) (bothS w h xs x y v p (tapsS dir pri sec) (3 * k) s)))) →
      Run P Zt.T lo F.zoetroperef23_sample (zoetroperef23_sample.c500 dir pri sec p v a ((k + 1 : Nat) : Int) M') Q) :
    Run P Zt.T lo F.zoetroperef23_sample (zoetroperef23_sample.c16019 dir pri sec p v a k (timesN pri k) M) Q := by
  have hT := tapsS_b (dir := dir) (pri := pri) (sec := sec) hd
  obtain ⟨⟨r0, c0, s0, m0⟩, ⟨r1, c1, s1, m1⟩, r2, c2, s2, m2⟩ := tap_vals (pri := pri) (sec := sec) hd hk
  have asks := fun (t : Nat) (ht : t < 6) => ask_ok lo w h A cap xs (tapsS dir pri sec) x y p M0 a hlo hx bx hT hw hh hl hxw hyh v ev t ht
  refine Run.cut (Evp.of_eq (fun k => zoetroperef23_sample.p16019 k ..) ?_)
  refine Evp.ob (steps_ok lo dir M (by omega)) ?_
  rintro _ ⟨M1, p1, rfl⟩
  simp only [ret_int, ret_bool, ret_flt, ret_slc, ret_str, ret_ptr, ret_agg, ret_tup, ob_some, bb_true, bb_false, List.getElem?_cons_zero, List.getElem?_cons_succ, List.length_cons, List.length_nil, Nat.reduceAdd, Nat.reduceLT]
  refine Evp.pos (by omega) ?_
  simp only [Int.toNat_natCast]
  refine Evp.some (step_pick dir k hk).1 (Evp.some (step_pick dir k hk).2 ?_)
  have A0 := asks (3 * k) (by omega) (6 * k) (by omega) s hs M1 (hp.trans p1) (hb.pre p1)
  rw [r0, c0, s0, m0] at A0
  refine Evp.ob A0 ?_
  rintro _ ⟨M2, rfl, p2, b2⟩
  have e2 := both_b (w := w) (h := h) bx (x := x) (y := y) (p := p) hT (t := 3 * k) (by omega) hs
  generalize bothS w h xs x y v p (tapsS dir pri sec) (3 * k) s = q2 at *
  simp only [ret_int, ret_bool, ret_flt, ret_slc, ret_str, ret_ptr, ret_agg, ret_tup, ob_some, bb_true, bb_false, List.getElem?_cons_zero, List.getElem?_cons_succ, List.length_cons, List.length_nil, Nat.reduceAdd, Nat.reduceLT]
  rw [w64 (x := (dir : Int) + 6) (by omega), show (dir : Int) + 6 = ((dir + 6 : Nat) : Int) by omega]
  refine Evp.ob (steps_ok lo (dir + 6) M2 (by omega)) ?_
  rintro _ ⟨M3, p3, rfl⟩
  simp only [ret_int, ret_bool, ret_flt, ret_slc, ret_str, ret_ptr, ret_agg, ret_tup, ob_some, bb_true, bb_false, List.getElem?_cons_zero, List.getElem?_cons_succ, List.length_cons, List.length_nil, Nat.reduceAdd, Nat.reduceLT]
  refine Evp.pos (by omega) ?_
  refine Evp.some (step_pick (dir + 6) k hk).1 (Evp.some (step_pick (dir + 6) k hk).2 ?_)
  rw [w64 (x := 2 - (k : Int)) (by omega)]
  have A1 := asks (3 * k + 2) (by omega) (6 * k + 2) (by omega) q2 e2 M3 (p2.trans p3) (b2.pre p3)
  rw [r2, c2, s2, m2] at A1
  refine Evp.ob A1 ?_
  rintro _ ⟨M4, rfl, p4, b4⟩
  have e4 := both_b (w := w) (h := h) bx (x := x) (y := y) (p := p) hT (t := 3 * k + 2) (by omega) e2
  generalize bothS w h xs x y v p (tapsS dir pri sec) (3 * k + 2) q2 = q4 at *
  simp only [ret_int, ret_bool, ret_flt, ret_slc, ret_str, ret_ptr, ret_agg, ret_tup, ob_some, bb_true, bb_false, List.getElem?_cons_zero, List.getElem?_cons_succ, List.length_cons, List.length_nil, Nat.reduceAdd, Nat.reduceLT]
  rw [w64 (x := (dir : Int) + 2) (by omega), show (dir : Int) + 2 = ((dir + 2 : Nat) : Int) by omega]
  refine Evp.ob (steps_ok lo (dir + 2) M4 (by omega)) ?_
  rintro _ ⟨M5, p5, rfl⟩
  simp only [ret_int, ret_bool, ret_flt, ret_slc, ret_str, ret_ptr, ret_agg, ret_tup, ob_some, bb_true, bb_false, List.getElem?_cons_zero, List.getElem?_cons_succ, List.length_cons, List.length_nil, Nat.reduceAdd, Nat.reduceLT]
  refine Evp.pos (by omega) ?_
  refine Evp.some (step_pick (dir + 2) k hk).1 (Evp.some (step_pick (dir + 2) k hk).2 ?_)
  have A2 := asks (3 * k + 1) (by omega) (6 * k + 4) (by omega) q4 e4 M5 (p4.trans p5) (b4.pre p5)
  rw [r1, c1, s1, m1] at A2
  refine Evp.ob A2 ?_
  rintro _ ⟨M6, rfl, p6, b6⟩
  simp only [ret_int, ret_bool, ret_flt, ret_slc, ret_str, ret_ptr, ret_agg, ret_tup, ob_some, bb_true, bb_false, List.getElem?_cons_zero, List.getElem?_cons_succ, List.length_cons, List.length_nil, Nat.reduceAdd, Nat.reduceLT]
  rw [w64 (x := (k : Int) + 1) (by omega)]
  exact Evp.ret (next M6 p6 b6)
theorem rsample_ok : Ac P Zt.T lo F.zoetroperef23_sample [.agg ⟨[.int .i64 w, .int .i64 h, .slice A xs.length cap]⟩, .int .i64 x, .int .i64 y, .agg ⟨[.int .i64 dir, .int .i64 pri, .int .i64 sec, .int .i64 p]⟩] M0 fun r => ∃ M', r = (.int .u8 (sampS w h xs x y p (tapsS dir pri sec)), M') ∧ Pre M0 M' := by
  have hT := tapsS_b (dir := dir) (pri := pri) (sec := sec) hd
  have sm : h * w ≤ 512 * 512 := Nat.mul_le_mul hh.2 hw.2
  have hlt : y * w + x < h * w := by
    have : (y + 1) * w ≤ h * w := Nat.mul_le_mul_right w (by omega)
    rw [Nat.add_mul, Nat.one_mul] at this
    omega
  have ei : IntKind.i64.wrap ((IntKind.i64.wrap ((y : Int) * w)) + (x : Int)) = ((y * w + x : Nat) : Int) := by
    rw [← Int.natCast_mul, w64 (x := ((y * w : Nat) : Int)) (by omega), w64 (by omega)]; omega
  have en : atP w xs x y = xs.getD (y * w + x) 0 := by
    unfold atP
    rw [show ((y : Int) * w + x).toNat = y * w + x by rw [← Int.natCast_mul]; omega]
  have bb := bx.get (y * w + x)
  refine Ac.of (Evp.of_eq (fun k => zoetroperef23_sample.entry k ..) ?_)
  rw [ei]
  refine Evp.pos (by omega) ?_
  simp only [Int.toNat_natCast]
  refine Evp.ldI hx (by omega) fun _ _ => ?_
  rw [w64 (by omega), ← en]
  have hv : 0 ≤ atP w xs x y ∧ atP w xs x y ≤ 255 := by rw [en]; exact bb
  obtain ⟨v, ev⟩ : ∃ v, v = atP w xs x y := ⟨_, rfl⟩
  have hs0 : sampS w h xs x y p (tapsS dir pri sec) = outS v (foldS w h xs x y v p (tapsS dir pri sec) 6) := by rw [ev]; rfl
  rw [← ev] at hv ⊢
  rw [hs0, fold_doc]
  have b0 : Buf M0 (M0 ++ [⟨.fx, boxS w h A xs.length cap x y ⟨0, v, v⟩⟩] : Mem) ⟨M0.length, 0, none⟩ (boxS w h A xs.length cap x y ⟨0, v, v⟩) := Buf.push (Pre.refl _)
  have sb0 : S3B v 0 ⟨0, v, v⟩ := ⟨by simp, by simp, hv.1, Int.le_refl _, Int.le_refl _, hv.2⟩
  have turn : ∀ (k : Nat) (a : Addr) (s : S3) (M : Mem) (Q : Value × Mem → Prop), k < 2 → S3B v (6 * k) s → Pre M0 M → Buf M0 M a (boxS w h A xs.length cap x y s) →
      (∀ M', Pre M0 M' → Buf M0 M' a (boxS w h A xs.length cap x y (bothS w h xs x y v p (tapsS dir pri sec) (3 * k + 1) (bothS w h xs x y v p (tapsS dir pri sec) (3 * k + 2) (bothS w h xs x y v p (tapsS dir pri sec) (3 * k) s)))) →
        Run P Zt.T lo F.zoetroperef23_sample (zoetroperef23_sample.c500 dir pri sec p v a ((k + 1 : Nat) : Int) M') Q) →
      Run P Zt.T lo F.zoetroperef23_sample (zoetroperef23_sample.c500 dir pri sec p v a (k : Int) M) Q := fun k a s M Q hk hs hp hb next => by
    have H := half_ok lo w h A cap xs x y p M0 dir pri sec hlo hx bx hw hh hl hxw hyh hd a v ev k hk s hs M hp hb Q next
    have tm : Int.tmod (pri : Int) 2 = ((pri % 2 : Nat) : Int) := rfl
    have e2 : IntKind.i64.wrap (4 - IntKind.i64.wrap (2 * (k : Int))) = 4 - 2 * (k : Int) := by rw [w64 (x := 2 * (k : Int)) (by omega), w64 (by omega)]
    refine Run.cut (Evp.of_eq (fun k => zoetroperef23_sample.p500 k ..) ?_)
    rw [tm, e2]
    refine Evp.dec (fun _ => ?_) fun g => absurd g (by omega)
    refine Evp.eqb (fun g => Evp.ret ?_) fun g => Evp.ret ?_
    · have : timesN pri k = 3 := by unfold timesN; rw [if_pos (by omega)]
      rw [this] at H
      exact H
    · have : timesN pri k = 4 - 2 * (k : Int) := by
        unfold timesN
        rw [if_neg (by omega)]
        split <;> omega
      rw [this] at H
      exact H
  refine Evp.ret (turn 0 _ _ _ _ (by omega) sb0 (Pre.app _ _) b0 fun M1 p1 b1 => ?_)
  have sb1 := both_b (w := w) (h := h) bx (x := x) (y := y) (p := p) hT (t := 1) (by omega) (both_b (w := w) (h := h) bx (x := x) (y := y) (p := p) hT (t := 2) (by omega) (both_b (w := w) (h := h) bx (x := x) (y := y) (p := p) hT (t := 0) (by omega) sb0))
  refine turn 1 _ _ _ _ (by omega) sb1 p1 b1 fun M2 p2 b2 => ?_
  have sb2 := both_b (w := w) (h := h) bx (x := x) (y := y) (p := p) hT (t := 4) (by omega) (both_b (w := w) (h := h) bx (x := x) (y := y) (p := p) hT (t := 5) (by omega) (both_b (w := w) (h := h) bx (x := x) (y := y) (p := p) hT (t := 3) (by omega) sb1))
  have b2 : Buf M0 M2 ⟨M0.length, 0, none⟩ (boxS w h A xs.length cap x y (bothS w h xs x y v p (tapsS dir pri sec) 4 (bothS w h xs x y v p (tapsS dir pri sec) 5 (bothS w h xs x y v p (tapsS dir pri sec) 3 (bothS w h xs x y v p (tapsS dir pri sec) 1 (bothS w h xs x y v p (tapsS dir pri sec) 2 (bothS w h xs x y v p (tapsS dir pri sec) 0 ⟨0, v, v⟩))))))) := b2
  generalize bothS w h xs x y v p (tapsS dir pri sec) 4 (bothS w h xs x y v p (tapsS dir pri sec) 5 (bothS w h xs x y v p (tapsS dir pri sec) 3 (bothS w h xs x y v p (tapsS dir pri sec) 1 (bothS w h xs x y v p (tapsS dir pri sec) 2 (bothS w h xs x y v p (tapsS dir pri sec) 0 ⟨0, v, v⟩))))) = s at *
  have g5 : M2.ld (plus ⟨M0.length, 0, none⟩ 5) = some (.int .i64 s.sum) := b2.cell (i := 5) (by show 5 < 8; decide)
  have g6 : M2.ld (plus ⟨M0.length, 0, none⟩ 6) = some (.int .i64 s.low) := b2.cell (i := 6) (by show 6 < 8; decide)
  have g7 : M2.ld (plus ⟨M0.length, 0, none⟩ 7) = some (.int .i64 s.top) := b2.cell (i := 7) (by show 7 < 8; decide)
  have ol := out_le sb2
  obtain ⟨a1, a2, a3, a4, a5, a6⟩ := sb2
  have last : ∀ q : Int, (0 ≤ q ∧ q ≤ 1) → s.sum - q = (if s.sum < 0 then s.sum - 1 else s.sum) → Run P Zt.T lo F.zoetroperef23_sample (zoetroperef23_sample.c255 v ⟨M0.length, 0, none⟩ q M2) fun r => ∃ M', r = (.int .u8 (outS v s), M') ∧ Pre M0 M' := fun q hq he => by
    refine Run.cut (Evp.of_eq (fun k => zoetroperef23_sample.p255 k ..) ?_)
    rw [g5, g6, g7]
    refine Evp.some rfl (Evp.some rfl (Evp.some rfl ?_))
    rw [w64 (x := 8 + s.sum) (by omega), w64 (x := 8 + s.sum - q) (by omega), shr_eq 4 (by omega), show ((2 : Int) ^ 4) = 16 from rfl, w64 (by omega)]
    refine Evp.ob (clip_ok lo _ _ _ M2) ?_
    rintro _ rfl
    simp only [ret_int, ret_bool, ret_flt, ret_slc, ret_str, ret_ptr, ret_agg, ret_tup, ob_some, bb_true, bb_false, List.getElem?_cons_zero, List.getElem?_cons_succ, List.length_cons, List.length_nil, Nat.reduceAdd, Nat.reduceLT]
    refine Evp.ret (Run.ret ⟨M2, ?_, p2⟩)
    have : clipS (v + (8 + s.sum - q) / 16) s.low s.top = outS v s := by
      unfold outS
      rw [← he, show 8 + s.sum - q = 8 + (s.sum - q) by omega]
    rw [this, wu8 (by omega)]
  refine Run.cut (Evp.of_eq (fun k => zoetroperef23_sample.p500 k ..) ?_)
  refine Evp.dec (fun g => absurd g (by decide)) fun _ => ?_
  rw [g5]
  refine Evp.some rfl (Evp.dec (fun g => Evp.ret (last 1 (by omega) (by rw [if_pos g]))) fun g => Evp.ret (last 0 (by omega) (by rw [if_neg g]; omega)))
end
theorem rwithin_ok (lo : Nat) (w h : Int) (A : Option Addr) (n c : Nat) (x y rw' rh : Int) (M : Mem) (hw : 1 ≤ w ∧ w ≤ 512) (hh : 1 ≤ h ∧ h ≤ 512) (h1 : 1 ≤ rw' ∧ rw' ≤ 64) (h2 : 1 ≤ rh ∧ rh ≤ 64) :
    Ac P T lo F.zoetroperef05_Within [.agg ⟨[.int .i64 w, .int .i64 h, .slice A n c]⟩, .agg ⟨[.int .i64 x, .int .i64 y, .int .i64 rw', .int .i64 rh]⟩] M fun r => r = (.bool (decide ((0 ≤ x ∧ x ≤ w - rw') ∧ (0 ≤ y ∧ y ≤ h - rh))), M) := by
  have no : ¬ ((0 ≤ x ∧ x ≤ w - rw') ∧ (0 ≤ y ∧ y ≤ h - rh)) → Evp (fun k => some (.ret (.bool false) M)) fun out => Run P T lo F.zoetroperef05_Within out fun r => r = (.bool (decide ((0 ≤ x ∧ x ≤ w - rw') ∧ (0 ≤ y ∧ y ≤ h - rh))), M) := fun g => Evp.ret (Run.ret (by rw [decide_eq_false g]))
  refine Ac.of (Evp.of_eq (fun k => zoetroperef05_Within.entry k ..) ?_)
  rw [w64 (x := w - rw') (by omega), w64 (x := h - rh) (by omega)]
  refine Evp.dec (fun _ => ?_) fun g => absurd h1.1 g
  refine Evp.dec (fun _ => ?_) fun g => absurd h2.1 g
  refine Evp.dec (fun g3 => ?_) fun g => no fun e => g e.1.1
  refine Evp.dec (fun g4 => ?_) fun g => no fun e => g e.2.1
  refine Evp.dec (fun g5 => ?_) fun g => no fun e => by omega
  refine Evp.dec (fun g6 => ?_) fun g => no fun e => by omega
  refine Evp.dec (fun g7 => ?_) fun g => no fun e => g e.1.2
  refine Evp.ret (Run.ret ?_)
  congr 2
  exact decide_eq_decide.2 ⟨fun e => ⟨⟨g3, g7⟩, g4, e⟩, fun e => e.2.2⟩
section
variable (lo : Nat) (A : Option Addr) (c : Nat) (xs : List Int) (w h : Int) (x y rw' rh dir pri sec p : Int) (M : Mem) (hlo : lo ≤ M.length) (hx : RdI M .u8 A xs) (bx : Bytes xs)
include hlo hx bx
theorem rblock_ok : Ac P T lo F.zoetroperef23_Block [.agg ⟨[.int .i64 w, .int .i64 h, .slice A xs.length c]⟩, .agg ⟨[.int .i64 x, .int .i64 y, .int .i64 rw', .int .i64 rh]⟩, .int .i64 dir, .int .i64 pri, .int .i64 sec, .int .i64 p] M (BlockR M w h xs x y rw' rh dir pri sec p) := by
  have bad : ¬ BlockOk w h xs.length x y rw' rh dir pri sec p → Run P T lo F.zoetroperef23_Block (.ret (.tuple ⟨[.slice none 0 0, .int .i64 2]⟩) M) (BlockR M w h xs x y rw' rh dir pri sec p) := fun hno => Run.ret ⟨Pre.refl _, by rw [if_neg hno]⟩
  refine Ac.of (Evp.of_eq (fun k => zoetroperef23_Block.entry k ..) ?_)
  refine Evp.ob (rcheck_ok ..) ?_
  rintro _ rfl
  simp only [ret_int, ret_bool, ret_flt, ret_slc, ret_str, ret_ptr, ret_agg, ret_tup, ob_some, bb_true, bb_false, List.getElem?_cons_zero, List.getElem?_cons_succ, List.length_cons, List.length_nil, Nat.reduceAdd, Nat.reduceLT]
  refine Evp.neb (fun g => Evp.ret (bad fun e => g e.1)) fun k1 => ?_
  have s1 := checkS_len' k1
  refine Evp.dec (fun g => Evp.ret (bad fun e => by have := e.2.1; omega)) fun k2 => ?_
  refine Evp.dec (fun g => Evp.ret (bad fun e => by have := e.2.1; omega)) fun k2' => ?_
  refine Evp.dec (fun g => Evp.ret (bad fun e => by have := e.2.2.1; omega)) fun k3 => ?_
  refine Evp.dec (fun g => Evp.ret (bad fun e => by have := e.2.2.1; omega)) fun k3' => ?_
  refine Evp.ob (rwithin_ok lo w h A xs.length c x y rw' rh M (by omega) (by omega) (by omega) (by omega)) ?_
  rintro _ rfl
  simp only [ret_int, ret_bool, ret_flt, ret_slc, ret_str, ret_ptr, ret_agg, ret_tup, ob_some, bb_true, bb_false, List.getElem?_cons_zero, List.getElem?_cons_succ, List.length_cons, List.length_nil, Nat.reduceAdd, Nat.reduceLT]
  refine Evp.nb (fun g => Evp.ret (bad fun e => of_decide_eq_false g ⟨e.2.2.2.1, e.2.2.2.2.1⟩)) fun k0 => ?_
  obtain ⟨k4, k5⟩ := of_decide_eq_true k0
  refine Evp.dec (fun g => Evp.ret (bad fun e => by have := e.2.2.2.2.2.1; omega)) fun k6 => ?_
  refine Evp.dec (fun g => Evp.ret (bad fun e => by have := e.2.2.2.2.2.1; omega)) fun k6' => ?_
  refine Evp.dec (fun g => Evp.ret (bad fun e => by have := e.2.2.2.2.2.2.1; omega)) fun k7 => ?_
  refine Evp.dec (fun g => Evp.ret (bad fun e => by have := e.2.2.2.2.2.2.1; omega)) fun k7' => ?_
  refine Evp.dec (fun g => Evp.ret (bad fun e => by have := e.2.2.2.2.2.2.2.1; omega)) fun k8 => ?_
  refine Evp.dec (fun g => Evp.ret (bad fun e => by have := e.2.2.2.2.2.2.2.1; omega)) fun k8' => ?_
  refine Evp.dec (fun g => Evp.ret (bad fun e => by have := e.2.2.2.2.2.2.2.2; omega)) fun k9 => ?_
  refine Evp.dec (fun g => Evp.ret (bad fun e => by have := e.2.2.2.2.2.2.2.2; omega)) fun k9' => ?_
  have ok : BlockOk w h xs.length x y rw' rh dir pri sec p := ⟨k1, by omega, by omega, k4, k5, by omega, by omega, by omega, by omega⟩
  obtain ⟨w, rfl⟩ := Int.eq_ofNat_of_zero_le (a := w) (by omega)
  obtain ⟨h, rfl⟩ := Int.eq_ofNat_of_zero_le (a := h) (by omega)
  obtain ⟨X, rfl⟩ := Int.eq_ofNat_of_zero_le k4.1
  obtain ⟨Y, rfl⟩ := Int.eq_ofNat_of_zero_le k5.1
  obtain ⟨W, rfl⟩ := Int.eq_ofNat_of_zero_le (a := rw') (by omega)
  obtain ⟨H, rfl⟩ := Int.eq_ofNat_of_zero_le (a := rh) (by omega)
  obtain ⟨dir, rfl⟩ := Int.eq_ofNat_of_zero_le (a := dir) (by omega)
  obtain ⟨pri, rfl⟩ := Int.eq_ofNat_of_zero_le (a := pri) (by omega)
  obtain ⟨sec, rfl⟩ := Int.eq_ofNat_of_zero_le (a := sec) (by omega)
  have n1 : xs.length = h * w := by have := s1.2.2.2.2; rw [← Int.natCast_mul, Nat.mul_comm] at this; omega
  have sm : W * H ≤ 64 * 64 := Nat.mul_le_mul (by omega) (by omega)
  obtain ⟨T', hT'⟩ : ∃ T', T' = tapsS dir pri sec := ⟨_, rfl⟩
  have rows : ∀ (d j : Nat) (B : Option Addr) (cb : Nat) (M2 : Mem), H - j = d → j ≤ H → Pre M M2 → j * W ≤ cb → Grow M M2 1 B (j * W) ((blockS w h xs X Y W p T' (j * W)).map (Value.int .u8)) →
      Run P T lo F.zoetroperef23_Block (zoetroperef23_Block.c500 dir pri sec p B (j * W) cb ((Y + j : Nat) : Int) w h A xs.length c X Y W H M2) fun r => Pre M r.2 ∧ ∃ A c, r.1 = .tuple ⟨[.slice A (W * H) c, .int .i64 0]⟩ ∧ W * H ≤ c ∧ Grow M r.2 1 A (W * H) ((blockS w h xs X Y W p T' (W * H)).map (Value.int .u8)) := by
    intro d
    induction d with
    | zero =>
      intro j B cb M2 hd hj hp hc hg
      obtain rfl : H = j := by omega
      rw [Nat.mul_comm H W] at hg hc ⊢
      refine Run.cut (Evp.of_eq (fun k => zoetroperef23_Block.p500 k ..) ?_)
      rw [w64 (x := (Y : Int) + H) (by omega)]
      exact Evp.dec (fun g => absurd g (by omega)) fun _ => Evp.ret (Run.ret ⟨hp, B, cb, rfl, hc, hg⟩)
    | succ d ih =>
      intro j B cb M2 hd hj hp hc hg
      have hjH : j < H := by omega
      have cols : ∀ (e i : Nat) (B : Option Addr) (cb : Nat) (M2 : Mem), W - i = e → i ≤ W → Pre M M2 → j * W + i ≤ cb → Grow M M2 1 B (j * W + i) ((blockS w h xs X Y W p T' (j * W + i)).map (Value.int .u8)) →
          Run P T lo F.zoetroperef23_Block (zoetroperef23_Block.c32036 dir pri sec p B (j * W + i) cb ((Y + j : Nat) : Int) ((X + i : Nat) : Int) w h A xs.length c X Y W H M2) fun r => Pre M r.2 ∧ ∃ A c, r.1 = .tuple ⟨[.slice A (W * H) c, .int .i64 0]⟩ ∧ W * H ≤ c ∧ Grow M r.2 1 A (W * H) ((blockS w h xs X Y W p T' (W * H)).map (Value.int .u8)) := by
        intro e
        induction e with
        | zero =>
          intro i B cb M2 he hi hp hc hg
          obtain rfl : W = i := by omega
          refine Run.cut (Evp.of_eq (fun k => zoetroperef23_Block.p32036 k ..) ?_)
          rw [w64 (x := (X : Int) + W) (by omega)]
          refine Evp.dec (fun g => absurd g (by omega)) fun _ => ?_
          rw [w64 (by omega), show ((Y + j : Nat) : Int) + 1 = ((Y + (j + 1) : Nat) : Int) by omega]
          rw [show j * W + W = (j + 1) * W by rw [Nat.add_mul, Nat.one_mul]] at hg hc ⊢
          exact Evp.ret (ih (j + 1) B cb M2 (by omega) (by omega) hp hc hg)
        | succ e ih2 =>
          intro i B cb M2 he hi hp hc hg
          have hiW : i < W := by omega
          have jl : j * W + i < W * H := by
            have : (j + 1) * W ≤ H * W := Nat.mul_le_mul_right W (by omega)
            rw [Nat.add_mul, Nat.one_mul, Nat.mul_comm H W] at this
            omega
          have dm : (j * W + i) / W = j ∧ (j * W + i) % W = i := by
            rw [Nat.add_comm]
            exact ⟨by rw [Nat.add_mul_div_right i j (by omega), Nat.div_eq_of_lt hiW, Nat.zero_add], by rw [Nat.add_mul_mod_self_right, Nat.mod_eq_of_lt hiW]⟩
          refine Run.cut (Evp.of_eq (fun k => zoetroperef23_Block.p32036 k ..) ?_)
          rw [w64 (x := (X : Int) + W) (by omega)]
          refine Evp.dec (fun _ => ?_) fun g => absurd g (by omega)
          refine Evp.ob (rsample_ok lo w h A c xs (X + i) (Y + j) p M2 dir pri sec (Nat.le_trans hlo hp.len) (hx.pre hp) bx (by omega) (by omega) n1 (by omega) (by omega) (by omega)) ?_
          rintro _ ⟨M4, rfl, p4⟩
          simp only [ret_int, ret_bool, ret_flt, ret_slc, ret_str, ret_ptr, ret_agg, ret_tup, ob_some, bb_true, bb_false, List.getElem?_cons_zero, List.getElem?_cons_succ, List.length_cons, List.length_nil, Nat.reduceAdd, Nat.reduceLT]
          rw [← hT']
          obtain ⟨⟨sa, sn, sc⟩, M3, e3, g3, hsn, p3, _, k3⟩ := (hg.pre p4).app (lo := lo) (bytes := 1) (c := cb) (m := 1) (vs := [.int .u8 (sampS w h xs ((X + i : Nat) : Int) ((Y + j : Nat) : Int) p T')]) (hp.trans p4) hlo rfl (by omega) (by omega)
          refine Evp.some e3 ?_
          simp only at hsn g3 k3
          subst hsn
          rw [w64 (by omega), show ((X + i : Nat) : Int) + 1 = ((X + (i + 1) : Nat) : Int) by omega]
          refine Evp.ret (ih2 (i + 1) sa sc M3 (by omega) (by omega) p3 (k3 hc) ?_)
          rw [show j * W + (i + 1) = j * W + i + 1 by omega, blockS_succ, dm.1, dm.2, List.map_append]
          exact g3
      refine Run.cut (Evp.of_eq (fun k => zoetroperef23_Block.p500 k ..) ?_)
      rw [w64 (x := (Y : Int) + H) (by omega)]
      refine Evp.dec (fun _ => ?_) fun g => absurd g (by omega)
      exact Evp.ret (cols _ 0 B cb M2 rfl (by omega) hp hc hg)
  have R0 := rows H 0 none 0 M rfl (by omega) (Pre.refl _) (by omega) (by rw [Nat.zero_mul]; exact Grow.nil)
  rw [Nat.zero_mul, Nat.add_zero] at R0
  refine Evp.ret (R0.mono ?_)
  rintro r ⟨pr, A', c', e, hc, hg⟩
  refine ⟨pr, ?_⟩
  rw [if_pos ok]
  simp only [Int.toNat_natCast]
  rw [← hT']
  exact ⟨A', c', e, hc, hg⟩
end
/-! ### The law -/
theorem blockS_len (w h : Nat) (xs : List Int) (X Y W : Nat) (p : Int) (T : List Int) (n : Nat) : (blockS w h xs X Y W p T n).length = n := by simp [blockS]
section
variable (lo : Nat) (A X : Option Addr) (c cX : Nat) (xs : List Int) (w h : Int) (M0 M1 : Mem)
variable (hlo : lo ≤ M0.length) (p01 : Pre M0 M1) (hx : RdI M0 .u8 A xs) (hX : RdI M1 .u8 X xs) (hn : xs.length ≤ 140737488351232)
include hlo p01 hx hX hn
theorem blocks_end (B : Option Addr) (n cb i : Nat) (M : Mem) (hp : Pre M1 M) (hi : n ≤ i) : Run P T lo F.zoetropelaw23_CdefBlocks (zoetropelaw23_CdefBlocks.c1012 B n cb i w h A xs.length c w h X xs.length cX M) fun r => ∃ M', r = (.bool true, M') ∧ Pre M0 M' := by
  have q := p01.trans hp
  refine Run.cut (Evp.of_eq (fun k => zoetropelaw23_CdefBlocks.p1012 k ..) ?_)
  refine Evp.dec (fun g => absurd g (by omega)) fun _ => ?_
  refine Evp.ob (eqBytes_ok _ _ _ _ _ xs xs M (hX.pre hp) (hx.pre q) hn) ?_
  rintro _ rfl
  simp only [ret_int, ret_bool, ret_flt, ret_slc, ret_str, ret_ptr, ret_agg, ret_tup, ob_some, bb_true, bb_false, List.getElem?_cons_zero, List.getElem?_cons_succ, List.length_cons, List.length_nil, Nat.reduceAdd, Nat.reduceLT]
  refine Evp.tt (by simp) ?_
  refine Evp.ob (awake_ok lo M (Nat.le_trans hlo q.len)) ?_
  rintro _ ⟨M', rfl, p'⟩
  simp only [ret_int, ret_bool, ret_flt, ret_slc, ret_str, ret_ptr, ret_agg, ret_tup, ob_some, bb_true, bb_false, List.getElem?_cons_zero, List.getElem?_cons_succ, List.length_cons, List.length_nil, Nat.reduceAdd, Nat.reduceLT]
  exact Evp.ret (Run.ret ⟨M', rfl, q.trans p'⟩)
theorem blocks_loop (a : Addr) (cb : Nat) : ∀ (d i : Nat) (zs : List Int) (M : Mem), zs.length - i = d → i ≤ zs.length → zs.length ≤ 1048576 → Pre M1 M → Buf M1 M a (zs.map (Value.int .u8)) →
    Run P T lo F.zoetropelaw23_CdefBlocks (zoetropelaw23_CdefBlocks.c1012 (some a) zs.length cb i w h A xs.length c w h X xs.length cX M) fun r => ∃ M', r = (.bool true, M') ∧ Pre M0 M' := by
  intro d
  induction d with
  | zero =>
    intro i zs M hd hi hz hpM hbuf
    exact blocks_end lo A X c cX xs w h M0 M1 hlo p01 hx hX hn (some a) zs.length cb i M hpM (by omega)
  | succ d ih =>
    intro i zs M hd hi hz hpM hbuf
    refine Run.cut (Evp.of_eq (fun k => zoetropelaw23_CdefBlocks.p1012 k ..) ?_)
    refine Evp.dec (fun _ => ?_) fun g => absurd g (by omega)
    refine Evp.pos (by omega) ?_
    simp only [Int.toNat_natCast]
    refine Evp.ldI hbuf.rdI (by omega) fun _ _ => ?_
    refine Evp.pos (by omega) (Evp.some rfl ?_)
    obtain ⟨M3, h1, h2, h3, h4, h5⟩ := hbuf.st (lo := lo) (i := i) (vs := [.int .u8 (xorI .u8 (zs.getD i 0) 90)]) hpM (Nat.le_trans hlo p01.len) (by simp; omega)
    refine Evp.some h1 ?_
    rw [setL_one, set_map] at h2
    rw [w64 (by omega)]
    have := ih (i + 1) (zs.set i (xorI .u8 (zs.getD i 0) 90)) M3 (by simp; omega) (by simp; omega) (by simpa using hz) h3 h2
    rw [List.length_set] at this
    exact Evp.ret this
end
theorem blocks_ok (lo : Nat) (A : Option Addr) (c : Nat) (xs : List Int) (w h x y rw' rh dir pri sec p : Int) (M0 : Mem) (hlo : lo ≤ M0.length) (hx : RdI M0 .u8 A xs) (bx : Bytes xs) (hn : xs.length ≤ 140737488351232) :
    Ac P T lo F.zoetropelaw23_CdefBlocks [.agg ⟨[.int .i64 w, .int .i64 h, .slice A xs.length c]⟩, .agg ⟨[.int .i64 x, .int .i64 y, .int .i64 rw', .int .i64 rh]⟩, .agg ⟨[.int .i64 dir, .int .i64 pri, .int .i64 sec, .int .i64 p]⟩] M0 fun r => ∃ M', r = (.bool true, M') ∧ Pre M0 M' := by
  refine Ac.of (Evp.of_eq (fun k => zoetropelaw23_CdefBlocks.entry k ..) ?_)
  refine Evp.ob (copyPlane_ok _ _ _ _ _ _ _ hx hn) ?_
  rintro _ ⟨X, cX, M1, rfl, p1, g1, k1⟩
  simp only [ret_int, ret_bool, ret_flt, ret_slc, ret_str, ret_ptr, ret_agg, ret_tup, ob_some, bb_true, bb_false, List.getElem?_cons_zero, List.getElem?_cons_succ, List.length_cons, List.length_nil, Nat.reduceAdd, Nat.reduceLT]
  have hX : RdI M1 .u8 X xs := k1.rd
  refine Evp.ob (block_ok lo X cX xs w h x y rw' rh dir pri sec p M1 (Nat.le_trans hlo p1.len) hX bx) ?_
  rintro ⟨v, M2⟩ ⟨p2, hb⟩
  have q2 := p1.trans p2
  by_cases ok : BlockOk w h xs.length x y rw' rh dir pri sec p
  · rw [if_pos ok] at hb
    obtain ⟨B, cb, e, _, gB⟩ := hb
    simp only at e gB p2 q2
    subst e
    simp only [ret_int, ret_bool, ret_flt, ret_slc, ret_str, ret_ptr, ret_agg, ret_tup, ob_some, bb_true, bb_false, List.getElem?_cons_zero, List.getElem?_cons_succ, List.length_cons, List.length_nil, Nat.reduceAdd, Nat.reduceLT]
    refine Evp.ob (rblock_ok lo A c xs w h x y rw' rh dir pri sec p M2 (Nat.le_trans hlo q2.len) (hx.pre q2) bx) ?_
    rintro ⟨v, M3⟩ ⟨p3, hc⟩
    rw [if_pos ok] at hc
    obtain ⟨D, cd, e, _, gD⟩ := hc
    simp only at e gD p3
    subst e
    simp only [ret_int, ret_bool, ret_flt, ret_slc, ret_str, ret_ptr, ret_agg, ret_tup, ob_some, bb_true, bb_false, List.getElem?_cons_zero, List.getElem?_cons_succ, List.length_cons, List.length_nil, Nat.reduceAdd, Nat.reduceLT]
    have sm : rw'.toNat * rh.toNat ≤ 64 * 64 := Nat.mul_le_mul (by have := ok.2.1; omega) (by have := ok.2.2.1; omega)
    obtain ⟨zs, hzs⟩ : ∃ zs, zs = blockS w.toNat h.toNat xs x.toNat y.toNat rw'.toNat p (tapsS dir.toNat pri.toNat sec.toNat) (rw'.toNat * rh.toNat) := ⟨_, rfl⟩
    have hzl : zs.length = rw'.toNat * rh.toNat := by rw [hzs, blockS_len]
    rw [← hzs, ← hzl] at gB gD
    rw [← hzl] at sm ⊢
    have oB := gB.own
    have rB : RdI M2 .u8 B zs := gB.rd
    have rD : RdI M3 .u8 D zs := gD.rd
    refine Evp.neb (fun g => absurd rfl g) fun _ => ?_
    refine Evp.ob (eqBytes_ok _ _ _ _ _ zs zs M3 (rB.pre p3) rD (by omega)) ?_
    rintro _ rfl
    simp only [ret_int, ret_bool, ret_flt, ret_slc, ret_str, ret_ptr, ret_agg, ret_tup, ob_some, bb_true, bb_false, List.getElem?_cons_zero, List.getElem?_cons_succ, List.length_cons, List.length_nil, Nat.reduceAdd, Nat.reduceLT]
    refine Evp.ff (by simp) ?_
    refine Evp.ob (eqBytes_ok _ _ _ _ _ xs xs M3 ((hX.pre p2).pre p3) ((hx.pre q2).pre p3) hn) ?_
    rintro _ rfl
    simp only [ret_int, ret_bool, ret_flt, ret_slc, ret_str, ret_ptr, ret_agg, ret_tup, ob_some, bb_true, bb_false, List.getElem?_cons_zero, List.getElem?_cons_succ, List.length_cons, List.length_nil, Nat.reduceAdd, Nat.reduceLT]
    refine Evp.ff (by simp) (Evp.ret ?_)
    rcases oB with rfl | ⟨a, rfl, hbuf⟩
    · exact blocks_end lo A X c cX xs w h M0 M1 hlo p1 hx hX hn _ _ _ 0 M3 (p2.trans p3) (Nat.zero_le _)
    · exact blocks_loop lo A X c cX xs w h M0 M1 hlo p1 hx hX hn a cb _ 0 zs M3 rfl (Nat.zero_le _) (by omega) (p2.trans p3) (hbuf.pre p3)
  · rw [if_neg ok] at hb
    simp only at hb p2 q2
    subst hb
    simp only [ret_int, ret_bool, ret_flt, ret_slc, ret_str, ret_ptr, ret_agg, ret_tup, ob_some, bb_true, bb_false, List.getElem?_cons_zero, List.getElem?_cons_succ, List.length_cons, List.length_nil, Nat.reduceAdd, Nat.reduceLT]
    refine Evp.ob (rblock_ok lo A c xs w h x y rw' rh dir pri sec p M2 (Nat.le_trans hlo q2.len) (hx.pre q2) bx) ?_
    rintro ⟨v, M3⟩ ⟨p3, hc⟩
    rw [if_neg ok] at hc
    simp only at hc p3
    subst hc
    simp only [ret_int, ret_bool, ret_flt, ret_slc, ret_str, ret_ptr, ret_agg, ret_tup, ob_some, bb_true, bb_false, List.getElem?_cons_zero, List.getElem?_cons_succ, List.length_cons, List.length_nil, Nat.reduceAdd, Nat.reduceLT]
    refine Evp.neb (fun g => absurd rfl g) fun _ => ?_
    refine Evp.ob (eqBytes_ok _ none none 0 0 [] [] M3 RdI.nil RdI.nil (by decide)) ?_
    rintro _ rfl
    simp only [ret_int, ret_bool, ret_flt, ret_slc, ret_str, ret_ptr, ret_agg, ret_tup, ob_some, bb_true, bb_false, List.getElem?_cons_zero, List.getElem?_cons_succ, List.length_cons, List.length_nil, Nat.reduceAdd, Nat.reduceLT]
    refine Evp.ff (by simp) ?_
    refine Evp.ob (eqBytes_ok _ _ _ _ _ xs xs M3 ((hX.pre p2).pre p3) ((hx.pre q2).pre p3) hn) ?_
    rintro _ rfl
    simp only [ret_int, ret_bool, ret_flt, ret_slc, ret_str, ret_ptr, ret_agg, ret_tup, ob_some, bb_true, bb_false, List.getElem?_cons_zero, List.getElem?_cons_succ, List.length_cons, List.length_nil, Nat.reduceAdd, Nat.reduceLT]
    refine Evp.ff (by simp) (Evp.ret ?_)
    exact blocks_end lo A X c cX xs w h M0 M1 hlo p1 hx hX hn _ _ _ 0 M3 (p2.trans p3) (Nat.zero_le _)
theorem CdefBlocks_law (M : Mem) (vs : List Value) (hro : AllRo M) (hv : LaysArgs P M [33, 35, 36] vs) : Ac P T M.length F.zoetropelaw23_CdefBlocks vs M fun r => r.1 = .bool true := by
  obtain ⟨w, h, A, c, xs, x, y, rw', rh, d, p1', p2', p3', rfl, _, _, hc, hn, hx, wx, _⟩ := Arg.CdefBlocks hv
  have bx : Bytes xs := fun x hx => wf_u8 (wx x hx)
  refine Ac.mono (blocks_ok M.length A c xs w h x y rw' rh d p1' p2' p3' M (Nat.le_refl _) hx bx (by omega)) ?_
  rintro _ ⟨M', rfl, _⟩
  rfl
end Go.Zt
