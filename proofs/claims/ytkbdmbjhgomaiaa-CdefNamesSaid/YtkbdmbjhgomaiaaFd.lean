/- A sample, the program's. -/
import Derived.Test.YtkbdmbjhgomaiaaFc
set_option linter.unusedVariables false
set_option linter.unusedSimpArgs false
set_option maxRecDepth 100000
namespace Go.Zt
theorem limS_le (d t p : Int) : -1048576 ≤ limS d t p ∧ limS d t p ≤ 1048576 := by
  have h1 := far20_le d
  have h4 : 0 ≤ absS (far20 d) ∧ absS (far20 d) ≤ 1048576 := by unfold absS; split <;> omega
  unfold limS
  have z0 : 0 ≤ maxI 0 (far20 t - absS (far20 d) / 2 ^ (shiftS t p).toNat) := by unfold maxI; split <;> omega
  generalize maxI 0 (far20 t - absS (far20 d) / 2 ^ (shiftS t p).toNat) = z at *
  have hz : 0 ≤ minI (absS (far20 d)) z ∧ minI (absS (far20 d)) z ≤ absS (far20 d) := by unfold minI; split <;> omega
  repeat' split
  all_goals omega
structure S3 where
  sum : Int
  low : Int
  top : Int
structure Pl where
  w : Nat
  h : Nat
  xs : List Int
def tR (T : List Int) (t : Nat) : Int := T.getD (t * 4) 0
def tC (T : List Int) (t : Nat) : Int := T.getD (t * 4 + 1) 0
def tS (T : List Int) (t : Nat) : Int := T.getD (t * 4 + 2) 0
def tM (T : List Int) (t : Nat) : Int := T.getD (t * 4 + 3) 0
def inP (w h : Nat) (x y : Int) : Prop := (0 ≤ x ∧ x ≤ (w : Int) - 1) ∧ (0 ≤ y ∧ y ≤ (h : Int) - 1)
instance (w h : Nat) (x y : Int) : Decidable (inP w h x y) := inferInstanceAs (Decidable (_ ∧ _))
def atP (w : Nat) (xs : List Int) (x y : Int) : Int := xs.getD (y * w + x).toNat 0
def askS (w h : Nat) (xs : List Int) (x y v p : Int) (T : List Int) (t : Nat) (way : Int) (s : S3) : S3 :=
  if inP w h (x + way * tC T t) (y + way * tR T t) then
    ⟨s.sum + tM T t * limS (atP w xs (x + way * tC T t) (y + way * tR T t) - v) (tS T t) p, minI s.low (atP w xs (x + way * tC T t) (y + way * tR T t)), maxI s.top (atP w xs (x + way * tC T t) (y + way * tR T t))⟩
  else s
def foldS (w h : Nat) (xs : List Int) (x y v p : Int) (T : List Int) : Nat → S3
  | 0 => ⟨0, v, v⟩
  | t + 1 => askS w h xs x y v p T t (-1) (askS w h xs x y v p T t 1 (foldS w h xs x y v p T t))
def outS (v : Int) (s : S3) : Int := clipS (v + (8 + (if s.sum < 0 then s.sum - 1 else s.sum)) / 16) s.low s.top
def sampS (w h : Nat) (xs : List Int) (x y p : Int) (T : List Int) : Int := outS (atP w xs x y) (foldS w h xs x y (atP w xs x y) p T 6)
/-- What holds of the three so far. -/
def S3B (v : Int) (n : Nat) (s : S3) : Prop := -(4194304 * (n : Int)) ≤ s.sum ∧ s.sum ≤ 4194304 * (n : Int) ∧ 0 ≤ s.low ∧ s.low ≤ v ∧ v ≤ s.top ∧ s.top ≤ 255
def TapB (T : List Int) : Prop := T.length = 24 ∧ ∀ t, t < 6 → (-2 ≤ tR T t ∧ tR T t ≤ 2) ∧ (-2 ≤ tC T t ∧ tC T t ≤ 2) ∧ (0 ≤ tM T t ∧ tM T t ≤ 4)
theorem ask_b {w h : Nat} {xs : List Int} (bx : Bytes xs) {x y v p : Int} {T : List Int} (hT : TapB T) {t : Nat} (ht : t < 6) {way : Int} {n : Nat} {s : S3} (hs : S3B v n s) : S3B v (n + 1) (askS w h xs x y v p T t way s) := by
  obtain ⟨a1, a2, a3, a4, a5, a6⟩ := hs
  unfold askS
  split
  · have l := limS_le (atP w xs (x + way * tC T t) (y + way * tR T t) - v) (tS T t) p
    have b : 0 ≤ atP w xs (x + way * tC T t) (y + way * tR T t) ∧ atP w xs (x + way * tC T t) (y + way * tR T t) ≤ 255 := bx.get _
    have m := (hT.2 t ht).2.2
    have ml := mul_abs (a := tM T t) (b := limS (atP w xs (x + way * tC T t) (y + way * tR T t) - v) (tS T t) p) (A := 4) (B := 1048576) (by omega) (by omega)
    generalize tM T t * limS (atP w xs (x + way * tC T t) (y + way * tR T t) - v) (tS T t) p = z at *
    generalize atP w xs (x + way * tC T t) (y + way * tR T t) = q at *
    refine ⟨by simp only; omega, by simp only; omega, ?_, ?_, ?_, ?_⟩
    · simp only; unfold minI; split <;> omega
    · simp only; unfold minI; split <;> omega
    · simp only; unfold maxI; split <;> omega
    · simp only; unfold maxI; split <;> omega
  · exact ⟨by omega, by omega, a3, a4, a5, a6⟩
theorem fold_b {w h : Nat} {xs : List Int} (bx : Bytes xs) {x y v p : Int} {T : List Int} (hT : TapB T) (hv : 0 ≤ v ∧ v ≤ 255) : ∀ t, t ≤ 6 → S3B v (2 * t) (foldS w h xs x y v p T t)
  | 0, _ => ⟨by simp [foldS], by simp [foldS], hv.1, Int.le_refl _, Int.le_refl _, hv.2⟩
  | t + 1, h' => by
    have := ask_b (w := w) (h := h) bx (x := x) (y := y) (p := p) hT (t := t) (by omega) (way := -1) (ask_b (w := w) (h := h) bx (x := x) (y := y) (p := p) hT (t := t) (by omega) (way := 1) (fold_b (w := w) (h := h) bx (x := x) (y := y) (p := p) hT hv t (by omega)))
    exact this
theorem out_le {v : Int} {n : Nat} {s : S3} (h : S3B v n s) : 0 ≤ outS v s ∧ outS v s ≤ 255 ∧ s.low ≤ outS v s ∧ outS v s ≤ s.top := by
  obtain ⟨_, _, a3, a4, a5, a6⟩ := h
  unfold outS clipS
  repeat' split
  all_goals omega
section
variable (lo : Nat) (w h : Nat) (A R : Option Addr) (cap cr : Nat) (xs T : List Int) (x y : Nat) (p : Int) (M : Mem)
variable (hx : RdI M .u8 A xs) (hR : Rd M R 6 4 (T.map (Value.int .i64))) (bx : Bytes xs) (hT : TapB T) (hw : 1 ≤ w ∧ w ≤ 512) (hh : 1 ≤ h ∧ h ≤ 512) (hl : xs.length = h * w) (hxw : x < w) (hyh : y < h)
include hx bx hT hw hh hl hxw hyh
theorem sample_way (v : Int) (hv : 0 ≤ v ∧ v ≤ 255) (t : Nat) (ht : t < 6) (way : Int) (hway : way = 1 ∨ way = -1) (j : Nat) (hj : j < 2) (hwj : (([.int .i64 1, .int .i64 (-1)] : List Value)[j]?).bind (Value.int? .i64) = some way) (n : Nat) (hn : n ≤ 12) (s : S3) (hs : S3B v n s) (Q : Value × Mem → Prop)
    (next : ∀ s', s' = askS w h xs x y v p T t way s → Run P Zt.T lo F.cdef_sample (cdef_sample.c501351 x y p v s'.sum s'.low s'.top R 6 cr 6 t 1 (-1) j w h A xs.length cap (tR T t) (tC T t) (tS T t) (tM T t) M) Q) :
    Run P Zt.T lo F.cdef_sample (cdef_sample.c62668 x y p v s.sum s.low s.top R 6 cr 6 t 1 (-1) j w h A xs.length cap (tR T t) (tC T t) (tS T t) (tM T t) M) Q := by
  obtain ⟨⟨r1, r2⟩, ⟨c1, c2⟩, m1, m2⟩ := hT.2 t ht
  obtain ⟨a1, a2, a3, a4, a5, a6⟩ := hs
  have wr : -2 ≤ way * tR T t ∧ way * tR T t ≤ 2 := by rcases hway with rfl | rfl <;> omega
  have wc : -2 ≤ way * tC T t ∧ way * tC T t ≤ 2 := by rcases hway with rfl | rfl <;> omega
  have sm : h * w ≤ 512 * 512 := Nat.mul_le_mul hh.2 hw.2
  refine Run.cut (Evp.of_eq (fun k => cdef_sample.p62668 k ..) ?_)
  refine Evp.dec (fun _ => ?_) fun g => absurd g (by omega)
  refine Evp.pos (by omega) ?_
  simp only [Int.toNat_natCast, Nat.add_zero]
  refine Evp.some hwj ?_
  rw [w64 (x := way * tC T t) (by omega), w64 (x := way * tR T t) (by omega), w64 (x := (x : Int) + way * tC T t) (by omega), w64 (x := (y : Int) + way * tR T t) (by omega), w64 (x := (w : Int) - 1) (by omega), w64 (x := (h : Int) - 1) (by omega)]
  have win : ∀ (v a b : Int), Ac P Zt.T lo F.cdef_within [.int .i64 v, .int .i64 a, .int .i64 b] M fun r => r = (.bool (decide (a ≤ v ∧ v ≤ b)), M) := fun v a b => by
    refine Ac.of (Evp.of_eq (fun k => cdef_within.entry k ..) ?_)
    refine Evp.dec (fun h => Evp.ret (Run.ret ?_)) fun h => Evp.ret (Run.ret (by rw [decide_eq_false (fun e => h e.1)]))
    congr 2
    exact decide_eq_decide.2 ⟨fun e => ⟨h, e⟩, fun e => e.2⟩
  refine Evp.ob (win _ _ _) ?_
  rintro _ rfl
  simp only [ret_int, ret_bool, ret_flt, ret_slc, ret_str, ret_ptr, ret_agg, ret_tup, ob_some, bb_true, bb_false, List.getElem?_cons_zero, List.getElem?_cons_succ, List.length_cons, List.length_nil, Nat.reduceAdd, Nat.reduceLT]
  refine Evp.nb (fun g => Evp.ret (next s (by unfold askS; rw [if_neg (fun e => of_decide_eq_false g e.1)]))) fun g1 => ?_
  have g1 := of_decide_eq_true g1
  refine Evp.ob (win _ _ _) ?_
  rintro _ rfl
  simp only [ret_int, ret_bool, ret_flt, ret_slc, ret_str, ret_ptr, ret_agg, ret_tup, ob_some, bb_true, bb_false, List.getElem?_cons_zero, List.getElem?_cons_succ, List.length_cons, List.length_nil, Nat.reduceAdd, Nat.reduceLT]
  refine Evp.nb (fun g => Evp.ret (next s (by unfold askS; rw [if_neg (fun e => of_decide_eq_false g e.2)]))) fun g2 => ?_
  have g2 := of_decide_eq_true g2
  have hin : inP w h ((x : Int) + way * tC T t) ((y : Int) + way * tR T t) := ⟨g1, g2⟩
  have nx := next ⟨s.sum + tM T t * limS (atP w xs ((x : Int) + way * tC T t) ((y : Int) + way * tR T t) - v) (tS T t) p, minI s.low (atP w xs ((x : Int) + way * tC T t) ((y : Int) + way * tR T t)), maxI s.top (atP w xs ((x : Int) + way * tC T t) ((y : Int) + way * tR T t))⟩ (by unfold askS; rw [if_pos hin])
  unfold atP at nx
  generalize (x : Int) + way * tC T t = cx at *
  generalize (y : Int) + way * tR T t = cy at *
  obtain ⟨X, rfl⟩ := Int.eq_ofNat_of_zero_le g1.1
  obtain ⟨Y, rfl⟩ := Int.eq_ofNat_of_zero_le g2.1
  have hlt : Y * w + X < h * w := by
    have : (Y + 1) * w ≤ h * w := Nat.mul_le_mul_right w (by omega)
    rw [Nat.add_mul, Nat.one_mul] at this
    omega
  have ei : IntKind.i64.wrap ((IntKind.i64.wrap ((Y : Int) * w)) + (X : Int)) = ((Y * w + X : Nat) : Int) := by
    rw [← Int.natCast_mul, w64 (x := ((Y * w : Nat) : Int)) (by omega), w64 (by omega)]; omega
  have en : ((Y : Int) * w + X).toNat = Y * w + X := by rw [← Int.natCast_mul]; omega
  rw [en] at nx
  rw [ei]
  refine Evp.pos (by omega) ?_
  simp only [Int.toNat_natCast]
  refine Evp.ldI hx (by omega) fun _ _ => ?_
  have bb := bx.get (Y * w + X)
  rw [w64 (x := xs.getD (Y * w + X) 0) (by omega), w64 (x := xs.getD (Y * w + X) 0 - v) (by omega)]
  refine Evp.ob (limit_ok M.length _ _ _ M) ?_
  rintro _ rfl
  simp only [ret_int, ret_bool, ret_flt, ret_slc, ret_str, ret_ptr, ret_agg, ret_tup, ob_some, bb_true, bb_false, List.getElem?_cons_zero, List.getElem?_cons_succ, List.length_cons, List.length_nil, Nat.reduceAdd, Nat.reduceLT]
  have l := limS_le (xs.getD (Y * w + X) 0 - v) (tS T t) p
  have ml := mul_abs (a := tM T t) (b := limS (xs.getD (Y * w + X) 0 - v) (tS T t) p) (A := 4) (B := 1048576) (by omega) (by omega)
  rw [w64 (x := tM T t * limS (xs.getD (Y * w + X) 0 - v) (tS T t) p) (by omega), w64 (x := s.sum + tM T t * limS (xs.getD (Y * w + X) 0 - v) (tS T t) p) (by omega)]
  exact Evp.ret nx
include hR
theorem sample_taps (v : Int) (hv : 0 ≤ v ∧ v ≤ 255) (Q : Value × Mem → Prop) (fin : Q (.int .u8 (outS v (foldS w h xs x y v p T 6)), M)) : ∀ (d t : Nat) (s : S3), 6 - t = d → t ≤ 6 → s = foldS w h xs x y v p T t →
    Run P Zt.T lo F.cdef_sample (cdef_sample.c244 x y p v s.sum s.low s.top R 6 cr 6 t w h A xs.length cap M) Q := by
  intro d
  induction d with
  | zero =>
    intro t s hd ht hs
    obtain rfl : t = 6 := by omega
    have sb := fold_b (w := w) (h := h) bx (x := x) (y := y) (v := v) (p := p) hT hv 6 (by omega)
    rw [← hs] at fin sb
    obtain ⟨a1, a2, a3, a4, a5, a6⟩ := sb
    have ol := out_le (v := v) ⟨a1, a2, a3, a4, a5, a6⟩
    have last : ∀ z : Int, z = (if s.sum < 0 then s.sum - 1 else s.sum) → Run P Zt.T lo F.cdef_sample (cdef_sample.c63 v z s.low s.top M) Q := fun z hz => by
      have zb : -60000000 ≤ z ∧ z ≤ 60000000 := by rw [hz]; split <;> omega
      refine Run.cut (Evp.of_eq (fun k => cdef_sample.p63 k ..) ?_)
      rw [w64 (x := 8 + z) (by omega), shr_eq 4 (by omega), show ((2 : Int) ^ 4) = 16 from rfl, w64 (by omega)]
      refine Evp.ob (cclip_ok lo _ _ _ M (by omega)) ?_
      rintro _ rfl
      simp only [ret_int, ret_bool, ret_flt, ret_slc, ret_str, ret_ptr, ret_agg, ret_tup, ob_some, bb_true, bb_false, List.getElem?_cons_zero, List.getElem?_cons_succ, List.length_cons, List.length_nil, Nat.reduceAdd, Nat.reduceLT]
      refine Evp.ret (Run.ret ?_)
      have : clipS (v + (8 + z) / 16) s.low s.top = outS v s := by unfold outS; rw [hz]
      rw [this, wu8 (by omega)]
      exact fin
    refine Run.cut (Evp.of_eq (fun k => cdef_sample.p244 k ..) ?_)
    refine Evp.dec (fun g => absurd g (by omega)) fun _ => ?_
    refine Evp.dec (fun g => ?_) fun g => Evp.ret (last _ (by rw [if_neg g]))
    rw [w64 (by omega)]
    exact Evp.ret (last _ (by rw [if_pos g]))
  | succ d ih =>
    intro t s hd ht hs
    have ht6 : t < 6 := by omega
    have tl := hT.1
    have hm : ∀ k, k < 4 → ∃ a, R = some a ∧ (M.ld (plus a (t * 4 + k))).bind (Value.int? .i64) = some (T.getD (t * 4 + k) 0) := fun k hk => by
      obtain ⟨a, ea, _, hld⟩ := Rd.get hR (i := t * 4 + k) (by omega)
      refine ⟨a, ea, ?_⟩
      rw [hld]
      exact tab_get T (t * 4 + k) (by omega)
    obtain ⟨a, rfl, h0⟩ := hm 0 (by omega)
    obtain ⟨_, e, h1⟩ := hm 1 (by omega); injection e with e; subst e
    obtain ⟨_, e, h2⟩ := hm 2 (by omega); injection e with e; subst e
    obtain ⟨_, e, h3⟩ := hm 3 (by omega); injection e with e; subst e
    have sb := fold_b (w := w) (h := h) bx (x := x) (y := y) (v := v) (p := p) hT hv t (by omega)
    rw [← hs] at sb
    refine Run.cut (Evp.of_eq (fun k => cdef_sample.p244 k ..) ?_)
    refine Evp.dec (fun _ => ?_) fun g => absurd g (by omega)
    refine Evp.pos (by omega) ?_
    simp only [Int.toNat_natCast, plus_plus]
    refine Evp.some rfl (Evp.some h0 (Evp.some h1 (Evp.some h2 (Evp.some h3 ?_))))
    have turn : ∀ (j : Nat) (s' : S3), j < 2 → Run P Zt.T lo F.cdef_sample (cdef_sample.c62668 x y p v s'.sum s'.low s'.top (some a) 6 cr 6 t 1 (-1) ((j + 1 : Nat) : Int) w h A xs.length cap (tR T t) (tC T t) (tS T t) (tM T t) M) Q → Run P Zt.T lo F.cdef_sample (cdef_sample.c501351 x y p v s'.sum s'.low s'.top (some a) 6 cr 6 t 1 (-1) j w h A xs.length cap (tR T t) (tC T t) (tS T t) (tM T t) M) Q := fun j s' hj hr => by
      refine Run.cut (Evp.of_eq (fun k => cdef_sample.p501351 k ..) ?_)
      rw [w64 (by omega)]
      exact Evp.ret hr
    refine Evp.ret (sample_way lo w h A (some a) cap cr xs T x y p M hx bx hT hw hh hl hxw hyh v hv t ht6 1 (.inl rfl) 0 (by omega) rfl (2 * t) (by omega) s sb Q fun s1 hs1 => turn 0 s1 (by omega) ?_)
    have sb1 : S3B v (2 * t + 1) s1 := by rw [hs1]; exact ask_b bx hT ht6 sb
    refine sample_way lo w h A (some a) cap cr xs T x y p M hx bx hT hw hh hl hxw hyh v hv t ht6 (-1) (.inr rfl) 1 (by omega) rfl (2 * t + 1) (by omega) s1 sb1 Q fun s2 hs2 => turn 1 s2 (by omega) ?_
    refine Run.cut (Evp.of_eq (fun k => cdef_sample.p62668 k ..) ?_)
    refine Evp.dec (fun g => absurd g (by decide)) fun _ => ?_
    rw [w64 (by omega)]
    refine Evp.ret (ih (t + 1) s2 (by omega) (by omega) ?_)
    rw [hs2, hs1, hs]
    rfl
theorem sample_ok : Ac P Zt.T lo F.cdef_sample [.agg ⟨[.int .i64 w, .int .i64 h, .slice A xs.length cap]⟩, .int .i64 x, .int .i64 y, .slice R 6 cr, .int .i64 p] M fun r => r = (.int .u8 (sampS w h xs x y p T), M) := by
  have sm : h * w ≤ 512 * 512 := Nat.mul_le_mul hh.2 hw.2
  have hlt : y * w + x < h * w := by
    have : (y + 1) * w ≤ h * w := Nat.mul_le_mul_right w (by omega)
    rw [Nat.add_mul, Nat.one_mul] at this
    omega
  have ei : IntKind.i64.wrap ((IntKind.i64.wrap ((y : Int) * w)) + (x : Int)) = ((y * w + x : Nat) : Int) := by
    rw [← Int.natCast_mul, w64 (x := ((y * w : Nat) : Int)) (by omega), w64 (by omega)]; omega
  have en : atP w xs x y = xs.getD (y * w + x) 0 := by
    unfold atP
    rw [show ((y : Int) * w + x).toNat = y * w + x by rw [← Int.natCast_mul]; omega]
  have bb := bx.get (y * w + x)
  refine Ac.of (Evp.of_eq (fun k => cdef_sample.entry k ..) ?_)
  rw [ei]
  refine Evp.pos (by omega) ?_
  simp only [Int.toNat_natCast]
  refine Evp.ldI hx (by omega) fun _ _ => ?_
  rw [w64 (by omega)]
  refine Evp.ret (sample_taps lo w h A R cap cr xs T x y p M hx hR bx hT hw hh hl hxw hyh (xs.getD (y * w + x) 0) bb _ ?_ 6 0 ⟨0, xs.getD (y * w + x) 0, xs.getD (y * w + x) 0⟩ rfl (by omega) rfl)
  unfold sampS
  rw [en]
end
end Go.Zt
