/- CdefBetween. -/
import Derived.Test.YtkbdmbjhgomaiaaFg
set_option linter.unusedVariables false
set_option linter.unusedSimpArgs false
set_option maxRecDepth 100000
namespace Go.Zt
def NearP (w h X Y : Nat) (xs : List Int) (l m : Int) : Prop := ∀ cx cy : Int, inP w h cx cy → (-2 ≤ cx - X ∧ cx - X ≤ 2) → (-2 ≤ cy - Y ∧ cy - Y ≤ 2) → l ≤ atP w xs cx cy ∧ atP w xs cx cy ≤ m
theorem ask_near {w h X Y : Nat} {xs T : List Int} {l m v p : Int} (hN : NearP w h X Y xs l m) (hT : TapB T) {t : Nat} (ht : t < 6) {way : Int} (hway : way = 1 ∨ way = -1) {s : S3} (hs : l ≤ s.low ∧ s.top ≤ m) : l ≤ (askS w h xs X Y v p T t way s).low ∧ (askS w h xs X Y v p T t way s).top ≤ m := by
  obtain ⟨⟨r1, r2⟩, ⟨c1, c2⟩, _⟩ := hT.2 t ht
  unfold askS
  split
  · rename_i hin
    have := hN _ _ hin (by rcases hway with rfl | rfl <;> omega) (by rcases hway with rfl | rfl <;> omega)
    generalize atP w xs ((X : Int) + way * tC T t) ((Y : Int) + way * tR T t) = q at *
    refine ⟨?_, ?_⟩
    · simp only; unfold minI; split <;> omega
    · simp only; unfold maxI; split <;> omega
  · exact hs
theorem fold_near {w h X Y : Nat} {xs T : List Int} {l m v p : Int} (hN : NearP w h X Y xs l m) (hT : TapB T) (hv : l ≤ v ∧ v ≤ m) : ∀ t, t ≤ 6 → l ≤ (foldS w h xs X Y v p T t).low ∧ (foldS w h xs X Y v p T t).top ≤ m
  | 0, _ => hv
  | t + 1, h' => by
    have a := ask_near (v := v) (p := p) hN hT (t := t) (by omega) (way := 1) (.inl rfl) (fold_near (p := p) hN hT hv t (by omega))
    exact ask_near (v := v) (p := p) hN hT (t := t) (by omega) (way := -1) (.inr rfl) a
theorem samp_near {w h X Y : Nat} {xs T : List Int} {l m p : Int} (bx : Bytes xs) (hN : NearP w h X Y xs l m) (hT : TapB T) (hX : X < w) (hY : Y < h) : l ≤ sampS w h xs X Y p T ∧ sampS w h xs X Y p T ≤ m := by
  have hv := hN X Y ⟨by omega, by omega⟩ (by omega) (by omega)
  have b : 0 ≤ atP w xs X Y ∧ atP w xs X Y ≤ 255 := bx.get _
  have f := fold_near (p := p) hN hT hv 6 (by omega)
  have o := out_le (v := atP w xs X Y) (fold_b (w := w) (h := h) bx (x := X) (y := Y) (p := p) hT b 6 (by omega))
  unfold sampS
  omega
def SeenP (w h X Y : Nat) (xs : List Int) (l m : Int) (j i : Nat) : Prop := ∀ cy cx : Nat, cy < h → cx < w → Y ≤ cy + 2 → cy ≤ Y + 2 → X ≤ cx + 2 → cx ≤ X + 2 → (cy < j ∨ (cy = j ∧ cx < i)) → l ≤ xs.getD (cy * w + cx) 0 ∧ xs.getD (cy * w + cx) 0 ≤ m
section
variable (lo w h X Y : Nat) (A B : Option Addr) (c cb : Nat) (xs : List Int) (v : Int) (M : Mem)
variable (hw : 1 ≤ w ∧ w ≤ 512) (hh : 1 ≤ h ∧ h ≤ 512) (hl : xs.length = h * w) (hx : RdI M .u8 A xs) (hB : RdI M .u8 B [v]) (hX : X < w) (hY : Y < h) (hv : ∀ l m, NearP w h X Y xs l m → l ≤ v ∧ v ≤ m)
include hw hh hl hx hB hX hY hv
theorem between_rows : ∀ (d j : Nat) (l m : Int), Y + 3 - j = d → Y ≤ j + 2 → j ≤ Y + 3 → SeenP w h X Y xs l m j 0 →
    Run P T lo F.zoetropelaw23_CdefBetween (zoetropelaw23_CdefBetween.c4084 B 1 cb l m j w h A xs.length c X Y 1 1 M) fun r => r.1 = .bool true := by
  have sm : h * w ≤ 512 * 512 := Nat.mul_le_mul hh.2 hw.2
  have fin : ∀ (l m : Int) (j : Nat), SeenP w h X Y xs l m j 0 → (j : Int) > minI ((Y : Int) + 2) ((h : Int) - 1) → l ≤ v ∧ v ≤ m := fun l m j hS hj => hv l m fun cx cy hin hcx hcy => by
    obtain ⟨⟨g1, g2⟩, g3, g4⟩ := hin
    obtain ⟨cx, rfl⟩ := Int.eq_ofNat_of_zero_le g1
    obtain ⟨cy, rfl⟩ := Int.eq_ofNat_of_zero_le g3
    have := hS cy cx (by omega) (by omega) (by omega) (by omega) (by omega) (by omega) (.inl (by unfold minI at hj; split at hj <;> omega))
    unfold atP
    rw [show ((cy : Int) * w + cx).toNat = cy * w + cx by rw [← Int.natCast_mul]; omega]
    exact this
  have last : ∀ (l m : Int) (j : Nat), SeenP w h X Y xs l m j 0 → (j : Int) > minI ((Y : Int) + 2) ((h : Int) - 1) → Evp (fun k => pb (0 ≤ (0 : Int) ∧ (0 : Int) < ((1 : Nat) : Int)) (ob B fun a39 => ob ((M.ld a39).bind (Value.int? .u8)) fun x40 => bb (decide (x40 ≥ l)) (pb (0 ≤ (0 : Int) ∧ (0 : Int) < ((1 : Nat) : Int)) (ob B fun a41 => ob ((M.ld a41).bind (Value.int? .u8)) fun x42 => some (.ret (.bool (decide (x42 ≤ m))) M)) none) (some (.ret (.bool false) M))) none) fun out => Run P T lo F.zoetropelaw23_CdefBetween out fun r => r.1 = .bool true := fun l m j hS hj => by
    obtain ⟨f1, f2⟩ := fin l m j hS hj
    refine Evp.pos (by decide) (Evp.ldI (i := 0) hB (Nat.zero_lt_one) fun _ _ => ?_)
    refine Evp.dec (fun _ => ?_) fun g => absurd (show v ≥ l from f1) g
    refine Evp.pos (by decide) (Evp.ldI (i := 0) hB (Nat.zero_lt_one) fun _ _ => Evp.ret (Run.ret ?_))
    rw [decide_eq_true (show [v].getD 0 0 ≤ m from f2)]
  intro d
  induction d with
  | zero =>
    intro j l m hd hj1 hj2 hS
    refine Run.cut (Evp.of_eq (fun k => zoetropelaw23_CdefBetween.p4084 k ..) ?_)
    rw [w64 (x := (Y : Int) + 2) (by omega), w64 (x := (h : Int) - 1) (by omega)]
    have gt : (j : Int) > minI ((Y : Int) + 2) ((h : Int) - 1) := by unfold minI; split <;> omega
    exact Evp.dec (fun g => absurd g (by omega)) fun _ => last l m j hS gt
  | succ d ih =>
    intro j l m hd hj1 hj2 hS
    have cols : ∀ (e i : Nat) (l m : Int), X + 3 - i = e → X ≤ i + 2 → i ≤ X + 3 → j < h → j ≤ Y + 2 → SeenP w h X Y xs l m j i →
        Run P T lo F.zoetropelaw23_CdefBetween (zoetropelaw23_CdefBetween.c261412 B 1 cb l m j i w h A xs.length c X Y 1 1 M) fun r => r.1 = .bool true := by
      have out : ∀ (i : Nat) (l m : Int), j < h → j ≤ Y + 2 → (i : Int) > minI ((X : Int) + 2) ((w : Int) - 1) → SeenP w h X Y xs l m j i → Evp (fun k => some (zoetropelaw23_CdefBetween.c4084 B 1 cb l m (IntKind.i64.wrap ((j : Int) + 1)) w h A xs.length c X Y 1 1 M)) fun out => Run P T lo F.zoetropelaw23_CdefBetween out fun r => r.1 = .bool true := fun i l m hjh hjY hi hS => by
        rw [w64 (by omega)]
        refine Evp.ret (ih (j + 1) l m (by omega) (by omega) (by omega) fun cy cx q1 q2 q3 q4 q5 q6 q7 => hS cy cx q1 q2 q3 q4 q5 q6 ?_)
        unfold minI at hi
        split at hi <;> omega
      intro e
      induction e with
      | zero =>
        intro i l m he hi1 hi2 hjh hjY hS
        refine Run.cut (Evp.of_eq (fun k => zoetropelaw23_CdefBetween.p261412 k ..) ?_)
        rw [w64 (x := (X : Int) + 2) (by omega), w64 (x := (w : Int) - 1) (by omega)]
        have gt : (i : Int) > minI ((X : Int) + 2) ((w : Int) - 1) := by unfold minI; split <;> omega
        exact Evp.dec (fun g => absurd g (by omega)) fun _ => out i l m hjh hjY gt hS
      | succ e ih2 =>
        intro i l m he hi1 hi2 hjh hjY hS
        refine Run.cut (Evp.of_eq (fun k => zoetropelaw23_CdefBetween.p261412 k ..) ?_)
        rw [w64 (x := (X : Int) + 2) (by omega), w64 (x := (w : Int) - 1) (by omega)]
        refine Evp.dec (fun g => ?_) fun g => out i l m hjh hjY (by omega) hS
        have giw : i < w := by unfold minI at g; split at g <;> omega
        have hlt : j * w + i < h * w := by
          have : (j + 1) * w ≤ h * w := Nat.mul_le_mul_right w (by omega)
          rw [Nat.add_mul, Nat.one_mul] at this
          omega
        have ei : IntKind.i64.wrap ((IntKind.i64.wrap ((j : Int) * w)) + (i : Int)) = ((j * w + i : Nat) : Int) := by
          rw [← Int.natCast_mul, w64 (x := ((j * w : Nat) : Int)) (by omega), w64 (by omega)]; omega
        rw [ei]
        refine Evp.pos (by omega) ?_
        simp only [Int.toNat_natCast]
        refine Evp.ldI hx (by omega) fun _ _ => Evp.pos (by omega) (Evp.ldI hx (by omega) fun _ _ => ?_)
        rw [w64 (by omega)]
        refine Evp.ret (ih2 (i + 1) _ _ (by omega) (by omega) (by omega) hjh hjY fun cy cx q1 q2 q3 q4 q5 q6 q7 => ?_)
        by_cases e2 : cy = j ∧ cx = i
        · obtain ⟨rfl, rfl⟩ := e2
          unfold minI maxI
          split <;> split <;> omega
        · have := hS cy cx q1 q2 q3 q4 q5 q6 (by omega)
          unfold minI maxI
          split <;> split <;> omega
    refine Run.cut (Evp.of_eq (fun k => zoetropelaw23_CdefBetween.p4084 k ..) ?_)
    rw [w64 (x := (Y : Int) + 2) (by omega), w64 (x := (h : Int) - 1) (by omega)]
    refine Evp.dec (fun g => ?_) fun g => last l m j hS (by omega)
    have gj : j < h ∧ j ≤ Y + 2 := by unfold minI at g; split at g <;> omega
    have ex : maxI (IntKind.i64.wrap ((X : Int) - 2)) 0 = ((X - 2 : Nat) : Int) := by
      rw [w64 (by omega)]; unfold maxI; split <;> omega
    rw [ex]
    exact Evp.ret (cols _ (X - 2) l m rfl (by omega) (by omega) gj.1 gj.2 fun cy cx q1 q2 q3 q4 q5 q6 q7 => hS cy cx q1 q2 q3 q4 q5 q6 (by omega))
end
theorem CdefBetween_law (M : Mem) (vs : List Value) (hro : AllRo M) (hv : LaysArgs P M [33, 35, 36] vs) : Ac P T M.length F.zoetropelaw23_CdefBetween vs M fun r => r.1 = .bool true := by
  obtain ⟨w, h, A, c, xs, x, y, rw', rh, d, p1', p2', p3', rfl, _, _, hc, hn, hx, wx, _⟩ := Arg.CdefBetween hv
  have bx : Bytes xs := fun x hx => wf_u8 (wx x hx)
  refine Ac.of (Evp.of_eq (fun k => zoetropelaw23_CdefBetween.entry k ..) ?_)
  refine Evp.ob (awake_ok M.length M (Nat.le_refl _)) ?_
  rintro _ ⟨M1, rfl, p1⟩
  simp only [ret_int, ret_bool, ret_flt, ret_slc, ret_str, ret_ptr, ret_agg, ret_tup, ob_some, bb_true, bb_false, List.getElem?_cons_zero, List.getElem?_cons_succ, List.length_cons, List.length_nil, Nat.reduceAdd, Nat.reduceLT]
  refine Evp.ff rfl ?_
  refine Evp.ob (check_ok ..) ?_
  rintro _ rfl
  simp only [ret_int, ret_bool, ret_flt, ret_slc, ret_str, ret_ptr, ret_agg, ret_tup, ob_some, bb_true, bb_false, List.getElem?_cons_zero, List.getElem?_cons_succ, List.length_cons, List.length_nil, Nat.reduceAdd, Nat.reduceLT]
  refine Evp.neb (fun _ => Evp.ret (Run.ret rfl)) fun k1 => ?_
  have s1 := checkS_len' k1
  obtain ⟨w, rfl⟩ := Int.eq_ofNat_of_zero_le (a := w) (by omega)
  obtain ⟨h, rfl⟩ := Int.eq_ofNat_of_zero_le (a := h) (by omega)
  have n1 : xs.length = h * w := by have := s1.2.2.2.2; rw [← Int.natCast_mul, Nat.mul_comm] at this; omega
  refine Evp.ob (bring_ok _ _ _ _ (by omega)) ?_
  rintro _ rfl
  simp only [ret_int, ret_bool, ret_flt, ret_slc, ret_str, ret_ptr, ret_agg, ret_tup, ob_some, bb_true, bb_false, List.getElem?_cons_zero, List.getElem?_cons_succ, List.length_cons, List.length_nil, Nat.reduceAdd, Nat.reduceLT]
  refine Evp.ob (bring_ok _ _ _ _ (by omega)) ?_
  rintro _ rfl
  simp only [ret_int, ret_bool, ret_flt, ret_slc, ret_str, ret_ptr, ret_agg, ret_tup, ob_some, bb_true, bb_false, List.getElem?_cons_zero, List.getElem?_cons_succ, List.length_cons, List.length_nil, Nat.reduceAdd, Nat.reduceLT]
  refine Evp.ob (bring_ok _ _ _ _ (by decide)) ?_
  rintro _ rfl
  simp only [ret_int, ret_bool, ret_flt, ret_slc, ret_str, ret_ptr, ret_agg, ret_tup, ob_some, bb_true, bb_false, List.getElem?_cons_zero, List.getElem?_cons_succ, List.length_cons, List.length_nil, Nat.reduceAdd, Nat.reduceLT]
  refine Evp.ob (bring_ok _ _ _ _ (by decide)) ?_
  rintro _ rfl
  simp only [ret_int, ret_bool, ret_flt, ret_slc, ret_str, ret_ptr, ret_agg, ret_tup, ob_some, bb_true, bb_false, List.getElem?_cons_zero, List.getElem?_cons_succ, List.length_cons, List.length_nil, Nat.reduceAdd, Nat.reduceLT]
  refine Evp.ob (bring_ok _ _ _ _ (by decide)) ?_
  rintro _ rfl
  simp only [ret_int, ret_bool, ret_flt, ret_slc, ret_str, ret_ptr, ret_agg, ret_tup, ob_some, bb_true, bb_false, List.getElem?_cons_zero, List.getElem?_cons_succ, List.length_cons, List.length_nil, Nat.reduceAdd, Nat.reduceLT]
  refine Evp.ob (bring_ok _ _ _ _ (by decide)) ?_
  rintro _ rfl
  simp only [ret_int, ret_bool, ret_flt, ret_slc, ret_str, ret_ptr, ret_agg, ret_tup, ob_some, bb_true, bb_false, List.getElem?_cons_zero, List.getElem?_cons_succ, List.length_cons, List.length_nil, Nat.reduceAdd, Nat.reduceLT]
  have b1 := bringS_lt (i := x) (n := w) (by omega)
  have b2 := bringS_lt (i := y) (n := h) (by omega)
  have b3 := bringS_lt (i := d) (n := 8) (by decide)
  have b4 := bringS_lt (i := p1') (n := 16) (by decide)
  have b5 := bringS_lt (i := p2') (n := 5) (by decide)
  have b6 := bringS_lt (i := p3') (n := 7) (by decide)
  generalize bringS x (w : Int) = X at *
  generalize bringS y (h : Int) = Y at *
  generalize bringS d 8 = dir at *
  generalize bringS p1' 16 = pri at *
  generalize bringS p2' 5 = sec at *
  generalize bringS p3' 7 = dam at *
  obtain ⟨X, rfl⟩ := Int.eq_ofNat_of_zero_le b1.1
  obtain ⟨Y, rfl⟩ := Int.eq_ofNat_of_zero_le b2.1
  have ok : BlockOk w h xs.length X Y 1 1 dir pri sec dam := ⟨k1, by decide, by decide, by omega, by omega, by omega, by omega, by omega, by omega⟩
  refine Evp.ob (block_ok M1.length A c xs w h X Y 1 1 dir pri sec dam M1 (Nat.le_refl _) (hx.pre p1) bx) ?_
  rintro ⟨v, M2⟩ ⟨p2, hb⟩
  rw [if_pos ok] at hb
  obtain ⟨A2, c2, e, _, g2⟩ := hb
  simp only at e
  subst e
  simp only [Int.toNat_natCast] at g2
  have r2 : RdI M2 .u8 A2 [sampS w h xs ((X + 0 % 1 : Nat) : Int) ((Y + 0 / 1 : Nat) : Int) dam (tapsS dir.toNat pri.toNat sec.toNat)] := g2.rd
  rw [show X + 0 % 1 = X by omega, show Y + 0 / 1 = Y by omega] at r2
  simp only [ret_int, ret_bool, ret_flt, ret_slc, ret_str, ret_ptr, ret_agg, ret_tup, ob_some, bb_true, bb_false, List.getElem?_cons_zero, List.getElem?_cons_succ, List.length_cons, List.length_nil, Nat.reduceAdd, Nat.reduceLT]
  refine Evp.neb (fun g => absurd rfl g) fun _ => Evp.neb (fun g => absurd rfl g) fun _ => ?_
  have ey : maxI (IntKind.i64.wrap ((Y : Int) - 2)) 0 = ((Y - 2 : Nat) : Int) := by
    rw [w64 (by omega)]; unfold maxI; split <;> omega
  rw [ey]
  exact Evp.ret (between_rows M.length w h X Y A A2 c c2 xs _ M2 (by omega) (by omega) n1 ((hx.pre p1).pre p2) r2 (by omega) (by omega) (fun l m hN => samp_near bx hN (tapsS_b (by omega)) (by omega) (by omega)) _ (Y - 2) 255 0 rfl (by omega) (by omega) fun cy cx q1 q2 q3 q4 q5 q6 q7 => by omega)
end Go.Zt
