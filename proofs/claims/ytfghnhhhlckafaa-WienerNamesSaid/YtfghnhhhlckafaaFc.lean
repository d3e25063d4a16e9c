/- A sample, as the document says. -/
import Derived.Test.YtfghnhhhlckafaaFb
set_option linter.unusedVariables false
set_option linter.unusedSimpArgs false
set_option maxRecDepth 100000
namespace Go.Zt
def SideP (side : Nat) : Prop := side = 64 ∨ side = 32
def fstS (side y : Nat) : Int := (((y + side / 8) / side * side : Nat) : Int) - ((side / 8 : Nat) : Int)
def rowI (h side y i : Nat) : Int := clipS (clipS ((y : Int) + i - 3) 0 ((h : Int) - 1)) (fstS side y - 2) (fstS side y + side + 1)
def rowN (h side y i : Nat) : Nat := (rowI h side y i).toNat
theorem fst_le {side y : Nat} (hs : SideP side) : fstS side y ≤ y ∧ (y : Int) < fstS side y + side ∧ -8 ≤ fstS side y := by
  unfold fstS
  rcases hs with rfl | rfl <;> omega
theorem row_le {h side y i : Nat} (hs : SideP side) (hy : y < h) (hi : i < 7) : rowI h side y i = ((rowN h side y i : Nat) : Int) ∧ rowN h side y i < h := by
  have f := fst_le (y := y) hs
  have hs' : side = 64 ∨ side = 32 := hs
  have : 0 ≤ rowI h side y i ∧ rowI h side y i < h := by
    unfold rowI clipS
    generalize fstS side y = F at *
    repeat' split
    all_goals omega
  unfold rowN; omega
def inS (h side y i : Nat) : Prop := fstS side y ≤ rowI h side y i ∧ rowI h side y i < fstS side y + side
instance (h side y i : Nat) : Decidable (inS h side y i) := inferInstanceAs (Decidable (_ ∧ _))
def tapR (hts xs bs : List Int) (w h side y x i : Nat) : Int := if inS h side y i then acS hts xs w (rowN h side y i) x else acS hts bs w (rowN h side y i) x
theorem tapR_le (hts xs bs : List Int) (w h side y x i : Nat) : -4096 ≤ tapR hts xs bs w h side y x i ∧ tapR hts xs bs w h side y x i ≤ 8191 := by
  unfold tapR; split <;> exact acS_le ..
def vacc (vts hts xs bs : List Int) (w h side y x : Nat) : Nat → Int
  | 0 => 0
  | i + 1 => vacc vts hts xs bs w h side y x i + vts.getD i 0 * tapR hts xs bs w h side y x i
theorem vprod_le {a b : Int} (ha : -256 ≤ a ∧ a ≤ 256) (hb : -4096 ≤ b ∧ b ≤ 8191) : -2097152 ≤ a * b ∧ a * b ≤ 2097152 := by
  have := mul_abs (a := a) (b := b) (A := 256) (B := 8192) (by omega) (by omega); omega
theorem vacc_le {vts : List Int} (hv : TsB vts) (hts xs bs : List Int) (w h side y x : Nat) : ∀ i : Nat, -(2097152 * (i : Int)) ≤ vacc vts hts xs bs w h side y x i ∧ vacc vts hts xs bs w h side y x i ≤ 2097152 * (i : Int)
  | 0 => by simp [vacc]
  | i + 1 => by
    have h1 := vacc_le hv hts xs bs w h side y x i
    have h2 := vprod_le (hv.2 i) (tapR_le hts xs bs w h side y x i)
    simp only [vacc]; omega
def sampW (vts hts xs bs : List Int) (w h side y x : Nat) : Int := clipS ((vacc vts hts xs bs w h side y x 7 + 1024) / 2048) 0 255
theorem sampW_le (vts hts xs bs : List Int) (w h side y x : Nat) : 0 ≤ sampW vts hts xs bs w h side y x ∧ sampW vts hts xs bs w h side y x ≤ 255 := by
  unfold sampW clipS
  repeat' split
  all_goals omega
/-- What a sample becomes. -/
def sampU (u : Un) (xs bs : List Int) (w h side y x : Nat) : Int := sampW (sevL u.v) (sevL u.h) xs bs w h side y x
theorem side_eq {side : Nat} (hs : SideP side) (y : Nat) (hy : y ≤ 1024) :
    IntKind.i64.wrap ((IntKind.i64.wrap ((IntKind.i64.wrap (Int.tdiv (IntKind.i64.wrap ((y : Int) + (IntKind.i64.wrap (Int.tdiv (side : Int) 8)))) (side : Int))) * (side : Int))) - (IntKind.i64.wrap (Int.tdiv (side : Int) 8))) = fstS side y ∧
    IntKind.i64.wrap (fstS side y + side) = fstS side y + side := by
  have f := fst_le (y := y) hs
  have hs' := hs
  unfold SideP at hs'
  refine ⟨?_, w64 (by omega)⟩
  unfold fstS at *
  have e1 : Int.tdiv (side : Int) 8 = ((side / 8 : Nat) : Int) := rfl
  rw [e1, w64 (x := ((side / 8 : Nat) : Int)) (by omega), ← Int.natCast_add, w64 (x := ((y + side / 8 : Nat) : Int)) (by omega), show Int.tdiv ((y + side / 8 : Nat) : Int) (side : Int) = (((y + side / 8) / side : Nat) : Int) from rfl]
  have q : (y + side / 8) / side ≤ 1032 := Nat.le_trans (Nat.div_le_self _ _) (by omega)
  generalize (y + side / 8) / side = k at *
  rw [w64 (x := ((k : Nat) : Int)) (by omega), ← Int.natCast_mul]
  have : k * side ≤ 1032 * 64 := Nat.mul_le_mul q (by omega)
  rw [w64 (x := ((k * side : Nat) : Int)) (by omega), w64 (by omega)]
section
variable (lo : Nat) (A B : Option Addr) (cap capb : Nat) (xs bs : List Int) (w h side y x : Nat) (u : Un) (M0 : Mem)
variable (hx : RdI M0 .u8 A xs) (hb : RdI M0 .u8 B bs) (bx : Bytes xs) (bb' : Bytes bs) (hw : 1 ≤ w ∧ w ≤ 512) (hh : h ≤ 512) (hn : xs.length = h * w) (hnb : bs.length = h * w) (hy : y < h) (hxw : x < w) (hs : SideP side)
include hx hb bx bb' hw hh hn hnb hy hxw hs
theorem rsample_ok : Ac P T lo F.zoetroperef24_sample [.agg ⟨[.int .i64 w, .int .i64 h, .slice A xs.length cap]⟩, .agg ⟨[.int .i64 w, .int .i64 h, .slice B bs.length capb]⟩, .int .i64 x, .int .i64 y, .agg ⟨u.cells⟩, .int .i64 side] M0 fun r => r = (.int .u8 (sampU u xs bs w h side y x), M0) := by
  have hs' := hs
  unfold SideP at hs'
  obtain ⟨s1, s2⟩ := side_eq hs y (by omega)
  have f := fst_le (y := y) hs
  refine Ac.of (Evp.of_eq (fun k => zoetroperef24_sample.entry k ..) ?_)
  refine Evp.ob (rseven_ok lo u.v M0) ?_
  rintro _ ⟨a, b, c, d, e, f1, g, rfl, ev⟩
  simp only [ret_int, ret_bool, ret_flt, ret_slc, ret_str, ret_ptr, ret_agg, ret_tup, ob_some, bb_true, bb_false, List.getElem?_cons_zero, List.getElem?_cons_succ, List.length_cons, List.length_nil, Nat.reduceAdd, Nat.reduceLT]
  refine Evp.ob (rseven_ok lo u.h M0) ?_
  rintro _ ⟨a', b', c', d', e', f', g', rfl, eh⟩
  simp only [ret_int, ret_bool, ret_flt, ret_slc, ret_str, ret_ptr, ret_agg, ret_tup, ob_some, bb_true, bb_false, List.getElem?_cons_zero, List.getElem?_cons_succ, List.length_cons, List.length_nil, Nat.reduceAdd, Nat.reduceLT]
  refine Evp.neg (by omega) ?_
  rw [s1, s2]
  have tv := sev_TsB u.v
  have th := sev_TsB u.h
  rw [ev] at tv
  rw [eh] at th
  have es : sampU u xs bs w h side y x = sampW [a, b, c, d, e, f1, g] [a', b', c', d', e', f', g'] xs bs w h side y x := by unfold sampU; rw [ev, eh]
  rw [es]
  have loop : ∀ (q i : Nat), 7 - i = q → i ≤ 7 → Run P T lo F.zoetroperef24_sample (zoetroperef24_sample.c4084 x y (fstS side y) (fstS side y + side) (vacc [a, b, c, d, e, f1, g] [a', b', c', d', e', f', g'] xs bs w h side y x i) i w h A xs.length cap w h B bs.length capb a b c d e f1 g a' b' c' d' e' f' g' M0) fun r => r = (.int .u8 (sampW [a, b, c, d, e, f1, g] [a', b', c', d', e', f', g'] xs bs w h side y x), M0) := by
    intro q
    induction q with
    | zero =>
      intro i hq hi
      obtain rfl : i = 7 := by omega
      have := vacc_le tv [a', b', c', d', e', f', g'] xs bs w h side y x 7
      refine Run.cut (Evp.of_eq (fun k => zoetroperef24_sample.p4084 k ..) ?_)
      refine Evp.ff rfl ?_
      refine Evp.ob (rround11 _ _ _ (by omega)) ?_
      rintro _ rfl
      simp only [ret_int, ret_bool, ret_flt, ret_slc, ret_str, ret_ptr, ret_agg, ret_tup, ob_some, bb_true, bb_false, List.getElem?_cons_zero, List.getElem?_cons_succ, List.length_cons, List.length_nil, Nat.reduceAdd, Nat.reduceLT]
      refine Evp.ob (clip_ok ..) ?_
      rintro _ rfl
      simp only [ret_int, ret_bool, ret_flt, ret_slc, ret_str, ret_ptr, ret_agg, ret_tup, ob_some, bb_true, bb_false, List.getElem?_cons_zero, List.getElem?_cons_succ, List.length_cons, List.length_nil, Nat.reduceAdd, Nat.reduceLT]
      refine Evp.ret (Run.ret ?_)
      have l := sampW_le [a, b, c, d, e, f1, g] [a', b', c', d', e', f', g'] xs bs w h side y x
      unfold sampW at *
      rw [wu8 (by omega)]
    | succ q ih =>
      intro i hq hi
      have v1 := vacc_le tv [a', b', c', d', e', f', g'] xs bs w h side y x i
      have v2 := vprod_le (tv.2 i) (tapR_le [a', b', c', d', e', f', g'] xs bs w h side y x i)
      obtain ⟨r1, r2⟩ := row_le (h := h) hs hy (i := i) (by omega)
      have next : ∀ z : Int, z = vacc [a, b, c, d, e, f1, g] [a', b', c', d', e', f', g'] xs bs w h side y x (i + 1) → Run P T lo F.zoetroperef24_sample (zoetroperef24_sample.c16339 x y (fstS side y) (fstS side y + side) z i w h A xs.length cap w h B bs.length capb a b c d e f1 g a' b' c' d' e' f' g' M0) fun r => r = (.int .u8 (sampW [a, b, c, d, e, f1, g] [a', b', c', d', e', f', g'] xs bs w h side y x), M0) := fun z hz => by
        subst hz
        refine Run.cut (Evp.of_eq (fun k => zoetroperef24_sample.p16339 k ..) ?_)
        rw [w64 (x := (i : Int) + 1) (by omega)]
        exact Evp.ret (ih (i + 1) (by omega) (by omega))
      refine Run.cut (Evp.of_eq (fun k => zoetroperef24_sample.p4084 k ..) ?_)
      refine Evp.dec (fun _ => ?_) fun h => absurd h (by omega)
      rw [w64 (x := (y : Int) + i) (by omega), w64 (x := (y : Int) + i - 3) (by omega), w64 (x := (h : Int) - 1) (by omega), w64 (x := fstS side y - 2) (by omega), w64 (x := fstS side y + side + 1) (by omega)]
      refine Evp.ob (clip_ok ..) ?_
      rintro _ rfl
      simp only [ret_int, ret_bool, ret_flt, ret_slc, ret_str, ret_ptr, ret_agg, ret_tup, ob_some, bb_true, bb_false, List.getElem?_cons_zero, List.getElem?_cons_succ, List.length_cons, List.length_nil, Nat.reduceAdd, Nat.reduceLT]
      refine Evp.ob (clip_ok ..) ?_
      rintro _ rfl
      simp only [ret_int, ret_bool, ret_flt, ret_slc, ret_str, ret_ptr, ret_agg, ret_tup, ob_some, bb_true, bb_false, List.getElem?_cons_zero, List.getElem?_cons_succ, List.length_cons, List.length_nil, Nat.reduceAdd, Nat.reduceLT]
      rw [show clipS (clipS ((y : Int) + i - 3) 0 ((h : Int) - 1)) (fstS side y - 2) (fstS side y + side + 1) = rowI h side y i from rfl, r1]
      have acx := racross_ok M0.length A cap xs w h (rowN h side y i) a' b' c' d' e' f' g' M0 hx bx hw hh hn r2 th x (by omega) M0 (Pre.refl _)
      have acb := racross_ok M0.length B capb bs w h (rowN h side y i) a' b' c' d' e' f' g' M0 hb bb' hw hh hnb r2 th x (by omega) M0 (Pre.refl _)
      have out : ¬ inS h side y i → Evp (fun k => pb (0 ≤ (i : Int) ∧ (i : Int) < (7 : Int)) (ob ((([.int .i64 a, .int .i64 b, .int .i64 c, .int .i64 d, .int .i64 e, .int .i64 f1, .int .i64 g] : List Value)[0 + (i : Int).toNat + 0]?).bind (Value.int? .i64)) fun x55 =>
          ob (acall P T k M0.length F.zoetroperef24_across [.agg ⟨[.int .i64 w, .int .i64 h, .slice B bs.length capb]⟩, .int .i64 x, .int .i64 (rowN h side y i : Nat), .agg ⟨[.int .i64 a', .int .i64 b', .int .i64 c', .int .i64 d', .int .i64 e', .int .i64 f', .int .i64 g']⟩] M0) fun r56 => ob ((some r56.1).bind (Value.int? .i64)) fun x57 =>
          some (zoetroperef24_sample.c16339 x y (fstS side y) (fstS side y + side) (IntKind.i64.wrap (vacc [a, b, c, d, e, f1, g] [a', b', c', d', e', f', g'] xs bs w h side y x i + (IntKind.i64.wrap (x55 * x57)))) i w h A xs.length cap w h B bs.length capb a b c d e f1 g a' b' c' d' e' f' g' r56.2)) none) fun out => Run P T lo F.zoetroperef24_sample out fun r => r = (.int .u8 (sampW [a, b, c, d, e, f1, g] [a', b', c', d', e', f', g'] xs bs w h side y x), M0) := fun hno => by
        have et : tapR [a', b', c', d', e', f', g'] xs bs w h side y x i = acS [a', b', c', d', e', f', g'] bs w (rowN h side y i) x := by unfold tapR; rw [if_neg hno]
        rw [et] at v2
        refine Evp.pos (by omega) ?_
        simp only [Int.toNat_natCast, Nat.zero_add]
        refine Evp.some (seven_get i (by omega)) ?_
        refine Evp.ob acb ?_
        rintro _ rfl
        simp only [ret_int, ret_bool, ret_flt, ret_slc, ret_str, ret_ptr, ret_agg, ret_tup, ob_some, bb_true, bb_false, List.getElem?_cons_zero, List.getElem?_cons_succ, List.length_cons, List.length_nil, Nat.reduceAdd, Nat.reduceLT]
        rw [w64 (x := _ * _) (by omega), w64 (x := _ + _ * _) (by omega)]
        exact Evp.ret (next _ (by simp only [vacc]; rw [et]))
      refine Evp.dec (fun g1 => ?_) fun g1 => out fun e => g1 (by rw [← r1]; exact e.1)
      refine Evp.dec (fun g2 => ?_) fun g2 => out fun e => g2 (by rw [← r1]; exact e.2)
      have et : tapR [a', b', c', d', e', f', g'] xs bs w h side y x i = acS [a', b', c', d', e', f', g'] xs w (rowN h side y i) x := by
        unfold tapR; rw [if_pos ⟨by rw [r1]; exact g1, by rw [r1]; exact g2⟩]
      rw [et] at v2
      refine Evp.pos (by omega) ?_
      simp only [Int.toNat_natCast, Nat.zero_add]
      refine Evp.some (seven_get i (by omega)) ?_
      refine Evp.ob acx ?_
      rintro _ rfl
      simp only [ret_int, ret_bool, ret_flt, ret_slc, ret_str, ret_ptr, ret_agg, ret_tup, ob_some, bb_true, bb_false, List.getElem?_cons_zero, List.getElem?_cons_succ, List.length_cons, List.length_nil, Nat.reduceAdd, Nat.reduceLT]
      rw [w64 (x := _ * _) (by omega), w64 (x := _ + _ * _) (by omega)]
      exact Evp.ret (next _ (by simp only [vacc]; rw [et]))
  exact Evp.ret (loop 7 0 rfl (by omega))
end
end Go.Zt
