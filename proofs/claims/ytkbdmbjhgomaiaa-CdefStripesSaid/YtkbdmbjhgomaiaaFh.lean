/- CdefStripes. -/
import Derived.Test.YtkbdmbjhgomaiaaFg
set_option linter.unusedVariables false
set_option linter.unusedSimpArgs false
set_option maxRecDepth 100000
namespace Go.Zt
def condS (up : Bool) (i : Nat) : Bool := ((if up then i % 8 else i / 8) / 2) % 2 == 0
def naD (up : Bool) (d k : Nat) : Nat → Int
  | 0 => 0
  | i + 1 => naD up d k i + (if numS d (i / 8) (i % 8) = k then (if condS up i then 1 else 0) else 0)
def nbD (up : Bool) (d k : Nat) : Nat → Int
  | 0 => 0
  | i + 1 => nbD up d k i + (if numS d (i / 8) (i % 8) = k then (if condS up i then 0 else 1) else 0)
theorem sum_stripe (up : Bool) (a b : Int) (d k : Nat) : ∀ i, i ≤ 64 → sumD (stripeL up a b 64) d k i = naD up d k i * (a - 128) + nbD up d k i * (b - 128)
  | 0, _ => by simp [sumD, naD, nbD]
  | i + 1, h => by
    have ih := sum_stripe up a b d k i (by omega)
    have g : (stripeL up a b 64).getD i 0 = if condS up i then a else b := by
      unfold stripeL
      rw [getD_map_range (by omega)]
      unfold condS
      by_cases c : (if up then i % 8 else i / 8) / 2 % 2 = 0
      · rw [if_pos c, if_pos (by rw [c]; rfl)]
      · rw [if_neg c, if_neg (by simpa using c)]
    simp only [sumD, naD, nbD]
    rw [ih, g]
    by_cases h1 : numS d (i / 8) (i % 8) = k
    · rw [if_pos h1, if_pos h1, if_pos h1]
      cases condS up i with
      | true => simp only [if_true, Int.add_mul, Int.one_mul, Int.add_zero]; omega
      | false => simp only [Bool.false_eq_true, if_false, Int.add_mul, Int.one_mul, Int.add_zero]; omega
    · rw [if_neg h1, if_neg h1, if_neg h1, Int.add_zero, Int.add_zero, Int.add_zero]
def cA (up : Bool) (d : Nat) : Nat → Int
  | 0 => 0
  | k + 1 => cA up d k + (if manyD d k 64 = 0 then 0 else naD up d k 64 * naD up d k 64 * (840 / manyD d k 64))
def cX (up : Bool) (d : Nat) : Nat → Int
  | 0 => 0
  | k + 1 => cX up d k + (if manyD d k 64 = 0 then 0 else 2 * (naD up d k 64 * nbD up d k 64 * (840 / manyD d k 64)))
def cB (up : Bool) (d : Nat) : Nat → Int
  | 0 => 0
  | k + 1 => cB up d k + (if manyD d k 64 = 0 then 0 else nbD up d k 64 * nbD up d k 64 * (840 / manyD d k 64))
theorem quad (p q m A B : Int) : (p * A + q * B) * (p * A + q * B) * m = p * p * m * (A * A) + 2 * (p * q * m) * (A * B) + q * q * m * (B * B) := by
  have e1 : p * A * (p * A) * m = p * p * m * (A * A) := by ac_rfl
  have e2 : p * A * (q * B) * m = p * q * m * (A * B) := by ac_rfl
  have e3 : q * B * (p * A) * m = p * q * m * (A * B) := by ac_rfl
  have e4 : q * B * (q * B) * m = q * q * m * (B * B) := by ac_rfl
  rw [Int.add_mul, Int.mul_add, Int.mul_add, Int.add_mul, Int.add_mul, Int.add_mul, e1, e2, e3, e4, Int.mul_assoc 2]
  omega
theorem wgt_stripe (up : Bool) (a b : Int) (d : Nat) : ∀ k, wgtD (stripeL up a b 64) d k = cA up d k * ((a - 128) * (a - 128)) + cX up d k * ((a - 128) * (b - 128)) + cB up d k * ((b - 128) * (b - 128))
  | 0 => by simp [wgtD, cA, cX, cB]
  | k + 1 => by
    have ih := wgt_stripe up a b d k
    simp only [wgtD, cA, cX, cB]
    rw [ih]
    by_cases h : manyD d k 64 = 0
    · simp only [if_pos h, Int.add_zero]
    · simp only [if_neg h]
      rw [sum_stripe up a b d k 64 (Nat.le_refl _), quad, Int.add_mul, Int.add_mul, Int.add_mul]
      omega
def alV (up : Bool) (d : Nat) : Int := (if up then [15264, 14560, 13440, 14560, 15264, 16240, 26880, 16240] else [15264, 16240, 26880, 16240, 15264, 14560, 13440, 14560] : List Int).getD d 0
theorem coefF : ∀ d, d < 8 → cA false d 16 = alV false d ∧ cX false d 16 = 53760 - 2 * alV false d ∧ cB false d 16 = alV false d := by decide +kernel
theorem coefT : ∀ d, d < 8 → cA true d 16 = alV true d ∧ cX true d 16 = 53760 - 2 * alV true d ∧ cB true d 16 = alV true d := by decide +kernel
def vS (up : Bool) (x z y : Int) (d : Nat) : Int := alV up d * x + (53760 - 2 * alV up d) * z + alV up d * y
theorem bestF {x z y : Int} (h : 256 ≤ x - 2 * z + y) : bestV (vS false x z y) 8 = 2 := by
  have v0 : vS false x z y 0 = 15264 * x + 23232 * z + 15264 * y := rfl
  have v1 : vS false x z y 1 = 16240 * x + 21280 * z + 16240 * y := rfl
  have v2 : vS false x z y 2 = 26880 * x + 0 * z + 26880 * y := rfl
  have v3 : vS false x z y 3 = 16240 * x + 21280 * z + 16240 * y := rfl
  have v4 : vS false x z y 4 = 15264 * x + 23232 * z + 15264 * y := rfl
  have v5 : vS false x z y 5 = 14560 * x + 24640 * z + 14560 * y := rfl
  have v6 : vS false x z y 6 = 13440 * x + 26880 * z + 13440 * y := rfl
  have v7 : vS false x z y 7 = 14560 * x + 24640 * z + 14560 * y := rfl
  have b1 : bestV (vS false x z y) 1 = 0 := by simp [bestV]
  have b2 : bestV (vS false x z y) 2 = 1 := by rw [bestV, b1, if_pos (by rw [v0, v1]; omega)]
  have b3 : bestV (vS false x z y) 3 = 2 := by rw [bestV, b2, if_pos (by rw [v1, v2]; omega)]
  have b4 : bestV (vS false x z y) 4 = 2 := by rw [bestV, b3, if_neg (by rw [v2, v3]; omega)]
  have b5 : bestV (vS false x z y) 5 = 2 := by rw [bestV, b4, if_neg (by rw [v2, v4]; omega)]
  have b6 : bestV (vS false x z y) 6 = 2 := by rw [bestV, b5, if_neg (by rw [v2, v5]; omega)]
  have b7 : bestV (vS false x z y) 7 = 2 := by rw [bestV, b6, if_neg (by rw [v2, v6]; omega)]
  rw [bestV, b7, if_neg (by rw [v2, v7]; omega)]
theorem bestT {x z y : Int} (h : 256 ≤ x - 2 * z + y) : bestV (vS true x z y) 8 = 6 := by
  have v0 : vS true x z y 0 = 15264 * x + 23232 * z + 15264 * y := rfl
  have v1 : vS true x z y 1 = 14560 * x + 24640 * z + 14560 * y := rfl
  have v2 : vS true x z y 2 = 13440 * x + 26880 * z + 13440 * y := rfl
  have v3 : vS true x z y 3 = 14560 * x + 24640 * z + 14560 * y := rfl
  have v4 : vS true x z y 4 = 15264 * x + 23232 * z + 15264 * y := rfl
  have v5 : vS true x z y 5 = 16240 * x + 21280 * z + 16240 * y := rfl
  have v6 : vS true x z y 6 = 26880 * x + 0 * z + 26880 * y := rfl
  have v7 : vS true x z y 7 = 16240 * x + 21280 * z + 16240 * y := rfl
  have b1 : bestV (vS true x z y) 1 = 0 := by simp [bestV]
  have b2 : bestV (vS true x z y) 2 = 0 := by rw [bestV, b1, if_neg (by rw [v0, v1]; omega)]
  have b3 : bestV (vS true x z y) 3 = 0 := by rw [bestV, b2, if_neg (by rw [v0, v2]; omega)]
  have b4 : bestV (vS true x z y) 4 = 0 := by rw [bestV, b3, if_neg (by rw [v0, v3]; omega)]
  have b5 : bestV (vS true x z y) 5 = 0 := by rw [bestV, b4, if_neg (by rw [v0, v4]; omega)]
  have b6 : bestV (vS true x z y) 6 = 5 := by rw [bestV, b5, if_pos (by rw [v0, v5]; omega)]
  have b7 : bestV (vS true x z y) 7 = 6 := by rw [bestV, b6, if_pos (by rw [v5, v6]; omega)]
  rw [bestV, b7, if_neg (by rw [v6, v7]; omega)]
theorem sq_ge {e : Int} (h : 16 ≤ e ∨ e ≤ -16) : 256 ≤ e * e := by
  cases h with
  | inl h => exact Int.mul_le_mul (a := 16) (b := 16) h h (by omega) (by omega)
  | inr h =>
    have h2 : (16 : Int) ≤ -e := by omega
    have h3 : (16 : Int) * 16 ≤ (-e) * (-e) := Int.mul_le_mul h2 h2 (by omega) (by omega)
    rw [Int.neg_mul_neg] at h3
    omega
theorem dir_stripe (up : Bool) {a b : Int} (h : 16 ≤ a - b ∨ a - b ≤ -16) : bestD (stripeL up a b 64) 8 = (if up then 6 else 2) ∧ strD (stripeL up a b 64) = 13440 * ((a - b) * (a - b)) / 1024 ∧ 0 < strD (stripeL up a b 64) := by
  have s := sq_ge h
  have e : (a - b) * (a - b) = (a - 128) * (a - 128) - 2 * ((a - 128) * (b - 128)) + (b - 128) * (b - 128) := by
    have e1 : a - b = (a - 128) - (b - 128) := by omega
    rw [e1]
    generalize a - 128 = A
    generalize b - 128 = B
    rw [Int.sub_mul, Int.mul_sub, Int.mul_sub, Int.mul_comm B A]
    omega
  rw [e] at s
  have hv : ∀ d, d < 8 → wgtD (stripeL up a b 64) d 16 = vS up ((a - 128) * (a - 128)) ((a - 128) * (b - 128)) ((b - 128) * (b - 128)) d := fun d hd => by
    rw [wgt_stripe]
    cases up with
    | true => rw [(coefT d hd).1, (coefT d hd).2.1, (coefT d hd).2.2]; rfl
    | false => rw [(coefF d hd).1, (coefF d hd).2.1, (coefF d hd).2.2]; rfl
  rw [e]
  generalize (a - 128) * (a - 128) = x at *
  generalize (a - 128) * (b - 128) = z at *
  generalize (b - 128) * (b - 128) = y at *
  have hb := best_of hv 8 (Nat.le_refl _)
  have hs := str_of hv
  cases up with
  | true =>
    rw [bestT s] at hb hs
    have v6 : vS true x z y 6 = 26880 * x + 0 * z + 26880 * y := rfl
    have v2 : vS true x z y ((6 + 4) % 8) = 13440 * x + 26880 * z + 13440 * y := rfl
    rw [v6, v2, show 26880 * x + 0 * z + 26880 * y - (13440 * x + 26880 * z + 13440 * y) = 13440 * (x - 2 * z + y) by omega] at hs
    exact ⟨hb, hs, by rw [hs]; omega⟩
  | false =>
    rw [bestF s] at hb hs
    have v2 : vS false x z y 2 = 26880 * x + 0 * z + 26880 * y := rfl
    have v6 : vS false x z y ((2 + 4) % 8) = 13440 * x + 26880 * z + 13440 * y := rfl
    rw [v2, v6, show 26880 * x + 0 * z + 26880 * y - (13440 * x + 26880 * z + 13440 * y) = 13440 * (x - 2 * z + y) by omega] at hs
    exact ⟨hb, hs, by rw [hs]; omega⟩
theorem CdefStripes_law (M : Mem) (vs : List Value) (hro : AllRo M) (hv : LaysArgs P M [5, 5] vs) : Ac P T M.length F.zoetropelaw23_CdefStripes vs M fun r => r.1 = .bool true := by
  obtain ⟨a, b, rfl, wa, wb⟩ := Arg.CdefStripes hv
  have ha := wf_u8 wa
  have hb := wf_u8 wb
  refine Ac.of (Evp.of_eq (fun k => zoetropelaw23_CdefStripes.entry k ..) ?_)
  refine Evp.ob (awake_ok M.length M (Nat.le_refl _)) ?_
  rintro _ ⟨M1, rfl, p1⟩
  simp only [ret_int, ret_bool, ret_flt, ret_slc, ret_str, ret_ptr, ret_agg, ret_tup, ob_some, bb_true, bb_false, List.getElem?_cons_zero, List.getElem?_cons_succ, List.length_cons, List.length_nil, Nat.reduceAdd, Nat.reduceLT]
  refine Evp.ff rfl ?_
  have mm : IntKind.u8.wrap (maxI a b - minI a b) = maxI a b - minI a b := wu8 (by unfold maxI minI; split <;> split <;> omega)
  rw [mm]
  refine Evp.dec (fun _ => Evp.ret (Run.ret rfl)) fun g => ?_
  have gap : 16 ≤ a - b ∨ a - b ≤ -16 := by
    unfold maxI minI at g
    split at g <;> split at g <;> omega
  obtain ⟨f1, f2, f3⟩ := dir_stripe false gap
  obtain ⟨t1, t2, t3⟩ := dir_stripe true gap
  refine Evp.ob (stripes_ok M.length false a b M1 p1.len) ?_
  rintro _ ⟨A3, c3, M3, rfl, p3, r3⟩
  simp only [ret_int, ret_bool, ret_flt, ret_slc, ret_str, ret_ptr, ret_agg, ret_tup, ob_some, bb_true, bb_false, List.getElem?_cons_zero, List.getElem?_cons_succ, List.length_cons, List.length_nil, Nat.reduceAdd, Nat.reduceLT]
  have q3 := p1.trans p3
  have D3 := direction_ok M.length A3 c3 _ M3 r3 (stripe_bytes ha hb 64)
  rw [stripe_len] at D3
  refine Evp.ob D3 ?_
  rintro _ rfl
  rw [if_pos (stripe_len ..), f1]
  simp only [ret_int, ret_bool, ret_flt, ret_slc, ret_str, ret_ptr, ret_agg, ret_tup, ob_some, bb_true, bb_false, List.getElem?_cons_zero, List.getElem?_cons_succ, List.length_cons, List.length_nil, Nat.reduceAdd, Nat.reduceLT]
  refine Evp.ob (stripes_ok M.length true a b M3 q3.len) ?_
  rintro _ ⟨A4, c4, M4, rfl, p4, r4⟩
  simp only [ret_int, ret_bool, ret_flt, ret_slc, ret_str, ret_ptr, ret_agg, ret_tup, ob_some, bb_true, bb_false, List.getElem?_cons_zero, List.getElem?_cons_succ, List.length_cons, List.length_nil, Nat.reduceAdd, Nat.reduceLT]
  have D4 := direction_ok M.length A4 c4 _ M4 r4 (stripe_bytes ha hb 64)
  rw [stripe_len] at D4
  refine Evp.ob D4 ?_
  rintro _ rfl
  rw [if_pos (stripe_len ..), t1]
  simp only [ret_int, ret_bool, ret_flt, ret_slc, ret_str, ret_ptr, ret_agg, ret_tup, ob_some, bb_true, bb_false, List.getElem?_cons_zero, List.getElem?_cons_succ, List.length_cons, List.length_nil, Nat.reduceAdd, Nat.reduceLT]
  refine Evp.tt rfl (Evp.tt rfl (Evp.tt rfl (Evp.tt rfl (Evp.tt (by rw [f2, t2]; simp) (Evp.ret (Run.ret ?_))))))
  rw [decide_eq_true f3]
end Go.Zt
