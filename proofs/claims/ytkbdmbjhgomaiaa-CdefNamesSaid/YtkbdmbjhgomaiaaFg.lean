/- That it works at all; CdefLimits. -/
import Derived.Test.YtkbdmbjhgomaiaaFf
set_option linter.unusedVariables false
set_option linter.unusedSimpArgs false
set_option maxRecDepth 100000
namespace Go.Zt
def bestV (v : Nat → Int) : Nat → Nat
  | 0 => 0
  | d + 1 => if v d > v (bestV v d) then d else bestV v d
theorem bestV_lt (v : Nat → Int) : ∀ n, bestV v n < max n 1
  | 0 => by simp [bestV]
  | n + 1 => by
    have := bestV_lt v n
    simp only [bestV]
    split <;> omega
theorem best_of {b : List Int} {v : Nat → Int} (h : ∀ d, d < 8 → wgtD b d 16 = v d) : ∀ n, n ≤ 8 → bestD b n = bestV v n
  | 0, _ => rfl
  | n + 1, hn => by
    have ih := best_of h n (by omega)
    have := bestV_lt v n
    simp only [bestD, bestV]
    rw [ih, h n (by omega), h _ (by omega)]
theorem str_of {b : List Int} {v : Nat → Int} (h : ∀ d, d < 8 → wgtD b d 16 = v d) : strD b = (v (bestV v 8) - v ((bestV v 8 + 4) % 8)) / 1024 := by
  have := bestV_lt v 8
  unfold strD
  rw [best_of h 8 (by omega), h _ (by omega), h _ (by omega)]
theorem byl {l : List Int} (h : l.all (fun x => decide (0 ≤ x) && decide (x ≤ 255)) = true) : Bytes l := fun x hx => by
  have := List.all_eq_true.1 h x hx
  simpa using this
theorem ite_byte {a b : Int} (c : Prop) [Decidable c] (ha : 0 ≤ a ∧ a ≤ 255) (hb : 0 ≤ b ∧ b ≤ 255) : 0 ≤ (if c then a else b) ∧ (if c then a else b) ≤ 255 := by
  split
  · exact ha
  · exact hb
theorem stripe_bytes {up : Bool} {a b : Int} (ha : 0 ≤ a ∧ a ≤ 255) (hb : 0 ≤ b ∧ b ≤ 255) (n : Nat) : Bytes (stripeL up a b n) := fun z hz => by
  unfold stripeL at hz
  obtain ⟨i, _, rfl⟩ := List.mem_map.1 hz
  exact ite_byte _ ha hb
theorem stripe_len (up : Bool) (a b : Int) (n : Nat) : (stripeL up a b n).length = n := by simp [stripeL]
def tabF : List Int := (List.range 8).map fun d => wgtD (stripeL false 0 255 64) d 16
def tabT : List Int := (List.range 8).map fun d => wgtD (stripeL true 0 255 64) d 16
theorem dirF : bestD (stripeL false 0 255 64) 8 = 2 ∧ strD (stripeL false 0 255 64) = 853453 := by
  have h : ∀ d, d < 8 → wgtD (stripeL false 0 255 64) d 16 = tabF.getD d 0 := fun d hd => by unfold tabF; exact (getD_map_range (f := fun d => wgtD (stripeL false 0 255 64) d 16) hd).symm
  have e : bestV (fun d => tabF.getD d 0) 8 = 2 := by decide +kernel
  refine ⟨by rw [best_of h 8 (by omega), e], ?_⟩
  rw [str_of h, e]
  decide +kernel
theorem dirT : bestD (stripeL true 0 255 64) 8 = 6 ∧ strD (stripeL true 0 255 64) = 853453 := by
  have h : ∀ d, d < 8 → wgtD (stripeL true 0 255 64) d 16 = tabT.getD d 0 := fun d hd => by unfold tabT; exact (getD_map_range (f := fun d => wgtD (stripeL true 0 255 64) d 16) hd).symm
  have e : bestV (fun d => tabT.getD d 0) 8 = 6 := by decide +kernel
  refine ⟨by rw [best_of h 8 (by omega), e], ?_⟩
  rw [str_of h, e]
  decide +kernel
abbrev usualL : List Int := [10, 10, 14, 10, 10]
theorem usual_ok (lo : Nat) (M : Mem) : Ac P T lo F.zoetropelaw23_usual [] M fun r => r = (.agg ⟨[.int .i64 5, .int .i64 1, .slice (some ⟨M.length, 0, none⟩) 5 5]⟩, M ++ [⟨.fx, usualL.map (Value.int .u8)⟩]) := by
  refine Ac.of (Evp.of_eq (fun k => zoetropelaw23_usual.entry k ..) ?_)
  exact Evp.ret (Run.ret rfl)
theorem usual_block : blockS 5 1 usualL 0 0 5 3 (tapsS 2 4 0) 5 = [10, 11, 12, 11, 10] := by decide +kernel
theorem awake_ok (lo : Nat) (M : Mem) (hlo : lo ≤ M.length) : Ac P T lo F.zoetropelaw23_awake [] M fun r => ∃ M', r = (.bool true, M') ∧ Pre M M' := by
  refine Ac.of (Evp.of_eq (fun k => zoetropelaw23_awake.entry k ..) ?_)
  refine Evp.ob (usual_ok ..) ?_
  rintro _ rfl
  simp only [ret_int, ret_bool, ret_flt, ret_slc, ret_str, ret_ptr, ret_agg, ret_tup, ob_some, bb_true, bb_false, List.getElem?_cons_zero, List.getElem?_cons_succ, List.length_cons, List.length_nil, Nat.reduceAdd, Nat.reduceLT]
  have p1 := Pre.app M [⟨.fx, usualL.map (Value.int .u8)⟩]
  have hu : RdI (M ++ [⟨.fx, usualL.map (Value.int .u8)⟩] : Mem) .u8 (some ⟨M.length, 0, none⟩) usualL := RdI.lit usualL
  refine Evp.ob (block_ok lo (some ⟨M.length, 0, none⟩) 5 usualL 5 1 0 0 5 1 2 4 0 3 _ (Nat.le_trans hlo p1.len) hu (byl rfl)) ?_
  rintro ⟨v, M2⟩ ⟨p2, hb⟩
  rw [if_pos (by decide)] at hb
  obtain ⟨A2, c2, e, _, g2⟩ := hb
  simp only at e g2
  subst e
  have r2 : RdI M2 .u8 A2 [10, 11, 12, 11, 10] := by
    have := g2.rd
    rw [show blockS (5 : Int).toNat (1 : Int).toNat usualL (0 : Int).toNat (0 : Int).toNat (5 : Int).toNat 3 (tapsS (2 : Int).toNat (4 : Int).toNat (0 : Int).toNat) ((5 : Int).toNat * (1 : Int).toNat) = [10, 11, 12, 11, 10] from usual_block] at this
    exact this
  simp only [ret_int, ret_bool, ret_flt, ret_slc, ret_str, ret_ptr, ret_agg, ret_tup, ob_some, bb_true, bb_false, List.getElem?_cons_zero, List.getElem?_cons_succ, List.length_cons, List.length_nil, Nat.reduceAdd, Nat.reduceLT]
  have q2 := p1.trans p2
  refine Evp.ob (stripes_ok lo false 0 255 M2 (Nat.le_trans hlo q2.len)) ?_
  rintro _ ⟨A3, c3, M3, rfl, p3, r3⟩
  simp only [ret_int, ret_bool, ret_flt, ret_slc, ret_str, ret_ptr, ret_agg, ret_tup, ob_some, bb_true, bb_false, List.getElem?_cons_zero, List.getElem?_cons_succ, List.length_cons, List.length_nil, Nat.reduceAdd, Nat.reduceLT]
  have q3 := q2.trans p3
  have D3 := direction_ok lo A3 c3 _ M3 r3 (stripe_bytes (by decide) (by decide) 64)
  rw [stripe_len] at D3
  refine Evp.ob D3 ?_
  rintro _ rfl
  rw [if_pos (stripe_len ..), dirF.1, dirF.2]
  simp only [ret_int, ret_bool, ret_flt, ret_slc, ret_str, ret_ptr, ret_agg, ret_tup, ob_some, bb_true, bb_false, List.getElem?_cons_zero, List.getElem?_cons_succ, List.length_cons, List.length_nil, Nat.reduceAdd, Nat.reduceLT]
  refine Evp.ob (stripes_ok lo true 0 255 M3 (Nat.le_trans hlo q3.len)) ?_
  rintro _ ⟨A4, c4, M4, rfl, p4, r4⟩
  simp only [ret_int, ret_bool, ret_flt, ret_slc, ret_str, ret_ptr, ret_agg, ret_tup, ob_some, bb_true, bb_false, List.getElem?_cons_zero, List.getElem?_cons_succ, List.length_cons, List.length_nil, Nat.reduceAdd, Nat.reduceLT]
  have q4 := q3.trans p4
  have D4 := direction_ok lo A4 c4 _ M4 r4 (stripe_bytes (by decide) (by decide) 64)
  rw [stripe_len] at D4
  refine Evp.ob D4 ?_
  rintro _ rfl
  rw [if_pos (stripe_len ..), dirT.1, dirT.2]
  simp only [ret_int, ret_bool, ret_flt, ret_slc, ret_str, ret_ptr, ret_agg, ret_tup, ob_some, bb_true, bb_false, List.getElem?_cons_zero, List.getElem?_cons_succ, List.length_cons, List.length_nil, Nat.reduceAdd, Nat.reduceLT]
  refine Evp.tt rfl (Evp.tt rfl (Evp.tt rfl ?_))
  have p5 := Pre.app M4 [⟨.fx, ([10, 11, 12, 11, 10] : List Int).map (Value.int .u8)⟩]
  have q5 := q4.trans p5
  refine Evp.ob (eqBytes_ok _ _ _ _ _ [10, 11, 12, 11, 10] [10, 11, 12, 11, 10] _ (((r2.pre p3).pre p4).pre p5) (RdI.lit (k := .u8) [10, 11, 12, 11, 10]) (by decide)) ?_
  rintro _ rfl
  simp only [ret_int, ret_bool, ret_flt, ret_slc, ret_str, ret_ptr, ret_agg, ret_tup, ob_some, bb_true, bb_false, List.getElem?_cons_zero, List.getElem?_cons_succ, List.length_cons, List.length_nil, Nat.reduceAdd, Nat.reduceLT]
  refine Evp.tt (by simp) (Evp.tt rfl (Evp.tt rfl (Evp.tt rfl (Evp.tt rfl ?_))))
  refine Evp.ob (limit_ok lo 5 8 5 _) ?_
  rintro _ rfl
  simp only [ret_int, ret_bool, ret_flt, ret_slc, ret_str, ret_ptr, ret_agg, ret_tup, ob_some, bb_true, bb_false, List.getElem?_cons_zero, List.getElem?_cons_succ, List.length_cons, List.length_nil, Nat.reduceAdd, Nat.reduceLT]
  refine Evp.tt (by rw [show limS 5 8 5 = 5 by decide +kernel]; rfl) ?_
  refine Evp.ob (limit_ok lo (-40) 8 5 _) ?_
  rintro _ rfl
  simp only [ret_int, ret_bool, ret_flt, ret_slc, ret_str, ret_ptr, ret_agg, ret_tup, ob_some, bb_true, bb_false, List.getElem?_cons_zero, List.getElem?_cons_succ, List.length_cons, List.length_nil, Nat.reduceAdd, Nat.reduceLT]
  exact Evp.ret (Run.ret ⟨_, by rw [show limS (-40) 8 5 = 0 by decide +kernel]; rfl, q5⟩)
/-! ### Limits -/
theorem lim_neg {d t p : Int} (hd : 0 ≤ d ∧ d < 1048576) : limS d t p = -limS (-d) t p ∧ 0 ≤ limS d t p ∧ limS d t p ≤ d ∧ limS d t p ≤ maxI t 0 ∧ (t ≤ 0 → limS d t p = 0) ∧ (0 < t → t < 1048576 → p ≤ 0 → t ≤ d → limS d t p = 0) := by
  have f1 : far20 d = d := by unfold far20 clipS; rw [if_neg (by omega), if_neg (by omega)]
  have f2 : far20 (-d) = -d := by unfold far20 clipS; rw [if_neg (by omega), if_neg (by omega)]
  have a1 : absS (far20 d) = d := by rw [f1]; unfold absS; rw [if_neg (by omega)]
  have a2 : absS (far20 (-d)) = d := by rw [f2]; unfold absS; split <;> omega
  have ft : (far20 t ≤ 0 ↔ t ≤ 0) ∧ (0 < t → far20 t ≤ t) := by
    unfold far20 clipS
    repeat' split
    all_goals omega
  have sh : p ≤ 0 → shiftS t p = 0 := fun hp => by
    have : far20 p ≤ 0 := by
      unfold far20 clipS
      repeat' split
      all_goals omega
    unfold shiftS clipS
    generalize Nat.log2 (far20 t).toNat = l
    repeat' split
    all_goals omega
  have q0 : ¬ far20 t ≤ 0 → 0 ≤ d / 2 ^ (shiftS t p).toNat := fun h => by
    have := (lim_parts d t p h).2.2.2.2.1
    rwa [a1] at this
  have qs : p ≤ 0 → d / 2 ^ (shiftS t p).toNat = d := fun hp => by rw [sh hp]; simp
  have ft2 : 0 < t → t < 1048576 → far20 t = t := fun h1 h2 => by unfold far20 clipS; rw [if_neg (by omega), if_neg (by omega)]
  unfold limS
  rw [a1, a2, f1, f2]
  by_cases g : far20 t ≤ 0
  · rw [if_pos g, if_pos g]
    refine ⟨by omega, by omega, by omega, by unfold maxI; split <;> omega, fun _ => rfl, fun h => by have := ft.1.1 g; omega⟩
  · have q := q0 g
    have tp : 0 < t := by
      by_cases h : t ≤ 0
      · exact absurd (ft.1.2 h) g
      · omega
    have ftt := ft.2 tp
    rw [if_neg g, if_neg g, if_neg (by omega)]
    refine ⟨?_, ?_, ?_, ?_, fun h => by omega, fun h1 h2 h3 h4 => ?_⟩
    · split
      · omega
      · have : d = 0 := by omega
        subst this
        generalize far20 t - 0 / 2 ^ (shiftS t p).toNat = z
        unfold minI maxI
        repeat' split
        all_goals omega
    · unfold minI maxI
      repeat' split
      all_goals omega
    · unfold minI
      split <;> omega
    · unfold minI maxI
      repeat' split
      all_goals omega
    · rw [qs h3, ft2 h1 h2]
      unfold minI maxI
      repeat' split
      all_goals omega
theorem CdefLimits_law (M : Mem) (vs : List Value) (hro : AllRo M) (hv : LaysArgs P M [3, 3, 3] vs) : Ac P T M.length F.zoetropelaw23_CdefLimits vs M fun r => r.1 = .bool true := by
  obtain ⟨d, t, p, rfl, _⟩ := Arg.CdefLimits hv
  refine Ac.of (Evp.of_eq (fun k => zoetropelaw23_CdefLimits.entry k ..) ?_)
  refine Evp.ob (awake_ok M.length M (Nat.le_refl _)) ?_
  rintro _ ⟨M1, rfl, p1⟩
  simp only [ret_int, ret_bool, ret_flt, ret_slc, ret_str, ret_ptr, ret_agg, ret_tup, ob_some, bb_true, bb_false, List.getElem?_cons_zero, List.getElem?_cons_succ, List.length_cons, List.length_nil, Nat.reduceAdd, Nat.reduceLT]
  refine Evp.ff rfl ?_
  refine Evp.ob (bring_ok _ _ _ _ (by decide)) ?_
  rintro _ rfl
  simp only [ret_int, ret_bool, ret_flt, ret_slc, ret_str, ret_ptr, ret_agg, ret_tup, ob_some, bb_true, bb_false, List.getElem?_cons_zero, List.getElem?_cons_succ, List.length_cons, List.length_nil, Nat.reduceAdd, Nat.reduceLT]
  have hb := bringS_lt (i := d) (n := 1048576) (by decide)
  generalize bringS d 1048576 = x at *
  obtain ⟨l1, l2, l3, l4, l5, l6⟩ := lim_neg (d := x) (t := t) (p := p) hb
  rw [w64 (x := 0 - x) (by omega), Int.zero_sub]
  refine Evp.ob (limit_ok M.length x t p M1) ?_
  rintro _ rfl
  simp only [ret_int, ret_bool, ret_flt, ret_slc, ret_str, ret_ptr, ret_agg, ret_tup, ob_some, bb_true, bb_false, List.getElem?_cons_zero, List.getElem?_cons_succ, List.length_cons, List.length_nil, Nat.reduceAdd, Nat.reduceLT]
  refine Evp.ob (limit_ok M.length (-x) t p M1) ?_
  rintro _ rfl
  simp only [ret_int, ret_bool, ret_flt, ret_slc, ret_str, ret_ptr, ret_agg, ret_tup, ob_some, bb_true, bb_false, List.getElem?_cons_zero, List.getElem?_cons_succ, List.length_cons, List.length_nil, Nat.reduceAdd, Nat.reduceLT]
  have e : IntKind.i64.wrap (0 - limS (-x) t p) = limS x t p := by
    rw [w64 (by omega)]; omega
  rw [e]
  refine Evp.neb (fun g => absurd rfl g) fun _ => ?_
  refine Evp.dec (fun g => absurd g (by omega)) fun _ => Evp.dec (fun g => absurd g (by omega)) fun _ => Evp.dec (fun g => absurd g (by omega)) fun _ => ?_
  have last : Evp (fun k => bb (decide (t > 0)) (some (.ret (.bool true) M1)) (some (.ret (.bool (limS x t p == 0)) M1))) fun out => Run P T M.length F.zoetropelaw23_CdefLimits out fun r => r.1 = .bool true :=
    Evp.dec (fun _ => Evp.ret (Run.ret rfl)) fun g => Evp.ret (Run.ret (by rw [l5 (by omega)]; rfl))
  refine Evp.dec (fun h1 => Evp.dec (fun h2 => Evp.dec (fun h3 => Evp.dec (fun h4 => Evp.ret (Run.ret ?_)) fun _ => last) fun _ => last) fun _ => last) fun _ => last
  rw [l6 (by omega) (by omega) (by omega) (by omega)]; rfl
end Go.Zt
