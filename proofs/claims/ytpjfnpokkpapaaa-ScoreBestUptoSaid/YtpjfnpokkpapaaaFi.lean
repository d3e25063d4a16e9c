/- ScoreBest, where what comes in is not too much. -/
import Derived.Test.YtpjfnpokkpapaaaFf
import Derived.Test.YtpjfnpokkpapaaaFh
set_option linter.unusedVariables false
set_option linter.unusedSimpArgs false
set_option maxRecDepth 100000
namespace Go.Zt
theorem nanB {x : Nat} : nanF x = true ↔ fkey x = none := by
  unfold nanF
  rw [fmt64, order_key]
  cases h : fkey x with
  | none => simp
  | some a => simp
theorem nanC {x : Nat} : nanF x = false ↔ ∃ a, fkey x = some a := by
  cases h : fkey x with
  | none => have := nanB.2 h; simp [this]
  | some a =>
    cases h2 : nanF x with
    | true => rw [nanB.1 h2] at h; cases h
    | false => simp
theorem lt_key {x y : Nat} : (FloatKind.f64.format.order x y == some .lt) = true ↔ ∃ a b, fkey x = some a ∧ fkey y = some b ∧ a < b := by
  rw [fmt64]
  cases hx : fkey x with
  | none => rw [order_key, hx]; simp
  | some a =>
    cases hy : fkey y with
    | none => rw [order_key, hx, hy]; simp
    | some b => rw [o_lt hx hy]; simp
theorem eq_key {x y : Nat} : (FloatKind.f64.format.order x y == some .eq) = true ↔ ∃ a b, fkey x = some a ∧ fkey y = some b ∧ a = b := by
  rw [fmt64]
  cases hx : fkey x with
  | none => rw [order_key, hx]; simp
  | some a =>
    cases hy : fkey y with
    | none => rw [order_key, hx, hy]; simp
    | some b => rw [o_eq hx hy]; simp
def BestOf (xs : List Nat) (n : Nat) (r : Int) : Prop := (r < 0 → ∀ j, j < n → fkey (xs.getD j 0) = none) ∧ (0 ≤ r → r.toNat < n ∧ ∃ kb, fkey (xs.getD r.toNat 0) = some kb ∧ (∀ j, j < n → ∀ kj, fkey (xs.getD j 0) = some kj → kb ≤ kj) ∧ ∀ j, j < r.toNat → ∀ kj, fkey (xs.getD j 0) = some kj → kb < kj)
theorem best_spec (xs : List Nat) : ∀ n, BestOf xs n (bestS xs n)
  | 0 => ⟨fun _ j hj => absurd hj (by omega), fun h => absurd h (by simp [bestS])⟩
  | n + 1 => by
    have ih := best_spec xs n
    have hl := bestS_lt xs n
    simp only [bestS]
    split
    · rename_i h
      obtain ⟨h1, h2⟩ := h
      obtain ⟨kn, ek⟩ := nanC.1 h1
      refine ⟨fun h => absurd h (by omega), fun _ => ⟨by omega, kn, by simpa using ek, fun j hj kj ej => ?_, fun j hj kj ej => ?_⟩⟩
      · by_cases hjn : j = n
        · subst hjn; rw [ek] at ej; injection ej with ej; omega
        · by_cases hb : bestS xs n < 0
          · rw [ih.1 hb j (by omega)] at ej; cases ej
          · obtain ⟨_, kb, eb, g1, _⟩ := ih.2 (by omega)
            obtain ⟨a, b, ea, eb', lt⟩ := lt_key.1 (h2.resolve_left hb)
            rw [ek] at ea; injection ea with ea
            rw [eb] at eb'; injection eb' with eb'
            have := g1 j (by omega) kj ej
            omega
      · have hjn : j < n := by simpa using hj
        by_cases hb : bestS xs n < 0
        · rw [ih.1 hb j hjn] at ej; cases ej
        · obtain ⟨_, kb, eb, g1, _⟩ := ih.2 (by omega)
          obtain ⟨a, b, ea, eb', lt⟩ := lt_key.1 (h2.resolve_left hb)
          rw [ek] at ea; injection ea with ea
          rw [eb] at eb'; injection eb' with eb'
          have := g1 j hjn kj ej
          omega
    · rename_i h
      refine ⟨fun hb j hj => ?_, fun hb => ?_⟩
      · by_cases hjn : j = n
        · subst hjn
          cases hk : fkey (xs.getD j 0) with
          | none => rfl
          | some k => exact absurd ⟨nanC.2 ⟨k, hk⟩, .inl hb⟩ h
        · exact ih.1 hb j (by omega)
      · obtain ⟨g0, kb, eb, g1, g2⟩ := ih.2 hb
        refine ⟨by omega, kb, eb, fun j hj kj ej => ?_, g2⟩
        by_cases hjn : j = n
        · subst hjn
          by_cases lt : kj < kb
          · exact absurd ⟨nanC.2 ⟨kj, ej⟩, .inr (lt_key.2 ⟨kj, kb, ej, eb, lt⟩)⟩ h
          · omega
        · exact g1 j (by omega) kj ej
theorem getD_app_l {xs ys : List Nat} {i : Nat} (h : i < xs.length) : (xs ++ ys).getD i 0 = xs.getD i 0 := by
  rw [List.getD_eq_getElem?_getD, List.getD_eq_getElem?_getD, List.getElem?_append_left h]
theorem getD_app_r {xs ys : List Nat} {i : Nat} : (xs ++ ys).getD (xs.length + i) 0 = ys.getD i 0 := by
  rw [List.getD_eq_getElem?_getD, List.getD_eq_getElem?_getD, List.getElem?_append_right (by omega), Nat.add_sub_cancel_left]
theorem best_app (xs ys : List Nat) : ∀ i, i ≤ xs.length → bestS (xs ++ ys) i = bestS xs i
  | 0, _ => rfl
  | i + 1, h => by
    have hl := bestS_lt xs i
    simp only [bestS]
    rw [best_app xs ys i (by omega), getD_app_l (by omega)]
    by_cases hb : bestS xs i < 0
    · simp only [hb, true_or, and_true]
    · rw [getD_app_l (by omega)]
theorem best_more (xs : List Nat) (y : Nat) (hy : nanF y = true) : bestS (xs ++ (xs ++ [y])) (xs ++ (xs ++ [y])).length = bestS xs xs.length := by
  have sp := best_spec xs xs.length
  have step : ∀ j, j ≤ xs.length + 1 → bestS (xs ++ (xs ++ [y])) (xs.length + j) = bestS xs xs.length := by
    intro j
    induction j with
    | zero => intro _; exact best_app xs _ _ (Nat.le_refl _)
    | succ j ih =>
      intro hj
      have ih := ih (by omega)
      rw [← Nat.add_assoc]
      simp only [bestS]
      rw [ih, getD_app_r]
      refine if_neg ?_
      rintro ⟨h1, h2⟩
      by_cases hjn : j = xs.length
      · subst hjn
        have e : (xs ++ [y]).getD xs.length 0 = y := by simp
        rw [e, hy] at h1
        cases h1
      · rw [getD_app_l (by omega)] at h1 h2
        obtain ⟨kj, ej⟩ := nanC.1 h1
        by_cases hb : bestS xs xs.length < 0
        · rw [sp.1 hb j (by omega)] at ej; cases ej
        · obtain ⟨g0, kb, eb, g1, _⟩ := sp.2 (by omega)
          rw [getD_app_l g0] at h2
          obtain ⟨a, b, ea, eb', lt⟩ := lt_key.1 (h2.resolve_left hb)
          rw [ej] at ea; injection ea with ea
          rw [eb] at eb'; injection eb' with eb'
          have := g1 j (by omega) kj ej
          omega
  have e : (xs ++ (xs ++ [y])).length = xs.length + (xs.length + 1) := by simp
  rw [e]
  exact step _ (Nat.le_refl _)
section
variable (lo : Nat) (A : Option Addr) (c : Nat) (xs : List Nat) (M : Mem) (hx : RdF M .f64 A xs) (hn : xs.length ≤ 1048576)
include hx hn
theorem best_none (h : bestS xs xs.length < 0) : ∀ (d i : Nat), xs.length - i = d → i ≤ xs.length → Run P T lo F.zoetropelaw06_ScoreBest (zoetropelaw06_ScoreBest.c130980 A xs.length c 0 2 i M) fun r => r.1 = .bool true := by
  intro d
  induction d with
  | zero =>
    intro i hd hi
    refine Run.cut (Evp.of_eq (fun k => zoetropelaw06_ScoreBest.p130980 k ..) ?_)
    refine Evp.dec (fun h => absurd h (by omega)) fun _ => Evp.tt rfl (Evp.ret (Run.ret rfl))
  | succ d ih =>
    intro i hd hi
    refine Run.cut (Evp.of_eq (fun k => zoetropelaw06_ScoreBest.p130980 k ..) ?_)
    refine Evp.dec (fun _ => ?_) fun h => absurd h (by omega)
    refine Evp.pos (by omega) ?_
    simp only [Int.toNat_natCast]
    refine Evp.ldF hx (by omega) fun _ _ => Evp.pos (by omega) (Evp.ldF hx (by omega) fun _ _ => ?_)
    have k := (best_spec xs xs.length).1 h i (by omega)
    refine Evp.ff ?_ ?_
    · cases e : (FloatKind.f64.format.order (xs.getD i 0) (xs.getD i 0) == some .eq) with
      | false => rfl
      | true => obtain ⟨a, b, ea, _⟩ := eq_key.1 e; rw [k] at ea; cases ea
    · rw [w64 (by omega), show (i : Int) + 1 = ((i + 1 : Nat) : Int) by omega]
      exact Evp.ret (ih (i + 1) (by omega) (by omega))
theorem best_some (b : Nat) (h : bestS xs xs.length = b) : ∀ (d i : Nat), xs.length - i = d → i ≤ xs.length → Run P T lo F.zoetropelaw06_ScoreBest (zoetropelaw06_ScoreBest.c65524 A xs.length c b i M) fun r => r.1 = .bool true := by
  obtain ⟨g0, kb, eb, g1, g2⟩ := (best_spec xs xs.length).2 (by omega)
  rw [h, Int.toNat_natCast] at g0 eb g2
  intro d
  induction d with
  | zero =>
    intro i hd hi
    refine Run.cut (Evp.of_eq (fun k => zoetropelaw06_ScoreBest.p65524 k ..) ?_)
    refine Evp.dec (fun h => absurd h (by omega)) fun _ => Evp.ret (Run.ret rfl)
  | succ d ih =>
    intro i hd hi
    have nx : Evp (fun k => some (zoetropelaw06_ScoreBest.c65524 A xs.length c b (IntKind.i64.wrap ((i : Int) + 1)) M)) fun out => Run P T lo F.zoetropelaw06_ScoreBest out fun r => r.1 = .bool true := by
      rw [w64 (by omega), show (i : Int) + 1 = ((i + 1 : Nat) : Int) by omega]
      exact Evp.ret (ih (i + 1) (by omega) (by omega))
    refine Run.cut (Evp.of_eq (fun k => zoetropelaw06_ScoreBest.p65524 k ..) ?_)
    refine Evp.dec (fun _ => ?_) fun h => absurd h (by omega)
    refine Evp.pos (by omega) ?_
    simp only [Int.toNat_natCast]
    refine Evp.ldF hx (by omega) fun _ _ => Evp.pos (by omega) (Evp.ldF hx g0 fun _ _ => ?_)
    refine Evp.ff ?_ (Evp.dec (fun hlt => ?_) fun _ => nx)
    · cases e : (FloatKind.f64.format.order (xs.getD i 0) (xs.getD b 0) == some .lt) with
      | false => rfl
      | true =>
        obtain ⟨a, b', ea, eb', lt⟩ := lt_key.1 e
        rw [eb] at eb'; injection eb' with eb'
        have := g1 i (by omega) a ea
        omega
    · refine Evp.pos (by omega) (Evp.ldF hx (by omega) fun _ _ => Evp.pos (by omega) (Evp.ldF hx g0 fun _ _ => ?_))
      refine Evp.ff ?_ nx
      cases e : (FloatKind.f64.format.order (xs.getD i 0) (xs.getD b 0) == some .eq) with
      | false => rfl
      | true =>
        obtain ⟨a, b', ea, eb', lt⟩ := eq_key.1 e
        rw [eb] at eb'; injection eb' with eb'
        have := g2 i (by omega) a ea
        omega
end
theorem quot_nan : nanF (fdiv .f64 0 0) = true := by kernel_rfl
theorem ScoreBest_law (M : Mem) (vs : List Value) (hro : AllRo M) (hv : LaysArgs P M [34] vs) (fit : ∀ A n c, vs = [.slice A n c] → n ≤ 1048576) : Ac P T M.length F.zoetropelaw06_ScoreBest vs M fun r => r.1 = .bool true := by
  obtain ⟨A, c, xs, rfl, hc, _, hx, _⟩ := Arg.ScoreBest hv
  have hn := fit A xs.length c rfl
  clear fit
  refine Ac.of (Evp.of_eq (fun k => zoetropelaw06_ScoreBest.entry k ..) ?_)
  refine Evp.ob (works_ok M.length M (Nat.le_refl _)) ?_
  rintro _ ⟨M1, rfl, p1⟩
  simp only [ret_int, ret_bool, ret_flt, ret_slc, ret_str, ret_ptr, ret_agg, ret_tup, ob_some, bb_true, bb_false, List.getElem?_cons_zero, List.getElem?_cons_succ, List.length_cons, List.length_nil, Nat.reduceAdd, Nat.reduceLT]
  refine Evp.ff rfl ?_
  have h1 := hx.pre p1
  refine Evp.ob (best_ok M.length A c xs M1 h1 (by omega)) ?_
  rintro _ rfl
  obtain ⟨u, e, hu⟩ : ∃ u e : Int, bestR xs = .tuple ⟨[.int .i64 u, .int .i64 e]⟩ ∧ ((bestS xs xs.length < 0 ∧ u = 0 ∧ e = 2) ∨ (0 ≤ bestS xs xs.length ∧ u = bestS xs xs.length ∧ e = 0)) := by
    unfold bestR
    by_cases h : bestS xs xs.length < 0
    · exact ⟨0, 2, by rw [if_pos h], .inl ⟨h, rfl, rfl⟩⟩
    · exact ⟨bestS xs xs.length, 0, by rw [if_neg h], .inr ⟨by omega, rfl, rfl⟩⟩
  rw [hu.1]
  simp only [ret_int, ret_bool, ret_flt, ret_slc, ret_str, ret_ptr, ret_agg, ret_tup, ob_some, bb_true, bb_false, List.getElem?_cons_zero, List.getElem?_cons_succ, List.length_cons, List.length_nil, Nat.reduceAdd, Nat.reduceLT]
  refine Evp.some h1.src ?_
  obtain ⟨⟨sa, sn, sc⟩, M2, e2, g2, n2, p2, _, _⟩ := (Grow.nil (M0 := M1) (M := M1) (z := 1)).app (lo := M.length) (bytes := 8) (c := 0) (m := xs.length) (vs := xs.map (Value.float .f64)) (Pre.refl M1) p1.len (by simp) (by omega) (by omega)
  refine Evp.some e2 ?_
  simp only [Nat.zero_add, List.nil_append] at g2 n2
  subst n2
  refine Evp.some (h1.pre p2).src ?_
  obtain ⟨⟨ta, tn, tc⟩, M3, e3, g3, n3, p3, _, _⟩ := g2.app (lo := M.length) (bytes := 8) (c := sc) (m := xs.length) (vs := xs.map (Value.float .f64)) p2 p1.len (by simp) (by omega) (by omega)
  refine Evp.some e3 ?_
  simp only at g3 n3
  subst n3
  have quo : ∀ N : Mem, Ac P T M.length F.zoetropelaw06_quotients [] N fun r => ∃ a b d, r = (.tuple ⟨[.float .f64 a, .float .f64 b, .float .f64 (fdiv .f64 0 0), .float .f64 d]⟩, N) := fun N => by
    refine Ac.of (Evp.of_eq (fun k => zoetropelaw06_quotients.entry k ..) ?_)
    exact Evp.ret (Run.ret ⟨_, _, _, rfl⟩)
  refine Evp.ob (quo M3) ?_
  rintro _ ⟨q1, q2, q4, rfl⟩
  simp only [ret_int, ret_bool, ret_flt, ret_slc, ret_str, ret_ptr, ret_agg, ret_tup, ob_some, bb_true, bb_false, List.getElem?_cons_zero, List.getElem?_cons_succ, List.length_cons, List.length_nil, Nat.reduceAdd, Nat.reduceLT]
  have hq := quot_nan
  generalize fdiv .f64 0 0 = q at *
  obtain ⟨⟨wa, wn, wc⟩, M4, e4, g4, n4, p4, _, _⟩ := g3.app (lo := M.length) (bytes := 8) (c := tc) (m := 1) (vs := [.float .f64 q]) p3 p1.len rfl (by omega) (by omega)
  refine Evp.some e4 ?_
  simp only at g4 n4
  subst n4
  have R : RdF M4 .f64 wa (xs ++ (xs ++ [q])) := by
    have := g4.rd
    unfold RdF
    have e : (xs ++ (xs ++ [q])).map (Value.float .f64) = xs.map (Value.float .f64) ++ xs.map (Value.float .f64) ++ [.float .f64 q] := by simp
    rw [e, show (xs ++ (xs ++ [q])).length = xs.length + xs.length + 1 by simp; omega]
    exact this
  have B := best_ok M.length wa wc (xs ++ (xs ++ [q])) M4 R (by simp; omega)
  have e5 : bestR (xs ++ (xs ++ [q])) = bestR xs := by
    unfold bestR
    rw [best_more xs q hq]
  rw [e5, hu.1, show (xs ++ (xs ++ [q])).length = xs.length + xs.length + 1 by simp; omega] at B
  refine Evp.ob B ?_
  rintro _ rfl
  simp only [ret_int, ret_bool, ret_flt, ret_slc, ret_str, ret_ptr, ret_agg, ret_tup, ob_some, bb_true, bb_false, List.getElem?_cons_zero, List.getElem?_cons_succ, List.length_cons, List.length_nil, Nat.reduceAdd, Nat.reduceLT]
  have h4 := h1.pre p4
  refine Evp.neb (fun g => absurd rfl g) fun _ => Evp.neb (fun g => absurd rfl g) fun _ => ?_
  have hl := bestS_lt xs xs.length
  rcases hu.2 with ⟨hb, rfl, rfl⟩ | ⟨hb, rfl, rfl⟩
  · refine Evp.dec (fun g => absurd g (by omega)) fun _ => Evp.dec (fun g => absurd g (by omega)) fun _ => Evp.tt rfl ?_
    exact Evp.ret (best_none M.length A c xs M4 h4 hn hb _ 0 rfl (Nat.zero_le _))
  · refine Evp.dec (fun g => absurd g (by omega)) fun _ => Evp.dec (fun g => absurd g (by omega)) fun _ => Evp.ff rfl ?_
    refine Evp.eqb (fun g => absurd g (by omega)) fun _ => ?_
    obtain ⟨b, eb⟩ := Int.eq_ofNat_of_zero_le hb
    rw [eb] at hl ⊢
    obtain ⟨g0, kb, ek, _⟩ := (best_spec xs xs.length).2 hb
    rw [eb, Int.toNat_natCast] at g0 ek
    refine Evp.pos (by omega) ?_
    simp only [Int.toNat_natCast]
    refine Evp.ldF h4 g0 fun _ _ => Evp.pos (by omega) (Evp.ldF h4 g0 fun _ _ => ?_)
    refine Evp.ff ?_ ?_
    · have := nanC.2 ⟨kb, ek⟩
      exact this
    · exact Evp.ret (best_some M.length A c xs M4 h4 hn b eb _ 0 rfl (Nat.zero_le _))
end Go.Zt
