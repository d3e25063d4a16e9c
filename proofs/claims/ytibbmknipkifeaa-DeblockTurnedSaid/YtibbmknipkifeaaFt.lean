/- DeblockFar, DeblockQuiet: the laws. -/
import Derived.Test.YtibbmknipkifeaaFs
set_option linter.unusedVariables false
set_option linter.unusedSimpArgs false
set_option maxRecDepth 100000
namespace Go.Zt
theorem rdI_of {M0 M : Mem} {A : Option Addr} {n : Nat} {k : IntKind} {xs : List Int} (g : Grow M0 M 1 A n (xs.map (Value.int k))) (h : xs.length = n) : RdI M k A xs := by subst h; exact g.rd
theorem rdB_of {M0 M : Mem} {A : Option Addr} {n : Nat} {xs : List Bool} (g : Grow M0 M 1 A n (xs.map Value.bool)) (h : xs.length = n) : RdB M A xs := by subst h; exact g.rd
def uniM (W H sz : Nat) (ids : List Int) (q up col : Bool) (level sharp : Int) : Cells := ⟨W / 4, up, col, List.replicate (W / 4 * (H / 4)) (sz : Int), ids, List.replicate (W / 4 * (H / 4)) q, level, sharp⟩
theorem uni_of {W H sz : Nat} {ids : List Int} {q up col : Bool} {level sharp : Int} (hW : 4 ≤ W ∧ W ≤ 64 ∧ W % 4 = 0) (hH : 4 ≤ H ∧ H ≤ 64 ∧ H % 4 = 0) (hs : TxP sz) (hi : ids.length = W / 4 * (H / 4)) (lv : 0 ≤ level ∧ level ≤ 63) (sh : 0 ≤ sharp ∧ sharp ≤ 7) : Uni (uniM W H sz ids q up col level sharp) W H (H / 4) sz :=
  ⟨by show W = 4 * (W / 4); omega, by omega, hW.2.1, hH.2.1, hW.1, hH.1, rfl, hi, by simp [uniM], hs, lv, sh⟩
theorem bring_nat (i : Int) (n : Nat) (h : 0 < n) : ∃ k : Nat, bringS i n = k ∧ k < n := by
  have := bringS_lt (i := i) (n := (n : Int)) (by omega)
  exact ⟨(bringS i n).toNat, by omega, by omega⟩
section
variable (lo W H sz : Nat) (up col : Bool) (lv sh level : Int) (xs ys : List Int) (A Z : Option Addr) (c cz : Nat) (M : Mem)
variable (hW : 4 ≤ W ∧ W ≤ 64) (hH : 4 ≤ H ∧ H ≤ 64) (hs : sz = 16 ∨ sz = 32 ∨ sz = 64) (h1 : xs.length = H * W) (h2 : ys.length = H * W) (hx : RdI M .u8 A xs) (hz : RdI M .u8 Z ys)
variable (eqv : ∀ i, i < H * W → (¬ nearP sz (if up then W else H) (if up then i % W else i / W) ∨ level = 0) → ys.getD i 0 = xs.getD i 0)
include hW hH hs h1 h2 hx hz eqv
theorem far_loop : ∀ (d i : Nat), H * W - i = d → i ≤ H * W → Run P T lo F.zoetropelaw22_DeblockFar (zoetropelaw22_DeblockFar.c4084 sz level i up col lv sh W H A (H * W) c W H Z (H * W) cz M) fun r => r.1 = .bool true := by
  have sm : H * W ≤ 64 * 64 := Nat.mul_le_mul hH.2 hW.2
  intro d
  induction d with
  | zero =>
    intro i hd hi
    refine Run.cut (Evp.of_eq (fun k => zoetropelaw22_DeblockFar.p4084 k ..) ?_)
    refine Evp.dec (fun h => absurd h (by omega)) fun _ => Evp.ret (Run.ret rfl)
  | succ d ih =>
    intro i hd hi
    have step : ∀ (at_ end_ : Nat), end_ ≤ 64 → at_ < end_ → (if up then W else H) = end_ → (if up then i % W else i / W) = at_ → Run P T lo F.zoetropelaw22_DeblockFar (zoetropelaw22_DeblockFar.c130707 sz level i at_ end_ up col lv sh W H A (H * W) c W H Z (H * W) cz M) fun r => r.1 = .bool true := by
      intro at_ end_ he hae e1 e2
      have eq := eqv i (by omega)
      rw [e1, e2] at eq
      have nx : Evp (fun k => some (zoetropelaw22_DeblockFar.c4084 sz level ((i : Int) + 1) up col lv sh W H A (H * W) c W H Z (H * W) cz M)) fun out => Run P T lo F.zoetropelaw22_DeblockFar out fun r => r.1 = .bool true := Evp.ret (ih (i + 1) (by omega) (by omega))
      have cmp : (¬ nearP sz end_ at_ ∨ level = 0) → Evp (fun k => pb (0 ≤ (i : Int) ∧ (i : Int) < ((H * W : Nat) : Int)) (ob Z fun a42 => ob ((M.ld (plus a42 i)).bind (Value.int? .u8)) fun x43 => pb (0 ≤ (i : Int) ∧ (i : Int) < ((H * W : Nat) : Int)) (ob A fun a44 => ob ((M.ld (plus a44 i)).bind (Value.int? .u8)) fun x45 => bb (x43 != x45) (some (.ret (.bool false) M)) (some (zoetropelaw22_DeblockFar.c4084 sz level ((i : Int) + 1) up col lv sh W H A (H * W) c W H Z (H * W) cz M))) none) none) fun out => Run P T lo F.zoetropelaw22_DeblockFar out fun r => r.1 = .bool true := fun hno => by
        refine Evp.pos (by omega) (Evp.ldI hz (by omega) fun _ _ => Evp.pos (by omega) (Evp.ldI hx (by omega) fun _ _ => ?_))
        exact Evp.neb (fun e => absurd (eq hno) e) fun _ => nx
      refine Run.cut (Evp.of_eq (fun k => zoetropelaw22_DeblockFar.p130707 k ..) ?_)
      have et : Int.tmod (at_ : Int) (sz : Int) = ((at_ % sz : Nat) : Int) := rfl
      have ed : Int.tdiv (at_ : Int) (sz : Int) = ((at_ / sz : Nat) : Int) := rfl
      have e6 : IntKind.i64.wrap ((sz : Int) - 6) = ((sz - 6 : Nat) : Int) := by rw [w64 (by omega)]; omega
      have dm : at_ / sz * sz ≤ 64 := Nat.le_trans (Nat.div_mul_le_self _ _) (by omega)
      have dl : at_ / sz ≤ 64 := Nat.le_trans (Nat.div_le_self _ _) (by omega)
      have en : IntKind.i64.wrap ((IntKind.i64.wrap ((IntKind.i64.wrap (Int.tdiv (at_ : Int) (sz : Int))) * (sz : Int))) + (sz : Int)) = ((at_ / sz * sz + sz : Nat) : Int) := by
        rw [ed]
        generalize at_ / sz = Q at *
        rw [w64 (x := ((Q : Nat) : Int)) (by omega), ← Int.natCast_mul, w64 (x := ((Q * sz : Nat) : Int)) (by omega), w64 (by omega)]; omega
      rw [et, e6, en, w64 (x := (i : Int) + 1) (by omega)]
      simp only [Int.toNat_natCast]
      have un : nearP sz end_ at_ ↔ (at_ % sz < 6 ∧ at_ ≥ sz) ∨ (at_ % sz ≥ sz - 6 ∧ at_ / sz * sz + sz < end_) := Iff.rfl
      generalize at_ % sz = r at *
      generalize at_ / sz * sz = q at *
      have tail : ¬ (r < 6 ∧ at_ ≥ sz) → Evp (fun k => pb ((sz : Int) = 0) none (bb (decide (((r : Nat) : Int) ≥ ((sz - 6 : Nat) : Int))) (pb ((sz : Int) = 0) none (bb (!decide (((q + sz : Nat) : Int) < (end_ : Int)))
          (pb (0 ≤ (i : Int) ∧ (i : Int) < ((H * W : Nat) : Int)) (ob Z fun a42 => ob ((M.ld (plus a42 i)).bind (Value.int? .u8)) fun x43 => pb (0 ≤ (i : Int) ∧ (i : Int) < ((H * W : Nat) : Int)) (ob A fun a44 => ob ((M.ld (plus a44 i)).bind (Value.int? .u8)) fun x45 => bb (x43 != x45) (some (.ret (.bool false) M)) (some (zoetropelaw22_DeblockFar.c4084 sz level ((i : Int) + 1) up col lv sh W H A (H * W) c W H Z (H * W) cz M))) none) none)
          (bb (level == 0) (pb (0 ≤ (i : Int) ∧ (i : Int) < ((H * W : Nat) : Int)) (ob Z fun a42 => ob ((M.ld (plus a42 i)).bind (Value.int? .u8)) fun x43 => pb (0 ≤ (i : Int) ∧ (i : Int) < ((H * W : Nat) : Int)) (ob A fun a44 => ob ((M.ld (plus a44 i)).bind (Value.int? .u8)) fun x45 => bb (x43 != x45) (some (.ret (.bool false) M)) (some (zoetropelaw22_DeblockFar.c4084 sz level ((i : Int) + 1) up col lv sh W H A (H * W) c W H Z (H * W) cz M))) none) none)
            (some (zoetropelaw22_DeblockFar.c4084 sz level ((i : Int) + 1) up col lv sh W H A (H * W) c W H Z (H * W) cz M)))))
          (pb (0 ≤ (i : Int) ∧ (i : Int) < ((H * W : Nat) : Int)) (ob Z fun a42 => ob ((M.ld (plus a42 i)).bind (Value.int? .u8)) fun x43 => pb (0 ≤ (i : Int) ∧ (i : Int) < ((H * W : Nat) : Int)) (ob A fun a44 => ob ((M.ld (plus a44 i)).bind (Value.int? .u8)) fun x45 => bb (x43 != x45) (some (.ret (.bool false) M)) (some (zoetropelaw22_DeblockFar.c4084 sz level ((i : Int) + 1) up col lv sh W H A (H * W) c W H Z (H * W) cz M))) none) none))) fun out => Run P T lo F.zoetropelaw22_DeblockFar out fun r => r.1 = .bool true := fun hno => by
        refine Evp.neg (by omega) (Evp.dec (fun g => ?_) fun g => cmp (.inl fun e => by rcases un.1 e with e | e; exact hno e; omega))
        refine Evp.neg (by omega) (Evp.nb (fun g2 => cmp (.inl fun e => by
          have := of_decide_eq_false g2
          rcases un.1 e with e | e
          · exact hno e
          · omega)) fun g2 => ?_)
        exact Evp.eqb (fun g3 => cmp (.inr g3)) fun _ => nx
      refine Evp.neg (by omega) (Evp.dec (fun g => ?_) fun g => tail (fun e => by omega))
      refine Evp.dec (fun g2 => ?_) fun g2 => tail (fun e => by omega)
      exact Evp.eqb (fun g3 => cmp (.inr g3)) fun _ => nx
    have hm : i % W < W := Nat.mod_lt _ (by omega)
    have hdv : i / W < H := (Nat.div_lt_iff_lt_mul (by omega)).2 (by omega)
    refine Run.cut (Evp.of_eq (fun k => zoetropelaw22_DeblockFar.p4084 k ..) ?_)
    refine Evp.dec (fun _ => ?_) fun h => absurd h (by omega)
    refine Evp.neg (by omega) ?_
    rw [show Int.tdiv (i : Int) (W : Int) = ((i / W : Nat) : Int) from rfl, show Int.tmod (i : Int) (W : Int) = ((i % W : Nat) : Int) from rfl, w64 (x := ((i / W : Nat) : Int)) (by generalize i / W = q at *; omega)]
    refine Evp.nb (fun hu => Evp.neg (by omega) (Evp.ret (step (i / W) H hH.2 hdv (by rw [hu]; rfl) (by rw [hu]; rfl)))) fun hu => Evp.ret (step (i % W) W hW.2 hm (by rw [hu]; rfl) (by rw [hu]; rfl))
end
theorem DeblockFar_law (M : Mem) (vs : List Value) (hro : AllRo M) (hv : LaysArgs P M [23, 22, 41] vs) : Ac P T M.length F.zoetropelaw22_DeblockFar vs M fun r => r.1 = .bool true := by
  obtain ⟨w, h, A, c, ss, up, col, lv, sh, rfl, _, _, hc, hn, hx, wx, _, _⟩ := Arg.DeblockFar hv
  have bs : Bytes ss := fun x hx => wf_u8 (wx x hx)
  refine Ac.of (Evp.of_eq (fun k => zoetropelaw22_DeblockFar.entry k ..) ?_)
  refine Evp.ob (awakeP_ok M.length M (Nat.le_refl _)) ?_
  rintro _ ⟨M1, rfl, p1⟩
  simp only [ret_int, ret_bool, ret_flt, ret_slc, ret_str, ret_ptr, ret_agg, ret_tup, ob_some, bb_true, bb_false, List.getElem?_cons_zero, List.getElem?_cons_succ, List.length_cons, List.length_nil, Nat.reduceAdd, Nat.reduceLT]
  refine Evp.ff rfl ?_
  refine Evp.ob (fit_ok M.length A c ss M1 p1.len (hx.pre p1) (by omega) w h) ?_
  rintro _ ⟨B, cb, M2, rfl, p2, hcb, g2⟩
  simp only [ret_int, ret_bool, ret_flt, ret_slc, ret_str, ret_ptr, ret_agg, ret_tup, ob_some, bb_true, bb_false, List.getElem?_cons_zero, List.getElem?_cons_succ, List.length_cons, List.length_nil, Nat.reduceAdd, Nat.reduceLT]
  have q2 := p1.trans p2
  have hW := sideN_le w
  have hH := sideN_le h
  have fl := fitL_len ss (sideN h * sideN w)
  have fb := fitL_bytes bs (sideN h * sideN w)
  generalize sideN w = W at *
  generalize sideN h = H at *
  generalize fitL ss (H * W) = xs at *
  refine Evp.ob (bring_ok _ _ _ _ (by decide)) ?_
  rintro _ rfl
  simp only [ret_int, ret_bool, ret_flt, ret_slc, ret_str, ret_ptr, ret_agg, ret_tup, ob_some, bb_true, bb_false, List.getElem?_cons_zero, List.getElem?_cons_succ, List.length_cons, List.length_nil, Nat.reduceAdd, Nat.reduceLT]
  obtain ⟨k3, e3, l3⟩ := bring_nat sh 3 (by decide)
  have e3 : bringS sh 3 = k3 := e3
  rw [e3]
  refine Evp.neg (by omega) ?_
  refine Evp.ob (bring_ok _ _ _ _ (by decide)) ?_
  rintro _ rfl
  simp only [ret_int, ret_bool, ret_flt, ret_slc, ret_str, ret_ptr, ret_agg, ret_tup, ob_some, bb_true, bb_false, List.getElem?_cons_zero, List.getElem?_cons_succ, List.length_cons, List.length_nil, Nat.reduceAdd, Nat.reduceLT]
  have hl := bringS_lt (i := lv) (n := 64) (by decide)
  obtain ⟨sz, hz, hz', hz''⟩ : ∃ sz : Nat, shlI .i64 16 ((k3 : Int)).toNat = (sz : Int) ∧ IntKind.u8.wrap (sz : Int) = (sz : Int) ∧ (sz = 16 ∨ sz = 32 ∨ sz = 64) := by
    have : k3 = 0 ∨ k3 = 1 ∨ k3 = 2 := by omega
    rcases this with rfl | rfl | rfl
    · exact ⟨16, by decide, by decide, .inl rfl⟩
    · exact ⟨32, by decide, by decide, .inr (.inl rfl)⟩
    · exact ⟨64, by decide, by decide, .inr (.inr rfl)⟩
  rw [hz, hz']
  have hs : TxP sz := by unfold TxP; omega
  refine Evp.ob (cells_ok M2.length W H sz false B (H * W) cb M2 (Nat.le_refl _) hW hH hs) ?_
  rintro _ ⟨BT, BI, BQ, dt, di, dq, M3, rfl, p3, _, gt, gi, gq, ct, ci, cq⟩
  simp only [ret_int, ret_bool, ret_flt, ret_slc, ret_str, ret_ptr, ret_agg, ret_tup, ob_some, bb_true, bb_false, List.getElem?_cons_zero, List.getElem?_cons_succ, List.length_cons, List.length_nil, Nat.reduceAdd, Nat.reduceLT]
  refine Evp.ob (bring_ok _ _ _ _ (by decide)) ?_
  rintro _ rfl
  simp only [ret_int, ret_bool, ret_flt, ret_slc, ret_str, ret_ptr, ret_agg, ret_tup, ob_some, bb_true, bb_false, List.getElem?_cons_zero, List.getElem?_cons_succ, List.length_cons, List.length_nil, Nat.reduceAdd, Nat.reduceLT]
  have hsp := bringS_lt (i := sh) (n := 8) (by decide)
  have u := uni_of (q := false) (up := up) (col := col) (level := bringS lv 64) (sharp := bringS sh 8) hW hH hs (idsL_len (W / 4) (sz / 4) (W / 4 * (H / 4))) (by omega) (by omega)
  have K := u.pass M2.length B BT BI BQ cb dt di dq xs M3 p3.len ((rdI_of g2 fl).pre p3) fb fl (rdI_of gt List.length_replicate) (rdI_of gi (idsL_len _ _ _)) (rdB_of gq List.length_replicate)
  refine Evp.ob K ?_
  rintro _ ⟨a, cc, M4, rfl, p4, r4⟩
  simp only [ret_int, ret_bool, ret_flt, ret_slc, ret_str, ret_ptr, ret_agg, ret_tup, ob_some, bb_true, bb_false, List.getElem?_cons_zero, List.getElem?_cons_succ, List.length_cons, List.length_nil, Nat.reduceAdd, Nat.reduceLT]
  refine Evp.neb (fun e => absurd rfl e) fun _ => Evp.neb (fun e => absurd rfl e) fun _ => Evp.neb (fun e => absurd rfl e) fun _ => Evp.neb (fun e => absurd rfl e) fun _ => ?_
  refine Evp.ret (far_loop M.length W H sz up col lv sh (bringS lv 64) xs _ B (some a) cb cc M4 ⟨hW.1, hW.2.1⟩ ⟨hH.1, hH.2.1⟩ hz'' fl (by rw [Cells.passS_len, fl]) (((rdI_of g2 fl).pre p3).pre p4) r4 (fun i hi hno => ?_) _ 0 rfl (Nat.zero_le _))
  by_cases hl0 : bringS lv 64 = 0
  · rw [Cells.pass_zero _ W H hl0]
  · exact u.far hz'' xs fl (p := i) (hno.resolve_right hl0) _ (Nat.le_refl _)
/-! ### Quiet -/
theorem DeblockQuiet_law (M : Mem) (vs : List Value) (hro : AllRo M) (hv : LaysArgs P M [23, 22, 41] vs) : Ac P T M.length F.zoetropelaw22_DeblockQuiet vs M fun r => r.1 = .bool true := by
  obtain ⟨w, h, A, c, ss, up, col, lv, sh, rfl, _, _, hc, hn, hx, wx, _, _⟩ := Arg.DeblockQuiet hv
  have bs : Bytes ss := fun x hx => wf_u8 (wx x hx)
  have size : ∀ i : Int, ∃ sz : Nat, shlI .u8 4 ((bringS i 5)).toNat = (sz : Int) ∧ TxP sz ∧ ¬ (bringS i 5 < 0) := fun i => by
    obtain ⟨k, e, l⟩ := bring_nat i 5 (by decide)
    have e : bringS i 5 = k := e
    rw [e]
    have : k = 0 ∨ k = 1 ∨ k = 2 ∨ k = 3 ∨ k = 4 := by omega
    rcases this with rfl | rfl | rfl | rfl | rfl
    · exact ⟨4, by decide, by decide, by omega⟩
    · exact ⟨8, by decide, by decide, by omega⟩
    · exact ⟨16, by decide, by decide, by omega⟩
    · exact ⟨32, by decide, by decide, by omega⟩
    · exact ⟨64, by decide, by decide, by omega⟩
  have hlv := bringS_lt (i := lv) (n := 64) (by decide)
  have hsp := bringS_lt (i := sh) (n := 8) (by decide)
  have hW := sideN_le w
  have hH := sideN_le h
  have sm : sideN h * sideN w ≤ 64 * 64 := Nat.mul_le_mul hH.2.1 hW.2.1
  -- the second half
  have half : ∀ (A2 : Option Addr) (c2 : Nat) (s2 : List Int) (M5 : Mem) (x12 x13 : Int) (A14 : Option Addr) (n15 c16 : Nat), Pre M M5 → RdI M5 .u8 A2 s2 → Bytes s2 → s2.length ≤ 1 → Run P T M.length F.zoetropelaw22_DeblockQuiet (zoetropelaw22_DeblockQuiet.c1023 A2 s2.length c2 (bringS lv 64) (bringS sh 8) w h up col lv sh x12 x13 A14 n15 c16 M5) fun r => r.1 = .bool true := by
    intro A2 c2 s2 M5 x12 x13 A14 n15 c16 q5 r5 b5 l5
    refine Run.cut (Evp.of_eq (fun k => zoetropelaw22_DeblockQuiet.p1023 k ..) ?_)
    refine Evp.ob (fit_ok M.length A2 c2 s2 M5 q5.len r5 (by omega) w h) ?_
    rintro _ ⟨B, cb, M6, rfl, p6, hcb, g6⟩
    simp only [ret_int, ret_bool, ret_flt, ret_slc, ret_str, ret_ptr, ret_agg, ret_tup, ob_some, bb_true, bb_false, List.getElem?_cons_zero, List.getElem?_cons_succ, List.length_cons, List.length_nil, Nat.reduceAdd, Nat.reduceLT]
    refine Evp.ob (bring_ok _ _ _ _ (by decide)) ?_
    rintro _ rfl
    simp only [ret_int, ret_bool, ret_flt, ret_slc, ret_str, ret_ptr, ret_agg, ret_tup, ob_some, bb_true, bb_false, List.getElem?_cons_zero, List.getElem?_cons_succ, List.length_cons, List.length_nil, Nat.reduceAdd, Nat.reduceLT]
    obtain ⟨sz, hz, hs, hng⟩ := size sh
    refine Evp.neg hng ?_
    rw [hz]
    refine Evp.ob (cells_ok M6.length (sideN w) (sideN h) sz col B _ cb M6 (Nat.le_refl _) hW hH hs) ?_
    rintro _ ⟨BT, BI, BQ, dt, di, dq, M7, rfl, p7, _, gt, gi, gq, ct, ci, cq⟩
    simp only [ret_int, ret_bool, ret_flt, ret_slc, ret_str, ret_ptr, ret_agg, ret_tup, ob_some, bb_true, bb_false, List.getElem?_cons_zero, List.getElem?_cons_succ, List.length_cons, List.length_nil, Nat.reduceAdd, Nat.reduceLT]
    have u := uni_of (q := col) (up := up) (col := col) (level := bringS lv 64) (sharp := bringS sh 8) hW hH hs (idsL_len (sideN w / 4) (sz / 4) (sideN w / 4 * (sideN h / 4))) (by omega) (by omega)
    have fl := fitL_len s2 (sideN h * sideN w)
    have K := u.pass M6.length B BT BI BQ cb dt di dq _ M7 p7.len ((rdI_of g6 fl).pre p7) (fitL_bytes b5 _) fl (rdI_of gt List.length_replicate) (rdI_of gi (idsL_len _ _ _)) (rdB_of gq List.length_replicate)
    refine Evp.ob K ?_
    rintro _ ⟨a, cc, M8, rfl, p8, r8⟩
    simp only [ret_int, ret_bool, ret_flt, ret_slc, ret_str, ret_ptr, ret_agg, ret_tup, ob_some, bb_true, bb_false, List.getElem?_cons_zero, List.getElem?_cons_succ, List.length_cons, List.length_nil, Nat.reduceAdd, Nat.reduceLT]
    obtain ⟨v, v0, v1, ev⟩ := fitL_flat b5 l5 (sideN h * sideN w)
    have r6 := ((rdI_of g6 fl).pre p7).pre p8
    rw [ev] at r8 r6
    rw [u.flat ⟨v0, v1⟩ _ (Nat.le_refl _)] at r8
    refine Evp.tt rfl ?_
    have S := same_ok M.length (sideN w) (sideN h) (sideN w) (sideN h) (some a) B cc cb _ _ M8 r8 r6 (by rw [List.length_replicate]; omega)
    rw [List.length_replicate] at S
    refine Evp.ob S ?_
    rintro _ rfl
    simp only [ret_int, ret_bool, ret_flt, ret_slc, ret_str, ret_ptr, ret_agg, ret_tup, ob_some, bb_true, bb_false, List.getElem?_cons_zero, List.getElem?_cons_succ, List.length_cons, List.length_nil, Nat.reduceAdd, Nat.reduceLT]
    exact Evp.ret (Run.ret (by simp))
  refine Ac.of (Evp.of_eq (fun k => zoetropelaw22_DeblockQuiet.entry k ..) ?_)
  refine Evp.ob (awakeP_ok M.length M (Nat.le_refl _)) ?_
  rintro _ ⟨M1, rfl, p1⟩
  simp only [ret_int, ret_bool, ret_flt, ret_slc, ret_str, ret_ptr, ret_agg, ret_tup, ob_some, bb_true, bb_false, List.getElem?_cons_zero, List.getElem?_cons_succ, List.length_cons, List.length_nil, Nat.reduceAdd, Nat.reduceLT]
  refine Evp.ff rfl ?_
  refine Evp.ob (fit_ok M.length A c ss M1 p1.len (hx.pre p1) (by omega) w h) ?_
  rintro _ ⟨B, cb, M2, rfl, p2, hcb, g2⟩
  simp only [ret_int, ret_bool, ret_flt, ret_slc, ret_str, ret_ptr, ret_agg, ret_tup, ob_some, bb_true, bb_false, List.getElem?_cons_zero, List.getElem?_cons_succ, List.length_cons, List.length_nil, Nat.reduceAdd, Nat.reduceLT]
  have q2 := p1.trans p2
  refine Evp.ob (bring_ok _ _ _ _ (by decide)) ?_
  rintro _ rfl
  simp only [ret_int, ret_bool, ret_flt, ret_slc, ret_str, ret_ptr, ret_agg, ret_tup, ob_some, bb_true, bb_false, List.getElem?_cons_zero, List.getElem?_cons_succ, List.length_cons, List.length_nil, Nat.reduceAdd, Nat.reduceLT]
  obtain ⟨sz, hz, hs, hng⟩ := size lv
  refine Evp.neg hng ?_
  rw [hz]
  refine Evp.ob (cells_ok M2.length (sideN w) (sideN h) sz true B _ cb M2 (Nat.le_refl _) hW hH hs) ?_
  rintro _ ⟨BT, BI, BQ, dt, di, dq, M3, rfl, p3, _, gt, gi, gq, ct, ci, cq⟩
  simp only [ret_int, ret_bool, ret_flt, ret_slc, ret_str, ret_ptr, ret_agg, ret_tup, ob_some, bb_true, bb_false, List.getElem?_cons_zero, List.getElem?_cons_succ, List.length_cons, List.length_nil, Nat.reduceAdd, Nat.reduceLT]
  have q3 := q2.trans p3
  have npos : 1 * 1 ≤ sideN w / 4 * (sideN h / 4) := Nat.mul_le_mul (by omega) (by omega)
  have nle : sideN w / 4 * (sideN h / 4) ≤ 16 * 16 := Nat.mul_le_mul (by omega) (by omega)
  have u := fun (ids : List Int) (hl : ids.length = sideN w / 4 * (sideN h / 4)) => uni_of (q := true) (up := up) (col := col) (level := bringS lv 64) (sharp := bringS sh 8) hW hH hs hl (by omega) (by omega)
  have fl := fitL_len ss (sideN h * sideN w)
  have fb := fitL_bytes bs (sideN h * sideN w)
  have hB := rdI_of g2 fl
  generalize fitL ss (sideN h * sideN w) = xs at *
  have hd1 : (List.replicate (sideN w / 4 * (sideN h / 4)) (sz : Int)).map (Value.int .u8) ≠ (idsL (sideN w / 4) (sz / 4) (sideN w / 4 * (sideN h / 4))).map (Value.int .i64) := fun e => by
    have := congrArg (fun l => l[0]?) e
    have h' : 0 < sideN w / 4 * (sideN h / 4) := by omega
    simp [idsL, h', List.getElem?_replicate] at this
  have hd2 : (List.replicate (sideN w / 4 * (sideN h / 4)) true).map Value.bool ≠ (idsL (sideN w / 4) (sz / 4) (sideN w / 4 * (sideN h / 4))).map (Value.int .i64) := fun e => by
    have := congrArg (fun l => l[0]?) e
    have h' : 0 < sideN w / 4 * (sideN h / 4) := by omega
    simp [idsL, h', List.getElem?_replicate] at this
  have ne1 := gt.ne gi hd1
  have ne2 := gq.ne gi hd2
  obtain ⟨bi, rfl, bI⟩ := gi.buf (by omega)
  have rT : RdI M3 .u8 BT _ := rdI_of gt List.length_replicate
  have rQ : RdB M3 BQ _ := rdB_of gq List.length_replicate
  have lI := idsL_len (sideN w / 4) (sz / 4) (sideN w / 4 * (sideN h / 4))
  generalize idsL (sideN w / 4) (sz / 4) (sideN w / 4 * (sideN h / 4)) = ids at *
  have loop : ∀ (d i : Nat) (ids : List Int) (M4 : Mem), sideN w / 4 * (sideN h / 4) - i = d → i ≤ sideN w / 4 * (sideN h / 4) → ids.length = sideN w / 4 * (sideN h / 4) → (∀ j, j < i → ids.getD j 0 = 7) → Pre M2 M4 → RdI M4 .u8 BT (List.replicate (sideN w / 4 * (sideN h / 4)) (sz : Int)) → RdB M4 BQ (List.replicate (sideN w / 4 * (sideN h / 4)) true) → Buf M2 M4 bi (ids.map (Value.int .i64)) →
      Run P T M.length F.zoetropelaw22_DeblockQuiet (zoetropelaw22_DeblockQuiet.c500 A ss.length c i w h up col lv sh (sideN w) (sideN h) B (sideN h * sideN w) cb (sideN w / 4 : Nat) (sideN h / 4 : Nat) BT (sideN w / 4 * (sideN h / 4)) dt (some bi) (sideN w / 4 * (sideN h / 4)) di BQ (sideN w / 4 * (sideN h / 4)) dq M4) fun r => r.1 = .bool true := by
    intro d
    induction d with
    | zero =>
      intro i ids M4 hd hi hl h7 hp rT rQ bI
      refine Run.cut (Evp.of_eq (fun k => zoetropelaw22_DeblockQuiet.p500 k ..) ?_)
      refine Evp.dec (fun h => absurd h (by omega)) fun _ => ?_
      refine Evp.ob (bring_ok _ _ _ _ (by decide)) ?_
      rintro _ rfl
      simp only [ret_int, ret_bool, ret_flt, ret_slc, ret_str, ret_ptr, ret_agg, ret_tup, ob_some, bb_true, bb_false, List.getElem?_cons_zero, List.getElem?_cons_succ, List.length_cons, List.length_nil, Nat.reduceAdd, Nat.reduceLT]
      refine Evp.ob (bring_ok _ _ _ _ (by decide)) ?_
      rintro _ rfl
      simp only [ret_int, ret_bool, ret_flt, ret_slc, ret_str, ret_ptr, ret_agg, ret_tup, ob_some, bb_true, bb_false, List.getElem?_cons_zero, List.getElem?_cons_succ, List.length_cons, List.length_nil, Nat.reduceAdd, Nat.reduceLT]
      have q4 := q2.trans hp
      have K := (u ids hl).pass M.length B BT (some bi) BQ cb dt di dq xs M4 q4.len (hB.pre hp) fb fl rT bI.rdI rQ
      refine Evp.ob K ?_
      rintro _ ⟨a, cc, M5, rfl, p5, r5⟩
      simp only [ret_int, ret_bool, ret_flt, ret_slc, ret_str, ret_ptr, ret_agg, ret_tup, ob_some, bb_true, bb_false, List.getElem?_cons_zero, List.getElem?_cons_succ, List.length_cons, List.length_nil, Nat.reduceAdd, Nat.reduceLT]
      refine Evp.neb (fun e => absurd rfl e) fun _ => ?_
      have sk : (uniM (sideN w) (sideN h) sz ids true up col (bringS lv 64) (bringS sh 8)).passS (sideN w) (sideN h) xs (sideN w / 4 * (sideN h / 4)) = xs := Cells.pass_skip _ _ _ _ _ fun j hj => .inr (.inr ⟨by
        have pl : (uniM (sideN w) (sideN h) sz ids true up col (bringS lv 64) (bringS sh 8)).prev j < sideN w / 4 * (sideN h / 4) := prev_lt (m := uniM (sideN w) (sideN h) sz ids true up col (bringS lv 64) (bringS sh 8)) (mh := sideN h / 4) (i := j) hj
        show ids.getD j 0 = ids.getD _ 0
        rw [h7 j (by omega), h7 _ (Nat.lt_of_lt_of_le pl (by omega))], by
        show (List.replicate _ true).getD j false = true
        rw [List.getD_eq_getElem?_getD, List.getElem?_replicate, if_pos hj]; rfl, by
        have pl : (uniM (sideN w) (sideN h) sz ids true up col (bringS lv 64) (bringS sh 8)).prev j < sideN w / 4 * (sideN h / 4) := prev_lt (m := uniM (sideN w) (sideN h) sz ids true up col (bringS lv 64) (bringS sh 8)) (mh := sideN h / 4) (i := j) hj
        show (List.replicate _ true).getD _ false = true
        rw [List.getD_eq_getElem?_getD, List.getElem?_replicate, if_pos pl]; rfl⟩)
      have r5 : RdI M5 .u8 (some a) ((uniM (sideN w) (sideN h) sz ids true up col (bringS lv 64) (bringS sh 8)).passS (sideN w) (sideN h) xs (sideN w / 4 * (sideN h / 4))) := r5
      rw [sk] at r5
      have q5 := q4.trans p5
      have S := same_ok M.length (sideN w) (sideN h) (sideN w) (sideN h) (some a) B cc cb _ _ M5 r5 ((hB.pre hp).pre p5) (by omega)
      rw [fl] at S
      refine Evp.ob S ?_
      rintro _ rfl
      simp only [ret_int, ret_bool, ret_flt, ret_slc, ret_str, ret_ptr, ret_agg, ret_tup, ob_some, bb_true, bb_false, List.getElem?_cons_zero, List.getElem?_cons_succ, List.length_cons, List.length_nil, Nat.reduceAdd, Nat.reduceLT]
      refine Evp.ff (by simp) ?_
      refine Evp.dec (fun h1 => Evp.pos (by omega) ?_) fun h1 => Evp.ret (half A c ss M5 _ _ _ _ _ q5 (hx.pre q5) bs (by omega))
      have sl := RdI.slAddr (l := 0) (h := 1) (hx.pre q5) (by omega) (by omega) hc
      have e1 : ((ss.drop 0).take 1).length = 1 := by rw [List.length_take, List.length_drop]; omega
      have H2 := half (slAddr 1 A 0 c) (c - 0) ((ss.drop 0).take 1) M5 (sideN w) (sideN h) (some a) (sideN h * sideN w) cc q5 sl (fun z hz => bs z (List.mem_of_mem_drop (List.mem_of_mem_take hz))) (by omega)
      rw [e1] at H2
      exact Evp.ret H2
    | succ d ih =>
      intro i ids M4 hd hi hl h7 hp rT rQ bI
      refine Run.cut (Evp.of_eq (fun k => zoetropelaw22_DeblockQuiet.p500 k ..) ?_)
      refine Evp.dec (fun _ => ?_) fun h => absurd h (by omega)
      refine Evp.pos (by omega) (Evp.some rfl ?_)
      simp only [Int.toNat_natCast]
      obtain ⟨M5, h1, h2, h3, h4, h5⟩ := bI.st (lo := M.length) (i := i) (vs := [.int .i64 7]) hp q2.len (by simp; omega)
      refine Evp.some h1 ?_
      rw [setL_one, set_map] at h2
      rw [w64 (by omega)]
      refine Evp.ret (ih (i + 1) _ M5 (by omega) (by omega) (by simpa using hl) (fun j hj => ?_) h3 (rT.keep h4 ne1) (rQ.keep h4 ne2) h2)
      rw [getD_set (by omega)]
      split
      · rfl
      · exact h7 j (by omega)
  exact Evp.ret (loop _ 0 ids M3 rfl (Nat.zero_le _) lI (fun j hj => absurd hj (by omega)) p3 rT rQ bI)
end Go.Zt
