/- At samples there is nothing between them; all taps are together 128. -/
import Derived.Test.YtijdfhanoikgfaaFk
set_option linter.unusedVariables false
set_option linter.unusedSimpArgs false
set_option maxRecDepth 100000
namespace Go.Zt
theorem sumT_const (t : List Int) (v : Int) (n : Nat) : sumT t (fun _ => v) n = v * sumT t (fun _ => 1) n := by
  induction n with
  | zero => simp [sumT]
  | succ n ih => simp only [sumT]; rw [ih, Int.mul_add, Int.mul_one, Int.mul_comm v (t.getD n 0)]
theorem taps128 {k a : Int} (hk : 0 ≤ k ∧ k ≤ 2) (ha : 0 ≤ a ∧ a ≤ 15) : sumT (tapsS k a) (fun _ => 1) 8 = 128 := by
  obtain ⟨n, rfl⟩ := Int.eq_ofNat_of_zero_le ha.1
  have h0 : ∀ n, n < 16 → sumT (tapsS 0 (n : Nat)) (fun _ => 1) 8 = 128 := by decide
  have h1 : ∀ n, n < 16 → sumT (tapsS 1 (n : Nat)) (fun _ => 1) 8 = 128 := by decide
  have h2 : ∀ n, n < 16 → sumT (tapsS 2 (n : Nat)) (fun _ => 1) 8 = 128 := by decide
  have : k = 0 ∨ k = 1 ∨ k = 2 := by omega
  rcases this with rfl | rfl | rfl
  · exact h0 n (by omega)
  · exact h1 n (by omega)
  · exact h2 n (by omega)
theorem taps_zero {k : Int} (hk : 0 ≤ k ∧ k ≤ 2) : tapsS k 0 = [0, 0, 0, 128, 0, 0, 0, 0] := by
  have : k = 0 ∨ k = 1 ∨ k = 2 := by omega
  rcases this with rfl | rfl | rfl <;> decide
theorem sum_one (p : Nat → Int) : sumT [0, 0, 0, 128, 0, 0, 0, 0] p 8 = 128 * p 3 := by simp [sumT]
theorem samp_whole {w h : Int} {xs : List Int} (bx : Bytes xs) {k x y : Int} (hk : 0 ≤ k ∧ k ≤ 2) (j i : Nat) : sampS w h xs (tapsS k 0) (tapsS k 0) (16 * x) (16 * y) j i = pixS w h xs (y + j) (x + i) := by
  have hr : ∀ j : Nat, rowS w h xs (tapsS k 0) (16 * x) (16 * y) j i = 16 * pixS w h xs (y + j - 3) (x + i) := fun j => by
    unfold rowS
    rw [taps_zero hk, sum_one, show 16 * y / 16 = y by omega, show 16 * x / 16 = x by omega, show x + (i : Int) + ((3 : Nat) : Int) - 3 = x + i by omega]
    omega
  unfold sampS
  have hp := pixS_le (w := w) (h := h) bx (y + j) (x + i)
  have e : sumT (tapsS k 0) (fun k' => rowS w h xs (tapsS k 0) (16 * x) (16 * y) (j + k') i) 8 = 128 * (16 * pixS w h xs (y + j) (x + i)) := by
    rw [sumT_congr (q := fun k' : Nat => 16 * pixS w h xs (y + (j + k' : Nat) - 3) (x + i)) fun k' _ => hr (j + k'), taps_zero hk, sum_one, show y + ((j + 3 : Nat) : Int) - 3 = y + j by omega]
  rw [e, show (1024 + 128 * (16 * pixS w h xs (y + j) (x + i))) / 2048 = pixS w h xs (y + j) (x + i) by omega]
  unfold clipS; rw [if_neg (by omega), if_neg (by omega)]

section
variable (x y bw bh : Int) (k : Int) (lo : Nat)
theorem whole_sum (at_ : Int) (ts : List Int) (hl : ts.length = 8) (ht : Taps8 ts) {Q : Value × Mem → Prop} (M : Mem) (e : Int)
    (hend : Run P T lo F.zoetropelaw14_SubpelWhole (zoetropelaw14_SubpelWhole.c2091316 at_ e (sumT ts (fun _ => 1) 8) 8 x y bw bh k (ts.getD 0 0) (ts.getD 1 0) (ts.getD 2 0) (ts.getD 3 0) (ts.getD 4 0) (ts.getD 5 0) (ts.getD 6 0) (ts.getD 7 0) M) Q) :
    ∀ (d i : Nat), 8 - i = d → i ≤ 8 → Run P T lo F.zoetropelaw14_SubpelWhole (zoetropelaw14_SubpelWhole.c2091316 at_ e (sumT ts (fun _ => 1) i) i x y bw bh k (ts.getD 0 0) (ts.getD 1 0) (ts.getD 2 0) (ts.getD 3 0) (ts.getD 4 0) (ts.getD 5 0) (ts.getD 6 0) (ts.getD 7 0) M) Q := by
  intro d
  induction d with
  | zero =>
    intro i hd hi
    obtain rfl : i = 8 := by omega
    exact hend
  | succ d ih =>
    intro i hd hi
    refine Run.cut (Evp.of_eq (fun k => zoetropelaw14_SubpelWhole.p2091316 k ..) ?_)
    refine Evp.dec (fun _ => ?_) fun h => absurd h (by omega)
    refine Evp.pos (by omega) ?_
    rw [← list8 ts hl]
    simp only [Int.toNat_natCast, Nat.zero_add, Nat.add_zero]
    refine Evp.some (tab_get ts i (by omega)) ?_
    have h1 := sumT_le (B := 1) ht (p := fun _ => 1) (fun _ => by omega) i
    have h2 := ht.2 i
    rw [w64 (by omega), w64 (by omega)]
    have := ih (i + 1) (by omega) (by omega)
    simp only [sumT, Int.mul_one] at this
    exact Evp.ret this
theorem whole_taps (hk : 0 ≤ k ∧ k ≤ 2) : ∀ (d a : Nat) (M : Mem), 16 - a = d → a ≤ 16 → lo ≤ M.length → Run P T lo F.zoetropelaw14_SubpelWhole (zoetropelaw14_SubpelWhole.c4084 a x y bw bh k M) fun r => r.1 = .bool true := by
  intro d
  induction d with
  | zero =>
    intro a M hd ha hlo
    refine Run.cut (Evp.of_eq (fun k => zoetropelaw14_SubpelWhole.p4084 k ..) ?_)
    exact Evp.dec (fun h => absurd h (by omega)) fun _ => Evp.ret (Run.ret rfl)
  | succ d ih =>
    intro a M hd ha hlo
    refine Run.cut (Evp.of_eq (fun k => zoetropelaw14_SubpelWhole.p4084 k ..) ?_)
    refine Evp.dec (fun _ => ?_) fun h => absurd h (by omega)
    refine Evp.ob (taps_ok _ _ _ _ hlo) ?_
    rintro _ ⟨M1, rfl, p1⟩
    rw [list8 _ (tapsS_len k a)]
    simp only [ret_int, ret_bool, ret_flt, ret_slc, ret_str, ret_ptr, ret_agg, ret_tup, ob_some, bb_true, bb_false, List.getElem?_cons_zero, List.getElem?_cons_succ, List.length_cons, List.length_nil, Nat.reduceAdd, Nat.reduceLT]
    have l1 := p1.len
    refine Evp.ret (whole_sum x y bw bh k lo a (tapsS k a) (tapsS_len _ _) (tapsS_ok _ _) M1 _ ?_ 8 0 rfl (by omega))
    refine Run.cut (Evp.of_eq (fun k => zoetropelaw14_SubpelWhole.p2091316 k ..) ?_)
    refine Evp.ff rfl ?_
    refine Evp.ff (by rw [tapsE_ok (by omega)]; rfl) ?_
    refine Evp.ff (by rw [taps128 hk (by omega)]; rfl) ?_
    rw [w64 (by omega)]
    exact Evp.ret (ih (a + 1) M1 (by omega) (by omega) (by omega))
end
theorem ldI_if {M : Mem} {A : Option Addr} {k : IntKind} {xs : List Int} {i : Nat} {β : Type} {Q : β → Prop} {f : Nat → Addr → Int → Option β} (h : RdI M k A xs) (hi : i < xs.length) (hf : ∀ a, A = .some a → Evp (fun kk => f kk a (xs.getD i 0)) Q) :
    Evp (fun kk => ob A fun a => ob ((if (plus a i).block < M.length then M.ld (plus a i) else none).bind (Value.int? k)) fun x => f kk a x) Q := by
  obtain ⟨a, rfl, hb, hl⟩ := h.ld hi
  refine Evp.some rfl (Evp.some (b := xs.getD i 0) ?_ (hf a rfl))
  rw [if_pos (by rw [plus_block]; exact hb), hl]
  simp [Value.int?]
section
variable (w h : Int) (A : Option Addr) (c : Nat) (xs : List Int) (x y bw bh : Int) (k : Int) (lo : Nat) (M : Mem)
theorem whole_loop (hx : RdI M .u8 A xs) (hk0 : checkS w h xs.length = 0) (hk : 0 ≤ k ∧ k ≤ 2) (hw : 4 ≤ bw ∧ bw ≤ 16) (hx0 : -500 ≤ x ∧ x ≤ 1499) (hy0 : -500 ≤ y ∧ y ≤ 1499) (hlo : lo ≤ M.length) (B : Option Addr) (cc : Nat) (zs : List Int) (hz : RdI M .u8 B zs) (hn : zs.length ≤ 4096)
    (hall : ∀ q, q < zs.length → zs.getD q 0 = pixS w h xs (y / 16 + (q / bw.toNat : Nat)) (x / 16 + (q % bw.toNat : Nat))) :
    ∀ (d i : Nat), zs.length - i = d → i ≤ zs.length → Run P T lo F.zoetropelaw14_SubpelWhole (zoetropelaw14_SubpelWhole.c2036 B zs.length cc i w h A xs.length c x y bw bh k M) fun r => r.1 = .bool true := by
  intro d
  induction d with
  | zero =>
    intro i hd hi
    refine Run.cut (Evp.of_eq (fun k => zoetropelaw14_SubpelWhole.p2036 k ..) ?_)
    exact Evp.dec (fun h => absurd h (by omega)) fun _ => Evp.ret (whole_taps x y bw bh k lo hk 16 0 M rfl (by omega) hlo)
  | succ d ih =>
    intro i hd hi
    refine Run.cut (Evp.of_eq (fun k => zoetropelaw14_SubpelWhole.p2036 k ..) ?_)
    refine Evp.dec (fun _ => ?_) fun h => absurd h (by omega)
    refine Evp.pos (by omega) ?_
    simp only [Int.toNat_natCast]
    refine ldI_if hz (by omega) fun _ _ => ?_
    refine Evp.neg (by omega) (Evp.neg (by omega) ?_)
    obtain ⟨n, rfl⟩ := Int.eq_ofNat_of_zero_le (a := bw) (by omega)
    have e1 : Int.tdiv (i : Int) ((n : Nat) : Int) = ((i / n : Nat) : Int) := rfl
    have e2 : Int.tmod (i : Int) ((n : Nat) : Int) = ((i % n : Nat) : Int) := rfl
    have s4 : ∀ z : Int, shrI .i64 z 4 = z / 16 := fun z => shr_eq 4 (by omega)
    have b1 : i / n ≤ i := Nat.div_le_self _ _
    have b3 : 0 ≤ i / n := Nat.zero_le _
    generalize hqq : i / n = qq at *
    have b2 : i % n < n := Nat.mod_lt _ (by omega)
    rw [e1, e2, s4, s4, w64 (x := (qq : Int)) (by omega), w64 (x := x / 16 + ((i % n : Nat) : Int)) (by omega), w64 (x := y / 16 + (qq : Int)) (by omega)]
    refine Evp.ob (at_ok _ _ _ _ _ _ _ _ _ hx hk0) ?_
    rintro _ rfl
    simp only [ret_int, ret_bool, ret_flt, ret_slc, ret_str, ret_ptr, ret_agg, ret_tup, ob_some, bb_true, bb_false, List.getElem?_cons_zero, List.getElem?_cons_succ, List.length_cons, List.length_nil, Nat.reduceAdd, Nat.reduceLT]
    refine Evp.ff (by rw [hall i (by omega)]; simp [pixS, hqq]) ?_
    rw [w64 (by omega)]
    exact Evp.ret (ih (i + 1) (by omega) (by omega))
end
theorem SubpelWhole_law (M : Mem) (vs : List Value) (hro : AllRo M) (hv : LaysArgs P M [30, 32] vs) : Ac P T M.length F.zoetropelaw14_SubpelWhole vs M fun r => r.1 = .bool true := by
  obtain ⟨w, h, A, c, xs, lx, ly, lw, lh, lk, rfl, _, _, hc, hn, hx, wx, _⟩ := Arg.SubpelWhole hv
  have bx : Bytes xs := fun x hx => wf_u8 (wx x hx)
  refine Ac.of (Evp.of_eq (fun k => zoetropelaw14_SubpelWhole.entry k ..) ?_)
  refine Evp.ob (works_ok _ _ (Nat.le_refl _)) ?_
  rintro _ ⟨M1, rfl, p1⟩
  simp only [ret_int, ret_bool, ret_flt, ret_slc, ret_str, ret_ptr, ret_agg, ret_tup, ob_some, bb_true, bb_false, List.getElem?_cons_zero, List.getElem?_cons_succ, List.length_cons, List.length_nil, Nat.reduceAdd, Nat.reduceLT]
  refine Evp.ff rfl ?_
  refine Evp.ob (check_ok ..) ?_
  rintro _ rfl
  simp only [ret_int, ret_bool, ret_flt, ret_slc, ret_str, ret_ptr, ret_agg, ret_tup, ob_some, bb_true, bb_false, List.getElem?_cons_zero, List.getElem?_cons_succ, List.length_cons, List.length_nil, Nat.reduceAdd, Nat.reduceLT]
  refine Evp.neb (fun hk => ?_) fun hk => ?_
  · refine Evp.ob (fetch_ok M.length w h A c xs 0 0 4 4 0 M1 (hx.pre p1) bx hc p1.len) ?_
    intro r hr
    obtain ⟨M2, rfl, p2⟩ := hr.not fun e => hk e.1
    simp only [ret_int, ret_bool, ret_flt, ret_slc, ret_str, ret_ptr, ret_agg, ret_tup, ob_some, bb_true, bb_false, List.getElem?_cons_zero, List.getElem?_cons_succ, List.length_cons, List.length_nil, Nat.reduceAdd, Nat.reduceLT]
    exact Evp.ret (Run.ret rfl)
  refine Evp.ob (may_ok ..) ?_
  rintro _ ⟨x, y, bw, bh, k, rfl, hx0, hy0, hw0, hh0, hk0⟩
  simp only [ret_int, ret_bool, ret_flt, ret_slc, ret_str, ret_ptr, ret_agg, ret_tup, ob_some, bb_true, bb_false, List.getElem?_cons_zero, List.getElem?_cons_succ, List.length_cons, List.length_nil, Nat.reduceAdd, Nat.reduceLT]
  have s4 : ∀ z : Int, shrI .i64 z 4 = z / 16 := fun z => shr_eq 4 (by omega)
  have t4 : ∀ z : Int, -1000 ≤ z ∧ z ≤ 1000 → shlI .i64 z 4 = 16 * z := fun z hz => by
    unfold shlI
    rw [show min 4 IntKind.i64.bits = 4 from rfl, w64 (by omega)]
    omega
  rw [s4, s4, t4 _ (by omega), t4 _ (by omega)]
  refine Evp.ob (fetch_ok M.length w h A c xs _ _ bw bh k M1 (hx.pre p1) bx hc p1.len) ?_
  intro r hr
  obtain ⟨B, cc, M2, rfl, p2, g2, k2⟩ := hr.got (fetchOk_of hk (by omega) (by omega) (by omega) (by omega) hk0)
  simp only [ret_int, ret_bool, ret_flt, ret_slc, ret_str, ret_ptr, ret_agg, ret_tup, ob_some, bb_true, bb_false, List.getElem?_cons_zero, List.getElem?_cons_succ, List.length_cons, List.length_nil, Nat.reduceAdd, Nat.reduceLT]
  refine Evp.ff rfl ?_
  have hl := fetchS_len w h xs (16 * (x / 16)) (16 * (y / 16)) bw.toNat bh.toNat k
  have e : bw * bh = ((bh.toNat * bw.toNat : Nat) : Int) := by rw [Int.natCast_mul, Int.toNat_of_nonneg (by omega), Int.toNat_of_nonneg (by omega), Int.mul_comm]
  have hm : bh.toNat * bw.toNat ≤ 16 * 16 := Nat.mul_le_mul (by omega) (by omega)
  rw [e, w64 (by omega)]
  refine Evp.ff (by rw [hl]; simp) ?_
  have l2 := (p1.trans p2).len
  refine Evp.ret (whole_loop w h A c xs x y bw bh k M.length M2 (hx.pre (p1.trans p2)) hk hk0 hw0 hx0 hy0 l2 B cc _ k2.rdI (by omega) (fun q hq => ?_) _ 0 rfl (by omega))
  rw [hl] at hq
  rw [fetchS_get _ _ _ _ _ _ _ _ hq, show 16 * (x / 16) % 16 = 0 by omega, show 16 * (y / 16) % 16 = 0 by omega, samp_whole bx hk0]
end Go.Zt
