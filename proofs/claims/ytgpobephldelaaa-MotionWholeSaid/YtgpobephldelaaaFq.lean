/- MotionWhole. -/
import Derived.Test.YtgpobephldelaaaFp
set_option linter.unusedVariables false
set_option linter.unusedSimpArgs false
set_option maxRecDepth 100000
namespace Go.Zt
theorem at_ok (lo : Nat) (w h : Int) (A : Option Addr) (c : Nat) (xs : List Int) (x y : Int) (M : Mem) (hx : RdI M .u8 A xs) (hk : checkS w h xs.length = 0) :
    Ac P T lo F.plane_At [.agg ⟨[.int .i64 w, .int .i64 h, .slice A xs.length c]⟩, .int .i64 x, .int .i64 y] M fun r => r = (.int .u8 (xs.getD (clipS y 0 (h - 1) * w + clipS x 0 (w - 1)).toNat 0), M) := by
  refine Ac.of (Evp.of_eq (fun k => plane_At.entry k ..) ?_)
  refine Evp.ob (check_ok ..) ?_
  rintro _ rfl
  simp only [ret_int, ret_bool, ret_flt, ret_slc, ret_str, ret_ptr, ret_agg, ret_tup, ob_some, bb_true, bb_false, List.getElem?_cons_zero, List.getElem?_cons_succ, List.length_cons, List.length_nil, Nat.reduceAdd, Nat.reduceLT]
  refine Evp.ff (by rw [hk]; rfl) ?_
  unfold checkS at hk
  split at hk
  · rename_i hs
    have har := area (w := w) (h := h) (by omega)
    have h1 := clipS_le (v := y) (a := 0) (b := h - 1) (by omega)
    have h2 := clipS_le (v := x) (a := 0) (b := w - 1) (by omega)
    have h3 : clipS y 0 (h - 1) * w ≤ (h - 1) * w := Int.mul_le_mul_of_nonneg_right h1.2 (by omega)
    have h4 : (h - 1) * w = w * h - w := by rw [Int.sub_mul, Int.mul_comm h w]; omega
    have h0 : 0 ≤ clipS y 0 (h - 1) * w := Int.mul_nonneg h1.1 (by omega)
    rw [w64 (x := h - 1) (by omega), w64 (x := w - 1) (by omega), minmax_clip (by omega), minmax_clip (by omega), w64 (x := clipS y 0 (h - 1) * w) (by omega), w64 (by omega)]
    refine Evp.pos (by omega) ?_
    refine Evp.ldI hx (by omega) fun _ _ => ?_
    exact Evp.ret (Run.ret rfl)
  · omega
theorem taps_zero {k : Int} (hk : 0 ≤ k ∧ k ≤ 2) : tapsS k 0 = [0, 0, 0, 128, 0, 0, 0, 0] := by
  have : k = 0 ∨ k = 1 ∨ k = 2 := by omega
  rcases this with rfl | rfl | rfl <;> decide
theorem sum_one (p : Nat → Int) : sumT [0, 0, 0, 128, 0, 0, 0, 0] p 8 = 128 * p 3 := by simp [sumT]
theorem samp_whole {w h : Int} {xs : List Int} (bx : Bytes xs) {k x y : Int} (hk : 0 ≤ k ∧ k ≤ 2) (j i : Nat) : sampS w h xs (tapsS k 0) (tapsS k 0) (16 * x) (16 * y) j i = pixS w h xs (y + j) (x + i) := by
  have hr : ∀ j : Nat, rowS w h xs (tapsS k 0) (16 * x) (16 * y) j i = 16 * pixS w h xs (y + j - 3) (x + i) := fun j => by
    unfold rowS
    rw [taps_zero hk, sum_one, show 16 * y / 16 = y by omega, show 16 * x / 16 = x by omega, show x + (i : Int) + ((3 : Nat) : Int) - 3 = x + i by omega]
    omega
  unfold sampS
  have hp := pixS_le (w := w) (h := h) bx (y + j) (x + i)
  have e : sumT (tapsS k 0) (fun k' => rowS w h xs (tapsS k 0) (16 * x) (16 * y) (j + k') i) 8 = 128 * (16 * pixS w h xs (y + j) (x + i)) := by
    rw [sumT_congr (q := fun k' : Nat => 16 * pixS w h xs (y + (j + k' : Nat) - 3) (x + i)) fun k' _ => hr (j + k'), taps_zero hk, sum_one, show y + ((j + 3 : Nat) : Int) - 3 = y + j by omega]
  rw [e, show (1024 + 128 * (16 * pixS w h xs (y + j) (x + i))) / 2048 = pixS w h xs (y + j) (x + i) by omega]
  unfold clipS; rw [if_neg (by omega), if_neg (by omega)]

theorem ldI_if {M : Mem} {A : Option Addr} {k : IntKind} {xs : List Int} {i : Nat} {β : Type} {Q : β → Prop} {f : Nat → Addr → Int → Option β} (h : RdI M k A xs) (hi : i < xs.length) (hf : ∀ a, A = .some a → Evp (fun kk => f kk a (xs.getD i 0)) Q) :
    Evp (fun kk => ob A fun a => ob ((if (plus a i).block < M.length then M.ld (plus a i) else none).bind (Value.int? k)) fun x => f kk a x) Q := by
  obtain ⟨a, rfl, hb, hl⟩ := h.ld hi
  refine Evp.some rfl (Evp.some (b := xs.getD i 0) ?_ (hf a rfl))
  rw [if_pos (by rw [plus_block]; exact hb), hl]
  simp [Value.int?]
theorem tdiv_mul_le {v : Int} (u : Nat) (h : -4095 ≤ v ∧ v ≤ 4095) : -4095 ≤ Int.tdiv v u * u ∧ Int.tdiv v u * u ≤ 4095 := by
  have h1 : (Int.tdiv v u * u).natAbs ≤ v.natAbs := by
    rw [Int.natAbs_mul, Int.natAbs_tdiv]
    exact Nat.div_mul_le_self _ _
  omega
theorem single_whole {w0 h0 w1 h1 w2 h2 : Int} {xs ys zs : List Int} {n x y w h kind : Int} (u dx dy : Int) (hu : byS n * u = 16) (b : Bytes (pk n xs ys zs)) (hk : 0 ≤ kind ∧ kind ≤ 2) {q : Nat} (hq : q < h.toNat * w.toNat) :
    (singleL w0 h0 w1 h1 w2 h2 xs ys zs n x y w h (dx * u) (dy * u) kind).getD q 0 = pixS (pk n w0 w1 w2) (pk n h0 h1 h2) (pk n xs ys zs) (y + dy + (q / w.toNat : Nat)) (x + dx + (q % w.toNat : Nat)) := by
  have e : ∀ x d : Int, 16 * x + byS n * (d * u) = 16 * (x + d) := fun x d => by
    rw [Int.mul_comm d u, ← Int.mul_assoc, hu, Int.mul_add]
  unfold singleL fetchS
  rw [getD_map_range hq, e, e, show 16 * (x + dx) % 16 = 0 by omega, show 16 * (y + dy) % 16 = 0 by omega]
  exact samp_whole b hk _ _
section
variable (lo : Nat) (w0 h0 w1 h1 w2 h2 : Int) (A0 A1 A2 B : Option Addr) (c0 c1 c2 cc : Nat) (xs ys zs ls : List Int) (n x y w h vx vy kind dx dy : Int) (M : Mem)
variable (hx : RdI M .u8 A0 xs) (hy : RdI M .u8 A1 ys) (hz : RdI M .u8 A2 zs) (hw : WholeP w0 h0 xs.length w1 h1 ys.length w2 h2 zs.length) (hn : 0 ≤ n ∧ n ≤ 2) (bx : 0 ≤ x ∧ x ≤ 1024) (by_ : 0 ≤ y ∧ y ≤ 1024) (bw : 4 ≤ w ∧ w ≤ 64) (bh : 4 ≤ h ∧ h ≤ 64) (bdx : -4095 ≤ dx ∧ dx ≤ 4095) (bdy : -4095 ≤ dy ∧ dy ≤ 4095)
variable (hB : RdI M .u8 B ls) (hl : ls.length = h.toNat * w.toNat) (hall : ∀ q, q < ls.length → ls.getD q 0 = pixS (pk n w0 w1 w2) (pk n h0 h1 h2) (pk n xs ys zs) (y + dy + (q / w.toNat : Nat)) (x + dx + (q % w.toNat : Nat)))
include hx hy hz hw hn bx by_ bw bh bdx bdy hB hl hall
theorem whole15_loop : ∀ (d i : Nat), ls.length - i = d → i ≤ ls.length → Run P T lo F.zoetropelaw15_MotionWhole (zoetropelaw15_MotionWhole.c16372 dx dy B ls.length cc i w0 h0 A0 xs.length c0 w1 h1 A1 ys.length c1 w2 h2 A2 zs.length c2 n x y w h vx vy kind M) fun r => r.1 = .bool true := by
  have sm : h.toNat * w.toNat ≤ 64 * 64 := Nat.mul_le_mul (by omega) (by omega)
  intro d
  induction d with
  | zero =>
    intro i hd hi
    refine Run.cut (Evp.of_eq (fun k => zoetropelaw15_MotionWhole.p16372 k ..) ?_)
    exact Evp.dec (fun h => absurd h (by omega)) fun _ => Evp.ret (Run.ret rfl)
  | succ d ih =>
    intro i hd hi
    obtain ⟨W, rfl⟩ := Int.eq_ofNat_of_zero_le (a := w) (by omega)
    simp only [Int.toNat_natCast] at *
    have e1 : Int.tdiv (i : Int) (W : Int) = ((i / W : Nat) : Int) := rfl
    have e2 : Int.tmod (i : Int) (W : Int) = ((i % W : Nat) : Int) := rfl
    have b1 : i / W ≤ 4096 := Nat.le_trans (Nat.div_le_self _ _) (by omega)
    have b2 : i % W < W := Nat.mod_lt _ (by omega)
    have hi' := hall i (by omega)
    have fin : ∀ (w' h' : Int) (A' : Option Addr) (l' : List Int) (c' : Nat), RdI M .u8 A' l' → checkS w' h' l'.length = 0 → pk n w0 w1 w2 = w' → pk n h0 h1 h2 = h' → pk n xs ys zs = l' →
        Evp (fun k => pb ((W : Int) = 0) none (pb ((W : Int) = 0) none (ob (acall P T k M.length F.plane_At [.agg ⟨[.int .i64 w', .int .i64 h', .slice A' l'.length c']⟩, .int .i64 (IntKind.i64.wrap ((IntKind.i64.wrap (x + (Int.tmod (i : Int) (W : Int)))) + dx)), .int .i64 (IntKind.i64.wrap ((IntKind.i64.wrap (y + (IntKind.i64.wrap (Int.tdiv (i : Int) (W : Int))))) + dy))] M) fun r56 =>
          ob ((some r56.1).bind (Value.int? .u8)) fun x57 => bb (ls.getD i 0 != x57) (some (.ret (.bool false) r56.2)) (some (zoetropelaw15_MotionWhole.c16372 dx dy B ls.length cc (IntKind.i64.wrap ((i : Int) + 1)) w0 h0 A0 xs.length c0 w1 h1 A1 ys.length c1 w2 h2 A2 zs.length c2 n x y W h vx vy kind r56.2))))) fun out => Run P T lo F.zoetropelaw15_MotionWhole out fun r => r.1 = .bool true := fun w' h' A' l' c' hA hc k1 k2 k3 => by
      refine Evp.neg (by omega) (Evp.neg (by omega) ?_)
      rw [e1, e2]
      rw [k1, k2, k3] at hi'
      have b0 : 0 ≤ i / W := Nat.zero_le _
      generalize i / W = q at *
      generalize i % W = r at *
      rw [w64 (x := x + (r : Int)) (by omega), w64 (x := x + (r : Int) + dx) (by omega), w64 (x := (q : Int)) (by omega), w64 (x := y + (q : Int)) (by omega), w64 (x := y + (q : Int) + dy) (by omega), w64 (x := (i : Int) + 1) (by omega)]
      refine Evp.ob (at_ok _ _ _ _ _ _ _ _ _ hA hc) ?_
      rintro _ rfl
      simp only [ret_int, ret_bool, ret_flt, ret_slc, ret_str, ret_ptr, ret_agg, ret_tup, ob_some, bb_true, bb_false, List.getElem?_cons_zero, List.getElem?_cons_succ, List.length_cons, List.length_nil, Nat.reduceAdd, Nat.reduceLT]
      refine Evp.neb (fun g => absurd ?_ g) fun _ => Evp.ret (ih (i + 1) (by omega) (by omega))
      rw [hi']
      unfold pixS
      rw [show y + dy + (q : Int) = y + (q : Int) + dy by omega, show x + dx + (r : Int) = x + (r : Int) + dx by omega]
    obtain ⟨k0, _, _, kk1, _, _, kk2, _, _⟩ := hw
    refine Run.cut (Evp.of_eq (fun k => zoetropelaw15_MotionWhole.p16372 k ..) ?_)
    refine Evp.dec (fun _ => ?_) fun h => absurd h (by omega)
    refine Evp.pos (by omega) ?_
    simp only [Int.toNat_natCast]
    refine ldI_if hB (by omega) fun _ _ => ?_
    refine Evp.pos (by omega) ?_
    have hn' : n = 0 ∨ n = 1 ∨ n = 2 := by omega
    rcases hn' with rfl | rfl | rfl
    · exact Evp.some rfl (Evp.some rfl (Evp.some rfl (fin w0 h0 A0 xs c0 hx k0 rfl rfl rfl)))
    · exact Evp.some rfl (Evp.some rfl (Evp.some rfl (fin w1 h1 A1 ys c1 hy kk1 rfl rfl rfl)))
    · exact Evp.some rfl (Evp.some rfl (Evp.some rfl (fin w2 h2 A2 zs c2 hz kk2 rfl rfl rfl)))
end
theorem MotionWhole_law (M : Mem) (vs : List Value) (hro : AllRo M) (hv : LaysArgs P M [27, 33] vs) : Ac P T M.length F.zoetropelaw15_MotionWhole vs M fun r => r.1 = .bool true := by
  obtain ⟨w0, h0, A0, c0, xs, w1, h1, A1, c1, ys, w2, h2, A2, c2, zs, a, b, c, d, e, f, g, i, rfl, _, _, k0, n0, hx, wx, _, _, k1, n1, hy, wy, _, _, k2, n2, hz, wz, _⟩ := Arg.MotionWhole hv
  have bx : Bytes xs := fun x hx => wf_u8 (wx x hx)
  have by_ : Bytes ys := fun x hx => wf_u8 (wy x hx)
  have bz : Bytes zs := fun x hx => wf_u8 (wz x hx)
  refine Ac.of (Evp.of_eq (fun k => zoetropelaw15_MotionWhole.entry k ..) ?_)
  refine Evp.ob (works_ok _ _ (Nat.le_refl _)) ?_
  rintro _ ⟨M1, rfl, p1⟩
  simp only [ret_int, ret_bool, ret_flt, ret_slc, ret_str, ret_ptr, ret_agg, ret_tup, ob_some, bb_true, bb_false, List.getElem?_cons_zero, List.getElem?_cons_succ, List.length_cons, List.length_nil, Nat.reduceAdd, Nat.reduceLT]
  refine Evp.ff rfl ?_
  refine Evp.ob (whole_ok ..) ?_
  rintro _ rfl
  simp only [ret_int, ret_bool, ret_flt, ret_slc, ret_str, ret_ptr, ret_agg, ret_tup, ob_some, bb_true, bb_false, List.getElem?_cons_zero, List.getElem?_cons_succ, List.length_cons, List.length_nil, Nat.reduceAdd, Nat.reduceLT]
  refine Evp.neb (fun hw => ?_) fun hw => ?_
  · have hwp : ¬ WholeP w0 h0 xs.length w1 h1 ys.length w2 h2 zs.length := fun hp => by
      rw [wholeS_pos (hw := hp) ..] at hw; exact absurd rfl hw
    refine Evp.ob (single_ok _ w0 h0 w1 h1 w2 h2 A0 A1 A2 c0 c1 c2 xs ys zs 0 0 0 4 4 0 0 0 M1 (hx.pre p1) (hy.pre p1) (hz.pre p1) bx by_ bz k0 k1 k2 p1.len) ?_
    intro r hr
    obtain ⟨l, e, B, cc, M2, rfl, p2, _, o2, _, q, hqd, el, ee, qi⟩ := hr.cases
    have nq : ¬ q := fun h => hwp (qi.1 h).1.1
    rw [if_neg nq] at ee
    subst ee
    simp only [ret_int, ret_bool, ret_flt, ret_slc, ret_str, ret_ptr, ret_agg, ret_tup, ob_some, bb_true, bb_false, List.getElem?_cons_zero, List.getElem?_cons_succ, List.length_cons, List.length_nil, Nat.reduceAdd, Nat.reduceLT]
    exact Evp.ret (Run.ret rfl)
  have hwp : WholeP w0 h0 xs.length w1 h1 ys.length w2 h2 zs.length := by
    by_cases hp : WholeP w0 h0 xs.length w1 h1 ys.length w2 h2 zs.length
    · exact hp
    · rw [wholeS_neg (hw := hp) ..] at hw; exact absurd hw (by decide)
  refine Evp.ob (may_ok ..) ?_
  rintro _ ⟨n, x, y, w, h, vx, vy, k, rfl, bn, b2, b3, b4, b5, b6, b7, b8⟩
  simp only [ret_int, ret_bool, ret_flt, ret_slc, ret_str, ret_ptr, ret_agg, ret_tup, ob_some, bb_true, bb_false, List.getElem?_cons_zero, List.getElem?_cons_succ, List.length_cons, List.length_nil, Nat.reduceAdd, Nat.reduceLT]
  have bp : Bytes (pk n xs ys zs) := by
    unfold pk
    split
    · exact bx
    · split
      · exact by_
      · exact bz
  have fin : ∀ u : Nat, (u = 8 ∨ u = 16) → byS n * u = 16 → Run P T M.length F.zoetropelaw15_MotionWhole (zoetropelaw15_MotionWhole.c127 u w0 h0 A0 xs.length c0 w1 h1 A1 ys.length c1 w2 h2 A2 zs.length c2 n x y w h vx vy k M1) fun r => r.1 = .bool true := fun u hu hbu => by
    refine Run.cut (Evp.of_eq (fun k => zoetropelaw15_MotionWhole.p127 k ..) ?_)
    have t1 := tdiv_le (v := vx) (B := 4095) (u : Int) (by omega) (by omega)
    have t2 := tdiv_le (v := vy) (B := 4095) (u : Int) (by omega) (by omega)
    have m1 := tdiv_mul_le (v := vx) u (by omega)
    have m2 := tdiv_mul_le (v := vy) u (by omega)
    refine Evp.neg (by omega) (Evp.neg (by omega) ?_)
    generalize Int.tdiv vx (u : Int) = dx at *
    generalize Int.tdiv vy (u : Int) = dy at *
    rw [w64 (x := dx) (by omega), w64 (x := dy) (by omega), w64 (x := dx * u) (by omega), w64 (x := dy * u) (by omega)]
    refine Evp.ob (single_ok _ w0 h0 w1 h1 w2 h2 A0 A1 A2 c0 c1 c2 xs ys zs n x y w h _ _ k M1 (hx.pre p1) (hy.pre p1) (hz.pre p1) bx by_ bz k0 k1 k2 p1.len) ?_
    intro r hr
    obtain ⟨B, cc, M2, rfl, p2, o2⟩ := hr.yes (single_q hwp bn (by omega) (by omega) (by omega) (by omega) (by omega) (by omega) b8)
    simp only [ret_int, ret_bool, ret_flt, ret_slc, ret_str, ret_ptr, ret_agg, ret_tup, ob_some, bb_true, bb_false, List.getElem?_cons_zero, List.getElem?_cons_succ, List.length_cons, List.length_nil, Nat.reduceAdd, Nat.reduceLT]
    have q2 := p1.trans p2
    have ll := singleL_len (w0 := w0) (h0 := h0) (w1 := w1) (h1 := h1) (w2 := w2) (h2 := h2) (xs := xs) (ys := ys) (zs := zs) (n := n) (x := x) (y := y) (w := w) (h := h) (vx := dx * u) (vy := dy * u) (kind := k)
    have el := fun (q : Nat) hq => single_whole (w0 := w0) (h0 := h0) (w1 := w1) (h1 := h1) (w2 := w2) (h2 := h2) (x := x) (y := y) (w := w) (h := h) (kind := k) (u : Int) dx dy hbu bp (by omega) (q := q) hq
    have sm : h.toNat * w.toNat ≤ 4096 := small_mul (by omega) (by omega)
    refine Evp.neb (fun g => absurd rfl g) fun _ => ?_
    generalize singleL w0 h0 w1 h1 w2 h2 xs ys zs n x y w h (dx * u) (dy * u) k = ls at *
    have em : IntKind.i64.wrap (w * h) = (ls.length : Int) := by
      rw [ll]
      obtain ⟨w', rfl⟩ := Int.eq_ofNat_of_zero_le (a := w) (by omega)
      obtain ⟨h', rfl⟩ := Int.eq_ofNat_of_zero_le (a := h) (by omega)
      simp only [Int.toNat_natCast] at sm ⊢
      have em : (w' : Int) * (h' : Int) = ((h' * w' : Nat) : Int) := by rw [Int.natCast_mul, Int.mul_comm]
      rw [em, w64 (by omega)]
    rw [em]
    refine Evp.neb (fun g => absurd rfl g) fun _ => ?_
    exact Evp.ret (whole15_loop M.length w0 h0 w1 h1 w2 h2 A0 A1 A2 B c0 c1 c2 cc xs ys zs ls n x y w h vx vy k dx dy M2 (hx.pre q2) (hy.pre q2) (hz.pre q2) hwp bn (by omega) (by omega) (by omega) (by omega) t1 t2 o2.rd ll (fun q hq => el q (by omega)) _ 0 rfl (Nat.zero_le _))
  refine Evp.eqb (fun e => Evp.ret (fin 8 (.inl rfl) (by unfold byS; rw [if_pos e]; rfl))) fun e => Evp.ret (fin 16 (.inr rfl) (by unfold byS; rw [if_neg e]; rfl))
end Go.Zt
