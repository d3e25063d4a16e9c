/- A block between samples: all rows, then what is handed back. -/
import Derived.Test.YtgpobephldelaaaFd
set_option linter.unusedVariables false
set_option linter.unusedSimpArgs false
namespace Go.Zt
section
variable {lo : Nat} {M0 : Mem} {A : Option Addr} {c : Nat} {xs : List Int} {w h x y : Int} {bw bh : Nat} {ta td : List Int} {p0 b3 bt b11 bd b8 br : Nat}
def rowL (w h : Int) (xs ta : List Int) (x y : Int) (bw j : Nat) : List Int := (List.range bw).map fun i => rowS w h xs ta x y j i
/-- Rows up to one are there. -/
structure RowsAt (w h : Int) (xs ta : List Int) (x y : Int) (bw bh br j : Nat) (rows : List Value) (M : Mem) : Prop where
  blk : M[br]? = some ⟨.fx, rows⟩
  len : rows.length = bh + 7
  row : ∀ q, q < j → ∃ b, rows[q]? = some (.slice (some ⟨b, 0, none⟩) bw bw) ∧ b ≠ br ∧ M[b]? = some ⟨.fx, (rowL w h xs ta x y bw q).map (Value.int .i64)⟩

theorem rows_loop (hG : Given lo M0 A c xs w h x y bw bh ta td) {Q : Value × Mem → Prop} {v7 : Value} (hbr : M0.length ≤ br) (n1 : p0 ≠ br) (n2 : b3 ≠ br) (n3 : bt ≠ br) (m1 : b11 ≠ br) (m2 : bd ≠ br) (n4 : b8 ≠ br)
    (hend : ∀ rows M', Base M0 A c xs w h bh ta td p0 b3 bt b11 bd b8 br M' → RowsAt w h xs ta x y bw bh br (bh + 7) rows M' →
      Run P T lo F.subpel_Fetch (subpel_Fetch.c16372 bw v7 ⟨b8, 0, none⟩ (some ⟨M'.length, 0, some 0⟩) 0 0 bh 0 (M' ++ [⟨.op 1, []⟩])) Q)
    : ∀ (d j : Nat) (rows : List Value) (M : Mem), bh + 7 - j = d → j ≤ bh + 7 → Base M0 A c xs w h bh ta td p0 b3 bt b11 bd b8 br M → RowsAt w h xs ta x y bw bh br j rows M →
      Run P T lo F.subpel_Fetch (subpel_Fetch.c4084 x y bw bh ⟨p0, 0, none⟩ (v6S b3 bt) v7 ⟨b8, 0, none⟩ ((bh + 7 : Nat) : Int) j M) Q := by
  have hs := hG.size
  have hx := hG.x
  have hy := hG.y
  have hbw := hG.bw
  have hbh := hG.bh
  have hlo := hG.lo
  intro d
  induction d with
  | zero =>
    intro j rows M hd hj hB hR
    obtain rfl : j = bh + 7 := by omega
    refine Run.cut (Evp.of_eq (fun k => subpel_Fetch.p4084 k ..) ?_)
    refine Evp.dec (fun h => absurd h (by omega)) fun _ => ?_
    have hm : ((bw : Int) * bh) ≤ 64 * 64 := Int.mul_le_mul (by omega) (by omega) (by omega) (by omega)
    have hm0 : 0 ≤ ((bw : Int) * bh) := Int.mul_nonneg (by omega) (by omega)
    rw [w64 (by omega)]
    refine Evp.pos ⟨hm0, ?_⟩ (Evp.ret (hend rows M hB hR))
    show ((bw : Int) * bh).toNat * 1 ≤ 140737488355328
    omega
  | succ d ih =>
    intro j rows M hd hj hB hR
    refine Run.cut (Evp.of_eq (fun k => subpel_Fetch.p4084 k ..) ?_)
    refine Evp.dec (fun _ => ?_) fun h => absurd h (by omega)
    have bp := lt_of_get hB.p
    refine Evp.some (b := ⟨A, xs.length, c⟩) (by rw [if_pos (by rw [plus_eq]; exact bp), fx_ldp hB.p]; rfl) ?_
    refine Evp.some (b := h) (by rw [if_pos (by rw [plus_eq]; exact bp), fx_ldp hB.p]; rfl) ?_
    refine Evp.some (b := w) (by rw [if_pos bp, fx_ld hB.p]; rfl) ?_
    rw [shr_eq 4 (by omega), w64 (x := y / 2 ^ 4 + j) (by omega), w64 (x := y / 2 ^ 4 + j - 3) (by omega), w64 (x := h - 1) (by omega), minmax_clip (by omega)]
    have hcl := clipS_le (v := y / 2 ^ 4 + j - 3) (a := 0) (b := h - 1) (by omega)
    have hm1 : clipS (y / 2 ^ 4 + j - 3) 0 (h - 1) * w ≤ (h - 1) * w := Int.mul_le_mul_of_nonneg_right hcl.2 (by omega)
    have hm2 : (h - 1) * w = w * h - w := by rw [Int.sub_mul, Int.mul_comm h w]; omega
    have hm0 : 0 ≤ clipS (y / 2 ^ 4 + j - 3) 0 (h - 1) * w := Int.mul_nonneg hcl.1 (by omega)
    have hn := hG.n
    have hcap := hG.cap
    have har := area (w := w) (h := h) hs
    rw [w64 (x := clipS (y / 2 ^ 4 + j - 3) 0 (h - 1) * w) (by omega)]
    obtain ⟨o, ho⟩ : ∃ o : Nat, (o : Int) = clipS (y / 2 ^ 4 + j - 3) 0 (h - 1) * w := ⟨(clipS (y / 2 ^ 4 + j - 3) 0 (h - 1) * w).toNat, by omega⟩
    rw [← ho]
    refine Evp.pos (by first | omega | (simp only; omega)) ?_
    refine Evp.some (b := w) (by rw [if_pos bp, fx_ld hB.p]; rfl) ?_
    simp only [Int.toNat_natCast]
    refine Evp.pos (by omega) ?_
    have e0 : ∀ (B : Option Addr) (q : Nat), slAddr 1 B 0 q = B := fun B q => by
      unfold slAddr; split
      · rfl
      · cases B <;> rfl
    rw [e0, Nat.sub_zero]
    refine Evp.some (push_st (by have := hB.pre.len; omega) rfl) ?_
    have g8 := get_push (x := ⟨.fx, [.slice (slAddr 1 A o c) w.toNat (c - o - 0)]⟩) hB.r8
    have gr := get_push (x := ⟨.fx, [.slice (slAddr 1 A o c) w.toNat (c - o - 0)]⟩) hR.blk
    refine Evp.some (b := ⟨some ⟨br, 0, none⟩, bh + 7, bh + 7⟩) (by rw [if_pos (lt_of_get g8), fx_ld g8]; rfl) ?_
    refine Evp.pos ⟨by omega, by show bw * 8 ≤ 140737488355328; omega⟩ ?_
    refine Evp.pos (by first | omega | (simp only; omega)) (Evp.some rfl ?_)
    have gr2 := get_push (x := ⟨.fx, zerosL [.int .i64 0] bw⟩) gr
    refine Evp.some (fx_st gr2 (by omega) (by rw [hR.len]; omega)) ?_
    have lM := Nat.lt_of_lt_of_le (lt_of_get hB.r8) (Nat.le_refl _)
    have lr := lt_of_get hR.blk
    have hkb : KeepB br M (((M ++ [⟨.fx, [.slice (slAddr 1 A o c) w.toNat (c - o - 0)]⟩]) ++ [⟨.fx, zerosL [.int .i64 0] bw⟩] : Mem).set br ⟨.fx, rows.set j (.slice (some ⟨(M ++ [⟨.fx, [.slice (slAddr 1 A o c) w.toNat (c - o - 0)]⟩] : Mem).length, 0, none⟩) bw bw)⟩) :=
      (((Pre.app _ _).trans (Pre.app _ _)).keepB _).trans (KeepB.set _ _ _)
    have hB2 := hB.mono hkb hbr n1 n2 n3 m1 m2 n4
    have gr3 : (((M ++ [⟨.fx, [.slice (slAddr 1 A o c) w.toNat (c - o - 0)]⟩]) ++ [⟨.fx, zerosL [.int .i64 0] bw⟩] : Mem).set br ⟨.fx, rows.set j (.slice (some ⟨(M ++ [⟨.fx, [.slice (slAddr 1 A o c) w.toNat (c - o - 0)]⟩] : Mem).length, 0, none⟩) bw bw)⟩)[br]? = some ⟨.fx, rows.set j (.slice (some ⟨(M ++ [⟨.fx, [.slice (slAddr 1 A o c) w.toNat (c - o - 0)]⟩] : Mem).length, 0, none⟩) bw bw)⟩ := set_self (by simp; omega)
    have hbk : (M ++ [⟨.fx, [.slice (slAddr 1 A o c) w.toNat (c - o - 0)]⟩] : Mem).length = M.length + 1 := by simp
    have gk : (((M ++ [⟨.fx, [.slice (slAddr 1 A o c) w.toNat (c - o - 0)]⟩]) ++ [⟨.fx, zerosL [.int .i64 0] bw⟩] : Mem).set br ⟨.fx, rows.set j (.slice (some ⟨(M ++ [⟨.fx, [.slice (slAddr 1 A o c) w.toNat (c - o - 0)]⟩] : Mem).length, 0, none⟩) bw bw)⟩)[M.length + 1]? = some ⟨.fx, zerosL [.int .i64 0] bw⟩ := by
      rw [List.getElem?_set_ne (by omega), ← hbk]; exact push_self _ _
    have gl : (((M ++ [⟨.fx, [.slice (slAddr 1 A o c) w.toNat (c - o - 0)]⟩]) ++ [⟨.fx, zerosL [.int .i64 0] bw⟩] : Mem).set br ⟨.fx, rows.set j (.slice (some ⟨(M ++ [⟨.fx, [.slice (slAddr 1 A o c) w.toNat (c - o - 0)]⟩] : Mem).length, 0, none⟩) bw bw)⟩)[M.length]? = some ⟨.fx, [.slice (slAddr 1 A o c) w.toNat (c - o - 0)]⟩ := by
      rw [List.getElem?_set_ne (by omega)]; exact get_push (push_self _ _)
    rw [hbk] at hB2 gr3 gk gl hkb ⊢
    generalize hM58 : (((M ++ [⟨.fx, [.slice (slAddr 1 A o c) w.toNat (c - o - 0)]⟩]) ++ [⟨.fx, zerosL [.int .i64 0] bw⟩] : Mem).set br ⟨.fx, rows.set j (.slice (some ⟨M.length + 1, 0, none⟩) bw bw)⟩) = M58 at hB2 gr3 gk gl hkb ⊢
    refine Evp.some (b := ⟨some ⟨br, 0, none⟩, bh + 7, bh + 7⟩) (by rw [fx_ld hB2.r8]; rfl) ?_
    refine Evp.pos (by first | omega | (simp only; omega)) (Evp.some rfl ?_)
    have hrow : (rows.set j (.slice (some ⟨M.length + 1, 0, none⟩) bw bw))[j]? = some (.slice (some ⟨M.length + 1, 0, none⟩) bw bw) := List.getElem?_set_self (by rw [hR.len]; omega)
    refine Evp.some (b := ⟨some ⟨M.length + 1, 0, none⟩, bw, bw⟩) (by rw [fx_ldp gr3, hrow]; rfl) ?_
    have l0 := hB.pre.len
    have lp := lt_of_get hB.p
    have l3 := lt_of_get hB.n3
    have lt := lt_of_get hB.t
    have l11 := lt_of_get hB.n11
    have ld := lt_of_get hB.d
    refine Evp.ret (row_loop hG j o (c - o - 0) M.length (M.length + 1) _ M58 ho (by omega) hB2 gr3 hrow gl (by omega) (by omega) (by omega) (by omega) (by omega) (by omega) (by omega) (by omega) (by omega) (fun M' hk hfull => ?_) bw 0 M58 rfl (by omega) (KeepB.refl _ _) (by rw [fillL8_zero]; exact gk))
    refine ih (j + 1) (rows.set j (.slice (some ⟨M.length + 1, 0, none⟩) bw bw)) M' (by omega) (by omega) (hB2.mono hk (by omega) (by omega) (by omega) (by omega) (by omega) (by omega) (by omega)) ⟨hk _ _ gr3 (by omega), by simp [hR.len], fun q hq => ?_⟩
    by_cases hqj : q = j
    · subst hqj
      exact ⟨M.length + 1, hrow, by omega, hfull⟩
    · obtain ⟨b, q1, q2, q3⟩ := hR.row q (by omega)
      have lb := lt_of_get q3
      exact ⟨b, by rw [List.getElem?_set_ne (Ne.symm hqj)]; exact q1, q2, hk _ _ (hkb _ _ q3 q2) (by omega)⟩

theorem at2_ok (lo : Nat) (k : Nat) (b8 bj bi : Nat) (rows : List Value) (j i : Nat) (M : Mem) (hR : RowsAt w h xs ta x y bw bh br (bh + 7) rows M) (h8 : M[b8]? = some ⟨.fx, [.slice (some ⟨br, 0, none⟩) (bh + 7) (bh + 7)]⟩) (hj : M[bj]? = some ⟨.fx, [.int .i64 j]⟩) (hi : M[bi]? = some ⟨.fx, [.int .i64 i]⟩)
    (h1 : j < bh) (h2 : i < bw) (hk : k < 8) (hb : bh ≤ 64) :
    Ac P T lo F.subpel_Fetch_2 ([] ++ [.int .i64 k] ++ [.pointer (some ⟨b8, 0, none⟩), .pointer (some ⟨bj, 0, none⟩), .pointer (some ⟨bi, 0, none⟩)]) M fun r => r = (.int .i64 (rowS w h xs ta x y (j + k) i), M) := by
  show Ac P T lo F.subpel_Fetch_2 [.int .i64 k, .pointer (some ⟨b8, 0, none⟩), .pointer (some ⟨bj, 0, none⟩), .pointer (some ⟨bi, 0, none⟩)] M _
  refine Ac.of (Evp.of_eq (fun k => subpel_Fetch_2.entry k ..) ?_)
  refine Evp.some (b := ⟨some ⟨br, 0, none⟩, bh + 7, bh + 7⟩) (by rw [fx_ld h8]; rfl) ?_
  refine Evp.some (b := (j : Int)) (by rw [fx_ld hj]; rfl) ?_
  rw [w64 (x := (j : Int) + k) (by omega)]
  refine Evp.pos (by first | omega | (simp only; omega)) (Evp.some rfl ?_)
  obtain ⟨b, q1, q2, q3⟩ := hR.row (j + k) (by omega)
  rw [show ((j : Int) + k).toNat = j + k by omega]
  refine Evp.some (b := ⟨some ⟨b, 0, none⟩, bw, bw⟩) (by rw [fx_ldp hR.blk, q1]; rfl) ?_
  refine Evp.some (b := (i : Int)) (by rw [fx_ld hi]; rfl) ?_
  refine Evp.pos (by first | omega | (simp only; omega)) (Evp.some rfl ?_)
  simp only [Int.toNat_natCast]
  refine Evp.some (b := rowS w h xs ta x y (j + k) i) (by
    rw [fx_ldp q3]
    have := tab_get (k := .i64) (rowL w h xs ta x y bw (j + k)) i (by simpa [rowL] using h2)
    rw [this]
    unfold rowL
    rw [getD_map_range h2]) ?_
  exact Evp.ret (Run.ret rfl)

def outL (w h : Int) (xs ta td : List Int) (x y : Int) (bw n : Nat) : List Int := (List.range n).map fun q => sampS w h xs ta td x y (q / bw) (q % bw)
theorem outL_succ (w h : Int) (xs ta td : List Int) (x y : Int) (bw j i : Nat) (hi : i < bw) : outL w h xs ta td x y bw (j * bw + i) ++ [sampS w h xs ta td x y j i] = outL w h xs ta td x y bw (j * bw + i + 1) := by
  unfold outL
  rw [List.range_succ, List.map_append]
  have h1 : (j * bw + i) / bw = j := by rw [Nat.mul_comm, Nat.mul_add_div (by omega), Nat.div_eq_of_lt hi]; omega
  have h2 : (j * bw + i) % bw = i := by rw [Nat.mul_comm, Nat.mul_add_mod, Nat.mod_eq_of_lt hi]
  simp [h1, h2]

theorem out_loop (hG : Given lo M0 A c xs w h x y bw bh ta td) {Q : Value × Mem → Prop} (rows : List Value) (Mr : Mem) (hB : Base M0 A c xs w h bh ta td p0 b3 bt b11 bd b8 br Mr) (hR : RowsAt w h xs ta x y bw bh br (bh + 7) rows Mr) (j bj : Nat) (hj : j < bh) (hbj : Mr.length ≤ bj)
    (hnext : ∀ (B : Option Addr) (n cc : Nat) (M : Mem), Pre Mr M → Grow Mr M 1 B n ((outL w h xs ta td x y bw ((j + 1) * bw)).map (Value.int .u8)) → n ≤ cc → Run P T lo F.subpel_Fetch (subpel_Fetch.c16372 bw (v6S b11 bd) ⟨b8, 0, none⟩ B n cc bh ((j + 1 : Nat) : Int) M) Q) :
    ∀ (d i : Nat) (B : Option Addr) (n cc : Nat) (M : Mem), bw - i = d → i ≤ bw → Pre Mr M → M[bj]? = some ⟨.fx, [.int .i64 j]⟩ → Grow Mr M 1 B n ((outL w h xs ta td x y bw (j * bw + i)).map (Value.int .u8)) → n ≤ cc →
      Run P T lo F.subpel_Fetch (subpel_Fetch.c4191436 bw (v6S b11 bd) ⟨b8, 0, none⟩ B n cc ⟨bj, 0, none⟩ bh j bw i M) Q := by
  have hbw := hG.bw
  have hbh := hG.bh
  have hlo := hG.lo
  have hl0 := hB.pre.len
  intro d
  induction d with
  | zero =>
    intro i B n cc M hd hi hp hbx hg hc
    obtain rfl : i = bw := by omega
    refine Run.cut (Evp.of_eq (fun k => subpel_Fetch.p4191436 k ..) ?_)
    refine Evp.dec (fun h => absurd h (by omega)) fun _ => ?_
    rw [w64 (by omega)]
    exact Evp.ret (hnext B n cc M hp (by rw [Nat.add_mul, Nat.one_mul]; exact hg) hc)
  | succ d ih =>
    intro i B n cc M hd hi hp hbx hg hc
    refine Run.cut (Evp.of_eq (fun k => subpel_Fetch.p4191436 k ..) ?_)
    refine Evp.dec (fun _ => ?_) fun h => absurd h (by omega)
    have hl1 := hp.len
    refine Evp.some (push_st (by omega) rfl) ?_
    have pp := Pre.app M [⟨.fx, [.int .i64 (i : Int)]⟩]
    have hpp := hp.trans pp
    refine Evp.some (b := (F.subpel_sum_1, [], [.pointer (some ⟨b11, 0, none⟩), .pointer (some ⟨bd, 0, none⟩)])) rfl ?_
    have g11 := hpp _ _ hB.n11
    have gd := hpp _ _ hB.d
    have g8 := hpp _ _ hB.r8
    have hR2 : RowsAt w h xs ta x y bw bh br (bh + 7) rows (M ++ [⟨.fx, [.int .i64 (i : Int)]⟩]) := ⟨hpp _ _ hR.blk, hR.len, fun q hq => let ⟨b, q1, q2, q3⟩ := hR.row q hq; ⟨b, q1, q2, hpp _ _ q3⟩⟩
    have call := sum1_ok lo F.subpel_Fetch_2 [.pointer (some ⟨b8, 0, none⟩), .pointer (some ⟨bj, 0, none⟩), .pointer (some ⟨M.length, 0, none⟩)] ⟨b11, 0, none⟩ ⟨bd, 0, none⟩ 11 td
      (fun k => rowS w h xs ta x y (j + k) i) (M ++ [⟨.fx, [.int .i64 (i : Int)]⟩]) 32641
      (by rw [fx_ld g11]; rfl) (fun q hq => by
        rw [fx_ldp gd, List.getElem?_map, List.getElem?_eq_getElem (by rw [hG.td.1]; exact hq)]
        simp [List.getD_eq_getElem?_getD, List.getElem?_eq_getElem (show q < td.length by rw [hG.td.1]; exact hq)]) hG.td (by omega) (by omega) (fun k => rowS_le hG.bx hG.ta x y (j + k) i)
      (fun k hk8 => at2_ok lo k b8 bj M.length rows j i _ hR2 g8 (pp _ _ hbx) (push_self _ _) hj (by omega) hk8 hbh.2)
    refine Evp.ob call ?_
    rintro _ rfl
    simp only [ret_int, ret_bool, ret_flt, ret_slc, ret_str, ret_ptr, ret_agg, ret_tup, ob_some, bb_true, bb_false, List.getElem?_cons_zero, List.getElem?_cons_succ, List.length_cons, List.length_nil, Nat.reduceAdd, Nat.reduceLT]
    rw [minmax_clip (by decide)]
    have hv : clipS ((2 ^ (11 - 1) + sumT td (fun k => rowS w h xs ta x y (j + k) i) 8) / 2 ^ 11) 0 255 = sampS w h xs ta td x y j i := rfl
    rw [hv]
    have hsm := sampS_le w h xs ta td x y j i
    rw [wu8 hsm]
    have hol : (outL w h xs ta td x y bw (j * bw + i)).length = j * bw + i := by simp [outL]
    have hnn : n = j * bw + i := by have := hg.len; simp [hol] at this; omega
    have hm : j * bw ≤ 64 * 64 := Nat.mul_le_mul (by omega) (by omega)
    obtain ⟨s, M', q1, q2, q3, q4, q5, q6⟩ := (hg.pre pp).app (lo := lo) (bytes := 1) (c := cc) (m := 1) (vs := [.int .u8 (sampS w h xs ta td x y j i)]) hpp (by omega) (by simp) (by omega) (by omega)
    refine Evp.some q1 ?_
    rw [w64 (by omega)]
    refine Evp.ret (ih (i + 1) s.a s.n s.c M' (by omega) (by omega) q4 (q5 _ _ (pp _ _ hbx) fun a ha hab => ?_) ?_ (q6 hc))
    · rcases hg.at_ with ⟨h1, _⟩ | ⟨b, h1, _, h3⟩
      · rw [h1] at ha; cases ha
      · rw [h1] at ha; injection ha with ha
        subst ha
        simp only at hab
        subst hab
        rw [hbx] at h3
        injection h3 with h3; injection h3 with h3; cases h3
    · have := outL_succ w h xs ta td x y bw j i (by omega)
      rw [← Nat.add_assoc, ← this, List.map_append]; exact q2

theorem outs_loop (hG : Given lo M0 A c xs w h x y bw bh ta td) (rows : List Value) (Mr : Mem) (hB : Base M0 A c xs w h bh ta td p0 b3 bt b11 bd b8 br Mr) (hR : RowsAt w h xs ta x y bw bh br (bh + 7) rows Mr) :
    ∀ (d j : Nat) (B : Option Addr) (n cc : Nat) (M : Mem), bh - j = d → j ≤ bh → Pre Mr M → Grow Mr M 1 B n ((outL w h xs ta td x y bw (j * bw)).map (Value.int .u8)) → n ≤ cc →
      Run P T lo F.subpel_Fetch (subpel_Fetch.c16372 bw (v6S b11 bd) ⟨b8, 0, none⟩ B n cc bh j M) fun r => ∃ B' cc' M', r = (.tuple ⟨[.slice B' (outL w h xs ta td x y bw (bh * bw)).length cc', .int .i64 0]⟩, M') ∧ Pre Mr M' ∧ (outL w h xs ta td x y bw (bh * bw)).length ≤ cc' ∧ Grow Mr M' 1 B' (outL w h xs ta td x y bw (bh * bw)).length ((outL w h xs ta td x y bw (bh * bw)).map (Value.int .u8)) := by
  have hbw := hG.bw
  have hbh := hG.bh
  have hlo := hG.lo
  have hl0 := hB.pre.len
  intro d
  induction d with
  | zero =>
    intro j B n cc M hd hj hp hg hc
    obtain rfl : j = bh := by omega
    refine Run.cut (Evp.of_eq (fun k => subpel_Fetch.p16372 k ..) ?_)
    refine Evp.dec (fun h => absurd h (by omega)) fun _ => ?_
    have hnn : n = (outL w h xs ta td x y bw (j * bw)).length := by have := hg.len; simp at this; omega
    rw [hnn] at hg hc ⊢
    exact Evp.ret (Run.ret ⟨B, cc, M, rfl, hp, hc, hg⟩)
  | succ d ih =>
    intro j B n cc M hd hj hp hg hc
    refine Run.cut (Evp.of_eq (fun k => subpel_Fetch.p16372 k ..) ?_)
    refine Evp.dec (fun _ => ?_) fun h => absurd h (by omega)
    refine Evp.some (push_st (by have := hp.len; omega) rfl) ?_
    exact Evp.ret (out_loop hG rows Mr hB hR j M.length (by omega) hp.len (fun B n cc M hp hg hc => ih (j + 1) B n cc M (by omega) (by omega) hp hg hc) bw 0 B n cc _ rfl (by omega) (hp.push _) (push_self _ _) (hg.pre (Pre.app _ _)) hc)
end
end Go.Zt
