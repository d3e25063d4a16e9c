/- A block between samples: the loops. -/
import Derived.Test.YtgpobephldelaaaFc
set_option linter.unusedVariables false
set_option linter.unusedSimpArgs false
namespace Go.Zt
theorem zerosL_one (v : Value) (n : Nat) : zerosL [v] n = List.replicate n v := by
  unfold zerosL
  induction n with
  | zero => rfl
  | succ n ih => rw [List.replicate_succ, List.flatten_cons, ih]; rfl
theorem getD_dt {xs : List Int} {o n i : Nat} (hi : i < n) : ((xs.drop o).take n).getD i 0 = xs.getD (o + i) 0 := by
  simp only [List.getD_eq_getElem?_getD, List.getElem?_take, if_pos hi, List.getElem?_drop]
def fillL8 (f : Nat → Int) (n i : Nat) : List Int := (List.range n).map fun q => if q < i then f q else 0
theorem fillL8_len (f : Nat → Int) (n i : Nat) : (fillL8 f n i).length = n := by simp [fillL8]
theorem fillL8_set (f : Nat → Int) (n i : Nat) (hi : i < n) : (fillL8 f n i).set i (f i) = fillL8 f n (i + 1) := by
  apply ext_getD
  · simp [fillL8]
  · intro q hq
    simp [fillL8_len] at hq
    rw [getD_set (by rw [fillL8_len]; exact hi)]
    unfold fillL8
    rw [getD_map_range hq, getD_map_range hq]
    by_cases h : q = i
    · subst h; rw [if_pos rfl, if_pos (by omega)]
    · rw [if_neg h]
      by_cases h2 : q < i
      · rw [if_pos h2, if_pos (by omega)]
      · rw [if_neg h2, if_neg (by omega)]
theorem fillL8_zero (f : Nat → Int) (n : Nat) : (fillL8 f n 0).map (Value.int .i64) = zerosL [.int .i64 0] n := by
  rw [zerosL_one]
  apply List.ext_getElem
  · simp [fillL8]
  · intro i h1 h2
    simp [fillL8]
theorem fillL8_full (f : Nat → Int) (n : Nat) : fillL8 f n n = (List.range n).map f := by
  apply ext_getD
  · simp [fillL8]
  · intro q hq
    simp [fillL8_len] at hq
    unfold fillL8
    rw [getD_map_range hq, getD_map_range hq, if_pos hq]

section
variable (lo : Nat) (M0 : Mem) (A : Option Addr) (c : Nat) (xs : List Int) (w h x y : Int) (bw bh : Nat) (ta td : List Int) (p0 b3 bt b11 bd b8 br : Nat)
abbrev v6S (b3 bt : Nat) : Value := .func (.func F.subpel_sum_1) ⟨[]⟩ ⟨[.pointer (some ⟨b3, 0, none⟩), .pointer (some ⟨bt, 0, none⟩)]⟩
/-- What stays while rows are made. -/
structure Base (M : Mem) : Prop where
  p : M[p0]? = some ⟨.fx, [.int .i64 w, .int .i64 h, .slice A xs.length c]⟩
  n3 : M[b3]? = some ⟨.fx, [.int .i64 3]⟩
  t : M[bt]? = some ⟨.fx, ta.map (Value.int .i64)⟩
  n11 : M[b11]? = some ⟨.fx, [.int .i64 11]⟩
  d : M[bd]? = some ⟨.fx, td.map (Value.int .i64)⟩
  r8 : M[b8]? = some ⟨.fx, [.slice (some ⟨br, 0, none⟩) (bh + 7) (bh + 7)]⟩
  pre : Pre M0 M
structure Given : Prop where
  rd : RdI M0 .u8 A xs
  bx : Bytes xs
  size : 1 ≤ w ∧ w ≤ 512 ∧ 1 ≤ h ∧ h ≤ 512
  n : (xs.length : Int) = w * h
  cap : xs.length ≤ c
  x : -1048576 ≤ x ∧ x ≤ 1048576
  y : -1048576 ≤ y ∧ y ≤ 1048576
  bw : 4 ≤ bw ∧ bw ≤ 64
  bh : 4 ≤ bh ∧ bh ≤ 64
  ta : Taps8 ta
  td : Taps8 td
  lo : lo ≤ M0.length

variable {lo M0 A c xs w h x y bw bh ta td p0 b3 bt b11 bd b8 br}
theorem Base.mono {M M' : Mem} {b : Nat} (hB : Base M0 A c xs w h bh ta td p0 b3 bt b11 bd b8 br M) (hk : KeepB b M M') (hb : M0.length ≤ b) (h1 : p0 ≠ b) (h2 : b3 ≠ b) (h3 : bt ≠ b) (h5 : b11 ≠ b) (h6 : bd ≠ b) (h4 : b8 ≠ b) : Base M0 A c xs w h bh ta td p0 b3 bt b11 bd b8 br M' :=
  ⟨hk _ _ hB.p h1, hk _ _ hB.n3 h2, hk _ _ hB.t h3, hk _ _ hB.n11 h5, hk _ _ hB.d h6, hk _ _ hB.r8 h4, hk.pre hB.pre hb⟩

theorem row_loop (hG : Given lo M0 A c xs w h x y bw bh ta td) {Q : Value × Mem → Prop} {v7 : Value} (j o : Nat) (cl bl bk : Nat) (rows : List Value) (Mi : Mem)
    (ho : (o : Int) = clipS (y / 16 + j - 3) 0 (h - 1) * w) (hj : j < bh + 7) (hB : Base M0 A c xs w h bh ta td p0 b3 bt b11 bd b8 br Mi) (hbr : Mi[br]? = some ⟨.fx, rows⟩) (hrow : rows[j]? = some (.slice (some ⟨bk, 0, none⟩) bw bw))
    (hline : Mi[bl]? = some ⟨.fx, [.slice (slAddr 1 A o c) w.toNat cl]⟩) (hbk : M0.length ≤ bk) (n1 : p0 ≠ bk) (n2 : b3 ≠ bk) (n3 : bt ≠ bk) (m1 : b11 ≠ bk) (m2 : bd ≠ bk) (n4 : b8 ≠ bk) (n5 : br ≠ bk) (n6 : bl ≠ bk)
    (hnext : ∀ M', KeepB bk Mi M' → M'[bk]? = some ⟨.fx, ((List.range bw).map fun i => rowS w h xs ta x y j i).map (Value.int .i64)⟩ → Run P T lo F.subpel_Fetch (subpel_Fetch.c4084 x y bw bh ⟨p0, 0, none⟩ (v6S b3 bt) v7 ⟨b8, 0, none⟩ ((bh + 7 : Nat) : Int) ((j + 1 : Nat) : Int) M') Q) :
    ∀ (d i : Nat) (M : Mem), bw - i = d → i ≤ bw → KeepB bk Mi M → M[bk]? = some ⟨.fx, (fillL8 (fun i => rowS w h xs ta x y j i) bw i).map (Value.int .i64)⟩ →
      Run P T lo F.subpel_Fetch (subpel_Fetch.c4182844 x y bw bh ⟨p0, 0, none⟩ (v6S b3 bt) v7 ⟨b8, 0, none⟩ j ⟨bl, 0, none⟩ ((bh + 7 : Nat) : Int) j bw i M) Q := by
  have hs := hG.size
  have hx := hG.x
  have hy := hG.y
  have hbw := hG.bw
  have hbh := hG.bh
  have hlo := hG.lo
  intro d
  induction d with
  | zero =>
    intro i M hd hi hk hc
    obtain rfl : i = bw := by omega
    rw [fillL8_full] at hc
    refine Run.cut (Evp.of_eq (fun k => subpel_Fetch.p4182844 k ..) ?_)
    refine Evp.dec (fun h => absurd h (by omega)) fun _ => ?_
    rw [w64 (by omega)]
    exact Evp.ret (hnext M hk hc)
  | succ d ih =>
    intro i M hd hi hk hc
    have hB' := hB.mono hk hbk n1 n2 n3 m1 m2 n4
    refine Run.cut (Evp.of_eq (fun k => subpel_Fetch.p4182844 k ..) ?_)
    refine Evp.dec (fun _ => ?_) fun h => absurd h (by omega)
    rw [shr_eq 4 (by omega), w64 (x := x / 2 ^ 4 + i) (by omega), w64 (x := x / 2 ^ 4 + i - 3) (by omega)]
    refine Evp.some (push_st (by have := hB'.pre.len; omega) rfl) ?_
    have g8 := get_push (x := ⟨.fx, [.int .i64 (x / 2 ^ 4 + i - 3)]⟩) hB'.r8
    have gr := get_push (x := ⟨.fx, [.int .i64 (x / 2 ^ 4 + i - 3)]⟩) (hk _ _ hbr n5)
    have gl := get_push (x := ⟨.fx, [.int .i64 (x / 2 ^ 4 + i - 3)]⟩) (hk _ _ hline n6)
    have gp := get_push (x := ⟨.fx, [.int .i64 (x / 2 ^ 4 + i - 3)]⟩) hB'.p
    have g3 := get_push (x := ⟨.fx, [.int .i64 (x / 2 ^ 4 + i - 3)]⟩) hB'.n3
    have gt := get_push (x := ⟨.fx, [.int .i64 (x / 2 ^ 4 + i - 3)]⟩) hB'.t
    have gk := get_push (x := ⟨.fx, [.int .i64 (x / 2 ^ 4 + i - 3)]⟩) hc
    refine Evp.some (b := ⟨some ⟨br, 0, none⟩, bh + 7, bh + 7⟩) (by rw [if_pos (lt_of_get g8), fx_ld g8]; rfl) ?_
    refine Evp.pos (by first | omega | (simp only; omega)) (Evp.some rfl ?_)
    refine Evp.some (b := ⟨some ⟨bk, 0, none⟩, bw, bw⟩) (by rw [if_pos (by rw [plus_eq]; exact lt_of_get gr), fx_ldp gr, Int.toNat_natCast, hrow]; rfl) ?_
    refine Evp.some (b := (F.subpel_sum_1, [], [.pointer (some ⟨b3, 0, none⟩), .pointer (some ⟨bt, 0, none⟩)])) rfl ?_
    have hp0 := (hB'.pre.push [⟨.fx, [.int .i64 (x / 2 ^ 4 + i - 3)]⟩])
    have oend : o + w.toNat ≤ xs.length := by
      have := clipS_le (v := y / 16 + j - 3) (a := 0) (b := h - 1) (by omega)
      have h1 : clipS (y / 16 + j - 3) 0 (h - 1) * w ≤ (h - 1) * w := Int.mul_le_mul_of_nonneg_right this.2 (by omega)
      have h2 : (h - 1) * w = w * h - w := by rw [Int.sub_mul, Int.mul_comm h w]; omega
      have := hG.n
      omega
    have rl := (hG.rd.slAddr (l := o) (h := o + w.toNat) (c := c) (by omega) oend hG.cap).pre hp0
    rw [show o + w.toNat - o = w.toNat by omega] at rl
    have ll : ((xs.drop o).take w.toNat).length = w.toNat := by simp; omega
    have bl' : Bytes ((xs.drop o).take w.toNat) := fun z hz => hG.bx z (List.mem_of_mem_drop (List.mem_of_mem_take hz))
    have call := sum1_ok (M ++ [⟨.fx, [.int .i64 (x / 2 ^ 4 + i - 3)]⟩] : Mem).length F.subpel_Fetch_1 [.pointer (some ⟨bl, 0, none⟩), .pointer (some ⟨M.length, 0, none⟩), .pointer (some ⟨p0, 0, none⟩)] ⟨b3, 0, none⟩ ⟨bt, 0, none⟩ 3 ta
      (fun k => ((xs.drop o).take w.toNat).getD (clipS (x / 2 ^ 4 + i - 3 + k) 0 (w - 1)).toNat 0) (M ++ [⟨.fx, [.int .i64 (x / 2 ^ 4 + i - 3)]⟩]) 255
      (by rw [fx_ld g3]; rfl) (fun q hq => by
        rw [fx_ldp gt, List.getElem?_map, List.getElem?_eq_getElem (by rw [hG.ta.1]; exact hq)]
        simp [List.getD_eq_getElem?_getD, List.getElem?_eq_getElem (show q < ta.length by rw [hG.ta.1]; exact hq)]) hG.ta (by omega) (by omega) (fun k => by have := bl'.get (clipS (x / 2 ^ 4 + i - 3 + k) 0 (w - 1)).toNat; omega)
      (fun k hk8 => at1_ok _ k ⟨bl, 0, none⟩ ⟨M.length, 0, none⟩ ⟨p0, 0, none⟩ (slAddr 1 A o c) cl _ (x / 2 ^ 4 + i - 3) w _ (by rw [fx_ld gl, ll]; rfl) rl bl' (by rw [fx_ld (push_self _ _)]; rfl) (by rw [fx_ld gp]; rfl) (by rw [ll]; omega) (by omega) (by omega) hk8)
    refine Evp.ob call ?_
    rintro _ rfl
    simp only [ret_int, ret_bool, ret_flt, ret_slc, ret_str, ret_ptr, ret_agg, ret_tup, ob_some, bb_true, bb_false, List.getElem?_cons_zero, List.getElem?_cons_succ, List.length_cons, List.length_nil, Nat.reduceAdd, Nat.reduceLT]
    have hval : (2 ^ (3 - 1) + sumT ta (fun k => ((xs.drop o).take w.toNat).getD (clipS (x / 2 ^ 4 + i - 3 + k) 0 (w - 1)).toNat 0) 8) / 2 ^ 3 = rowS w h xs ta x y j i := by
      unfold rowS
      rw [sumT_congr (q := fun k => pixS w h xs (y / 16 + j - 3) (x / 16 + i + k - 3)) fun k _ => ?_]
      · rfl
      · have hcl := clipS_le (v := x / 2 ^ 4 + i - 3 + k) (a := 0) (b := w - 1) (by omega)
        rw [getD_dt (by omega)]
        unfold pixS
        rw [← ho, show x / 16 + (i : Int) + k - 3 = x / 2 ^ 4 + i - 3 + k by omega]
        congr 1
        omega
    rw [hval]
    refine Evp.pos (by first | omega | (simp only; omega)) (Evp.some rfl ?_)
    simp only [Int.toNat_natCast]
    refine Evp.some (fx_st gk (by omega) (by simp [fillL8_len]; omega)) ?_
    rw [set_map, fillL8_set _ _ _ (by omega), w64 (x := (i : Int) + 1) (by omega)]
    refine Evp.ret (ih (i + 1) _ (by omega) (by omega) ?_ (set_self (lt_of_get gk)))
    exact (hk.trans ((Pre.app _ _).keepB _)).trans (KeepB.set _ _ _)
end
end Go.Zt
