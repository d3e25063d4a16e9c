/- The document's answer: a block between samples, whole; that it works at all. -/
import Derived.Test.YtgpobephldelaaaFg
import Derived.Test.YtgpobephldelaaaArg
set_option linter.unusedVariables false
set_option linter.unusedSimpArgs false
namespace Go.Zt
theorem outL_next (w h : Int) (xs ta td : List Int) (x y : Int) (bw q : Nat) : outL w h xs ta td x y bw q ++ [sampS w h xs ta td x y (q / bw) (q % bw)] = outL w h xs ta td x y bw (q + 1) := by
  unfold outL
  rw [List.range_succ, List.map_append]; rfl
section
variable {lo : Nat} {M0 : Mem} {A : Option Addr} {c : Nat} {xs : List Int} {w h x y : Int} {bw bh : Nat} {ta td : List Int}
theorem rq_loop (hG : Given lo M0 A c xs w h x y bw bh ta td) {Q : Value × Mem → Prop} (bm N q : Nat) (Mr : Mem) (hp0 : Pre M0 Mr) (hN : N = bw * (bh + 7)) (hq : q < bw * bh) (hb : Mr[bm]? = some ⟨.fx, ((List.range N).map (midF w h xs ta x y bw)).map (Value.int .i64)⟩)
    (B : Option Addr) (n cc : Nat) (M : Mem) (hp : Pre Mr M) (hg : Grow Mr M 1 B n ((outL w h xs ta td x y bw q).map (Value.int .u8))) (hc : n ≤ cc)
    (hnext : ∀ (B : Option Addr) (n cc : Nat) (M : Mem), Pre Mr M → Grow Mr M 1 B n ((outL w h xs ta td x y bw (q + 1)).map (Value.int .u8)) → n ≤ cc → Run P T lo F.zoetroperef14_Fetch (zoetroperef14_Fetch.c4084 bw bh (some ⟨bm, 0, none⟩) N N B n cc ((q + 1 : Nat) : Int) (td.getD 0 0) (td.getD 1 0) (td.getD 2 0) (td.getD 3 0) (td.getD 4 0) (td.getD 5 0) (td.getD 6 0) (td.getD 7 0) M) Q) :
    ∀ (d k : Nat), 8 - k = d → k ≤ 8 →
      Run P T lo F.zoetroperef14_Fetch (zoetroperef14_Fetch.c1045652 bw bh (some ⟨bm, 0, none⟩) N N B n cc q (1024 + sumT td (fun k => rowS w h xs ta x y (q / bw + k) (q % bw)) k) k (td.getD 0 0) (td.getD 1 0) (td.getD 2 0) (td.getD 3 0) (td.getD 4 0) (td.getD 5 0) (td.getD 6 0) (td.getD 7 0) M) Q := by
  have hbw := hG.bw
  have hbh := hG.bh
  have hlo := hG.lo
  have hl0 := hp0.len
  have hsum := fun k => sumT_le (B := 32641) hG.td (p := fun k => rowS w h xs ta x y (q / bw + k) (q % bw)) (fun k => rowS_le hG.bx hG.ta x y (q / bw + k) (q % bw)) k
  have hNe : N = bw * bh + 7 * bw := by rw [hN, Nat.mul_add, Nat.mul_comm bw 7]
  have hm : bw * bh ≤ 64 * 64 := Nat.mul_le_mul (by omega) (by omega)
  intro d
  induction d with
  | zero =>
    intro k hd hk
    obtain rfl : k = 8 := by omega
    refine Run.cut (Evp.of_eq (fun k => zoetroperef14_Fetch.p1045652 k ..) ?_)
    refine Evp.dec (fun h => absurd h (by omega)) fun _ => ?_
    rw [shr_eq 11 (by omega)]
    refine Evp.ob (clip_ok ..) ?_
    rintro _ rfl
    simp only [ret_int, ret_bool, ret_flt, ret_slc, ret_str, ret_ptr, ret_agg, ret_tup, ob_some, bb_true, bb_false, List.getElem?_cons_zero, List.getElem?_cons_succ, List.length_cons, List.length_nil, Nat.reduceAdd, Nat.reduceLT]
    have hv : clipS ((1024 + sumT td (fun k => rowS w h xs ta x y (q / bw + k) (q % bw)) 8) / 2 ^ 11) 0 255 = sampS w h xs ta td x y (q / bw) (q % bw) := rfl
    rw [hv, wu8 (sampS_le w h xs ta td x y (q / bw) (q % bw))]
    have hnn : n = q := by have := hg.len; simp [outL] at this; omega
    obtain ⟨s, M', q1, q2, q3, q4, q5, q6⟩ := hg.app (lo := lo) (bytes := 1) (c := cc) (m := 1) (vs := [.int .u8 (sampS w h xs ta td x y (q / bw) (q % bw))]) hp (by omega) (by simp) (by omega) (by omega)
    refine Evp.some q1 ?_
    rw [w64 (by omega)]
    exact Evp.ret (hnext s.a s.n s.c M' q4 (by rw [← outL_next, List.map_append]; exact q2) (q6 hc))
  | succ d ih =>
    intro k hd hk
    refine Run.cut (Evp.of_eq (fun k => zoetroperef14_Fetch.p1045652 k ..) ?_)
    refine Evp.dec (fun _ => ?_) fun h => absurd h (by omega)
    refine Evp.pos (by omega) ?_
    rw [← list8 td hG.td.1]
    refine Evp.some (b := td.getD k 0) (by
      rw [show 0 + ((k : Int)).toNat + 0 = k by omega]
      exact tab_get td k (by rw [hG.td.1]; omega)) ?_
    have hkb : k * bw ≤ 7 * bw := Nat.mul_le_mul_right _ (by omega)
    have e1 : (k : Int) * bw = ((k * bw : Nat) : Int) := by simp
    rw [e1, w64 (x := ((k * bw : Nat) : Int)) (by omega), w64 (x := (q : Int) + ((k * bw : Nat) : Int)) (by omega)]
    refine Evp.pos (by omega) ?_
    rw [show ((q : Int) + ((k * bw : Nat) : Int)).toNat = q + k * bw by omega]
    have hrd := fx_rdI (hp _ _ hb)
    have hNl : ((List.range N).map (midF w h xs ta x y bw)).length = N := by simp
    refine Evp.ldI hrd (by omega) fun _ _ => ?_
    have hv : ((List.range N).map (midF w h xs ta x y bw)).getD (q + k * bw) 0 = rowS w h xs ta x y (q / bw + k) (q % bw) := by
      rw [getD_map_range (by omega)]
      unfold midF
      rw [Nat.add_mul_div_right _ _ (by omega), Nat.add_mul_mod_self_right]
    rw [hv]
    have hrl := rowS_le (w := w) (h := h) hG.bx hG.ta x y (q / bw + k) (q % bw)
    have hm := mul_abs (hG.td.2 k) (B := 32641) hrl
    have hsk := hsum k
    rw [w64 (x := td.getD k 0 * rowS w h xs ta x y (q / bw + k) (q % bw)) (by omega), w64 (by omega), w64 (x := (k : Int) + 1) (by omega)]
    have := ih (k + 1) (by omega) (by omega)
    simp only [sumT, ← Int.add_assoc] at this
    exact Evp.ret this
theorem rqs_loop (hG : Given lo M0 A c xs w h x y bw bh ta td) (bm N : Nat) (Mr : Mem) (hp0 : Pre M0 Mr) (hN : N = bw * (bh + 7)) (hb : Mr[bm]? = some ⟨.fx, ((List.range N).map (midF w h xs ta x y bw)).map (Value.int .i64)⟩) :
    ∀ (d q : Nat) (B : Option Addr) (n cc : Nat) (M : Mem), bw * bh - q = d → q ≤ bw * bh → Pre Mr M → Grow Mr M 1 B n ((outL w h xs ta td x y bw q).map (Value.int .u8)) → n ≤ cc →
      Run P T lo F.zoetroperef14_Fetch (zoetroperef14_Fetch.c4084 bw bh (some ⟨bm, 0, none⟩) N N B n cc q (td.getD 0 0) (td.getD 1 0) (td.getD 2 0) (td.getD 3 0) (td.getD 4 0) (td.getD 5 0) (td.getD 6 0) (td.getD 7 0) M) fun r =>
        ∃ B' cc' M', r = (.tuple ⟨[.slice B' (outL w h xs ta td x y bw (bw * bh)).length cc', .int .i64 0]⟩, M') ∧ Pre Mr M' ∧ (outL w h xs ta td x y bw (bw * bh)).length ≤ cc' ∧ Grow Mr M' 1 B' (outL w h xs ta td x y bw (bw * bh)).length ((outL w h xs ta td x y bw (bw * bh)).map (Value.int .u8)) := by
  have hbw := hG.bw
  have hbh := hG.bh
  have hm : bw * bh ≤ 64 * 64 := Nat.mul_le_mul (by omega) (by omega)
  have e1 : (bw : Int) * bh = ((bw * bh : Nat) : Int) := by simp
  intro d
  induction d with
  | zero =>
    intro q B n cc M hd hq hp hg hc
    obtain rfl : q = bw * bh := by omega
    refine Run.cut (Evp.of_eq (fun k => zoetroperef14_Fetch.p4084 k ..) ?_)
    rw [e1, w64 (by omega)]
    refine Evp.dec (fun h => absurd h (by omega)) fun _ => ?_
    have hnn : n = (outL w h xs ta td x y bw (bw * bh)).length := by have := hg.len; simp at this; omega
    rw [hnn] at hg hc ⊢
    exact Evp.ret (Run.ret ⟨B, cc, M, rfl, hp, hc, hg⟩)
  | succ d ih =>
    intro q B n cc M hd hq hp hg hc
    refine Run.cut (Evp.of_eq (fun k => zoetroperef14_Fetch.p4084 k ..) ?_)
    rw [e1, w64 (by omega)]
    refine Evp.dec (fun _ => ?_) fun h => absurd h (by omega)
    have := rq_loop hG bm N q Mr hp0 hN (by omega) hb B n cc M hp hg hc (fun B n cc M h1 h2 h3 => ih (q + 1) B n cc M (by omega) (by omega) h1 h2 h3) 8 0 rfl (by omega)
    exact Evp.ret this
end
theorem rfetch_ok (lo : Nat) (w h : Int) (A : Option Addr) (c : Nat) (xs : List Int) (x y bw bh kind : Int) (M : Mem) (hx : RdI M .u8 A xs) (bx : Bytes xs) (hc : xs.length ≤ c) (hlo : lo ≤ M.length) :
    Ac P T lo F.zoetroperef14_Fetch [.agg ⟨[.int .i64 w, .int .i64 h, .slice A xs.length c]⟩, .int .i64 x, .int .i64 y, .int .i64 bw, .int .i64 bh, .int .i64 kind] M (FetchR M w h xs x y bw bh kind) := by
  refine Ac.of (Evp.of_eq (fun k => zoetroperef14_Fetch.entry k ..) ?_)
  refine Evp.ob (rcheck_ok ..) ?_
  rintro _ rfl
  simp only [ret_int, ret_bool, ret_flt, ret_slc, ret_str, ret_ptr, ret_agg, ret_tup, ob_some, bb_true, bb_false, List.getElem?_cons_zero, List.getElem?_cons_succ, List.length_cons, List.length_nil, Nat.reduceAdd, Nat.reduceLT]
  have bad : ¬ FetchOk w h xs.length x y bw bh kind → FetchR M w h xs x y bw bh kind (.tuple ⟨[.slice none 0 0, .int .i64 2]⟩, M) := fun hn => ⟨Pre.refl _, by rw [if_neg hn]⟩
  refine Evp.neb (fun h1 => Evp.ret (Run.ret (bad fun e => h1 e.1))) fun h1 => ?_
  refine Evp.dec (fun h => Evp.ret (Run.ret (bad fun e => by have := e.2; omega))) fun h2 => ?_
  refine Evp.dec (fun h => Evp.ret (Run.ret (bad fun e => by have := e.2; omega))) fun h3 => ?_
  refine Evp.dec (fun h => Evp.ret (Run.ret (bad fun e => by have := e.2; omega))) fun h4 => ?_
  refine Evp.dec (fun h => Evp.ret (Run.ret (bad fun e => by have := e.2; omega))) fun h5 => ?_
  refine Evp.dec (fun h => Evp.ret (Run.ret (bad fun e => by have := e.2; omega))) fun h6 => ?_
  refine Evp.dec (fun h => Evp.ret (Run.ret (bad fun e => by have := e.2; omega))) fun h7 => ?_
  refine Evp.dec (fun h => Evp.ret (Run.ret (bad fun e => by have := e.2; omega))) fun h8 => ?_
  refine Evp.dec (fun h => Evp.ret (Run.ret (bad fun e => by have := e.2; omega))) fun h9 => ?_
  refine Evp.dec (fun h => Evp.ret (Run.ret (bad fun e => by have := e.2; omega))) fun h10 => ?_
  refine Evp.dec (fun h => Evp.ret (Run.ret (bad fun e => by have := e.2; omega))) fun h11 => ?_
  have a15 : ∀ z : Int, andI .i64 z 15 = z % 16 := fun z => and_mask (x := z) 4 (by omega)
  rw [a15, a15]
  refine Evp.ob (rtaps_ok ..) ?_
  rintro _ rfl
  rw [list8 _ (tapsS_len _ _)]
  simp only [ret_int, ret_bool, ret_flt, ret_slc, ret_str, ret_ptr, ret_agg, ret_tup, ob_some, bb_true, bb_false, List.getElem?_cons_zero, List.getElem?_cons_succ, List.length_cons, List.length_nil, Nat.reduceAdd, Nat.reduceLT]
  refine Evp.ob (rtaps_ok ..) ?_
  rintro _ rfl
  rw [list8 _ (tapsS_len kind (y % 16))]
  simp only [ret_int, ret_bool, ret_flt, ret_slc, ret_str, ret_ptr, ret_agg, ret_tup, ob_some, bb_true, bb_false, List.getElem?_cons_zero, List.getElem?_cons_succ, List.length_cons, List.length_nil, Nat.reduceAdd, Nat.reduceLT]
  have hsz : 1 ≤ w ∧ w ≤ 512 ∧ 1 ≤ h ∧ h ≤ 512 ∧ (xs.length : Int) = w * h := by
    unfold checkS at h1; split at h1
    · assumption
    · omega
  have hG : Given lo M A c xs w h x y bw.toNat bh.toNat (tapsS kind (x % 16)) (tapsS kind (y % 16)) :=
    ⟨hx, bx, ⟨hsz.1, hsz.2.1, hsz.2.2.1, hsz.2.2.2.1⟩, hsz.2.2.2.2, hc, by omega, by omega, by omega, by omega, tapsS_ok _ _, tapsS_ok _ _, hlo⟩
  have ebw : ((bw.toNat : Nat) : Int) = bw := by omega
  have ebh : ((bh.toNat : Nat) : Int) = bh := by omega
  have hN : bw * (bh + 7) = ((bw.toNat * (bh.toNat + 7) : Nat) : Int) := by rw [Int.natCast_mul, Int.natCast_add, ebw, ebh]; rfl
  have hNs : bw.toNat * (bh.toNat + 7) ≤ 64 * 71 := Nat.mul_le_mul (by omega) (by omega)
  rw [w64 (x := bh + 7) (by omega), w64 (by omega), hN, Int.toNat_natCast]
  refine Evp.pos ⟨by omega, by show bw.toNat * (bh.toNat + 7) * 8 ≤ 140737488355328; omega⟩ ?_
  have p1 := Pre.app M [⟨.fx, zerosL [.int .i64 0] (bw.toNat * (bh.toNat + 7))⟩]
  have fin := rj_loop hG (Q := FetchR M w h xs x y bw bh kind) M.length (bw.toNat * (bh.toNat + 7)) _ p1 rfl (Nat.le_refl _) (fun M' hk hb => by
    have hpm := hk.pre p1 (Nat.le_refl _)
    refine (rqs_loop hG M.length _ M' hpm rfl hb (bw.toNat * bh.toNat) 0 none 0 0 M' (by omega) (by omega) (Pre.refl _) Grow.nil (Nat.le_refl _)).mono ?_
    rintro _ ⟨B, cc, M'', rfl, g1, g2, g3⟩
    refine ⟨hpm.trans g1, ?_⟩
    rw [if_pos ⟨h1, by omega, by omega, by omega, by omega, by omega, by omega, by omega, by omega, by omega, by omega⟩, fetchS_eq, Nat.mul_comm bh.toNat]
    refine ⟨B, cc, rfl, g2, g3.len, ?_⟩
    rcases g3.at_ with g4 | ⟨b, g4, g5, g6⟩
    · exact .inl g4
    · exact .inr ⟨b, g4, by have := hpm.len; omega, g6⟩) (bh.toNat + 7) 0 _ rfl (by omega) (KeepB.refl _ _) (by rw [Nat.zero_mul, fillL8_zero]; exact push_self _ _)
  rw [ebw, ebh] at fin
  exact Evp.ret fin
end Go.Zt
