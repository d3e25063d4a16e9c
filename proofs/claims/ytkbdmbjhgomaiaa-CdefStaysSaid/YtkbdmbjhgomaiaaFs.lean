/- What stays of frames; CdefStays. -/
import Derived.Test.YtkbdmbjhgomaiaaFr
set_option linter.unusedVariables false
set_option linter.unusedSimpArgs false
set_option maxRecDepth 100000
namespace Go.Zt
theorem equal_loop (lo : Nat) (A A' : Option Addr) (c c' : Nat) (xs ys : List Int) (M : Mem) (hx : RdI M .u8 A xs) (hy : RdI M .u8 A' ys) (hl : xs.length = ys.length) (hn : xs.length ≤ 140737488351232) :
    ∀ (d i : Nat), xs.length - i = d → i ≤ xs.length → (∀ j, j < i → xs.getD j 0 = ys.getD j 0) → Run P T lo F.slices_Equal__uint8_uint8 (slices_Equal__uint8_uint8.c116 A xs.length c A' ys.length c' xs.length i M) fun r => r = (.bool (decide (xs = ys)), M) := by
  intro d
  induction d with
  | zero =>
    intro i hd hi hj
    refine Run.cut (Evp.of_eq (fun k => slices_Equal__uint8_uint8.p116 k ..) ?_)
    refine Evp.dec (fun h => absurd h (by omega)) fun _ => Evp.ret (Run.ret ?_)
    rw [decide_eq_true (eq_of_getD hl fun j h => hj j (by omega))]
  | succ d ih =>
    intro i hd hi hj
    refine Run.cut (Evp.of_eq (fun k => slices_Equal__uint8_uint8.p116 k ..) ?_)
    refine Evp.dec (fun _ => ?_) fun h => absurd h (by omega)
    refine Evp.pos (by omega) ?_
    simp only [Int.toNat_natCast]
    refine Evp.ldI hx (by omega) fun a _ => ?_
    refine Evp.pos (by omega) ?_
    refine Evp.ldI hy (by omega) fun a' _ => ?_
    refine Evp.neb (fun hne => Evp.ret (Run.ret ?_)) fun he => ?_
    · rw [decide_eq_false (fun e => hne (by rw [e]))]
    · rw [w64 (by omega)]
      exact Evp.ret (ih (i + 1) (by omega) (by omega) fun j h => by
        by_cases hji : j = i
        · subst hji; exact he
        · exact hj j (by omega))
theorem equal_ok (lo : Nat) (A A' : Option Addr) (c c' : Nat) (xs ys : List Int) (M : Mem) (hx : RdI M .u8 A xs) (hy : RdI M .u8 A' ys) (hn : xs.length ≤ 140737488351232) :
    Ac P T lo F.slices_Equal__uint8_uint8 [.slice A xs.length c, .slice A' ys.length c'] M fun r => r = (.bool (decide (xs = ys)), M) := by
  refine Ac.of (Evp.of_eq (fun k => slices_Equal__uint8_uint8.entry k ..) ?_)
  refine Evp.neb (fun h => Evp.ret (Run.ret ?_)) fun h => ?_
  · rw [decide_eq_false (fun e => h (by rw [e]))]
  · exact Evp.ret (equal_loop lo A A' c c' xs ys M hx hy (by omega) hn _ 0 rfl (by omega) fun j h => by omega)

theorem same_ok (lo : Nat) (w h w' h' : Int) (A A' : Option Addr) (c c' : Nat) (xs ys : List Int) (M : Mem) (hx : RdI M .u8 A xs) (hy : RdI M .u8 A' ys) (hn : xs.length ≤ 140737488351232) :
    Ac P T lo F.plane_Same [.agg ⟨[.int .i64 w, .int .i64 h, .slice A xs.length c]⟩, .agg ⟨[.int .i64 w', .int .i64 h', .slice A' ys.length c']⟩] M fun r => r = (.bool (decide (w = w' ∧ h = h' ∧ xs = ys)), M) := by
  refine Ac.of (Evp.of_eq (fun k => plane_Same.entry k ..) ?_)
  refine Evp.eqb (fun h1 => ?_) fun h1 => Evp.ret (Run.ret (by rw [decide_eq_false (fun e => h1 e.1)]))
  refine Evp.eqb (fun h2 => ?_) fun h2 => Evp.ret (Run.ret (by rw [decide_eq_false (fun e => h2 e.2.1)]))
  refine Evp.ob (equal_ok _ _ _ _ _ _ _ _ hx hy hn) ?_
  rintro _ rfl
  simp only [ret_int, ret_bool, ret_flt, ret_slc, ret_str, ret_ptr, ret_agg, ret_tup, ob_some, bb_true, bb_false, List.getElem?_cons_zero, List.getElem?_cons_succ, List.length_cons, List.length_nil, Nat.reduceAdd, Nat.reduceLT]
  refine Evp.ret (Run.ret ?_)
  congr 2
  exact decide_eq_decide.2 (by simp [h1, h2])

def inB (w X Y S q : Nat) : Prop := Y ≤ q / w ∧ q / w < Y + S ∧ X ≤ q % w ∧ q % w < X + S
theorem layE_out {w x y rw rh q : Nat} {xs bs : List Int} (hq : q < xs.length) (ho : ¬ (y ≤ q / w ∧ q / w < y + rh ∧ x ≤ q % w ∧ q % w < x + rw)) : (layE w xs bs x y rw rh (rh * rw)).getD q 0 = xs.getD q 0 := by
  unfold layE
  rw [getD_map_range hq, if_neg (fun e => ho e.1)]
def sN (n : Nat) : Nat := if n = 0 then 8 else 4
theorem newN_out {f : Fr3} {damp : Int} {u v : Nat} {a b c d : Int} {n : Nat} {o : List Int} {q : Nat} (hn : n < 3) (hq : q < o.length) (ho : ¬ inB (f.at n).w.toNat (sN n * u) (sN n * v) (sN n) q) : (newN f damp (8 * u) (8 * v) a b c d n o).getD q 0 = o.getD q 0 := by
  unfold newN
  by_cases h0 : n = 0
  · subst h0
    rw [if_pos rfl]
    exact layE_out hq ho
  · rw [if_neg h0, show 8 * u / 2 = 4 * u by omega, show 8 * v / 2 = 4 * v by omega]
    unfold sN at ho
    rw [if_neg h0] at ho
    exact layE_out hq ho
theorem newN_len (f : Fr3) (damp : Int) (X Y : Nat) (a b c d : Int) (n : Nat) (o : List Int) : (newN f damp X Y a b c d n o).length = o.length := by
  unfold newN newS
  split <;> rw [layE_len]
theorem foldF_len (f : Fr3) (qs : List Bool) (ws L : List Int) (damp : Int) (n : Nat) : ∀ i, (foldF f qs ws L damp i n).length = (f.at n).xs.length
  | 0 => rfl
  | i + 1 => by
    have ih := foldF_len f qs ws L damp n i
    simp only [foldF]
    split
    · exact ih
    · show (newN f damp _ _ _ _ _ _ n (foldF f qs ws L damp i n)).length = _
      rw [newN_len, ih]
theorem fold_quiet (f : Fr3) (qs : List Bool) (ws L : List Int) (damp : Int) {n q : Nat} (hn : n < 3) (hq : q < (f.at n).xs.length) : ∀ i, (∀ i', i' < i → qs.getD i' false = false → ¬ inB (f.at n).w.toNat (sN n * (i' % (f.p0.w.toNat / 8))) (sN n * (i' / (f.p0.w.toNat / 8))) (sN n) q) → (foldF f qs ws L damp i n).getD q 0 = (f.at n).xs.getD q 0
  | 0, _ => rfl
  | i + 1, h => by
    have ih := fold_quiet f qs ws L damp hn hq i fun i' h' => h i' (by omega)
    simp only [foldF]
    split
    · exact ih
    · rename_i g
      show (newN f damp _ _ _ _ _ _ n (foldF f qs ws L damp i n)).getD q 0 = _
      rw [newN_out hn (by rw [foldF_len]; exact hq) (h i (by omega) (by simpa using g)), ih]
theorem quot_eq {S u v a : Nat} (h1 : S * u ≤ S * v + a) (h2 : S * v + a < S * u + S) (ha : a < S) : u = v := by
  rcases Nat.lt_trichotomy u v with h | h | h
  · have : S * (u + 1) ≤ S * v := Nat.mul_le_mul_left S h
    rw [Nat.mul_succ] at this
    omega
  · exact h
  · have : S * (v + 1) ≤ S * u := Nat.mul_le_mul_left S h
    rw [Nat.mul_succ] at this
    omega
/-- A quiet block's samples. -/
theorem quiet_cut {f : Fr3} {qs : List Bool} {ws L : List Int} {damp : Int} {n : Nat} (hn : n < 3) {W H : Nat} (hW : (f.at n).w.toNat = W) (hl : (f.at n).xs.length = W * H) {i : Nat} (hi : qs.getD i false = true) (N : Nat) (hA : 0 < f.p0.w.toNat / 8)
    (hx : sN n * (i % (f.p0.w.toNat / 8)) + sN n ≤ W) (hy : sN n * (i / (f.p0.w.toNat / 8)) + sN n ≤ H) :
    cutS W (foldF f qs ws L damp N n) (sN n * (i % (f.p0.w.toNat / 8))) (sN n * (i / (f.p0.w.toNat / 8))) (sN n) (sN n * sN n) = cutS W (f.at n).xs (sN n * (i % (f.p0.w.toNat / 8))) (sN n * (i / (f.p0.w.toNat / 8))) (sN n) (sN n * sN n) := by
  unfold cutS
  apply List.map_congr_left
  intro p hp
  have hp := List.mem_range.1 hp
  obtain ⟨i0, i1, i2, i3⟩ := dm_lt hp
  have sz : sN n = 8 ∨ sN n = 4 := by unfold sN; split <;> omega
  have hb : sN n * (i % (f.p0.w.toNat / 8)) + p % sN n < W := by omega
  have ha : sN n * (i / (f.p0.w.toNat / 8)) + p / sN n < H := by omega
  have hin : (sN n * (i / (f.p0.w.toNat / 8)) + p / sN n) * W + (sN n * (i % (f.p0.w.toNat / 8)) + p % sN n) < (f.at n).xs.length := by
    rw [hl, Nat.mul_comm W H]
    exact dm_in ha hb
  obtain ⟨d1, d2⟩ := dm (W := W) (r := sN n * (i / (f.p0.w.toNat / 8)) + p / sN n) (s := sN n * (i % (f.p0.w.toNat / 8)) + p % sN n) hb
  refine fold_quiet f qs ws L damp hn hin N fun i' _ hq => ?_
  rw [hW]
  unfold inB
  rw [d1, d2]
  rintro ⟨e1, e2, e3, e4⟩
  have ne : i' ≠ i := fun e => by rw [e, hi] at hq; cases hq
  apply ne
  have m1 := Nat.div_add_mod i (f.p0.w.toNat / 8)
  have m2 := Nat.div_add_mod i' (f.p0.w.toNat / 8)
  have c1 : i' / (f.p0.w.toNat / 8) = i / (f.p0.w.toNat / 8) := quot_eq e1 e2 i1
  have c2 : i' % (f.p0.w.toNat / 8) = i % (f.p0.w.toNat / 8) := quot_eq e3 e4 i2
  rw [← m1, ← m2, c1, c2]
/-! ### No strength -/
theorem limS_zero (d p : Int) : limS d 0 p = 0 := by
  unfold limS
  rw [if_pos (by decide)]
theorem fold_none {w h : Nat} {xs : List Int} {x y v p : Int} {T : List Int} (hT : ∀ t, t < 6 → tS T t = 0) : ∀ t, t ≤ 6 → (foldS w h xs x y v p T t).sum = 0
  | 0, _ => rfl
  | t + 1, h' => by
    have ih := fold_none (w := w) (h := h) (xs := xs) (x := x) (y := y) (v := v) (p := p) hT t (by omega)
    have one : ∀ way s, (askS w h xs x y v p T t way s).sum = s.sum := fun way s => by
      unfold askS
      split
      · show s.sum + tM T t * limS _ (tS T t) p = s.sum
        rw [hT t (by omega), limS_zero, Int.mul_zero, Int.add_zero]
      · rfl
    show (askS w h xs x y v p T t (-1) (askS w h xs x y v p T t 1 _)).sum = 0
    rw [one, one, ih]
theorem samp_none {w h : Nat} {xs : List Int} (bx : Bytes xs) {X Y : Nat} {p : Int} : sampS w h xs X Y p (tapsS 0 0 0) = atP w xs X Y := by
  have hT := tapsS_b (dir := 0) (pri := 0) (sec := 0) (by decide)
  have hv : 0 ≤ atP w xs X Y ∧ atP w xs X Y ≤ 255 := bx.get _
  have fb := fold_b (w := w) (h := h) bx (x := X) (y := Y) (v := atP w xs X Y) (p := p) hT hv 6 (by omega)
  have fn := fold_none (w := w) (h := h) (xs := xs) (x := X) (y := Y) (v := atP w xs X Y) (p := p) (T := tapsS 0 0 0) (fun t ht => by
    have : t = 0 ∨ t = 1 ∨ t = 2 ∨ t = 3 ∨ t = 4 ∨ t = 5 := by omega
    rcases this with rfl | rfl | rfl | rfl | rfl | rfl <;> rfl) 6 (by omega)
  obtain ⟨_, _, a3, a4, a5, a6⟩ := fb
  unfold sampS outS clipS
  rw [fn, if_neg (by omega : ¬ (0 : Int) < 0)]
  repeat' split
  all_goals omega
theorem newS_none {p : Plv} (bx : Bytes p.xs) {X Y S : Nat} {damp : Int} (hS : 0 < S) : newS p p.xs X Y S 0 0 0 damp = p.xs := by
  unfold newS
  apply ext_getD (layE_len ..)
  intro q hq
  rw [layE_len] at hq
  unfold layE
  rw [getD_map_range hq]
  split
  · rename_i h
    obtain ⟨⟨h1, h2, h3, h4⟩, h5⟩ := h
    have lt : q % p.w.toNat - X < S := by omega
    obtain ⟨d1, d2⟩ := dm (W := S) (r := q / p.w.toNat - Y) (s := q % p.w.toNat - X) lt
    unfold blockS
    rw [getD_map_range h5, d1, d2, Nat.add_sub_cancel' h3, Nat.add_sub_cancel' h1, samp_none bx]
    unfold atP
    have : (((q / p.w.toNat : Nat) : Int) * (p.w.toNat : Nat) + ((q % p.w.toNat : Nat) : Int)).toNat = q := by
      rw [← Int.natCast_mul, ← Int.natCast_add, Int.toNat_natCast]
      rw [Nat.mul_comm]
      exact Nat.div_add_mod q _
    rw [this]
  · rfl
theorem primS_zero (t : Int) : primS 0 t = 0 := by
  unfold primS
  repeat' split
  all_goals omega
theorem fold_zero {f : Fr3} (hb : ∀ n, n < 3 → Bytes (f.at n).xs) (qs : List Bool) (ws L : List Int) (damp : Int) (hL : ∀ k, L.getD k 0 = 0) {n : Nat} (hn : n < 3) : ∀ i, foldF f qs ws L damp i n = (f.at n).xs
  | 0 => rfl
  | i + 1 => by
    have ih := fold_zero hb qs ws L damp hL hn i
    simp only [foldF]
    split
    · exact ih
    · show newN f damp _ _ _ _ _ _ n (foldF f qs ws L damp i n) = _
      rw [ih, hL, hL, hL, hL]
      unfold newN
      rw [primS_zero, show (secS 0) = 0 from rfl, if_pos rfl]
      by_cases h0 : n = 0
      · subst h0
        rw [if_pos rfl]
        exact newS_none (hb 0 hn) (by omega)
      · rw [if_neg h0]
        exact newS_none (hb n hn) (by omega)
theorem out_zero {f : Fr3} (hb : ∀ n, n < 3 → Bytes (f.at n).xs) (qs : List Bool) (ws L : List Int) (hd : Hd) (hL : ∀ k, L.getD k 0 = 0) {n : Nat} (hn : n < 3) : outF f qs ws hd L n = (f.at n).xs := by
  unfold outF
  split
  · exact fold_zero hb qs ws L hd.damp hL hn _
  · rfl
theorem zeros_list (n : Nat) : ∃ L : List Int, zerosL [.int .i64 0, .int .i64 0, .int .i64 0, .int .i64 0] n = L.map (Value.int .i64) ∧ ∀ k, L.getD k 0 = 0 := by
  refine ⟨(List.replicate n [0, 0, 0, 0]).flatten, ?_, fun k => ?_⟩
  · unfold zerosL
    rw [List.map_flatten, List.map_replicate]
    rfl
  · have all : ∀ x ∈ (List.replicate n ([0, 0, 0, 0] : List Int)).flatten, x = 0 := fun x hx => by
      obtain ⟨l, hl, hx⟩ := List.mem_flatten.1 hx
      rw [(List.mem_replicate.1 hl).2] at hx
      simpa using hx
    rw [List.getD_eq_getElem?_getD]
    cases h : (List.replicate n ([0, 0, 0, 0] : List Int)).flatten[k]? with
    | none => rfl
    | some x => exact all x (List.mem_of_getElem? h)
/-! ### The law -/
theorem alike_ok (lo : Nat) (f : Fr3) (ad : Nat → Addr) (cc : Nat → Nat) (M : Mem) (h1 : ∀ n, n < 3 → RdI M .u8 (some (ad n)) (f.at n).xs) (h2 : ∀ n, n < 3 → RdI M .u8 (f.at n).A (f.at n).xs) (hfn : ∀ n, n < 3 → (f.at n).xs.length ≤ 140737488351232) :
    Ac P T lo F.zoetropelaw23_alike [.agg ⟨csL f ad cc⟩, .agg ⟨f.cells⟩] M fun r => r = (.bool true, M) := by
  have one : ∀ n, n < 3 → Ac P T lo F.plane_Same [.agg ⟨[.int .i64 (f.at n).w, .int .i64 (f.at n).h, .slice (some (ad n)) (f.at n).xs.length (cc n)]⟩, .agg ⟨[.int .i64 (f.at n).w, .int .i64 (f.at n).h, .slice (f.at n).A (f.at n).xs.length (f.at n).c]⟩] M fun r => r = (.bool true, M) := fun n h => by
    refine Ac.mono (same_ok _ _ _ _ _ _ _ _ _ _ _ M (h1 n h) (h2 n h) (hfn n h)) ?_
    rintro _ rfl
    simp
  refine Ac.of (Evp.of_eq (fun k => zoetropelaw23_alike.entry k ..) ?_)
  refine Evp.ob (one 0 (by omega)) ?_
  rintro _ rfl
  simp only [ret_int, ret_bool, ret_flt, ret_slc, ret_str, ret_ptr, ret_agg, ret_tup, ob_some, bb_true, bb_false, List.getElem?_cons_zero, List.getElem?_cons_succ, List.length_cons, List.length_nil, Nat.reduceAdd, Nat.reduceLT]
  refine Evp.tt rfl ?_
  refine Evp.ob (one 1 (by omega)) ?_
  rintro _ rfl
  simp only [ret_int, ret_bool, ret_flt, ret_slc, ret_str, ret_ptr, ret_agg, ret_tup, ob_some, bb_true, bb_false, List.getElem?_cons_zero, List.getElem?_cons_succ, List.length_cons, List.length_nil, Nat.reduceAdd, Nat.reduceLT]
  refine Evp.tt rfl ?_
  refine Evp.ob (one 2 (by omega)) ?_
  rintro _ rfl
  simp only [ret_int, ret_bool, ret_flt, ret_slc, ret_str, ret_ptr, ret_agg, ret_tup, ob_some, bb_true, bb_false, List.getElem?_cons_zero, List.getElem?_cons_succ, List.length_cons, List.length_nil, Nat.reduceAdd, Nat.reduceLT]
  exact Evp.ret (Run.ret rfl)
abbrev sI (w i : Int) (f : Fr3) (Q : Option Addr) (qn qc : Nat) (V : Option Addr) (vn vc : Nat) (hd : Hd) (ad : Nat → Addr) (cc : Nat → Nat) (M : Mem) : Out := zoetropelaw23_CdefStays.c1012 w i f.p0.w f.p0.h f.p0.A f.p0.xs.length f.p0.c f.p1.w f.p1.h f.p1.A f.p1.xs.length f.p1.c f.p2.w f.p2.h f.p2.A f.p2.xs.length f.p2.c Q qn qc V vn vc hd.h0 hd.h1 hd.h2 hd.h3 hd.h4 hd.h5 hd.h6 hd.h7 hd.h8 hd.h9 hd.h10 hd.h11 hd.h12 hd.h13 hd.h14 hd.h15 hd.h16 hd.h17 hd.h18 hd.h19 hd.h20 hd.h21 hd.h22 hd.cdef hd.damp hd.h25 hd.A hd.n hd.c hd.h27 hd.h28 hd.h29 f.p0.w f.p0.h (some (ad 0)) f.p0.xs.length (cc 0) f.p1.w f.p1.h (some (ad 1)) f.p1.xs.length (cc 1) f.p2.w f.p2.h (some (ad 2)) f.p2.xs.length (cc 2) M
abbrev sP (w i n : Int) (f : Fr3) (Q : Option Addr) (qn qc : Nat) (V : Option Addr) (vn vc : Nat) (hd : Hd) (ad : Nat → Addr) (cc : Nat → Nat) (M : Mem) : Out := zoetropelaw23_CdefStays.c129612 w i n f.p0.w f.p0.h f.p0.A f.p0.xs.length f.p0.c f.p1.w f.p1.h f.p1.A f.p1.xs.length f.p1.c f.p2.w f.p2.h f.p2.A f.p2.xs.length f.p2.c Q qn qc V vn vc hd.h0 hd.h1 hd.h2 hd.h3 hd.h4 hd.h5 hd.h6 hd.h7 hd.h8 hd.h9 hd.h10 hd.h11 hd.h12 hd.h13 hd.h14 hd.h15 hd.h16 hd.h17 hd.h18 hd.h19 hd.h20 hd.h21 hd.h22 hd.cdef hd.damp hd.h25 hd.A hd.n hd.c hd.h27 hd.h28 hd.h29 f.p0.w f.p0.h (some (ad 0)) f.p0.xs.length (cc 0) f.p1.w f.p1.h (some (ad 1)) f.p1.xs.length (cc 1) f.p2.w f.p2.h (some (ad 2)) f.p2.xs.length (cc 2) M
section
variable (lo : Nat) (f : Fr3) (Q V : Option Addr) (qc vc : Nat) (qs : List Bool) (ws : List Int) (hd : Hd) (L : List Int) (M0 M1 : Mem) (ad : Nat → Addr) (cc : Nat → Nat)
variable (hlo : lo ≤ M0.length) (hf : FrIn M0 f) (hQ : RdB M0 Q qs) (hV : RdI M0 .i64 V ws) (hn : ws.length ≤ 17592186043904) (hs : hd.n * 32 ≤ 140737488351232) (hm : MayP f qs.length ws hd L) (p01 : Pre M0 M1) (hcc : ∀ n, n < 3 → (f.at n).xs.length ≤ cc n) (hB : Bufs M0 M1 f ad (outF f qs ws hd L))
include hlo hf hQ hV hn hs hm p01 hcc hB
omit hcc hB in
theorem stays_end (i : Int) (hi : ¬ i < qs.length) (M : Mem) (hp : Pre M1 M) : Run P T lo F.zoetropelaw23_CdefStays (sI f.p0.w i f Q qs.length qc V ws.length vc hd ad cc M) fun r => r.1 = .bool true := by
  have hok := hf.ok hm.1
  have hfn : ∀ n, n < 3 → (f.at n).xs.length ≤ 140737488351232 := fun n hn => by
    have := checkS_len' (hok.chk n hn)
    have a := area ⟨this.1, this.2.1, this.2.2.1, this.2.2.2.1⟩
    have h := this.2.2.2.2
    omega
  have q := p01.trans hp
  obtain ⟨Z, hZ, hz⟩ := zeros_list hd.n
  refine Run.cut (Evp.of_eq (fun k => zoetropelaw23_CdefStays.p1012 k ..) ?_)
  refine Evp.dec (fun g => absurd g hi) fun _ => ?_
  refine Evp.pos ⟨by omega, by show (hd.n : Int).toNat * 32 ≤ 140737488355328; simp only [Int.toNat_natCast]; omega⟩ ?_
  simp only [Int.toNat_natCast]
  rw [hZ]
  have hzl : (Z.map (Value.int .i64)).length = hd.n * 4 := by rw [← hZ, zerosL_length]; rfl
  have p2 : Pre M (M ++ [⟨.fx, Z.map (Value.int .i64)⟩] : Mem) := Pre.app _ _
  have rZ : Rd (M ++ [⟨.fx, Z.map (Value.int .i64)⟩] : Mem) (some ⟨M.length, 0, none⟩) hd.n 4 (Z.map (Value.int .i64)) := Rd.lit hzl
  have q2 := q.trans p2
  generalize (M ++ [⟨.fx, Z.map (Value.int .i64)⟩] : Mem) = M2 at *
  have hm2 : MayP f qs.length ws { hd with A := some ⟨M.length, 0, none⟩, n := hd.n, c := hd.n } Z := by
    obtain ⟨a1, a2, a3, a4, a5, a6⟩ := hm
    refine ⟨a1, a2, a3, a4, a5, fun e => ?_⟩
    obtain ⟨b1, b2, b3, b4⟩ := a6 e
    exact ⟨b1, b2, fun i _ => by unfold StrOk; rw [hz, hz, hz, hz]; decide, b4⟩
  refine Evp.ob (cframe_ok lo f Q V qc vc qs ws { hd with A := some ⟨M.length, 0, none⟩, n := hd.n, c := hd.n } Z M2 (Nat.le_trans hlo q2.len) (hf.pre q2) (hQ.pre q2) (hV.pre q2) hn rZ) ?_
  rintro ⟨v, M3⟩ ⟨p3, h3⟩
  rcases h3 with ⟨_, ad', cc', e, _, b3⟩ | ⟨m3, _⟩
  · simp only at e b3 p3
    subst e
    simp only [ret_int, ret_bool, ret_flt, ret_slc, ret_str, ret_ptr, ret_agg, ret_tup, ob_some, bb_true, bb_false, List.getElem?_cons_zero, List.getElem?_cons_succ, List.length_cons, List.length_nil, Nat.reduceAdd, Nat.reduceLT]
    refine Evp.tt rfl ?_
    have b3 := b3.congr fun n h => out_zero hf.by_ qs ws Z _ hz h
    refine Evp.ob (alike_ok lo f ad' cc' M3 (fun n h => (b3.buf n h).rdI) (fun n h => ((hf.pre q2).rd n h).pre p3) hfn) ?_
    rintro _ rfl
    simp only [ret_int, ret_bool, ret_flt, ret_slc, ret_str, ret_ptr, ret_agg, ret_tup, ob_some, bb_true, bb_false, List.getElem?_cons_zero, List.getElem?_cons_succ, List.length_cons, List.length_nil, Nat.reduceAdd, Nat.reduceLT]
    exact Evp.ret (Run.ret rfl)
  · exact absurd hm2 m3
omit hQ hV hn hs in
theorem stays_plane (i n : Nat) (hi : i < qs.length) (hn3 : n < 3) (hq : hd.cdef = true → qs.getD i false = true) (M : Mem) (hp : Pre M1 M)
    (next : ∀ M', Pre M1 M' → Run P T lo F.zoetropelaw23_CdefStays (sP f.p0.w i ((n + 1 : Nat) : Int) f Q qs.length qc V ws.length vc hd ad cc M') fun r => r.1 = .bool true) :
    Run P T lo F.zoetropelaw23_CdefStays (sP f.p0.w i n f Q qs.length qc V ws.length vc hd ad cc M) fun r => r.1 = .bool true := by
  have hok := hf.ok hm.1
  have sw : sideP f.p0.w := hm.1.2.1
  have sh : sideP f.p0.h := hm.1.2.2.1
  unfold sideP at sw sh
  have h8 := hm.2.1
  have v8 := hm.2.2.1
  have hq0 := hm.2.2.2.1
  obtain ⟨W0, hW0⟩ := Int.eq_ofNat_of_zero_le (a := f.p0.w) (by omega)
  obtain ⟨H0, hH0⟩ := Int.eq_ofNat_of_zero_le (a := f.p0.h) (by omega)
  have eW0 : f.p0.w.toNat = W0 := by omega
  have hql : qs.length = W0 / 8 * (H0 / 8) := by
    rw [hW0, hH0, show (W0 : Int) / 8 = ((W0 / 8 : Nat) : Int) by omega, show (H0 : Int) / 8 = ((H0 / 8 : Nat) : Int) by omega, ← Int.natCast_mul] at hq0
    omega
  have hqm : qs.length ≤ 32 * 32 := by rw [hql]; exact Nat.mul_le_mul (by omega) (by omega)
  have hiq : i < H0 / 8 * (W0 / 8) := by rw [Nat.mul_comm]; omega
  obtain ⟨i0, i1, i2, i3⟩ := dm_lt hiq
  have ck := checkS_len' (hok.chk n hn3)
  obtain ⟨W, hW⟩ := Int.eq_ofNat_of_zero_le (a := (f.at n).w) (by omega)
  obtain ⟨H, hH⟩ := Int.eq_ofNat_of_zero_le (a := (f.at n).h) (by omega)
  have eW : (f.at n).w.toNat = W := by omega
  have eH : (f.at n).h.toNat = H := by omega
  have hl : (f.at n).xs.length = W * H := by have := ck.2.2.2.2; rw [hW, hH, ← Int.natCast_mul] at this; omega
  have sz : sN n = 8 ∨ sN n = 4 := by unfold sN; split <;> omega
  have bx := blk_in hm.1 h8 v8 (X := 8 * (i % (W0 / 8))) (Y := 8 * (i / (W0 / 8))) (by generalize i % (W0 / 8) = u at *; omega) (by generalize i / (W0 / 8) = u at *; omega) n hn3
  have place : sN n * (i % (W0 / 8)) + sN n ≤ W ∧ sN n * (i / (W0 / 8)) + sN n ≤ H := by
    unfold sN
    by_cases h0 : n = 0
    · subst h0
      rw [if_pos rfl]
      have e1 : W = W0 := by have : (f.at 0).w = f.p0.w := rfl; omega
      have e2 : H = H0 := by have : (f.at 0).h = f.p0.h := rfl; omega
      generalize i % (W0 / 8) = u at *
      generalize i / (W0 / 8) = v at *
      omega
    · rw [if_neg h0]
      have := bx h0
      rw [eW, eH] at this
      generalize i % (W0 / 8) = u at *
      generalize i / (W0 / 8) = v at *
      omega
  have same : cutS W (outF f qs ws hd L n) (sN n * (i % (W0 / 8))) (sN n * (i / (W0 / 8))) (sN n) (sN n * sN n) = cutS W (f.at n).xs (sN n * (i % (W0 / 8))) (sN n * (i / (W0 / 8))) (sN n) (sN n * sN n) := by
    unfold outF
    split
    · rename_i hc
      have := quiet_cut (ws := ws) (L := L) (damp := hd.damp) hn3 eW hl (hq hc) qs.length (by rw [eW0]; exact i0) (by rw [eW0]; exact place.1) (by rw [eW0]; exact place.2)
      rw [eW0] at this
      exact this
    · rfl
  have olen : (outF f qs ws hd L n).length = (f.at n).xs.length := hB.len n hn3
  have q := p01.trans hp
  have tm : Int.tmod (i : Int) ((W0 / 8 : Nat) : Int) = ((i % (W0 / 8) : Nat) : Int) := rfl
  have td : Int.tdiv (i : Int) ((W0 / 8 : Nat) : Int) = ((i / (W0 / 8) : Nat) : Int) := rfl
  have e8 : IntKind.i64.wrap (Int.tdiv f.p0.w 8) = ((W0 / 8 : Nat) : Int) := by rw [hW0, show Int.tdiv (W0 : Int) 8 = ((W0 / 8 : Nat) : Int) from rfl, w64 (by omega)]
  have body : Run P T lo F.zoetropelaw23_CdefStays (zoetropelaw23_CdefStays.c4147603 f.p0.w i n (sN n : Nat) f.p0.w f.p0.h f.p0.A f.p0.xs.length f.p0.c f.p1.w f.p1.h f.p1.A f.p1.xs.length f.p1.c f.p2.w f.p2.h f.p2.A f.p2.xs.length f.p2.c Q qs.length qc V ws.length vc hd.h0 hd.h1 hd.h2 hd.h3 hd.h4 hd.h5 hd.h6 hd.h7 hd.h8 hd.h9 hd.h10 hd.h11 hd.h12 hd.h13 hd.h14 hd.h15 hd.h16 hd.h17 hd.h18 hd.h19 hd.h20 hd.h21 hd.h22 hd.cdef hd.damp hd.h25 hd.A hd.n hd.c hd.h27 hd.h28 hd.h29 f.p0.w f.p0.h (some (ad 0)) f.p0.xs.length (cc 0) f.p1.w f.p1.h (some (ad 1)) f.p1.xs.length (cc 1) f.p2.w f.p2.h (some (ad 2)) f.p2.xs.length (cc 2) M) fun r => r.1 = .bool true := by
    generalize hu : i % (W0 / 8) = u at *
    generalize hv : i / (W0 / 8) = v at *
    refine Run.cut (Evp.of_eq (fun k => zoetropelaw23_CdefStays.p4147603 k ..) ?_)
    rw [e8, tm, td]
    have b1 : sN n * u ≤ W := by omega
    have b2 : sN n * v ≤ H := by omega
    rw [w64 (x := (v : Int)) (by omega), ← Int.natCast_mul, ← Int.natCast_mul, Nat.mul_comm u, Nat.mul_comm v, w64 (x := ((sN n * u : Nat) : Int)) (by omega), w64 (x := ((sN n * v : Nat) : Int)) (by omega)]
    refine Evp.neg (by omega) (Evp.neg (by omega) (Evp.pos (by omega) ?_))
    simp only [Int.toNat_natCast]
    refine Evp.some (fr_w hn3) (Evp.some (fr_h hn3) (Evp.some (fr_p hn3) ?_))
    have wi : WithinP (f.at n).w (f.at n).h ((sN n * u : Nat) : Int) ((sN n * v : Nat) : Int) (sN n : Nat) (sN n : Nat) := ⟨by omega, by omega, by omega, by omega, by omega, by omega⟩
    refine Evp.ob (pcut_ok lo (f.at n).w (f.at n).h (f.at n).A (f.at n).c (f.at n).xs _ _ _ _ M ((hf.rd n hn3).pre q) (hf.cap n hn3) (Nat.le_trans hlo q.len)) ?_
    rintro ⟨r, M2⟩ ⟨p2, h2⟩
    rw [if_pos ⟨hok.chk n hn3, wi⟩] at h2
    obtain ⟨B, cb, e, g2, _⟩ := h2
    simp only [Int.toNat_natCast, eW] at e g2 p2
    subst e
    simp only [ret_int, ret_bool, ret_flt, ret_slc, ret_str, ret_ptr, ret_agg, ret_tup, ob_some, bb_true, bb_false, List.getElem?_cons_zero, List.getElem?_cons_succ, List.length_cons, List.length_nil, Nat.reduceAdd, Nat.reduceLT]
    have gw : ((csL f ad cc)[0 + n * 3 + 0]?).bind (Value.int? .i64) = some (f.at n).w := cs_w hn3
    have gh : ((csL f ad cc)[0 + n * 3 + 1]?).bind (Value.int? .i64) = some (f.at n).h := by rcases lt3 hn3 with rfl | rfl | rfl <;> rfl
    have gp : ((csL f ad cc)[0 + n * 3 + 2]?).bind Value.slc? = some ⟨some (ad n), (f.at n).xs.length, cc n⟩ := cs_p hn3
    refine Evp.pos (by omega) (Evp.some gw (Evp.some gh (Evp.some gp ?_)))
    have C2 := pcut_ok lo (f.at n).w (f.at n).h (some (ad n)) (cc n) (outF f qs ws hd L n) ((sN n * u : Nat) : Int) ((sN n * v : Nat) : Int) (sN n : Nat) (sN n : Nat) M2 (((hB.buf n hn3).rdI.pre hp).pre p2) (by rw [olen]; exact hcc n hn3) (Nat.le_trans hlo (q.trans p2).len)
    unfold CutR at C2
    rw [olen] at C2
    refine Evp.ob C2 ?_
    rintro ⟨r, M3⟩ ⟨p3, h3⟩
    rw [if_pos ⟨hok.chk n hn3, wi⟩] at h3
    obtain ⟨D, cd, e, g3, _⟩ := h3
    simp only [Int.toNat_natCast, eW] at e g3 p3
    rw [same] at e g3
    subst e
    simp only [ret_int, ret_bool, ret_flt, ret_slc, ret_str, ret_ptr, ret_agg, ret_tup, ob_some, bb_true, bb_false, List.getElem?_cons_zero, List.getElem?_cons_succ, List.length_cons, List.length_nil, Nat.reduceAdd, Nat.reduceLT]
    refine Evp.neb (fun e => absurd rfl e) fun _ => Evp.neb (fun e => absurd rfl e) fun _ => ?_
    have rB : RdI M3 .u8 B (cutS W (f.at n).xs (sN n * u) (sN n * v) (sN n) (sN n * sN n)) := RdI.pre g2.rd p3
    have rD : RdI M3 .u8 D (cutS W (f.at n).xs (sN n * u) (sN n * v) (sN n) (sN n * sN n)) := g3.rd
    refine Evp.ob (eqBytes_ok _ _ _ _ _ _ _ M3 rB rD (by rw [cutS_len]; rcases sz with e | e <;> rw [e] <;> decide)) ?_
    rintro _ rfl
    simp only [ret_int, ret_bool, ret_flt, ret_slc, ret_str, ret_ptr, ret_agg, ret_tup, ob_some, bb_true, bb_false, List.getElem?_cons_zero, List.getElem?_cons_succ, List.length_cons, List.length_nil, Nat.reduceAdd, Nat.reduceLT]
    refine Evp.ff (by simp) ?_
    rw [w64 (by omega)]
    exact Evp.ret (next M3 ((hp.trans p2).trans p3))
  refine Run.cut (Evp.of_eq (fun k => zoetropelaw23_CdefStays.p129612 k ..) ?_)
  refine Evp.dec (fun _ => ?_) fun g => absurd g (by omega)
  unfold sN at body
  by_cases h0 : n = 0
  · subst h0
    exact Evp.dec (fun g => absurd g (by omega)) fun _ => Evp.ret body
  · rw [if_neg h0] at body
    exact Evp.dec (fun _ => Evp.ret body) fun g => absurd g (by omega)
theorem stays_loop : ∀ (d i : Nat) (M : Mem), qs.length - i = d → i ≤ qs.length → Pre M1 M → Run P T lo F.zoetropelaw23_CdefStays (sI f.p0.w i f Q qs.length qc V ws.length vc hd ad cc M) fun r => r.1 = .bool true := by
  have sw : sideP f.p0.w := hm.1.2.1
  have sh : sideP f.p0.h := hm.1.2.2.1
  unfold sideP at sw sh
  have hq0 := hm.2.2.2.1
  have m1 := mul_abs (a := f.p0.w / 8) (b := f.p0.h / 8) (A := 32) (B := 32) (by omega) (by omega)
  intro d
  induction d with
  | zero =>
    intro i M hd' hi hp
    exact stays_end lo f Q V qc vc qs ws hd L M0 M1 ad cc hlo hf hQ hV hn hs hm p01 i (by omega) M hp
  | succ d ih =>
    intro i M hd' hi hp
    have on : ∀ M', Pre M1 M' → Run P T lo F.zoetropelaw23_CdefStays (zoetropelaw23_CdefStays.c4051 f.p0.w i f.p0.w f.p0.h f.p0.A f.p0.xs.length f.p0.c f.p1.w f.p1.h f.p1.A f.p1.xs.length f.p1.c f.p2.w f.p2.h f.p2.A f.p2.xs.length f.p2.c Q qs.length qc V ws.length vc hd.h0 hd.h1 hd.h2 hd.h3 hd.h4 hd.h5 hd.h6 hd.h7 hd.h8 hd.h9 hd.h10 hd.h11 hd.h12 hd.h13 hd.h14 hd.h15 hd.h16 hd.h17 hd.h18 hd.h19 hd.h20 hd.h21 hd.h22 hd.cdef hd.damp hd.h25 hd.A hd.n hd.c hd.h27 hd.h28 hd.h29 f.p0.w f.p0.h (some (ad 0)) f.p0.xs.length (cc 0) f.p1.w f.p1.h (some (ad 1)) f.p1.xs.length (cc 1) f.p2.w f.p2.h (some (ad 2)) f.p2.xs.length (cc 2) M') fun r => r.1 = .bool true := fun M' q => by
      refine Run.cut (Evp.of_eq (fun k => zoetropelaw23_CdefStays.p4051 k ..) ?_)
      rw [w64 (by omega)]
      exact Evp.ret (ih (i + 1) M' (by omega) (by omega) q)
    have blocks : (hd.cdef = true → qs.getD i false = true) → Run P T lo F.zoetropelaw23_CdefStays (sP f.p0.w i 0 f Q qs.length qc V ws.length vc hd ad cc M) fun r => r.1 = .bool true := fun hq => by
      have go := fun n hn3 M' q nx => stays_plane lo f Q V qc vc qs ws hd L M0 M1 ad cc hlo hf hm p01 hcc hB i n (by omega) hn3 hq M' q nx
      refine go 0 (by omega) M hp fun M2 q2 => go 1 (by omega) M2 q2 fun M3 q3 => go 2 (by omega) M3 q3 fun M4 q4 => ?_
      refine Run.cut (Evp.of_eq (fun k => zoetropelaw23_CdefStays.p129612 k ..) ?_)
      exact Evp.dec (fun g => absurd g (by decide)) fun _ => Evp.ret (on M4 q4)
    refine Run.cut (Evp.of_eq (fun k => zoetropelaw23_CdefStays.p1012 k ..) ?_)
    refine Evp.dec (fun _ => ?_) fun g => absurd g (by omega)
    refine Evp.bb (fun gc => ?_) fun gc => Evp.ret (blocks fun e => by rw [gc] at e; cases e)
    refine Evp.pos (by omega) ?_
    simp only [Int.toNat_natCast]
    refine Evp.ldB ((hQ.pre p01).pre hp) (by omega) fun _ _ => ?_
    exact Evp.nb (fun g => Evp.ret (on M hp)) fun g => Evp.ret (blocks fun _ => g)
end
theorem CdefStays_law (M : Mem) (vs : List Value) (hro : AllRo M) (hv : LaysArgs P M [48, 52, 57] vs) : Ac P T M.length F.zoetropelaw23_CdefStays vs M fun r => r.1 = .bool true := by
  obtain ⟨w0, h0, A0, c0, xs, w1, h1, A1, c1, ys, w2, h2, A2, c2, zs, Q, qc, qs, V, vc, ws, g0, g1, g2, g3, g4, g5, g6, g7, g8, g9, g10, g11, g12, g13, g14, g15, g16, g17, g18, g19, g20, g21, g22, g23, g24, g25, S, sn, sc, sv, g27, g28, g29, rfl,
    _, _, k0, n0, rx, bx, _, _, k1, n1, ry, by', _, _, k2, n2, rz, bz, kq, nq, rq, kv, nv, rv, bv, hrest⟩ := Arg.CdefStays hv
  obtain ⟨_, _, _, _, _, _, _, _, _, _, _, _, _, _, _, _, _, _, _, _, _, ks, ns, rs, hs⟩ := hrest
  obtain ⟨L, rfl⟩ := strs_of (d := 4) rs.1 hs
  have hf : FrIn M ⟨⟨w0, h0, A0, c0, xs⟩, ⟨w1, h1, A1, c1, ys⟩, ⟨w2, h2, A2, c2, zs⟩⟩ := by
    refine ⟨fun n hn => ?_, fun n hn => ?_, fun n hn => ?_⟩
    · rcases lt3 hn with rfl | rfl | rfl
      · exact rx
      · exact ry
      · exact rz
    · rcases lt3 hn with rfl | rfl | rfl
      · exact fun x hx => wf_u8 (bx x hx)
      · exact fun x hx => wf_u8 (by' x hx)
      · exact fun x hx => wf_u8 (bz x hx)
    · rcases lt3 hn with rfl | rfl | rfl
      · exact k0
      · exact k1
      · exact k2
  have ns' : sn * 32 ≤ 140737488351232 := ns
  have key : ∀ (f : Fr3) (hd : Hd), FrIn M f → hd.n * 32 ≤ 140737488351232 → Rd M hd.A hd.n 4 (L.map (Value.int .i64)) → Ac P T M.length F.zoetropelaw23_CdefStays [.agg ⟨f.cells⟩, .agg ⟨[.slice Q qs.length qc, .slice V ws.length vc]⟩, .agg ⟨hd.cells⟩] M fun r => r.1 = .bool true := fun f hd hf hs hL => by
    refine Ac.of (Evp.of_eq (fun k => zoetropelaw23_CdefStays.entry k ..) ?_)
    refine Evp.ob (awake_ok M.length M (Nat.le_refl _)) ?_
    rintro _ ⟨M1, rfl, p1⟩
    simp only [ret_int, ret_bool, ret_flt, ret_slc, ret_str, ret_ptr, ret_agg, ret_tup, ob_some, bb_true, bb_false, List.getElem?_cons_zero, List.getElem?_cons_succ, List.length_cons, List.length_nil, Nat.reduceAdd, Nat.reduceLT]
    refine Evp.ff rfl ?_
    refine Evp.ob (cframe_ok M.length f Q V qc vc qs ws hd L M1 p1.len (hf.pre p1) (rq.pre p1) (rv.pre p1) (by omega) (hL.pre p1)) ?_
    rintro ⟨v, M2⟩ ⟨p2, h2⟩
    rcases h2 with ⟨hm, ad, cc, e, hcc, hB⟩ | ⟨_, e⟩
    · simp only at e hB p2
      subst e
      simp only [ret_int, ret_bool, ret_flt, ret_slc, ret_str, ret_ptr, ret_agg, ret_tup, ob_some, bb_true, bb_false, List.getElem?_cons_zero, List.getElem?_cons_succ, List.length_cons, List.length_nil, Nat.reduceAdd, Nat.reduceLT]
      refine Evp.neb (fun e => absurd rfl e) fun _ => Evp.ret ?_
      exact stays_loop M.length f Q V qc vc qs ws hd L M1 M2 ad cc p1.len (hf.pre p1) (rq.pre p1) (rv.pre p1) (by omega) hs hm p2 hcc hB _ 0 M2 rfl (Nat.zero_le _) (Pre.refl _)
    · simp only at e p2
      subst e
      simp only [ret_int, ret_bool, ret_flt, ret_slc, ret_str, ret_ptr, ret_agg, ret_tup, ob_some, bb_true, bb_false, List.getElem?_cons_zero, List.getElem?_cons_succ, List.length_cons, List.length_nil, Nat.reduceAdd, Nat.reduceLT]
      exact Evp.neb (fun _ => Evp.ret (Run.ret rfl)) fun g => absurd g (by decide)
  exact key ⟨⟨w0, h0, A0, c0, xs⟩, ⟨w1, h1, A1, c1, ys⟩, ⟨w2, h2, A2, c2, zs⟩⟩ ⟨g0, g1, g2, g3, g4, g5, g6, g7, g8, g9, g10, g11, g12, g13, g14, g15, g16, g17, g18, g19, g20, g21, g22, g23, g24, g25, S, sn, sc, g27, g28, g29⟩ hf ns' rs
end Go.Zt
