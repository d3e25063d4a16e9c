/- DeblockQuiet, DeblockFar. -/
import Derived.Test.YtibbmknipkifeaaFr
import Derived.Test.YtibbmknipkifeaaFk
set_option linter.unusedVariables false
set_option linter.unusedSimpArgs false
set_option maxRecDepth 100000
namespace Go.Zt
theorem equal_loop (lo : Nat) (A A' : Option Addr) (c c' : Nat) (xs ys : List Int) (M : Mem) (hx : RdI M .u8 A xs) (hy : RdI M .u8 A' ys) (hl : xs.length = ys.length) (hn : xs.length ≤ 140737488351232) :
    ∀ (d i : Nat), xs.length - i = d → i ≤ xs.length → (∀ j, j < i → xs.getD j 0 = ys.getD j 0) → Run P T lo F.slices_Equal__uint8_uint8 (slices_Equal__uint8_uint8.c116 A xs.length c A' ys.length c' xs.length i M) fun r => r = (.bool (decide (xs = ys)), M) := by
  intro d
  induction d with
  | zero =>
    intro i hd hi hj
    refine Run.cut (Evp.of_eq (fun k => slices_Equal__uint8_uint8.p116 k ..) ?_)
    refine Evp.dec (fun h => absurd h (by omega)) fun _ => Evp.ret (Run.ret ?_)
    rw [decide_eq_true (eq_of_getD hl fun j h => hj j (by omega))]
  | succ d ih =>
    intro i hd hi hj
    refine Run.cut (Evp.of_eq (fun k => slices_Equal__uint8_uint8.p116 k ..) ?_)
    refine Evp.dec (fun _ => ?_) fun h => absurd h (by omega)
    refine Evp.pos (by omega) ?_
    simp only [Int.toNat_natCast]
    refine Evp.ldI hx (by omega) fun a _ => ?_
    refine Evp.pos (by omega) ?_
    refine Evp.ldI hy (by omega) fun a' _ => ?_
    refine Evp.neb (fun hne => Evp.ret (Run.ret ?_)) fun he => ?_
    · rw [decide_eq_false (fun e => hne (by rw [e]))]
    · rw [w64 (by omega)]
      exact Evp.ret (ih (i + 1) (by omega) (by omega) fun j h => by
        by_cases hji : j = i
        · subst hji; exact he
        · exact hj j (by omega))
theorem equal_ok (lo : Nat) (A A' : Option Addr) (c c' : Nat) (xs ys : List Int) (M : Mem) (hx : RdI M .u8 A xs) (hy : RdI M .u8 A' ys) (hn : xs.length ≤ 140737488351232) :
    Ac P T lo F.slices_Equal__uint8_uint8 [.slice A xs.length c, .slice A' ys.length c'] M fun r => r = (.bool (decide (xs = ys)), M) := by
  refine Ac.of (Evp.of_eq (fun k => slices_Equal__uint8_uint8.entry k ..) ?_)
  refine Evp.neb (fun h => Evp.ret (Run.ret ?_)) fun h => ?_
  · rw [decide_eq_false (fun e => h (by rw [e]))]
  · exact Evp.ret (equal_loop lo A A' c c' xs ys M hx hy (by omega) hn _ 0 rfl (by omega) fun j h => by omega)

theorem same_ok (lo : Nat) (w h w' h' : Int) (A A' : Option Addr) (c c' : Nat) (xs ys : List Int) (M : Mem) (hx : RdI M .u8 A xs) (hy : RdI M .u8 A' ys) (hn : xs.length ≤ 140737488351232) :
    Ac P T lo F.plane_Same [.agg ⟨[.int .i64 w, .int .i64 h, .slice A xs.length c]⟩, .agg ⟨[.int .i64 w', .int .i64 h', .slice A' ys.length c']⟩] M fun r => r = (.bool (decide (w = w' ∧ h = h' ∧ xs = ys)), M) := by
  refine Ac.of (Evp.of_eq (fun k => plane_Same.entry k ..) ?_)
  refine Evp.eqb (fun h1 => ?_) fun h1 => Evp.ret (Run.ret (by rw [decide_eq_false (fun e => h1 e.1)]))
  refine Evp.eqb (fun h2 => ?_) fun h2 => Evp.ret (Run.ret (by rw [decide_eq_false (fun e => h2 e.2.1)]))
  refine Evp.ob (equal_ok _ _ _ _ _ _ _ _ hx hy hn) ?_
  rintro _ rfl
  simp only [ret_int, ret_bool, ret_flt, ret_slc, ret_str, ret_ptr, ret_agg, ret_tup, ob_some, bb_true, bb_false, List.getElem?_cons_zero, List.getElem?_cons_succ, List.length_cons, List.length_nil, Nat.reduceAdd, Nat.reduceLT]
  refine Evp.ret (Run.ret ?_)
  congr 2
  exact decide_eq_decide.2 (by simp [h1, h2])

theorem getD_set_ne {xs : List Int} {i j : Nat} {v : Int} (h : j ≠ i) : (xs.set i v).getD j 0 = xs.getD j 0 := by
  simp only [List.getD_eq_getElem?_getD, List.getElem?_set_ne (Ne.symm h)]
theorem putL_keep {xs : List Int} {b st : Nat} {zs : List Int} {p : Nat} : ∀ {n : Nat}, (∀ j, j < n → p = b + j * st → zs.getD j 0 = xs.getD p 0) → (putL xs b st zs n).getD p 0 = xs.getD p 0
  | 0, _ => rfl
  | n + 1, h => by
    simp only [putL]
    have ih := putL_keep (xs := xs) (b := b) (st := st) (zs := zs) (p := p) (n := n) fun j hj => h j (by omega)
    by_cases e : p = b + n * st
    · by_cases hl : p < xs.length
      · rw [getD_set (by rw [putL_len, ← e]; exact hl), if_pos e]
        exact h n (by omega) e
      · rw [List.set_eq_of_length_le (by rw [putL_len]; omega)]; exact ih
    · rw [getD_set_ne e]; exact ih
theorem Cells.pass_skip (m : Cells) (W H : Nat) (xs : List Int) : ∀ n, (∀ i, i < n → m.skip i) → m.passS W H xs n = xs
  | 0, _ => rfl
  | n + 1, h => by
    simp only [Cells.passS]
    rw [Cells.pass_skip m W H xs n fun i hi => h i (by omega)]
    unfold Cells.cellS
    rw [if_pos (h n (by omega))]
theorem flat_edge {v level sharp : Int} (hv : 0 ≤ v ∧ v ≤ 255) (hl : 0 ≤ level) {k : Nat} (hk : k = 2 ∨ k = 3 ∨ k = 4 ∨ k = 7) : edgeL (List.replicate (2 * k) v) level sharp = List.replicate (2 * k) v := by
  have e : List.replicate (2 * k) v = stepL k v v := by
    unfold stepL
    rw [List.replicate_append_replicate, Nat.two_mul]
  have o := edge_step (a := v) (b := v) (level := level) (sharp := sharp) hv hv hl hk
  rw [← e] at o
  refine ext_getD (edgeL_len _ _ _) fun i hi => ?_
  have g := (okL_get o i hi).1
  rw [edgeL_len, List.length_replicate] at hi
  rw [List.getD_eq_getElem?_getD (l := List.replicate _ _), List.getElem?_replicate, if_pos hi]
  show _ = v
  omega
theorem rep_get {n i : Nat} {v : Int} (h : i < n) : (List.replicate n v).getD i 0 = v := by
  rw [List.getD_eq_getElem?_getD, List.getElem?_replicate, if_pos h]; rfl
/-- Planes whose transforms are all of one size. -/
structure Uni (m : Cells) (W H mh sz : Nat) : Prop where
  hW : W = 4 * m.mw
  hH : H = 4 * mh
  w64 : W ≤ 64
  h64 : H ≤ 64
  w4 : 4 ≤ W
  h4 : 4 ≤ H
  ht : m.tx = List.replicate (m.mw * mh) (sz : Int)
  hi : m.ids.length = m.mw * mh
  hq : m.qs.length = m.mw * mh
  hs : TxP sz
  lv : 0 ≤ m.level ∧ m.level ≤ 63
  sh : 0 ≤ m.sharp ∧ m.sharp ≤ 7
section
variable {m : Cells} {W H mh sz : Nat} (u : Uni m W H mh sz)
include u
theorem Uni.tx {i : Nat} (h : i < m.mw * mh) : m.tx.getD i 0 = sz := by rw [u.ht]; exact rep_get h
theorem Uni.txp {i : Nat} (h : i < m.mw * mh) : TxP (m.tx.getD i 0) := by rw [u.tx h]; exact u.hs
theorem Uni.len : m.tx.length = m.mw * mh := by rw [u.ht, List.length_replicate]
theorem Uni.ok : PassOk W H ((H * W : Nat) : Int) m.mw mh m.tx m.ids.length m.qs.length m.level m.sharp := by
  have := u.hW
  have := u.hH
  have := u.w64
  have := u.h64
  have := u.w4
  have := u.h4
  have e : ((H * W : Nat) : Int) = (W : Int) * H := by rw [Nat.mul_comm]; exact Int.natCast_mul W H
  refine ⟨⟨?_, by omega, by omega, by omega, by omega, ?_, ?_, ?_, fun t ht => ?_⟩, u.lv.1, u.lv.2, u.sh.1, u.sh.2⟩
  · unfold checkS
    rw [if_pos ⟨by omega, by omega, by omega, by omega, e⟩]
  · rw [u.len]; exact Int.natCast_mul _ _
  · rw [u.hi]; exact Int.natCast_mul _ _
  · rw [u.hq]; exact Int.natCast_mul _ _
  · rw [u.ht] at ht
    rw [(List.mem_replicate.1 ht).2]; exact u.hs
theorem Uni.pass (lo : Nat) (A AT AI AQ : Option Addr) (c ct ci cq : Nat) (xs : List Int) (M : Mem) (hlo : lo ≤ M.length) (hx : RdI M .u8 A xs) (bx : Bytes xs) (hl : xs.length = H * W) (rt : RdI M .u8 AT m.tx) (ri : RdI M .i64 AI m.ids) (rq : RdB M AQ m.qs) :
    Ac P T lo F.deblock_Pass [.agg ⟨[.int .i64 W, .int .i64 H, .slice A (H * W) c]⟩, .agg ⟨[.int .i64 m.mw, .int .i64 mh, .slice AT (m.mw * mh) ct, .slice AI (m.mw * mh) ci, .slice AQ (m.mw * mh) cq]⟩, .bool m.up, .bool m.col, .int .i64 m.level, .int .i64 m.sharp] M fun r => ∃ a cc M', r = (.tuple ⟨[.agg ⟨[.int .i64 W, .int .i64 H, .slice (some a) (H * W) cc]⟩, .int .i64 0]⟩, M') ∧ Pre M M' ∧ RdI M' .u8 (some a) (m.passS W H xs (m.mw * mh)) := by
  have := u.w64
  have := u.h64
  have := u.hW
  have := u.hH
  have sm : H * W ≤ 64 * 64 := Nat.mul_le_mul u.h64 u.w64
  have sm2 : m.mw * mh ≤ 16 * 16 := Nat.mul_le_mul (by omega) (by omega)
  have K := pass_ok lo W H m.mw mh m A AT AI AQ c ct ci cq xs M hlo hx bx (by omega) rt ri rq (by rw [u.len]; omega) (by omega)
  rw [u.len, u.hi, u.hq, hl] at K
  refine Ac.mono K ?_
  rintro ⟨v, M'⟩ h
  obtain ⟨a, cc, rfl, p, b⟩ := h.got (by rw [hl]; exact u.ok)
  rw [hl] at *
  simp only [Int.toNat_natCast] at b
  rw [u.len] at b
  exact ⟨a, cc, M', rfl, p, b.rdI⟩
theorem Uni.geo {i : Nat} (h : i < m.mw * mh) (hs : ¬ m.skip i) : ∃ hf, m.taps W H i = 2 * hf ∧ (hf = 2 ∨ hf = 3 ∨ hf = 4 ∨ hf = 7) ∧ hf ≤ m.at_ i ∧ m.at_ i + hf ≤ m.side W H := by
  obtain ⟨g1, g2, g3, g4⟩ := _root_.Go.Zt.geo m W H mh i u.hW u.hH h (u.txp h) (u.txp (prev_lt h)) hs
  exact ⟨m.taps W H i / 2, by omega, by omega, g2, g3⟩
theorem Uni.flat {v : Int} (hv : 0 ≤ v ∧ v ≤ 255) : ∀ n, n ≤ m.mw * mh → m.passS W H (List.replicate (H * W) v) n = List.replicate (H * W) v
  | 0, _ => rfl
  | n + 1, h => by
    simp only [Cells.passS]
    rw [Uni.flat hv n (by omega)]
    unfold Cells.cellS
    split
    · rfl
    rename_i hs
    have hi : n < m.mw * mh := by omega
    obtain ⟨hf, e1, e2, _, _⟩ := u.geo hi hs
    have P1 := pos_eq m W H mh n u.hW u.hH hi (u.txp hi) (u.txp (prev_lt hi)) hs
    have ll : ∀ k, k ≤ 4 → m.linesS W H (List.replicate (H * W) v) n k = List.replicate (H * W) v := fun k => by
      induction k with
      | zero => intro _; rfl
      | succ k ih =>
        intro hk
        simp only [Cells.linesS]
        rw [ih (by omega)]
        refine lineS_id ?_
        have es : secL (List.replicate (H * W) v) (m.first W H n k) (m.step W) (m.taps W H n) = List.replicate (2 * hf) v := by
          refine ext_getD (by rw [secL_len, e1, List.length_replicate]) fun j hj => ?_
          rw [secL_len] at hj
          unfold secL
          rw [getD_map_range hj, rep_get (P1 k j (by omega) hj).2.1, rep_get (by omega)]
        rw [es]
        exact flat_edge hv u.lv.1 e2
    exact ll 4 (by omega)
end
/-- Where a sample lies across the edges. -/
def coord (m : Cells) (W p : Nat) : Nat := if m.up then p % W else p / W
theorem coord_eq {m : Cells} {W H mh sz : Nat} (u : Uni m W H mh sz) {i : Nat} (h : i < m.mw * mh) (hs : ¬ m.skip i) {k j : Nat} (hk : k < 4) (hj : j < m.taps W H i) : coord m W (m.first W H i k + j * m.step W) = m.at_ i - m.taps W H i / 2 + j := by
  obtain ⟨hf, e1, e2, e3, e4⟩ := u.geo h hs
  obtain ⟨v1, v2, v3⟩ := divmod_lt h
  have w := u.hW
  rw [(pos_eq m W H mh i u.hW u.hH h (u.txp h) (u.txp (prev_lt h)) hs k j hk hj).1]
  unfold coord
  have sd : ∀ {q r : Nat}, r < W → (q * W + r) / W = q ∧ (q * W + r) % W = r := fun {q r} hr => by
    rw [Nat.add_comm]
    exact ⟨by rw [Nat.add_mul_div_right r q (by omega), Nat.div_eq_of_lt hr, Nat.zero_add], by rw [Nat.add_mul_mod_self_right, Nat.mod_eq_of_lt hr]⟩
  unfold Cells.at_ at e3 ⊢
  unfold Cells.at_ Cells.side at e4
  cases hu : m.up with
  | true =>
    rw [hu] at e3 e4
    simp only [if_true] at e3 e4 ⊢
    exact (sd (by omega)).2
  | false =>
    rw [hu] at e3 e4
    simp only [Bool.false_eq_true, if_false] at e3 e4 ⊢
    exact (sd (by omega)).1
theorem wideL_out {xs : List Int} {n mm : Nat} {sh : Int} {j : Nat} : ∀ {k : Nat}, (∀ q, q < k → j ≠ xs.length / 2 - n + q) → (wideL xs n mm sh k).getD j 0 = xs.getD j 0
  | 0, _ => rfl
  | k + 1, h => by
    simp only [wideL]
    rw [getD_set_ne (h k (by omega))]
    exact wideL_out fun q hq => h q (by omega)
theorem edgeL_ends {xs : List Int} {level sharp : Int} (hl : xs.length = 14) {j : Nat} (hj : j = 0 ∨ j = 13) : (edgeL xs level sharp).getD j 0 = xs.getD j 0 := by
  unfold edgeL passL narrowL
  repeat' split
  · exact wideL_out fun q hq => by omega
  · exact wideL_out fun q hq => by omega
  · exact wideL_out fun q hq => by omega
  · rw [getD_set_ne (by omega), getD_set_ne (by omega)]
  · rw [getD_set_ne (by omega), getD_set_ne (by omega), getD_set_ne (by omega), getD_set_ne (by omega)]
  · rfl
/-- Near an edge, as the statement says. -/
def nearP (sz end_ c : Nat) : Prop := (c % sz < 6 ∧ c ≥ sz) ∨ (c % sz ≥ sz - 6 ∧ c / sz * sz + sz < end_)
theorem Uni.far {m : Cells} {W H mh sz : Nat} (u : Uni m W H mh sz) (h16 : sz = 16 ∨ sz = 32 ∨ sz = 64) (xs : List Int) (hl : xs.length = H * W) {p : Nat} (hn : ¬ nearP sz (m.side W H) (coord m W p)) : ∀ n, n ≤ m.mw * mh → (m.passS W H xs n).getD p 0 = xs.getD p 0
  | 0, _ => rfl
  | n + 1, h => by
    simp only [Cells.passS]
    rw [← Uni.far u h16 xs hl hn n (by omega)]
    generalize m.passS W H xs n = zs
    unfold Cells.cellS
    split
    · rfl
    rename_i hs
    have hi : n < m.mw * mh := by omega
    obtain ⟨hf, e1, e2, e3, e4⟩ := u.geo hi hs
    have at0 : m.at_ n ≠ 0 := fun e => hs (.inl e)
    have atm : m.at_ n % sz = 0 := by
      by_cases g : (m.at_ n : Int) % m.tx.getD n 0 = 0
      · rw [u.tx hi] at g; omega
      · exact absurd (.inr (.inl g)) hs
    have asd := at_lt m W H mh n u.hW u.hH hi
    have ll : ∀ k, k ≤ 4 → (m.linesS W H zs n k).getD p 0 = zs.getD p 0 := fun k => by
      induction k with
      | zero => intro _; rfl
      | succ k ih =>
        intro hk
        simp only [Cells.linesS]
        rw [← ih (by omega)]
        generalize m.linesS W H zs n k = ys
        unfold lineS
        refine putL_keep fun j hj hp => ?_
        have ce := coord_eq u hi hs (k := k) (j := j) (by omega) hj
        rw [← hp] at ce
        have sl := secL_len ys (m.first W H n k) (m.step W) (m.taps W H n)
        by_cases end14 : m.taps W H n = 14 ∧ (j = 0 ∨ j = 13)
        · rw [edgeL_ends (by rw [sl]; exact end14.1) end14.2]
          unfold secL
          rw [getD_map_range hj, hp]
        · refine absurd ?_ hn
          rw [ce]
          generalize m.at_ n = a at *
          have : j < 2 * hf := by omega
          have hj' : a - m.taps W H n / 2 + j ≤ a + 5 ∧ a ≤ a - m.taps W H n / 2 + j + 6 := by omega
          generalize a - m.taps W H n / 2 + j = c at *
          unfold nearP
          by_cases hc : a ≤ c
          · left
            rcases h16 with rfl | rfl | rfl <;> omega
          · right
            rcases h16 with rfl | rfl | rfl <;> omega
    exact ll 4 (by omega)
end Go.Zt
