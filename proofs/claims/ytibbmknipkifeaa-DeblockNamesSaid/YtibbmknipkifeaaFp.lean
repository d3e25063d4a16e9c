/- A pass, the program's. -/
import Derived.Test.YtibbmknipkifeaaFo
set_option linter.unusedVariables false
set_option linter.unusedSimpArgs false
set_option maxRecDepth 100000
namespace Go.Zt
theorem reachTaps_ok (lo : Nat) (r : Int) (col : Bool) (M : Mem) : Ac P T lo F.deblock_reachTaps [.int .i64 r, .bool col] M fun q => q = (.int .i64 ((tapsN r col : Nat) : Int), M) := by
  refine Ac.of (Evp.of_eq (fun k => deblock_reachTaps.entry k ..) ?_)
  unfold tapsN
  refine Evp.dec (fun h => Evp.ret (Run.ret (by rw [if_pos h]; rfl))) fun h => ?_
  rw [if_neg h]
  refine Evp.bb (fun h => Evp.ret (Run.ret (by rw [if_pos h]; rfl))) fun h' => ?_
  rw [if_neg (by rw [h']; simp)]
  refine Evp.dec (fun h => Evp.ret (Run.ret (by rw [if_pos h]; rfl))) fun h => Evp.ret (Run.ret (by rw [if_neg h]; rfl))
theorem zerosL_one (v : Value) (n : Nat) : zerosL [v] n = List.replicate n v := by
  unfold zerosL
  induction n with
  | zero => rfl
  | succ n ih => rw [List.replicate_succ, List.flatten_cons, ih]; rfl

namespace Cells
def back (m : Cells) : Nat := if m.up then 1 else m.mw
end Cells
section
variable (lo W H mh : Nat) (m : Cells) (AT AI AQ : Option Addr) (n ct ci cq : Nat) (a : Addr) (co : Nat) (Mb : Mem) (hlo : lo ≤ Mb.length) (f : PassF m W H mh n AT AI AQ Mb) (h0 : m.level ≠ 0) (Q : Value × Mem → Prop)
include hlo f
theorem plane_write (x y i k tn : Nat) (b : Nat) (hb : b ≤ 262144) (z : Addr) (cz : Nat) (xs zs : List Int) (hl : xs.length = n) (hz : zs.length = tn) (ht : tn ≤ 14) (hin : ∀ j, j < tn → b + j * m.step W < n) (M1 : Mem) (hza : a.block < M1.length)
    (next : ∀ M, Pre Mb M → Buf Mb M a ((putL xs b (m.step W) zs tn).map (Value.int .u8)) → Run P T lo F.deblock_Pass (deblock_Pass.c33462780 m.up m.col (m.step W : Nat) (m.along W : Nat) (m.back : Nat) (m.side W H : Nat) x y tn AT m.tx.length ct m.tx.length i ((k + 1 : Nat) : Int) W H (some a) n co m.mw mh AT m.tx.length ct AI m.ids.length ci AQ m.qs.length cq 0 0 none 0 0 (limitS m.level m.sharp) (2 * (m.level + 2) + limitS m.level m.sharp) (m.level / 16) M) Q) (hk : k < 4) :
    ∀ (d j : Nat) (M : Mem), tn - j = d → j ≤ tn → Pre Mb M → Buf Mb M a ((putL xs b (m.step W) zs j).map (Value.int .u8)) → Buf M1 M z (zs.map (Value.int .u8)) →
      Run P T lo F.deblock_Pass (deblock_Pass.c68531775100 m.up m.col (m.step W : Nat) (m.along W : Nat) (m.back : Nat) (m.side W H : Nat) x y tn b AT m.tx.length ct m.tx.length i k (some z) tn cz tn j W H (some a) n co m.mw mh AT m.tx.length ct AI m.ids.length ci AQ m.qs.length cq 0 0 none 0 0 (limitS m.level m.sharp) (2 * (m.level + 2) + limitS m.level m.sharp) (m.level / 16) M) Q := by
  have w512 := f.w512
  have st : m.step W ≤ 512 := by unfold Cells.step; split <;> omega
  intro d
  induction d with
  | zero =>
    intro j M hd hj hp hbuf hbz
    obtain rfl : j = tn := by omega
    refine Run.cut (Evp.of_eq (fun k => deblock_Pass.p68531775100 k ..) ?_)
    refine Evp.dec (fun h => absurd h (by omega)) fun _ => ?_
    rw [w64 (by omega)]
    exact Evp.ret (next M hp hbuf)
  | succ d ih =>
    intro j M hd hj hp hbuf hbz
    have hlt := hin j (by omega)
    have jm : j * m.step W ≤ 14 * 512 := Nat.mul_le_mul (by omega) st
    have ei : IntKind.i64.wrap ((b : Int) + IntKind.i64.wrap ((j : Int) * (m.step W : Nat))) = ((b + j * m.step W : Nat) : Int) := by
      rw [← Int.natCast_mul, w64 (x := ((j * m.step W : Nat) : Int)) (by omega), w64 (by omega)]; omega
    refine Run.cut (Evp.of_eq (fun k => deblock_Pass.p68531775100 k ..) ?_)
    rw [ei]
    refine Evp.dec (fun _ => ?_) fun h => absurd h (by omega)
    refine Evp.pos (by omega) ?_
    simp only [Int.toNat_natCast]
    refine Evp.ldI hbz.rdI (by omega) fun _ _ => ?_
    refine Evp.pos (by omega) (Evp.some rfl ?_)
    obtain ⟨M3, h1, h2, h3, h4, h5⟩ := hbuf.st (lo := lo) (i := b + j * m.step W) (vs := [.int .u8 (zs.getD j 0)]) hp hlo (by simp [putL_len]; omega)
    refine Evp.some h1 ?_
    rw [setL_one, set_map] at h2
    rw [w64 (by omega)]
    exact Evp.ret (ih (j + 1) M3 (by omega) (by omega) h3 h2 (hbz.keep h4 fun a' e => by injection e with e; subst e; have := hbz.new; omega))
include h0
theorem plane_read (x y i k hf : Nat) (hhf : hf = 2 ∨ hf = 3 ∨ hf = 4 ∨ hf = 7) (b : Nat) (hb : b ≤ 262144) (xs : List Int) (hl : xs.length = n) (bx : Bytes xs) (hin : ∀ j, j < 2 * hf → b + j * m.step W < n) (hk : k < 4)
    (next : ∀ M, Pre Mb M → Buf Mb M a ((lineS xs b (m.step W) (2 * hf) m.level m.sharp).map (Value.int .u8)) → Run P T lo F.deblock_Pass (deblock_Pass.c33462780 m.up m.col (m.step W : Nat) (m.along W : Nat) (m.back : Nat) (m.side W H : Nat) x y ((2 * hf : Nat) : Int) AT m.tx.length ct m.tx.length i ((k + 1 : Nat) : Int) W H (some a) n co m.mw mh AT m.tx.length ct AI m.ids.length ci AQ m.qs.length cq 0 0 none 0 0 (limitS m.level m.sharp) (2 * (m.level + 2) + limitS m.level m.sharp) (m.level / 16) M) Q)
    (M0 : Mem) (hp0 : Pre Mb M0) (hbuf0 : Buf Mb M0 a (xs.map (Value.int .u8))) (s : Addr) : ∀ (d j : Nat) (ss : List Int) (M : Mem), 2 * hf - j = d → j ≤ 2 * hf → ss.length = 2 * hf → (∀ q, q < j → ss.getD q 0 = xs.getD (b + q * m.step W) 0) → Pre M0 M → Buf M0 M s (ss.map (Value.int .u8)) →
      Run P T lo F.deblock_Pass (deblock_Pass.c68531775092 m.up m.col (m.step W : Nat) (m.along W : Nat) (m.back : Nat) (m.side W H : Nat) x y ((2 * hf : Nat) : Int) b AT m.tx.length ct m.tx.length i k ((2 * hf : Nat) : Int) j W H (some a) n co m.mw mh AT m.tx.length ct AI m.ids.length ci AQ m.qs.length cq 0 0 none 0 0 (limitS m.level m.sharp) (2 * (m.level + 2) + limitS m.level m.sharp) (m.level / 16) (some s) (2 * hf) (2 * hf) hf M) Q := by
  have w512 := f.w512
  have st : m.step W ≤ 512 := by unfold Cells.step; split <;> omega
  have hab : a.block < M0.length := by
    obtain ⟨_, _, _, hb2, _⟩ := hbuf0
    exact (List.getElem?_eq_some_iff.1 hb2).1
  intro d
  induction d with
  | zero =>
    intro j ss M hd hj hs hq hp hbs
    obtain rfl : j = 2 * hf := by omega
    have ess : ss = secL xs b (m.step W) (2 * hf) := ext_getD (by rw [hs, secL_len]) fun q hq' => by
      rw [hq q (by omega)]
      unfold secL
      rw [getD_map_range (by omega)]
    refine Run.cut (Evp.of_eq (fun k => deblock_Pass.p68531775092 k ..) ?_)
    refine Evp.dec (fun h => absurd h (by omega)) fun _ => ?_
    have F := filter_ok lo (some s) (2 * hf) ss M m.level (Nat.le_trans hlo (hp0.trans hp).len) hbs.rdI (by rw [ess]; exact secL_bytes bx _ _ _) (by omega) (limitS m.level m.sharp) (2 * (m.level + 2) + limitS m.level m.sharp)
    rw [hs, show 2 * hf / 2 = hf by omega] at F
    refine Evp.ob F ?_
    rintro _ ⟨z, cz, M1, rfl, p1, b1⟩
    simp only [ret_int, ret_bool, ret_flt, ret_slc, ret_str, ret_ptr, ret_agg, ret_tup, ob_some, bb_true, bb_false, List.getElem?_cons_zero, List.getElem?_cons_succ, List.length_cons, List.length_nil, Nat.reduceAdd, Nat.reduceLT]
    have ee : (if smoothE ss (limitS m.level m.sharp) (2 * (m.level + 2) + limitS m.level m.sharp) then passL ss m.level else ss) = edgeL (secL xs b (m.step W) (2 * hf)) m.level m.sharp := by
      rw [← ess]
      unfold edgeL edgeOf
      by_cases g : smoothE ss (limitS m.level m.sharp) (2 * (m.level + 2) + limitS m.level m.sharp)
      · rw [if_pos g, if_pos ⟨h0, g⟩]
      · rw [if_neg g, if_neg (fun e => g e.2)]
    rw [ee] at b1
    exact Evp.ret (plane_write lo W H mh m AT AI AQ n ct ci cq a co Mb hlo f Q x y i k (2 * hf) b hb z cz xs _ hl (by rw [edgeL_len, secL_len]) (by omega) hin M (Nat.lt_of_lt_of_le hab hp.len) next hk _ 0 M1 rfl (Nat.zero_le _) ((hp0.trans hp).trans p1) ((hbuf0.pre hp).pre p1) b1)
  | succ d ih =>
    intro j ss M hd hj hs hq hp hbs
    have hlt := hin j (by omega)
    have jm : j * m.step W ≤ 14 * 512 := Nat.mul_le_mul (by omega) st
    have ei : IntKind.i64.wrap ((b : Int) + IntKind.i64.wrap ((j : Int) * (m.step W : Nat))) = ((b + j * m.step W : Nat) : Int) := by
      rw [← Int.natCast_mul, w64 (x := ((j * m.step W : Nat) : Int)) (by omega), w64 (by omega)]; omega
    refine Run.cut (Evp.of_eq (fun k => deblock_Pass.p68531775092 k ..) ?_)
    rw [ei]
    refine Evp.dec (fun _ => ?_) fun h => absurd h (by omega)
    refine Evp.pos (by omega) ?_
    simp only [Int.toNat_natCast]
    refine Evp.ldI (hbuf0.pre hp).rdI (by omega) fun _ _ => ?_
    refine Evp.pos (by omega) (Evp.some rfl ?_)
    obtain ⟨M3, h1, h2, h3, h4, h5⟩ := hbs.st (lo := lo) (i := j) (vs := [.int .u8 (xs.getD (b + j * m.step W) 0)]) hp (Nat.le_trans hlo hp0.len) (by simp; omega)
    refine Evp.some h1 ?_
    rw [setL_one, set_map] at h2
    rw [w64 (by omega)]
    refine Evp.ret (ih (j + 1) _ M3 (by omega) (by omega) (by simpa using hs) (fun q hq' => ?_) h3 h2)
    rw [getD_set (by omega)]
    split
    · rename_i e; subst e; rfl
    · exact hq q (by omega)
theorem plane_lines (i : Nat) (hi : i < m.mw * mh) (hs : ¬ m.skip i) (xs : List Int) (hl : xs.length = n) (bx : Bytes xs)
    (next : ∀ M, Pre Mb M → Buf Mb M a ((m.linesS W H xs i 4).map (Value.int .u8)) → Run P T lo F.deblock_Pass (deblock_Pass.c32679 m.up m.col (m.step W : Nat) (m.along W : Nat) (m.back : Nat) (m.side W H : Nat) AT m.tx.length ct m.tx.length i W H (some a) n co m.mw mh AT m.tx.length ct AI m.ids.length ci AQ m.qs.length cq 0 0 none 0 0 (limitS m.level m.sharp) (2 * (m.level + 2) + limitS m.level m.sharp) (m.level / 16) M) Q) :
    ∀ (d k : Nat) (M : Mem), 4 - k = d → k ≤ 4 → Pre Mb M → Buf Mb M a ((m.linesS W H xs i k).map (Value.int .u8)) →
      Run P T lo F.deblock_Pass (deblock_Pass.c33462780 m.up m.col (m.step W : Nat) (m.along W : Nat) (m.back : Nat) (m.side W H : Nat) ((4 * (i % m.mw) : Nat) : Int) ((4 * (i / m.mw) : Nat) : Int) (m.taps W H i : Nat) AT m.tx.length ct m.tx.length i k W H (some a) n co m.mw mh AT m.tx.length ct AI m.ids.length ci AQ m.qs.length cq 0 0 none 0 0 (limitS m.level m.sharp) (2 * (m.level + 2) + limitS m.level m.sharp) (m.level / 16) M) Q := by
  obtain ⟨s1, s2⟩ := f.small
  have t1 := f.txp hi
  have t2 := f.txp (prev_lt hi)
  have w512 := f.w512
  have h512 := f.h512
  have hw := f.hW
  have hh := f.hH
  have ht := f.ht
  obtain ⟨g1, g2, g3, g4⟩ := geo m W H mh _ f.hW f.hH hi t1 t2 hs
  obtain ⟨v1, v2, v3⟩ := divmod_lt hi
  have P1 := pos_eq m W H mh _ f.hW f.hH hi t1 t2 hs
  obtain ⟨hf, hft, hfv⟩ : ∃ hf, m.taps W H i = 2 * hf ∧ (hf = 2 ∨ hf = 3 ∨ hf = 4 ∨ hf = 7) := ⟨m.taps W H i / 2, by omega, by omega⟩
  intro d
  induction d with
  | zero =>
    intro k M hd hk hp hbuf
    obtain rfl : k = 4 := by omega
    refine Run.cut (Evp.of_eq (fun k => deblock_Pass.p33462780 k ..) ?_)
    refine Evp.dec (fun h => absurd h (by omega)) fun _ => Evp.ret (next M hp hbuf)
  | succ d ih =>
    intro k M hd hk hp hbuf
    have P0 := (P1 k 0 (by omega) (by omega)).2
    have hin : ∀ j, j < 2 * hf → m.first W H i k + j * m.step W < n := fun j hj => by
      rw [f.hn]
      exact (P1 k j (by omega) (by omega)).2.1
    have b0 := hin 0 (by omega)
    rw [Nat.zero_mul, Nat.add_zero] at b0
    have st512 : m.step W ≤ 512 := by unfold Cells.step; split <;> omega
    have ec : IntKind.i64.wrap ((IntKind.i64.wrap ((IntKind.i64.wrap ((IntKind.i64.wrap (((4 * (i / m.mw) : Nat) : Int) * W)) + ((4 * (i % m.mw) : Nat) : Int))) + (IntKind.i64.wrap ((k : Int) * (m.along W : Nat))))) - (IntKind.i64.wrap ((IntKind.i64.wrap (Int.tdiv ((2 * hf : Nat) : Int) 2)) * (m.step W : Nat)))) = ((m.first W H i k : Nat) : Int) := by
      have e1 : hf = m.taps W H i / 2 := by omega
      have e2 := P0.2
      rw [← e1] at e2
      have a1 : m.along W ≤ 512 := by unfold Cells.along; split <;> omega
      have a2 : k * m.along W ≤ 4 * 512 := Nat.mul_le_mul (by omega) a1
      have a3 : 4 * (i / m.mw) * W ≤ 512 * 512 := Nat.mul_le_mul (by omega) w512
      have a4 : hf * m.step W ≤ 7 * 512 := Nat.mul_le_mul (by omega) st512
      rw [(half_eq (hf := hf) (by omega)).1, ← Int.natCast_mul k, ← Int.natCast_mul hf, ← Int.natCast_mul]
      generalize 4 * (i / m.mw) * W = q1 at *
      generalize k * m.along W = q2 at *
      generalize hf * m.step W = q3 at *
      generalize i % m.mw = x at *
      rw [w64 (x := (q1 : Int)) (by omega), w64 (x := (q1 : Int) + ((4 * x : Nat) : Int)) (by omega), w64 (x := (q2 : Int)) (by omega), w64 (x := (q1 : Int) + ((4 * x : Nat) : Int) + q2) (by omega), w64 (x := (q3 : Int)) (by omega), w64 (by omega)]
      omega
    refine Run.cut (Evp.of_eq (fun k => deblock_Pass.p33462780 k ..) ?_)
    rw [hft] at ih ⊢
    refine Evp.dec (fun _ => ?_) fun h => absurd h (by omega)
    refine Evp.pos ⟨by omega, by show _ * 1 ≤ _; omega⟩ ?_
    rw [ec, (half_eq (hf := hf) (by omega)).1]
    simp only [Int.toNat_natCast]
    have hz : zerosL [.int .u8 0] (2 * hf) = (List.replicate (2 * hf) (0 : Int)).map (Value.int .u8) := by rw [zerosL_one, List.map_replicate]
    rw [hz]
    refine Evp.ret (plane_read lo W H mh m AT AI AQ n ct ci cq a co Mb hlo f h0 Q _ _ i k hf hfv (m.first W H i k) (by omega) (m.linesS W H xs i k) (by rw [m.linesS_len]; exact hl) (m.linesS_bytes W H bx i k) hin (by omega) (fun M' hp' hb' => ?_) M hp hbuf ⟨M.length, 0, none⟩ _ 0 (List.replicate (2 * hf) 0) _ rfl (Nat.zero_le _) (by simp) (fun q hq => absurd hq (by omega)) (Pre.app _ _) (Buf.push (Pre.refl _)))
    refine ih (k + 1) M' (by omega) (by omega) hp' ?_
    simp only [Cells.linesS]
    rw [hft]
    exact hb'
theorem plane_cell (i : Nat) (hi : i < m.mw * mh) (xs : List Int) (hl : xs.length = n) (bx : Bytes xs) (M : Mem) (hp : Pre Mb M) (hbuf : Buf Mb M a (xs.map (Value.int .u8)))
    (next : ∀ M, Pre Mb M → Buf Mb M a ((m.cellS W H xs i).map (Value.int .u8)) → Run P T lo F.deblock_Pass (deblock_Pass.c32679 m.up m.col (m.step W : Nat) (m.along W : Nat) (m.back : Nat) (m.side W H : Nat) AT m.tx.length ct m.tx.length i W H (some a) n co m.mw mh AT m.tx.length ct AI m.ids.length ci AQ m.qs.length cq 0 0 none 0 0 (limitS m.level m.sharp) (2 * (m.level + 2) + limitS m.level m.sharp) (m.level / 16) M) Q) :
    Run P T lo F.deblock_Pass (deblock_Pass.c1045711 m.up m.col (m.step W : Nat) (m.along W : Nat) (m.back : Nat) (m.side W H : Nat) i (m.tx.getD i 0) ((4 * (i % m.mw) : Nat) : Int) ((4 * (i / m.mw) : Nat) : Int) (m.at_ i : Nat) AT m.tx.length ct m.tx.length i W H (some a) n co m.mw mh AT m.tx.length ct AI m.ids.length ci AQ m.qs.length cq 0 0 none 0 0 (limitS m.level m.sharp) (2 * (m.level + 2) + limitS m.level m.sharp) (m.level / 16) M) Q := by
  obtain ⟨s1, s2⟩ := f.small
  have t1 := f.txp hi
  have t2 := f.txp (prev_lt hi)
  have pl := prev_lt hi
  have skp : m.skip i → Run P T lo F.deblock_Pass (deblock_Pass.c32679 m.up m.col (m.step W : Nat) (m.along W : Nat) (m.back : Nat) (m.side W H : Nat) AT m.tx.length ct m.tx.length i W H (some a) n co m.mw mh AT m.tx.length ct AI m.ids.length ci AQ m.qs.length cq 0 0 none 0 0 (limitS m.level m.sharp) (2 * (m.level + 2) + limitS m.level m.sharp) (m.level / 16) M) Q := fun h => next M hp (by unfold Cells.cellS; rw [if_pos h]; exact hbuf)
  have asd := at_lt m W H mh _ f.hW f.hH hi
  obtain ⟨v1, v2, v3⟩ := divmod_lt hi
  have w512 := f.w512
  have h512 := f.h512
  have sd : m.side W H ≤ 512 := by unfold Cells.side; split <;> omega
  have t1' := t1
  have t2' := t2
  unfold TxP at t1' t2'
  have ht := f.ht
  have hii := f.hi
  have hqq := f.hq
  have rt := f.rt.pre hp
  have ri := f.ri.pre hp
  have rq := f.rq.pre hp
  have go : ¬ m.skip i → Evp (fun k => pb (0 ≤ ((m.prev i : Nat) : Int) ∧ ((m.prev i : Nat) : Int) < (m.tx.length : Int)) (ob AT fun a49 => ob ((M.ld (plus a49 (m.prev i))).bind (Value.int? .u8)) fun x50 =>
      ob (acall P T k lo F.deblock_reachTaps [.int .i64 (minI (minI (minI (IntKind.i64.wrap (m.tx.getD i 0)) (IntKind.i64.wrap x50)) (m.at_ i : Nat)) (IntKind.i64.wrap (((m.side W H : Nat) : Int) - (m.at_ i : Nat)))), .bool m.col] M) fun r51 => ob ((some r51.1).bind (Value.int? .i64)) fun x52 =>
      some (deblock_Pass.c33462780 m.up m.col (m.step W : Nat) (m.along W : Nat) (m.back : Nat) (m.side W H : Nat) ((4 * (i % m.mw) : Nat) : Int) ((4 * (i / m.mw) : Nat) : Int) x52 AT m.tx.length ct m.tx.length i 0 W H (some a) n co m.mw mh AT m.tx.length ct AI m.ids.length ci AQ m.qs.length cq 0 0 none 0 0 (limitS m.level m.sharp) (2 * (m.level + 2) + limitS m.level m.sharp) (m.level / 16) r51.2)) none) fun out => Run P T lo F.deblock_Pass out Q := fun h => by
    refine Evp.pos (by omega) (Evp.ldI rt (by omega) fun _ _ => ?_)
    have er : minI (minI (minI (IntKind.i64.wrap (m.tx.getD i 0)) (IntKind.i64.wrap (m.tx.getD (m.prev i) 0))) (m.at_ i : Nat)) (IntKind.i64.wrap (((m.side W H : Nat) : Int) - (m.at_ i : Nat))) = m.reach W H i := by
      rw [w64 (x := m.tx.getD i 0) (by omega), w64 (x := m.tx.getD (m.prev i) 0) (by omega), w64 (x := ((m.side W H : Nat) : Int) - (m.at_ i : Nat)) (by omega), minI_eq, minI_eq, minI_eq]
      unfold Cells.reach
      omega
    rw [er]
    refine Evp.ob (reachTaps_ok lo (m.reach W H i) m.col M) ?_
    rintro _ rfl
    simp only [ret_int, ret_bool, ret_flt, ret_slc, ret_str, ret_ptr, ret_agg, ret_tup, ob_some, bb_true, bb_false, List.getElem?_cons_zero, List.getElem?_cons_succ, List.length_cons, List.length_nil, Nat.reduceAdd, Nat.reduceLT]
    exact Evp.ret (plane_lines lo W H mh m AT AI AQ n ct ci cq a co Mb hlo f h0 Q i hi h xs hl bx (fun M' hp' hb' => next M' hp' (by unfold Cells.cellS; rw [if_neg h]; exact hb')) _ 0 M rfl (Nat.zero_le _) hp hbuf)
  refine Run.cut (Evp.of_eq (fun k => deblock_Pass.p1045711 k ..) ?_)
  refine Evp.eqb (fun h => Evp.ret (skp (.inl (by omega)))) fun h00 => ?_
  rw [w64 (x := m.tx.getD i 0) (by omega)] at *
  refine Evp.neg (by omega) ?_
  have em : Int.tmod (m.at_ i : Int) (m.tx.getD i 0) = (m.at_ i : Int) % m.tx.getD i 0 := Int.tmod_eq_emod_of_nonneg (by omega)
  rw [em]
  refine Evp.neb (fun h => Evp.ret (skp (.inr (.inl h)))) fun h1 => ?_
  have eb : IntKind.i64.wrap ((i : Int) - (m.back : Nat)) = ((m.prev i : Nat) : Int) := by
    unfold Cells.at_ at h00
    have dm := Nat.div_add_mod i m.mw
    unfold Cells.prev Cells.back
    cases hu : m.up with
    | true =>
      rw [hu] at h00
      simp only [if_true] at h00 ⊢
      have : i % m.mw ≤ i := Nat.mod_le _ _
      rw [w64 (by omega)]; omega
    | false =>
      rw [hu] at h00
      simp only [Bool.false_eq_true, if_false] at h00 ⊢
      have : m.mw * 1 ≤ m.mw * (i / m.mw) := Nat.mul_le_mul_left _ (by omega)
      rw [w64 (by omega)]; omega
  rw [eb]
  simp only [Int.toNat_natCast]
  refine Evp.pos (by omega) (Evp.ldI ri (by omega) fun _ _ => ?_)
  refine Evp.pos (by omega) (Evp.ldI ri (by omega) fun _ _ => ?_)
  refine Evp.eqb (fun h2 => ?_) fun h2 => ?_
  · refine Evp.pos (by omega) (Evp.ldB rq (by omega) fun _ _ => ?_)
    refine Evp.bb (fun h3 => ?_) fun h3 => ?_
    · refine Evp.pos (by omega) (Evp.ldB rq (by omega) fun _ _ => ?_)
      refine Evp.bb (fun h4 => Evp.ret (skp (.inr (.inr ⟨h2, h3, h4⟩)))) fun h4 => ?_
      refine go ?_
      rintro (e | e | e)
      · omega
      · exact e h1
      · rw [h4] at e; cases e.2.2
    · refine go ?_
      rintro (e | e | e)
      · omega
      · exact e h1
      · rw [h3] at e; cases e.2.1
  · refine go ?_
    rintro (e | e | e)
    · omega
    · exact e h1
    · exact h2 e.1
theorem plane_cells (xs : List Int) (hl : xs.length = n) (bx : Bytes xs) (fin : ∀ M, Pre Mb M → Buf Mb M a ((m.passS W H xs m.tx.length).map (Value.int .u8)) → Q (.tuple ⟨[.agg ⟨[.int .i64 W, .int .i64 H, .slice (some a) n co]⟩, .int .i64 0]⟩, M)) :
    ∀ (d i : Nat) (M : Mem), m.tx.length - i = d → i ≤ m.tx.length → Pre Mb M → Buf Mb M a ((m.passS W H xs i).map (Value.int .u8)) →
      Run P T lo F.deblock_Pass (deblock_Pass.c4084 m.up m.col (m.step W : Nat) (m.along W : Nat) (m.back : Nat) (m.side W H : Nat) AT m.tx.length ct m.tx.length i W H (some a) n co m.mw mh AT m.tx.length ct AI m.ids.length ci AQ m.qs.length cq 0 0 none 0 0 (limitS m.level m.sharp) (2 * (m.level + 2) + limitS m.level m.sharp) (m.level / 16) M) Q := by
  obtain ⟨s1, s2⟩ := f.small
  have w512 := f.w512
  have h512 := f.h512
  have hw := f.hW
  have hh := f.hH
  have ht := f.ht
  intro d
  induction d with
  | zero =>
    intro i M hd hi hp hbuf
    obtain rfl : i = m.tx.length := by omega
    refine Run.cut (Evp.of_eq (fun k => deblock_Pass.p4084 k ..) ?_)
    refine Evp.dec (fun h => absurd h (by omega)) fun _ => Evp.ret (Run.ret (fin M hp hbuf))
  | succ d ih =>
    intro i M hd hi hp hbuf
    have hil : i < m.mw * mh := by omega
    obtain ⟨v1, v2, v3⟩ := divmod_lt hil
    have nx : ∀ M, Pre Mb M → Buf Mb M a ((m.cellS W H (m.passS W H xs i) i).map (Value.int .u8)) → Run P T lo F.deblock_Pass (deblock_Pass.c32679 m.up m.col (m.step W : Nat) (m.along W : Nat) (m.back : Nat) (m.side W H : Nat) AT m.tx.length ct m.tx.length i W H (some a) n co m.mw mh AT m.tx.length ct AI m.ids.length ci AQ m.qs.length cq 0 0 none 0 0 (limitS m.level m.sharp) (2 * (m.level + 2) + limitS m.level m.sharp) (m.level / 16) M) Q := fun M' hp' hb' => by
      refine Run.cut (Evp.of_eq (fun k => deblock_Pass.p32679 k ..) ?_)
      rw [w64 (by omega)]
      exact Evp.ret (ih (i + 1) M' (by omega) (by omega) hp' hb')
    have cell := plane_cell lo W H mh m AT AI AQ n ct ci cq a co Mb hlo f h0 Q i hil (m.passS W H xs i) (by rw [m.passS_len]; exact hl) (m.passS_bytes W H bx i) M hp hbuf nx
    have ex : IntKind.i64.wrap (4 * Int.tmod (i : Int) (m.mw : Int)) = ((4 * (i % m.mw) : Nat) : Int) := by
      rw [show Int.tmod (i : Int) (m.mw : Int) = ((i % m.mw : Nat) : Int) from rfl, w64 (by omega)]; omega
    have ey : IntKind.i64.wrap (4 * IntKind.i64.wrap (Int.tdiv (i : Int) (m.mw : Int))) = ((4 * (i / m.mw) : Nat) : Int) := by
      rw [show Int.tdiv (i : Int) (m.mw : Int) = ((i / m.mw : Nat) : Int) from rfl]
      generalize i / m.mw = q at *
      rw [w64 (x := (q : Int)) (by omega), w64 (by omega)]; omega
    refine Run.cut (Evp.of_eq (fun k => deblock_Pass.p4084 k ..) ?_)
    refine Evp.dec (fun _ => ?_) fun h => absurd h (by omega)
    refine Evp.pos (by omega) ?_
    simp only [Int.toNat_natCast]
    refine Evp.ldI (f.rt.pre hp) (by omega) fun _ _ => ?_
    refine Evp.neg (by omega) (Evp.neg (by omega) ?_)
    rw [ex, ey]
    unfold Cells.at_ at cell
    refine Evp.nb (fun hu => ?_) fun hu => ?_
    · rw [if_neg (by rw [hu]; simp)] at cell; exact Evp.ret cell
    · rw [if_pos hu] at cell; exact Evp.ret cell
end
end Go.Zt
