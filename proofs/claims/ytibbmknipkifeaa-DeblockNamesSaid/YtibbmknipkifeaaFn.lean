/- A line of a pass, the document's; where lines lie. -/
import Derived.Test.YtibbmknipkifeaaFm
set_option linter.unusedVariables false
set_option linter.unusedSimpArgs false
set_option maxRecDepth 100000
namespace Go.Zt
theorem tapsN_le {r : Int} (col : Bool) (h : 4 ≤ r) : (tapsN r col = 4 ∨ tapsN r col = 6 ∨ tapsN r col = 8 ∨ tapsN r col = 14) ∧ ((tapsN r col / 2 : Nat) : Int) ≤ r := by
  unfold tapsN
  split
  · exact ⟨.inl rfl, by omega⟩
  · split
    · exact ⟨.inr (.inl rfl), by omega⟩
    · split
      · exact ⟨.inr (.inr (.inl rfl)), by omega⟩
      · exact ⟨.inr (.inr (.inr rfl)), by omega⟩
theorem divmod_lt {i mw mh : Nat} (h : i < mw * mh) : i / mw < mh ∧ i % mw < mw ∧ 0 < mw := by
  have h0 : 0 < mw := by
    rcases Nat.eq_zero_or_pos mw with e | e
    · rw [e, Nat.zero_mul] at h; omega
    · exact e
  exact ⟨(Nat.div_lt_iff_lt_mul h0).2 (by rwa [Nat.mul_comm] at h), Nat.mod_lt _ h0, h0⟩
theorem row_in {h w y c : Nat} (hy : y < h) (hc : c < w) : y * w + c < h * w := by
  have : (y + 1) * w ≤ h * w := Nat.mul_le_mul_right w (by omega)
  rw [Nat.add_mul, Nat.one_mul] at this
  omega
section
variable (m : Cells) (W H mh i : Nat) (hW : W = 4 * m.mw) (hH : H = 4 * mh) (hi : i < m.mw * mh) (t1 : TxP (m.tx.getD i 0)) (t2 : TxP (m.tx.getD (m.prev i) 0)) (hs : ¬ m.skip i)
include hW hH hi
theorem at_lt : m.at_ i < m.side W H ∧ m.at_ i % 4 = 0 ∧ m.side W H % 4 = 0 := by
  obtain ⟨h1, h2, h3⟩ := divmod_lt hi
  unfold Cells.at_ Cells.side
  split <;> omega
include t1 t2 hs
theorem geo : (m.taps W H i = 4 ∨ m.taps W H i = 6 ∨ m.taps W H i = 8 ∨ m.taps W H i = 14) ∧ m.taps W H i / 2 ≤ m.at_ i ∧ m.at_ i + m.taps W H i / 2 ≤ m.side W H ∧ 4 ≤ m.reach W H i := by
  obtain ⟨a1, a2, a3⟩ := at_lt m W H mh i hW hH hi
  have h0 : m.at_ i ≠ 0 := fun e => hs (.inl e)
  unfold TxP at t1 t2
  have hr : 4 ≤ m.reach W H i := by unfold Cells.reach; omega
  have hr2 : m.reach W H i ≤ m.at_ i ∧ m.reach W H i ≤ (m.side W H : Int) - m.at_ i := by unfold Cells.reach; omega
  obtain ⟨g1, g2⟩ := tapsN_le m.col hr
  unfold Cells.taps
  exact ⟨g1, by omega, by omega, hr⟩
/-- Where a sample of a line lies. -/
theorem pos_eq (k j : Nat) (hk : k < 4) (hj : j < m.taps W H i) : m.first W H i k + j * m.step W = (if m.up then (4 * (i / m.mw) + k) * W + (4 * (i % m.mw) - m.taps W H i / 2 + j) else (4 * (i / m.mw) - m.taps W H i / 2 + j) * W + (4 * (i % m.mw) + k)) ∧
    m.first W H i k + j * m.step W < H * W ∧ m.first W H i k + m.taps W H i / 2 * m.step W = 4 * (i / m.mw) * W + 4 * (i % m.mw) + k * m.along W := by
  obtain ⟨h1, h2, h3⟩ := divmod_lt hi
  obtain ⟨g1, g2, g3, _⟩ := geo m W H mh i hW hH hi t1 t2 hs
  unfold Cells.first
  unfold Cells.at_ at g2
  unfold Cells.at_ Cells.side at g3
  unfold Cells.step Cells.along
  generalize m.taps W H i = n at *
  generalize hy : i / m.mw = y at *
  generalize hx : i % m.mw = x at *
  cases hu : m.up with
  | true =>
    rw [hu] at g2 g3
    simp only [if_true] at g2 g3 ⊢
    have e : (4 * y + k) * W = 4 * y * W + k * W := Nat.add_mul ..
    have l := row_in (h := H) (w := W) (y := 4 * y + k) (c := 4 * x - n / 2 + j) (by omega) (by omega)
    refine ⟨by omega, by omega, by omega⟩
  | false =>
    rw [hu] at g2 g3
    simp only [Bool.false_eq_true, if_false] at g2 g3 ⊢
    have e : (4 * y - n / 2 + j) * W = 4 * y * W - n / 2 * W + j * W := by rw [Nat.add_mul, Nat.sub_mul]
    have e2 : n / 2 * W ≤ 4 * y * W := Nat.mul_le_mul_right W g2
    have l := row_in (h := H) (w := W) (y := 4 * y - n / 2 + j) (c := 4 * x + k) (by omega) (by omega)
    refine ⟨by omega, by omega, by omega⟩
end
theorem secL_succ (xs : List Int) (b st n : Nat) : secL xs b st (n + 1) = secL xs b st n ++ [xs.getD (b + n * st) 0] := by
  unfold secL; rw [List.range_succ, List.map_append]; rfl
theorem putL_bytes {xs : List Int} (bx : Bytes xs) (b st : Nat) {zs : List Int} (bz : Bytes zs) : ∀ n, Bytes (putL xs b st zs n)
  | 0 => bx
  | n + 1 => fun z hz => by
    simp only [putL] at hz
    rcases List.mem_or_eq_of_mem_set hz with hz | rfl
    · exact putL_bytes bx b st bz n z hz
    · exact bz.get _
theorem set_bytes {xs : List Int} (bx : Bytes xs) (i : Nat) {v : Int} (hv : 0 ≤ v ∧ v ≤ 255) : Bytes (xs.set i v) := fun z hz => by
  rcases List.mem_or_eq_of_mem_set hz with hz | rfl
  · exact bx z hz
  · exact hv
theorem wideL_all {xs : List Int} (bx : Bytes xs) (n m : Nat) (sh : Int) : ∀ k, Bytes (wideL xs n m sh k)
  | 0 => bx
  | k + 1 => by
    simp only [wideL]
    refine set_bytes (wideL_all bx n m sh k) _ ?_
    unfold valE
    rw [IntKind.wrap_u8]; omega
theorem clip_byte (v : Int) : 0 ≤ clipS v 0 255 ∧ clipS v 0 255 ≤ 255 := by
  unfold clipS
  repeat' split
  all_goals omega
theorem edgeL_bytes {xs : List Int} (bx : Bytes xs) (level sharp : Int) : Bytes (edgeL xs level sharp) := by
  unfold edgeL passL narrowL
  repeat' split
  · exact wideL_all bx _ _ _ _
  · exact wideL_all bx _ _ _ _
  · exact wideL_all bx _ _ _ _
  · exact set_bytes (set_bytes bx _ (clip_byte _)) _ (clip_byte _)
  · exact set_bytes (set_bytes (set_bytes (set_bytes bx _ (clip_byte _)) _ (clip_byte _)) _ (clip_byte _)) _ (clip_byte _)
  · exact bx
theorem lineS_len (xs : List Int) (b st n : Nat) (level sharp : Int) : (lineS xs b st n level sharp).length = xs.length := putL_len ..
theorem lineS_bytes {xs : List Int} (bx : Bytes xs) (b st n : Nat) (level sharp : Int) : Bytes (lineS xs b st n level sharp) := putL_bytes bx b st (edgeL_bytes (secL_bytes bx b st n) level sharp) n
theorem idx_eq {b st hf j : Nat} (h1 : b ≤ 262144) (h2 : st ≤ 512) (h3 : hf ≤ 7) (h4 : j ≤ 14) : IntKind.i64.wrap (((b + hf * st : Nat) : Int) + IntKind.i64.wrap (((j : Int) - hf) * st)) = ((b + j * st : Nat) : Int) := by
  have e : ((j : Int) - hf) * st = ((j * st : Nat) : Int) - ((hf * st : Nat) : Int) := by rw [Int.sub_mul, Int.natCast_mul, Int.natCast_mul]
  have m1 : j * st ≤ 14 * 512 := Nat.mul_le_mul h4 h2
  have m2 : hf * st ≤ 7 * 512 := Nat.mul_le_mul h3 h2
  rw [e]
  generalize j * st = p at *
  generalize hf * st = q at *
  rw [w64 (x := (p : Int) - q) (by omega), w64 (by omega)]
  omega
theorem half_eq {hf : Nat} (h : hf ≤ 7) : IntKind.i64.wrap (Int.tdiv ((2 * hf : Nat) : Int) 2) = (hf : Int) ∧ IntKind.i64.wrap (Int.tdiv (IntKind.i64.wrap (0 - ((2 * hf : Nat) : Int))) 2) = -(hf : Int) := by
  constructor
  · rw [show Int.tdiv ((2 * hf : Nat) : Int) 2 = ((2 * hf / 2 : Nat) : Int) from rfl, w64 (by omega)]; omega
  · rw [w64 (x := 0 - ((2 * hf : Nat) : Int)) (by omega), show (0 : Int) - ((2 * hf : Nat) : Int) = -((2 * hf : Nat) : Int) by omega, Int.neg_tdiv, show Int.tdiv ((2 * hf : Nat) : Int) 2 = ((2 * hf / 2 : Nat) : Int) from rfl, w64 (by omega)]; omega
section
variable (lo : Nat) (W' H' : Int) (a : Addr) (c : Nat) (b st hf : Nat) (level sharp : Int) (Mb : Mem)
variable (hb : b ≤ 262144) (hst : st ≤ 512) (hhf : hf = 2 ∨ hf = 3 ∨ hf = 4 ∨ hf = 7) (hlo : lo ≤ Mb.length)
include hb hst hhf hlo
theorem rline_write (z : Addr) (cz : Nat) (xs zs : List Int) (hz : zs.length = 2 * hf) (hin : ∀ j, j < 2 * hf → b + j * st < xs.length) (M1 : Mem) (hza : a.block < M1.length) : ∀ (d j : Nat) (M : Mem), 2 * hf - j = d → j ≤ 2 * hf → Pre Mb M → Buf Mb M a ((putL xs b st zs j).map (Value.int .u8)) → Buf M1 M z (zs.map (Value.int .u8)) →
    Run P T lo F.zoetroperef22_line (zoetroperef22_line.c252 ((b + hf * st : Nat) : Int) st ((2 * hf : Nat) : Int) (some z) (2 * hf) cz ((j : Int) - hf) W' H' (some a) xs.length c M) fun r => ∃ M', r = (.tuple ⟨[]⟩, M') ∧ Pre Mb M' ∧ Buf Mb M' a ((putL xs b st zs (2 * hf)).map (Value.int .u8)) := by
  intro d
  induction d with
  | zero =>
    intro j M hd hj hp hbuf hbz
    obtain rfl : j = 2 * hf := by omega
    refine Run.cut (Evp.of_eq (fun k => zoetroperef22_line.p252 k ..) ?_)
    rw [(half_eq (hf := hf) (by omega)).1]
    refine Evp.dec (fun h => absurd h (by omega)) fun _ => Evp.ret (Run.ret ⟨M, rfl, hp, hbuf⟩)
  | succ d ih =>
    intro j M hd hj hp hbuf hbz
    refine Run.cut (Evp.of_eq (fun k => zoetroperef22_line.p252 k ..) ?_)
    rw [(half_eq (hf := hf) (by omega)).1, idx_eq hb hst (by omega) (by omega)]
    refine Evp.dec (fun _ => ?_) fun h => absurd h (by omega)
    rw [w64 (x := (j : Int) - hf + hf) (by omega), show (j : Int) - hf + hf = (j : Int) by omega]
    refine Evp.pos (by omega) ?_
    simp only [Int.toNat_natCast]
    refine Evp.ldI hbz.rdI (by omega) fun _ _ => ?_
    have := hin j (by omega)
    refine Evp.pos (by omega) (Evp.some rfl ?_)
    obtain ⟨M3, h1, h2, h3, h4, h5⟩ := hbuf.st (lo := lo) (i := b + j * st) (vs := [.int .u8 (zs.getD j 0)]) hp hlo (by simp [putL_len]; omega)
    refine Evp.some h1 ?_
    rw [setL_one, set_map] at h2
    rw [w64 (by omega), show (j : Int) - hf + 1 = ((j + 1 : Nat) : Int) - hf by omega]
    exact Evp.ret (ih (j + 1) M3 (by omega) (by omega) h3 h2 (hbz.keep h4 fun a' e => by injection e with e; subst e; have := hbz.new; omega))
theorem rline_ok (xs : List Int) (M0 : Mem) (bx : Bytes xs) (hin : ∀ j, j < 2 * hf → b + j * st < xs.length) (hl : 0 ≤ level ∧ level ≤ 63) (hsh : 0 ≤ sharp ∧ sharp ≤ 7) (hp : Pre Mb M0) (hbuf : Buf Mb M0 a (xs.map (Value.int .u8))) :
    Ac P T lo F.zoetroperef22_line [.agg ⟨[.int .i64 W', .int .i64 H', .slice (some a) xs.length c]⟩, .int .i64 ((b + hf * st : Nat) : Int), .int .i64 st, .int .i64 ((2 * hf : Nat) : Int), .int .i64 level, .int .i64 sharp] M0 fun r => ∃ M', r = (.tuple ⟨[]⟩, M') ∧ Pre Mb M' ∧ Buf Mb M' a ((lineS xs b st (2 * hf) level sharp).map (Value.int .u8)) := by
  have hab : a.block < M0.length := by
    obtain ⟨_, _, _, hb2, _⟩ := hbuf
    exact (List.getElem?_eq_some_iff.1 hb2).1
  have read : ∀ (d j : Nat) (B : Option Addr) (cb : Nat) (M : Mem), 2 * hf - j = d → j ≤ 2 * hf → Pre M0 M → Grow M0 M 1 B j ((secL xs b st j).map (Value.int .u8)) →
      Run P T lo F.zoetroperef22_line (zoetroperef22_line.c116 ((b + hf * st : Nat) : Int) st ((2 * hf : Nat) : Int) level sharp B j cb ((j : Int) - hf) W' H' (some a) xs.length c M) fun r => ∃ M', r = (.tuple ⟨[]⟩, M') ∧ Pre Mb M' ∧ Buf Mb M' a ((lineS xs b st (2 * hf) level sharp).map (Value.int .u8)) := by
    intro d
    induction d with
    | zero =>
      intro j B cb M hd hj hpM hg
      obtain rfl : j = 2 * hf := by omega
      refine Run.cut (Evp.of_eq (fun k => zoetroperef22_line.p116 k ..) ?_)
      rw [(half_eq (hf := hf) (by omega)).1]
      refine Evp.dec (fun h => absurd h (by omega)) fun _ => ?_
      have sl := secL_len xs b st (2 * hf)
      have hB : RdI M .u8 B (secL xs b st (2 * hf)) := by
        have := hg
        rw [← sl] at this
        exact Grow.rdI (by rw [sl] at this ⊢; exact hg)
      have E := redge_ok lo B cb (secL xs b st (2 * hf)) M level sharp ((2 * hf : Nat) : Int) (Nat.le_trans hlo (hp.trans hpM).len) hB (secL_bytes bx b st _)
      rw [sl] at E
      refine Evp.ob E ?_
      rintro ⟨v, M1⟩ h1
      have ok : EdgeOk (secL xs b st (2 * hf)).length ((2 * hf : Nat) : Int) level sharp := by rw [sl]; exact ⟨by omega, rfl, hl.1, hl.2, hsh.1, hsh.2⟩
      obtain ⟨z, cz, rfl, p1, b1⟩ := h1.got ok _ rfl
      simp only [ret_int, ret_bool, ret_flt, ret_slc, ret_str, ret_ptr, ret_agg, ret_tup, ob_some, bb_true, bb_false, List.getElem?_cons_zero, List.getElem?_cons_succ, List.length_cons, List.length_nil, Nat.reduceAdd, Nat.reduceLT]
      rw [(half_eq (hf := hf) (by omega)).2, sl]
      have := rline_write lo W' H' a c b st hf Mb hb hst hhf hlo z cz xs _ (by rw [edgeL_len, sl]) hin M (Nat.lt_of_lt_of_le hab hpM.len) _ 0 M1 rfl (Nat.zero_le _) ((hp.trans hpM).trans p1) ((hbuf.pre hpM).pre p1) b1
      rw [show (((0 : Nat) : Int) - hf) = -(hf : Int) by omega] at this
      exact Evp.ret this
    | succ d ih =>
      intro j B cb M hd hj hpM hg
      refine Run.cut (Evp.of_eq (fun k => zoetroperef22_line.p116 k ..) ?_)
      rw [(half_eq (hf := hf) (by omega)).1, idx_eq hb hst (by omega) (by omega)]
      refine Evp.dec (fun _ => ?_) fun h => absurd h (by omega)
      have := hin j (by omega)
      refine Evp.pos (by omega) ?_
      simp only [Int.toNat_natCast]
      refine Evp.ldI (hbuf.rdI.pre hpM) this fun _ _ => ?_
      obtain ⟨⟨sa, sn, sc⟩, M3, e3, g3, hsn, p3, _, _⟩ := hg.app (lo := lo) (bytes := 1) (c := cb) (m := 1) (vs := [.int .u8 (xs.getD (b + j * st) 0)]) hpM (Nat.le_trans hlo hp.len) rfl (by omega) (by omega)
      refine Evp.some e3 ?_
      simp only at hsn g3
      subst hsn
      rw [w64 (by omega), show (j : Int) - hf + 1 = ((j + 1 : Nat) : Int) - hf by omega]
      refine Evp.ret (ih (j + 1) sa sc M3 (by omega) (by omega) p3 ?_)
      rw [secL_succ, List.map_append]
      exact g3
  refine Ac.of (Evp.of_eq (fun k => zoetroperef22_line.entry k ..) ?_)
  rw [(half_eq (hf := hf) (by omega)).2, show -(hf : Int) = ((0 : Nat) : Int) - hf by omega]
  exact Evp.ret (read _ 0 none 0 M0 rfl (Nat.zero_le _) (Pre.refl _) Grow.nil)
end
end Go.Zt
