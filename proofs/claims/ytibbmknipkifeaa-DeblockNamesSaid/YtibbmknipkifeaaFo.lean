/- A pass, the document's. -/
import Derived.Test.YtibbmknipkifeaaFn
set_option linter.unusedVariables false
set_option linter.unusedSimpArgs false
set_option maxRecDepth 100000
namespace Go.Zt
theorem minI_eq (a b : Int) : minI a b = min a b := by unfold minI; omega
def PassOk (w h nx mw mh : Int) (tx : List Int) (ni nq level sharp : Int) : Prop := MayP w h nx mw mh tx ni nq ∧ 0 ≤ level ∧ level ≤ 63 ∧ 0 ≤ sharp ∧ sharp ≤ 7
noncomputable instance (w h nx mw mh : Int) (tx : List Int) (ni nq level sharp : Int) : Decidable (PassOk w h nx mw mh tx ni nq level sharp) := Classical.propDecidable _
def PassR (Mb : Mem) (w h : Int) (xs : List Int) (m : Cells) (mw mh : Int) (r : Value × Mem) : Prop :=
  Pre Mb r.2 ∧ if PassOk w h xs.length mw mh m.tx m.ids.length m.qs.length m.level m.sharp then ∃ a cc, r.1 = .tuple ⟨[.agg ⟨[.int .i64 w, .int .i64 h, .slice (some a) xs.length cc]⟩, .int .i64 0]⟩ ∧ Buf Mb r.2 a ((m.passS w.toNat h.toNat xs m.tx.length).map (Value.int .u8))
    else r.1 = .tuple ⟨[.agg ⟨[.int .i64 0, .int .i64 0, .slice none 0 0]⟩, .int .i64 2]⟩
namespace Cells
variable (m : Cells) (W H : Nat)
theorem linesS_len (xs : List Int) (i : Nat) : ∀ k, (m.linesS W H xs i k).length = xs.length
  | 0 => rfl
  | k + 1 => by simp only [linesS]; rw [lineS_len]; exact linesS_len xs i k
theorem cellS_len (xs : List Int) (i : Nat) : (m.cellS W H xs i).length = xs.length := by
  unfold cellS; split
  · rfl
  · exact linesS_len ..
theorem passS_len (xs : List Int) : ∀ i, (m.passS W H xs i).length = xs.length
  | 0 => rfl
  | i + 1 => by simp only [passS]; rw [cellS_len]; exact passS_len xs i
theorem linesS_bytes {xs : List Int} (bx : Bytes xs) (i : Nat) : ∀ k, Bytes (m.linesS W H xs i k)
  | 0 => bx
  | k + 1 => by simp only [linesS]; exact lineS_bytes (linesS_bytes bx i k) _ _ _ _ _
theorem cellS_bytes {xs : List Int} (bx : Bytes xs) (i : Nat) : Bytes (m.cellS W H xs i) := by
  unfold cellS; split
  · exact bx
  · exact linesS_bytes m W H bx i 4
theorem passS_bytes {xs : List Int} (bx : Bytes xs) : ∀ i, Bytes (m.passS W H xs i)
  | 0 => bx
  | i + 1 => by simp only [passS]; exact cellS_bytes m W H (passS_bytes bx i) i
end Cells
theorem prev_lt {m : Cells} {i mh : Nat} (h : i < m.mw * mh) : m.prev i < m.mw * mh := by unfold Cells.prev; split <;> omega
theorem rtaps_ok (lo : Nat) (r : Int) (col : Bool) (M : Mem) : Ac P T lo F.zoetroperef22_taps [.int .i64 r, .bool col] M fun q => q = (.int .i64 ((tapsN r col : Nat) : Int), M) := by
  refine Ac.of (Evp.of_eq (fun k => zoetroperef22_taps.entry k ..) ?_)
  unfold tapsN
  refine Evp.dec (fun h => Evp.ret (Run.ret (by rw [if_pos h]; rfl))) fun h => ?_
  rw [if_neg h]
  refine Evp.bb (fun h => Evp.ret (Run.ret (by rw [if_pos h]; rfl))) fun h' => ?_
  rw [if_neg (by rw [h']; simp)]
  refine Evp.dec (fun h => Evp.ret (Run.ret (by rw [if_pos h]; rfl))) fun h => Evp.ret (Run.ret (by rw [if_neg h]; rfl))
/-- The frame of a pass. -/
structure PassF (m : Cells) (W H mh : Nat) (n : Nat) (AT AI AQ : Option Addr) (Mb : Mem) : Prop where
  hW : W = 4 * m.mw
  hH : H = 4 * mh
  w512 : W ≤ 512
  h512 : H ≤ 512
  hn : n = H * W
  ht : m.tx.length = m.mw * mh
  hi : m.ids.length = m.mw * mh
  hq : m.qs.length = m.mw * mh
  tp : ∀ t ∈ m.tx, TxP t
  rt : RdI Mb .u8 AT m.tx
  ri : RdI Mb .i64 AI m.ids
  rq : RdB Mb AQ m.qs
  lv : 0 ≤ m.level ∧ m.level ≤ 63
  sh : 0 ≤ m.sharp ∧ m.sharp ≤ 7
section
variable {m : Cells} {W H mh n : Nat} {AT AI AQ : Option Addr} {Mb : Mem} (f : PassF m W H mh n AT AI AQ Mb)
include f
theorem PassF.txp {i : Nat} (h : i < m.mw * mh) : TxP (m.tx.getD i 0) := f.tp _ (getD_mem (by rw [f.ht]; exact h))
theorem PassF.small : n ≤ 262144 ∧ m.mw * mh ≤ 16384 := by
  have h1 : H * W ≤ 512 * 512 := Nat.mul_le_mul f.h512 f.w512
  have := f.hW
  have := f.hH
  have := f.w512
  have := f.h512
  have h2 : m.mw * mh ≤ 128 * 128 := Nat.mul_le_mul (by omega) (by omega)
  have := f.hn
  omega
end
section
variable (lo W H mh : Nat) (m : Cells) (A AT AI AQ : Option Addr) (n c ct ci cq : Nat) (a : Addr) (co : Nat) (Mb : Mem) (hlo : lo ≤ Mb.length) (f : PassF m W H mh n AT AI AQ Mb) (Q : Value × Mem → Prop)
include hlo f
theorem rlines_loop (y x : Nat) (hi : y * m.mw + x < m.mw * mh) (hx : x < m.mw) (hs : ¬ m.skip (y * m.mw + x)) (xs : List Int) (hl : xs.length = n) (bx : Bytes xs)
    (next : ∀ M, Pre Mb M → Buf Mb M a ((m.linesS W H xs (y * m.mw + x) 4).map (Value.int .u8)) → Run P T lo F.zoetroperef22_Pass (zoetroperef22_Pass.c62611 m.up m.col m.level m.sharp y x W H A n c m.mw mh AT m.tx.length ct AI m.ids.length ci AQ m.qs.length cq 0 0 none 0 0 W H (some a) n co M) Q) :
    ∀ (d k : Nat) (M : Mem), 4 - k = d → k ≤ 4 → Pre Mb M → Buf Mb M a ((m.linesS W H xs (y * m.mw + x) k).map (Value.int .u8)) →
      Run P T lo F.zoetroperef22_Pass (zoetroperef22_Pass.c64113148 m.up m.col m.level m.sharp y x (m.step W : Nat) (m.along W : Nat) (m.reach W H (y * m.mw + x)) k W H A n c m.mw mh AT m.tx.length ct AI m.ids.length ci AQ m.qs.length cq 0 0 none 0 0 W H (some a) n co M) Q := by
  obtain ⟨s1, s2⟩ := f.small
  have t1 := f.txp hi
  have t2 := f.txp (prev_lt hi)
  have w512 := f.w512
  have h512 := f.h512
  have hw := f.hW
  have hh := f.hH
  obtain ⟨d1, d2⟩ : (y * m.mw + x) / m.mw = y ∧ (y * m.mw + x) % m.mw = x := by
    rw [Nat.add_comm]
    exact ⟨by rw [Nat.add_mul_div_right x y (by omega), Nat.div_eq_of_lt hx, Nat.zero_add], by rw [Nat.add_mul_mod_self_right, Nat.mod_eq_of_lt hx]⟩
  obtain ⟨g1, g2, g3, g4⟩ := geo m W H mh _ f.hW f.hH hi t1 t2 hs
  obtain ⟨v1, v2, v3⟩ := divmod_lt hi
  rw [d1] at v1
  have P1 := pos_eq m W H mh _ f.hW f.hH hi t1 t2 hs
  rw [d1, d2] at P1
  generalize y * m.mw + x = i at *
  intro d
  induction d with
  | zero =>
    intro k M hd hk hp hbuf
    obtain rfl : k = 4 := by omega
    refine Run.cut (Evp.of_eq (fun k => zoetroperef22_Pass.p64113148 k ..) ?_)
    refine Evp.dec (fun h => absurd h (by omega)) fun _ => Evp.ret (next M hp hbuf)
  | succ d ih =>
    intro k M hd hk hp hbuf
    refine Run.cut (Evp.of_eq (fun k => zoetroperef22_Pass.p64113148 k ..) ?_)
    refine Evp.dec (fun _ => ?_) fun h => absurd h (by omega)
    refine Evp.ob (rtaps_ok lo (m.reach W H i) m.col M) ?_
    rintro _ rfl
    simp only [ret_int, ret_bool, ret_flt, ret_slc, ret_str, ret_ptr, ret_agg, ret_tup, ob_some, bb_true, bb_false, List.getElem?_cons_zero, List.getElem?_cons_succ, List.length_cons, List.length_nil, Nat.reduceAdd, Nat.reduceLT]
    obtain ⟨hf, hft, hfv⟩ : ∃ hf, m.taps W H i = 2 * hf ∧ (hf = 2 ∨ hf = 3 ∨ hf = 4 ∨ hf = 7) := ⟨m.taps W H i / 2, by omega, by omega⟩
    have P0 := (P1 k 0 (by omega) (by omega)).2
    have ec : IntKind.i64.wrap ((IntKind.i64.wrap ((IntKind.i64.wrap ((IntKind.i64.wrap (4 * (y : Int))) * W)) + (IntKind.i64.wrap (4 * (x : Int))))) + (IntKind.i64.wrap ((k : Int) * (m.along W : Nat)))) = ((m.first W H i k + hf * m.step W : Nat) : Int) := by
      have e1 : hf = m.taps W H i / 2 := by omega
      rw [e1, P0.2]
      have a1 : m.along W ≤ 512 := by unfold Cells.along; split <;> omega
      have a2 : k * m.along W ≤ 4 * 512 := Nat.mul_le_mul (by omega) a1
      have a3 : 4 * y * W ≤ 512 * 512 := Nat.mul_le_mul (by omega) w512
      rw [w64 (x := 4 * (y : Int)) (by omega), w64 (x := 4 * (x : Int)) (by omega), ← Int.natCast_mul k, show (4 * (y : Int)) * (W : Int) = ((4 * y * W : Nat) : Int) by rw [Int.natCast_mul, Int.natCast_mul]; rfl]
      generalize 4 * y * W = q1 at *
      generalize k * m.along W = q2 at *
      rw [w64 (x := (q1 : Int)) (by omega), w64 (x := (q1 : Int) + 4 * x) (by omega), w64 (x := (q2 : Int)) (by omega), w64 (by omega)]
      omega
    rw [ec]
    have hin : ∀ j, j < 2 * hf → m.first W H i k + j * m.step W < (m.linesS W H xs i k).length := fun j hj => by
      rw [m.linesS_len, hl, f.hn]
      exact (P1 k j (by omega) (by omega)).2.1
    have st512 : m.step W ≤ 512 := by unfold Cells.step; split <;> omega
    have b0 := hin 0 (by omega)
    rw [m.linesS_len, hl, Nat.zero_mul, Nat.add_zero] at b0
    have L := rline_ok lo W H a co (m.first W H i k) (m.step W) hf m.level m.sharp Mb (by omega) st512 hfv hlo (m.linesS W H xs i k) M (m.linesS_bytes W H bx i k) hin f.lv f.sh hp hbuf
    rw [m.linesS_len, hl] at L
    rw [show ((tapsN (m.reach W H i) m.col : Nat) : Int) = ((2 * hf : Nat) : Int) by rw [← hft]; rfl]
    refine Evp.ob L ?_
    rintro _ ⟨M1, rfl, p1, b1⟩
    simp only [ret_int, ret_bool, ret_flt, ret_slc, ret_str, ret_ptr, ret_agg, ret_tup, ob_some, bb_true, bb_false, List.getElem?_cons_zero, List.getElem?_cons_succ, List.length_cons, List.length_nil, Nat.reduceAdd, Nat.reduceLT]
    rw [w64 (by omega)]
    refine Evp.ret (ih (k + 1) M1 (by omega) (by omega) p1 ?_)
    simp only [Cells.linesS]
    rw [hft]
    exact b1
theorem rcell (y x : Nat) (hy : y < mh) (hx : x < m.mw) (xs : List Int) (hl : xs.length = n) (bx : Bytes xs) (M : Mem) (hp : Pre Mb M) (hbuf : Buf Mb M a (xs.map (Value.int .u8))) (before : Int) (hbf : m.at_ (y * m.mw + x) ≠ 0 → before = (m.prev (y * m.mw + x) : Nat))
    (next : ∀ M, Pre Mb M → Buf Mb M a ((m.cellS W H xs (y * m.mw + x)).map (Value.int .u8)) → Run P T lo F.zoetroperef22_Pass (zoetroperef22_Pass.c62611 m.up m.col m.level m.sharp y x W H A n c m.mw mh AT m.tx.length ct AI m.ids.length ci AQ m.qs.length cq 0 0 none 0 0 W H (some a) n co M) Q) :
    Run P T lo F.zoetroperef22_Pass (zoetroperef22_Pass.c1001767 m.up m.col m.level m.sharp y x (m.at_ (y * m.mw + x) : Nat) (m.side W H : Nat) before (m.step W : Nat) (m.along W : Nat) W H A n c m.mw mh AT m.tx.length ct AI m.ids.length ci AQ m.qs.length cq 0 0 none 0 0 W H (some a) n co M) Q := by
  obtain ⟨s1, s2⟩ := f.small
  have hi : y * m.mw + x < m.mw * mh := by rw [Nat.mul_comm m.mw]; exact row_in hy hx
  have t1 := f.txp hi
  have t2 := f.txp (prev_lt hi)
  have pl := prev_lt hi
  have loop := rlines_loop lo W H mh m A AT AI AQ n c ct ci cq a co Mb hlo f Q y x hi hx
  have skp : m.skip (y * m.mw + x) → Run P T lo F.zoetroperef22_Pass (zoetroperef22_Pass.c62611 m.up m.col m.level m.sharp y x W H A n c m.mw mh AT m.tx.length ct AI m.ids.length ci AQ m.qs.length cq 0 0 none 0 0 W H (some a) n co M) Q := fun h => next M hp (by unfold Cells.cellS; rw [if_pos h]; exact hbuf)
  have go : ¬ m.skip (y * m.mw + x) → Run P T lo F.zoetroperef22_Pass (zoetroperef22_Pass.c64113148 m.up m.col m.level m.sharp y x (m.step W : Nat) (m.along W : Nat) (m.reach W H (y * m.mw + x)) ((0 : Nat) : Int) W H A n c m.mw mh AT m.tx.length ct AI m.ids.length ci AQ m.qs.length cq 0 0 none 0 0 W H (some a) n co M) Q := fun h =>
    loop h xs hl bx (fun M' hp' hb' => next M' hp' (by unfold Cells.cellS; rw [if_neg h]; exact hb')) _ 0 M rfl (Nat.zero_le _) hp hbuf
  have ei : IntKind.i64.wrap ((IntKind.i64.wrap ((y : Int) * m.mw)) + (x : Int)) = ((y * m.mw + x : Nat) : Int) := by
    have : y * m.mw ≤ m.mw * mh := by omega
    rw [← Int.natCast_mul, w64 (x := ((y * m.mw : Nat) : Int)) (by omega), w64 (by omega)]; omega
  have asd := at_lt m W H mh _ f.hW f.hH hi
  have w512 := f.w512
  have h512 := f.h512
  have sd : m.side W H ≤ 512 := by unfold Cells.side; split <;> omega
  refine Run.cut (Evp.of_eq (fun k => zoetroperef22_Pass.p1001767 k ..) ?_)
  rw [ei]
  generalize hI : y * m.mw + x = i at *
  refine Evp.eqb (fun h => Evp.ret (skp (.inl (by omega)))) fun h0 => ?_
  have hb := hbf (by omega)
  subst hb
  have t1' := t1
  have t2' := t2
  unfold TxP at t1' t2'
  have ht := f.ht
  have hii := f.hi
  have hqq := f.hq
  have rt := f.rt.pre hp
  have ri := f.ri.pre hp
  have rq := f.rq.pre hp
  have er : minI (minI (IntKind.i64.wrap (m.tx.getD i 0)) (IntKind.i64.wrap (m.tx.getD (m.prev i) 0))) (minI (m.at_ i : Nat) (IntKind.i64.wrap ((m.side W H : Nat) - (m.at_ i : Nat) : Int))) = m.reach W H i := by
    rw [w64 (x := m.tx.getD i 0) (by omega), w64 (x := m.tx.getD (m.prev i) 0) (by omega), w64 (x := ((m.side W H : Nat) : Int) - (m.at_ i : Nat)) (by omega), minI_eq, minI_eq, minI_eq]; rfl
  refine Evp.pos (by omega) ?_
  simp only [Int.toNat_natCast]
  refine Evp.ldI rt (by omega) fun _ _ => ?_
  rw [w64 (x := m.tx.getD i 0) (by omega)]
  refine Evp.neg (by omega) ?_
  have em : Int.tmod (m.at_ i : Int) (m.tx.getD i 0) = (m.at_ i : Int) % m.tx.getD i 0 := Int.tmod_eq_emod_of_nonneg (by omega)
  rw [em]
  refine Evp.neb (fun h => Evp.ret (skp (.inr (.inl h)))) fun h1 => ?_
  rw [w64 (x := m.tx.getD i 0) (by omega)] at er
  refine Evp.pos (by omega) (Evp.ldI ri (by omega) fun _ _ => ?_)
  refine Evp.pos (by omega) (Evp.ldI ri (by omega) fun _ _ => ?_)
  refine Evp.eqb (fun h2 => ?_) fun h2 => ?_
  · refine Evp.pos (by omega) (Evp.ldB rq (by omega) fun _ _ => ?_)
    refine Evp.bb (fun h3 => ?_) fun h3 => ?_
    · refine Evp.pos (by omega) (Evp.ldB rq (by omega) fun _ _ => ?_)
      refine Evp.bb (fun h4 => Evp.ret (skp (.inr (.inr ⟨h2, h3, h4⟩)))) fun h4 => ?_
      have ns : ¬ m.skip i := by
        rintro (e | e | e)
        · omega
        · exact e h1
        · rw [h4] at e; cases e.2.2
      refine Evp.pos (by omega) (Evp.ldI rt (by omega) fun _ _ => ?_)
      refine Evp.pos (by omega) (Evp.ldI rt (by omega) fun _ _ => ?_)
      rw [w64 (x := m.tx.getD i 0) (by omega), er]
      exact Evp.ret (go ns)
    · have ns : ¬ m.skip i := by
        rintro (e | e | e)
        · omega
        · exact e h1
        · rw [h3] at e; cases e.2.1
      refine Evp.pos (by omega) (Evp.ldI rt (by omega) fun _ _ => ?_)
      refine Evp.pos (by omega) (Evp.ldI rt (by omega) fun _ _ => ?_)
      rw [w64 (x := m.tx.getD i 0) (by omega), er]
      exact Evp.ret (go ns)
  · have ns : ¬ m.skip i := by
      rintro (e | e | e)
      · omega
      · exact e h1
      · exact h2 e.1
    refine Evp.pos (by omega) (Evp.ldI rt (by omega) fun _ _ => ?_)
    refine Evp.pos (by omega) (Evp.ldI rt (by omega) fun _ _ => ?_)
    rw [w64 (x := m.tx.getD i 0) (by omega), er]
    exact Evp.ret (go ns)
theorem rcols (y : Nat) (hy : y < mh) (xs : List Int) (hl : xs.length = n) (bx : Bytes xs)
    (next : ∀ M, Pre Mb M → Buf Mb M a ((m.passS W H xs ((y + 1) * m.mw)).map (Value.int .u8)) → Run P T lo F.zoetroperef22_Pass (zoetroperef22_Pass.c244 m.up m.col m.level m.sharp ((y + 1 : Nat) : Int) W H A n c m.mw mh AT m.tx.length ct AI m.ids.length ci AQ m.qs.length cq 0 0 none 0 0 W H (some a) n co M) Q) :
    ∀ (d x : Nat) (M : Mem), m.mw - x = d → x ≤ m.mw → Pre Mb M → Buf Mb M a ((m.passS W H xs (y * m.mw + x)).map (Value.int .u8)) →
      Run P T lo F.zoetroperef22_Pass (zoetroperef22_Pass.c15652 m.up m.col m.level m.sharp y x W H A n c m.mw mh AT m.tx.length ct AI m.ids.length ci AQ m.qs.length cq 0 0 none 0 0 W H (some a) n co M) Q := by
  have w512 := f.w512
  have h512 := f.h512
  have hw := f.hW
  have hh := f.hH
  obtain ⟨s1, s2⟩ := f.small
  intro d
  induction d with
  | zero =>
    intro x M hd hx hp hbuf
    obtain rfl : x = m.mw := by omega
    refine Run.cut (Evp.of_eq (fun k => zoetroperef22_Pass.p15652 k ..) ?_)
    refine Evp.dec (fun h => absurd h (by omega)) fun _ => ?_
    rw [w64 (by omega)]
    refine Evp.ret (next M hp ?_)
    rw [Nat.add_mul, Nat.one_mul]; exact hbuf
  | succ d ih =>
    intro x M hd hx hp hbuf
    have hxl : x < m.mw := by omega
    have hi : y * m.mw + x < m.mw * mh := by rw [Nat.mul_comm m.mw]; exact row_in hy hxl
    obtain ⟨d1, d2⟩ : (y * m.mw + x) / m.mw = y ∧ (y * m.mw + x) % m.mw = x := by
      rw [Nat.add_comm]
      exact ⟨by rw [Nat.add_mul_div_right x y (by omega), Nat.div_eq_of_lt hxl, Nat.zero_add], by rw [Nat.add_mul_mod_self_right, Nat.mod_eq_of_lt hxl]⟩
    have nx : ∀ M, Pre Mb M → Buf Mb M a ((m.cellS W H (m.passS W H xs (y * m.mw + x)) (y * m.mw + x)).map (Value.int .u8)) → Run P T lo F.zoetroperef22_Pass (zoetroperef22_Pass.c62611 m.up m.col m.level m.sharp y x W H A n c m.mw mh AT m.tx.length ct AI m.ids.length ci AQ m.qs.length cq 0 0 none 0 0 W H (some a) n co M) Q := fun M' hp' hb' => by
      refine Run.cut (Evp.of_eq (fun k => zoetroperef22_Pass.p62611 k ..) ?_)
      rw [w64 (by omega)]
      exact Evp.ret (ih (x + 1) M' (by omega) (by omega) hp' hb')
    have ym : y * m.mw ≤ m.mw * mh := by omega
    have cell := fun before hbf => rcell lo W H mh m A AT AI AQ n c ct ci cq a co Mb hlo f Q y x hy hxl (m.passS W H xs (y * m.mw + x)) (by rw [m.passS_len]; exact hl) (m.passS_bytes W H bx _) M hp hbuf before hbf nx
    refine Run.cut (Evp.of_eq (fun k => zoetroperef22_Pass.p15652 k ..) ?_)
    refine Evp.dec (fun _ => ?_) fun h => absurd h (by omega)
    refine Evp.nb (fun hu => ?_) fun hu => ?_
    · have ea : m.at_ (y * m.mw + x) = 4 * y := by unfold Cells.at_; rw [hu, d1]; rfl
      have es : m.side W H = H := by unfold Cells.side; rw [hu]; rfl
      have ep : m.step W = W := by unfold Cells.step; rw [hu]; rfl
      have el : m.along W = 1 := by unfold Cells.along; rw [hu]; rfl
      rw [ea, es, ep, el] at cell
      rw [w64 (x := 4 * (y : Int)) (by omega), show 4 * (y : Int) = ((4 * y : Nat) : Int) by omega]
      refine Evp.ret (cell _ fun h0 => ?_)
      unfold Cells.prev
      rw [hu]
      have y0 : y ≠ 0 := by omega
      obtain ⟨y', rfl⟩ : ∃ y', y = y' + 1 := ⟨y - 1, by omega⟩
      rw [Nat.add_mul, Nat.one_mul] at ym hi ⊢
      rw [w64 (x := ((y' + 1 : Nat) : Int) - 1) (by omega), show ((y' + 1 : Nat) : Int) - 1 = (y' : Int) by omega, ← Int.natCast_mul, w64 (x := ((y' * m.mw : Nat) : Int)) (by omega), w64 (by omega)]
      simp only [Bool.false_eq_true, if_false]
      omega
    · have ea : m.at_ (y * m.mw + x) = 4 * x := by unfold Cells.at_; rw [hu, d2]; rfl
      have es : m.side W H = W := by unfold Cells.side; rw [hu]; rfl
      have ep : m.step W = 1 := by unfold Cells.step; rw [hu]; rfl
      have el : m.along W = W := by unfold Cells.along; rw [hu]; rfl
      rw [ea, es, ep, el] at cell
      rw [w64 (x := 4 * (x : Int)) (by omega), show 4 * (x : Int) = ((4 * x : Nat) : Int) by omega]
      refine Evp.ret (cell _ fun h0 => ?_)
      unfold Cells.prev
      rw [hu]
      rw [← Int.natCast_mul, w64 (x := ((y * m.mw : Nat) : Int)) (by omega), w64 (x := ((y * m.mw : Nat) : Int) + x) (by omega), w64 (by omega)]
      simp only [if_true]
      omega
theorem rrows (xs : List Int) (hl : xs.length = n) (bx : Bytes xs) (fin : ∀ M, Pre Mb M → Buf Mb M a ((m.passS W H xs (m.mw * mh)).map (Value.int .u8)) → Q (.tuple ⟨[.agg ⟨[.int .i64 W, .int .i64 H, .slice (some a) n co]⟩, .int .i64 0]⟩, M)) :
    ∀ (d y : Nat) (M : Mem), mh - y = d → y ≤ mh → Pre Mb M → Buf Mb M a ((m.passS W H xs (y * m.mw)).map (Value.int .u8)) →
      Run P T lo F.zoetroperef22_Pass (zoetroperef22_Pass.c244 m.up m.col m.level m.sharp y W H A n c m.mw mh AT m.tx.length ct AI m.ids.length ci AQ m.qs.length cq 0 0 none 0 0 W H (some a) n co M) Q := by
  intro d
  induction d with
  | zero =>
    intro y M hd hy hp hbuf
    obtain rfl : y = mh := by omega
    refine Run.cut (Evp.of_eq (fun k => zoetroperef22_Pass.p244 k ..) ?_)
    refine Evp.dec (fun h => absurd h (by omega)) fun _ => Evp.ret (Run.ret (fin M hp ?_))
    rw [Nat.mul_comm]; exact hbuf
  | succ d ih =>
    intro y M hd hy hp hbuf
    refine Run.cut (Evp.of_eq (fun k => zoetroperef22_Pass.p244 k ..) ?_)
    refine Evp.dec (fun _ => ?_) fun h => absurd h (by omega)
    exact Evp.ret (rcols lo W H mh m A AT AI AQ n c ct ci cq a co Mb hlo f Q y (by omega) xs hl bx (fun M' hp' hb' => ih (y + 1) M' (by omega) (by omega) hp' hb') _ 0 M rfl (Nat.zero_le _) hp hbuf)
end
end Go.Zt
