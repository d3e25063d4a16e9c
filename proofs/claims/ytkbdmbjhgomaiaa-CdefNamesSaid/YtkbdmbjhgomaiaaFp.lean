/- Frames of the document. -/
import Derived.Test.YtkbdmbjhgomaiaaFo
set_option linter.unusedVariables false
set_option linter.unusedSimpArgs false
set_option maxRecDepth 100000
namespace Go.Zt
section
variable (lo : Nat) (f : Fr3) (M0 : Mem) (ad : Nat → Addr) (cc : Nat → Nat)
variable (hlo : lo ≤ M0.length) (hf : FrOk M0 f)
include hlo hf
theorem rlay_ok (n : Nat) (hn : n < 3) (S RX RY : Nat) (hS : S = 8 ∨ S = 4) (hx : RX + S ≤ (f.at n).w.toNat) (hy : RY + S ≤ (f.at n).h.toNat) (B : Option Addr) (cb : Nat) (bs : List Int) (hb : bs.length = S * S) (os : Nat → List Int) (M : Mem) (hp : Pre M0 M) (hB : Bufs M0 M f ad os) (hne : ∀ n', n' < 3 → ∀ x, B = some x → (ad n').block ≠ x.block) (hr : RdI M .u8 B bs) :
    Ac P T lo F.zoetroperef23_lay [.agg ⟨[.int .i64 (f.at n).w, .int .i64 (f.at n).h, .slice (some (ad n)) (f.at n).xs.length (cc n)]⟩, .agg ⟨[.int .i64 RX, .int .i64 RY, .int .i64 S, .int .i64 S]⟩, .slice B (S * S) cb] M fun r => ∃ M', r = (.tuple ⟨[]⟩, M') ∧ Pre M0 M' ∧ Bufs M0 M' f ad (upd os n (layE (f.at n).w.toNat (os n) bs RX RY S S (S * S))) := by
  have ck := checkS_len' (hf.chk n hn)
  obtain ⟨W, hW⟩ := Int.eq_ofNat_of_zero_le (a := (f.at n).w) (by omega)
  obtain ⟨H, hH⟩ := Int.eq_ofNat_of_zero_le (a := (f.at n).h) (by omega)
  have eW : (f.at n).w.toNat = W := by omega
  have eH : (f.at n).h.toNat = H := by omega
  have hl : (f.at n).xs.length = W * H := by have := ck.2.2.2.2; rw [hW, hH, ← Int.natCast_mul] at this; omega
  have hm : W * H ≤ 512 * 512 := Nat.mul_le_mul (by omega) (by omega)
  have sm : S * S ≤ 64 := by rcases hS with rfl | rfl <;> omega
  have hol : (os n).length = W * H := by rw [hB.len n hn, hl]
  simp only [eW] at hx ⊢
  simp only [eH] at hy
  have loop : ∀ (e i : Nat) (M : Mem), S * S - i = e → i ≤ S * S → Pre M0 M → Bufs M0 M f ad (upd os n (layE W (os n) bs RX RY S S i)) → RdI M .u8 B bs →
      Run P T lo F.zoetroperef23_lay (zoetroperef23_lay.c28 B (S * S) cb i (f.at n).w (f.at n).h (some (ad n)) (f.at n).xs.length (cc n) RX RY S S M) fun r => ∃ M', r = (.tuple ⟨[]⟩, M') ∧ Pre M0 M' ∧ Bufs M0 M' f ad (upd os n (layE W (os n) bs RX RY S S (S * S))) := by
    intro e
    induction e with
    | zero =>
      intro i M he hi hp hB hr
      obtain rfl : i = S * S := by omega
      refine Run.cut (Evp.of_eq (fun k => zoetroperef23_lay.p28 k ..) ?_)
      exact Evp.dec (fun g => absurd g (by omega)) fun _ => Evp.ret (Run.ret ⟨M, rfl, hp, hB⟩)
    | succ e ih =>
      intro i M he hi hp hB hr
      have hil : i < S * S := by omega
      obtain ⟨i0, i1, i2, i3⟩ := dm_lt hil
      have hset := layE_set (bs := bs) hol (by omega) hx hy i hil
      have hin : (RY + i / S) * W + (RX + i % S) < W * H := by
        rw [Nat.mul_comm W H]
        exact dm_in (by generalize i / S = u at *; omega) (by generalize i % S = u at *; omega)
      have hol2 : (upd os n (layE W (os n) bs RX RY S S i) n).length = W * H := by rw [hB.len n hn, hl]
      have e1 : Int.tdiv (i : Int) ((S : Nat) : Int) = ((i / S : Nat) : Int) := rfl
      have e2 : Int.tmod (i : Int) ((S : Nat) : Int) = ((i % S : Nat) : Int) := rfl
      obtain ⟨M', g1, g2, g3, g4⟩ := hB.st (n := n) hn hp (lo := lo) (i := (RY + i / S) * W + (RX + i % S)) hlo (vs := [bs.getD i 0]) (by rw [hol2]; exact hin)
      rw [upd_self, upd_upd, setL_one, hset] at g2
      refine Run.cut (Evp.of_eq (fun k => zoetroperef23_lay.p28 k ..) ?_)
      refine Evp.dec (fun _ => ?_) fun g => absurd g (by omega)
      refine Evp.neg (by omega) (Evp.neg (by omega) (Evp.pos (by omega) ?_))
      simp only [Int.toNat_natCast]
      refine Evp.ldI hr (by omega) fun _ _ => ?_
      rw [e1, e2, hW]
      generalize i / S = u at *
      generalize i % S = v at *
      have e3 : ((RY : Int) + u) * (W : Int) = (((RY + u) * W : Nat) : Int) := by simp
      rw [w64 (x := (u : Int)) (by omega), w64 (x := (RY : Int) + u) (by omega), e3]
      generalize (RY + u) * W = g at *
      rw [w64 (x := (g : Int)) (by omega), w64 (x := (g : Int) + RX) (by omega), w64 (x := (g : Int) + RX + v) (by omega)]
      refine Evp.pos (by omega) (Evp.some rfl ?_)
      rw [show ((g : Int) + RX + v).toNat = g + (RX + v) by omega]
      refine Evp.some g1 ?_
      rw [w64 (x := (i : Int) + 1) (by omega)]
      rw [← hW]
      exact Evp.ret (ih (i + 1) M' (by omega) (by omega) g3 g2 (Rd.keep hr g4 fun x x' hx hx' => by injection hx' with hx'; subst hx'; exact hne n hn x hx))
  refine Ac.of (Evp.of_eq (fun k => zoetroperef23_lay.entry k ..) ?_)
  refine Evp.ret (loop (S * S) 0 M rfl (Nat.zero_le _) hp ?_ hr)
  rw [layE_zero, upd_same]
  exact hB
omit hlo in
/-- A block of one plane. -/
theorem rmake_ok (n : Nat) (hn : n < 3) (S RX RY : Nat) (hS : S = 8 ∨ S = 4) (hx : RX + S ≤ (f.at n).w.toNat) (hy : RY + S ≤ (f.at n).h.toNat) (d : Nat) (pri sec damp : Int) (hd : d < 8) (hpri : 0 ≤ pri ∧ pri ≤ 15) (hsec : 0 ≤ sec ∧ sec ≤ 3) (hdamp : 0 ≤ damp ∧ damp ≤ 6) (os : Nat → List Int) (M : Mem) (hp : Pre M0 M) (hB : Bufs M0 M f ad os) :
    Ac P T M.length F.zoetroperef23_Block [.agg ⟨[.int .i64 (f.at n).w, .int .i64 (f.at n).h, .slice (f.at n).A (f.at n).xs.length (f.at n).c]⟩, .agg ⟨[.int .i64 RX, .int .i64 RY, .int .i64 S, .int .i64 S]⟩, .int .i64 d, .int .i64 pri, .int .i64 (secS sec), .int .i64 damp] M fun r =>
      ∃ B cb bs M2, r = (.tuple ⟨[.slice B (S * S) cb, .int .i64 0]⟩, M2) ∧ Pre M M2 ∧ bs.length = S * S ∧ newS (f.at n) (os n) RX RY S d pri.toNat (secS sec).toNat damp = layE (f.at n).w.toNat (os n) bs RX RY S S (S * S) ∧ (∀ n', n' < 3 → ∀ x, B = some x → (ad n').block ≠ x.block) ∧ RdI M2 .u8 B bs := by
  have ck := checkS_len' (hf.chk n hn)
  have hsec4 : 0 ≤ secS sec ∧ secS sec ≤ 4 := by unfold secS; split <;> omega
  have ok : BlockOk (f.at n).w (f.at n).h (f.at n).xs.length RX RY S S d pri (secS sec) damp := ⟨hf.chk n hn, by rcases hS with rfl | rfl <;> omega, by rcases hS with rfl | rfl <;> omega, by omega, by omega, by omega, hpri, hsec4, hdamp⟩
  refine Ac.mono (rblock_ok M.length (f.at n).A (f.at n).c (f.at n).xs (f.at n).w (f.at n).h RX RY S S d pri (secS sec) damp M (Nat.le_refl _) ((hf.rd n hn).pre hp) (hf.by_ n hn)) ?_
  rintro ⟨v, M2⟩ ⟨p2, hb⟩
  rw [if_pos ok] at hb
  obtain ⟨B, cb, e, hcb, gB⟩ := hb
  simp only [Int.toNat_natCast] at e gB p2 hcb
  subst e
  have rB : RdI M2 .u8 B (blockS (f.at n).w.toNat (f.at n).h.toNat (f.at n).xs RX RY S damp (tapsS d pri.toNat (secS sec).toNat) (S * S)) := by
    have := gB.rd
    unfold RdI
    rw [blockS_len]
    exact this
  refine ⟨B, cb, _, M2, rfl, p2, blockS_len .., rfl, fun n' hn' x hx => ?_, rB⟩
  have i1 := (hB.buf n' hn').in_
  rcases gB.at_ with ⟨e, _⟩ | ⟨q, e, q2, _⟩
  · rw [e] at hx; cases hx
  · rw [e] at hx; injection hx with hx; subst hx
    show (ad n').block ≠ q
    omega
variable (hw : WholeF f) (h8 : f.p0.w % 8 = 0) (v8 : f.p0.h % 8 = 0)
include hw h8 v8
theorem rblk_ok (X Y : Nat) (hX : X % 8 = 0 ∧ X + 8 ≤ f.p0.w.toNat) (hY : Y % 8 = 0 ∧ Y + 8 ≤ f.p0.h.toNat) (a b c d damp : Int) (hs : (0 ≤ a ∧ a ≤ 15) ∧ (0 ≤ c ∧ c ≤ 15) ∧ (0 ≤ b ∧ b ≤ 3) ∧ (0 ≤ d ∧ d ≤ 3)) (hdamp : 3 ≤ damp ∧ damp ≤ 6) (os : Nat → List Int) (M : Mem) (hp : Pre M0 M) (hB : Bufs M0 M f ad os) :
    Ac P T lo F.zoetroperef23_block [.agg ⟨f.cells⟩, .agg ⟨csL f ad cc⟩, .int .i64 X, .int .i64 Y, .agg ⟨[.int .i64 a, .int .i64 b, .int .i64 c, .int .i64 d]⟩, .int .i64 damp] M fun r => ∃ M', r = (.tuple ⟨[]⟩, M') ∧ Pre M0 M' ∧ Bufs M0 M' f ad (fun n => newN f damp X Y a b c d n (os n)) := by
  obtain ⟨s1, s2, s3, s4⟩ := hs
  have hb8 : bestD (cut8 f X Y) 8 < 8 := by have := bestD_lt (cut8 f X Y) 8; omega
  have hst := strD_le (cut8_bytes (hf.by_ 0 (by omega)) X Y)
  have sz := blk_in hw h8 v8 hX hY
  have sw : sideP f.p0.w := hw.2.1
  have sh : sideP f.p0.h := hw.2.2.1
  unfold sideP at sw sh
  have hpr := primS_le (n := a) (t := strD (cut8 f X Y)) s1
  obtain ⟨best, hbest⟩ : ∃ best, best = bestD (cut8 f X Y) 8 := ⟨_, rfl⟩
  obtain ⟨str, hstr⟩ : ∃ str, str = strD (cut8 f X Y) := ⟨_, rfl⟩
  have newE : ∀ n o, newN f damp X Y a b c d n o = if n = 0 then newS f.p0 o X Y 8 (if a = 0 then 0 else best) (primS a str).toNat (secS b).toNat damp else newS (f.at n) o (X / 2) (Y / 2) 4 (if c = 0 then 0 else best) c.toNat (secS d).toNat (damp - 1) := fun n o => by rw [hbest, hstr]; rfl
  simp only [newE]
  have colours : ∀ (os : Nat → List Int) (M : Mem) (d' : Nat), d' = (if c = 0 then 0 else best) → Pre M0 M → Bufs M0 M f ad os →
      Run P T lo F.zoetroperef23_block (zoetroperef23_block.c8191 X Y damp d' f.p0.w f.p0.h f.p0.A f.p0.xs.length f.p0.c f.p1.w f.p1.h f.p1.A f.p1.xs.length f.p1.c f.p2.w f.p2.h f.p2.A f.p2.xs.length f.p2.c f.p0.w f.p0.h (some (ad 0)) f.p0.xs.length (cc 0) f.p1.w f.p1.h (some (ad 1)) f.p1.xs.length (cc 1) f.p2.w f.p2.h (some (ad 2)) f.p2.xs.length (cc 2) a b c d M) fun r => ∃ M', r = (.tuple ⟨[]⟩, M') ∧ Pre M0 M' ∧ Bufs M0 M' f ad (upd (upd os 1 (newS (f.at 1) (os 1) (X / 2) (Y / 2) 4 (if c = 0 then 0 else best) c.toNat (secS d).toNat (damp - 1))) 2 (newS (f.at 2) (os 2) (X / 2) (Y / 2) 4 (if c = 0 then 0 else best) c.toNat (secS d).toNat (damp - 1))) := fun os M d' hd' hp hB => by
    have hd8 : d' < 8 := by rw [hd']; split <;> omega
    obtain ⟨z1, y1⟩ := sz 1 (by omega) (by omega)
    obtain ⟨z2, y2⟩ := sz 2 (by omega) (by omega)
    rw [← hd']
    refine Run.cut (Evp.of_eq (fun k => zoetroperef23_block.p8191 k ..) ?_)
    rw [show Int.tdiv (X : Int) 2 = ((X / 2 : Nat) : Int) from rfl, show Int.tdiv (Y : Int) 2 = ((Y / 2 : Nat) : Int) from rfl, w64 (x := ((X / 2 : Nat) : Int)) (by omega), w64 (x := ((Y / 2 : Nat) : Int)) (by omega)]
    refine Evp.ret ?_
    refine Run.cut (Evp.of_eq (fun k => zoetroperef23_block.p131068 k ..) ?_)
    refine Evp.tt rfl (Evp.pos (by decide) (Evp.some rfl (Evp.some rfl (Evp.some rfl ?_))))
    rw [w64 (x := damp - 1) (by omega)]
    refine Evp.ob (rsec_ok M.length d M) ?_
    rintro _ rfl
    simp only [ret_int, ret_bool, ret_flt, ret_slc, ret_str, ret_ptr, ret_agg, ret_tup, ob_some, bb_true, bb_false, List.getElem?_cons_zero, List.getElem?_cons_succ, List.length_cons, List.length_nil, Nat.reduceAdd, Nat.reduceLT]
    refine Evp.ob (rmake_ok f M0 ad hf 1 (by omega) 4 (X / 2) (Y / 2) (.inr rfl) z1 y1 d' c d (damp - 1) hd8 s2 s4 (by omega) os M hp hB) ?_
    rintro _ ⟨B, cb, bs, M2, rfl, p2, hbl, e2, hne, rB⟩
    simp only [ret_int, ret_bool, ret_flt, ret_slc, ret_str, ret_ptr, ret_agg, ret_tup, ob_some, bb_true, bb_false, List.getElem?_cons_zero, List.getElem?_cons_succ, List.length_cons, List.length_nil, Nat.reduceAdd, Nat.reduceLT]
    refine Evp.pos (by decide) (Evp.some rfl (Evp.some rfl (Evp.some rfl ?_)))
    refine Evp.ob (rlay_ok lo f M0 ad cc hlo hf 1 (by omega) 4 (X / 2) (Y / 2) (.inr rfl) z1 y1 B cb bs hbl os M2 (hp.trans p2) (hB.pre p2) hne rB) ?_
    rintro _ ⟨M3, rfl, p3, b3⟩
    simp only [ret_int, ret_bool, ret_flt, ret_slc, ret_str, ret_ptr, ret_agg, ret_tup, ob_some, bb_true, bb_false, List.getElem?_cons_zero, List.getElem?_cons_succ, List.length_cons, List.length_nil, Nat.reduceAdd, Nat.reduceLT]
    rw [← e2] at b3
    rw [show IntKind.i64.wrap (1 + 1) = 2 from by decide]
    refine Evp.ret ?_
    refine Run.cut (Evp.of_eq (fun k => zoetroperef23_block.p131068 k ..) ?_)
    refine Evp.tt rfl (Evp.pos (by decide) (Evp.some rfl (Evp.some rfl (Evp.some rfl ?_))))
    rw [w64 (x := damp - 1) (by omega)]
    refine Evp.ob (rsec_ok M3.length d M3) ?_
    rintro _ rfl
    simp only [ret_int, ret_bool, ret_flt, ret_slc, ret_str, ret_ptr, ret_agg, ret_tup, ob_some, bb_true, bb_false, List.getElem?_cons_zero, List.getElem?_cons_succ, List.length_cons, List.length_nil, Nat.reduceAdd, Nat.reduceLT]
    refine Evp.ob (rmake_ok f M0 ad hf 2 (by omega) 4 (X / 2) (Y / 2) (.inr rfl) z2 y2 d' c d (damp - 1) hd8 s2 s4 (by omega) _ M3 p3 b3) ?_
    rintro _ ⟨B, cb, bs, M4, rfl, p4, hbl, e4, hne, rB⟩
    simp only [ret_int, ret_bool, ret_flt, ret_slc, ret_str, ret_ptr, ret_agg, ret_tup, ob_some, bb_true, bb_false, List.getElem?_cons_zero, List.getElem?_cons_succ, List.length_cons, List.length_nil, Nat.reduceAdd, Nat.reduceLT]
    refine Evp.pos (by decide) (Evp.some rfl (Evp.some rfl (Evp.some rfl ?_)))
    refine Evp.ob (rlay_ok lo f M0 ad cc hlo hf 2 (by omega) 4 (X / 2) (Y / 2) (.inr rfl) z2 y2 B cb bs hbl _ M4 (p3.trans p4) (b3.pre p4) hne rB) ?_
    rintro _ ⟨M5, rfl, p5, b5⟩
    simp only [ret_int, ret_bool, ret_flt, ret_slc, ret_str, ret_ptr, ret_agg, ret_tup, ob_some, bb_true, bb_false, List.getElem?_cons_zero, List.getElem?_cons_succ, List.length_cons, List.length_nil, Nat.reduceAdd, Nat.reduceLT]
    rw [← e4] at b5
    rw [show IntKind.i64.wrap (2 + 1) = 3 from by decide]
    refine Evp.ret ?_
    refine Run.cut (Evp.of_eq (fun k => zoetroperef23_block.p131068 k ..) ?_)
    exact Evp.ff rfl (Evp.ret (Run.ret ⟨M5, rfl, p5, b5⟩))
  have luma : ∀ (M : Mem) (d' : Nat) (pri : Int), d' = (if a = 0 then 0 else best) → pri = primS a str → Pre M0 M → Bufs M0 M f ad os →
      Run P T lo F.zoetroperef23_block (zoetroperef23_block.c511 X Y damp best pri d' f.p0.w f.p0.h f.p0.A f.p0.xs.length f.p0.c f.p1.w f.p1.h f.p1.A f.p1.xs.length f.p1.c f.p2.w f.p2.h f.p2.A f.p2.xs.length f.p2.c f.p0.w f.p0.h (some (ad 0)) f.p0.xs.length (cc 0) f.p1.w f.p1.h (some (ad 1)) f.p1.xs.length (cc 1) f.p2.w f.p2.h (some (ad 2)) f.p2.xs.length (cc 2) a b c d X Y 8 8 M) fun r => ∃ M', r = (.tuple ⟨[]⟩, M') ∧ Pre M0 M' ∧ Bufs M0 M' f ad (fun n => if n = 0 then newS f.p0 (os n) X Y 8 (if a = 0 then 0 else best) (primS a str).toNat (secS b).toNat damp else newS (f.at n) (os n) (X / 2) (Y / 2) 4 (if c = 0 then 0 else best) c.toNat (secS d).toNat (damp - 1)) := fun M d' pri hd' hpri hp hB => by
    have hd8 : d' < 8 := by rw [hd']; split <;> omega
    rw [← hstr] at hpr
    refine Run.cut (Evp.of_eq (fun k => zoetroperef23_block.p511 k ..) ?_)
    refine Evp.ob (rsec_ok M.length b M) ?_
    rintro _ rfl
    simp only [ret_int, ret_bool, ret_flt, ret_slc, ret_str, ret_ptr, ret_agg, ret_tup, ob_some, bb_true, bb_false, List.getElem?_cons_zero, List.getElem?_cons_succ, List.length_cons, List.length_nil, Nat.reduceAdd, Nat.reduceLT]
    refine Evp.ob (rmake_ok f M0 ad hf 0 (by omega) 8 X Y (.inl rfl) hX.2 hY.2 d' pri b damp hd8 (by rw [hpri]; exact hpr) s3 (by omega) os M hp hB) ?_
    rintro _ ⟨B, cb, bs, M2, rfl, p2, hbl, e2, hne, rB⟩
    simp only [ret_int, ret_bool, ret_flt, ret_slc, ret_str, ret_ptr, ret_agg, ret_tup, ob_some, bb_true, bb_false, List.getElem?_cons_zero, List.getElem?_cons_succ, List.length_cons, List.length_nil, Nat.reduceAdd, Nat.reduceLT]
    refine Evp.ob (rlay_ok lo f M0 ad cc hlo hf 0 (by omega) 8 X Y (.inl rfl) hX.2 hY.2 B cb bs hbl os M2 (hp.trans p2) (hB.pre p2) hne rB) ?_
    rintro _ ⟨M3, rfl, p3, b3⟩
    simp only [ret_int, ret_bool, ret_flt, ret_slc, ret_str, ret_ptr, ret_agg, ret_tup, ob_some, bb_true, bb_false, List.getElem?_cons_zero, List.getElem?_cons_succ, List.length_cons, List.length_nil, Nat.reduceAdd, Nat.reduceLT]
    rw [← e2] at b3
    have fin : ∀ d'' : Nat, d'' = (if c = 0 then 0 else best) → Run P T lo F.zoetroperef23_block (zoetroperef23_block.c8191 X Y damp d'' f.p0.w f.p0.h f.p0.A f.p0.xs.length f.p0.c f.p1.w f.p1.h f.p1.A f.p1.xs.length f.p1.c f.p2.w f.p2.h f.p2.A f.p2.xs.length f.p2.c f.p0.w f.p0.h (some (ad 0)) f.p0.xs.length (cc 0) f.p1.w f.p1.h (some (ad 1)) f.p1.xs.length (cc 1) f.p2.w f.p2.h (some (ad 2)) f.p2.xs.length (cc 2) a b c d M3) fun r => ∃ M', r = (.tuple ⟨[]⟩, M') ∧ Pre M0 M' ∧ Bufs M0 M' f ad (fun n => if n = 0 then newS f.p0 (os n) X Y 8 (if a = 0 then 0 else best) (primS a str).toNat (secS b).toNat damp else newS (f.at n) (os n) (X / 2) (Y / 2) 4 (if c = 0 then 0 else best) c.toNat (secS d).toNat (damp - 1)) := fun d'' hd'' => by
      refine (colours _ M3 d'' hd'' p3 b3).mono ?_
      rintro _ ⟨M', rfl, q1, q2⟩
      refine ⟨M', rfl, q1, q2.congr fun n hn => ?_⟩
      rw [hd', hpri]
      rcases lt3 hn with rfl | rfl | rfl <;> rfl
    exact Evp.eqb (fun g => Evp.ret (fin 0 (by rw [if_pos g]))) fun g => Evp.ret (fin best (by rw [if_neg g]))
  have dirs : ∀ (M : Mem) (pri : Int), pri = primS a str → Pre M0 M → Bufs M0 M f ad os →
      Run P T lo F.zoetroperef23_block (zoetroperef23_block.c127 X Y damp best pri f.p0.w f.p0.h f.p0.A f.p0.xs.length f.p0.c f.p1.w f.p1.h f.p1.A f.p1.xs.length f.p1.c f.p2.w f.p2.h f.p2.A f.p2.xs.length f.p2.c f.p0.w f.p0.h (some (ad 0)) f.p0.xs.length (cc 0) f.p1.w f.p1.h (some (ad 1)) f.p1.xs.length (cc 1) f.p2.w f.p2.h (some (ad 2)) f.p2.xs.length (cc 2) a b c d X Y 8 8 M) fun r => ∃ M', r = (.tuple ⟨[]⟩, M') ∧ Pre M0 M' ∧ Bufs M0 M' f ad (fun n => if n = 0 then newS f.p0 (os n) X Y 8 (if a = 0 then 0 else best) (primS a str).toNat (secS b).toNat damp else newS (f.at n) (os n) (X / 2) (Y / 2) 4 (if c = 0 then 0 else best) c.toNat (secS d).toNat (damp - 1)) := fun M pri hpri hp hB => by
    refine Run.cut (Evp.of_eq (fun k => zoetroperef23_block.p127 k ..) ?_)
    exact Evp.eqb (fun g => Evp.ret (luma M 0 pri (by rw [if_pos g]) hpri hp hB)) fun g => Evp.ret (luma M best pri (by rw [if_neg g]) hpri hp hB)
  refine Ac.of (Evp.of_eq (fun k => zoetroperef23_block.entry k ..) ?_)
  refine Evp.ob (rcut_ok lo f.p0.w f.p0.h f.p0.A f.p0.c f.p0.xs X Y 8 8 M ((hf.rd 0 (by omega)).pre hp) (Nat.le_trans hlo hp.len)) ?_
  rintro ⟨v, M2⟩ ⟨p2, hb⟩
  rw [if_pos ⟨hf.chk 0 (by omega), show WithinP f.p0.w f.p0.h X Y 8 8 from ⟨by decide, by decide, by omega, by omega, by omega, by omega⟩⟩] at hb
  obtain ⟨B, cb, e', gB, _⟩ := hb
  have e8 : cutS f.p0.w.toNat f.p0.xs (X : Int).toNat (Y : Int).toNat (8 : Int).toNat ((8 : Int).toNat * (8 : Int).toNat) = cut8 f X Y := rfl
  rw [e8] at e' gB
  simp only at e' gB p2
  subst e'
  simp only [ret_int, ret_bool, ret_flt, ret_slc, ret_str, ret_ptr, ret_agg, ret_tup, ob_some, bb_true, bb_false, List.getElem?_cons_zero, List.getElem?_cons_succ, List.length_cons, List.length_nil, Nat.reduceAdd, Nat.reduceLT]
  have rB : RdI M2 .u8 B (cut8 f X Y) := gB.rd
  refine Evp.ob (rdirection_ok lo B cb (cut8 f X Y) M2 (Nat.le_trans hlo (hp.trans p2).len) rB (cut8_bytes (hf.by_ 0 (by omega)) X Y)) ?_
  rintro _ ⟨M3, p3, rfl⟩
  rw [if_pos (cut8_len f X Y)]
  simp only [ret_int, ret_bool, ret_flt, ret_slc, ret_str, ret_ptr, ret_agg, ret_tup, ob_some, bb_true, bb_false, List.getElem?_cons_zero, List.getElem?_cons_succ, List.length_cons, List.length_nil, Nat.reduceAdd, Nat.reduceLT]
  rw [← hbest, ← hstr]
  rw [← hstr] at hst
  have q3 := (hp.trans p2).trans p3
  have b3 := (hB.pre p2).pre p3
  rw [shr_eq 6 (by omega), show ((2 : Int) ^ 6) = 64 from rfl]
  have mul : ∀ (i : Int) (M : Mem), (0 ≤ i ∧ i ≤ 12) → (a * (4 + i) + 8) / 16 = primS a str → Pre M0 M → Bufs M0 M f ad os →
      Run P T lo F.zoetroperef23_block (zoetroperef23_block.c2027 X Y damp best i f.p0.w f.p0.h f.p0.A f.p0.xs.length f.p0.c f.p1.w f.p1.h f.p1.A f.p1.xs.length f.p1.c f.p2.w f.p2.h f.p2.A f.p2.xs.length f.p2.c f.p0.w f.p0.h (some (ad 0)) f.p0.xs.length (cc 0) f.p1.w f.p1.h (some (ad 1)) f.p1.xs.length (cc 1) f.p2.w f.p2.h (some (ad 2)) f.p2.xs.length (cc 2) a b c d X Y 8 8 M) fun r => ∃ M', r = (.tuple ⟨[]⟩, M') ∧ Pre M0 M' ∧ Bufs M0 M' f ad (fun n => if n = 0 then newS f.p0 (os n) X Y 8 (if a = 0 then 0 else best) (primS a str).toNat (secS b).toNat damp else newS (f.at n) (os n) (X / 2) (Y / 2) 4 (if c = 0 then 0 else best) c.toNat (secS d).toNat (damp - 1)) := fun i M hi he hp hB => by
    have ml := mul_abs (a := a) (b := 4 + i) (A := 15) (B := 16) (by omega) (by omega)
    refine Run.cut (Evp.of_eq (fun k => zoetroperef23_block.p2027 k ..) ?_)
    rw [w64 (x := 4 + i) (by omega), w64 (x := a * (4 + i)) (by omega), w64 (x := a * (4 + i) + 8) (by omega), shr_eq 4 (by omega), show ((2 : Int) ^ 4) = 16 from rfl]
    exact Evp.ret (dirs M _ he hp hB)
  refine Evp.dec (fun k1 => ?_) fun k1 => ?_
  · refine Evp.dec (fun k2 => ?_) fun k2 => ?_
    · obtain ⟨x, hx⟩ := Int.eq_ofNat_of_zero_le (a := str / 64) (by omega)
      rw [hx]
      refine Evp.ob (log_ok lo x M3 (by omega)) ?_
      rintro _ rfl
      simp only [ret_int, ret_bool, ret_flt, ret_slc, ret_str, ret_ptr, ret_agg, ret_tup, ob_some, bb_true, bb_false, List.getElem?_cons_zero, List.getElem?_cons_succ, List.length_cons, List.length_nil, Nat.reduceAdd, Nat.reduceLT]
      refine Evp.ret (mul _ M3 (by unfold minI; split <;> omega) ?_ q3 b3)
      unfold primS
      rw [if_neg (by omega), if_neg (by omega), hx]
      rfl
    · refine Evp.ret (mul 0 M3 (by omega) ?_ q3 b3)
      unfold primS
      rw [if_neg (by omega), if_pos (by omega), Int.add_zero, Int.mul_comm]
  · refine Evp.ret (dirs M3 0 ?_ q3 b3)
    unfold primS
    rw [if_pos (by omega)]
end
end Go.Zt
