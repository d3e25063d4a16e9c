/- The document's Frame; CdefFrames. -/
import Derived.Test.YtkbdmbjhgomaiaaFp
set_option linter.unusedVariables false
set_option linter.unusedSimpArgs false
set_option maxRecDepth 100000
namespace Go.Zt
theorem copyInts_ok (lo : Nat) (A : Option Addr) (c : Nat) (xs : List Int) (M : Mem) (hx : RdI M .i64 A xs) (hn : xs.length * 8 ≤ 140737488351232) (hlo : lo ≤ M.length) :
    Ac P T lo F.zoetroperef00_CopyInts [.slice A xs.length c] M fun r => ∃ A' c' M', r = (.slice A' xs.length c', M') ∧ Pre M M' ∧ xs.length ≤ c' ∧ Grow M M' 1 A' xs.length (xs.map (Value.int .i64)) := by
  refine Ac.of (Evp.of_eq (fun k => zoetroperef00_CopyInts.entry k ..) ?_)
  refine Evp.some hx.src ?_
  obtain ⟨s, M', h1, h2, h3, h4, _, h5⟩ := (Grow.nil (M0 := M) (M := M) (z := 1)).app (bytes := 8) (c := 0) (m := xs.length) (vs := xs.map (Value.int .i64)) (Pre.refl M) hlo (by simp) (by omega) (by omega)
  rw [Nat.zero_add] at h3
  refine Evp.some h1 (Evp.ret (Run.ret ⟨s.a, s.c, M', ?_, h4, by rw [← h3]; exact h5 (Nat.zero_le _), ?_⟩))
  · simp only [h3]
  · rw [h3] at h2; exact h2
theorem rsame_ok (lo : Nat) (w h w' h' : Int) (A A' : Option Addr) (c c' : Nat) (xs ys : List Int) (M : Mem) (hx : RdI M .u8 A xs) (hy : RdI M .u8 A' ys) (hn : xs.length ≤ 140737488351232) :
    Ac P T lo F.zoetroperef05_Same [.agg ⟨[.int .i64 w, .int .i64 h, .slice A xs.length c]⟩, .agg ⟨[.int .i64 w', .int .i64 h', .slice A' ys.length c']⟩] M fun r => r = (.bool (decide (w = w' ∧ h = h' ∧ xs = ys)), M) := by
  refine Ac.of (Evp.of_eq (fun k => zoetroperef05_Same.entry k ..) ?_)
  refine Evp.eqb (fun h1 => ?_) fun h1 => Evp.ret (Run.ret (by rw [decide_eq_false (fun e => h1 e.1)]))
  refine Evp.eqb (fun h2 => ?_) fun h2 => Evp.ret (Run.ret (by rw [decide_eq_false (fun e => h2 e.2.1)]))
  refine Evp.ob (eqBytes_ok _ _ _ _ _ _ _ _ hx hy hn) ?_
  rintro _ rfl
  simp only [ret_int, ret_bool, ret_flt, ret_slc, ret_str, ret_ptr, ret_agg, ret_tup, ob_some, bb_true, bb_false, List.getElem?_cons_zero, List.getElem?_cons_succ, List.length_cons, List.length_nil, Nat.reduceAdd, Nat.reduceLT]
  refine Evp.ret (Run.ret ?_)
  congr 2
  exact decide_eq_decide.2 (by simp [h1, h2])
section
variable (lo : Nat) (w0 h0 w1 h1 w2 h2 : Int) (A0 A1 A2 : Option Addr) (c0 c1 c2 : Nat) (xs ys zs : List Int) (M : Mem)
theorem copyFrame_ok (hx : RdI M .u8 A0 xs) (hy : RdI M .u8 A1 ys) (hz : RdI M .u8 A2 zs) (n0 : xs.length ≤ 140737488351232) (n1 : ys.length ≤ 140737488351232) (n2 : zs.length ≤ 140737488351232) :
    Ac P T lo F.zoetroperef05_CopyFrame [.agg ⟨[.int .i64 w0, .int .i64 h0, .slice A0 xs.length c0, .int .i64 w1, .int .i64 h1, .slice A1 ys.length c1, .int .i64 w2, .int .i64 h2, .slice A2 zs.length c2]⟩] M fun r =>
      ∃ B0 B1 B2 d0 d1 d2 M', r = (.agg ⟨[.int .i64 w0, .int .i64 h0, .slice B0 xs.length d0, .int .i64 w1, .int .i64 h1, .slice B1 ys.length d1, .int .i64 w2, .int .i64 h2, .slice B2 zs.length d2]⟩, M') ∧ Pre M M' ∧ RdI M' .u8 B0 xs ∧ RdI M' .u8 B1 ys ∧ RdI M' .u8 B2 zs ∧ xs.length ≤ d0 ∧ ys.length ≤ d1 ∧ zs.length ≤ d2 := by
  refine Ac.of (Evp.of_eq (fun k => zoetroperef05_CopyFrame.entry k ..) ?_)
  refine Evp.ret ?_
  refine Run.cut (Evp.of_eq (fun k => zoetroperef05_CopyFrame.p116 k ..) ?_)
  refine Evp.tt rfl (Evp.pos (by decide) (Evp.some rfl (Evp.some rfl (Evp.some rfl ?_))))
  refine Evp.ob (copyPlane_ok _ _ _ _ _ _ _ hx n0) ?_
  rintro _ ⟨B0, d0, M1, rfl, p1, g1, k1⟩
  simp only [ret_int, ret_bool, ret_flt, ret_slc, ret_str, ret_ptr, ret_agg, ret_tup, ob_some, bb_true, bb_false, List.getElem?_cons_zero, List.getElem?_cons_succ, List.length_cons, List.length_nil, Nat.reduceAdd, Nat.reduceLT]
  refine Evp.pos (by decide) (Evp.pos (Nat.le_of_ble_eq_true rfl) ?_)
  rw [show IntKind.i64.wrap (0 + 1) = 1 from by decide]
  refine Evp.ret ?_
  refine Run.cut (Evp.of_eq (fun k => zoetroperef05_CopyFrame.p116 k ..) ?_)
  refine Evp.tt rfl (Evp.pos (by decide) (Evp.some rfl (Evp.some rfl (Evp.some rfl ?_))))
  refine Evp.ob (copyPlane_ok _ _ _ _ _ _ _ (hy.pre p1) n1) ?_
  rintro _ ⟨B1, d1, M2, rfl, p2, g2, k2⟩
  simp only [ret_int, ret_bool, ret_flt, ret_slc, ret_str, ret_ptr, ret_agg, ret_tup, ob_some, bb_true, bb_false, List.getElem?_cons_zero, List.getElem?_cons_succ, List.length_cons, List.length_nil, Nat.reduceAdd, Nat.reduceLT]
  refine Evp.pos (by decide) (Evp.pos (Nat.le_of_ble_eq_true rfl) ?_)
  rw [show IntKind.i64.wrap (1 + 1) = 2 from by decide]
  refine Evp.ret ?_
  refine Run.cut (Evp.of_eq (fun k => zoetroperef05_CopyFrame.p116 k ..) ?_)
  refine Evp.tt rfl (Evp.pos (by decide) (Evp.some rfl (Evp.some rfl (Evp.some rfl ?_))))
  refine Evp.ob (copyPlane_ok _ _ _ _ _ _ _ (hz.pre (p1.trans p2)) n2) ?_
  rintro _ ⟨B2, d2, M3, rfl, p3, g3, k3⟩
  simp only [ret_int, ret_bool, ret_flt, ret_slc, ret_str, ret_ptr, ret_agg, ret_tup, ob_some, bb_true, bb_false, List.getElem?_cons_zero, List.getElem?_cons_succ, List.length_cons, List.length_nil, Nat.reduceAdd, Nat.reduceLT]
  refine Evp.pos (by decide) (Evp.pos (Nat.le_of_ble_eq_true rfl) ?_)
  rw [show IntKind.i64.wrap (2 + 1) = 3 from by decide]
  refine Evp.ret ?_
  refine Run.cut (Evp.of_eq (fun k => zoetroperef05_CopyFrame.p116 k ..) ?_)
  refine Evp.ff rfl ?_
  refine Evp.some rfl (Evp.some rfl (Evp.some rfl (Evp.some rfl (Evp.some rfl (Evp.some rfl (Evp.some rfl (Evp.some rfl (Evp.some rfl ?_))))))))
  exact Evp.ret (Run.ret ⟨B0, B1, B2, d0, d1, d2, M3, rfl, (p1.trans p2).trans p3, k1.rdI.pre (p2.trans p3), k2.rdI.pre p3, k3.rdI, g1, g2, g3⟩)
theorem sameFrame_eq (B0 B1 B2 : Option Addr) (d0 d1 d2 : Nat) (hx : RdI M .u8 A0 xs) (hy : RdI M .u8 A1 ys) (hz : RdI M .u8 A2 zs) (hx' : RdI M .u8 B0 xs) (hy' : RdI M .u8 B1 ys) (hz' : RdI M .u8 B2 zs) (n0 : xs.length ≤ 140737488351232) (n1 : ys.length ≤ 140737488351232) (n2 : zs.length ≤ 140737488351232) :
    Ac P T lo F.zoetroperef05_SameFrame [.agg ⟨[.int .i64 w0, .int .i64 h0, .slice A0 xs.length c0, .int .i64 w1, .int .i64 h1, .slice A1 ys.length c1, .int .i64 w2, .int .i64 h2, .slice A2 zs.length c2]⟩, .agg ⟨[.int .i64 w0, .int .i64 h0, .slice B0 xs.length d0, .int .i64 w1, .int .i64 h1, .slice B1 ys.length d1, .int .i64 w2, .int .i64 h2, .slice B2 zs.length d2]⟩] M fun r => r = (.bool true, M) := by
  refine Ac.of (Evp.of_eq (fun k => zoetroperef05_SameFrame.entry k ..) ?_)
  refine Evp.ob (rsame_ok _ _ _ _ _ _ _ _ _ _ _ _ hx hx' n0) ?_
  rintro _ rfl
  simp only [ret_int, ret_bool, ret_flt, ret_slc, ret_str, ret_ptr, ret_agg, ret_tup, ob_some, bb_true, bb_false, List.getElem?_cons_zero, List.getElem?_cons_succ, List.length_cons, List.length_nil, Nat.reduceAdd, Nat.reduceLT]
  refine Evp.tt (by simp) ?_
  refine Evp.ob (rsame_ok _ _ _ _ _ _ _ _ _ _ _ _ hy hy' n1) ?_
  rintro _ rfl
  simp only [ret_int, ret_bool, ret_flt, ret_slc, ret_str, ret_ptr, ret_agg, ret_tup, ob_some, bb_true, bb_false, List.getElem?_cons_zero, List.getElem?_cons_succ, List.length_cons, List.length_nil, Nat.reduceAdd, Nat.reduceLT]
  refine Evp.tt (by simp) ?_
  refine Evp.ob (rsame_ok _ _ _ _ _ _ _ _ _ _ _ _ hz hz' n2) ?_
  rintro _ rfl
  simp only [ret_int, ret_bool, ret_flt, ret_slc, ret_str, ret_ptr, ret_agg, ret_tup, ob_some, bb_true, bb_false, List.getElem?_cons_zero, List.getElem?_cons_succ, List.length_cons, List.length_nil, Nat.reduceAdd, Nat.reduceLT]
  exact Evp.ret (Run.ret (by simp))
end
theorem copyOwn_ok (lo : Nat) (f : Fr3) (M : Mem) (hlo : lo ≤ M.length) (hf : FrOk M f) : Ac P T lo F.zoetroperef05_CopyFrame [.agg ⟨f.cells⟩] M fun r => ∃ ad cc M', r = (.agg ⟨csL f ad cc⟩, M') ∧ Pre M M' ∧ (∀ n, n < 3 → (f.at n).xs.length ≤ cc n) ∧ Bufs M M' f ad fun n => (f.at n).xs := by
  have sm : ∀ n, n < 3 → (f.at n).xs.length ≤ 140737488351232 := fun n hn => by
    have := checkS_len' (hf.chk n hn)
    have a := area ⟨this.1, this.2.1, this.2.2.1, this.2.2.2.1⟩
    have h := this.2.2.2.2
    omega
  refine Ac.of (Evp.of_eq (fun k => zoetroperef05_CopyFrame.entry k ..) ?_)
  refine Evp.ret ?_
  refine Run.cut (Evp.of_eq (fun k => zoetroperef05_CopyFrame.p116 k ..) ?_)
  refine Evp.tt rfl (Evp.pos (by decide) (Evp.some rfl (Evp.some rfl (Evp.some rfl ?_))))
  refine Evp.ob (copyPlane_ok _ _ _ _ _ _ _ (hf.rd 0 (by omega)) (sm 0 (by omega))) ?_
  rintro _ ⟨B0, d0, M1, rfl, p1, g1, k1⟩
  simp only [ret_int, ret_bool, ret_flt, ret_slc, ret_str, ret_ptr, ret_agg, ret_tup, ob_some, bb_true, bb_false, List.getElem?_cons_zero, List.getElem?_cons_succ, List.length_cons, List.length_nil, Nat.reduceAdd, Nat.reduceLT]
  refine Evp.pos (by decide) (Evp.pos (Nat.le_of_ble_eq_true rfl) ?_)
  rw [show IntKind.i64.wrap (0 + 1) = 1 from by decide]
  refine Evp.ret ?_
  refine Run.cut (Evp.of_eq (fun k => zoetroperef05_CopyFrame.p116 k ..) ?_)
  refine Evp.tt rfl (Evp.pos (by decide) (Evp.some rfl (Evp.some rfl (Evp.some rfl ?_))))
  refine Evp.ob (copyPlane_ok _ _ _ _ _ _ _ ((hf.rd 1 (by omega)).pre p1) (sm 1 (by omega))) ?_
  rintro _ ⟨B1, d1, M2, rfl, p2, g2, k2⟩
  simp only [ret_int, ret_bool, ret_flt, ret_slc, ret_str, ret_ptr, ret_agg, ret_tup, ob_some, bb_true, bb_false, List.getElem?_cons_zero, List.getElem?_cons_succ, List.length_cons, List.length_nil, Nat.reduceAdd, Nat.reduceLT]
  refine Evp.pos (by decide) (Evp.pos (Nat.le_of_ble_eq_true rfl) ?_)
  rw [show IntKind.i64.wrap (1 + 1) = 2 from by decide]
  refine Evp.ret ?_
  refine Run.cut (Evp.of_eq (fun k => zoetroperef05_CopyFrame.p116 k ..) ?_)
  refine Evp.tt rfl (Evp.pos (by decide) (Evp.some rfl (Evp.some rfl (Evp.some rfl ?_))))
  refine Evp.ob (copyPlane_ok _ _ _ _ _ _ _ ((hf.rd 2 (by omega)).pre (p1.trans p2)) (sm 2 (by omega))) ?_
  rintro _ ⟨B2, d2, M3, rfl, p3, g3, k3⟩
  simp only [ret_int, ret_bool, ret_flt, ret_slc, ret_str, ret_ptr, ret_agg, ret_tup, ob_some, bb_true, bb_false, List.getElem?_cons_zero, List.getElem?_cons_succ, List.length_cons, List.length_nil, Nat.reduceAdd, Nat.reduceLT]
  refine Evp.pos (by decide) (Evp.pos (Nat.le_of_ble_eq_true rfl) ?_)
  rw [show IntKind.i64.wrap (2 + 1) = 3 from by decide]
  refine Evp.ret ?_
  refine Run.cut (Evp.of_eq (fun k => zoetroperef05_CopyFrame.p116 k ..) ?_)
  refine Evp.ff rfl ?_
  refine Evp.some rfl (Evp.some rfl (Evp.some rfl (Evp.some rfl (Evp.some rfl (Evp.some rfl (Evp.some rfl (Evp.some rfl (Evp.some rfl ?_))))))))
  obtain ⟨a0, a1, a2, rfl, rfl, rfl, hB⟩ := bufs_of hf p1 p2 p3 (Grow.own k1) (Grow.own k2) (Grow.own k3)
  exact Evp.ret (Run.ret ⟨pick3 a0 a1 a2, pick3 d0 d1 d2, M3, rfl, (p1.trans p2).trans p3, fun n hn => by
    rcases lt3 hn with rfl | rfl | rfl
    · exact g1
    · exact g2
    · exact g3, hB⟩)
section
variable (lo : Nat) (f : Fr3) (Q V : Option Addr) (qc vc : Nat) (qs : List Bool) (ws : List Int) (hd : Hd) (L : List Int) (M : Mem)
variable (hlo : lo ≤ M.length) (hf : FrIn M f) (hQ : RdB M Q qs) (hV : RdI M .i64 V ws) (hn : ws.length ≤ 17592186043904) (hL : Rd M hd.A hd.n 4 (L.map (Value.int .i64)))
include hlo hf hQ hV hn hL
theorem rframe_ok : Ac P T lo F.zoetroperef23_Frame [.agg ⟨f.cells⟩, .slice Q qs.length qc, .slice V ws.length vc, .agg ⟨hd.cells⟩] M (FrameR f qs ws hd L M) := by
  refine Ac.of (Evp.of_eq (fun k => zoetroperef23_Frame.entry k ..) ?_)
  refine Evp.ob (rmay_ok lo f Q V qs.length qc vc ws hd L M hV hn hL) ?_
  rintro _ ⟨b, M0, rfl, p0, hb⟩
  simp only [ret_int, ret_bool, ret_flt, ret_slc, ret_str, ret_ptr, ret_agg, ret_tup, ob_some, bb_true, bb_false, List.getElem?_cons_zero, List.getElem?_cons_succ, List.length_cons, List.length_nil, Nat.reduceAdd, Nat.reduceLT]
  refine Evp.nb (fun g => ?_) fun g => ?_
  · have hm : ¬ MayP f qs.length ws hd L := fun e => by rw [hb.2 e] at g; cases g
    exact Evp.ret (Run.ret ⟨p0, .inr ⟨hm, rfl⟩⟩)
  have hm := hb.1 g
  have hw := hm.1
  have hf0 := (hf.ok hw).pre p0
  have hlo0 := Nat.le_trans hlo p0.len
  refine Evp.ob (copyOwn_ok lo f M0 hlo0 hf0) ?_
  rintro _ ⟨ad, cc, M1, rfl, p1, hcc, hB⟩
  simp only [ret_int, ret_bool, ret_flt, ret_slc, ret_str, ret_ptr, ret_agg, ret_tup, ob_some, bb_true, bb_false, List.getElem?_cons_zero, List.getElem?_cons_succ, List.length_cons, List.length_nil, Nat.reduceAdd, Nat.reduceLT]
  have flo : ∀ (M' : Mem) (os : Nat → List Int), Bufs M0 M' f ad os → Bufs M M' f ad os := fun M' os h => ⟨fun n hn => (h.buf n hn).floor p0.len, h.len, h.ne⟩
  refine Evp.nb (fun gc => ?_) fun gc => ?_
  · refine Evp.ret (Run.ret ⟨p0.trans p1, .inl ⟨hm, ad, cc, rfl, hcc, ?_⟩⟩)
    unfold outF
    rw [if_neg (by rw [gc]; decide)]
    exact flo _ _ hB
  have hC := hm.2.2.2.2.2 gc
  have sw : sideP f.p0.w := hw.2.1
  have sh : sideP f.p0.h := hw.2.2.1
  unfold sideP at sw sh
  have h8 := hm.2.1
  have v8 := hm.2.2.1
  have hq0 := hm.2.2.2.1
  have hws := hm.2.2.2.2.1
  obtain ⟨W, hW⟩ := Int.eq_ofNat_of_zero_le (a := f.p0.w) (by omega)
  obtain ⟨H, hH⟩ := Int.eq_ofNat_of_zero_le (a := f.p0.h) (by omega)
  have eW : f.p0.w.toNat = W := by omega
  have eH : f.p0.h.toNat = H := by omega
  have hq : qs.length = W / 8 * (H / 8) := by
    rw [hW, hH, show (W : Int) / 8 = ((W / 8 : Nat) : Int) by omega, show (H : Int) / 8 = ((H / 8 : Nat) : Int) by omega, ← Int.natCast_mul] at hq0
    omega
  have hwl : ws.length = (W + 63) / 64 * ((H + 63) / 64) := by
    rw [hW, hH, show ((W : Int) + 63) / 64 = (((W + 63) / 64 : Nat) : Int) by omega, show ((H : Int) + 63) / 64 = (((H + 63) / 64 : Nat) : Int) by omega, ← Int.natCast_mul] at hws
    omega
  have hqm : qs.length ≤ 32 * 32 := by rw [hq]; exact Nat.mul_le_mul (by omega) (by omega)
  have hwm : ws.length ≤ 5 * 5 := by rw [hwl]; exact Nat.mul_le_mul (by omega) (by omega)
  have rows : ∀ (e j : Nat) (M2 : Mem), H / 8 - j = e → j ≤ H / 8 → Pre M0 M2 → Bufs M0 M2 f ad (foldF f qs ws L hd.damp (j * (W / 8))) →
      Run P T lo F.zoetroperef23_Frame (zoetroperef23_Frame.c1012 Q qs.length qc V ws.length vc f.p0.w f.p0.h ((8 * j : Nat) : Int) f.p0.w f.p0.h f.p0.A f.p0.xs.length f.p0.c f.p1.w f.p1.h f.p1.A f.p1.xs.length f.p1.c f.p2.w f.p2.h f.p2.A f.p2.xs.length f.p2.c hd.h0 hd.h1 hd.h2 hd.h3 hd.h4 hd.h5 hd.h6 hd.h7 hd.h8 hd.h9 hd.h10 hd.h11 hd.h12 hd.h13 hd.h14 hd.h15 hd.h16 hd.h17 hd.h18 hd.h19 hd.h20 hd.h21 hd.h22 hd.cdef hd.damp hd.h25 hd.A hd.n hd.c hd.h27 hd.h28 hd.h29 0 0 none 0 0 0 0 none 0 0 0 0 none 0 0 f.p0.w f.p0.h (some (ad 0)) f.p0.xs.length (cc 0) f.p1.w f.p1.h (some (ad 1)) f.p1.xs.length (cc 1) f.p2.w f.p2.h (some (ad 2)) f.p2.xs.length (cc 2) M2) (FrameR f qs ws hd L M) := by
    intro e
    induction e with
    | zero =>
      intro j M2 he hj hp hB
      obtain rfl : j = H / 8 := by omega
      refine Run.cut (Evp.of_eq (fun k => zoetroperef23_Frame.p1012 k ..) ?_)
      refine Evp.dec (fun g => absurd g (by omega)) fun _ => Evp.ret (Run.ret ⟨p0.trans hp, .inl ⟨hm, ad, cc, rfl, hcc, ?_⟩⟩)
      unfold outF
      rw [if_pos gc, hq, Nat.mul_comm]
      exact flo _ _ hB
    | succ e ih =>
      intro j M2 he hj hp hB
      have hjH : j < H / 8 := by omega
      have cols : ∀ (e i : Nat) (M2 : Mem), W / 8 - i = e → i ≤ W / 8 → Pre M0 M2 → Bufs M0 M2 f ad (foldF f qs ws L hd.damp (j * (W / 8) + i)) →
          Run P T lo F.zoetroperef23_Frame (zoetroperef23_Frame.c64804 Q qs.length qc V ws.length vc f.p0.w f.p0.h ((8 * j : Nat) : Int) ((8 * i : Nat) : Int) f.p0.w f.p0.h f.p0.A f.p0.xs.length f.p0.c f.p1.w f.p1.h f.p1.A f.p1.xs.length f.p1.c f.p2.w f.p2.h f.p2.A f.p2.xs.length f.p2.c hd.h0 hd.h1 hd.h2 hd.h3 hd.h4 hd.h5 hd.h6 hd.h7 hd.h8 hd.h9 hd.h10 hd.h11 hd.h12 hd.h13 hd.h14 hd.h15 hd.h16 hd.h17 hd.h18 hd.h19 hd.h20 hd.h21 hd.h22 hd.cdef hd.damp hd.h25 hd.A hd.n hd.c hd.h27 hd.h28 hd.h29 0 0 none 0 0 0 0 none 0 0 0 0 none 0 0 f.p0.w f.p0.h (some (ad 0)) f.p0.xs.length (cc 0) f.p1.w f.p1.h (some (ad 1)) f.p1.xs.length (cc 1) f.p2.w f.p2.h (some (ad 2)) f.p2.xs.length (cc 2) M2) (FrameR f qs ws hd L M) := by
        intro e
        induction e with
        | zero =>
          intro i M2 he hi hp hB
          obtain rfl : i = W / 8 := by omega
          refine Run.cut (Evp.of_eq (fun k => zoetroperef23_Frame.p64804 k ..) ?_)
          refine Evp.dec (fun g => absurd g (by omega)) fun _ => ?_
          rw [w64 (x := ((8 * j : Nat) : Int) + 8) (by omega), show ((8 * j : Nat) : Int) + 8 = ((8 * (j + 1) : Nat) : Int) by omega]
          rw [← Nat.succ_mul] at hB
          exact Evp.ret (ih (j + 1) M2 (by omega) (by omega) hp hB)
        | succ e ih2 =>
          intro i M2 he hi hp hB
          have hiW : i < W / 8 := by omega
          obtain ⟨d1, d2⟩ := dm (W := W / 8) (r := j) (s := i) hiW
          have hkl : j * (W / 8) + i < qs.length := by rw [hq, Nat.mul_comm (W / 8)]; exact dm_in hjH hiW
          have on : ∀ M', Pre M0 M' → Bufs M0 M' f ad (foldF f qs ws L hd.damp (j * (W / 8) + i + 1)) → Run P T lo F.zoetroperef23_Frame (zoetroperef23_Frame.c259219 Q qs.length qc V ws.length vc f.p0.w f.p0.h ((8 * j : Nat) : Int) ((8 * i : Nat) : Int) f.p0.w f.p0.h f.p0.A f.p0.xs.length f.p0.c f.p1.w f.p1.h f.p1.A f.p1.xs.length f.p1.c f.p2.w f.p2.h f.p2.A f.p2.xs.length f.p2.c hd.h0 hd.h1 hd.h2 hd.h3 hd.h4 hd.h5 hd.h6 hd.h7 hd.h8 hd.h9 hd.h10 hd.h11 hd.h12 hd.h13 hd.h14 hd.h15 hd.h16 hd.h17 hd.h18 hd.h19 hd.h20 hd.h21 hd.h22 hd.cdef hd.damp hd.h25 hd.A hd.n hd.c hd.h27 hd.h28 hd.h29 0 0 none 0 0 0 0 none 0 0 0 0 none 0 0 f.p0.w f.p0.h (some (ad 0)) f.p0.xs.length (cc 0) f.p1.w f.p1.h (some (ad 1)) f.p1.xs.length (cc 1) f.p2.w f.p2.h (some (ad 2)) f.p2.xs.length (cc 2) M') (FrameR f qs ws hd L M) := fun M' q1 q2 => by
            refine Run.cut (Evp.of_eq (fun k => zoetroperef23_Frame.p259219 k ..) ?_)
            rw [w64 (x := ((8 * i : Nat) : Int) + 8) (by omega), show ((8 * i : Nat) : Int) + 8 = ((8 * (i + 1) : Nat) : Int) by omega]
            exact Evp.ret (ih2 (i + 1) M' (by omega) (by omega) q1 q2)
          have ek : IntKind.i64.wrap ((IntKind.i64.wrap ((IntKind.i64.wrap (Int.tdiv ((8 * j : Nat) : Int) 8)) * (IntKind.i64.wrap (Int.tdiv f.p0.w 8)))) + (IntKind.i64.wrap (Int.tdiv ((8 * i : Nat) : Int) 8))) = ((j * (W / 8) + i : Nat) : Int) := by
            rw [hW, show Int.tdiv ((8 * j : Nat) : Int) 8 = ((8 * j / 8 : Nat) : Int) from rfl, show Int.tdiv (W : Int) 8 = ((W / 8 : Nat) : Int) from rfl, show Int.tdiv ((8 * i : Nat) : Int) 8 = ((8 * i / 8 : Nat) : Int) from rfl, show 8 * j / 8 = j by omega, show 8 * i / 8 = i by omega,
              w64 (x := (j : Int)) (by omega), w64 (x := ((W / 8 : Nat) : Int)) (by omega), w64 (x := (i : Int)) (by omega), ← Int.natCast_mul]
            generalize j * (W / 8) = u at *
            rw [w64 (x := (u : Int)) (by omega), w64 (by omega)]; omega
          refine Run.cut (Evp.of_eq (fun k => zoetroperef23_Frame.p64804 k ..) ?_)
          refine Evp.dec (fun _ => ?_) fun g => absurd g (by omega)
          rw [ek]
          refine Evp.pos (by omega) ?_
          simp only [Int.toNat_natCast]
          refine Evp.ldB ((hQ.pre p0).pre hp) hkl fun _ _ => ?_
          refine Evp.nb (fun g => ?_) fun g => Evp.ret (on M2 hp (show Bufs M0 M2 f ad (if qs.getD (j * (W / 8) + i) false = true then foldF f qs ws L hd.damp (j * (W / 8) + i) else _) from by rw [if_pos g]; exact hB))
          have on2 := fun M' q1 q2 => on M' q1 (show Bufs M0 M' f ad (if qs.getD (j * (W / 8) + i) false = true then foldF f qs ws L hd.damp (j * (W / 8) + i) else _) from by rw [if_neg (by rw [g]; decide)]; exact q2)
          clear on
          rw [eW, d1, d2] at on2
          have bX : 8 * i % 8 = 0 ∧ 8 * i + 8 ≤ W := by omega
          have bY : 8 * j % 8 = 0 ∧ 8 * j + 8 ≤ H := by omega
          have hJ : 8 * j / 64 * ((W + 63) / 64) + 8 * i / 64 < ws.length := by
            rw [hwl, Nat.mul_comm ((W + 63) / 64)]
            exact dm_in (by omega) (by omega)
          have eJ : IntKind.i64.wrap ((IntKind.i64.wrap ((IntKind.i64.wrap (Int.tdiv ((8 * j : Nat) : Int) 64)) * (IntKind.i64.wrap (Int.tdiv (IntKind.i64.wrap (f.p0.w + 63)) 64)))) + (IntKind.i64.wrap (Int.tdiv ((8 * i : Nat) : Int) 64))) = ((8 * j / 64 * ((W + 63) / 64) + 8 * i / 64 : Nat) : Int) := by
            rw [hW, w64 (x := (W : Int) + 63) (by omega), show (W : Int) + 63 = ((W + 63 : Nat) : Int) by omega, show Int.tdiv ((W + 63 : Nat) : Int) 64 = (((W + 63) / 64 : Nat) : Int) from rfl,
              show Int.tdiv ((8 * j : Nat) : Int) 64 = ((8 * j / 64 : Nat) : Int) from rfl, show Int.tdiv ((8 * i : Nat) : Int) 64 = ((8 * i / 64 : Nat) : Int) from rfl, w64 (x := (((W + 63) / 64 : Nat) : Int)) (by omega), w64 (x := ((8 * j / 64 : Nat) : Int)) (by omega), w64 (x := ((8 * i / 64 : Nat) : Int)) (by omega), ← Int.natCast_mul]
            generalize 8 * j / 64 * ((W + 63) / 64) = u at *
            rw [w64 (x := (u : Int)) (by omega), w64 (by omega)]; omega
          rw [eJ]
          generalize 8 * j / 64 * ((W + 63) / 64) + 8 * i / 64 = J at *
          refine Evp.pos (by omega) ?_
          simp only [Int.toNat_natCast]
          refine Evp.ldI ((hV.pre p0).pre hp) hJ fun _ _ => ?_
          have hJ4 := hC.2.2.2 J hJ
          refine Evp.pos (by omega) ?_
          obtain ⟨q, hq'⟩ : ∃ q, q = (ws.getD J 0).toNat := ⟨_, rfl⟩
          rw [← hq'] at on2 ⊢
          have hqn : q < hd.n := by omega
          obtain ⟨a, ea, l0, l1, l2, l3⟩ := ldS ((hL.pre p0).pre hp) (i := q) hqn
          have sq := hC.2.2.1 q hqn
          refine Evp.some ea (Evp.some l0 (Evp.some l1 (Evp.some l2 (Evp.some l3 ?_))))
          refine Evp.ob (rblk_ok lo f M0 ad cc hlo0 hf0 hw h8 v8 (8 * i) (8 * j) ⟨bX.1, by omega⟩ ⟨bY.1, by omega⟩ _ _ _ _ hd.damp sq hC.1 _ M2 hp hB) ?_
          rintro _ ⟨M3, rfl, p3, b3⟩
          simp only [ret_int, ret_bool, ret_flt, ret_slc, ret_str, ret_ptr, ret_agg, ret_tup, ob_some, bb_true, bb_false, List.getElem?_cons_zero, List.getElem?_cons_succ, List.length_cons, List.length_nil, Nat.reduceAdd, Nat.reduceLT]
          exact Evp.ret (on2 M3 p3 b3)
      refine Run.cut (Evp.of_eq (fun k => zoetroperef23_Frame.p1012 k ..) ?_)
      refine Evp.dec (fun _ => ?_) fun g => absurd g (by omega)
      exact Evp.ret (cols _ 0 M2 rfl (Nat.zero_le _) hp hB)
  refine Evp.ret (rows _ 0 M1 rfl (Nat.zero_le _) p1 ?_)
  rw [Nat.zero_mul]
  exact hB
end
end Go.Zt
