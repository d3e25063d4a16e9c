/- What the law ChainKnown needs of the text Ft. -/
import Derived.Test.YtbbfdebfhgdciaaPFp
set_option linter.unusedVariables false
set_option linter.unusedSimpArgs false
set_option maxRecDepth 100000
set_option maxHeartbeats 4000000
namespace Go.Zt
def hdK (b l0 l1 l2 l3 sh d : Int) (r : Bool) : Hd := ⟨false, 0, false, false, 0, 0, 0, 0, 0, b, 0, 0, 0, 0, d, 0, 0, false, l0, l1, l2, l3, sh, false, 0, 0, none, 0, 0, false, r, false⟩
def zM : MapV := ⟨0, 0, none, [], 0, none, [], 0, none, [], 0⟩
def zS : SideV := ⟨zM, zM, zM, none, [], 0, none, [], 0, ⟨none, [], 0⟩, ⟨none, [], 0⟩, ⟨none, [], 0⟩⟩
theorem zS_ok (M : Mem) : SideOk M zS := by
  have em : MapOk M zM := ⟨RdI.nil, RdI.nil, Rd.zero, Nat.zero_le _⟩
  have eu : UnOk M ⟨none, [], 0⟩ := ⟨Rd.zero, fun x hx => by simp at hx, by simp⟩
  refine ⟨fun n => ?_, Rd.zero, RdI.nil, Nat.zero_le _, fun n => ?_⟩
  · match n with
    | 0 => exact em
    | 1 => exact em
    | n + 2 => exact em
  · match n with
    | 0 => exact eu
    | 1 => exact eu
    | n + 2 => exact eu
structure FrW (f : Fr3) (w h : Nat) (v : Int) : Prop where
  w0 : f.p0.w = w
  h0 : f.p0.h = h
  x0 : f.p0.xs = List.replicate (w * h) v
  w1 : f.p1.w = (w / 2 : Nat)
  h1 : f.p1.h = (h / 2 : Nat)
  x1 : f.p1.xs = List.replicate ((w / 2) * (h / 2)) v
  w2 : f.p2.w = (w / 2 : Nat)
  h2 : f.p2.h = (h / 2 : Nat)
  x2 : f.p2.xs = List.replicate ((w / 2) * (h / 2)) v
structure Dim16 (f : Fr3) : Prop where
  w0 : f.p0.w = 16
  h0 : f.p0.h = 16
  n0 : f.p0.xs.length = 256
  w1 : f.p1.w = 8
  h1 : f.p1.h = 8
  n1 : f.p1.xs.length = 64
  w2 : f.p2.w = 8
  h2 : f.p2.h = 8
  n2 : f.p2.xs.length = 64
theorem StepIs.dim {f : Fr3} (h : StepIs f) : Dim16 f := ⟨h.w0, h.h0, by rw [h.x0, stepL_len], h.w1, h.h1, by rw [h.x1, List.length_replicate], h.w2, h.h2, by rw [h.x2, List.length_replicate]⟩
theorem FrW.dim {f : Fr3} {v : Int} (h : FrW f 16 16 v) : Dim16 f := ⟨h.w0, h.h0, by rw [h.x0, List.length_replicate], h.w1, h.h1, by rw [h.x1, List.length_replicate], h.w2, h.h2, by rw [h.x2, List.length_replicate]⟩
theorem FrW.flat {f : Fr3} {w h : Nat} {v : Int} (hf : FrW f w h v) (hv : 0 ≤ v ∧ v ≤ 255) : FlatF f fun _ => v := ⟨fun n hn => hv, fun n hn => by
  rcases lt3 hn with rfl | rfl | rfl
  · show f.p0.xs = List.replicate f.p0.xs.length v; rw [hf.x0, List.length_replicate]
  · show f.p1.xs = List.replicate f.p1.xs.length v; rw [hf.x1, List.length_replicate]
  · show f.p2.xs = List.replicate f.p2.xs.length v; rw [hf.x2, List.length_replicate]⟩
theorem Dim16.whole {f : Fr3} (h : Dim16 f) : WholeF f := by
  unfold WholeF
  rw [h.w0, h.h0, h.n0, h.w1, h.h1, h.n1, h.w2, h.h2, h.n2]
  decide
theorem Dim16.small {f : Fr3} (h : Dim16 f) : ∀ n, n < 3 → (f.at n).xs.length ≤ 140737488351232 := fun n hn => by
  rcases lt3 hn with rfl | rfl | rfl
  · show f.p0.xs.length ≤ _; rw [h.n0]; decide
  · show f.p1.xs.length ≤ _; rw [h.n1]; decide
  · show f.p2.xs.length ≤ _; rw [h.n2]; decide
section
variable (lo : Nat)
theorem frameW_ok (w h : Nat) (v : Int) (M : Mem) (hlo : lo ≤ M.length) (hs : sideP w ∧ sideP h) (hv : 0 ≤ v ∧ v ≤ 255) :
    Ac P T lo F.plane_Frame [.int .i64 w, .int .i64 h, .int .u8 v] M fun r => ∃ (f : Fr3) (M' : Mem), r = (.tuple ⟨[.agg ⟨f.cells⟩, .int .i64 0]⟩, M') ∧ Pre M M' ∧ FrIn M' f ∧ FrW f w h v := by
  refine Ac.mono (frame_ok lo w h v M hlo hs) ?_
  rintro _ ⟨a0, a1, a2, M', rfl, p, b0, b1, b2, _⟩
  refine ⟨⟨⟨w, h, some a0, w * h, List.replicate (w * h) v⟩, ⟨(w / 2 : Nat), (h / 2 : Nat), some a1, (w / 2) * (h / 2), List.replicate ((w / 2) * (h / 2)) v⟩, ⟨(w / 2 : Nat), (h / 2 : Nat), some a2, (w / 2) * (h / 2), List.replicate ((w / 2) * (h / 2)) v⟩⟩, M', ?_, p, ⟨fun n hn => ?_, fun n hn => ?_, fun n hn => ?_⟩, ⟨rfl, rfl, rfl, rfl, rfl, rfl, rfl, rfl, rfl⟩⟩
  · simp only [Fr3.cells, List.length_replicate]
  · rcases lt3 hn with rfl | rfl | rfl
    · exact b0.rdI
    · exact b1.rdI
    · exact b2.rdI
  · rcases lt3 hn with rfl | rfl | rfl <;> exact fun z hz => by rw [List.eq_of_mem_replicate hz]; exact hv
  · rcases lt3 hn with rfl | rfl | rfl <;> (show (List.replicate _ _).length ≤ _; rw [List.length_replicate]; exact Nat.le_refl _)
variable (f : Fr3) (s : SideV) (hd : Hd) (L : List Int) (M : Mem)
variable (hlo : lo ≤ M.length) (hf : FrIn M f) (hs : SideOk M s) (hL : Rd M hd.A hd.n 4 (L.map (Value.int .i64))) (hwf : HdWf hd)
include hlo hf hs hL hwf
theorem run_got (hP : RunP f s hd L) : Ac P T lo F.chain_Run [.agg ⟨f.cells⟩, .agg ⟨hd.cells⟩, .agg ⟨s.cells⟩] M fun r => ∃ (X : Fr3) (M' : Mem), r = (.tuple ⟨[.agg ⟨X.cells⟩, .int .i64 0]⟩, M') ∧ Pre M M' ∧ FrIn M' X ∧ ∀ n, n < 3 → (X.at n).w = (f.at n).w ∧ (X.at n).h = (f.at n).h ∧ (X.at n).xs = runS f s hd L n := by
  refine Ac.mono (run_ok lo f s hd L M hlo hf hs hL hwf) ?_
  rintro ⟨v, M'⟩ ⟨p, hr⟩
  rcases hr with ⟨_, b, ad, cc, gg, e, own, eg⟩ | ⟨hno, _⟩
  · obtain rfl : v = _ := e
    refine ⟨frB f ad cc gg, M', rfl, p, (own.frS f).in_, fun n hn => ?_⟩
    rw [← eg n hn]
    rcases lt3 hn with rfl | rfl | rfl <;> exact ⟨rfl, rfl, rfl⟩
  · exact absurd hP hno
theorem run_not (hP : ¬ RunP f s hd L) : Ac P T lo F.chain_Run [.agg ⟨f.cells⟩, .agg ⟨hd.cells⟩, .agg ⟨s.cells⟩] M fun r => ∃ M', r = (.tuple ⟨[.agg ⟨zeroF⟩, .int .i64 2]⟩, M') ∧ Pre M M' := by
  refine Ac.mono (run_ok lo f s hd L M hlo hf hs hL hwf) ?_
  rintro ⟨v, M'⟩ ⟨p, hr⟩
  rcases hr with ⟨hy, _⟩ | ⟨_, e⟩
  · exact absurd hy hP
  · obtain rfl : v = _ := e
    exact ⟨M', rfl, p⟩
end
theorem map_passT {m : MapV} {w h t : Int} {k : Nat} (ht : TxP t) (hm : MapIs m w h k t) (W H nx lv sh : Int) (h1 : checkS W H nx = 0 ∧ W % 4 = 0 ∧ H % 4 = 0 ∧ w = W / 4 ∧ h = H / 4 ∧ (k : Int) = w * h) (h2 : 0 ≤ lv ∧ lv ≤ 63 ∧ 0 ≤ sh ∧ sh ≤ 7) : PassOk W H nx m.w m.h m.tx m.ids.length m.qs.length lv sh := by
  refine ⟨⟨h1.1, h1.2.1, h1.2.2.1, by rw [hm.w]; exact h1.2.2.2.1, by rw [hm.h]; exact h1.2.2.2.2.1, ?_, ?_, ?_, fun x hx => ?_⟩, h2⟩
  · rw [hm.tx, hm.w, hm.h, List.length_replicate]; exact h1.2.2.2.2.2
  · rw [hm.ids, hm.w, hm.h, List.length_map, List.length_range]; exact h1.2.2.2.2.2
  · rw [hm.qs, hm.w, hm.h, List.length_replicate]; exact h1.2.2.2.2.2
  · rw [hm.tx] at hx
    rw [List.eq_of_mem_replicate hx]
    exact ht
section
variable {f : Fr3} {s : SideV} {L : List Int} {t : Int}
theorem bare_passes (b l0 l1 l2 l3 d : Int) (r : Bool) (hf : Dim16 f) (h0 : MapIs s.m0 4 4 16 t) (h1 : MapIs s.m1 2 2 4 t) (h2 : MapIs s.m2 2 2 4 t) (ht : TxP t) (k0 : 0 ≤ l0 ∧ l0 ≤ 63) (k1 : 0 ≤ l1 ∧ l1 ≤ 63) (k2 : 0 ≤ l2 ∧ l2 ≤ 63) (k3 : 0 ≤ l3 ∧ l3 ≤ 63) : PassesP f s (hdK b l0 l1 l2 l3 0 d r) := fun n hn => by
  rcases lt3 hn with rfl | rfl | rfl
  · have e : ∀ lv, 0 ≤ lv ∧ lv ≤ 63 → PassP (f.at 0) (s.map 0) lv 0 := fun lv hl => by
      show PassOk f.p0.w f.p0.h f.p0.xs.length s.m0.w s.m0.h s.m0.tx s.m0.ids.length s.m0.qs.length lv 0
      rw [hf.w0, hf.h0, hf.n0]
      exact map_passT ht h0 _ _ _ _ _ (by decide) ⟨hl.1, hl.2, by decide, by decide⟩
    exact ⟨e _ k0, e _ k1⟩
  · have e : ∀ lv, 0 ≤ lv ∧ lv ≤ 63 → PassP (f.at 1) (s.map 1) lv 0 := fun lv hl => by
      show PassOk f.p1.w f.p1.h f.p1.xs.length s.m1.w s.m1.h s.m1.tx s.m1.ids.length s.m1.qs.length lv 0
      rw [hf.w1, hf.h1, hf.n1]
      exact map_passT ht h1 _ _ _ _ _ (by decide) ⟨hl.1, hl.2, by decide, by decide⟩
    exact ⟨e _ k2, e _ k2⟩
  · have e : ∀ lv, 0 ≤ lv ∧ lv ≤ 63 → PassP (f.at 2) (s.map 2) lv 0 := fun lv hl => by
      show PassOk f.p2.w f.p2.h f.p2.xs.length s.m2.w s.m2.h s.m2.tx s.m2.ids.length s.m2.qs.length lv 0
      rw [hf.w2, hf.h2, hf.n2]
      exact map_passT ht h2 _ _ _ _ _ (by decide) ⟨hl.1, hl.2, by decide, by decide⟩
    exact ⟨e _ k3, e _ k3⟩
theorem bare_runP (b l0 l1 l2 l3 d : Int) (hf : Dim16 f) (h0 : MapIs s.m0 4 4 16 t) (h1 : MapIs s.m1 2 2 4 t) (h2 : MapIs s.m2 2 2 4 t) (hq : s.qs = List.replicate 4 false) (hw : s.ws = [0]) (ht : TxP t) (k0 : 0 ≤ l0 ∧ l0 ≤ 63) (k1 : 0 ≤ l1 ∧ l1 ≤ 63) (k2 : 0 ≤ l2 ∧ l2 ≤ 63) (k3 : 0 ≤ l3 ∧ l3 ≤ 63) : RunP f s (hdK b l0 l1 l2 l3 0 d false) L := by
  have hwh := hf.whole
  refine ⟨hwh, by rw [hf.w0]; rfl, by rw [hf.h0]; rfl, .inr ⟨bare_passes b l0 l1 l2 l3 d false hf h0 h1 h2 ht k0 k1 k2 k3, ?_, fun n hn h => ?_⟩⟩
  · refine ⟨hwh, by rw [hf.w0]; rfl, by rw [hf.h0]; rfl, ?_, ?_, fun h => by cases h⟩
    · rw [hq, hf.w0, hf.h0]; rfl
    · rw [hw, hf.w0, hf.h0]; rfl
  · rcases lt3 hn with rfl | rfl | rfl <;> cases h
theorem no_map {hd : Hd} (hl : ¬ LossP hd) (hf : f.p0.w = 16) : ¬ RunP f zS hd L := fun h => by
  rcases h.2.2.2 with e | ⟨p, _, _⟩
  · exact hl e
  · have := (p 0 (by omega)).1.1.2.2.2.1
    have : (0 : Int) = f.p0.w / 4 := this
    rw [hf] at this
    omega
theorem no_level {hd : Hd} (hl : ¬ LossP hd) (h : hd.h21 = 64) : ¬ RunP f s hd L := fun e => by
  rcases e.2.2.2 with e | ⟨p, _, _⟩
  · exact hl e
  · have := (p 2 (by omega)).1.2.2.1
    have : hd.h21 ≤ 63 := this
    omega
theorem no_sharp {hd : Hd} (hl : ¬ LossP hd) (h : hd.h22 = 8) : ¬ RunP f s hd L := fun e => by
  rcases e.2.2.2 with e | ⟨p, _, _⟩
  · exact hl e
  · have := (p 2 (by omega)).1.2.2.2.2
    omega
theorem no_units {hd : Hd} (hl : ¬ LossP hd) (h : hd.h28 = true) (hf : Dim16 f) (hu : s.u1.us.length = 2) : ¬ RunP f s hd L := fun e => by
  rcases e.2.2.2 with e | ⟨_, _, r⟩
  · exact hl e
  · have := (r 1 (by omega) h).2.2.2.2.2.1
    have : s.u1.us.length = wideN f.p1.w.toNat 32 * wideN f.p1.h.toNat 32 := this
    rw [hu, hf.w1, hf.h1] at this
    revert this
    decide
end
def stepQ : Cells := ⟨4, false, false, List.replicate 16 8, (List.range 16).map fun j => ((j : Nat) : Int), List.replicate 16 false, 32, 0⟩
theorem stepQ_same : stepQ.passS 16 16 stepL 16 = stepL := by decide +kernel
def hdL : Hd := hdK 1 0 32 32 32 0 0 false
theorem lying_run {f : Fr3} {s : SideV} (hf : StepIs f) (hs : BareIs s 8) (hP : PassesP f s hdL) (n : Nat) (hn : n < 3) : runS f s hdL [] n = (f.at n).xs := by
  unfold runS
  rw [if_neg (by decide)]
  unfold restG
  rw [if_neg (by rcases lt3 hn with rfl | rfl | rfl <;> decide)]
  unfold g2 outF
  rw [if_neg (by decide)]
  rcases lt3 hn with rfl | rfl | rfl
  · show ly2 f.p0 s.m0 0 hdL = f.p0.xs
    unfold ly2 up1
    rw [Cells.pass_zero (mOf s.m0 true 0 (lv1 hdL 0) hdL.h22) _ _ rfl, hf.w0, hf.h0, hf.x0]
    have e : mOf s.m0 false 0 (lv2 hdL 0) hdL.h22 = stepQ := by
      show (⟨s.m0.w.toNat, false, false, s.m0.tx, s.m0.ids, s.m0.qs, 32, 0⟩ : Cells) = stepQ
      rw [hs.m0.w, hs.m0.tx, hs.m0.ids, hs.m0.qs]
      rfl
    rw [e, hs.m0.tx, List.length_replicate]
    exact stepQ_same
  · show ly2 f.p1 s.m1 1 hdL = f.p1.xs
    have hx : f.p1.xs = List.replicate f.p1.xs.length 50 := by rw [hf.x1, List.length_replicate]
    have u1 := up_flat true (colB 1) (hP 1 hn).1 (v := 50) (by decide) hx
    have u2 := up_flat false (colB 1) (hP 1 hn).2 (v := 50) (by decide) hx
    show Cells.passS (mOf s.m1 false 1 (lv2 hdL 1) hdL.h22) _ _ (Cells.passS (mOf s.m1 true 1 (lv1 hdL 1) hdL.h22) _ _ _ _) _ = _
    exact (congrArg (fun z => Cells.passS (mOf s.m1 false 1 (lv2 hdL 1) hdL.h22) f.p1.w.toNat f.p1.h.toNat z s.m1.tx.length) u1).trans u2
  · show ly2 f.p2 s.m2 2 hdL = f.p2.xs
    have hx : f.p2.xs = List.replicate f.p2.xs.length 50 := by rw [hf.x2, List.length_replicate]
    have u1 := up_flat true (colB 2) (hP 2 hn).1 (v := 50) (by decide) hx
    have u2 := up_flat false (colB 2) (hP 2 hn).2 (v := 50) (by decide) hx
    show Cells.passS (mOf s.m2 false 2 (lv2 hdL 2) hdL.h22) _ _ (Cells.passS (mOf s.m2 true 2 (lv1 hdL 2) hdL.h22) _ _ _ _) _ = _
    exact (congrArg (fun z => Cells.passS (mOf s.m2 false 2 (lv2 hdL 2) hdL.h22) f.p2.w.toNat f.p2.h.toNat z s.m2.tx.length) u1).trans u2
def knownL : List Int := [100, 100, 100, 100, 100, 101, 101, 102, 103, 103, 104, 104, 104, 104, 104, 104]
theorem stepO_known : (stepO.drop 32).take (48 - 32) = knownL := by decide +kernel
end Go.Zt
