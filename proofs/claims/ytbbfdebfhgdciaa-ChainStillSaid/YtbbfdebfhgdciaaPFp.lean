/- What the law ChainStill needs of the text Fp. -/
import Derived.Test.YtbbfdebfhgdciaaPFo
set_option linter.unusedVariables false
set_option linter.unusedSimpArgs false
set_option maxRecDepth 100000
set_option maxHeartbeats 4000000
namespace Go.Zt
theorem pass_flat (m : Cells) (W H mh : Nat) (hW : W = 4 * m.mw) (hH : H = 4 * mh) (htx : m.tx.length = m.mw * mh) (tp : ∀ t ∈ m.tx, TxP t) (lv : 0 ≤ m.level) {v : Int} (hv : 0 ≤ v ∧ v ≤ 255) : ∀ n, n ≤ m.mw * mh → m.passS W H (List.replicate (H * W) v) n = List.replicate (H * W) v
  | 0, _ => rfl
  | n + 1, h => by
    simp only [Cells.passS]
    rw [pass_flat m W H mh hW hH htx tp lv hv n (by omega)]
    unfold Cells.cellS
    split
    · rfl
    rename_i hs
    have hi : n < m.mw * mh := by omega
    have tpi : ∀ i, i < m.mw * mh → TxP (m.tx.getD i 0) := fun i hi => by
      rw [List.getD_eq_getElem?_getD, List.getElem?_eq_getElem (by omega)]
      exact tp _ (List.getElem_mem _)
    obtain ⟨g1, g2, g3, g4⟩ := geo m W H mh n hW hH hi (tpi n hi) (tpi _ (prev_lt hi)) hs
    have P1 := pos_eq m W H mh n hW hH hi (tpi n hi) (tpi _ (prev_lt hi)) hs
    obtain ⟨hf, e1, e2⟩ : ∃ hf, m.taps W H n = 2 * hf ∧ (hf = 2 ∨ hf = 3 ∨ hf = 4 ∨ hf = 7) := ⟨m.taps W H n / 2, by omega, by omega⟩
    have ll : ∀ k, k ≤ 4 → m.linesS W H (List.replicate (H * W) v) n k = List.replicate (H * W) v := fun k => by
      induction k with
      | zero => intro _; rfl
      | succ k ih =>
        intro hk
        simp only [Cells.linesS]
        rw [ih (by omega)]
        refine lineS_id ?_
        have es : secL (List.replicate (H * W) v) (m.first W H n k) (m.step W) (m.taps W H n) = List.replicate (2 * hf) v := by
          refine ext_getD (by rw [secL_len, e1, List.length_replicate]) fun j hj => ?_
          rw [secL_len] at hj
          unfold secL
          rw [getD_map_range hj, rep_get (P1 k j (by omega) hj).2.1, rep_get (by omega)]
        rw [es]
        exact flat_edge hv lv e2
    exact ll 4 (by omega)
theorem up_flat {w h mw mh lv sh : Int} {tx ids : List Int} {qs : List Bool} (up col : Bool) {xs : List Int} {v : Int} (hp : PassOk w h xs.length mw mh tx ids.length qs.length lv sh) (hv : 0 ≤ v ∧ v ≤ 255) (hx : xs = List.replicate xs.length v) :
    (⟨mw.toNat, up, col, tx, ids, qs, lv, sh⟩ : Cells).passS w.toNat h.toNat xs tx.length = xs := by
  obtain ⟨⟨k1, k2, k3, k4, k5, k6, k7, k8, k9⟩, l0, l1, p0, p1⟩ := hp
  have s1 := checkS_len' k1
  obtain ⟨W, rfl⟩ := Int.eq_ofNat_of_zero_le (a := w) (by omega)
  obtain ⟨Hh, rfl⟩ := Int.eq_ofNat_of_zero_le (a := h) (by omega)
  have n1 : xs.length = Hh * W := by have := s1.2.2.2.2; rw [← Int.natCast_mul, Nat.mul_comm] at this; omega
  obtain ⟨m, rfl⟩ := Int.eq_ofNat_of_zero_le (a := mw) (by omega)
  obtain ⟨mhn, rfl⟩ := Int.eq_ofNat_of_zero_le (a := mh) (by omega)
  rw [← Int.natCast_mul] at k6
  have := pass_flat ⟨m, up, col, tx, ids, qs, lv, sh⟩ W Hh mhn (by show W = 4 * m; omega) (by omega) (by show tx.length = m * mhn; omega) k9 l0 hv tx.length (by show tx.length ≤ m * mhn; omega)
  rw [n1] at hx
  rw [hx]
  simp only [Int.toNat_natCast]
  exact this
theorem flat_near {w h X Y : Nat} {n : Nat} {v : Int} (hn : n = w * h) : NearP w h X Y (List.replicate n v) v v := fun cx cy hin _ _ => by
  obtain ⟨⟨g1, g2⟩, g3, g4⟩ := hin
  obtain ⟨a, rfl⟩ := Int.eq_ofNat_of_zero_le g1
  obtain ⟨c, rfl⟩ := Int.eq_ofNat_of_zero_le g3
  have ha : a < w := by omega
  have hc : c < h := by omega
  have hlt : c * w + a < n := by
    have := Nat.mul_le_mul (show c + 1 ≤ h by omega) (Nat.le_refl w)
    rw [Nat.add_mul, Nat.one_mul] at this
    rw [hn, Nat.mul_comm w h]; omega
  unfold atP
  rw [show ((c : Int) * w + a).toNat = c * w + a by rw [← Int.natCast_mul]; omega, rep_get hlt]
  exact ⟨Int.le_refl _, Int.le_refl _⟩
theorem newS_flat {p : Plv} {n : Nat} {v : Int} (hv : 0 ≤ v ∧ v ≤ 255) (hw : 1 ≤ p.w.toNat) (hn : n = p.w.toNat * p.h.toNat) (hx : p.xs = List.replicate n v) {X Y S d pri sec : Nat} {damp : Int} (hd : d < 8) (hS : 0 < S) : newS p (List.replicate n v) X Y S d pri sec damp = List.replicate n v := by
  unfold newS
  refine ext_getD (by rw [layE_len]) fun q hq => ?_
  rw [layE_len, List.length_replicate] at hq
  rw [rep_get hq]
  unfold layE
  rw [getD_map_range (by rw [List.length_replicate]; exact hq)]
  split
  · rename_i h
    obtain ⟨⟨h1, h2, h3, h4⟩, h5⟩ := h
    have ha : q % p.w.toNat - X < S := by omega
    have hb : q / p.w.toNat - Y < S := by omega
    have hlt : (q / p.w.toNat - Y) * S + (q % p.w.toNat - X) < S * S := by
      have := Nat.mul_le_mul (show q / p.w.toNat - Y + 1 ≤ S by omega) (Nat.le_refl S)
      rw [Nat.add_mul, Nat.one_mul] at this
      omega
    unfold blockS
    rw [getD_map_range hlt]
    have e1 : ((q / p.w.toNat - Y) * S + (q % p.w.toNat - X)) % S = q % p.w.toNat - X := by rw [Nat.mul_comm, Nat.mul_add_mod, Nat.mod_eq_of_lt ha]
    have e2 : ((q / p.w.toNat - Y) * S + (q % p.w.toNat - X)) / S = q / p.w.toNat - Y := by rw [Nat.mul_comm, Nat.mul_add_div hS, Nat.div_eq_of_lt ha, Nat.add_zero]
    rw [e1, e2, show X + (q % p.w.toNat - X) = q % p.w.toNat by omega, show Y + (q / p.w.toNat - Y) = q / p.w.toNat by omega, hx]
    have hy : q / p.w.toNat < p.h.toNat := (Nat.div_lt_iff_lt_mul (by omega)).2 (by rw [hn, Nat.mul_comm] at hq; exact hq)
    have := samp_near (w := p.w.toNat) (h := p.h.toNat) (X := q % p.w.toNat) (Y := q / p.w.toNat) (xs := List.replicate n v) (T := tapsS d pri sec) (l := v) (m := v) (p := damp) (fun z hz => by rw [List.eq_of_mem_replicate hz]; exact hv) (flat_near hn) (tapsS_b hd) (Nat.mod_lt _ (by omega)) hy
    omega
  · exact rep_get hq
theorem newS_flat' {p : Plv} {v : Int} (hv : 0 ≤ v ∧ v ≤ 255) (hw : 1 ≤ p.w.toNat) (hn : p.xs.length = p.w.toNat * p.h.toNat) (hx : p.xs = List.replicate p.xs.length v) {X Y S d pri sec : Nat} {damp : Int} (hd : d < 8) (hS : 0 < S) : newS p p.xs X Y S d pri sec damp = p.xs := by
  have := newS_flat (p := p) (n := p.xs.length) hv hw hn hx (X := X) (Y := Y) (S := S) (d := d) (pri := pri) (sec := sec) (damp := damp) hd hS
  rw [← hx] at this
  exact this
structure FlatF (f : Fr3) (v : Nat → Int) : Prop where
  vb : ∀ n, n < 3 → 0 ≤ v n ∧ v n ≤ 255
  x : ∀ n, n < 3 → (f.at n).xs = List.replicate (f.at n).xs.length (v n)
theorem foldF_flat {f : Fr3} {v : Nat → Int} (hf : FlatF f v) (hd : ∀ n, n < 3 → 1 ≤ (f.at n).w.toNat ∧ (f.at n).xs.length = (f.at n).w.toNat * (f.at n).h.toNat) (qs : List Bool) (ws L : List Int) (damp : Int) {n : Nat} (hn : n < 3) : ∀ i, foldF f qs ws L damp i n = (f.at n).xs
  | 0 => rfl
  | i + 1 => by
    rw [foldF]
    split
    · exact foldF_flat hf hd qs ws L damp hn i
    · show newN f damp _ _ _ _ _ _ n (foldF f qs ws L damp i n) = _
      rw [foldF_flat hf hd qs ws L damp hn i]
      have h8 : ∀ X Y, bestD (cut8 f X Y) 8 < 8 := fun X Y => by have := bestD_lt (cut8 f X Y) 8; omega
      unfold newN
      split
      · rename_i e; subst e
        exact newS_flat' (p := f.p0) (hf.vb 0 hn) (hd 0 hn).1 (hd 0 hn).2 (hf.x 0 hn) (by split <;> first | omega | exact h8 _ _) (by omega)
      · exact newS_flat' (p := f.at n) (hf.vb n hn) (hd n hn).1 (hd n hn).2 (hf.x n hn) (by split <;> first | omega | exact h8 _ _) (by omega)
theorem outW_flat {us : List Un} {w h sd n : Nat} {v : Int} (hv : 0 ≤ v ∧ v ≤ 255) (hs : SideP sd) (hw : 1 ≤ w) (hn : n = w * h) (hu : ∀ u ∈ us, UnitP u) : outW us (List.replicate n v) (List.replicate n v) w h sd = List.replicate n v := by
  subst hn
  refine outW_same (by rw [List.length_replicate, Nat.mul_comm]) hw fun y x hy hx hon => ?_
  have hlt : ∀ y x, y < h → x < w → (List.replicate (w * h) v).getD (y * w + x) 0 = v := fun y x hy hx => rep_v (by have := row_lt hy hx; rwa [Nat.mul_comm w h])
  have g : ∀ i j, i < 7 → j < 7 → (List.replicate (w * h) v).getD (rowN h sd y i * w + cxS w x j) 0 = v := fun i j hi hj => hlt _ _ (row_le hs hy hi).2 (cx_eq (by omega)).2
  rw [hlt y x hy hx]
  have hm : us.getD (y / sd * wideN w sd + x / sd) u0 ∈ us := by
    rw [List.getD_eq_getElem?_getD] at hon ⊢
    cases e : us[y / sd * wideN w sd + x / sd]? with
    | none => rw [e] at hon; cases hon
    | some u => exact List.mem_of_getElem? e
  rcases hu _ hm with ⟨_, h1, h2⟩ | e
  · exact flat_sampU h1 h2 hv g g
  · rw [e] at hon; cases hon
theorem whole_dims {f : Fr3} (hw : WholeF f) : ∀ n, n < 3 → (1 ≤ (f.at n).w ∧ (f.at n).w ≤ 512 ∧ 1 ≤ (f.at n).h ∧ (f.at n).h ≤ 512) ∧ 1 ≤ (f.at n).w.toNat ∧ (f.at n).xs.length = (f.at n).w.toNat * (f.at n).h.toNat := fun n hn => by
  have key : ∀ w h : Int, ∀ k : Nat, checkS w h k = 0 → (1 ≤ w ∧ w ≤ 512 ∧ 1 ≤ h ∧ h ≤ 512) ∧ 1 ≤ w.toNat ∧ k = w.toNat * h.toNat := fun w h k e => by
    have l := checkS_len' e
    obtain ⟨W, rfl⟩ := Int.eq_ofNat_of_zero_le (a := w) (by omega)
    obtain ⟨Hh, rfl⟩ := Int.eq_ofNat_of_zero_le (a := h) (by omega)
    have := l.2.2.2.2
    rw [← Int.natCast_mul] at this
    simp only [Int.toNat_natCast]
    omega
  rcases lt3 hn with rfl | rfl | rfl
  · exact key _ _ _ hw.1
  · exact key _ _ _ hw.2.2.2.1
  · exact key _ _ _ hw.2.2.2.2.2.2.1
theorem run_flat {f : Fr3} {s : SideV} {hd : Hd} {L : List Int} {v : Nat → Int} (hP : RunP f s hd L) (hf : FlatF f v) (n : Nat) (hn : n < 3) : runS f s hd L n = (f.at n).xs := by
  unfold runS
  split
  · rfl
  rename_i hl
  obtain ⟨hw, _, _, h4⟩ := hP
  rcases h4 with h4 | ⟨hp, hdir, hr⟩
  · exact absurd h4 hl
  have e1 : ∀ n, n < 3 → g1 f s hd n = (f.at n).xs := fun n hn => by
    unfold g1 ly2 up1
    have u1 := up_flat true (colB n) (hp n hn).1 (hf.vb n hn) (hf.x n hn)
    have u2 := up_flat false (colB n) (hp n hn).2 (hf.vb n hn) (hf.x n hn)
    show Cells.passS (mOf (s.map n) false n (lv2 hd n) hd.h22) _ _ (Cells.passS (mOf (s.map n) true n (lv1 hd n) hd.h22) _ _ _ _) _ = _
    rw [u1, u2]
  have e2 : ∀ n, n < 3 → g2 f s hd L n = (f.at n).xs := fun n hn => by
    unfold g2
    have efr : ∀ k, k < 3 → ((frD f (g1 f s hd)).at k).w = (f.at k).w ∧ ((frD f (g1 f s hd)).at k).h = (f.at k).h ∧ ((frD f (g1 f s hd)).at k).xs = (f.at k).xs := fun k hk => by
      have := e1 k hk
      rcases lt3 hk with rfl | rfl | rfl <;> exact ⟨rfl, rfl, this⟩
    unfold outF
    split
    · rw [foldF_flat (v := v) ⟨hf.vb, fun k hk => by rw [(efr k hk).2.2]; exact hf.x k hk⟩ (fun k hk => by rw [(efr k hk).1, (efr k hk).2.1, (efr k hk).2.2]; exact (whole_dims hw k hk).2) _ _ _ _ hn, (efr n hn).2.2]
    · exact (efr n hn).2.2
  unfold restG
  split
  · rename_i hrn
    rw [e1 n hn, e2 n hn]
    have d := whole_dims hw n hn
    have := outW_flat (us := (s.un n).us) (w := (f.at n).w.toNat) (h := (f.at n).h.toNat) (sd := sideN n) (hf.vb n hn) (by rcases lt3 hn with rfl | rfl | rfl; exact .inl rfl; exact .inr rfl; exact .inr rfl) d.2.1 d.2.2 (hr n hn hrn).2.2.2.2.2.2
    rw [← hf.x n hn] at this
    exact this
  · exact e2 n hn
theorem runP_sizes {f F : Fr3} {s : SideV} {hd : Hd} {L : List Int} (h : ∀ n, n < 3 → (F.at n).w = (f.at n).w ∧ (F.at n).h = (f.at n).h ∧ (F.at n).xs.length = (f.at n).xs.length) (hP : RunP f s hd L) : RunP F s hd L := by
  have hW : WholeF F ↔ WholeF f := by
    obtain ⟨a0, b0, c0⟩ := h 0 (by omega)
    obtain ⟨a1, b1, c1⟩ := h 1 (by omega)
    obtain ⟨a2, b2, c2⟩ := h 2 (by omega)
    have a0 : F.p0.w = f.p0.w := a0
    have b0 : F.p0.h = f.p0.h := b0
    have c0 : F.p0.xs.length = f.p0.xs.length := c0
    have a1 : F.p1.w = f.p1.w := a1
    have b1 : F.p1.h = f.p1.h := b1
    have c1 : F.p1.xs.length = f.p1.xs.length := c1
    have a2 : F.p2.w = f.p2.w := a2
    have b2 : F.p2.h = f.p2.h := b2
    have c2 : F.p2.xs.length = f.p2.xs.length := c2
    unfold WholeF
    rw [a0, b0, c0, a1, b1, c1, a2, b2, c2]
  have a0 : F.p0.w = f.p0.w := (h 0 (by omega)).1
  have b0 : F.p0.h = f.p0.h := (h 0 (by omega)).2.1
  obtain ⟨h1, h2, h3, h4⟩ := hP
  refine ⟨hW.2 h1, by rw [a0]; exact h2, by rw [b0]; exact h3, ?_⟩
  rcases h4 with h4 | ⟨p, d, r⟩
  · exact .inl h4
  refine .inr ⟨fun n hn => ?_, ⟨hW.2 d.1, by rw [a0]; exact d.2.1, by rw [b0]; exact d.2.2.1, by rw [a0, b0]; exact d.2.2.2.1, by rw [a0, b0]; exact d.2.2.2.2.1, d.2.2.2.2.2⟩, fun n hn e => ?_⟩
  · obtain ⟨x, y, z⟩ := h n hn
    unfold PassP
    rw [x, y, z]
    exact p n hn
  · obtain ⟨x, y, z⟩ := h n hn
    rw [x, y, z]
    exact r n hn e
abbrev hdZ (hd : Hd) : Hd := { hd with h18 := 0, h19 := 0, h20 := 0, h21 := 0, cdef := false, h27 := false, h28 := false, h29 := false }
theorem zero_runP {f : Fr3} {s : SideV} {hd : Hd} {L : List Int} (hP : RunP f s hd L) : RunP f s (hdZ hd) L := by
  obtain ⟨h1, h2, h3, h4⟩ := hP
  rcases h4 with h4 | ⟨p, d, r⟩
  · exact ⟨h1, h2, h3, .inl h4⟩
  · refine ⟨h1, h2, h3, .inr ⟨fun n hn => ?_, ⟨d.1, d.2.1, d.2.2.1, d.2.2.2.1, d.2.2.2.2.1, fun e => by cases e⟩, fun n hn e => by rcases lt3 hn with rfl | rfl | rfl <;> cases e⟩⟩
    obtain ⟨⟨a, _, _, b, c⟩, _⟩ := p n hn
    have e1 : lv1 (hdZ hd) n = 0 := by rcases lt3 hn with rfl | rfl | rfl <;> rfl
    have e2 : lv2 (hdZ hd) n = 0 := by rcases lt3 hn with rfl | rfl | rfl <;> rfl
    rw [e1, e2]
    exact ⟨⟨a, by omega, by omega, b, c⟩, ⟨a, by omega, by omega, b, c⟩⟩
theorem zero_run (f : Fr3) (s : SideV) (hd : Hd) (L : List Int) (n : Nat) (hn : n < 3) : runS f s (hdZ hd) L n = (f.at n).xs := by
  unfold runS
  split
  · rfl
  unfold restG
  rw [if_neg (by rcases lt3 hn with rfl | rfl | rfl <;> (show ¬ (false = true); decide))]
  unfold g2 outF
  rw [if_neg (by show ¬ (false = true); decide)]
  have e : g1 f s (hdZ hd) n = (f.at n).xs := by
    have e1 : lv1 (hdZ hd) n = 0 := by rcases lt3 hn with rfl | rfl | rfl <;> rfl
    have e2 : lv2 (hdZ hd) n = 0 := by rcases lt3 hn with rfl | rfl | rfl <;> rfl
    unfold g1 ly2 up1
    rw [Cells.pass_zero _ _ _ e2, Cells.pass_zero _ _ _ e1]
  rcases lt3 hn with rfl | rfl | rfl <;> exact e
section
variable (lo : Nat) (f : Fr3) (hd : Hd) (s : SideV) (v0 v1 v2 : Int)
def pickV (v0 v1 v2 : Int) (n : Nat) : Int := match n with | 0 => v0 | 1 => v1 | _ => v2
theorem still_step (n : Nat) (hn : n < 3) (hw : WholeF f) (X : Fr3) (M : Mem) (hlo : lo ≤ M.length) {Q : Value × Mem → Prop}
    (hok : ∀ M' a c, Pre M M' → Buf M M' a ((List.replicate (f.at n).xs.length (pickV v0 v1 v2 n)).map (Value.int .u8)) → (f.at n).xs.length ≤ c →
      Run P T lo F.zoetropelaw25_ChainStill (zoetropelaw25_ChainStill.c2036 (IntKind.i64.wrap ((n : Int) + 1)) f.p0.w f.p0.h f.p0.A f.p0.xs.length f.p0.c f.p1.w f.p1.h f.p1.A f.p1.xs.length f.p1.c f.p2.w f.p2.h f.p2.A f.p2.xs.length f.p2.c v0 v1 v2 hd.h0 hd.h1 hd.h2 hd.h3 hd.h4 hd.h5 hd.h6 hd.h7 hd.h8 hd.h9 hd.h10 hd.h11 hd.h12 hd.h13 hd.h14 hd.h15 hd.h16 hd.h17 hd.h18 hd.h19 hd.h20 hd.h21 hd.h22 hd.cdef hd.damp hd.h25 hd.A hd.n hd.c hd.h27 hd.h28 hd.h29 s.m0.w s.m0.h s.m0.AT s.m0.tx.length s.m0.ct s.m0.AI s.m0.ids.length s.m0.ci s.m0.AQ s.m0.qs.length s.m0.cq s.m1.w s.m1.h s.m1.AT s.m1.tx.length s.m1.ct s.m1.AI s.m1.ids.length s.m1.ci s.m1.AQ s.m1.qs.length s.m1.cq s.m2.w s.m2.h s.m2.AT s.m2.tx.length s.m2.ct s.m2.AI s.m2.ids.length s.m2.ci s.m2.AQ s.m2.qs.length s.m2.cq s.Q s.qs.length s.qc s.V s.ws.length s.vc s.u0.A s.u0.us.length s.u0.c s.u1.A s.u1.us.length s.u1.c s.u2.A s.u2.us.length s.u2.c (X.set n ⟨(f.at n).w, (f.at n).h, some a, c, List.replicate (f.at n).xs.length (pickV v0 v1 v2 n)⟩).cells M') Q) :
    Run P T lo F.zoetropelaw25_ChainStill (zoetropelaw25_ChainStill.c2036 (n : Int) f.p0.w f.p0.h f.p0.A f.p0.xs.length f.p0.c f.p1.w f.p1.h f.p1.A f.p1.xs.length f.p1.c f.p2.w f.p2.h f.p2.A f.p2.xs.length f.p2.c v0 v1 v2 hd.h0 hd.h1 hd.h2 hd.h3 hd.h4 hd.h5 hd.h6 hd.h7 hd.h8 hd.h9 hd.h10 hd.h11 hd.h12 hd.h13 hd.h14 hd.h15 hd.h16 hd.h17 hd.h18 hd.h19 hd.h20 hd.h21 hd.h22 hd.cdef hd.damp hd.h25 hd.A hd.n hd.c hd.h27 hd.h28 hd.h29 s.m0.w s.m0.h s.m0.AT s.m0.tx.length s.m0.ct s.m0.AI s.m0.ids.length s.m0.ci s.m0.AQ s.m0.qs.length s.m0.cq s.m1.w s.m1.h s.m1.AT s.m1.tx.length s.m1.ct s.m1.AI s.m1.ids.length s.m1.ci s.m1.AQ s.m1.qs.length s.m1.cq s.m2.w s.m2.h s.m2.AT s.m2.tx.length s.m2.ct s.m2.AI s.m2.ids.length s.m2.ci s.m2.AQ s.m2.qs.length s.m2.cq s.Q s.qs.length s.qc s.V s.ws.length s.vc s.u0.A s.u0.us.length s.u0.c s.u1.A s.u1.us.length s.u1.c s.u2.A s.u2.us.length s.u2.c X.cells M) Q := by
  have dm := whole_dims hw n hn
  have el : ((f.at n).w * (f.at n).h).toNat = (f.at n).xs.length := by
    obtain ⟨W, hW⟩ := Int.eq_ofNat_of_zero_le (a := (f.at n).w) (by omega)
    obtain ⟨Hh, hH⟩ := Int.eq_ofNat_of_zero_le (a := (f.at n).h) (by omega)
    have := dm.2.2
    rw [hW, hH] at this ⊢
    rw [← Int.natCast_mul]
    simp only [Int.toNat_natCast] at this ⊢
    omega
  rcases lt3 hn with rfl | rfl | rfl
  · refine Run.cut (Evp.of_eq (fun k => zoetropelaw25_ChainStill.p2036 k ..) ?_)
    refine Evp.tt rfl (Evp.pos (by decide) (Evp.some rfl (Evp.pos (by decide) (Evp.some rfl (Evp.pos (by decide) (Evp.some rfl ?_))))))
    refine Evp.ob (new_ok lo (f.at 0).w (f.at 0).h (pickV v0 v1 v2 0) M hlo) ?_
    rintro ⟨v, M1⟩ ⟨p1, hr⟩
    rw [if_pos dm.1] at hr
    obtain ⟨a, e, hb⟩ := hr
    obtain rfl : v = _ := e
    simp only [ret_int, ret_bool, ret_flt, ret_slc, ret_str, ret_ptr, ret_agg, ret_tup, ob_some, bb_true, bb_false, List.getElem?_cons_zero, List.getElem?_cons_succ, List.length_cons, List.length_nil, Nat.reduceAdd, Nat.reduceLT]
    rw [el] at hb ⊢
    refine Evp.ff rfl (Evp.pos (by decide) (Evp.pos (Nat.le_of_ble_eq_true rfl) (Evp.ret ?_)))
    have := hok M1 a (f.at 0).xs.length p1 hb (Nat.le_refl _)
    have e : setL X.cells (0 + ((0 : Int).toNat * 3)) [.int .i64 (f.at 0).w, .int .i64 (f.at 0).h, .slice (some a) (List.replicate (f.at 0).xs.length (pickV v0 v1 v2 0)).length (f.at 0).xs.length] = (X.set 0 ⟨(f.at 0).w, (f.at 0).h, some a, (f.at 0).xs.length, List.replicate (f.at 0).xs.length (pickV v0 v1 v2 0)⟩).cells := rfl
    rw [List.length_replicate] at e
    rw [← e] at this
    exact this
  · refine Run.cut (Evp.of_eq (fun k => zoetropelaw25_ChainStill.p2036 k ..) ?_)
    refine Evp.tt rfl (Evp.pos (by decide) (Evp.some rfl (Evp.pos (by decide) (Evp.some rfl (Evp.pos (by decide) (Evp.some rfl ?_))))))
    refine Evp.ob (new_ok lo (f.at 1).w (f.at 1).h (pickV v0 v1 v2 1) M hlo) ?_
    rintro ⟨v, M1⟩ ⟨p1, hr⟩
    rw [if_pos dm.1] at hr
    obtain ⟨a, e, hb⟩ := hr
    obtain rfl : v = _ := e
    simp only [ret_int, ret_bool, ret_flt, ret_slc, ret_str, ret_ptr, ret_agg, ret_tup, ob_some, bb_true, bb_false, List.getElem?_cons_zero, List.getElem?_cons_succ, List.length_cons, List.length_nil, Nat.reduceAdd, Nat.reduceLT]
    rw [el] at hb ⊢
    refine Evp.ff rfl (Evp.pos (by decide) (Evp.pos (Nat.le_of_ble_eq_true rfl) (Evp.ret ?_)))
    have := hok M1 a (f.at 1).xs.length p1 hb (Nat.le_refl _)
    have e : setL X.cells (0 + ((1 : Int).toNat * 3)) [.int .i64 (f.at 1).w, .int .i64 (f.at 1).h, .slice (some a) (List.replicate (f.at 1).xs.length (pickV v0 v1 v2 1)).length (f.at 1).xs.length] = (X.set 1 ⟨(f.at 1).w, (f.at 1).h, some a, (f.at 1).xs.length, List.replicate (f.at 1).xs.length (pickV v0 v1 v2 1)⟩).cells := rfl
    rw [List.length_replicate] at e
    rw [← e] at this
    exact this
  · refine Run.cut (Evp.of_eq (fun k => zoetropelaw25_ChainStill.p2036 k ..) ?_)
    refine Evp.tt rfl (Evp.pos (by decide) (Evp.some rfl (Evp.pos (by decide) (Evp.some rfl (Evp.pos (by decide) (Evp.some rfl ?_))))))
    refine Evp.ob (new_ok lo (f.at 2).w (f.at 2).h (pickV v0 v1 v2 2) M hlo) ?_
    rintro ⟨v, M1⟩ ⟨p1, hr⟩
    rw [if_pos dm.1] at hr
    obtain ⟨a, e, hb⟩ := hr
    obtain rfl : v = _ := e
    simp only [ret_int, ret_bool, ret_flt, ret_slc, ret_str, ret_ptr, ret_agg, ret_tup, ob_some, bb_true, bb_false, List.getElem?_cons_zero, List.getElem?_cons_succ, List.length_cons, List.length_nil, Nat.reduceAdd, Nat.reduceLT]
    rw [el] at hb ⊢
    refine Evp.ff rfl (Evp.pos (by decide) (Evp.pos (Nat.le_of_ble_eq_true rfl) (Evp.ret ?_)))
    have := hok M1 a (f.at 2).xs.length p1 hb (Nat.le_refl _)
    have e : setL X.cells (0 + ((2 : Int).toNat * 3)) [.int .i64 (f.at 2).w, .int .i64 (f.at 2).h, .slice (some a) (List.replicate (f.at 2).xs.length (pickV v0 v1 v2 2)).length (f.at 2).xs.length] = (X.set 2 ⟨(f.at 2).w, (f.at 2).h, some a, (f.at 2).xs.length, List.replicate (f.at 2).xs.length (pickV v0 v1 v2 2)⟩).cells := rfl
    rw [List.length_replicate] at e
    rw [← e] at this
    exact this
end
theorem ChainStill_law (M : Mem) (vs : List Value) (hro : AllRo M) (hv : LaysArgs P M [27, 60, 61] vs) : Ac P T M.length F.zoetropelaw25_ChainStill vs M fun r => r.1 = .bool true := by
  obtain ⟨v0, r0, rfl, h0, k0⟩ := args_cons hv
  obtain ⟨a0, rfl, y0⟩ := arg_agg (by kernel_rfl) h0
  obtain ⟨f, rfl, hf, hsm⟩ := fr_of (d := 3) y0
  obtain ⟨v1, r1, rfl, h1, k1⟩ := args_cons k0
  obtain ⟨a1, rfl, y1⟩ := arg_agg (by kernel_rfl) h1
  obtain ⟨c0, c1, rfl, z0, z1⟩ := Y60 (d := 1) y1
  obtain ⟨hd, L, rfl, hwf, hL⟩ := hd_of (d := 3) z0
  obtain ⟨s0, rfl, hs0, fit⟩ := side_of (d := 1) z1
  obtain ⟨v2, r2, rfl, h2, k2⟩ := args_cons k1
  obtain ⟨a2, rfl, y2⟩ := arg_agg (by kernel_rfl) h2
  obtain ⟨u0, u1, u2, rfl, hu0, hu1, hu2⟩ := Y61 (d := 6) y2
  obtain rfl := args_nil k2
  refine Ac.of (Evp.of_eq (fun k => zoetropelaw25_ChainStill.entry k ..) ?_)
  refine Evp.ob (works_ok _ M (Nat.le_refl _)) ?_
  rintro _ ⟨M1, rfl, p1⟩
  simp only [ret_int, ret_bool, ret_flt, ret_slc, ret_str, ret_ptr, ret_agg, ret_tup, ob_some, bb_true, bb_false, List.getElem?_cons_zero, List.getElem?_cons_succ, List.length_cons, List.length_nil, Nat.reduceAdd, Nat.reduceLT]
  refine Evp.ff rfl ?_
  refine Evp.ob (copied_ok _ s0 M1 (hs0.pre p1) fit (Nat.le_refl _)) ?_
  rintro _ ⟨s, M2, rfl, p2, hs, _⟩
  refine Evp.some rfl ?_
  refine Evp.some rfl ?_
  refine Evp.some rfl ?_
  refine Evp.some rfl ?_
  refine Evp.some rfl ?_
  refine Evp.some rfl ?_
  refine Evp.some rfl ?_
  refine Evp.some rfl ?_
  refine Evp.some rfl ?_
  refine Evp.some rfl ?_
  refine Evp.some rfl ?_
  refine Evp.some rfl ?_
  refine Evp.some rfl ?_
  refine Evp.some rfl ?_
  refine Evp.some rfl ?_
  refine Evp.some rfl ?_
  refine Evp.some rfl ?_
  refine Evp.some rfl ?_
  refine Evp.some rfl ?_
  refine Evp.some rfl ?_
  refine Evp.some rfl ?_
  have q2 := p1.trans p2
  have l2 := q2.len
  have hf2 := hf.pre q2
  refine Evp.ob (run_ok _ f s hd L M2 l2 hf2 hs (hL.pre q2) hwf) ?_
  rintro ⟨v, M3⟩ ⟨p3, hr⟩
  have q3 := q2.trans p3
  have l3 := q3.len
  rcases hr with ⟨hP, b, ad, cc, gg, e, own, eg⟩ | ⟨hP, e⟩
  rotate_left
  · obtain rfl : v = _ := e
    simp only [ret_int, ret_bool, ret_flt, ret_slc, ret_str, ret_ptr, ret_agg, ret_tup, ob_some, bb_true, bb_false, List.getElem?_cons_zero, List.getElem?_cons_succ, List.length_cons, List.length_nil, Nat.reduceAdd, Nat.reduceLT]
    exact Evp.tt rfl (Evp.ret (Run.ret rfl))
  obtain rfl : v = _ := e
  simp only [ret_int, ret_bool, ret_flt, ret_slc, ret_str, ret_ptr, ret_agg, ret_tup, ob_some, bb_true, bb_false, List.getElem?_cons_zero, List.getElem?_cons_succ, List.length_cons, List.length_nil, Nat.reduceAdd, Nat.reduceLT]
  refine Evp.ff rfl (Evp.ret ?_)
  have hw := hP.1
  refine still_step _ f hd s u0 u1 u2 0 (by omega) hw zFr M3 l3 fun M4 b0 d0 p4 w0 q0 => ?_
  rw [show IntKind.i64.wrap (((0 : Nat) : Int) + 1) = ((1 : Nat) : Int) from by decide]
  have l4 := p4.len
  refine still_step _ f hd s u0 u1 u2 1 (by omega) hw _ M4 (Nat.le_trans l3 l4) fun M5 b1 d1 p5 w1 q1 => ?_
  rw [show IntKind.i64.wrap (((1 : Nat) : Int) + 1) = ((2 : Nat) : Int) from by decide]
  have l5 := p5.len
  refine still_step _ f hd s u0 u1 u2 2 (by omega) hw _ M5 (Nat.le_trans l3 (Nat.le_trans l4 l5)) fun M6 b2 d2 p6 w2 q4 => ?_
  rw [show IntKind.i64.wrap (((2 : Nat) : Int) + 1) = 3 from by decide]
  obtain ⟨Y, hY⟩ : ∃ Y : Fr3, Y = ((zFr.set 0 ⟨(f.at 0).w, (f.at 0).h, some b0, d0, List.replicate (f.at 0).xs.length (pickV u0 u1 u2 0)⟩).set 1 ⟨(f.at 1).w, (f.at 1).h, some b1, d1, List.replicate (f.at 1).xs.length (pickV u0 u1 u2 1)⟩).set 2 ⟨(f.at 2).w, (f.at 2).h, some b2, d2, List.replicate (f.at 2).xs.length (pickV u0 u1 u2 2)⟩ := ⟨_, rfl⟩
  rw [← hY]
  have hYd : ∀ n, n < 3 → (Y.at n).w = (f.at n).w ∧ (Y.at n).h = (f.at n).h ∧ (Y.at n).xs = List.replicate (f.at n).xs.length (pickV u0 u1 u2 n) := fun n hn => by
    rw [hY]
    rcases lt3 hn with rfl | rfl | rfl <;> exact ⟨rfl, rfl, rfl⟩
  have hvv : ∀ n, n < 3 → 0 ≤ pickV u0 u1 u2 n ∧ pickV u0 u1 u2 n ≤ 255 := fun n hn => by
    rcases lt3 hn with rfl | rfl | rfl
    · exact wf_u8 hu0
    · exact wf_u8 hu1
    · exact wf_u8 hu2
  have hYi : FrIn M6 Y := ⟨fun n hn => by
      rw [hY]
      rcases lt3 hn with rfl | rfl | rfl
      · exact ((w0.rdI).pre p5).pre p6
      · exact (w1.rdI).pre p6
      · exact w2.rdI, fun n hn => by
      rw [(hYd n hn).2.2]
      exact fun z hz => by rw [List.eq_of_mem_replicate hz]; exact hvv n hn, fun n hn => by
      rw [(hYd n hn).2.2, List.length_replicate, hY]
      rcases lt3 hn with rfl | rfl | rfl
      · exact q0
      · exact q1
      · exact q4⟩
  have hfl : FlatF Y (pickV u0 u1 u2) := ⟨hvv, fun n hn => by rw [(hYd n hn).2.2, List.length_replicate]⟩
  have hPY : RunP Y s hd L := runP_sizes (fun n hn => ⟨(hYd n hn).1, (hYd n hn).2.1, by rw [(hYd n hn).2.2, List.length_replicate]⟩) hP
  have hPZ := zero_runP hP
  have r6 := (p4.trans p5).trans p6
  have t6 := p3.trans r6
  have l6 := (q2.trans t6).len
  refine Run.cut (Evp.of_eq (fun k => zoetropelaw25_ChainStill.p2036 k ..) ?_)
  refine Evp.ff rfl ?_
  refine Evp.some rfl ?_
  refine Evp.some rfl ?_
  refine Evp.some rfl ?_
  refine Evp.some rfl ?_
  refine Evp.some rfl ?_
  refine Evp.some rfl ?_
  refine Evp.some rfl ?_
  refine Evp.some rfl ?_
  refine Evp.some rfl ?_
  refine Evp.ob (run_ok _ Y s hd L M6 l6 hYi (hs.pre t6) ((hL.pre q2).pre t6) hwf) ?_
  rintro ⟨v, M7⟩ ⟨p7, hr⟩
  rcases hr with ⟨_, b', ad', cc', gY, e, ownY, egY⟩ | ⟨hno, _⟩
  rotate_left
  · exact absurd hPY hno
  obtain rfl : v = _ := e
  simp only [ret_int, ret_bool, ret_flt, ret_slc, ret_str, ret_ptr, ret_agg, ret_tup, ob_some, bb_true, bb_false, List.getElem?_cons_zero, List.getElem?_cons_succ, List.length_cons, List.length_nil, Nat.reduceAdd, Nat.reduceLT]
  have l7 := p7.len
  have t7 := t6.trans p7
  refine Evp.ob (run_ok _ f s (hdZ hd) L M7 (Nat.le_trans l6 l7) (hf2.pre t7) (hs.pre t7) ((hL.pre q2).pre t7) hwf) ?_
  rintro ⟨v, M8⟩ ⟨p8, hr⟩
  rcases hr with ⟨_, b'', ad'', cc'', gZ, e, ownZ, egZ⟩ | ⟨hno, _⟩
  rotate_left
  · exact absurd hPZ hno
  obtain rfl : v = _ := e
  simp only [ret_int, ret_bool, ret_flt, ret_slc, ret_str, ret_ptr, ret_agg, ret_tup, ob_some, bb_true, bb_false, List.getElem?_cons_zero, List.getElem?_cons_succ, List.length_cons, List.length_nil, Nat.reduceAdd, Nat.reduceLT]
  refine Evp.tt rfl (Evp.tt rfl ?_)
  have aY := frB_at Y ad' cc' gY
  have aZ := frB_at f ad'' cc'' gZ
  have eY : ∀ n, n < 3 → gY n = (Y.at n).xs := fun n hn => by rw [egY n hn]; exact run_flat hPY hfl n hn
  have eZ : ∀ n, n < 3 → gZ n = (f.at n).xs := fun n hn => by rw [egZ n hn]; exact zero_run f s hd L n hn
  refine Evp.ob (same25_ok _ (frB Y ad' cc' gY) Y M8 ((ownY.frS Y).in_.pre p8) ((hYi.pre p7).pre p8) fun n hn => by rw [(aY n hn).2.2, eY n hn, (hYd n hn).2.2, List.length_replicate]; exact hsm n hn) ?_
  rintro _ rfl
  simp only [ret_int, ret_bool, ret_flt, ret_slc, ret_str, ret_ptr, ret_agg, ret_tup, ob_some, bb_true, bb_false, List.getElem?_cons_zero, List.getElem?_cons_succ, List.length_cons, List.length_nil, Nat.reduceAdd, Nat.reduceLT]
  refine Evp.tt (decide_eq_true (show FrEq _ _ from fun n hn => ⟨(aY n hn).1, (aY n hn).2.1, by rw [(aY n hn).2.2, eY n hn]⟩)) ?_
  refine Evp.ob (same25_ok _ (frB f ad'' cc'' gZ) f M8 (ownZ.frS f).in_ (hf2.pre (t7.trans p8)) fun n hn => by rw [(aZ n hn).2.2, eZ n hn]; exact hsm n hn) ?_
  rintro _ rfl
  simp only [ret_int, ret_bool, ret_flt, ret_slc, ret_str, ret_ptr, ret_agg, ret_tup, ob_some, bb_true, bb_false, List.getElem?_cons_zero, List.getElem?_cons_succ, List.length_cons, List.length_nil, Nat.reduceAdd, Nat.reduceLT]
  refine Evp.ret (Run.ret ?_)
  show Value.bool _ = _
  rw [decide_eq_true (show FrEq (frB f ad'' cc'' gZ) f from fun n hn => ⟨(aZ n hn).1, (aZ n hn).2.1, by rw [(aZ n hn).2.2, eZ n hn]⟩)]
end Go.Zt
