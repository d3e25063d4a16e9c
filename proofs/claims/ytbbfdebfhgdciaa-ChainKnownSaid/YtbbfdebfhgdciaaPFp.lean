/- What the law ChainKnown needs of the text Fp. -/
import Derived.Test.YtbbfdebfhgdciaaPFo
set_option linter.unusedVariables false
set_option linter.unusedSimpArgs false
set_option maxRecDepth 100000
set_option maxHeartbeats 4000000
namespace Go.Zt
theorem pass_flat (m : Cells) (W H mh : Nat) (hW : W = 4 * m.mw) (hH : H = 4 * mh) (htx : m.tx.length = m.mw * mh) (tp : ∀ t ∈ m.tx, TxP t) (lv : 0 ≤ m.level) {v : Int} (hv : 0 ≤ v ∧ v ≤ 255) : ∀ n, n ≤ m.mw * mh → m.passS W H (List.replicate (H * W) v) n = List.replicate (H * W) v
  | 0, _ => rfl
  | n + 1, h => by
    simp only [Cells.passS]
    rw [pass_flat m W H mh hW hH htx tp lv hv n (by omega)]
    unfold Cells.cellS
    split
    · rfl
    rename_i hs
    have hi : n < m.mw * mh := by omega
    have tpi : ∀ i, i < m.mw * mh → TxP (m.tx.getD i 0) := fun i hi => by
      rw [List.getD_eq_getElem?_getD, List.getElem?_eq_getElem (by omega)]
      exact tp _ (List.getElem_mem _)
    obtain ⟨g1, g2, g3, g4⟩ := geo m W H mh n hW hH hi (tpi n hi) (tpi _ (prev_lt hi)) hs
    have P1 := pos_eq m W H mh n hW hH hi (tpi n hi) (tpi _ (prev_lt hi)) hs
    obtain ⟨hf, e1, e2⟩ : ∃ hf, m.taps W H n = 2 * hf ∧ (hf = 2 ∨ hf = 3 ∨ hf = 4 ∨ hf = 7) := ⟨m.taps W H n / 2, by omega, by omega⟩
    have ll : ∀ k, k ≤ 4 → m.linesS W H (List.replicate (H * W) v) n k = List.replicate (H * W) v := fun k => by
      induction k with
      | zero => intro _; rfl
      | succ k ih =>
        intro hk
        simp only [Cells.linesS]
        rw [ih (by omega)]
        refine lineS_id ?_
        have es : secL (List.replicate (H * W) v) (m.first W H n k) (m.step W) (m.taps W H n) = List.replicate (2 * hf) v := by
          refine ext_getD (by rw [secL_len, e1, List.length_replicate]) fun j hj => ?_
          rw [secL_len] at hj
          unfold secL
          rw [getD_map_range hj, rep_get (P1 k j (by omega) hj).2.1, rep_get (by omega)]
        rw [es]
        exact flat_edge hv lv e2
    exact ll 4 (by omega)
theorem up_flat {w h mw mh lv sh : Int} {tx ids : List Int} {qs : List Bool} (up col : Bool) {xs : List Int} {v : Int} (hp : PassOk w h xs.length mw mh tx ids.length qs.length lv sh) (hv : 0 ≤ v ∧ v ≤ 255) (hx : xs = List.replicate xs.length v) :
    (⟨mw.toNat, up, col, tx, ids, qs, lv, sh⟩ : Cells).passS w.toNat h.toNat xs tx.length = xs := by
  obtain ⟨⟨k1, k2, k3, k4, k5, k6, k7, k8, k9⟩, l0, l1, p0, p1⟩ := hp
  have s1 := checkS_len' k1
  obtain ⟨W, rfl⟩ := Int.eq_ofNat_of_zero_le (a := w) (by omega)
  obtain ⟨Hh, rfl⟩ := Int.eq_ofNat_of_zero_le (a := h) (by omega)
  have n1 : xs.length = Hh * W := by have := s1.2.2.2.2; rw [← Int.natCast_mul, Nat.mul_comm] at this; omega
  obtain ⟨m, rfl⟩ := Int.eq_ofNat_of_zero_le (a := mw) (by omega)
  obtain ⟨mhn, rfl⟩ := Int.eq_ofNat_of_zero_le (a := mh) (by omega)
  rw [← Int.natCast_mul] at k6
  have := pass_flat ⟨m, up, col, tx, ids, qs, lv, sh⟩ W Hh mhn (by show W = 4 * m; omega) (by omega) (by show tx.length = m * mhn; omega) k9 l0 hv tx.length (by show tx.length ≤ m * mhn; omega)
  rw [n1] at hx
  rw [hx]
  simp only [Int.toNat_natCast]
  exact this
theorem flat_near {w h X Y : Nat} {n : Nat} {v : Int} (hn : n = w * h) : NearP w h X Y (List.replicate n v) v v := fun cx cy hin _ _ => by
  obtain ⟨⟨g1, g2⟩, g3, g4⟩ := hin
  obtain ⟨a, rfl⟩ := Int.eq_ofNat_of_zero_le g1
  obtain ⟨c, rfl⟩ := Int.eq_ofNat_of_zero_le g3
  have ha : a < w := by omega
  have hc : c < h := by omega
  have hlt : c * w + a < n := by
    have := Nat.mul_le_mul (show c + 1 ≤ h by omega) (Nat.le_refl w)
    rw [Nat.add_mul, Nat.one_mul] at this
    rw [hn, Nat.mul_comm w h]; omega
  unfold atP
  rw [show ((c : Int) * w + a).toNat = c * w + a by rw [← Int.natCast_mul]; omega, rep_get hlt]
  exact ⟨Int.le_refl _, Int.le_refl _⟩
theorem newS_flat {p : Plv} {n : Nat} {v : Int} (hv : 0 ≤ v ∧ v ≤ 255) (hw : 1 ≤ p.w.toNat) (hn : n = p.w.toNat * p.h.toNat) (hx : p.xs = List.replicate n v) {X Y S d pri sec : Nat} {damp : Int} (hd : d < 8) (hS : 0 < S) : newS p (List.replicate n v) X Y S d pri sec damp = List.replicate n v := by
  unfold newS
  refine ext_getD (by rw [layE_len]) fun q hq => ?_
  rw [layE_len, List.length_replicate] at hq
  rw [rep_get hq]
  unfold layE
  rw [getD_map_range (by rw [List.length_replicate]; exact hq)]
  split
  · rename_i h
    obtain ⟨⟨h1, h2, h3, h4⟩, h5⟩ := h
    have ha : q % p.w.toNat - X < S := by omega
    have hb : q / p.w.toNat - Y < S := by omega
    have hlt : (q / p.w.toNat - Y) * S + (q % p.w.toNat - X) < S * S := by
      have := Nat.mul_le_mul (show q / p.w.toNat - Y + 1 ≤ S by omega) (Nat.le_refl S)
      rw [Nat.add_mul, Nat.one_mul] at this
      omega
    unfold blockS
    rw [getD_map_range hlt]
    have e1 : ((q / p.w.toNat - Y) * S + (q % p.w.toNat - X)) % S = q % p.w.toNat - X := by rw [Nat.mul_comm, Nat.mul_add_mod, Nat.mod_eq_of_lt ha]
    have e2 : ((q / p.w.toNat - Y) * S + (q % p.w.toNat - X)) / S = q / p.w.toNat - Y := by rw [Nat.mul_comm, Nat.mul_add_div hS, Nat.div_eq_of_lt ha, Nat.add_zero]
    rw [e1, e2, show X + (q % p.w.toNat - X) = q % p.w.toNat by omega, show Y + (q / p.w.toNat - Y) = q / p.w.toNat by omega, hx]
    have hy : q / p.w.toNat < p.h.toNat := (Nat.div_lt_iff_lt_mul (by omega)).2 (by rw [hn, Nat.mul_comm] at hq; exact hq)
    have := samp_near (w := p.w.toNat) (h := p.h.toNat) (X := q % p.w.toNat) (Y := q / p.w.toNat) (xs := List.replicate n v) (T := tapsS d pri sec) (l := v) (m := v) (p := damp) (fun z hz => by rw [List.eq_of_mem_replicate hz]; exact hv) (flat_near hn) (tapsS_b hd) (Nat.mod_lt _ (by omega)) hy
    omega
  · exact rep_get hq
theorem newS_flat' {p : Plv} {v : Int} (hv : 0 ≤ v ∧ v ≤ 255) (hw : 1 ≤ p.w.toNat) (hn : p.xs.length = p.w.toNat * p.h.toNat) (hx : p.xs = List.replicate p.xs.length v) {X Y S d pri sec : Nat} {damp : Int} (hd : d < 8) (hS : 0 < S) : newS p p.xs X Y S d pri sec damp = p.xs := by
  have := newS_flat (p := p) (n := p.xs.length) hv hw hn hx (X := X) (Y := Y) (S := S) (d := d) (pri := pri) (sec := sec) (damp := damp) hd hS
  rw [← hx] at this
  exact this
structure FlatF (f : Fr3) (v : Nat → Int) : Prop where
  vb : ∀ n, n < 3 → 0 ≤ v n ∧ v n ≤ 255
  x : ∀ n, n < 3 → (f.at n).xs = List.replicate (f.at n).xs.length (v n)
theorem foldF_flat {f : Fr3} {v : Nat → Int} (hf : FlatF f v) (hd : ∀ n, n < 3 → 1 ≤ (f.at n).w.toNat ∧ (f.at n).xs.length = (f.at n).w.toNat * (f.at n).h.toNat) (qs : List Bool) (ws L : List Int) (damp : Int) {n : Nat} (hn : n < 3) : ∀ i, foldF f qs ws L damp i n = (f.at n).xs
  | 0 => rfl
  | i + 1 => by
    rw [foldF]
    split
    · exact foldF_flat hf hd qs ws L damp hn i
    · show newN f damp _ _ _ _ _ _ n (foldF f qs ws L damp i n) = _
      rw [foldF_flat hf hd qs ws L damp hn i]
      have h8 : ∀ X Y, bestD (cut8 f X Y) 8 < 8 := fun X Y => by have := bestD_lt (cut8 f X Y) 8; omega
      unfold newN
      split
      · rename_i e; subst e
        exact newS_flat' (p := f.p0) (hf.vb 0 hn) (hd 0 hn).1 (hd 0 hn).2 (hf.x 0 hn) (by split <;> first | omega | exact h8 _ _) (by omega)
      · exact newS_flat' (p := f.at n) (hf.vb n hn) (hd n hn).1 (hd n hn).2 (hf.x n hn) (by split <;> first | omega | exact h8 _ _) (by omega)
theorem outW_flat {us : List Un} {w h sd n : Nat} {v : Int} (hv : 0 ≤ v ∧ v ≤ 255) (hs : SideP sd) (hw : 1 ≤ w) (hn : n = w * h) (hu : ∀ u ∈ us, UnitP u) : outW us (List.replicate n v) (List.replicate n v) w h sd = List.replicate n v := by
  subst hn
  refine outW_same (by rw [List.length_replicate, Nat.mul_comm]) hw fun y x hy hx hon => ?_
  have hlt : ∀ y x, y < h → x < w → (List.replicate (w * h) v).getD (y * w + x) 0 = v := fun y x hy hx => rep_v (by have := row_lt hy hx; rwa [Nat.mul_comm w h])
  have g : ∀ i j, i < 7 → j < 7 → (List.replicate (w * h) v).getD (rowN h sd y i * w + cxS w x j) 0 = v := fun i j hi hj => hlt _ _ (row_le hs hy hi).2 (cx_eq (by omega)).2
  rw [hlt y x hy hx]
  have hm : us.getD (y / sd * wideN w sd + x / sd) u0 ∈ us := by
    rw [List.getD_eq_getElem?_getD] at hon ⊢
    cases e : us[y / sd * wideN w sd + x / sd]? with
    | none => rw [e] at hon; cases hon
    | some u => exact List.mem_of_getElem? e
  rcases hu _ hm with ⟨_, h1, h2⟩ | e
  · exact flat_sampU h1 h2 hv g g
  · rw [e] at hon; cases hon
theorem whole_dims {f : Fr3} (hw : WholeF f) : ∀ n, n < 3 → (1 ≤ (f.at n).w ∧ (f.at n).w ≤ 512 ∧ 1 ≤ (f.at n).h ∧ (f.at n).h ≤ 512) ∧ 1 ≤ (f.at n).w.toNat ∧ (f.at n).xs.length = (f.at n).w.toNat * (f.at n).h.toNat := fun n hn => by
  have key : ∀ w h : Int, ∀ k : Nat, checkS w h k = 0 → (1 ≤ w ∧ w ≤ 512 ∧ 1 ≤ h ∧ h ≤ 512) ∧ 1 ≤ w.toNat ∧ k = w.toNat * h.toNat := fun w h k e => by
    have l := checkS_len' e
    obtain ⟨W, rfl⟩ := Int.eq_ofNat_of_zero_le (a := w) (by omega)
    obtain ⟨Hh, rfl⟩ := Int.eq_ofNat_of_zero_le (a := h) (by omega)
    have := l.2.2.2.2
    rw [← Int.natCast_mul] at this
    simp only [Int.toNat_natCast]
    omega
  rcases lt3 hn with rfl | rfl | rfl
  · exact key _ _ _ hw.1
  · exact key _ _ _ hw.2.2.2.1
  · exact key _ _ _ hw.2.2.2.2.2.2.1
theorem run_flat {f : Fr3} {s : SideV} {hd : Hd} {L : List Int} {v : Nat → Int} (hP : RunP f s hd L) (hf : FlatF f v) (n : Nat) (hn : n < 3) : runS f s hd L n = (f.at n).xs := by
  unfold runS
  split
  · rfl
  rename_i hl
  obtain ⟨hw, _, _, h4⟩ := hP
  rcases h4 with h4 | ⟨hp, hdir, hr⟩
  · exact absurd h4 hl
  have e1 : ∀ n, n < 3 → g1 f s hd n = (f.at n).xs := fun n hn => by
    unfold g1 ly2 up1
    have u1 := up_flat true (colB n) (hp n hn).1 (hf.vb n hn) (hf.x n hn)
    have u2 := up_flat false (colB n) (hp n hn).2 (hf.vb n hn) (hf.x n hn)
    show Cells.passS (mOf (s.map n) false n (lv2 hd n) hd.h22) _ _ (Cells.passS (mOf (s.map n) true n (lv1 hd n) hd.h22) _ _ _ _) _ = _
    rw [u1, u2]
  have e2 : ∀ n, n < 3 → g2 f s hd L n = (f.at n).xs := fun n hn => by
    unfold g2
    have efr : ∀ k, k < 3 → ((frD f (g1 f s hd)).at k).w = (f.at k).w ∧ ((frD f (g1 f s hd)).at k).h = (f.at k).h ∧ ((frD f (g1 f s hd)).at k).xs = (f.at k).xs := fun k hk => by
      have := e1 k hk
      rcases lt3 hk with rfl | rfl | rfl <;> exact ⟨rfl, rfl, this⟩
    unfold outF
    split
    · rw [foldF_flat (v := v) ⟨hf.vb, fun k hk => by rw [(efr k hk).2.2]; exact hf.x k hk⟩ (fun k hk => by rw [(efr k hk).1, (efr k hk).2.1, (efr k hk).2.2]; exact (whole_dims hw k hk).2) _ _ _ _ hn, (efr n hn).2.2]
    · exact (efr n hn).2.2
  unfold restG
  split
  · rename_i hrn
    rw [e1 n hn, e2 n hn]
    have d := whole_dims hw n hn
    have := outW_flat (us := (s.un n).us) (w := (f.at n).w.toNat) (h := (f.at n).h.toNat) (sd := sideN n) (hf.vb n hn) (by rcases lt3 hn with rfl | rfl | rfl; exact .inl rfl; exact .inr rfl; exact .inr rfl) d.2.1 d.2.2 (hr n hn hrn).2.2.2.2.2.2
    rw [← hf.x n hn] at this
    exact this
  · exact e2 n hn
end Go.Zt
