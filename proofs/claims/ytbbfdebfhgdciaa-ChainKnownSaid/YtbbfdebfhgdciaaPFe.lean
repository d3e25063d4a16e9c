/- What the law ChainKnown needs of the text Fe. -/
import Derived.Test.YtbbfdebfhgdciaaPFd
set_option linter.unusedVariables false
set_option linter.unusedSimpArgs false
set_option maxRecDepth 100000
namespace Go.Zt
abbrev frB (f : Fr3) (ad : Nat → Addr) (cc : Nat → Nat) (g : Nat → List Int) : Fr3 := ⟨⟨f.p0.w, f.p0.h, some (ad 0), cc 0, g 0⟩, ⟨f.p1.w, f.p1.h, some (ad 1), cc 1, g 1⟩, ⟨f.p2.w, f.p2.h, some (ad 2), cc 2, g 2⟩⟩
structure Own3 (M0 M : Mem) (b : Nat) (ad : Nat → Addr) (cc : Nat → Nat) (g : Nat → List Int) : Prop where
  buf : ∀ n, n < 3 → Buf M0 M (ad n) ((g n).map (Value.int .u8))
  nb : ∀ n, n < 3 → (ad n).block ≠ b
  by_ : ∀ n, n < 3 → Bytes (g n)
  cap : ∀ n, n < 3 → (g n).length ≤ cc n
  ne : ∀ m n, m < 3 → n < 3 → m ≠ n → (ad m).block ≠ (ad n).block
section
variable {M0 M M' : Mem} {b : Nat} {ad : Nat → Addr} {cc : Nat → Nat} {g : Nat → List Int}
theorem Own3.keepB (h : Own3 M0 M b ad cc g) (hk : KeepB b M M') : Own3 M0 M' b ad cc g :=
  ⟨fun n hn => (h.buf n hn).keep (A := some ⟨b, 0, none⟩) (fun i x hx hne => hk i x hx fun e => hne _ rfl e.symm) fun a0 e => by injection e with e; subst e; exact fun q => h.nb n hn q.symm, h.nb, h.by_, h.cap, h.ne⟩
theorem Own3.floor {M1 : Mem} (h : Own3 M1 M b ad cc g) (hl : M0.length ≤ M1.length) : Own3 M0 M b ad cc g := ⟨fun n hn => (h.buf n hn).floor hl, h.nb, h.by_, h.cap, h.ne⟩
theorem Own3.frS (h : Own3 M0 M b ad cc g) (f : Fr3) : FrS M b (frB f ad cc g) := fun n hn => by
  rcases lt3 hn with rfl | rfl | rfl
  · exact ⟨(h.buf 0 hn).rdI, h.by_ 0 hn, h.cap 0 hn, fun a e => by injection e with e; subst e; exact h.nb 0 hn⟩
  · exact ⟨(h.buf 1 hn).rdI, h.by_ 1 hn, h.cap 1 hn, fun a e => by injection e with e; subst e; exact h.nb 1 hn⟩
  · exact ⟨(h.buf 2 hn).rdI, h.by_ 2 hn, h.cap 2 hn, fun a e => by injection e with e; subst e; exact h.nb 2 hn⟩
abbrev upN {α : Type} (f : Nat → α) (n : Nat) (v : α) : Nat → α := fun k => if k = n then v else f k
theorem Own3.upd (h : Own3 M0 M b ad cc g) (hk : KeepB b M M') {n : Nat} {a : Addr} {c : Nat} {v : List Int} (hn : n < 3) (hb : Buf M0 M' a (v.map (Value.int .u8))) (ha : M.length ≤ a.block) (hab : a.block ≠ b) (bv : Bytes v) (hc : v.length ≤ c) :
    Own3 M0 M' b (upN ad n a) (upN cc n c) (upN g n v) := by
  have h' := h.keepB hk
  have inn : ∀ k, k < 3 → (ad k).block < M.length := fun k hk3 => (h.buf k hk3).in_
  refine ⟨fun k hk3 => ?_, fun k hk3 => ?_, fun k hk3 => ?_, fun k hk3 => ?_, fun m k hm hk3 hmk => ?_⟩
  · by_cases e : k = n
    · simp only [upN, e, if_true]; exact hb
    · simp only [upN, if_neg e]; exact h'.buf k hk3
  · by_cases e : k = n
    · simp only [upN, e, if_true]; exact hab
    · simp only [upN, if_neg e]; exact h.nb k hk3
  · by_cases e : k = n
    · simp only [upN, e, if_true]; exact bv
    · simp only [upN, if_neg e]; exact h.by_ k hk3
  · by_cases e : k = n
    · simp only [upN, e, if_true]; exact hc
    · simp only [upN, if_neg e]; exact h.cap k hk3
  · by_cases e : m = n
    · have e2 : k ≠ n := fun q => hmk (e.trans q.symm)
      have := inn k hk3
      simp only [upN, if_pos e, if_neg e2]; omega
    · by_cases e2 : k = n
      · have := inn m hm
        simp only [upN, if_neg e, if_pos e2]; omega
      · simp only [upN, if_neg e, if_neg e2]; exact h.ne m k hm hk3 hmk
end
theorem csL_cells {f : Fr3} {ad : Nat → Addr} {cc : Nat → Nat} {g : Nat → List Int} (h : ∀ n, n < 3 → (g n).length = (f.at n).xs.length) : csL f ad cc = (frB f ad cc g).cells := by
  have h0 : (g 0).length = f.p0.xs.length := h 0 (by omega)
  have h1 : (g 1).length = f.p1.xs.length := h 1 (by omega)
  have h2 : (g 2).length = f.p2.xs.length := h 2 (by omega)
  show csL f ad cc = [.int .i64 f.p0.w, .int .i64 f.p0.h, .slice (some (ad 0)) (g 0).length (cc 0), .int .i64 f.p1.w, .int .i64 f.p1.h, .slice (some (ad 1)) (g 1).length (cc 1), .int .i64 f.p2.w, .int .i64 f.p2.h, .slice (some (ad 2)) (g 2).length (cc 2)]
  rw [h0, h1, h2]
theorem g1_len (f : Fr3) (s : SideV) (hd : Hd) (n : Nat) : (g1 f s hd n).length = (f.at n).xs.length := ly2_len ..
theorem frB_dir {f : Fr3} {s : SideV} {hd : Hd} {L : List Int} {ad : Nat → Addr} {cc : Nat → Nat} {g : Nat → List Int} (h : ∀ n, n < 3 → (g n).length = (f.at n).xs.length) : cd_MayP (frB f ad cc g) s.qs.length s.ws hd L ↔ DirP f s hd L := by
  have h0 : (g 0).length = f.p0.xs.length := h 0 (by omega)
  have h1 : (g 1).length = f.p1.xs.length := h 1 (by omega)
  have h2 : (g 2).length = f.p2.xs.length := h 2 (by omega)
  unfold DirP cd_MayP WholeF
  simp only [h0, h1, h2]
theorem frB_out {f : Fr3} {s : SideV} {hd : Hd} {L : List Int} {ad : Nat → Addr} {cc : Nat → Nat} (n : Nat) (hn : n < 3) : outF (frB f ad cc (g1 f s hd)) s.qs s.ws hd L n = g2 f s hd L n :=
  outF_to (frD f (g1 f s hd)) (fun n => some (ad n)) cc s.qs s.ws hd L n hn
section
variable (lo : Nat) (b : Nat) (f e : Fr3) (hd : Hd) (s : SideV) (L : List Int) (Mi : Mem)
variable (hlo : lo ≤ Mi.length) (hb : Mi.length ≤ b) (hs : SideOk Mi s)
include hlo hb hs
theorem passes_ok (M : Mem) (hp : Pre Mi M) (hbox : M[b]? = some ⟨.fx, boxL f e hd s⟩) (hf : FrS M b f) (hx : ∀ n, n < 3 → (f.at n).xs.length ≤ 262144) :
    Ac P T lo F.chain_run_passes [.pointer (some ⟨b, 0, none⟩)] M fun r => ∃ M', KeepB b M M' ∧ M.length ≤ M'.length ∧ ((PassesP f s hd ∧ r = (.int .i64 0, M') ∧ ∃ ad cc, Own3 M M' b ad cc (g1 f s hd) ∧ M'[b]? = some ⟨.fx, boxL (frB f ad cc (g1 f s hd)) (frB f ad cc (g1 f s hd)) hd s⟩) ∨ (¬ PassesP f s hd ∧ r = (.int .i64 2, M'))) := by
  have lenB : ∀ M' : Mem, KeepB b M M' → (∃ x, M'[b]? = some x) → M.length ≤ M'.length := fun M' hk hx => by
    rcases Nat.lt_or_ge M'.length M.length with h | h
    · by_cases e : M.length - 1 = b
      · obtain ⟨x, hx⟩ := hx
        have := lt_of_get hx; omega
      · have h1 := hk (M.length - 1) _ (List.getElem?_eq_getElem (by have := lt_of_get hbox; omega)) e
        have := lt_of_get h1; omega
    · exact h
  have bad : ∀ n, n < 3 → ¬ (PassP (f.at n) (s.map n) (lv1 hd n) hd.h22 ∧ PassP (f.at n) (s.map n) (lv2 hd n) hd.h22) → ∀ M', KeepB b M M' → M.length ≤ M'.length → ∃ M'', KeepB b M M'' ∧ M.length ≤ M''.length ∧ ((PassesP f s hd ∧ ((Value.int .i64 2, M') : Value × Mem) = (.int .i64 0, M'') ∧ ∃ ad cc, Own3 M M'' b ad cc (g1 f s hd) ∧ M''[b]? = some ⟨.fx, boxL (frB f ad cc (g1 f s hd)) (frB f ad cc (g1 f s hd)) hd s⟩) ∨ (¬ PassesP f s hd ∧ ((Value.int .i64 2, M') : Value × Mem) = (.int .i64 2, M''))) :=
    fun n hn hno M' hk hl => ⟨M', hk, hl, .inr ⟨fun h => hno (h n hn), rfl⟩⟩
  have hin := lt_of_get hbox
  refine Ac.of (Evp.of_eq (fun k => chain_run_passes.entry k ..) ?_)
  refine Evp.some (ld_int hbox rfl rfl) (Evp.some (ld_int hbox rfl rfl) (Evp.some (ld_int hbox rfl rfl) (Evp.some (ld_int hbox rfl rfl) ?_)))
  refine Evp.some (ld_int hbox rfl rfl) (Evp.some (ld_int hbox rfl rfl) (Evp.some (ld_slc hbox rfl rfl) (Evp.some (ld_int hbox rfl rfl) (Evp.some (ld_int hbox rfl rfl) (Evp.some (ld_slc hbox rfl rfl) (Evp.some (ld_int hbox rfl rfl) (Evp.some (ld_int hbox rfl rfl) (Evp.some (ld_slc hbox rfl rfl) ?_))))))))
  refine Evp.ret (two_passes lo b f e hd s Mi hlo hb hs f 0 (by omega) M hp hbox (hf 0 (by omega)) (hx 0 (by omega)) (fun M' k1 k2 k3 => bad 0 (by omega) k3 M' k1 (lenB M' k1 ⟨_, k2⟩)) fun M1 a0 c0 x0 y0 kb1 l1 b0 q0 box1 => ?_)
  rw [show IntKind.i64.wrap (((0 : Nat) : Int) + 1) = ((1 : Nat) : Int) from by decide]
  have hp1 : Pre Mi M1 := kb1.pre hp hb
  have n0 := b0.new
  have i0 := b0.in_
  refine two_passes lo b _ e hd s Mi hlo hb hs f 1 (by omega) M1 hp1 box1 ((hf 1 (by omega)).keepB kb1) (hx 1 (by omega)) (fun M' k1 k2 k3 => bad 1 (by omega) k3 M' (kb1.trans k1) (lenB M' (kb1.trans k1) ⟨_, k2⟩)) fun M2 a1 c1 x1 y1 kb2 l2 b1 q1 box2 => ?_
  rw [show IntKind.i64.wrap (((1 : Nat) : Int) + 1) = ((2 : Nat) : Int) from by decide]
  have hp2 : Pre Mi M2 := kb2.pre hp1 hb
  have n1 := b1.new
  have i1 := b1.in_
  refine two_passes lo b _ e hd s Mi hlo hb hs f 2 (by omega) M2 hp2 box2 ((hf 2 (by omega)).keepB (kb1.trans kb2)) (hx 2 (by omega)) (fun M' k1 k2 k3 => bad 2 (by omega) k3 M' ((kb1.trans kb2).trans k1) (lenB M' ((kb1.trans kb2).trans k1) ⟨_, k2⟩)) fun M3 a2 c2 x2 y2 kb3 l3 b2 q2 box3 => ?_
  rw [show IntKind.i64.wrap (((2 : Nat) : Int) + 1) = 3 from by decide]
  have n2 := b2.new
  have own : Own3 M M3 b (pick3 a0 a1 a2) (pick3 c0 c1 c2) (g1 f s hd) := by
    have kk : KeepB b M1 M3 := kb2.trans kb3
    have nb : ∀ a : Addr, M.length ≤ a.block → a.block ≠ b := fun a h => by omega
    refine ⟨fun n hn => ?_, fun n hn => ?_, fun n hn => ly2_bytes (hf n hn).by_ _ _ _, fun n hn => ?_, fun m n hm hn hmn => ?_⟩
    · rcases lt3 hn with rfl | rfl | rfl
      · exact b0.keep (A := some ⟨b, 0, none⟩) (fun i x hx hne => kk i x hx fun e => hne _ rfl e.symm) fun z e => by injection e with e; subst e; exact fun q => nb a0 n0 q.symm
      · exact (b1.floor l1).keep (A := some ⟨b, 0, none⟩) (fun i x hx hne => kb3 i x hx fun e => hne _ rfl e.symm) fun z e => by injection e with e; subst e; exact fun q => nb a1 (by omega) q.symm
      · exact b2.floor (by omega)
    · rcases lt3 hn with rfl | rfl | rfl
      · exact nb a0 n0
      · exact nb a1 (by omega)
      · exact nb a2 (by omega)
    · rcases lt3 hn with rfl | rfl | rfl
      · rw [g1_len]; exact q0
      · rw [g1_len]; exact q1
      · rw [g1_len]; exact q2
    · have z : a0.block ≠ a1.block ∧ a0.block ≠ a2.block ∧ a1.block ≠ a2.block := ⟨by omega, by omega, by omega⟩
      rcases lt3 hm with rfl | rfl | rfl <;> rcases lt3 hn with rfl | rfl | rfl
      · exact absurd rfl hmn
      · exact z.1
      · exact z.2.1
      · exact z.1.symm
      · exact absurd rfl hmn
      · exact z.2.2
      · exact z.2.1.symm
      · exact z.2.2.symm
      · exact absurd rfl hmn
  refine Run.cut (Evp.of_eq (fun k => chain_run_passes.p244 k ..) ?_)
  refine Evp.dec (fun h => absurd h (by decide)) fun _ => ?_
  refine Evp.some (ld_int box3 rfl rfl) (Evp.some (ld_int box3 rfl rfl) (Evp.some (ld_slc box3 rfl rfl) (Evp.some (ld_int box3 rfl rfl) (Evp.some (ld_int box3 rfl rfl) (Evp.some (ld_slc box3 rfl rfl) (Evp.some (ld_int box3 rfl rfl) (Evp.some (ld_int box3 rfl rfl) (Evp.some (ld_slc box3 rfl rfl) ?_))))))))
  refine Evp.some (fx_sts box3 (by omega) (Nat.le_of_ble_eq_true rfl)) (Evp.ret (Run.ret ⟨_, ((kb1.trans kb2).trans kb3).trans (KeepB.set _ _ _), by simp; omega, .inl ⟨fun n hn => ?_, rfl, pick3 a0 a1 a2, pick3 c0 c1 c2, own.keepB (KeepB.set _ _ _), set_self (by omega)⟩⟩))
  rcases lt3 hn with rfl | rfl | rfl
  · exact ⟨x0, y0⟩
  · exact ⟨x1, y1⟩
  · exact ⟨x2, y2⟩
omit hs in
theorem directions_ok (M : Mem) (hp : Pre Mi M) (hs : SideOk Mi s) (hL : Rd Mi hd.A hd.n 4 (L.map (Value.int .i64))) (hbox : M[b]? = some ⟨.fx, boxL f e hd s⟩) (hf : FrS M b f) :
    Ac P T lo F.chain_run_directions [.pointer (some ⟨b, 0, none⟩)] M fun r => ∃ M', KeepB b M M' ∧ M.length ≤ M'.length ∧ ((cd_MayP f s.qs.length s.ws hd L ∧ r = (.int .i64 0, M') ∧ ∃ ad cc, Own3 M M' b ad cc (outF f s.qs s.ws hd L) ∧ (∀ n, n < 3 → (outF f s.qs s.ws hd L n).length = (f.at n).xs.length) ∧ M'[b]? = some ⟨.fx, boxL (frB f ad cc (outF f s.qs s.ws hd L)) e hd s⟩) ∨ (¬ cd_MayP f s.qs.length s.ws hd L ∧ r = (.int .i64 2, M'))) := by
  have hin := lt_of_get hbox
  have l0 := hp.len
  have hsM := hs.pre hp
  refine Ac.of (Evp.of_eq (fun k => chain_run_directions.entry k ..) ?_)
  refine Evp.some (ld_int hbox rfl rfl) (Evp.some (ld_int hbox rfl rfl) (Evp.some (ld_slc hbox rfl rfl) (Evp.some (ld_int hbox rfl rfl) (Evp.some (ld_int hbox rfl rfl) (Evp.some (ld_slc hbox rfl rfl) (Evp.some (ld_int hbox rfl rfl) (Evp.some (ld_int hbox rfl rfl) (Evp.some (ld_slc hbox rfl rfl) ?_))))))))
  refine Evp.some (ld_slc hbox rfl rfl) (Evp.some (ld_slc hbox rfl rfl) ?_)
  refine Evp.some (ld_bool hbox rfl rfl) ?_
  refine Evp.some (ld_int hbox rfl rfl) ?_
  refine Evp.some (ld_bool hbox rfl rfl) ?_
  refine Evp.some (ld_bool hbox rfl rfl) ?_
  refine Evp.some (ld_int hbox rfl rfl) ?_
  refine Evp.some (ld_int hbox rfl rfl) ?_
  refine Evp.some (ld_int hbox rfl rfl) ?_
  refine Evp.some (ld_int hbox rfl rfl) ?_
  refine Evp.some (ld_int hbox rfl rfl) ?_
  refine Evp.some (ld_int hbox rfl rfl) ?_
  refine Evp.some (ld_int hbox rfl rfl) ?_
  refine Evp.some (ld_int hbox rfl rfl) ?_
  refine Evp.some (ld_int hbox rfl rfl) ?_
  refine Evp.some (ld_int hbox rfl rfl) ?_
  refine Evp.some (ld_int hbox rfl rfl) ?_
  refine Evp.some (ld_int hbox rfl rfl) ?_
  refine Evp.some (ld_int hbox rfl rfl) ?_
  refine Evp.some (ld_bool hbox rfl rfl) ?_
  refine Evp.some (ld_int hbox rfl rfl) ?_
  refine Evp.some (ld_int hbox rfl rfl) ?_
  refine Evp.some (ld_int hbox rfl rfl) ?_
  refine Evp.some (ld_int hbox rfl rfl) ?_
  refine Evp.some (ld_int hbox rfl rfl) ?_
  refine Evp.some (ld_bool hbox rfl rfl) ?_
  refine Evp.some (ld_int hbox rfl rfl) ?_
  refine Evp.some (ld_int hbox rfl rfl) ?_
  refine Evp.some (ld_slc hbox rfl rfl) ?_
  refine Evp.some (ld_bool hbox rfl rfl) ?_
  refine Evp.some (ld_bool hbox rfl rfl) ?_
  refine Evp.some (ld_bool hbox rfl rfl) ?_
  refine Evp.ob (cframe_ok lo f s.Q s.V s.qc s.vc s.qs s.ws hd L M (by omega) hf.in_ hsM.q hsM.v hs.nv (hL.pre hp)) ?_
  rintro ⟨v, M1⟩ ⟨p1, hr⟩
  have l1 := p1.len
  rcases hr with ⟨hm, ad, cc, rfl, hcap, hB⟩ | ⟨hm, rfl⟩
  · simp only [ret_int, ret_bool, ret_flt, ret_slc, ret_str, ret_ptr, ret_agg, ret_tup, ob_some, bb_true, bb_false, List.getElem?_cons_zero, List.getElem?_cons_succ, List.length_cons, List.length_nil, Nat.reduceAdd, Nat.reduceLT]
    refine Evp.tt rfl ?_
    have hbox1 := p1 _ _ hbox
    have key : setL (boxL f e hd s) 0 (csL f ad cc) = boxL (frB f ad cc (outF f s.qs s.ws hd L)) e hd s := by
      rw [csL_cells (g := outF f s.qs s.ws hd L) hB.len]
      rfl
    have hst := fx_sts (lo := lo) (i := 0) (vs := csL f ad cc) hbox1 (by omega) (Nat.le_of_ble_eq_true rfl)
    rw [key] at hst
    refine Evp.some hst (Evp.ret ?_)
    refine Run.cut (Evp.of_eq (fun k => chain_run_directions.p15 k ..) ?_)
    refine Evp.ret (Run.ret ⟨_, (p1.keepB b).trans (KeepB.set _ _ _), by simp; omega, .inl ⟨hm, rfl, ad, cc, ?_, hB.len, set_self (by omega)⟩⟩)
    have own : Own3 M M1 b ad cc (outF f s.qs s.ws hd L) := ⟨hB.buf, fun n hn => by have := (hB.buf n hn).new; omega, fun n hn => outF_bytes (fun k hk => (hf k hk).by_) _ _ _ _ hn, fun n hn => by rw [hB.len n hn]; exact hcap n hn, hB.ne⟩
    exact own.keepB (KeepB.set _ _ _)
  · simp only [ret_int, ret_bool, ret_flt, ret_slc, ret_str, ret_ptr, ret_agg, ret_tup, ob_some, bb_true, bb_false, List.getElem?_cons_zero, List.getElem?_cons_succ, List.length_cons, List.length_nil, Nat.reduceAdd, Nat.reduceLT]
    refine Evp.ff rfl (Evp.ret ?_)
    refine Run.cut (Evp.of_eq (fun k => chain_run_directions.p15 k ..) ?_)
    exact Evp.ret (Run.ret ⟨M1, p1.keepB b, l1, .inr ⟨hm, rfl⟩⟩)
end
end Go.Zt
