/- The laws that hold the program to the document's answer. -/
import Derived.Test.YtgpobephldelaaaFm
set_option linter.unusedVariables false
set_option linter.unusedSimpArgs false
set_option maxRecDepth 100000
namespace Go.Zt
theorem MotionSingles_law (M : Mem) (vs : List Value) (hro : AllRo M) (hv : LaysArgs P M [27, 33] vs) : Ac P T M.length F.zoetropelaw15_MotionSingles vs M fun r => r.1 = .bool true := by
  obtain ⟨w0, h0, A0, c0, xs, w1, h1, A1, c1, ys, w2, h2, A2, c2, zs, n, x, y, w, h, vx, vy, kind, rfl, _, _, k0, n0, hx, wx, _, _, k1, n1, hy, wy, _, _, k2, n2, hz, wz, _⟩ := Arg.MotionSingles hv
  have bx : Bytes xs := fun x hx => wf_u8 (wx x hx)
  have by_ : Bytes ys := fun x hx => wf_u8 (wy x hx)
  have bz : Bytes zs := fun x hx => wf_u8 (wz x hx)
  refine Ac.of (Evp.of_eq (fun k => zoetropelaw15_MotionSingles.entry k ..) ?_)
  refine Evp.ob (copyFrame_ok _ w0 h0 w1 h1 w2 h2 A0 A1 A2 c0 c1 c2 xs ys zs M hx hy hz (by omega) (by omega) (by omega)) ?_
  rintro _ ⟨B0, B1, B2, d0, d1, d2, M1, rfl, p1, r0, r1, r2, g0, g1, g2⟩
  simp only [ret_int, ret_bool, ret_flt, ret_slc, ret_str, ret_ptr, ret_agg, ret_tup, ob_some, bb_true, bb_false, List.getElem?_cons_zero, List.getElem?_cons_succ, List.length_cons, List.length_nil, Nat.reduceAdd, Nat.reduceLT]
  refine Evp.ob (single_ok _ w0 h0 w1 h1 w2 h2 B0 B1 B2 d0 d1 d2 xs ys zs n x y w h vx vy kind M1 r0 r1 r2 bx by_ bz g0 g1 g2 p1.len) ?_
  intro r hr
  obtain ⟨l, e, D, cc, M2, rfl, p2, _, o2, sz, q, hq, el, ee, qi⟩ := hr.cases
  simp only [ret_int, ret_bool, ret_flt, ret_slc, ret_str, ret_ptr, ret_agg, ret_tup, ob_some, bb_true, bb_false, List.getElem?_cons_zero, List.getElem?_cons_succ, List.length_cons, List.length_nil, Nat.reduceAdd, Nat.reduceLT]
  have q2 := p1.trans p2
  refine Evp.ob (rsingle_ok _ w0 h0 w1 h1 w2 h2 A0 A1 A2 c0 c1 c2 xs ys zs n x y w h vx vy kind M2 (hx.pre q2) (hy.pre q2) (hz.pre q2) bx by_ bz k0 k1 k2 q2.len) ?_
  intro r hr
  obtain ⟨l', e', D', cc', M3, rfl, p3, _, o3, _, q', hq', el', ee', qi'⟩ := hr.cases
  have hqq : q ↔ q' := qi.trans qi'.symm
  have hl : l = l' := by
    rw [el, el']
    by_cases h : q
    · rw [if_pos h, if_pos (hqq.1 h)]
    · rw [if_neg h, if_neg (fun k => h (hqq.2 k))]
  have he : e = e' := by
    rw [ee, ee']
    by_cases h : q
    · rw [if_pos h, if_pos (hqq.1 h)]
    · rw [if_neg h, if_neg (fun k => h (hqq.2 k))]
  clear el el' ee ee' qi qi'
  subst hl; subst he
  simp only [ret_int, ret_bool, ret_flt, ret_slc, ret_str, ret_ptr, ret_agg, ret_tup, ob_some, bb_true, bb_false, List.getElem?_cons_zero, List.getElem?_cons_succ, List.length_cons, List.length_nil, Nat.reduceAdd, Nat.reduceLT]
  refine Evp.ob (told_ok _ D D' cc cc' l l e e M1 M3 p1.len (p2.trans p3) (o2.pre p3) o3.rd (by omega)) ?_
  rintro _ ⟨M4, rfl, p4, _⟩
  simp only [ret_int, ret_bool, ret_flt, ret_slc, ret_str, ret_ptr, ret_agg, ret_tup, ob_some, bb_true, bb_false, List.getElem?_cons_zero, List.getElem?_cons_succ, List.length_cons, List.length_nil, Nat.reduceAdd, Nat.reduceLT]
  refine Evp.tt (by simp) ?_
  have q4 := p1.trans p4
  refine Evp.ob (sameFrame_eq _ w0 h0 w1 h1 w2 h2 B0 B1 B2 d0 d1 d2 xs ys zs M4 A0 A1 A2 c0 c1 c2 (r0.pre p4) (r1.pre p4) (r2.pre p4) (hx.pre q4) (hy.pre q4) (hz.pre q4) (by omega) (by omega) (by omega)) ?_
  rintro _ rfl
  simp only [ret_int, ret_bool, ret_flt, ret_slc, ret_str, ret_ptr, ret_agg, ret_tup, ob_some, bb_true, bb_false, List.getElem?_cons_zero, List.getElem?_cons_succ, List.length_cons, List.length_nil, Nat.reduceAdd, Nat.reduceLT]
  refine Evp.tt rfl ?_
  refine Evp.ob (works_ok _ M4 q4.len) ?_
  rintro _ ⟨M5, rfl, _⟩
  simp only [ret_int, ret_bool, ret_flt, ret_slc, ret_str, ret_ptr, ret_agg, ret_tup, ob_some, bb_true, bb_false, List.getElem?_cons_zero, List.getElem?_cons_succ, List.length_cons, List.length_nil, Nat.reduceAdd, Nat.reduceLT]
  exact Evp.ret (Run.ret rfl)

theorem pairs_loop (lo : Nat) (n : Int) (M0 : Mem) (hlo : lo ≤ M0.length) : ∀ (d : Nat) (i : Int) (M : Mem), (36 - i).toNat = d → -1 ≤ i → i ≤ 36 → Pre M0 M →
    Run P T lo F.zoetropelaw15_MotionPairs (zoetropelaw15_MotionPairs.c1012 n i M) fun r => r.1 = .bool true := by
  intro d
  induction d with
  | zero =>
    intro i M hd hi hi2 hp
    refine Run.cut (Evp.of_eq (fun k => zoetropelaw15_MotionPairs.p1012 k ..) ?_)
    refine Evp.dec (fun h => absurd h (by omega)) fun _ => ?_
    refine Evp.ob (works_ok _ M (Nat.le_trans hlo hp.len)) ?_
    rintro _ ⟨M5, rfl, _⟩
    simp only [ret_int, ret_bool, ret_flt, ret_slc, ret_str, ret_ptr, ret_agg, ret_tup, ob_some, bb_true, bb_false, List.getElem?_cons_zero, List.getElem?_cons_succ, List.length_cons, List.length_nil, Nat.reduceAdd, Nat.reduceLT]
    exact Evp.ret (Run.ret rfl)
  | succ d ih =>
    intro i M hd hi hi2 hp
    have next : ∀ k : Int, Run P T lo F.zoetropelaw15_MotionPairs (zoetropelaw15_MotionPairs.c32403 n i k M) fun r => r.1 = .bool true := fun k => by
      refine Run.cut (Evp.of_eq (fun k => zoetropelaw15_MotionPairs.p32403 k ..) ?_)
      refine Evp.ob (weights_ok lo k M (Nat.le_trans hlo hp.len)) ?_
      rintro ⟨v, M1⟩ ⟨p1, hw⟩
      have q1 := hp.trans p1
      by_cases hk : 4 ≤ k ∧ k ≤ 32
      · rw [if_pos hk] at hw
        obtain ⟨a, cc, e, _, b1⟩ := hw
        simp only at e
        subst e
        simp only [ret_int, ret_bool, ret_flt, ret_slc, ret_str, ret_ptr, ret_agg, ret_tup, ob_some, bb_true, bb_false, List.getElem?_cons_zero, List.getElem?_cons_succ, List.length_cons, List.length_nil, Nat.reduceAdd, Nat.reduceLT]
        refine Evp.ob (rweights_ok lo k M1 (Nat.le_trans hlo q1.len)) ?_
        rintro ⟨v, M2⟩ ⟨p2, hw⟩
        rw [if_pos hk] at hw
        obtain ⟨a', cc', e, _, b2⟩ := hw
        simp only at e
        subst e
        simp only [ret_int, ret_bool, ret_flt, ret_slc, ret_str, ret_ptr, ret_agg, ret_tup, ob_some, bb_true, bb_false, List.getElem?_cons_zero, List.getElem?_cons_succ, List.length_cons, List.length_nil, Nat.reduceAdd, Nat.reduceLT]
        refine Evp.neb (fun h => absurd rfl h) fun _ => ?_
        have eq := eqInts_ok lo (some a) (some a') cc cc' (wL k.toNat) (wL k.toNat) M2 (b1.rdI.pre p2) b2.rdI (by rw [wL_len]; omega)
        rw [wL_len] at eq
        refine Evp.ob eq ?_
        rintro _ rfl
        simp only [ret_int, ret_bool, ret_flt, ret_slc, ret_str, ret_ptr, ret_agg, ret_tup, ob_some, bb_true, bb_false, List.getElem?_cons_zero, List.getElem?_cons_succ, List.length_cons, List.length_nil, Nat.reduceAdd, Nat.reduceLT]
        refine Evp.ff (by simp) ?_
        rw [w64 (by omega)]
        exact Evp.ret (ih (i + 1) M2 (by omega) (by omega) (by omega) (q1.trans p2))
      · rw [if_neg hk] at hw
        simp only at hw
        subst hw
        simp only [ret_int, ret_bool, ret_flt, ret_slc, ret_str, ret_ptr, ret_agg, ret_tup, ob_some, bb_true, bb_false, List.getElem?_cons_zero, List.getElem?_cons_succ, List.length_cons, List.length_nil, Nat.reduceAdd, Nat.reduceLT]
        refine Evp.ob (rweights_ok lo k M1 (Nat.le_trans hlo q1.len)) ?_
        rintro ⟨v, M2⟩ ⟨p2, hw⟩
        rw [if_neg hk] at hw
        simp only at hw
        subst hw
        simp only [ret_int, ret_bool, ret_flt, ret_slc, ret_str, ret_ptr, ret_agg, ret_tup, ob_some, bb_true, bb_false, List.getElem?_cons_zero, List.getElem?_cons_succ, List.length_cons, List.length_nil, Nat.reduceAdd, Nat.reduceLT]
        refine Evp.neb (fun h => absurd rfl h) fun _ => ?_
        refine Evp.ob (eqInts_ok lo none none 0 0 [] [] M2 RdI.nil RdI.nil (by decide)) ?_
        rintro _ rfl
        simp only [ret_int, ret_bool, ret_flt, ret_slc, ret_str, ret_ptr, ret_agg, ret_tup, ob_some, bb_true, bb_false, List.getElem?_cons_zero, List.getElem?_cons_succ, List.length_cons, List.length_nil, Nat.reduceAdd, Nat.reduceLT]
        refine Evp.ff (by simp) ?_
        rw [w64 (by omega)]
        exact Evp.ret (ih (i + 1) M2 (by omega) (by omega) (by omega) (q1.trans p2))
    refine Run.cut (Evp.of_eq (fun k => zoetropelaw15_MotionPairs.p1012 k ..) ?_)
    refine Evp.dec (fun _ => ?_) fun h => absurd h (by omega)
    refine Evp.eqb (fun _ => Evp.ret (next _)) fun _ => Evp.ret (next _)
theorem MotionPairs_law (M : Mem) (vs : List Value) (hro : AllRo M) (hv : LaysArgs P M [22, 22, 3] vs) : Ac P T M.length F.zoetropelaw15_MotionPairs vs M fun r => r.1 = .bool true := by
  obtain ⟨A, c, xs, A', c', ys, n, rfl, _, n0, hx, wx, _, n1, hy, wy, _⟩ := Arg.MotionPairs hv
  have bx : Bytes xs := fun x hx => wf_u8 (wx x hx)
  have by_ : Bytes ys := fun x hx => wf_u8 (wy x hx)
  refine Ac.of (Evp.of_eq (fun k => zoetropelaw15_MotionPairs.entry k ..) ?_)
  refine Evp.ob (copyBytes_ok _ _ _ _ _ hx (by omega) (Nat.le_refl _)) ?_
  rintro _ ⟨B, d, M1, rfl, p1, _, k1⟩
  simp only [ret_int, ret_bool, ret_flt, ret_slc, ret_str, ret_ptr, ret_agg, ret_tup, ob_some, bb_true, bb_false, List.getElem?_cons_zero, List.getElem?_cons_succ, List.length_cons, List.length_nil, Nat.reduceAdd, Nat.reduceLT]
  refine Evp.ob (copyBytes_ok _ _ _ _ _ (hy.pre p1) (by omega) p1.len) ?_
  rintro _ ⟨B', d', M2, rfl, p2, _, k2⟩
  simp only [ret_int, ret_bool, ret_flt, ret_slc, ret_str, ret_ptr, ret_agg, ret_tup, ob_some, bb_true, bb_false, List.getElem?_cons_zero, List.getElem?_cons_succ, List.length_cons, List.length_nil, Nat.reduceAdd, Nat.reduceLT]
  have q2 := p1.trans p2
  have rB := (k1.own.rd).pre p2
  have rB' := k2.own.rd
  have fin : ∀ (e : Int) (l : List Int) (D D' : Option Addr) (cc cc' : Nat) (M3 : Mem), l.length ≤ 140737488351232 → OwnM M2 M3 D l → RdI M3 .u8 D' l → Pre M2 M3 → Evp (fun k => ob (acall P T k M.length F.zoetropelaw15_told [.slice D l.length cc, .int .i64 e, .slice D' l.length cc', .int .i64 e] M3) fun r25 =>
      ob ((some r25.1).bind Value.bool?) fun b26 => bb (!b26) (some (.ret (.bool false) r25.2)) (ob (acall P T k M.length F.zoetroperef00_EqBytes [.slice B xs.length d, .slice A xs.length c] r25.2) fun r27 => ob ((some r27.1).bind Value.bool?) fun b28 => bb (!b28) (some (.ret (.bool false) r27.2))
        (ob (acall P T k M.length F.zoetroperef00_EqBytes [.slice B' ys.length d', .slice A' ys.length c'] r27.2) fun r29 => ob ((some r29.1).bind Value.bool?) fun b30 => bb (!b30) (some (.ret (.bool false) r29.2)) (some (zoetropelaw15_MotionPairs.c1012 n (-1) r29.2))))) fun out => Run P T M.length F.zoetropelaw15_MotionPairs out fun r => r.1 = .bool true := fun e l D D' cc cc' M3 hl ho hr hp => by
    refine Evp.ob (told_ok _ D D' cc cc' l l e e M2 M3 q2.len hp ho hr hl) ?_
    rintro _ ⟨M4, rfl, p4, _⟩
    simp only [ret_int, ret_bool, ret_flt, ret_slc, ret_str, ret_ptr, ret_agg, ret_tup, ob_some, bb_true, bb_false, List.getElem?_cons_zero, List.getElem?_cons_succ, List.length_cons, List.length_nil, Nat.reduceAdd, Nat.reduceLT]
    refine Evp.ff (by simp) ?_
    refine Evp.ob (eqBytes_ok _ _ _ _ _ _ _ _ (rB.pre p4) (hx.pre (q2.trans p4)) (by omega)) ?_
    rintro _ rfl
    simp only [ret_int, ret_bool, ret_flt, ret_slc, ret_str, ret_ptr, ret_agg, ret_tup, ob_some, bb_true, bb_false, List.getElem?_cons_zero, List.getElem?_cons_succ, List.length_cons, List.length_nil, Nat.reduceAdd, Nat.reduceLT]
    refine Evp.ff (by simp) ?_
    refine Evp.ob (eqBytes_ok _ _ _ _ _ _ _ _ (rB'.pre p4) (hy.pre (q2.trans p4)) (by omega)) ?_
    rintro _ rfl
    simp only [ret_int, ret_bool, ret_flt, ret_slc, ret_str, ret_ptr, ret_agg, ret_tup, ob_some, bb_true, bb_false, List.getElem?_cons_zero, List.getElem?_cons_succ, List.length_cons, List.length_nil, Nat.reduceAdd, Nat.reduceLT]
    refine Evp.ff (by simp) ?_
    exact Evp.ret (pairs_loop _ n M (Nat.le_refl _) _ (-1) M4 rfl (by omega) (by omega) (q2.trans p4))
  refine Evp.ob (pair_ok _ B B' d d' xs ys M2 q2.len rB rB' bx by_ (by omega)) ?_
  rintro ⟨v, M3⟩ h3
  by_cases hl : xs.length = ys.length
  · obtain ⟨D, cc, rfl, p3, _, o3⟩ := h3.got hl
    simp only [ret_int, ret_bool, ret_flt, ret_slc, ret_str, ret_ptr, ret_agg, ret_tup, ob_some, bb_true, bb_false, List.getElem?_cons_zero, List.getElem?_cons_succ, List.length_cons, List.length_nil, Nat.reduceAdd, Nat.reduceLT]
    refine Evp.ob (rpair_ok _ A A' c c' xs ys M3 (q2.trans p3).len (hx.pre (q2.trans p3)) (hy.pre (q2.trans p3)) bx by_ (by omega)) ?_
    rintro ⟨v, M4⟩ h4
    obtain ⟨D', cc', rfl, p4, _, o4⟩ := h4.got hl
    simp only [ret_int, ret_bool, ret_flt, ret_slc, ret_str, ret_ptr, ret_agg, ret_tup, ob_some, bb_true, bb_false, List.getElem?_cons_zero, List.getElem?_cons_succ, List.length_cons, List.length_nil, Nat.reduceAdd, Nat.reduceLT]
    have := fin 0 (pL xs ys) D D' cc cc' M4 (by rw [pL_len]; omega) (o3.pre p4) o4.rd (p3.trans p4)
    rw [pL_len] at this
    exact this
  · obtain ⟨rfl, p3⟩ := h3.not hl
    simp only [ret_int, ret_bool, ret_flt, ret_slc, ret_str, ret_ptr, ret_agg, ret_tup, ob_some, bb_true, bb_false, List.getElem?_cons_zero, List.getElem?_cons_succ, List.length_cons, List.length_nil, Nat.reduceAdd, Nat.reduceLT]
    refine Evp.ob (rpair_ok _ A A' c c' xs ys M3 (q2.trans p3).len (hx.pre (q2.trans p3)) (hy.pre (q2.trans p3)) bx by_ (by omega)) ?_
    rintro ⟨v, M4⟩ h4
    obtain ⟨rfl, p4⟩ := h4.not hl
    simp only [ret_int, ret_bool, ret_flt, ret_slc, ret_str, ret_ptr, ret_agg, ret_tup, ob_some, bb_true, bb_false, List.getElem?_cons_zero, List.getElem?_cons_succ, List.length_cons, List.length_nil, Nat.reduceAdd, Nat.reduceLT]
    exact fin 2 [] none none 0 0 M4 (by decide) (.inl rfl) RdI.nil (p3.trans p4)

/-- Both answers of a blend. -/
theorem BlendR.cases {al : Bool} {M : Mem} {own other : List Int} {w x y rw rh : Int} {r : Value × Mem} (hn : own.length ≤ 140737488351232) (h : BlendR al M own other w x y rw rh r) :
    ∃ (l : List Int) (e : Int) (B : Option Addr) (cc : Nat) (M' : Mem), r = (.tuple ⟨[.slice B l.length cc, .int .i64 e]⟩, M') ∧ Pre M M' ∧ OwnM M M' B l ∧ l.length ≤ 140737488351232 ∧
      l = (if LiesP own.length w x y rw rh ∧ (4 ≤ (if al then rh else rw) ∧ (if al then rh else rw) ≤ 32) ∧ (other.length : Int) = rw * rh then blS al own other w.toNat x.toNat y.toNat rw.toNat rh.toNat other.length else []) ∧
      e = (if LiesP own.length w x y rw rh ∧ (4 ≤ (if al then rh else rw) ∧ (if al then rh else rw) ≤ 32) ∧ (other.length : Int) = rw * rh then 0 else 2) := by
  obtain ⟨v, M'⟩ := r
  by_cases hk : LiesP own.length w x y rw rh ∧ (4 ≤ (if al then rh else rw) ∧ (if al then rh else rw) ≤ 32) ∧ (other.length : Int) = rw * rh
  · obtain ⟨A, cc, rfl, p, h1, h2⟩ := h.got hk
    have bl := bl_len al own other w.toNat x.toNat y.toNat rw.toNat rh.toNat other.length
    refine ⟨blS al own other w.toNat x.toNat y.toNat rw.toNat rh.toNat other.length, 0, A, cc, M', by rw [bl], p, h2, by rw [bl]; exact hn, by rw [if_pos hk], by rw [if_pos hk]⟩
  · obtain ⟨rfl, p⟩ := h.not hk
    exact ⟨[], 2, none, 0, M', rfl, p, .inl rfl, by decide, by rw [if_neg hk], by rw [if_neg hk]⟩
theorem MotionBlends_law (M : Mem) (vs : List Value) (hro : AllRo M) (hv : LaysArgs P M [51] vs) : Ac P T M.length F.zoetropelaw15_MotionBlends vs M fun r => r.1 = .bool true := by
  obtain ⟨A, c, own, w, x, y, rw', rh, A', c', other, rfl, _, n0, hx, wx, _, _, _, _, _, _, n1, hy, wy⟩ := Arg.MotionBlends hv
  have bx : Bytes own := fun x hx => wf_u8 (wx x hx)
  have by_ : Bytes other := fun x hx => wf_u8 (wy x hx)
  refine Ac.of (Evp.of_eq (fun k => zoetropelaw15_MotionBlends.entry k ..) ?_)
  refine Evp.ob (copyBytes_ok _ _ _ _ _ hx (by omega) (Nat.le_refl _)) ?_
  rintro _ ⟨B, d, M1, rfl, p1, _, k1⟩
  simp only [ret_int, ret_bool, ret_flt, ret_slc, ret_str, ret_ptr, ret_agg, ret_tup, ob_some, bb_true, bb_false, List.getElem?_cons_zero, List.getElem?_cons_succ, List.length_cons, List.length_nil, Nat.reduceAdd, Nat.reduceLT]
  refine Evp.ob (copyBytes_ok _ _ _ _ _ (hy.pre p1) (by omega) p1.len) ?_
  rintro _ ⟨B', d', M2, rfl, p2, _, k2⟩
  simp only [ret_int, ret_bool, ret_flt, ret_slc, ret_str, ret_ptr, ret_agg, ret_tup, ob_some, bb_true, bb_false, List.getElem?_cons_zero, List.getElem?_cons_succ, List.length_cons, List.length_nil, Nat.reduceAdd, Nat.reduceLT]
  have q2 := p1.trans p2
  have rB := (k1.own.rd).pre p2
  have rB' := k2.own.rd
  refine Evp.ob (above_ok _ B B' d d' own other M2 w x y rw' rh q2.len rB rB' bx by_ (by omega)) ?_
  intro r hr
  obtain ⟨l1, e1, D1, cc1, M3, rfl, p3, o3, z3, el1, ee1⟩ := hr.cases (by omega)
  simp only [ret_int, ret_bool, ret_flt, ret_slc, ret_str, ret_ptr, ret_agg, ret_tup, ob_some, bb_true, bb_false, List.getElem?_cons_zero, List.getElem?_cons_succ, List.length_cons, List.length_nil, Nat.reduceAdd, Nat.reduceLT]
  have q3 := q2.trans p3
  refine Evp.ob (rabove_ok _ A A' c c' own other M3 w x y rw' rh q3.len (hx.pre q3) (hy.pre q3) bx by_ (by omega)) ?_
  intro r hr
  obtain ⟨l2, e2, D2, cc2, M4, rfl, p4, o4, z4, el2, ee2⟩ := hr.cases (by omega)
  have h12 : l2 = l1 := el2.trans el1.symm
  have g12 : e2 = e1 := ee2.trans ee1.symm
  clear el1 el2 ee1 ee2
  subst h12; subst g12
  simp only [ret_int, ret_bool, ret_flt, ret_slc, ret_str, ret_ptr, ret_agg, ret_tup, ob_some, bb_true, bb_false, List.getElem?_cons_zero, List.getElem?_cons_succ, List.length_cons, List.length_nil, Nat.reduceAdd, Nat.reduceLT]
  have q4 := q3.trans p4
  refine Evp.ob (left_ok _ B B' d d' own other M4 w x y rw' rh q4.len (rB.pre (p3.trans p4)) (rB'.pre (p3.trans p4)) bx by_ (by omega)) ?_
  intro r hr
  obtain ⟨l3, e3, D3, cc3, M5, rfl, p5, o5, z5, el3, ee3⟩ := hr.cases (by omega)
  simp only [ret_int, ret_bool, ret_flt, ret_slc, ret_str, ret_ptr, ret_agg, ret_tup, ob_some, bb_true, bb_false, List.getElem?_cons_zero, List.getElem?_cons_succ, List.length_cons, List.length_nil, Nat.reduceAdd, Nat.reduceLT]
  have q5 := q4.trans p5
  refine Evp.ob (rleft_ok _ A A' c c' own other M5 w x y rw' rh q5.len (hx.pre q5) (hy.pre q5) bx by_ (by omega)) ?_
  intro r hr
  obtain ⟨l4, e4, D4, cc4, M6, rfl, p6, o6, z6, el4, ee4⟩ := hr.cases (by omega)
  have h34 : l4 = l3 := el4.trans el3.symm
  have g34 : e4 = e3 := ee4.trans ee3.symm
  clear el3 el4 ee3 ee4
  subst h34; subst g34
  simp only [ret_int, ret_bool, ret_flt, ret_slc, ret_str, ret_ptr, ret_agg, ret_tup, ob_some, bb_true, bb_false, List.getElem?_cons_zero, List.getElem?_cons_succ, List.length_cons, List.length_nil, Nat.reduceAdd, Nat.reduceLT]
  have s6 := (p3.trans p4).trans (p5.trans p6)
  refine Evp.ob (told_ok _ D1 D2 cc1 cc2 l2 l2 e2 e2 M2 M6 q2.len s6 (o3.pre (p4.trans (p5.trans p6))) (o4.rd.pre (p5.trans p6)) z4) ?_
  rintro _ ⟨M7, rfl, p7, kp, kn⟩
  simp only [ret_int, ret_bool, ret_flt, ret_slc, ret_str, ret_ptr, ret_agg, ret_tup, ob_some, bb_true, bb_false, List.getElem?_cons_zero, List.getElem?_cons_succ, List.length_cons, List.length_nil, Nat.reduceAdd, Nat.reduceLT]
  refine Evp.tt (by simp) ?_
  have far : ∀ (D : Option Addr) (l : List Int), OwnM M4 M6 D l → OwnM M2 M7 D l := fun D l ho => by
    rcases ho with rfl | ⟨a, rfl, hb⟩
    · exact .inl rfl
    · have hb2 := hb.floor (M0 := M2) (p3.trans p4).len
      by_cases h0 : l2 = []
      · rw [kn (by rw [h0]; rfl)]; exact .inr ⟨a, rfl, hb2⟩
      refine .inr ⟨a, rfl, hb2.keep kp fun a' ha' => ?_⟩
      rcases o3 with e | ⟨a1, e, hb1⟩
      · exact absurd e h0
      · rw [e] at ha'
        injection ha' with ha'
        subst ha'
        have i1 := hb1.in_
        have i2 := hb.new
        have i3 := p4.len
        omega
  have far2 : RdI M7 .u8 D4 l4 := (far D4 l4 (o6.floor p5.len)).rd
  refine Evp.ob (told_ok _ D3 D4 cc3 cc4 l4 l4 e4 e4 M2 M7 q2.len p7 (far D3 l4 (o5.pre p6)) far2 z6) ?_
  rintro _ ⟨M8, rfl, p8, _⟩
  simp only [ret_int, ret_bool, ret_flt, ret_slc, ret_str, ret_ptr, ret_agg, ret_tup, ob_some, bb_true, bb_false, List.getElem?_cons_zero, List.getElem?_cons_succ, List.length_cons, List.length_nil, Nat.reduceAdd, Nat.reduceLT]
  refine Evp.tt (by simp) ?_
  refine Evp.ob (eqBytes_ok _ _ _ _ _ _ _ _ (rB.pre p8) (hx.pre (q2.trans p8)) (by omega)) ?_
  rintro _ rfl
  simp only [ret_int, ret_bool, ret_flt, ret_slc, ret_str, ret_ptr, ret_agg, ret_tup, ob_some, bb_true, bb_false, List.getElem?_cons_zero, List.getElem?_cons_succ, List.length_cons, List.length_nil, Nat.reduceAdd, Nat.reduceLT]
  refine Evp.tt (by simp) ?_
  refine Evp.ob (eqBytes_ok _ _ _ _ _ _ _ _ (rB'.pre p8) (hy.pre (q2.trans p8)) (by omega)) ?_
  rintro _ rfl
  simp only [ret_int, ret_bool, ret_flt, ret_slc, ret_str, ret_ptr, ret_agg, ret_tup, ob_some, bb_true, bb_false, List.getElem?_cons_zero, List.getElem?_cons_succ, List.length_cons, List.length_nil, Nat.reduceAdd, Nat.reduceLT]
  refine Evp.tt (by simp) ?_
  refine Evp.ob (works_ok _ M8 (q2.trans p8).len) ?_
  rintro _ ⟨M9, rfl, _⟩
  simp only [ret_int, ret_bool, ret_flt, ret_slc, ret_str, ret_ptr, ret_agg, ret_tup, ob_some, bb_true, bb_false, List.getElem?_cons_zero, List.getElem?_cons_succ, List.length_cons, List.length_nil, Nat.reduceAdd, Nat.reduceLT]
  exact Evp.ret (Run.ret rfl)
end Go.Zt
