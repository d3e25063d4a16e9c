/- WienerSquares. -/
import Derived.Test.YtfghnhhhlckafaaFk
set_option linter.unusedVariables false
set_option linter.unusedSimpArgs false
set_option maxRecDepth 100000
namespace Go.Zt
theorem cellsU_app (us vs : List Un) : cellsU (us ++ vs) = cellsU us ++ cellsU vs := by unfold cellsU; rw [List.flatMap_append]
theorem cellsU_set {us : List Un} {k : Nat} {u : Un} (hk : k < us.length) : setL (cellsU us) (k * 7) u.cells = cellsU (us.set k u) := by
  have e1 : us = us.take k ++ us[k] :: us.drop (k + 1) := by rw [List.getElem_cons_drop, List.take_append_drop]
  have e2 : us.set k u = us.take k ++ u :: us.drop (k + 1) := List.set_eq_take_append_cons_drop .. |>.trans (by rw [if_pos hk])
  have e3 : cellsU us = cellsU (us.take k) ++ us[k].cells ++ cellsU (us.drop (k + 1)) := by
    conv => lhs; rw [e1]
    rw [cellsU_app]
    show cellsU (us.take k) ++ (us[k].cells ++ cellsU (us.drop (k + 1))) = _
    rw [List.append_assoc]
  have e4 : cellsU (us.set k u) = cellsU (us.take k) ++ u.cells ++ cellsU (us.drop (k + 1)) := by
    rw [e2, cellsU_app]
    show cellsU (us.take k) ++ (u.cells ++ cellsU (us.drop (k + 1))) = _
    rw [List.append_assoc]
  have := setL_all (cellsU (us.take k)) us[k].cells u.cells (cellsU (us.drop (k + 1))) rfl
  rw [cellsU_len, List.length_take, Nat.min_eq_left (by omega)] at this
  rw [e3, this, e4]
theorem getU_set {us : List Un} {k j : Nat} {u : Un} (hk : k < us.length) : (us.set k u).getD j u0 = if j = k then u else us.getD j u0 := by
  simp only [List.getD_eq_getElem?_getD]
  by_cases h : j = k
  · subst h; rw [if_pos rfl, List.getElem?_set_self hk]; rfl
  · rw [if_neg h, List.getElem?_set_ne (Ne.symm h)]
/-- Both lists of units. -/
structure Two (n : Nat) (us vs : List Un) : Prop where
  l1 : us.length = n
  l2 : vs.length = n
  may : ∀ k, UnitP (us.getD k u0)
  or : ∀ k, vs.getD k u0 = us.getD k u0 ∨ vs.getD k u0 = u0
theorem Two.all1 {n : Nat} {us vs : List Un} (h : Two n us vs) : ∀ u ∈ us, UnitP u ∧ u.wf := fun u hu => by
  obtain ⟨k, hk, rfl⟩ := List.mem_iff_getElem.1 hu
  have := h.may k
  rw [List.getD_eq_getElem?_getD, List.getElem?_eq_getElem hk] at this
  exact may_wf this
theorem Two.all2 {n : Nat} {us vs : List Un} (h : Two n us vs) : ∀ u ∈ vs, UnitP u ∧ u.wf := fun u hu => by
  obtain ⟨k, hk, rfl⟩ := List.mem_iff_getElem.1 hu
  have e := h.or k
  have := h.may k
  rw [List.getD_eq_getElem?_getD (l := vs), List.getElem?_eq_getElem hk] at e
  have e : vs[k] = us.getD k u0 ∨ vs[k] = u0 := e
  rcases e with e | e <;> rw [e]
  · exact may_wf this
  · exact may_wf (.inr rfl)
theorem Two.start (n : Nat) : Two n (List.replicate n u0) (List.replicate n u0) := by
  have g : ∀ k, (List.replicate n u0).getD k u0 = u0 := fun k => by
    rw [List.getD_eq_getElem?_getD, List.getElem?_replicate]
    split <;> rfl
  exact ⟨by simp, by simp, fun k => by rw [g]; exact .inr rfl, fun k => .inl rfl⟩
theorem Two.set {n : Nat} {us vs : List Un} (h : Two n us vs) {k : Nat} {u v : Un} (hk : k < n) (hu : UnitP u) (hv : v = u ∨ v = u0) : Two n (us.set k u) (vs.set k v) := by
  refine ⟨by simp [h.l1], by simp [h.l2], fun j => ?_, fun j => ?_⟩
  · rw [getU_set (by rw [h.l1]; exact hk)]
    split
    · exact hu
    · exact h.may j
  · rw [getU_set (by rw [h.l2]; exact hk), getU_set (by rw [h.l1]; exact hk)]
    split
    · exact hv
    · exact h.or j
theorem set_set_u (vs : List Un) (k : Nat) (u v : Un) : (vs.set k u).set k v = vs.set k v := List.set_set ..
section
variable (w h : Nat) (A B AT AW : Option Addr) (cap capb ct cw nt : Nat) (xs bs : List Int) (ts : List Value) (ws : List Bool) (au av : Addr) (cu cv : Nat) (M0 : Mem) (n : Nat)
variable (hw : 1 ≤ w ∧ w ≤ 512) (hh : 1 ≤ h ∧ h ≤ 512) (hn : n = wideN w 32 * wideN h 32) (hx : RdI M0 .u8 A xs) (hb : RdI M0 .u8 B bs) (bx : Bytes xs) (bb' : Bytes bs) (hc : xs.length ≤ cap) (hcb : bs.length ≤ capb) (n1 : xs.length = h * w) (n2 : bs.length = h * w)
variable (hT : Rd M0 AT nt 3 ts) (hTt : ∀ j, j < nt → ∃ t : Tp, ts[j * 3]? = some (.int .i64 t.a) ∧ ts[j * 3 + 1]? = some (.int .i64 t.b) ∧ ts[j * 3 + 2]? = some (.int .i64 t.c)) (hW : RdB M0 AW ws) (hne : au.block ≠ av.block) (hnt : nt ≤ 140737488351232) (hnw : ws.length ≤ 140737488351232)
include hw hh hn hx n1 n2
theorem squares_cmp (lo : Nat) (us vs : List Un) (t : Two n us vs) (P1 P2 : Option Addr) (c1 c2 : Nat) (M : Mem) (hp : Pre M0 M) (hv : RdU M (some av) vs) (h1 : RdI M .u8 P1 (outW us xs bs w h 32)) (h2 : RdI M .u8 P2 (outW vs xs bs w h 32)) : ∀ (d i : Nat), h * w - i = d → i ≤ h * w →
    Run P T lo F.zoetropelaw24_WienerSquares (zoetropelaw24_WienerSquares.c32756 (some av) n cv (wideN w 32 : Nat) i w h A xs.length cap w h B bs.length capb w h P1 xs.length c1 w h P2 xs.length c2 M) fun r => r.1 = .bool true := by
  have sm : h * w ≤ 512 * 512 := Nat.mul_le_mul hh.2 hw.2
  obtain ⟨_, a1, a2⟩ := wide_eq (n := w) (side := 32) (.inr rfl) (by omega)
  have ex := hx.pre hp
  intro d
  induction d with
  | zero =>
    intro i hd hi
    refine Run.cut (Evp.of_eq (fun k => zoetropelaw24_WienerSquares.p32756 k ..) ?_)
    refine Evp.dec (fun h => absurd h (by omega)) fun _ => Evp.ret (Run.ret rfl)
  | succ d ih =>
    intro i hd hi
    have hy : i / w < h := (Nat.div_lt_iff_lt_mul (by omega)).2 (by omega)
    have hx' : i % w < w := Nat.mod_lt _ (by omega)
    have ul := unit_lt (side := 32) (.inr rfl) hy hx'
    rw [← hn] at ul
    have o1 : (outW us xs bs w h 32).getD i 0 = tgtW us xs bs w h 32 i := by unfold outW; exact getD_map_range (by omega)
    have o2 : (outW vs xs bs w h 32).getD i 0 = tgtW vs xs bs w h 32 i := by unfold outW; exact getD_map_range (by omega)
    have same : (vs.getD (i / w / 32 * wideN w 32 + i % w / 32) u0).on = true → tgtW us xs bs w h 32 i = tgtW vs xs bs w h 32 i := fun e => by
      unfold tgtW
      rcases t.or (i / w / 32 * wideN w 32 + i % w / 32) with g | g
      · rw [g]
      · rw [g] at e; cases e
    have stay : (vs.getD (i / w / 32 * wideN w 32 + i % w / 32) u0).on = false → tgtW vs xs bs w h 32 i = xs.getD i 0 := fun e => by
      unfold tgtW
      rw [if_neg (by rw [e]; simp)]
    refine Run.cut (Evp.of_eq (fun k => zoetropelaw24_WienerSquares.p32756 k ..) ?_)
    refine Evp.dec (fun _ => ?_) fun h => absurd h (by omega)
    refine Evp.neg (by omega) (Evp.neg (by omega) ?_)
    have ei : IntKind.i64.wrap ((IntKind.i64.wrap ((IntKind.i64.wrap (Int.tdiv (IntKind.i64.wrap (Int.tdiv (i : Int) (w : Int))) 32)) * ((wideN w 32 : Nat) : Int))) + (IntKind.i64.wrap (Int.tdiv (Int.tmod (i : Int) (w : Int)) 32))) = ((i / w / 32 * wideN w 32 + i % w / 32 : Nat) : Int) := by
      rw [show Int.tdiv (i : Int) (w : Int) = ((i / w : Nat) : Int) from rfl, show Int.tmod (i : Int) (w : Int) = ((i % w : Nat) : Int) from rfl]
      have l3 : i / w / 32 * wideN w 32 ≤ 16 * 16 := Nat.mul_le_mul (by omega) a2
      generalize i / w = p at *
      generalize i % w = s at *
      rw [w64 (x := ((p : Nat) : Int)) (by omega), show Int.tdiv (p : Int) 32 = ((p / 32 : Nat) : Int) from rfl, show Int.tdiv (s : Int) 32 = ((s / 32 : Nat) : Int) from rfl, w64 (x := ((p / 32 : Nat) : Int)) (by omega), w64 (x := ((s / 32 : Nat) : Int)) (by omega), ← Int.natCast_mul, w64 (x := ((p / 32 * wideN w 32 : Nat) : Int)) (by omega), w64 (by omega)]
      omega
    rw [ei, w64 (x := (i : Int) + 1) (by omega)]
    generalize i / w / 32 * wideN w 32 + i % w / 32 = k at *
    have nx : Evp (fun kk => some (zoetropelaw24_WienerSquares.c32756 (some av) n cv (wideN w 32 : Nat) ((i : Int) + 1) w h A xs.length cap w h B bs.length capb w h P1 xs.length c1 w h P2 xs.length c2 M)) fun out => Run P T lo F.zoetropelaw24_WienerSquares out fun r => r.1 = .bool true := Evp.ret (ih (i + 1) (by omega) (by omega))
    have l1 := outW_len us xs bs w h 32
    have l2 := outW_len vs xs bs w h 32
    have hul : k < vs.length := by rw [t.l2]; exact ul
    obtain ⟨a, e, d0, _⟩ := unit_ld hv hul
    injection e with e; subst e
    have hd0 : (M.ld (plus av (k * 7))).bind Value.bool? = some (vs.getD k u0).on := by rw [d0]; rfl
    refine Evp.pos (pos_iN ul) ?_
    simp only [Int.toNat_natCast]
    refine Evp.some rfl (Evp.some hd0 ?_)
    refine Evp.bb (fun hon => ?_) fun hon => ?_
    · refine Evp.pos (by omega) ?_
      refine Evp.ldI h1 (by omega) fun _ _ => ?_
      refine Evp.pos (by omega) ?_
      refine Evp.ldI h2 (by omega) fun _ _ => ?_
      refine Evp.neb (fun e => absurd (by rw [o1, o2, same hon]) e) fun _ => ?_
      refine Evp.pos (pos_iN ul) (Evp.some rfl (Evp.some hd0 ?_))
      refine Evp.ff (by rw [hon]; rfl) nx
    · refine Evp.pos (pos_iN ul) (Evp.some rfl (Evp.some hd0 ?_))
      refine Evp.tt (by rw [hon]; rfl) ?_
      refine Evp.pos (by omega) ?_
      refine Evp.ldI h2 (by omega) fun _ _ => ?_
      refine Evp.pos (by omega) ?_
      refine Evp.ldI ex (by omega) fun _ _ => ?_
      exact Evp.neb (fun e => absurd (by rw [o2, stay hon]) e) fun _ => nx
include hb bx bb' hc hcb hT hTt hW hne hnt hnw
theorem squares_loop (lo : Nat) (hlo : lo ≤ M0.length) : ∀ (d i : Nat) (us vs : List Un) (M : Mem), n - i = d → i ≤ n → Two n us vs → Pre M0 M → Buf M0 M au (cellsU us) → Buf M0 M av (cellsU vs) →
    Run P T lo F.zoetropelaw24_WienerSquares (zoetropelaw24_WienerSquares.c1012 AT nt ct AW ws.length cw (some au) n cu (some av) n cv i w h A xs.length cap w h B bs.length capb M) fun r => r.1 = .bool true := by
  have sm : h * w ≤ 512 * 512 := Nat.mul_le_mul hh.2 hw.2
  obtain ⟨ew, a1, a2⟩ := wide_eq (n := w) (side := 32) (.inr rfl) (by omega)
  obtain ⟨_, b1, b2⟩ := wide_eq (n := h) (side := 32) (.inr rfl) (by omega)
  have sn : wideN w 32 * wideN h 32 ≤ 16 * 16 := Nat.mul_le_mul a2 b2
  intro d
  induction d with
  | zero =>
    intro i us vs M hd hi t hp hbu hbv
    refine Run.cut (Evp.of_eq (fun k => zoetropelaw24_WienerSquares.p1012 k ..) ?_)
    refine Evp.dec (fun h => absurd h (by omega)) fun _ => ?_
    have ru : RdU M (some au) us := hbu.rd (cellsU_len us)
    have rv : RdU M (some av) vs := hbv.rd (cellsU_len vs)
    have P1 := plane_nat lo (some au) A B cu cap capb us xs bs w h 32 M (Nat.le_trans hlo hp.len) ru (hx.pre hp) (hb.pre hp) bx bb' hc hcb (.inr rfl) hw hh n1 n2 (by rw [t.l1, hn]) t.all1
    rw [t.l1] at P1
    refine Evp.ob P1 ?_
    rintro _ ⟨x1, c1, M1, rfl, p1, r1⟩
    simp only [ret_int, ret_bool, ret_flt, ret_slc, ret_str, ret_ptr, ret_agg, ret_tup, ob_some, bb_true, bb_false, List.getElem?_cons_zero, List.getElem?_cons_succ, List.length_cons, List.length_nil, Nat.reduceAdd, Nat.reduceLT]
    have q1 := hp.trans p1
    have P2 := plane_nat lo (some av) A B cv cap capb vs xs bs w h 32 M1 (Nat.le_trans hlo q1.len) (rv.pre p1) (hx.pre q1) (hb.pre q1) bx bb' hc hcb (.inr rfl) hw hh n1 n2 (by rw [t.l2, hn]) t.all2
    rw [t.l2] at P2
    refine Evp.ob P2 ?_
    rintro _ ⟨x2, c2, M2, rfl, p2, r2⟩
    simp only [ret_int, ret_bool, ret_flt, ret_slc, ret_str, ret_ptr, ret_agg, ret_tup, ob_some, bb_true, bb_false, List.getElem?_cons_zero, List.getElem?_cons_succ, List.length_cons, List.length_nil, Nat.reduceAdd, Nat.reduceLT]
    refine Evp.neb (fun e => absurd rfl e) fun _ => Evp.neb (fun e => absurd rfl e) fun _ => ?_
    have e : IntKind.i64.wrap (Int.tdiv (IntKind.i64.wrap ((w : Int) + 31)) 32) = ((wideN w 32 : Nat) : Int) := by
      rw [w64 (x := (w : Int) + 31) (by omega), show (w : Int) + 31 = ((w + 31 : Nat) : Int) by omega, show Int.tdiv ((w + 31 : Nat) : Int) 32 = (((w + 31) / 32 : Nat) : Int) from rfl, w64 (by omega)]
      unfold wideN
      omega
    rw [e]
    exact Evp.ret (squares_cmp w h A B cap capb xs bs av cv M0 n hw hh hn hx n1 n2 lo us vs t (some x1) (some x2) c1 c2 M2 (q1.trans p2) ((rv.pre p1).pre p2) (r1.pre p2) r2 _ 0 rfl (Nat.zero_le _))
  | succ d ih =>
    intro i us vs M hd hi t hp hbu hbv
    have hin : i < n := by omega
    have nx : ∀ us' vs' M', Two n us' vs' → Pre M0 M' → Buf M0 M' au (cellsU us') → Buf M0 M' av (cellsU vs') → Run P T lo F.zoetropelaw24_WienerSquares (zoetropelaw24_WienerSquares.c4051 AT nt ct AW ws.length cw (some au) n cu (some av) n cv i w h A xs.length cap w h B bs.length capb M') fun r => r.1 = .bool true := fun us' vs' M' t' p' b' b'' => by
      refine Run.cut (Evp.of_eq (fun k => zoetropelaw24_WienerSquares.p4051 k ..) ?_)
      rw [w64 (by omega)]
      exact Evp.ret (ih (i + 1) us' vs' M' (by omega) (by omega) t' p' b' b'')
    have mid : ∀ tp : Tp, Run P T lo F.zoetropelaw24_WienerSquares (zoetropelaw24_WienerSquares.c32403 AT nt ct AW ws.length cw (some au) n cu (some av) n cv i w h A xs.length cap w h B bs.length capb tp.a tp.b tp.c M) fun r => r.1 = .bool true := fun tp => by
      refine Run.cut (Evp.of_eq (fun k => zoetropelaw24_WienerSquares.p32403 k ..) ?_)
      refine Evp.ob (made_ok M.length tp M) ?_
      rintro _ rfl
      simp only [ret_int, ret_bool, ret_flt, ret_slc, ret_str, ret_ptr, ret_agg, ret_tup, ob_some, bb_true, bb_false, List.getElem?_cons_zero, List.getElem?_cons_succ, List.length_cons, List.length_nil, Nat.reduceAdd, Nat.reduceLT]
      refine Evp.ob (made_ok M.length ⟨tp.c, tp.a, tp.b⟩ M) ?_
      rintro _ rfl
      simp only [ret_int, ret_bool, ret_flt, ret_slc, ret_str, ret_ptr, ret_agg, ret_tup, ob_some, bb_true, bb_false, List.getElem?_cons_zero, List.getElem?_cons_succ, List.length_cons, List.length_nil, Nat.reduceAdd, Nat.reduceLT]
      have hu : UnitP ⟨true, madeT tp, madeT ⟨tp.c, tp.a, tp.b⟩⟩ := .inl ⟨rfl, madeT_may _, madeT_may _⟩
      refine Evp.pos (pos_iN hin) ?_
      simp only [Int.toNat_natCast]
      obtain ⟨M1, e1, g1, p1, k1, _⟩ := hbu.st (lo := lo) (i := i * 7) (vs := (⟨true, madeT tp, madeT ⟨tp.c, tp.a, tp.b⟩⟩ : Un).cells) hp hlo (by rw [cellsU_len, t.l1]; simp [Un.cells]; omega)
      rw [cellsU_set (by rw [t.l1]; exact hin)] at g1
      refine Evp.some rfl (Evp.some e1 ?_)
      have gv1 := hbv.keep k1 fun a' e => by injection e with e; subst e; exact hne
      generalize hU : (⟨true, madeT tp, madeT ⟨tp.c, tp.a, tp.b⟩⟩ : Un) = u at *
      refine Evp.pos (pos_iN hin) ?_
      have ru : RdU M1 (some au) (us.set i u) := g1.rd (cellsU_len _)
      refine Evp.ldU ru (by simp [t.l1]; exact hin) fun _ _ => ?_
      rw [getU_set (by rw [t.l1]; exact hin), if_pos rfl]
      refine Evp.pos (pos_iN hin) ?_
      obtain ⟨M2, e2, g2, p2, k2, _⟩ := gv1.st (lo := lo) (i := i * 7) (vs := u.cells) p1 hlo (by rw [cellsU_len, t.l2]; simp [Un.cells]; omega)
      rw [cellsU_set (by rw [t.l2]; exact hin)] at g2
      refine Evp.some rfl (Evp.some e2 ?_)
      have gu2 := g1.keep k2 fun a' e => by injection e with e; subst e; exact Ne.symm hne
      have nx2 := nx _ _ M2 (t.set hin hu (.inl rfl)) p2 gu2 g2
      refine Evp.dec (fun h0 => ?_) fun _ => Evp.ret nx2
      have hl0 : 0 < ws.length := by omega
      refine Evp.neg (by omega) ?_
      rw [show Int.tmod (i : Int) (ws.length : Int) = ((i % ws.length : Nat) : Int) from rfl]
      have hm := Nat.mod_lt i hl0
      refine Evp.pos (pos_iN hm) ?_
      simp only [Int.toNat_natCast]
      refine Evp.ldB (hW.pre p2) hm fun _ _ => ?_
      refine Evp.bb (fun _ => ?_) fun _ => Evp.ret nx2
      refine Evp.pos (pos_iN hin) ?_
      obtain ⟨M3, e3, g3, p3, k3, _⟩ := g2.st (lo := lo) (i := i * 7) (vs := u0.cells) p2 hlo (by rw [cellsU_len, List.length_set, t.l2]; simp [Un.cells]; omega)
      rw [cellsU_set (by simp [t.l2]; exact hin), set_set_u] at g3
      refine Evp.some rfl (Evp.some e3 ?_)
      have gu3 := gu2.keep k3 fun a' e => by injection e with e; subst e; exact Ne.symm hne
      exact Evp.ret (nx _ _ M3 (t.set hin hu (.inr rfl)) p3 gu3 g3)
    refine Run.cut (Evp.of_eq (fun k => zoetropelaw24_WienerSquares.p1012 k ..) ?_)
    refine Evp.dec (fun _ => ?_) fun h => absurd h (by omega)
    refine Evp.dec (fun h0 => ?_) fun _ => Evp.ret (mid ⟨0, 0, 0⟩)
    have hl0 : 0 < nt := by omega
    refine Evp.neg (by omega) ?_
    rw [show Int.tmod (i : Int) (nt : Int) = ((i % nt : Nat) : Int) from rfl]
    have hm := Nat.mod_lt i hl0
    refine Evp.pos (pos_iN hm) ?_
    simp only [Int.toNat_natCast]
    generalize i % nt = j at *
    obtain ⟨tp, t1, t2, t3⟩ := hTt j hm
    have hT' := hT.pre hp
    obtain ⟨a, rfl, _, v1⟩ := Rd.get hT' (i := j * 3) (by omega)
    obtain ⟨_, e, _, v2⟩ := Rd.get hT' (i := j * 3 + 1) (by omega)
    injection e with e; subst e
    obtain ⟨_, e, _, v3⟩ := Rd.get hT' (i := j * 3 + 2) (by omega)
    injection e with e; subst e
    rw [t1] at v1
    rw [t2] at v2
    rw [t3] at v3
    have m1 : (M.ld (plus a (j * 3))).bind (Value.int? .i64) = some tp.a := by rw [v1]; simp [Value.int?]
    have m2 : (M.ld (plus a (j * 3 + 1))).bind (Value.int? .i64) = some tp.b := by rw [v2]; simp [Value.int?]
    have m3 : (M.ld (plus a (j * 3 + 2))).bind (Value.int? .i64) = some tp.c := by rw [v3]; simp [Value.int?]
    simp only [plus_plus]
    exact Evp.some rfl (Evp.some m1 (Evp.some m2 (Evp.some m3 (Evp.ret (mid tp)))))
end
theorem WienerSquares_law (M : Mem) (vs : List Value) (hro : AllRo M) (hv : LaysArgs P M [37, 51, 52] vs) : Ac P T M.length F.zoetropelaw24_WienerSquares vs M fun r => r.1 = .bool true := by
  obtain ⟨w, h, A, cap, xs, w', h', B, capb, bs, AT, nt, ct, ts, AW, cw, ws, rfl, _, _, hc, hn, hx, wx, _, _, hc', hn', hb, wb, _, hnt, hT, hTl, _, hnw, hW⟩ := Arg.WienerSquares hv
  have bx : Bytes xs := fun x hx => wf_u8 (wx x hx)
  have bb : Bytes bs := fun x hx => wf_u8 (wb x hx)
  have hTt : ∀ j, j < nt → ∃ t : Tp, ts[j * 3]? = some (.int .i64 t.a) ∧ ts[j * 3 + 1]? = some (.int .i64 t.b) ∧ ts[j * 3 + 2]? = some (.int .i64 t.c) := fun j hj => by
    obtain ⟨x0, x1, x2, e, _⟩ := Y23 (d := 5) (hTl j hj)
    have g : ∀ k, k < 3 → ts[j * 3 + k]? = ([.int .i64 x0, .int .i64 x1, .int .i64 x2] : List Value)[k]? := fun k hk => by
      rw [← e, List.getElem?_take_of_lt hk, List.getElem?_drop]
    exact ⟨⟨x0, x1, x2⟩, g 0 (by decide), g 1 (by decide), g 2 (by decide)⟩
  refine Ac.of (Evp.of_eq (fun k => zoetropelaw24_WienerSquares.entry k ..) ?_)
  refine Evp.ob (awake_ok M.length M (Nat.le_refl _)) ?_
  rintro _ ⟨M1, rfl, p1⟩
  simp only [ret_int, ret_bool, ret_flt, ret_slc, ret_str, ret_ptr, ret_agg, ret_tup, ob_some, bb_true, bb_false, List.getElem?_cons_zero, List.getElem?_cons_succ, List.length_cons, List.length_nil, Nat.reduceAdd, Nat.reduceLT]
  refine Evp.ff rfl ?_
  refine Evp.ob (check_ok ..) ?_
  rintro _ rfl
  simp only [ret_int, ret_bool, ret_flt, ret_slc, ret_str, ret_ptr, ret_agg, ret_tup, ob_some, bb_true, bb_false, List.getElem?_cons_zero, List.getElem?_cons_succ, List.length_cons, List.length_nil, Nat.reduceAdd, Nat.reduceLT]
  refine Evp.neb (fun _ => Evp.ret (Run.ret rfl)) fun k1 => ?_
  refine Evp.ob (check_ok ..) ?_
  rintro _ rfl
  simp only [ret_int, ret_bool, ret_flt, ret_slc, ret_str, ret_ptr, ret_agg, ret_tup, ob_some, bb_true, bb_false, List.getElem?_cons_zero, List.getElem?_cons_succ, List.length_cons, List.length_nil, Nat.reduceAdd, Nat.reduceLT]
  refine Evp.neb (fun _ => Evp.ret (Run.ret rfl)) fun k2 => ?_
  refine Evp.neb (fun _ => Evp.ret (Run.ret rfl)) fun k3 => ?_
  refine Evp.neb (fun _ => Evp.ret (Run.ret rfl)) fun k4 => ?_
  subst k3; subst k4
  have s1 := checkS_len' k1
  have s2 := checkS_len' k2
  obtain ⟨w, rfl⟩ := Int.eq_ofNat_of_zero_le (a := w) (by omega)
  obtain ⟨h, rfl⟩ := Int.eq_ofNat_of_zero_le (a := h) (by omega)
  have hw : 1 ≤ w ∧ w ≤ 512 := by omega
  have hh : 1 ≤ h ∧ h ≤ 512 := by omega
  have n1 : xs.length = h * w := by have := s1.2.2.2.2; rw [← Int.natCast_mul, Nat.mul_comm] at this; omega
  have n2 : bs.length = h * w := by have := s2.2.2.2.2; rw [← Int.natCast_mul, Nat.mul_comm] at this; omega
  obtain ⟨_, a1, a2⟩ := wide_eq (n := w) (side := 32) (.inr rfl) (by omega)
  obtain ⟨_, b1, b2⟩ := wide_eq (n := h) (side := 32) (.inr rfl) (by omega)
  have pos : 1 * 1 ≤ wideN w 32 * wideN h 32 := Nat.mul_le_mul a1 b1
  refine Evp.ob (all_ok M.length w h 32 A xs.length cap u0 M1 p1.len (.inr rfl) hw hh) ?_
  rintro _ ⟨A2, c2, M2, rfl, p2, g2⟩
  simp only [ret_int, ret_bool, ret_flt, ret_slc, ret_str, ret_ptr, ret_agg, ret_tup, ob_some, bb_true, bb_false, List.getElem?_cons_zero, List.getElem?_cons_succ, List.length_cons, List.length_nil, Nat.reduceAdd, Nat.reduceLT]
  have q2 := p1.trans p2
  refine Evp.ob (all_ok M.length w h 32 A xs.length cap u0 M2 q2.len (.inr rfl) hw hh) ?_
  rintro _ ⟨A3, c3, M3, rfl, p3, g3⟩
  simp only [ret_int, ret_bool, ret_flt, ret_slc, ret_str, ret_ptr, ret_agg, ret_tup, ob_some, bb_true, bb_false, List.getElem?_cons_zero, List.getElem?_cons_succ, List.length_cons, List.length_nil, Nat.reduceAdd, Nat.reduceLT]
  have q3 := q2.trans p3
  obtain ⟨x2, rfl, d2⟩ := g2.buf (by omega)
  obtain ⟨x3, rfl, d3⟩ := g3.buf (by omega)
  have hne : x2.block ≠ x3.block := by
    have := d3.new
    obtain ⟨_, _, _, hb2, _⟩ := d2
    have := (List.getElem?_eq_some_iff.1 hb2).1
    omega
  have e2 := (d2.pre p3).floor (Nat.le_refl _)
  exact Evp.ret (squares_loop w h A B AT AW cap capb ct cw nt xs bs ts ws x2 x3 c2 c3 M1 _ hw hh rfl (hx.pre p1) (hb.pre p1) bx bb hc hc' n1 n2 (hT.pre p1) hTt (hW.pre p1) hne (by omega) (by omega) M.length p1.len _ 0 _ _ M3 rfl (Nat.zero_le _) (Two.start _) (p2.trans p3) e2 (d3.floor p2.len))
end Go.Zt
