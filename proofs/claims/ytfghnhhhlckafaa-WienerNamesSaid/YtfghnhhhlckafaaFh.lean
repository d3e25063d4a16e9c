/- The program's Plane answers as the spec says; that it works at all; the first laws. -/
import Derived.Test.YtfghnhhhlckafaaFg
import Derived.Test.YtfghnhhhlckafaaArg
set_option linter.unusedVariables false
set_option linter.unusedSimpArgs false
set_option maxRecDepth 100000
namespace Go.Zt
section
variable (lo : Nat) (AU A B : Option Addr) (cu cap capb : Nat) (us : List Un) (xs bs : List Int) (w h w' h' side : Int) (M0 : Mem)
variable (hlo : lo ≤ M0.length) (hU : RdU M0 AU us) (hwf : ∀ u ∈ us, u.wf) (hul : us.length ≤ 140737488351232) (hx : RdI M0 .u8 A xs) (hb : RdI M0 .u8 B bs) (bx : Bytes xs) (bb' : Bytes bs) (hcap : xs.length ≤ cap) (hcapb : bs.length ≤ capb)
include hlo hU hwf hul hx hb bx bb' hcap hcapb
theorem plane_ok : Ac P T lo F.wiener_Plane [.agg ⟨[.int .i64 w, .int .i64 h, .slice A xs.length cap]⟩, .agg ⟨[.int .i64 w', .int .i64 h', .slice B bs.length capb]⟩, .slice AU us.length cu, .int .i64 side] M0 (PlaneR M0 us w h w' h' side xs bs) := by
  have bad : ¬ PlaneOk us w h xs.length w' h' bs.length side → Run P T lo F.wiener_Plane (.ret (.tuple ⟨[.agg ⟨[.int .i64 0, .int .i64 0, .slice none 0 0]⟩, .int .i64 2]⟩) M0) (PlaneR M0 us w h w' h' side xs bs) := fun hno => Run.ret ⟨Pre.refl _, by rw [if_neg hno]⟩
  refine Ac.of (Evp.of_eq (fun k => wiener_Plane.entry k ..) ?_)
  refine Evp.ob (check_ok ..) ?_
  rintro _ rfl
  simp only [ret_int, ret_bool, ret_flt, ret_slc, ret_str, ret_ptr, ret_agg, ret_tup, ob_some, bb_true, bb_false, List.getElem?_cons_zero, List.getElem?_cons_succ, List.length_cons, List.length_nil, Nat.reduceAdd, Nat.reduceLT]
  refine Evp.neb (fun g => Evp.ret (bad fun e => g e.1)) fun k1 => ?_
  refine Evp.ob (check_ok ..) ?_
  rintro _ rfl
  simp only [ret_int, ret_bool, ret_flt, ret_slc, ret_str, ret_ptr, ret_agg, ret_tup, ob_some, bb_true, bb_false, List.getElem?_cons_zero, List.getElem?_cons_succ, List.length_cons, List.length_nil, Nat.reduceAdd, Nat.reduceLT]
  refine Evp.neb (fun g => Evp.ret (bad fun e => g e.2.1)) fun k2 => ?_
  refine Evp.neb (fun g => Evp.ret (bad fun e => g e.2.2.1)) fun k3 => ?_
  refine Evp.neb (fun g => Evp.ret (bad fun e => g e.2.2.2.1)) fun k4 => ?_
  subst k3; subst k4
  have s1 := checkS_len' k1
  have s2 := checkS_len' k2
  obtain ⟨w, rfl⟩ := Int.eq_ofNat_of_zero_le (a := w) (by omega)
  obtain ⟨h, rfl⟩ := Int.eq_ofNat_of_zero_le (a := h) (by omega)
  have n1 : xs.length = h * w := by have := s1.2.2.2.2; rw [← Int.natCast_mul, Nat.mul_comm] at this; omega
  have n2 : bs.length = h * w := by have := s2.2.2.2.2; rw [← Int.natCast_mul, Nat.mul_comm] at this; omega
  have sm2 : h * w ≤ 512 * 512 := Nat.mul_le_mul (by omega) (by omega)
  have hpos : 1 * 1 ≤ h * w := Nat.mul_le_mul (by omega) (by omega)
  have rest : ∀ sd : Nat, SideP sd → side = (sd : Int) → Evp (fun k => pb (side = 0) none (pb (side = 0) none (bb ((us.length : Int) != IntKind.i64.wrap ((IntKind.i64.wrap (Int.tdiv (IntKind.i64.wrap ((IntKind.i64.wrap ((w : Int) + side)) - 1)) side)) * (IntKind.i64.wrap (Int.tdiv (IntKind.i64.wrap ((IntKind.i64.wrap ((h : Int) + side)) - 1)) side))))
      (some (.ret (.tuple ⟨[.agg ⟨[.int .i64 0, .int .i64 0, .slice none 0 0]⟩, .int .i64 2]⟩) M0))
      (ob (acall P T k lo F.slices_ContainsFunc__api_Unit_api_Unit [.slice AU us.length cu, .func (.func F.wiener_Plane_1) ⟨[]⟩ ⟨[]⟩] M0) fun r24 => ob ((some r24.1).bind Value.bool?) fun b25 => bb b25
        (some (.ret (.tuple ⟨[.agg ⟨[.int .i64 0, .int .i64 0, .slice none 0 0]⟩, .int .i64 2]⟩) r24.2))
        (ob (acall P T k r24.2.length F.slices_Clone__uint8_uint8 [.slice A xs.length cap] r24.2) fun r26 => ob ((some r26.1).bind Value.slc?) fun s27 => pb (0 ≤ side ∧ room side.toNat 8)
          (some (wiener_Plane.c7156 AU us.length cu side (IntKind.i64.wrap (Int.tdiv (IntKind.i64.wrap ((IntKind.i64.wrap ((w : Int) + side)) - 1)) side)) (some ⟨r26.2.length, 0, none⟩) side.toNat side.toNat h 0 w h A xs.length cap w h B bs.length capb 0 0 none 0 0 w h s27.a s27.n s27.c (r26.2 ++ [⟨.fx, zerosL [.int .i64 0] side.toNat⟩] : Mem))) none))))) fun out => Run P T lo F.wiener_Plane out (PlaneR M0 us w h w h side xs bs) := by
    rintro sd hs rfl
    have hs' : sd = 64 ∨ sd = 32 := hs
    obtain ⟨e1, a1, a2⟩ := wide_eq (n := w) hs (by omega)
    obtain ⟨e2, b1, b2⟩ := wide_eq (n := h) hs (by omega)
    have sm : wideN w sd * wideN h sd ≤ 16 * 16 := Nat.mul_le_mul a2 b2
    refine Evp.neg (by omega) (Evp.neg (by omega) ?_)
    rw [e1, e2, ← Int.natCast_mul, w64 (x := ((wideN w sd * wideN h sd : Nat) : Int)) (by omega)]
    refine Evp.neb (fun g => Evp.ret (bad fun e => ?_)) fun hl => ?_
    · have := e.2.2.2.2.2.1
      simp only [Int.toNat_natCast] at this
      exact g (by rw [this])
    have hl : us.length = wideN w sd * wideN h sd := by omega
    refine Evp.ob (containsU_ok lo AU cu us M0 hU hwf hul) ?_
    rintro _ ⟨b, rfl, hb'⟩
    simp only [ret_int, ret_bool, ret_flt, ret_slc, ret_str, ret_ptr, ret_agg, ret_tup, ob_some, bb_true, bb_false, List.getElem?_cons_zero, List.getElem?_cons_succ, List.length_cons, List.length_nil, Nat.reduceAdd, Nat.reduceLT]
    refine Evp.bb (fun g => Evp.ret (bad fun e => ?_)) fun g => ?_
    · obtain ⟨u, hu, hn⟩ := hb'.1 g
      exact hn (e.2.2.2.2.2.2 u hu)
    have hall : ∀ u ∈ us, UnitP u := fun u hu => by
      by_cases hp : UnitP u
      · exact hp
      · rw [hb'.2 ⟨u, hu, hp⟩] at g; cases g
    have ok : PlaneOk us w h xs.length w h bs.length sd := ⟨k1, k2, rfl, rfl, by omega, by simp only [Int.toNat_natCast]; exact hl, hall⟩
    refine Evp.ob (clone_ok M0.length A cap xs M0 hx (by omega) (by omega) (Nat.le_refl _)) ?_
    rintro _ ⟨ao, co, M1, rfl, p1, hco, hbuf⟩
    simp only [ret_int, ret_bool, ret_flt, ret_slc, ret_str, ret_ptr, ret_agg, ret_tup, ob_some, bb_true, bb_false, List.getElem?_cons_zero, List.getElem?_cons_succ, List.length_cons, List.length_nil, Nat.reduceAdd, Nat.reduceLT]
    refine Evp.pos ⟨by omega, by show _ * 8 ≤ _; omega⟩ ?_
    simp only [Int.toNat_natCast]
    have p2 := Pre.app M1 [⟨.fx, zerosL [.int .i64 0] sd⟩]
    have hin : ao.block < M1.length := by
      obtain ⟨_, _, _, hb2, _⟩ := hbuf
      exact (List.getElem?_eq_some_iff.1 hb2).1
    have hw' : 1 ≤ w ∧ w ≤ 512 := by omega
    have hh' : 1 ≤ h ∧ h ≤ 512 := by omega
    have o : Wok ⟨AU, A, B, cu, cap, capb, us, xs, bs, w, h, sd, ⟨M1.length, 0, none⟩, ao, co⟩ lo M0 := ⟨hlo, hU, hx, hb, bx, bb', hw', hh', n1, n2, hs, hl, hcap, hcapb, hco, fun e => by
      have e : ao.block = M1.length := e
      omega⟩
    refine Evp.ret (row_loop o (fun zs M hp hbf hi => ⟨hp, ?_⟩) h 0 xs (List.replicate sd 0) _ rfl (by omega) ⟨p1.trans p2, hbuf.pre p2, by rw [zerosL_one, List.map_replicate]; exact Buf.push p1, by simp⟩ (by rw [Nat.zero_mul]; exact InvW.start n1))
    rw [if_pos ok]
    refine ⟨ao, co, rfl, hco, ?_⟩
    simp only [Int.toNat_natCast]
    rw [← hi.full (Nat.le_refl _)]; exact hbf
  refine Evp.neb (fun g1 => ?_) fun g1 => rest 64 (.inl rfl) g1
  refine Evp.neb (fun g2 => Evp.ret (bad fun e => ?_)) fun g2 => rest 32 (.inr rfl) g2
  rcases e.2.2.2.2.1 with e | e
  · exact g1 e
  · exact g2 e
end
theorem PlaneR.got {M M' : Mem} {us : List Un} {w h w' h' side : Int} {xs bs : List Int} {v : Value} (hr : PlaneR M us w h w' h' side xs bs (v, M')) (hk : PlaneOk us w h xs.length w' h' bs.length side) :
    ∃ a cc, v = .tuple ⟨[.agg ⟨[.int .i64 w, .int .i64 h, .slice (some a) xs.length cc]⟩, .int .i64 0]⟩ ∧ Pre M M' ∧ xs.length ≤ cc ∧ Buf M M' a ((outW us xs bs w.toNat h.toNat side.toNat).map (Value.int .u8)) := by
  obtain ⟨p, h⟩ := hr
  rw [if_pos hk] at h
  obtain ⟨a, cc, e, h1, h2⟩ := h
  exact ⟨a, cc, e, p, h1, h2⟩
theorem PlaneR.not {M M' : Mem} {us : List Un} {w h w' h' side : Int} {xs bs : List Int} {v : Value} (hr : PlaneR M us w h w' h' side xs bs (v, M')) (hk : ¬ PlaneOk us w h xs.length w' h' bs.length side) :
    v = .tuple ⟨[.agg ⟨[.int .i64 0, .int .i64 0, .slice none 0 0]⟩, .int .i64 2]⟩ ∧ Pre M M' := by
  obtain ⟨p, h⟩ := hr
  rw [if_neg hk] at h
  exact ⟨h, p⟩
/-! ### That it works at all -/
abbrev usualL : List Int := [0, 0, 0, 128, 0, 0, 0]
abbrev uAw : Un := ⟨true, ⟨0, 0, 0⟩, ⟨1, -2, 3⟩⟩
theorem byl {l : List Int} (h : l.all (fun x => decide (0 ≤ x) && decide (x ≤ 255)) = true) : Bytes l := fun x hx => by
  have := List.all_eq_true.1 h x hx
  simpa using this
theorem usual_ok (lo : Nat) (M : Mem) : Ac P T lo F.zoetropelaw24_usual [] M fun r => r = (.agg ⟨[.int .i64 7, .int .i64 1, .slice (some ⟨M.length, 0, none⟩) 7 7]⟩, M ++ [⟨.fx, usualL.map (Value.int .u8)⟩]) := by
  refine Ac.of (Evp.of_eq (fun k => zoetropelaw24_usual.entry k ..) ?_)
  exact Evp.ret (Run.ret rfl)
theorem awake_out : outW [uAw] usualL usualL 7 1 64 = [1, 0, 3, 124, 3, 0, 1] := by
  have hs : sevL ⟨1, -2, 3⟩ = [1, -2, 3, 124, 3, -2, 1] := by decide +kernel
  have h0 : sevL ⟨0, 0, 0⟩ = [0, 0, 0, 128, 0, 0, 0] := by decide +kernel
  have e : ∀ x, x < 7 → tgtW [uAw] usualL usualL 7 1 64 x = sampW [0, 0, 0, 128, 0, 0, 0] [1, -2, 3, 124, 3, -2, 1] usualL usualL 7 1 64 0 x := fun x hx => by
    have e1 : x / 7 = 0 := by omega
    have e2 : x % 7 = x := by omega
    unfold tgtW
    rw [e1, e2, show 0 / 64 * wideN 7 64 + x / 64 = 0 by omega]
    show (if true = true then sampU uAw usualL usualL 7 1 64 0 x else _) = _
    rw [if_pos rfl]
    unfold sampU
    rw [hs, h0]
  unfold outW
  rw [show List.range (1 * 7) = [0, 1, 2, 3, 4, 5, 6] from rfl]
  simp only [List.map_cons, List.map_nil]
  rw [e 0 (by omega), e 1 (by omega), e 2 (by omega), e 3 (by omega), e 4 (by omega), e 5 (by omega), e 6 (by omega)]
  decide +kernel
theorem awake_ok (lo : Nat) (M : Mem) (hlo : lo ≤ M.length) : Ac P T lo F.zoetropelaw24_awake [] M fun r => ∃ M', r = (.bool true, M') ∧ Pre M M' := by
  refine Ac.of (Evp.of_eq (fun k => zoetropelaw24_awake.entry k ..) ?_)
  refine Evp.ob (usual_ok ..) ?_
  rintro _ rfl
  simp only [ret_int, ret_bool, ret_flt, ret_slc, ret_str, ret_ptr, ret_agg, ret_tup, ob_some, bb_true, bb_false, List.getElem?_cons_zero, List.getElem?_cons_succ, List.length_cons, List.length_nil, Nat.reduceAdd, Nat.reduceLT]
  refine Evp.ob (usual_ok ..) ?_
  rintro _ rfl
  simp only [ret_int, ret_bool, ret_flt, ret_slc, ret_str, ret_ptr, ret_agg, ret_tup, ob_some, bb_true, bb_false, List.getElem?_cons_zero, List.getElem?_cons_succ, List.length_cons, List.length_nil, Nat.reduceAdd, Nat.reduceLT]
  have p1 := Pre.app M [⟨.fx, usualL.map (Value.int .u8)⟩]
  have p2 := Pre.app (M ++ [⟨.fx, usualL.map (Value.int .u8)⟩]) [⟨.fx, usualL.map (Value.int .u8)⟩]
  have q2 := p1.trans p2
  have r1 : RdI (M ++ [⟨.fx, usualL.map (Value.int .u8)⟩] : Mem) .u8 (some ⟨M.length, 0, none⟩) usualL := RdI.lit usualL
  have r2 := RdI.lit (M := (M ++ [⟨.fx, usualL.map (Value.int .u8)⟩] : Mem)) (k := .u8) usualL
  generalize hM2 : ((M ++ [⟨.fx, usualL.map (Value.int .u8)⟩]) ++ [⟨.fx, usualL.map (Value.int .u8)⟩] : Mem) = M2 at *
  have p3 := Pre.app M2 [⟨.fx, uAw.cells⟩]
  have rU : RdU (M2 ++ [⟨.fx, uAw.cells⟩] : Mem) (some ⟨M2.length, 0, none⟩) [uAw] := Rd.lit (by rfl)
  have q3 := q2.trans p3
  have wf : ∀ u ∈ [uAw], u.wf := fun u hu => by
    obtain rfl := List.mem_singleton.1 hu
    unfold Un.wf wfI
    decide
  refine Evp.ob (plane_ok lo _ _ _ 1 7 7 [uAw] usualL usualL 7 1 7 1 64 _ (Nat.le_trans hlo q3.len) rU wf (by decide) ((r1.pre p2).pre p3) (r2.pre p3) (byl rfl) (byl rfl) (by decide) (by decide)) ?_
  rintro ⟨v, M4⟩ h4
  have ok : PlaneOk [uAw] 7 1 (usualL.length : Nat) 7 1 (usualL.length : Nat) 64 := ⟨by decide, by decide, rfl, rfl, .inl rfl, by decide, fun u hu => by
    obtain rfl := List.mem_singleton.1 hu
    left
    decide⟩
  obtain ⟨a, cc, rfl, p4, _, b4⟩ := h4.got ok
  rw [show outW [uAw] usualL usualL (7 : Int).toNat (1 : Int).toNat (64 : Int).toNat = [1, 0, 3, 124, 3, 0, 1] from awake_out] at b4
  simp only [ret_int, ret_bool, ret_flt, ret_slc, ret_str, ret_ptr, ret_agg, ret_tup, ob_some, bb_true, bb_false, List.getElem?_cons_zero, List.getElem?_cons_succ, List.length_cons, List.length_nil, Nat.reduceAdd, Nat.reduceLT]
  refine Evp.ob (seven_ok lo ⟨1, -2, 3⟩ M4) ?_
  rintro _ ⟨v0, v1, v2, v3, v4, v5, v6, rfl, ev⟩
  rw [if_pos (by decide)]
  simp only [ret_int, ret_bool, ret_flt, ret_slc, ret_str, ret_ptr, ret_agg, ret_tup, ob_some, bb_true, bb_false, List.getElem?_cons_zero, List.getElem?_cons_succ, List.length_cons, List.length_nil, Nat.reduceAdd, Nat.reduceLT]
  refine Evp.tt rfl (Evp.tt rfl ?_)
  have p5 := Pre.app M4 [⟨.fx, ([1, 0, 3, 124, 3, 0, 1] : List Int).map (Value.int .u8)⟩]
  refine Evp.ob (eqBytes_ok _ _ _ _ _ [1, 0, 3, 124, 3, 0, 1] _ _ (b4.rdI.pre p5) (RdI.lit (k := .u8) [1, 0, 3, 124, 3, 0, 1]) (by decide)) ?_
  rintro _ rfl
  simp only [ret_int, ret_bool, ret_flt, ret_slc, ret_str, ret_ptr, ret_agg, ret_tup, ob_some, bb_true, bb_false, List.getElem?_cons_zero, List.getElem?_cons_succ, List.length_cons, List.length_nil, Nat.reduceAdd, Nat.reduceLT]
  refine Evp.tt rfl ?_
  have es : sevL ⟨1, -2, 3⟩ = [1, -2, 3, 124, 3, -2, 1] := by decide +kernel
  rw [es] at ev
  injection ev with e0 ev; injection ev with e1 ev; injection ev with e2 ev; injection ev with e3 ev; injection ev with e4 ev; injection ev with e5 ev; injection ev with e6 ev
  subst e0; subst e1; subst e2; subst e3; subst e4; subst e5; subst e6
  have kk := key7 (l := [1, -2, 3, 124, 3, -2, 1]) rfl (by intro x hx; simp at hx; omega)
  refine Evp.some kk (Evp.some kk ?_)
  refine Evp.ret (Run.ret ⟨_, ?_, (q3.trans p4).trans p5⟩)
  rw [(sameLits_eq _ _).2 rfl]
theorem WienerTaps_law (M : Mem) (vs : List Value) (hro : AllRo M) (hv : LaysArgs P M [25] vs) : Ac P T M.length F.zoetropelaw24_WienerTaps vs M fun r => r.1 = .bool true := by
  obtain ⟨b, a1, a2, a3, a4, a5, a6, rfl, w1, w2, w3, w4, w5, w6⟩ := Arg.WienerTaps hv
  have wu : (⟨b, ⟨a1, a2, a3⟩, ⟨a4, a5, a6⟩⟩ : Un).wf := ⟨w1, w2, w3, w4, w5, w6⟩
  have k7 : ∀ t : Tp, ∀ {x0 x1 x2 x3 x4 x5 x6 : Int}, sevL t = [x0, x1, x2, x3, x4, x5, x6] → P.keyLits 9 26 [.int .i64 x0, .int .i64 x1, .int .i64 x2, .int .i64 x3, .int .i64 x4, .int .i64 x5, .int .i64 x6] = some ((sevL t).map (Lit.int .i64)) := fun t {x0 x1 x2 x3 x4 x5 x6} e => by
    have := key7 (l := sevL t) (sevL_len t) fun x hx => by have := sevL_le t x hx; omega
    rw [e] at this ⊢
    exact this
  refine Ac.of (Evp.of_eq (fun k => zoetropelaw24_WienerTaps.entry k ..) ?_)
  refine Evp.ob (seven_ok _ ⟨a1, a2, a3⟩ M) ?_
  rintro _ ⟨v0, v1, v2, v3, v4, v5, v6, rfl, ev⟩
  simp only [ret_int, ret_bool, ret_flt, ret_slc, ret_str, ret_ptr, ret_agg, ret_tup, ob_some, bb_true, bb_false, List.getElem?_cons_zero, List.getElem?_cons_succ, List.length_cons, List.length_nil, Nat.reduceAdd, Nat.reduceLT]
  refine Evp.ob (rseven_ok _ ⟨a1, a2, a3⟩ M) ?_
  rintro _ ⟨u0, u1, u2, u3, u4, u5, u6, rfl, eu⟩
  simp only [ret_int, ret_bool, ret_flt, ret_slc, ret_str, ret_ptr, ret_agg, ret_tup, ob_some, bb_true, bb_false, List.getElem?_cons_zero, List.getElem?_cons_succ, List.length_cons, List.length_nil, Nat.reduceAdd, Nat.reduceLT]
  refine Evp.ob (seven_ok _ ⟨a4, a5, a6⟩ M) ?_
  rintro _ ⟨r0, r1, r2, r3, r4, r5, r6, rfl, er⟩
  simp only [ret_int, ret_bool, ret_flt, ret_slc, ret_str, ret_ptr, ret_agg, ret_tup, ob_some, bb_true, bb_false, List.getElem?_cons_zero, List.getElem?_cons_succ, List.length_cons, List.length_nil, Nat.reduceAdd, Nat.reduceLT]
  refine Evp.ob (rseven_ok _ ⟨a4, a5, a6⟩ M) ?_
  rintro _ ⟨s0, s1, s2, s3, s4, s5, s6, rfl, es⟩
  simp only [ret_int, ret_bool, ret_flt, ret_slc, ret_str, ret_ptr, ret_agg, ret_tup, ob_some, bb_true, bb_false, List.getElem?_cons_zero, List.getElem?_cons_succ, List.length_cons, List.length_nil, Nat.reduceAdd, Nat.reduceLT]
  refine Evp.ob (wcheck_ok _ ⟨b, ⟨a1, a2, a3⟩, ⟨a4, a5, a6⟩⟩ M wu) ?_
  rintro _ rfl
  simp only [ret_int, ret_bool, ret_flt, ret_slc, ret_str, ret_ptr, ret_agg, ret_tup, ob_some, bb_true, bb_false, List.getElem?_cons_zero, List.getElem?_cons_succ, List.length_cons, List.length_nil, Nat.reduceAdd, Nat.reduceLT]
  refine Evp.ob (rcheckU_ok _ ⟨b, ⟨a1, a2, a3⟩, ⟨a4, a5, a6⟩⟩ M wu) ?_
  rintro _ rfl
  simp only [ret_int, ret_bool, ret_flt, ret_slc, ret_str, ret_ptr, ret_agg, ret_tup, ob_some, bb_true, bb_false, List.getElem?_cons_zero, List.getElem?_cons_succ, List.length_cons, List.length_nil, Nat.reduceAdd, Nat.reduceLT]
  refine Evp.tt (by simp) ?_
  refine Evp.some (k7 _ ev) (Evp.some (k7 _ eu) ?_)
  refine Evp.tt ((sameLits_eq _ _).2 rfl) (Evp.tt (by simp) ?_)
  refine Evp.some (k7 _ er) (Evp.some (k7 _ es) ?_)
  refine Evp.tt ((sameLits_eq _ _).2 rfl) (Evp.tt (by simp) ?_)
  refine Evp.ob (awake_ok M.length M (Nat.le_refl _)) ?_
  rintro _ ⟨M2, rfl, _⟩
  simp only [ret_int, ret_bool, ret_flt, ret_slc, ret_str, ret_ptr, ret_agg, ret_tup, ob_some, bb_true, bb_false, List.getElem?_cons_zero, List.getElem?_cons_succ, List.length_cons, List.length_nil, Nat.reduceAdd, Nat.reduceLT]
  exact Evp.ret (Run.ret rfl)
end Go.Zt
