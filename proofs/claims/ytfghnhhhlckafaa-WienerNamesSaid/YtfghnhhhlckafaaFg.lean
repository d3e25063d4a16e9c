/- The program's Plane, whole. -/
import Derived.Test.YtfghnhhhlckafaaFf
set_option linter.unusedVariables false
set_option linter.unusedSimpArgs false
set_option maxRecDepth 100000
namespace Go.Zt
theorem zerosL_one (v : Value) (n : Nat) : zerosL [v] n = List.replicate n v := by
  unfold zerosL
  induction n with
  | zero => rfl
  | succ n ih => rw [List.replicate_succ, List.flatten_cons, ih]; rfl
theorem stripe_ok (lo : Nat) (side y : Nat) (M : Mem) (hs : SideP side) (hy : y ≤ 1024) : Ac P T lo F.wiener_stripeOf [.int .i64 (y : Nat), .int .i64 (side : Nat)] M fun r => r = (.agg ⟨[.int .i64 (fstS side y), .int .i64 (fstS side y + side)]⟩, M) := by
  obtain ⟨s1, s2⟩ := side_eq hs y hy
  have hs' : side = 64 ∨ side = 32 := hs
  refine Ac.of (Evp.of_eq (fun k => wiener_stripeOf.entry k ..) ?_)
  refine Evp.neg (by omega) ?_
  rw [s1, s2]
  exact Evp.ret (Run.ret rfl)
def colN (w side k : Nat) : Nat := min (k * side) w
theorem tgt_unit {us : List Un} {xs bs : List Int} {w h side y k x : Nat} (hs : SideP side) (h1 : k * side ≤ x) (h2 : x < (k + 1) * side) (hx : x < w) : tgtW us xs bs w h side (y * w + x) = if (us.getD (y / side * wideN w side + k) u0).on = true then sampU (us.getD (y / side * wideN w side + k) u0) xs bs w h side y x else xs.getD (y * w + x) 0 := by
  have : x / side = k := by rcases hs with rfl | rfl <;> omega
  rw [tgt_at hx, this]
section
variable {c : Wc} {lo : Nat} {M0 : Mem} (o : Wok c lo M0) {Q : Value × Mem → Prop}
include o
theorem tap_loop (y k f t : Nat) (hy : y < c.h) (hft : f ≤ t) (ht2 : t - f ≤ c.side) (htw : t ≤ c.w) (v0 v1 v2 v3 v4 v5 v6 h0 h1 h2 h3 h4 h5 h6 : Int) (tv : TsB [v0, v1, v2, v3, v4, v5, v6]) (th : TsB [h0, h1, h2, h3, h4, h5, h6]) (zs : List Int)
    (hnext : ∀ rs M, St2 c M0 M zs rs → (∀ j, j < t - f → rs.getD j 0 = vacc [v0, v1, v2, v3, v4, v5, v6] [h0, h1, h2, h3, h4, h5, h6] c.xs c.bs c.w c.h c.side y (f + j) 7) → Run P T lo F.wiener_Plane (cPut c y k f t 0 M) Q) :
    ∀ (q i : Nat) (rs : List Int) (M : Mem), 7 - i = q → i ≤ 7 → St2 c M0 M zs rs → (∀ j, j < t - f → rs.getD j 0 = vacc [v0, v1, v2, v3, v4, v5, v6] [h0, h1, h2, h3, h4, h5, h6] c.xs c.bs c.w c.h c.side y (f + j) i) →
      Run P T lo F.wiener_Plane (cTap c y k f t v0 v1 v2 v3 v4 v5 v6 h0 h1 h2 h3 h4 h5 h6 i M) Q := by
  have hs' : c.side = 64 ∨ c.side = 32 := o.hs
  have hw2 := o.hw.2; have hh2 := o.hh.2
  intro q
  induction q with
  | zero =>
    intro i rs M hq hi st hr
    obtain rfl : i = 7 := by omega
    refine Run.cut (Evp.of_eq (fun k => wiener_Plane.p240142569460 k ..) ?_)
    refine Evp.ff rfl ?_
    exact Evp.ret (hnext rs M st hr)
  | succ q ih =>
    intro i rs M hq hi st hr
    have fl := fst_le (y := y) o.hs
    obtain ⟨r1, r2⟩ := row_le (h := c.h) o.hs hy (i := i) (by omega)
    have lM : lo ≤ M.length := Nat.le_trans o.hlo st.pre.len
    have body : ∀ (A : Option Addr) (cap : Nat) (ps : List Int), RdI M0 .u8 A ps → Bytes ps → ps.length = c.h * c.w → ps.length ≤ cap → (∀ x, tapR [h0, h1, h2, h3, h4, h5, h6] c.xs c.bs c.w c.h c.side y x i = acS [h0, h1, h2, h3, h4, h5, h6] ps c.w (rowN c.h c.side y i) x) →
        Run P T lo F.wiener_Plane (wiener_Plane.c30738248890983 c.AU c.us.length c.cu c.side (c.wide : Nat) (some c.ar) c.side c.side y f t (some c.ar) (t - f) c.side (([v0, v1, v2, v3, v4, v5, v6] : List Int).getD i 0) (rowN c.h c.side y i : Nat) c.h y (c.wide : Nat) k v0 v1 v2 v3 v4 v5 v6 i c.w c.h c.A c.xs.length c.cap c.w c.h c.B c.bs.length c.capb 0 0 none 0 0 c.w c.h (some c.ao) c.xs.length c.co (fstS c.side y) (fstS c.side y + c.side) h0 h1 h2 h3 h4 h5 h6 c.w c.h A ps.length cap M) Q := fun A cap ps hA bp hpl hpc ht => by
      refine Run.cut (Evp.of_eq (fun k => wiener_Plane.p30738248890983 k ..) ?_)
      refine Evp.ob (across_ok lo A cap ps c.w c.h (rowN c.h c.side y i) h0 h1 h2 h3 h4 h5 h6 M lM (hA.pre st.pre) bp o.hw hh2 hpl r2 th hpc f t hft (by omega)) ?_
      rintro _ ⟨S, cs, M2, rfl, p2, hS, hSn⟩
      simp only [ret_int, ret_bool, ret_flt, ret_slc, ret_str, ret_ptr, ret_agg, ret_tup, ob_some, bb_true, bb_false, List.getElem?_cons_zero, List.getElem?_cons_succ, List.length_cons, List.length_nil, Nat.reduceAdd, Nat.reduceLT]
      have la : (acL [h0, h1, h2, h3, h4, h5, h6] ps c.w (rowN c.h c.side y i) f (t - f)).length = t - f := by simp [acL]
      have ga : ∀ j, j < t - f → (acL [h0, h1, h2, h3, h4, h5, h6] ps c.w (rowN c.h c.side y i) f (t - f)).getD j 0 = tapR [h0, h1, h2, h3, h4, h5, h6] c.xs c.bs c.w c.h c.side y (f + j) i := fun j hj => by
        rw [ht]; unfold acL; exact getD_map_range hj
      have hin : c.ar.block < M.length := by
        obtain ⟨_, _, _, hb, _⟩ := st.room
        exact (List.getElem?_eq_some_iff.1 hb).1
      refine Evp.ret (add_loop o y k f t ht2 (([v0, v1, v2, v3, v4, v5, v6] : List Int).getD i 0) v0 v1 v2 v3 v4 v5 v6 h0 h1 h2 h3 h4 h5 h6 i S cs _ la zs (fun j => vacc [v0, v1, v2, v3, v4, v5, v6] [h0, h1, h2, h3, h4, h5, h6] c.xs c.bs c.w c.h c.side y (f + j) i)
        (fun j hj => ?_) (fun rs M st hr => ih (i + 1) rs M (by omega) (by omega) st fun j hj => by rw [hr j hj, ga j hj]; rfl) (by omega) M2 hS (st.pre.trans p2) (fun z hz _ e => by have := hSn z hz; omega) (t - f) 0 rs M2 (by omega) (by omega) ⟨st.pre.trans p2, st.out.pre p2, st.room.pre p2, st.len⟩ (fun p hp => by rw [hr p hp, if_neg (by omega)]) (fun b x hx _ => hx))
      rw [ga j hj]
      have b1 := vacc_le tv [h0, h1, h2, h3, h4, h5, h6] c.xs c.bs c.w c.h c.side y (f + j) i
      have b2 := vprod_le (tv.2 i) (tapR_le [h0, h1, h2, h3, h4, h5, h6] c.xs c.bs c.w c.h c.side y (f + j) i)
      show -100000000 ≤ vacc [v0, v1, v2, v3, v4, v5, v6] [h0, h1, h2, h3, h4, h5, h6] c.xs c.bs c.w c.h c.side y (f + j) i ∧ _
      omega
    refine Run.cut (Evp.of_eq (fun k => wiener_Plane.p240142569460 k ..) ?_)
    refine Evp.dec (fun _ => ?_) fun h => absurd h (by omega)
    refine Evp.pos (by omega) ?_
    simp only [Int.toNat_natCast, Nat.add_zero]
    refine Evp.some (seven_get i (by omega)) ?_
    rw [w64 (x := (y : Int) + i) (by omega), w64 (x := (y : Int) + i - 3) (by omega), w64 (x := (c.h : Int) - 1) (by omega), w64 (x := fstS c.side y - 2) (by omega), w64 (x := fstS c.side y + c.side + 1) (by omega), w64 (x := fstS c.side y + c.side - 1) (by omega)]
    refine Evp.ob (wclip_ok _ _ _ _ _ (by omega)) ?_
    rintro _ rfl
    simp only [ret_int, ret_bool, ret_flt, ret_slc, ret_str, ret_ptr, ret_agg, ret_tup, ob_some, bb_true, bb_false, List.getElem?_cons_zero, List.getElem?_cons_succ, List.length_cons, List.length_nil, Nat.reduceAdd, Nat.reduceLT]
    refine Evp.ob (wclip_ok _ _ _ _ _ (by omega)) ?_
    rintro _ rfl
    simp only [ret_int, ret_bool, ret_flt, ret_slc, ret_str, ret_ptr, ret_agg, ret_tup, ob_some, bb_true, bb_false, List.getElem?_cons_zero, List.getElem?_cons_succ, List.length_cons, List.length_nil, Nat.reduceAdd, Nat.reduceLT]
    rw [show clipS (clipS ((y : Int) + i - 3) 0 ((c.h : Int) - 1)) (fstS c.side y - 2) (fstS c.side y + c.side + 1) = rowI c.h c.side y i from rfl, r1]
    refine Evp.ob (wwithin_ok ..) ?_
    rintro _ rfl
    simp only [ret_int, ret_bool, ret_flt, ret_slc, ret_str, ret_ptr, ret_agg, ret_tup, ob_some, bb_true, bb_false, List.getElem?_cons_zero, List.getElem?_cons_succ, List.length_cons, List.length_nil, Nat.reduceAdd, Nat.reduceLT]
    refine Evp.nb (fun g => Evp.ret (body c.B c.capb c.bs o.hb o.bb o.hnb o.hcapb fun x => ?_)) fun g => Evp.ret (body c.A c.cap c.xs o.hx o.bx o.hn o.hcap fun x => ?_)
    · have g := of_decide_eq_false g
      unfold tapR
      rw [if_neg (fun e => g (by unfold inS at e; rw [r1] at e; omega))]
    · have g := of_decide_eq_true g
      unfold tapR
      rw [if_pos (by unfold inS; rw [r1]; omega)]
theorem unit_loop (y : Nat) (hy : y < c.h) (hnext : ∀ zs rs M, St2 c M0 M zs rs → InvW c.us c.xs c.bs c.w c.h c.side ((y + 1) * c.w) zs → Run P T lo F.wiener_Plane (cEnd c y M) Q) :
    ∀ (q k : Nat) (zs rs : List Int) (M : Mem), c.wide - k = q → k ≤ c.wide → St2 c M0 M zs rs → InvW c.us c.xs c.bs c.w c.h c.side (y * c.w + colN c.w c.side k) zs → Run P T lo F.wiener_Plane (cUnit c y k M) Q := by
  have hs' : c.side = 64 ∨ c.side = 32 := o.hs
  have hw2 := o.hw.2; have hh2 := o.hh.2; have hw1 := o.hw.1
  obtain ⟨_, wa, wb⟩ := wide_eq o.hs o.hw
  have last : colN c.w c.side c.wide = c.w := by
    unfold colN Wc.wide wideN
    rcases hs' with e | e <;> rw [e] <;> omega
  have fin : ∀ zs rs M, St2 c M0 M zs rs → InvW c.us c.xs c.bs c.w c.h c.side (y * c.w + colN c.w c.side c.wide) zs → Run P T lo F.wiener_Plane (cEnd c y M) Q := fun zs rs M st hi => hnext zs rs M st (by rw [last] at hi; rw [Nat.add_mul, Nat.one_mul]; exact hi)
  intro q
  induction q with
  | zero =>
    intro k zs rs M hq hk st hinv
    obtain rfl : k = c.wide := by omega
    refine Run.cut (Evp.of_eq (fun k => wiener_Plane.p3664284 k ..) ?_)
    refine Evp.dec (fun h => absurd h (by omega)) fun _ => ?_
    exact Evp.ret (fin zs rs M st hinv)
  | succ q ih =>
    intro k zs rs M hq hk st hinv
    have hkw : k < wideN c.w c.side := by have : c.wide = wideN c.w c.side := rfl; omega
    have hkf : k * c.side < c.w := by
      unfold wideN at hkw
      rcases hs' with e | e <;> rw [e] at hkw ⊢ <;> omega
    have next : ∀ zs rs M, St2 c M0 M zs rs → InvW c.us c.xs c.bs c.w c.h c.side (y * c.w + colN c.w c.side (k + 1)) zs → Run P T lo F.wiener_Plane (cNext c y k M) Q := fun zs rs M st hinv => by
      refine Run.cut (Evp.of_eq (fun k => wiener_Plane.p29314279 k ..) ?_)
      rw [w64 (by omega)]
      exact Evp.ret (ih (k + 1) zs rs M (by omega) (by omega) st hinv)
    have e1 : Int.tdiv (y : Int) (c.side : Int) = ((y / c.side : Nat) : Int) := rfl
    have l1 : y / c.side ≤ 512 := Nat.le_trans (Nat.div_le_self _ _) (by omega)
    have hyh := div_wide (w := c.h) o.hs hy
    have ul : y / c.side * c.wide + k < c.us.length := by
      have := row_lt (h := wideN c.h c.side) (w := wideN c.w c.side) (y := y / c.side) (c := k) hyh hkw
      show y / c.side * wideN c.w c.side + k < _
      rw [o.hul, Nat.mul_comm (wideN c.w c.side) (wideN c.h c.side)]; exact this
    have ei : IntKind.i64.wrap ((IntKind.i64.wrap ((IntKind.i64.wrap (Int.tdiv (y : Int) (c.side : Int))) * ((c.wide : Nat) : Int))) + (k : Int)) = ((y / c.side * c.wide + k : Nat) : Int) := by
      rw [e1]
      have l3 : y / c.side * c.wide ≤ 512 * 16 := Nat.mul_le_mul l1 wb
      generalize y / c.side = p at *
      rw [w64 (x := ((p : Nat) : Int)) (by omega), ← Int.natCast_mul, w64 (x := ((p * c.wide : Nat) : Int)) (by omega), w64 (by omega)]
      omega
    have k1 : (k + 1) * c.side = k * c.side + c.side := by rw [Nat.add_mul, Nat.one_mul]
    have ck : colN c.w c.side k = k * c.side := by unfold colN; omega
    have ck1 : colN c.w c.side (k + 1) = min (k * c.side + c.side) c.w := by unfold colN; rw [k1]
    have tu : ∀ x, k * c.side ≤ x → x < k * c.side + c.side → x < c.w → tgtW c.us c.xs c.bs c.w c.h c.side (y * c.w + x) = if (c.us.getD (y / c.side * c.wide + k) u0).on = true then sampU (c.us.getD (y / c.side * c.wide + k) u0) c.xs c.bs c.w c.h c.side y x else c.xs.getD (y * c.w + x) 0 := fun x x1 x2 x3 => tgt_unit o.hs x1 (by rw [k1]; exact x2) x3
    refine Run.cut (Evp.of_eq (fun k => wiener_Plane.p3664284 k ..) ?_)
    refine Evp.dec (fun _ => ?_) fun h => absurd h (by have : c.wide = wideN c.w c.side := rfl; omega)
    refine Evp.neg (by omega) ?_
    rw [ei]
    refine Evp.pos (pos_iN ul) ?_
    simp only [Int.toNat_natCast]
    refine Evp.ldU (o.hU.pre st.pre) ul fun _ _ => ?_
    refine Evp.nb (fun hoff => ?_) fun hon => ?_
    · have inv2 : InvW c.us c.xs c.bs c.w c.h c.side (y * c.w + colN c.w c.side (k + 1)) zs := hinv.skip (by rw [ck, ck1]; omega) fun p g1 g2 g3 => by
        rw [ck] at g1
        rw [ck1] at g2
        obtain ⟨x, rfl⟩ : ∃ x, p = y * c.w + x := ⟨p - y * c.w, by omega⟩
        rw [tu x (by omega) (by omega) (by omega), if_neg (by rw [hoff]; simp)]
      refine Evp.eqb (fun e => Evp.ret (fin zs rs M st ?_)) fun _ => Evp.ret (next zs rs M st inv2)
      have hcw : c.wide = wideN c.w c.side := rfl
      rw [w64 (by omega)] at e
      have : k + 1 = c.wide := by omega
      rw [← this]; exact inv2
    · refine Evp.ob (seven_ok lo (c.us.getD (y / c.side * c.wide + k) u0).v M) ?_
      rintro _ ⟨v0, v1, v2, v3, v4, v5, v6, rfl, ev⟩
      simp only [ret_int, ret_bool, ret_flt, ret_slc, ret_str, ret_ptr, ret_agg, ret_tup, ob_some, bb_true, bb_false, List.getElem?_cons_zero, List.getElem?_cons_succ, List.length_cons, List.length_nil, Nat.reduceAdd, Nat.reduceLT]
      refine Evp.ob (seven_ok lo (c.us.getD (y / c.side * c.wide + k) u0).h M) ?_
      rintro _ ⟨h0, h1, h2, h3, h4, h5, h6, rfl, eh⟩
      simp only [ret_int, ret_bool, ret_flt, ret_slc, ret_str, ret_ptr, ret_agg, ret_tup, ob_some, bb_true, bb_false, List.getElem?_cons_zero, List.getElem?_cons_succ, List.length_cons, List.length_nil, Nat.reduceAdd, Nat.reduceLT]
      have tv := sev_TsB (c.us.getD (y / c.side * c.wide + k) u0).v
      have th := sev_TsB (c.us.getD (y / c.side * c.wide + k) u0).h
      rw [ev] at tv
      rw [eh] at th
      have ek : IntKind.i64.wrap ((k : Int) * c.side) = ((k * c.side : Nat) : Int) := by rw [← Int.natCast_mul]; exact w64 (by omega)
      have ek1 : minI (IntKind.i64.wrap ((IntKind.i64.wrap ((k : Int) + 1)) * c.side)) (c.w : Int) = ((min (k * c.side + c.side) c.w : Nat) : Int) := by
        rw [w64 (x := (k : Int) + 1) (by omega), show ((k : Int) + 1) * (c.side : Int) = (((k + 1) * c.side : Nat) : Int) by rw [Int.natCast_mul]; rfl, k1, w64 (by omega)]
        unfold minI; split <;> omega
      rw [ek, ek1]
      obtain ⟨f, hf⟩ : ∃ f, f = k * c.side := ⟨_, rfl⟩
      obtain ⟨t, ht⟩ : ∃ t, t = min (k * c.side + c.side) c.w := ⟨_, rfl⟩
      rw [← ht, ← hf]
      rw [w64 (x := (t : Int) - f) (by omega), show (t : Int) - f = ((t - f : Nat) : Int) by omega]
      simp only [Int.toNat_natCast, Nat.sub_zero, slAddr_00]
      refine Evp.pos (by omega) (Evp.neg (by omega) (Evp.some rfl ?_))
      have ln := st.len
      obtain ⟨M2, g1, g2, g3, g4, g5⟩ := st.room.st (lo := lo) (i := 0) (vs := List.replicate (t - f) (.int .i64 0)) st.pre o.hlo (by simp; omega)
      rw [plus_zero] at g1
      rw [zerosL_one]
      refine Evp.some g1 ?_
      have er : setL (rs.map (Value.int .i64)) 0 (List.replicate (t - f) (.int .i64 0)) = (List.replicate (t - f) 0 ++ rs.drop (t - f)).map (Value.int .i64) := by
        have := setL_all [] ((rs.take (t - f)).map (Value.int .i64)) (List.replicate (t - f) (Value.int .i64 0)) ((rs.drop (t - f)).map (Value.int .i64)) (by simp; omega)
        simp only [List.nil_append, List.length_nil] at this
        rw [← List.map_append, List.take_append_drop] at this
        rw [this, List.map_append, List.map_replicate]
      rw [er] at g2
      have st2 : St2 c M0 M2 zs (List.replicate (t - f) 0 ++ rs.drop (t - f)) := ⟨g3, st.out.keep g4 (fun a ha => by injection ha with ha; subst ha; exact fun e => o.hne e.symm), g2, by simp; omega⟩
      refine Evp.ret (tap_loop o y k f t hy (by omega) (by omega) (by omega) v0 v1 v2 v3 v4 v5 v6 h0 h1 h2 h3 h4 h5 h6 tv th zs (fun rs M st hr => ?_) 7 0 _ M2 rfl (by omega) st2 fun j hj => ?_)
      · refine put_loop o y k f t hy (by omega) (by omega) (by omega) rs (fun j hj => ?_) (fun zs rs M st hi => next zs rs M st (by rw [ck1, ← ht]; exact hi)) (t - f) 0 zs M (by omega) (by omega) st (by rw [Nat.add_zero, hf, ← ck]; exact hinv)
        have b1 := vacc_le tv [h0, h1, h2, h3, h4, h5, h6] c.xs c.bs c.w c.h c.side y (f + j) 7
        rw [hr j hj]
        refine ⟨by omega, by omega, ?_⟩
        rw [tu (f + j) (by omega) (by omega) (by omega), if_pos hon]
        unfold sampU sampW
        rw [ev, eh]
      · rw [List.getD_eq_getElem?_getD, List.getElem?_append_left (by simpa using hj), List.getElem?_replicate, if_pos hj]; rfl
theorem row_loop (hnext : ∀ zs M, Pre M0 M → Buf M0 M c.ao (zs.map (Value.int .u8)) → InvW c.us c.xs c.bs c.w c.h c.side (c.h * c.w) zs → Q (.tuple ⟨[.agg ⟨[.int .i64 c.w, .int .i64 c.h, .slice (some c.ao) c.xs.length c.co]⟩, .int .i64 0]⟩, M)) :
    ∀ (q y : Nat) (zs rs : List Int) (M : Mem), c.h - y = q → y ≤ c.h → St2 c M0 M zs rs → InvW c.us c.xs c.bs c.w c.h c.side (y * c.w) zs → Run P T lo F.wiener_Plane (cRow c y M) Q := by
  have hh2 := o.hh.2
  intro q
  induction q with
  | zero =>
    intro y zs rs M hq hy st hinv
    obtain rfl : y = c.h := by omega
    refine Run.cut (Evp.of_eq (fun k => wiener_Plane.p7156 k ..) ?_)
    refine Evp.dec (fun h => absurd h (by omega)) fun _ => ?_
    exact Evp.ret (Run.ret (hnext zs M st.pre st.out hinv))
  | succ q ih =>
    intro y zs rs M hq hy st hinv
    have hw1 := o.hw.1
    refine Run.cut (Evp.of_eq (fun k => wiener_Plane.p7156 k ..) ?_)
    refine Evp.dec (fun _ => ?_) fun h => absurd h (by omega)
    refine Evp.ob (stripe_ok lo c.side y M o.hs (by omega)) ?_
    rintro _ rfl
    simp only [ret_int, ret_bool, ret_flt, ret_slc, ret_str, ret_ptr, ret_agg, ret_tup, ob_some, bb_true, bb_false, List.getElem?_cons_zero, List.getElem?_cons_succ, List.length_cons, List.length_nil, Nat.reduceAdd, Nat.reduceLT]
    refine Evp.ret (unit_loop o y (by omega) (fun zs rs M st hi => ?_) _ 0 zs rs M rfl (by omega) st (by unfold colN; simpa using hinv))
    refine Run.cut (Evp.of_eq (fun k => wiener_Plane.p57255 k ..) ?_)
    rw [w64 (by omega)]
    exact Evp.ret (ih (y + 1) zs rs M (by omega) (by omega) st hi)
end
end Go.Zt
