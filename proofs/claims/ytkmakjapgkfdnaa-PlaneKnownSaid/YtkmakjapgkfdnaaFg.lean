/- The law that New, Check, At, Same, Apart answer as the chapter says. -/
import Derived.Test.YtkmakjapgkfdnaaFf
import Derived.Test.YtkmakjapgkfdnaaArg
set_option linter.unusedVariables false
set_option linter.unusedSimpArgs false
set_option maxRecDepth 100000
namespace Go.Zt
section
variable (w h w' h' : Int) (A A' X Y : Option Addr) (c c' cx cy : Nat) (xs ys : List Int) (x y : Int) (M0 M1 : Mem)
theorem tells_loop (hx : RdI M0 .u8 A xs) (hy : RdI M0 .u8 A' ys) (hX : RdI M1 .u8 X xs) (hY : RdI M1 .u8 Y ys) (bx : Bytes xs) (by_ : Bytes ys) (hp : Pre M0 M1) (hn : xs.length ≤ 140737488351232) (hn' : ys.length ≤ 140737488351232) :
    ∀ (d : Nat) (i : Int), (20 - i).toNat = d → -2 ≤ i → i ≤ 20 →
    Run P T M0.length F.zoetropelaw05_PlaneTells (zoetropelaw05_PlaneTells.c244 i w h A xs.length c w' h' A' ys.length c' x y w h X xs.length cx w' h' Y ys.length cy M1) fun r => r.1 = .bool true := by
  intro d
  induction d with
  | zero =>
    intro i hd h1 h2
    obtain rfl : i = 20 := by omega
    refine Run.cut (Evp.of_eq (fun k => zoetropelaw05_PlaneTells.p244 k ..) ?_)
    refine Evp.ff rfl ?_
    have key : ∃ s e : Int, (if checkS w h xs.length = 0 ∧ checkS w' h' ys.length = 0 ∧ w = w' ∧ h = h' then Value.tuple ⟨[.int .u64 (apartS xs ys xs.length), .int .i64 0]⟩ else .tuple ⟨[.int .u64 0, .int .i64 2]⟩) = .tuple ⟨[.int .u64 s, .int .i64 e]⟩ := by
      split <;> exact ⟨_, _, rfl⟩
    obtain ⟨s, e, hse⟩ := key
    refine Evp.ob (apart_ok _ _ _ _ _ _ _ _ _ _ _ _ hX hY bx by_) ?_
    rintro _ rfl
    rw [hse]
    simp only [ret_int, ret_bool, ret_flt, ret_slc, ret_str, ret_ptr, ret_agg, ret_tup, ob_some, bb_true, bb_false, List.getElem?_cons_zero, List.getElem?_cons_succ, List.length_cons, List.length_nil, Nat.reduceAdd, Nat.reduceLT]
    refine Evp.ob (rapart_ok _ _ _ _ _ _ _ _ _ _ _ _ (hx.pre hp) (hy.pre hp) bx by_) ?_
    rintro _ rfl
    rw [hse]
    simp only [ret_int, ret_bool, ret_flt, ret_slc, ret_str, ret_ptr, ret_agg, ret_tup, ob_some, bb_true, bb_false, List.getElem?_cons_zero, List.getElem?_cons_succ, List.length_cons, List.length_nil, Nat.reduceAdd, Nat.reduceLT]
    have fin : ∀ (p q : Int) (e' : Int) (B B' : Option Addr) (zs : List Int) (c1 c2 : Nat) (M2 : Mem), Pre M1 M2 → zs.length ≤ 140737488351232 → OwnM M1 M2 B zs → RdI M2 .u8 B' zs → Evp (fun k => ob (acall P T k M0.length F.zoetropelaw05_told [.agg ⟨[.int .i64 p, .int .i64 q, .slice B zs.length c1]⟩, .int .i64 e', .agg ⟨[.int .i64 p, .int .i64 q, .slice B' zs.length c2]⟩, .int .i64 e'] M2) fun r73 =>
        ob ((some r73.1).bind Value.bool?) fun b74 =>
        bb b74
        (ob (acall P T k M0.length F.zoetroperef05_Same [.agg ⟨[.int .i64 w, .int .i64 h, .slice X xs.length cx]⟩, .agg ⟨[.int .i64 w, .int .i64 h, .slice A xs.length c]⟩] r73.2) fun r75 =>
        ob ((some r75.1).bind Value.bool?) fun b76 =>
        bb b76
        (ob (acall P T k M0.length F.zoetroperef05_Same [.agg ⟨[.int .i64 w', .int .i64 h', .slice Y ys.length cy]⟩, .agg ⟨[.int .i64 w', .int .i64 h', .slice A' ys.length c']⟩] r75.2) fun r77 =>
        ob ((some r77.1).bind Value.bool?) fun b78 =>
        bb b78
        (ob (acall P T k M0.length F.zoetropelaw05_works [] r77.2) fun r79 =>
        ob ((some r79.1).bind Value.bool?) fun b80 =>
        some (.ret (.bool b80) r79.2))
        (some (.ret (.bool false) r77.2)))
        (some (.ret (.bool false) r75.2)))
        (some (.ret (.bool false) r73.2))) fun out => Run P T M0.length F.zoetropelaw05_PlaneTells out fun r => r.1 = .bool true := by
      intro p q e' B B' zs c1 c2 M2 p2 hz hB hB'
      refine Evp.ob (told_ok M0.length p q e' B B' c1 c2 zs M1 M2 hp.len p2 hz hB hB') ?_
      rintro _ ⟨M3, rfl, p3⟩
      simp only [ret_int, ret_bool, ret_flt, ret_slc, ret_str, ret_ptr, ret_agg, ret_tup, ob_some, bb_true, bb_false, List.getElem?_cons_zero, List.getElem?_cons_succ, List.length_cons, List.length_nil, Nat.reduceAdd, Nat.reduceLT]
      refine Evp.tt rfl ?_
      refine Evp.ob (rsame_ok _ _ _ _ _ _ _ _ _ _ _ _ (hX.pre p3) (hx.pre (hp.trans p3)) hn) ?_
      rintro _ rfl
      simp only [ret_int, ret_bool, ret_flt, ret_slc, ret_str, ret_ptr, ret_agg, ret_tup, ob_some, bb_true, bb_false, List.getElem?_cons_zero, List.getElem?_cons_succ, List.length_cons, List.length_nil, Nat.reduceAdd, Nat.reduceLT]
      refine Evp.tt (by simp) ?_
      refine Evp.ob (rsame_ok _ _ _ _ _ _ _ _ _ _ _ _ (hY.pre p3) (hy.pre (hp.trans p3)) hn') ?_
      rintro _ rfl
      simp only [ret_int, ret_bool, ret_flt, ret_slc, ret_str, ret_ptr, ret_agg, ret_tup, ob_some, bb_true, bb_false, List.getElem?_cons_zero, List.getElem?_cons_succ, List.length_cons, List.length_nil, Nat.reduceAdd, Nat.reduceLT]
      refine Evp.tt (by simp) ?_
      refine Evp.ob (works_ok _ _ (hp.trans p3).len) ?_
      rintro _ ⟨M4, rfl, _⟩
      simp only [ret_int, ret_bool, ret_flt, ret_slc, ret_str, ret_ptr, ret_agg, ret_tup, ob_some, bb_true, bb_false, List.getElem?_cons_zero, List.getElem?_cons_succ, List.length_cons, List.length_nil, Nat.reduceAdd, Nat.reduceLT]
      exact Evp.ret (Run.ret rfl)
    refine Evp.ob (new_ok _ _ _ _ _ hp.len) ?_
    rintro ⟨r, M2⟩ ⟨p2, h3⟩
    by_cases hs : 1 ≤ x ∧ x ≤ 512 ∧ 1 ≤ y ∧ y ≤ 512
    · rw [if_pos hs] at h3
      obtain ⟨a, rfl, hb⟩ := h3
      simp only [ret_int, ret_bool, ret_flt, ret_slc, ret_str, ret_ptr, ret_agg, ret_tup, ob_some, bb_true, bb_false, List.getElem?_cons_zero, List.getElem?_cons_succ, List.length_cons, List.length_nil, Nat.reduceAdd, Nat.reduceLT]
      refine Evp.ob (rnew_ok _ _ _ _ _ (hp.trans p2).len) ?_
      rintro ⟨r, M3⟩ ⟨p3, h4⟩
      rw [if_pos hs] at h4
      obtain ⟨a', rfl, hb'⟩ := h4
      simp only [ret_int, ret_bool, ret_flt, ret_slc, ret_str, ret_ptr, ret_agg, ret_tup, ob_some, bb_true, bb_false, List.getElem?_cons_zero, List.getElem?_cons_succ, List.length_cons, List.length_nil, Nat.reduceAdd, Nat.reduceLT]
      refine Evp.eqb (fun _ => ?_) fun h => absurd rfl h
      refine Evp.eqb (fun _ => ?_) fun h => absurd rfl h
      have har := area hs
      have hl : (List.replicate (x * y).toNat (77 : Int)).length = (x * y).toNat := List.length_replicate
      have := fin x y 0 (some a) (some a') (List.replicate (x * y).toNat 77) (x * y).toNat (x * y).toNat M3 (p2.trans p3) (by rw [hl]; omega) (.inr ⟨a, rfl, hb.pre p3⟩) hb'.rdI
      rw [hl] at this
      exact this
    · rw [if_neg hs] at h3
      subst h3
      simp only [ret_int, ret_bool, ret_flt, ret_slc, ret_str, ret_ptr, ret_agg, ret_tup, ob_some, bb_true, bb_false, List.getElem?_cons_zero, List.getElem?_cons_succ, List.length_cons, List.length_nil, Nat.reduceAdd, Nat.reduceLT]
      refine Evp.ob (rnew_ok _ _ _ _ _ (hp.trans p2).len) ?_
      rintro ⟨r, M3⟩ ⟨p3, h4⟩
      rw [if_neg hs] at h4
      subst h4
      simp only [ret_int, ret_bool, ret_flt, ret_slc, ret_str, ret_ptr, ret_agg, ret_tup, ob_some, bb_true, bb_false, List.getElem?_cons_zero, List.getElem?_cons_succ, List.length_cons, List.length_nil, Nat.reduceAdd, Nat.reduceLT]
      refine Evp.eqb (fun _ => ?_) fun h => absurd rfl h
      refine Evp.eqb (fun _ => ?_) fun h => absurd rfl h
      exact fin 0 0 2 none none [] 0 0 M3 (p2.trans p3) (by decide) (.inl rfl) RdI.nil
  | succ d ih =>
    intro i hd h1 h2
    refine Run.cut (Evp.of_eq (fun k => zoetropelaw05_PlaneTells.p244 k ..) ?_)
    refine Evp.dec (fun _ => ?_) fun h => absurd h (by omega)
    refine Evp.ob (pat_ok _ _ _ _ _ _ _ _ _ hX) ?_
    rintro _ rfl
    simp only [ret_int, ret_bool, ret_flt, ret_slc, ret_str, ret_ptr, ret_agg, ret_tup, ob_some, bb_true, bb_false, List.getElem?_cons_zero, List.getElem?_cons_succ, List.length_cons, List.length_nil, Nat.reduceAdd, Nat.reduceLT]
    refine Evp.ob (rat_ok _ _ _ _ _ _ _ _ _ (hx.pre hp)) ?_
    rintro _ rfl
    simp only [ret_int, ret_bool, ret_flt, ret_slc, ret_str, ret_ptr, ret_agg, ret_tup, ob_some, bb_true, bb_false, List.getElem?_cons_zero, List.getElem?_cons_succ, List.length_cons, List.length_nil, Nat.reduceAdd, Nat.reduceLT]
    refine Evp.neb (fun h => absurd rfl h) fun _ => ?_
    refine Evp.ob (pat_ok _ _ _ _ _ _ _ _ _ hX) ?_
    rintro _ rfl
    simp only [ret_int, ret_bool, ret_flt, ret_slc, ret_str, ret_ptr, ret_agg, ret_tup, ob_some, bb_true, bb_false, List.getElem?_cons_zero, List.getElem?_cons_succ, List.length_cons, List.length_nil, Nat.reduceAdd, Nat.reduceLT]
    refine Evp.ob (rat_ok _ _ _ _ _ _ _ _ _ (hx.pre hp)) ?_
    rintro _ rfl
    simp only [ret_int, ret_bool, ret_flt, ret_slc, ret_str, ret_ptr, ret_agg, ret_tup, ob_some, bb_true, bb_false, List.getElem?_cons_zero, List.getElem?_cons_succ, List.length_cons, List.length_nil, Nat.reduceAdd, Nat.reduceLT]
    refine Evp.neb (fun h => absurd rfl h) fun _ => ?_
    rw [w64 (by omega)]
    exact Evp.ret (ih (i + 1) (by omega) (by omega) (by omega))
end
theorem PlaneTells_law (M : Mem) (vs : List Value) (hro : AllRo M) (hv : LaysArgs P M [24, 24, 61] vs) : Ac P T M.length F.zoetropelaw05_PlaneTells vs M fun r => r.1 = .bool true := by
  obtain ⟨w, h, A, c, xs, w', h', A', c', ys, x, y, rfl, _, _, hc, hn, hx, wx, _, _, hc', hn', hy, wy, _⟩ := Arg.PlaneTells hv
  have bx : Bytes xs := fun x hx => wf_u8 (wx x hx)
  have by_ : Bytes ys := fun x hx => wf_u8 (wy x hx)
  refine Ac.of (Evp.of_eq (fun k => zoetropelaw05_PlaneTells.entry k ..) ?_)
  refine Evp.ob (copyPlane_ok _ _ _ _ _ _ _ hx (by omega)) ?_
  rintro _ ⟨X, cx, M1, rfl, p1, g1, k1⟩
  simp only [ret_int, ret_bool, ret_flt, ret_slc, ret_str, ret_ptr, ret_agg, ret_tup, ob_some, bb_true, bb_false, List.getElem?_cons_zero, List.getElem?_cons_succ, List.length_cons, List.length_nil, Nat.reduceAdd, Nat.reduceLT]
  refine Evp.ob (copyPlane_ok _ _ _ _ _ _ _ (hy.pre p1) (by omega)) ?_
  rintro _ ⟨Y, cy, M2, rfl, p2, g2, k2⟩
  simp only [ret_int, ret_bool, ret_flt, ret_slc, ret_str, ret_ptr, ret_agg, ret_tup, ob_some, bb_true, bb_false, List.getElem?_cons_zero, List.getElem?_cons_succ, List.length_cons, List.length_nil, Nat.reduceAdd, Nat.reduceLT]
  refine Evp.ob (check_ok ..) ?_
  rintro _ rfl
  simp only [ret_int, ret_bool, ret_flt, ret_slc, ret_str, ret_ptr, ret_agg, ret_tup, ob_some, bb_true, bb_false, List.getElem?_cons_zero, List.getElem?_cons_succ, List.length_cons, List.length_nil, Nat.reduceAdd, Nat.reduceLT]
  refine Evp.ob (rcheck_ok ..) ?_
  rintro _ rfl
  simp only [ret_int, ret_bool, ret_flt, ret_slc, ret_str, ret_ptr, ret_agg, ret_tup, ob_some, bb_true, bb_false, List.getElem?_cons_zero, List.getElem?_cons_succ, List.length_cons, List.length_nil, Nat.reduceAdd, Nat.reduceLT]
  refine Evp.neb (fun h => absurd rfl h) fun _ => ?_
  have p12 := p1.trans p2
  refine Evp.ob (same_ok _ _ _ _ _ _ _ _ _ _ _ _ (k1.rdI.pre p2) k2.rdI (by omega)) ?_
  rintro _ rfl
  simp only [ret_int, ret_bool, ret_flt, ret_slc, ret_str, ret_ptr, ret_agg, ret_tup, ob_some, bb_true, bb_false, List.getElem?_cons_zero, List.getElem?_cons_succ, List.length_cons, List.length_nil, Nat.reduceAdd, Nat.reduceLT]
  refine Evp.ob (rsame_ok _ _ _ _ _ _ _ _ _ _ _ _ (hx.pre p12) (hy.pre p12) (by omega)) ?_
  rintro _ rfl
  simp only [ret_int, ret_bool, ret_flt, ret_slc, ret_str, ret_ptr, ret_agg, ret_tup, ob_some, bb_true, bb_false, List.getElem?_cons_zero, List.getElem?_cons_succ, List.length_cons, List.length_nil, Nat.reduceAdd, Nat.reduceLT]
  refine Evp.ff (by simp) ?_
  refine Evp.ob (copyPlane_ok _ _ _ _ _ _ _ (hx.pre p12) (by omega)) ?_
  rintro _ ⟨Z, cz, M3, rfl, p3, g3, k3⟩
  simp only [ret_int, ret_bool, ret_flt, ret_slc, ret_str, ret_ptr, ret_agg, ret_tup, ob_some, bb_true, bb_false, List.getElem?_cons_zero, List.getElem?_cons_succ, List.length_cons, List.length_nil, Nat.reduceAdd, Nat.reduceLT]
  refine Evp.ob (same_ok _ _ _ _ _ _ _ _ _ _ _ _ (k1.rdI.pre (p2.trans p3)) k3.rdI (by omega)) ?_
  rintro _ rfl
  simp only [ret_int, ret_bool, ret_flt, ret_slc, ret_str, ret_ptr, ret_agg, ret_tup, ob_some, bb_true, bb_false, List.getElem?_cons_zero, List.getElem?_cons_succ, List.length_cons, List.length_nil, Nat.reduceAdd, Nat.reduceLT]
  refine Evp.ff (by simp) ?_
  exact Evp.ret (tells_loop w h w' h' A A' X Y c c' cx cy xs ys x y M M3 hx hy (k1.rdI.pre (p2.trans p3)) (k2.rdI.pre p3) bx by_ (p12.trans p3) (by omega) (by omega) _ (-2) rfl (by omega) (by omega))
end Go.Zt
