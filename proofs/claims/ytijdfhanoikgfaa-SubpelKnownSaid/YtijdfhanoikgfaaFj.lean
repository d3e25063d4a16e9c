/- The laws that hold Fetch to the document's answer. -/
import Derived.Test.YtijdfhanoikgfaaFi
set_option linter.unusedVariables false
set_option linter.unusedSimpArgs false
namespace Go.Zt
section
variable (lo : Nat) (w h : Int) (A : Option Addr) (c : Nat) (xs : List Int) (A' : Option Addr) (c' : Nat) (M0 M1 : Mem)
theorem fetches_end (hx : RdI M0 .u8 A xs) (hx' : RdI M1 .u8 A' xs) (hp : Pre M0 M1) (hlo : lo ≤ M0.length) (hn : xs.length ≤ 140737488351232) (B : Option Addr) (n cc : Nat) (i : Int) (M : Mem) (hpM : Pre M1 M) (hi : ¬ i < n) :
    Run P T lo F.zoetropelaw14_SubpelFetches (zoetropelaw14_SubpelFetches.c1012 B n cc true i w h A xs.length c w h A' xs.length c' M) fun r => r.1 = .bool true := by
  refine Run.cut (Evp.of_eq (fun k => zoetropelaw14_SubpelFetches.p1012 k ..) ?_)
  refine Evp.dec (fun h => absurd h hi) fun _ => ?_
  refine Evp.tt rfl ?_
  refine Evp.ob (rsame_ok _ _ _ _ _ _ _ _ _ _ _ _ (hx'.pre hpM) (hx.pre (hp.trans hpM)) hn) ?_
  rintro _ rfl
  simp only [ret_int, ret_bool, ret_flt, ret_slc, ret_str, ret_ptr, ret_agg, ret_tup, ob_some, bb_true, bb_false, List.getElem?_cons_zero, List.getElem?_cons_succ, List.length_cons, List.length_nil, Nat.reduceAdd, Nat.reduceLT]
  refine Evp.tt (by simp) ?_
  have := (hp.trans hpM).len
  refine Evp.ob (works_ok _ _ (by omega)) ?_
  rintro _ ⟨M2, rfl, _⟩
  simp only [ret_int, ret_bool, ret_flt, ret_slc, ret_str, ret_ptr, ret_agg, ret_tup, ob_some, bb_true, bb_false, List.getElem?_cons_zero, List.getElem?_cons_succ, List.length_cons, List.length_nil, Nat.reduceAdd, Nat.reduceLT]
  exact Evp.ret (Run.ret rfl)
theorem fetches_loop (hx : RdI M0 .u8 A xs) (hx' : RdI M1 .u8 A' xs) (hp : Pre M0 M1) (hlo : lo ≤ M0.length) (hn : xs.length ≤ 140737488351232) (a : Addr) (cc : Nat) : ∀ (d i : Nat) (zs : List Int) (M : Mem), zs.length - i = d → i ≤ zs.length → zs.length ≤ 4096 → Pre M1 M → Buf M1 M a (zs.map (Value.int .u8)) →
    Run P T lo F.zoetropelaw14_SubpelFetches (zoetropelaw14_SubpelFetches.c1012 (some a) zs.length cc true i w h A xs.length c w h A' xs.length c' M) fun r => r.1 = .bool true := by
  intro d
  induction d with
  | zero =>
    intro i zs M hd hi hz hpM hb
    exact fetches_end lo w h A c xs A' c' M0 M1 hx hx' hp hlo hn _ _ _ _ M hpM (by omega)
  | succ d ih =>
    intro i zs M hd hi hz hpM hb
    refine Run.cut (Evp.of_eq (fun k => zoetropelaw14_SubpelFetches.p1012 k ..) ?_)
    refine Evp.dec (fun _ => ?_) fun h => absurd h (by omega)
    refine Evp.pos (by omega) ?_
    simp only [Int.toNat_natCast]
    refine Evp.ldI hb.rdI (by omega) fun _ _ => ?_
    refine Evp.pos (by omega) (Evp.some rfl ?_)
    have := hp.len
    obtain ⟨M2, h1, h2, h3, h4, h5⟩ := hb.st (lo := lo) (i := i) (vs := [.int .u8 (xorI .u8 (zs.getD i 0) 255)]) hpM (by omega) (by simp; omega)
    refine Evp.some h1 ?_
    rw [setL_one, set_map] at h2
    rw [w64 (by omega)]
    have := ih (i + 1) (zs.set i (xorI .u8 (zs.getD i 0) 255)) M2 (by simp; omega) (by simp; omega) (by simpa using hz) h3 h2
    rw [List.length_set] at this
    exact Evp.ret this
end
theorem SubpelFetches_law (M : Mem) (vs : List Value) (hro : AllRo M) (hv : LaysArgs P M [30, 32] vs) : Ac P T M.length F.zoetropelaw14_SubpelFetches vs M fun r => r.1 = .bool true := by
  obtain ⟨w, h, A, c, xs, x, y, bw, bh, kind, rfl, _, _, hc, hn, hx, wx, _⟩ := Arg.SubpelFetches hv
  have bx : Bytes xs := fun x hx => wf_u8 (wx x hx)
  refine Ac.of (Evp.of_eq (fun k => zoetropelaw14_SubpelFetches.entry k ..) ?_)
  refine Evp.ob (copyPlane_ok _ _ _ _ _ _ _ hx (by omega)) ?_
  rintro _ ⟨B, d, M1, rfl, p1, g1, k1⟩
  simp only [ret_int, ret_bool, ret_flt, ret_slc, ret_str, ret_ptr, ret_agg, ret_tup, ob_some, bb_true, bb_false, List.getElem?_cons_zero, List.getElem?_cons_succ, List.length_cons, List.length_nil, Nat.reduceAdd, Nat.reduceLT]
  have l1 := p1.len
  refine Evp.ob (fetch_ok M.length w h B d xs x y bw bh kind M1 k1.rdI bx g1 l1) ?_
  intro r hr
  by_cases hk : FetchOk w h xs.length x y bw bh kind
  · obtain ⟨B2, cc2, M2, rfl, p2, g2, k2⟩ := hr.got hk
    simp only [ret_int, ret_bool, ret_flt, ret_slc, ret_str, ret_ptr, ret_agg, ret_tup, ob_some, bb_true, bb_false, List.getElem?_cons_zero, List.getElem?_cons_succ, List.length_cons, List.length_nil, Nat.reduceAdd, Nat.reduceLT]
    have l2 := p2.len
    refine Evp.ob (rfetch_ok M.length w h A c xs x y bw bh kind M2 (hx.pre (p1.trans p2)) bx hc (by omega)) ?_
    intro r hr2
    obtain ⟨B3, cc3, M3, rfl, p3, g3, k3⟩ := hr2.got hk
    simp only [ret_int, ret_bool, ret_flt, ret_slc, ret_str, ret_ptr, ret_agg, ret_tup, ob_some, bb_true, bb_false, List.getElem?_cons_zero, List.getElem?_cons_succ, List.length_cons, List.length_nil, Nat.reduceAdd, Nat.reduceLT]
    refine Evp.tt rfl ?_
    have hl := fetchS_len w h xs x y bw.toNat bh.toNat kind
    have hsm : bh.toNat * bw.toNat ≤ 64 * 64 := by
      have := hk.2
      exact Nat.mul_le_mul (by omega) (by omega)
    refine Evp.ob (eqBytes_ok _ _ _ _ _ _ _ _ (k2.rdI.pre p3) k3.rdI (by omega)) ?_
    rintro _ rfl
    simp only [ret_int, ret_bool, ret_flt, ret_slc, ret_str, ret_ptr, ret_agg, ret_tup, ob_some, bb_true, bb_false, List.getElem?_cons_zero, List.getElem?_cons_succ, List.length_cons, List.length_nil, Nat.reduceAdd, Nat.reduceLT, decide_true]
    obtain ⟨a, rfl, hb⟩ := (k2.pre p3).buf (by
      rw [hl]
      have := hk.2
      exact Nat.mul_ne_zero (by omega) (by omega))
    exact Evp.ret (fetches_loop M.length w h A c xs B d M M1 hx k1.rdI p1 (Nat.le_refl _) (by omega) a cc2 _ 0 (fetchS w h xs x y bw.toNat bh.toNat kind) M3 rfl (by omega) (by omega) (p2.trans p3) hb)
  · obtain ⟨M2, rfl, p2⟩ := hr.not hk
    simp only [ret_int, ret_bool, ret_flt, ret_slc, ret_str, ret_ptr, ret_agg, ret_tup, ob_some, bb_true, bb_false, List.getElem?_cons_zero, List.getElem?_cons_succ, List.length_cons, List.length_nil, Nat.reduceAdd, Nat.reduceLT]
    have l2 := p2.len
    refine Evp.ob (rfetch_ok M.length w h A c xs x y bw bh kind M2 (hx.pre (p1.trans p2)) bx hc (by omega)) ?_
    intro r hr2
    obtain ⟨M3, rfl, p3⟩ := hr2.not hk
    simp only [ret_int, ret_bool, ret_flt, ret_slc, ret_str, ret_ptr, ret_agg, ret_tup, ob_some, bb_true, bb_false, List.getElem?_cons_zero, List.getElem?_cons_succ, List.length_cons, List.length_nil, Nat.reduceAdd, Nat.reduceLT]
    refine Evp.tt rfl ?_
    refine Evp.ob (eqBytes_ok _ none none 0 0 [] [] _ RdI.nil RdI.nil (by decide)) ?_
    rintro _ rfl
    simp only [ret_int, ret_bool, ret_flt, ret_slc, ret_str, ret_ptr, ret_agg, ret_tup, ob_some, bb_true, bb_false, List.getElem?_cons_zero, List.getElem?_cons_succ, List.length_cons, List.length_nil, Nat.reduceAdd, Nat.reduceLT, decide_true]
    exact Evp.ret (fetches_end M.length w h A c xs B d M M1 hx k1.rdI p1 (Nat.le_refl _) (by omega) none 0 0 0 M3 (p2.trans p3) (by omega))

section
variable (w h : Int) (A : Option Addr) (c : Nat) (xs : List Int) (x y : Int) (M0 : Mem)
theorem kinds_k (hx : RdI M0 .u8 A xs) (bx : Bytes xs) (hc : xs.length ≤ c) (hxr : -160 ≤ x ∧ x ≤ 480) (hyr : -160 ≤ y ∧ y ≤ 480) (i : Nat) (hi : i < 16) {Q : Value × Mem → Prop} (hnext : ∀ M, Pre M0 M → Run P T M0.length F.zoetropelaw14_SubpelKinds (zoetropelaw14_SubpelKinds.c116 x y ((i + 1 : Nat) : Int) w h A xs.length c M) Q) :
    ∀ (d k : Nat) (M : Mem), 3 - k = d → k ≤ 3 → Pre M0 M → Run P T M0.length F.zoetropelaw14_SubpelKinds (zoetropelaw14_SubpelKinds.c7460 x y i k w h A xs.length c M) Q := by
  intro d
  induction d with
  | zero =>
    intro k M hd hk hp
    obtain rfl : k = 3 := by omega
    refine Run.cut (Evp.of_eq (fun k => zoetropelaw14_SubpelKinds.p7460 k ..) ?_)
    refine Evp.dec (fun h => absurd h (by omega)) fun _ => ?_
    rw [w64 (by omega)]
    exact Evp.ret (hnext M hp)
  | succ d ih =>
    intro k M hd hk hp
    refine Run.cut (Evp.of_eq (fun k => zoetropelaw14_SubpelKinds.p7460 k ..) ?_)
    refine Evp.dec (fun _ => ?_) fun h => absurd h (by omega)
    generalize (IntKind.i64.wrap (x + (i : Int))) = fx
    generalize (IntKind.i64.wrap (y + Int.tmod (IntKind.i64.wrap (IntKind.i64.wrap ((i : Int) * 7) + (k : Int))) 16)) = fy
    have l0 := hp.len
    refine Evp.ob (fetch_ok M0.length w h A c xs fx fy 4 4 k M (hx.pre hp) bx hc l0) ?_
    intro r hr
    by_cases hk : FetchOk w h xs.length fx fy 4 4 k
    · obtain ⟨B2, cc2, M2, rfl, p2, g2, k2⟩ := hr.got hk
      simp only [ret_int, ret_bool, ret_flt, ret_slc, ret_str, ret_ptr, ret_agg, ret_tup, ob_some, bb_true, bb_false, List.getElem?_cons_zero, List.getElem?_cons_succ, List.length_cons, List.length_nil, Nat.reduceAdd, Nat.reduceLT]
      have l2 := p2.len
      refine Evp.ob (rfetch_ok M0.length w h A c xs fx fy 4 4 k M2 (hx.pre (hp.trans p2)) bx hc (by omega)) ?_
      intro r hr2
      obtain ⟨B3, cc3, M3, rfl, p3, g3, k3⟩ := hr2.got hk
      simp only [ret_int, ret_bool, ret_flt, ret_slc, ret_str, ret_ptr, ret_agg, ret_tup, ob_some, bb_true, bb_false, List.getElem?_cons_zero, List.getElem?_cons_succ, List.length_cons, List.length_nil, Nat.reduceAdd, Nat.reduceLT]
      refine Evp.ff rfl ?_
      have hl := fetchS_len w h xs fx fy (4 : Int).toNat (4 : Int).toNat k
      refine Evp.ob (eqBytes_ok _ _ _ _ _ _ _ _ (k2.rdI.pre p3) k3.rdI (by rw [hl]; decide)) ?_
      rintro _ rfl
      simp only [ret_int, ret_bool, ret_flt, ret_slc, ret_str, ret_ptr, ret_agg, ret_tup, ob_some, bb_true, bb_false, List.getElem?_cons_zero, List.getElem?_cons_succ, List.length_cons, List.length_nil, Nat.reduceAdd, Nat.reduceLT, decide_true]
      refine Evp.ff rfl ?_
      rw [w64 (by omega)]
      exact Evp.ret (ih (k + 1) M3 (by omega) (by omega) ((hp.trans p2).trans p3))
    · obtain ⟨M2, rfl, p2⟩ := hr.not hk
      simp only [ret_int, ret_bool, ret_flt, ret_slc, ret_str, ret_ptr, ret_agg, ret_tup, ob_some, bb_true, bb_false, List.getElem?_cons_zero, List.getElem?_cons_succ, List.length_cons, List.length_nil, Nat.reduceAdd, Nat.reduceLT]
      have l2 := p2.len
      refine Evp.ob (rfetch_ok M0.length w h A c xs fx fy 4 4 k M2 (hx.pre (hp.trans p2)) bx hc (by omega)) ?_
      intro r hr2
      obtain ⟨M3, rfl, p3⟩ := hr2.not hk
      simp only [ret_int, ret_bool, ret_flt, ret_slc, ret_str, ret_ptr, ret_agg, ret_tup, ob_some, bb_true, bb_false, List.getElem?_cons_zero, List.getElem?_cons_succ, List.length_cons, List.length_nil, Nat.reduceAdd, Nat.reduceLT]
      refine Evp.ff rfl ?_
      refine Evp.ob (eqBytes_ok _ none none 0 0 [] [] _ RdI.nil RdI.nil (by decide)) ?_
      rintro _ rfl
      simp only [ret_int, ret_bool, ret_flt, ret_slc, ret_str, ret_ptr, ret_agg, ret_tup, ob_some, bb_true, bb_false, List.getElem?_cons_zero, List.getElem?_cons_succ, List.length_cons, List.length_nil, Nat.reduceAdd, Nat.reduceLT, decide_true]
      refine Evp.ff rfl ?_
      rw [w64 (by omega)]
      exact Evp.ret (ih (k + 1) M3 (by omega) (by omega) ((hp.trans p2).trans p3))
theorem kinds_i (hx : RdI M0 .u8 A xs) (bx : Bytes xs) (hc : xs.length ≤ c) (hxr : -160 ≤ x ∧ x ≤ 480) (hyr : -160 ≤ y ∧ y ≤ 480) : ∀ (d i : Nat) (M : Mem), 16 - i = d → i ≤ 16 → Pre M0 M →
    Run P T M0.length F.zoetropelaw14_SubpelKinds (zoetropelaw14_SubpelKinds.c116 x y i w h A xs.length c M) fun r => r.1 = .bool true := by
  intro d
  induction d with
  | zero =>
    intro i M hd hi hp
    obtain rfl : i = 16 := by omega
    refine Run.cut (Evp.of_eq (fun k => zoetropelaw14_SubpelKinds.p116 k ..) ?_)
    refine Evp.dec (fun h => absurd h (by omega)) fun _ => ?_
    refine Evp.ob (works_ok _ _ hp.len) ?_
    rintro _ ⟨M2, rfl, _⟩
    simp only [ret_int, ret_bool, ret_flt, ret_slc, ret_str, ret_ptr, ret_agg, ret_tup, ob_some, bb_true, bb_false, List.getElem?_cons_zero, List.getElem?_cons_succ, List.length_cons, List.length_nil, Nat.reduceAdd, Nat.reduceLT]
    exact Evp.ret (Run.ret rfl)
  | succ d ih =>
    intro i M hd hi hp
    refine Run.cut (Evp.of_eq (fun k => zoetropelaw14_SubpelKinds.p116 k ..) ?_)
    refine Evp.dec (fun _ => ?_) fun h => absurd h (by omega)
    exact Evp.ret (kinds_k w h A c xs x y M0 hx bx hc hxr hyr i (by omega) (fun M' hp' => ih (i + 1) M' (by omega) (by omega) hp') 3 0 M rfl (by omega) hp)
end
theorem SubpelKinds_law (M : Mem) (vs : List Value) (hro : AllRo M) (hv : LaysArgs P M [30, 3, 3] vs) : Ac P T M.length F.zoetropelaw14_SubpelKinds vs M fun r => r.1 = .bool true := by
  obtain ⟨w, h, A, c, xs, x, y, rfl, _, _, hc, hn, hx, wx, _⟩ := Arg.SubpelKinds hv
  have bx : Bytes xs := fun x hx => wf_u8 (wx x hx)
  refine Ac.of (Evp.of_eq (fun k => zoetropelaw14_SubpelKinds.entry k ..) ?_)
  refine Evp.ob (bring_ok _ _ _ _ (by decide)) ?_
  rintro _ rfl
  simp only [ret_int, ret_bool, ret_flt, ret_slc, ret_str, ret_ptr, ret_agg, ret_tup, ob_some, bb_true, bb_false, List.getElem?_cons_zero, List.getElem?_cons_succ, List.length_cons, List.length_nil, Nat.reduceAdd, Nat.reduceLT]
  refine Evp.ob (bring_ok _ _ _ _ (by decide)) ?_
  rintro _ rfl
  simp only [ret_int, ret_bool, ret_flt, ret_slc, ret_str, ret_ptr, ret_agg, ret_tup, ob_some, bb_true, bb_false, List.getElem?_cons_zero, List.getElem?_cons_succ, List.length_cons, List.length_nil, Nat.reduceAdd, Nat.reduceLT]
  have b1 := bringS_lt (i := x) (n := 40) (by decide)
  have b2 := bringS_lt (i := y) (n := 40) (by decide)
  rw [w64 (x := bringS x 40 * 16) (by omega), w64 (x := bringS y 40 * 16) (by omega), w64 (x := bringS x 40 * 16 - 160) (by omega), w64 (x := bringS y 40 * 16 - 160) (by omega)]
  exact Evp.ret (kinds_i w h A c xs _ _ M hx bx hc (by omega) (by omega) 16 0 M rfl (by omega) (Pre.refl _))
end Go.Zt
