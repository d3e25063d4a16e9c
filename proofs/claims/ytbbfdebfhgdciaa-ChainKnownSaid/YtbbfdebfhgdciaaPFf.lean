/- What the law ChainKnown needs of the text Ff. -/
import Derived.Test.YtbbfdebfhgdciaaPFe
set_option linter.unusedVariables false
set_option linter.unusedSimpArgs false
set_option maxRecDepth 100000
namespace Go.Zt
noncomputable def restG (f : Fr3) (s : SideV) (hd : Hd) (g h : Nat → List Int) (n : Nat) : List Int := if rest hd n = true then outW (s.un n).us (g n) (h n) (f.at n).w.toNat (f.at n).h.toNat (sideN n) else g n
def sideS (n : Nat) : Int := match n with | 0 => 64 | _ => 32
theorem sideS_eq (n : Nat) : (sideS n).toNat = sideN n ∧ sideS n = (sideN n : Int) := by cases n <;> exact ⟨rfl, rfl⟩
section
variable (lo : Nat) (b : Nat) (f f1 G : Fr3) (hd : Hd) (s : SideV) (Mi M0 : Mem) (g h : Nat → List Int)
variable (hlo : lo ≤ Mi.length) (hb : Mi.length ≤ b) (hs : SideOk Mi s)
structure RestSt (b : Nat) (f f1 : Fr3) (hd : Hd) (s : SideV) (M0 : Mem) (g h : Nat → List Int) (n : Nat) (M : Mem) (ad : Nat → Addr) (cc : Nat → Nat) (gg : Nat → List Int) : Prop where
  box : M[b]? = some ⟨.fx, boxL (frB f ad cc gg) f1 hd s⟩
  own : Own3 M0 M b ad cc gg
  eq : ∀ k, k < 3 → gg k = if k < n then restG f s hd g h k else g k
include hlo hb hs
theorem rest_step (n : Nat) (hn : n < 3) (hGw : ∀ k, k < 3 → (G.at k).w = (f.at k).w ∧ (G.at k).h = (f.at k).h ∧ (G.at k).xs = g k) (h1w : ∀ k, k < 3 → (f1.at k).w = (f.at k).w ∧ (f1.at k).h = (f.at k).h ∧ (f1.at k).xs = h k) (hln : ∀ k, k < 3 → (g k).length = (f.at k).xs.length ∧ (h k).length = (f.at k).xs.length)
    (M : Mem) (hp : Pre Mi M) (h0 : M0.length ≤ M.length) (hG : FrS M b G) (hf1 : FrS M b f1) (ad : Nat → Addr) (cc : Nat → Nat) (gg : Nat → List Int) (st : RestSt b f f1 hd s M0 g h n M ad cc gg) {Q : Value × Mem → Prop}
    (hbad : ∀ M', KeepB b M M' → M.length ≤ M'.length → ¬ RestP f s hd → Q (.int .i64 2, M'))
    (hok : ∀ M' ad' cc' gg', KeepB b M M' → M.length ≤ M'.length → (rest hd n = true → PlaneOk (s.un n).us (f.at n).w (f.at n).h (f.at n).xs.length (f.at n).w (f.at n).h (f.at n).xs.length (sideN n)) → RestSt b f f1 hd s M0 g h (n + 1) M' ad' cc' gg' →
      Run P T lo F.chain_run_restoration (chain_run_restoration.c116 ⟨b, 0, none⟩ 32 G.p0.w G.p0.h G.p0.A G.p0.xs.length G.p0.c G.p1.w G.p1.h G.p1.A G.p1.xs.length G.p1.c G.p2.w G.p2.h G.p2.A G.p2.xs.length G.p2.c (IntKind.i64.wrap ((n : Int) + 1)) M') Q) :
    Run P T lo F.chain_run_restoration (chain_run_restoration.c116 ⟨b, 0, none⟩ (sideS n) G.p0.w G.p0.h G.p0.A G.p0.xs.length G.p0.c G.p1.w G.p1.h G.p1.A G.p1.xs.length G.p1.c G.p2.w G.p2.h G.p2.A G.p2.xs.length G.p2.c (n : Int) M) Q := by
  have hbox := st.box
  have hin := lt_of_get hbox
  have l0 := hp.len
  have hu := (hs.u n).pre hp
  have pG := hG n hn
  have pf := hf1 n hn
  obtain ⟨w1, w2, w3⟩ := hGw n hn
  obtain ⟨v1, v2, v3⟩ := h1w n hn
  obtain ⟨n1, n2⟩ := hln n hn
  rcases lt3 hn with rfl | rfl | rfl
  · refine Run.cut (Evp.of_eq (fun k => chain_run_restoration.p116 k ..) ?_)
    refine Evp.dec (fun _ => ?_) fun h => absurd h (by decide)
    refine Evp.pos (by decide) (Evp.some rfl (Evp.some rfl (Evp.some rfl (Evp.pos (by decide) (Evp.some (ld_bool hbox rfl rfl) ?_)))))
    refine Evp.bb (fun hr => ?_) fun hr => ?_
    · have hr : rest hd 0 = true := hr
      refine Evp.pos (by decide) (Evp.some (ld_int hbox rfl rfl) (Evp.some (ld_int hbox rfl rfl) (Evp.some (ld_slc hbox rfl rfl) (Evp.pos (by decide) (Evp.some (ld_slc hbox rfl rfl) ?_)))))
      refine Evp.ob (plane_ok lo (s.un 0).A (G.at 0).A (f1.at 0).A (s.un 0).c (G.at 0).c (f1.at 0).c (s.un 0).us (G.at 0).xs (f1.at 0).xs (G.at 0).w (G.at 0).h (f1.at 0).w (f1.at 0).h (sideS 0) M (by omega) hu.rd hu.wf hu.n pG.rd pf.rd pG.by_ pf.by_ pG.cap pf.cap) ?_
      rintro ⟨v, M1⟩ hq
      have eP : PlaneOk (s.un 0).us (G.at 0).w (G.at 0).h (G.at 0).xs.length (f1.at 0).w (f1.at 0).h (f1.at 0).xs.length (sideS 0) ↔ PlaneOk (s.un 0).us (f.at 0).w (f.at 0).h (f.at 0).xs.length (f.at 0).w (f.at 0).h (f.at 0).xs.length (sideN 0) := by
        rw [w1, w2, w3, v1, v2, v3, n1, n2, (sideS_eq 0).2]
      by_cases k1 : PlaneOk (s.un 0).us (G.at 0).w (G.at 0).h (G.at 0).xs.length (f1.at 0).w (f1.at 0).h (f1.at 0).xs.length (sideS 0)
      · obtain ⟨a, c, rfl, p1, hc, b1⟩ := hq.got k1
        simp only [ret_int, ret_bool, ret_flt, ret_slc, ret_str, ret_ptr, ret_agg, ret_tup, ob_some, bb_true, bb_false, List.getElem?_cons_zero, List.getElem?_cons_succ, List.length_cons, List.length_nil, Nat.reduceAdd, Nat.reduceLT]
        have l1 := p1.len
        have hbox1 := p1 _ _ hbox
        have nn := b1.new
        have eo : outW (s.un 0).us (G.at 0).xs (f1.at 0).xs (G.at 0).w.toNat (G.at 0).h.toNat (sideS 0).toNat = restG f s hd g h 0 := by
          unfold restG; rw [if_pos hr, w1, w2, w3, v3, (sideS_eq 0).1]
        have ln : (restG f s hd g h 0).length = (G.at 0).xs.length := by
          rw [← eo, outW_len]
          have := (checkS_len' k1.1).2.2.2.2
          have c1 := checkS_len' k1.1
          obtain ⟨W, hW⟩ := Int.eq_ofNat_of_zero_le (a := (G.at 0).w) (by omega)
          obtain ⟨Hh, hH⟩ := Int.eq_ofNat_of_zero_le (a := (G.at 0).h) (by omega)
          rw [hW, hH] at this ⊢
          rw [← Int.natCast_mul, Nat.mul_comm] at this
          simp only [Int.toNat_natCast]
          omega
        refine Evp.ff rfl (Evp.pos (by decide) ?_)
        rw [show (G.at 0).xs.length = (restG f s hd g h 0).length from ln.symm]
        have hst := fx_sts (lo := lo) (i := 0 * 3) (vs := [.int .i64 (G.at 0).w, .int .i64 (G.at 0).h, .slice (some a) (restG f s hd g h 0).length c]) hbox1 (by omega) (Nat.le_of_ble_eq_true rfl)
        have key : setL (boxL (frB f ad cc gg) f1 hd s) (0 * 3) [.int .i64 (G.at 0).w, .int .i64 (G.at 0).h, .slice (some a) (restG f s hd g h 0).length c] = boxL (frB f (upN ad 0 a) (upN cc 0 c) (upN gg 0 (restG f s hd g h 0))) f1 hd s := by
          rw [w1, w2]; rfl
        rw [key] at hst
        refine Evp.some hst (Evp.ret ?_)
        refine Run.cut (Evp.of_eq (fun k => chain_run_restoration.p7475 k ..) ?_)
        have kk : KeepB b M (M1.set b ⟨.fx, boxL (frB f (upN ad 0 a) (upN cc 0 c) (upN gg 0 (restG f s hd g h 0))) f1 hd s⟩) := (p1.keepB b).trans (KeepB.set _ _ _)
        refine Evp.ret (hok _ (upN ad 0 a) (upN cc 0 c) (upN gg 0 (restG f s hd g h 0)) kk (by simp; omega) (fun _ => eP.1 k1) ⟨set_self (by omega), ?_, fun k hk => ?_⟩)
        · rw [eo] at b1
          refine st.own.upd kk hn ((b1.floor h0).keep (A := some ⟨b, 0, none⟩) (fun i x hx hne => by rw [List.getElem?_set_ne (hne _ rfl)]; exact hx) fun z e => by injection e with e; subst e; show b ≠ _; omega) nn (by omega) ?_ (by rw [ln]; exact hc)
          rw [← eo]; exact outW_bytes pG.by_
        · by_cases e : k = 0
          · subst e; simp only [upN, if_true]; rw [if_pos (by omega)]
          · simp only [upN, if_neg e]
            rw [st.eq k hk]
            by_cases e2 : k < 0
            · rw [if_pos e2, if_pos (by omega)]
            · rw [if_neg e2, if_neg (by omega)]
      · obtain ⟨rfl, p1⟩ := hq.not k1
        simp only [ret_int, ret_bool, ret_flt, ret_slc, ret_str, ret_ptr, ret_agg, ret_tup, ob_some, bb_true, bb_false, List.getElem?_cons_zero, List.getElem?_cons_succ, List.length_cons, List.length_nil, Nat.reduceAdd, Nat.reduceLT]
        exact Evp.tt rfl (Evp.ret (Run.ret (hbad M1 (p1.keepB b) p1.len fun e => k1 (eP.2 (e 0 (by omega) hr)))))
    · have hr : rest hd 0 = false := hr
      refine Evp.ret ?_
      refine Run.cut (Evp.of_eq (fun k => chain_run_restoration.p7475 k ..) ?_)
      refine Evp.ret (hok M ad cc gg (KeepB.refl _ _) (Nat.le_refl _) (fun e => by rw [hr] at e; cases e) ⟨hbox, st.own, fun k hk => ?_⟩)
      rw [st.eq k hk]
      by_cases e : k = 0
      · subst e; rw [if_neg (by omega), if_pos (by omega)]; unfold restG; rw [if_neg (by rw [hr]; decide)]
      · by_cases e2 : k < 0
        · rw [if_pos e2, if_pos (by omega)]
        · rw [if_neg e2, if_neg (by omega)]
  · refine Run.cut (Evp.of_eq (fun k => chain_run_restoration.p116 k ..) ?_)
    refine Evp.dec (fun _ => ?_) fun h => absurd h (by decide)
    refine Evp.pos (by decide) (Evp.some rfl (Evp.some rfl (Evp.some rfl (Evp.pos (by decide) (Evp.some (ld_bool hbox rfl rfl) ?_)))))
    refine Evp.bb (fun hr => ?_) fun hr => ?_
    · have hr : rest hd 1 = true := hr
      refine Evp.pos (by decide) (Evp.some (ld_int hbox rfl rfl) (Evp.some (ld_int hbox rfl rfl) (Evp.some (ld_slc hbox rfl rfl) (Evp.pos (by decide) (Evp.some (ld_slc hbox rfl rfl) ?_)))))
      refine Evp.ob (plane_ok lo (s.un 1).A (G.at 1).A (f1.at 1).A (s.un 1).c (G.at 1).c (f1.at 1).c (s.un 1).us (G.at 1).xs (f1.at 1).xs (G.at 1).w (G.at 1).h (f1.at 1).w (f1.at 1).h (sideS 1) M (by omega) hu.rd hu.wf hu.n pG.rd pf.rd pG.by_ pf.by_ pG.cap pf.cap) ?_
      rintro ⟨v, M1⟩ hq
      have eP : PlaneOk (s.un 1).us (G.at 1).w (G.at 1).h (G.at 1).xs.length (f1.at 1).w (f1.at 1).h (f1.at 1).xs.length (sideS 1) ↔ PlaneOk (s.un 1).us (f.at 1).w (f.at 1).h (f.at 1).xs.length (f.at 1).w (f.at 1).h (f.at 1).xs.length (sideN 1) := by
        rw [w1, w2, w3, v1, v2, v3, n1, n2, (sideS_eq 1).2]
      by_cases k1 : PlaneOk (s.un 1).us (G.at 1).w (G.at 1).h (G.at 1).xs.length (f1.at 1).w (f1.at 1).h (f1.at 1).xs.length (sideS 1)
      · obtain ⟨a, c, rfl, p1, hc, b1⟩ := hq.got k1
        simp only [ret_int, ret_bool, ret_flt, ret_slc, ret_str, ret_ptr, ret_agg, ret_tup, ob_some, bb_true, bb_false, List.getElem?_cons_zero, List.getElem?_cons_succ, List.length_cons, List.length_nil, Nat.reduceAdd, Nat.reduceLT]
        have l1 := p1.len
        have hbox1 := p1 _ _ hbox
        have nn := b1.new
        have eo : outW (s.un 1).us (G.at 1).xs (f1.at 1).xs (G.at 1).w.toNat (G.at 1).h.toNat (sideS 1).toNat = restG f s hd g h 1 := by
          unfold restG; rw [if_pos hr, w1, w2, w3, v3, (sideS_eq 1).1]
        have ln : (restG f s hd g h 1).length = (G.at 1).xs.length := by
          rw [← eo, outW_len]
          have := (checkS_len' k1.1).2.2.2.2
          have c1 := checkS_len' k1.1
          obtain ⟨W, hW⟩ := Int.eq_ofNat_of_zero_le (a := (G.at 1).w) (by omega)
          obtain ⟨Hh, hH⟩ := Int.eq_ofNat_of_zero_le (a := (G.at 1).h) (by omega)
          rw [hW, hH] at this ⊢
          rw [← Int.natCast_mul, Nat.mul_comm] at this
          simp only [Int.toNat_natCast]
          omega
        refine Evp.ff rfl (Evp.pos (by decide) ?_)
        rw [show (G.at 1).xs.length = (restG f s hd g h 1).length from ln.symm]
        have hst := fx_sts (lo := lo) (i := 1 * 3) (vs := [.int .i64 (G.at 1).w, .int .i64 (G.at 1).h, .slice (some a) (restG f s hd g h 1).length c]) hbox1 (by omega) (Nat.le_of_ble_eq_true rfl)
        have key : setL (boxL (frB f ad cc gg) f1 hd s) (1 * 3) [.int .i64 (G.at 1).w, .int .i64 (G.at 1).h, .slice (some a) (restG f s hd g h 1).length c] = boxL (frB f (upN ad 1 a) (upN cc 1 c) (upN gg 1 (restG f s hd g h 1))) f1 hd s := by
          rw [w1, w2]; rfl
        rw [key] at hst
        refine Evp.some hst (Evp.ret ?_)
        refine Run.cut (Evp.of_eq (fun k => chain_run_restoration.p7475 k ..) ?_)
        have kk : KeepB b M (M1.set b ⟨.fx, boxL (frB f (upN ad 1 a) (upN cc 1 c) (upN gg 1 (restG f s hd g h 1))) f1 hd s⟩) := (p1.keepB b).trans (KeepB.set _ _ _)
        refine Evp.ret (hok _ (upN ad 1 a) (upN cc 1 c) (upN gg 1 (restG f s hd g h 1)) kk (by simp; omega) (fun _ => eP.1 k1) ⟨set_self (by omega), ?_, fun k hk => ?_⟩)
        · rw [eo] at b1
          refine st.own.upd kk hn ((b1.floor h0).keep (A := some ⟨b, 0, none⟩) (fun i x hx hne => by rw [List.getElem?_set_ne (hne _ rfl)]; exact hx) fun z e => by injection e with e; subst e; show b ≠ _; omega) nn (by omega) ?_ (by rw [ln]; exact hc)
          rw [← eo]; exact outW_bytes pG.by_
        · by_cases e : k = 1
          · subst e; simp only [upN, if_true]; rw [if_pos (by omega)]
          · simp only [upN, if_neg e]
            rw [st.eq k hk]
            by_cases e2 : k < 1
            · rw [if_pos e2, if_pos (by omega)]
            · rw [if_neg e2, if_neg (by omega)]
      · obtain ⟨rfl, p1⟩ := hq.not k1
        simp only [ret_int, ret_bool, ret_flt, ret_slc, ret_str, ret_ptr, ret_agg, ret_tup, ob_some, bb_true, bb_false, List.getElem?_cons_zero, List.getElem?_cons_succ, List.length_cons, List.length_nil, Nat.reduceAdd, Nat.reduceLT]
        exact Evp.tt rfl (Evp.ret (Run.ret (hbad M1 (p1.keepB b) p1.len fun e => k1 (eP.2 (e 1 (by omega) hr)))))
    · have hr : rest hd 1 = false := hr
      refine Evp.ret ?_
      refine Run.cut (Evp.of_eq (fun k => chain_run_restoration.p7475 k ..) ?_)
      refine Evp.ret (hok M ad cc gg (KeepB.refl _ _) (Nat.le_refl _) (fun e => by rw [hr] at e; cases e) ⟨hbox, st.own, fun k hk => ?_⟩)
      rw [st.eq k hk]
      by_cases e : k = 1
      · subst e; rw [if_neg (by omega), if_pos (by omega)]; unfold restG; rw [if_neg (by rw [hr]; decide)]
      · by_cases e2 : k < 1
        · rw [if_pos e2, if_pos (by omega)]
        · rw [if_neg e2, if_neg (by omega)]
  · refine Run.cut (Evp.of_eq (fun k => chain_run_restoration.p116 k ..) ?_)
    refine Evp.dec (fun _ => ?_) fun h => absurd h (by decide)
    refine Evp.pos (by decide) (Evp.some rfl (Evp.some rfl (Evp.some rfl (Evp.pos (by decide) (Evp.some (ld_bool hbox rfl rfl) ?_)))))
    refine Evp.bb (fun hr => ?_) fun hr => ?_
    · have hr : rest hd 2 = true := hr
      refine Evp.pos (by decide) (Evp.some (ld_int hbox rfl rfl) (Evp.some (ld_int hbox rfl rfl) (Evp.some (ld_slc hbox rfl rfl) (Evp.pos (by decide) (Evp.some (ld_slc hbox rfl rfl) ?_)))))
      refine Evp.ob (plane_ok lo (s.un 2).A (G.at 2).A (f1.at 2).A (s.un 2).c (G.at 2).c (f1.at 2).c (s.un 2).us (G.at 2).xs (f1.at 2).xs (G.at 2).w (G.at 2).h (f1.at 2).w (f1.at 2).h (sideS 2) M (by omega) hu.rd hu.wf hu.n pG.rd pf.rd pG.by_ pf.by_ pG.cap pf.cap) ?_
      rintro ⟨v, M1⟩ hq
      have eP : PlaneOk (s.un 2).us (G.at 2).w (G.at 2).h (G.at 2).xs.length (f1.at 2).w (f1.at 2).h (f1.at 2).xs.length (sideS 2) ↔ PlaneOk (s.un 2).us (f.at 2).w (f.at 2).h (f.at 2).xs.length (f.at 2).w (f.at 2).h (f.at 2).xs.length (sideN 2) := by
        rw [w1, w2, w3, v1, v2, v3, n1, n2, (sideS_eq 2).2]
      by_cases k1 : PlaneOk (s.un 2).us (G.at 2).w (G.at 2).h (G.at 2).xs.length (f1.at 2).w (f1.at 2).h (f1.at 2).xs.length (sideS 2)
      · obtain ⟨a, c, rfl, p1, hc, b1⟩ := hq.got k1
        simp only [ret_int, ret_bool, ret_flt, ret_slc, ret_str, ret_ptr, ret_agg, ret_tup, ob_some, bb_true, bb_false, List.getElem?_cons_zero, List.getElem?_cons_succ, List.length_cons, List.length_nil, Nat.reduceAdd, Nat.reduceLT]
        have l1 := p1.len
        have hbox1 := p1 _ _ hbox
        have nn := b1.new
        have eo : outW (s.un 2).us (G.at 2).xs (f1.at 2).xs (G.at 2).w.toNat (G.at 2).h.toNat (sideS 2).toNat = restG f s hd g h 2 := by
          unfold restG; rw [if_pos hr, w1, w2, w3, v3, (sideS_eq 2).1]
        have ln : (restG f s hd g h 2).length = (G.at 2).xs.length := by
          rw [← eo, outW_len]
          have := (checkS_len' k1.1).2.2.2.2
          have c1 := checkS_len' k1.1
          obtain ⟨W, hW⟩ := Int.eq_ofNat_of_zero_le (a := (G.at 2).w) (by omega)
          obtain ⟨Hh, hH⟩ := Int.eq_ofNat_of_zero_le (a := (G.at 2).h) (by omega)
          rw [hW, hH] at this ⊢
          rw [← Int.natCast_mul, Nat.mul_comm] at this
          simp only [Int.toNat_natCast]
          omega
        refine Evp.ff rfl (Evp.pos (by decide) ?_)
        rw [show (G.at 2).xs.length = (restG f s hd g h 2).length from ln.symm]
        have hst := fx_sts (lo := lo) (i := 2 * 3) (vs := [.int .i64 (G.at 2).w, .int .i64 (G.at 2).h, .slice (some a) (restG f s hd g h 2).length c]) hbox1 (by omega) (Nat.le_of_ble_eq_true rfl)
        have key : setL (boxL (frB f ad cc gg) f1 hd s) (2 * 3) [.int .i64 (G.at 2).w, .int .i64 (G.at 2).h, .slice (some a) (restG f s hd g h 2).length c] = boxL (frB f (upN ad 2 a) (upN cc 2 c) (upN gg 2 (restG f s hd g h 2))) f1 hd s := by
          rw [w1, w2]; rfl
        rw [key] at hst
        refine Evp.some hst (Evp.ret ?_)
        refine Run.cut (Evp.of_eq (fun k => chain_run_restoration.p7475 k ..) ?_)
        have kk : KeepB b M (M1.set b ⟨.fx, boxL (frB f (upN ad 2 a) (upN cc 2 c) (upN gg 2 (restG f s hd g h 2))) f1 hd s⟩) := (p1.keepB b).trans (KeepB.set _ _ _)
        refine Evp.ret (hok _ (upN ad 2 a) (upN cc 2 c) (upN gg 2 (restG f s hd g h 2)) kk (by simp; omega) (fun _ => eP.1 k1) ⟨set_self (by omega), ?_, fun k hk => ?_⟩)
        · rw [eo] at b1
          refine st.own.upd kk hn ((b1.floor h0).keep (A := some ⟨b, 0, none⟩) (fun i x hx hne => by rw [List.getElem?_set_ne (hne _ rfl)]; exact hx) fun z e => by injection e with e; subst e; show b ≠ _; omega) nn (by omega) ?_ (by rw [ln]; exact hc)
          rw [← eo]; exact outW_bytes pG.by_
        · by_cases e : k = 2
          · subst e; simp only [upN, if_true]; rw [if_pos (by omega)]
          · simp only [upN, if_neg e]
            rw [st.eq k hk]
            by_cases e2 : k < 2
            · rw [if_pos e2, if_pos (by omega)]
            · rw [if_neg e2, if_neg (by omega)]
      · obtain ⟨rfl, p1⟩ := hq.not k1
        simp only [ret_int, ret_bool, ret_flt, ret_slc, ret_str, ret_ptr, ret_agg, ret_tup, ob_some, bb_true, bb_false, List.getElem?_cons_zero, List.getElem?_cons_succ, List.length_cons, List.length_nil, Nat.reduceAdd, Nat.reduceLT]
        exact Evp.tt rfl (Evp.ret (Run.ret (hbad M1 (p1.keepB b) p1.len fun e => k1 (eP.2 (e 2 (by omega) hr)))))
    · have hr : rest hd 2 = false := hr
      refine Evp.ret ?_
      refine Run.cut (Evp.of_eq (fun k => chain_run_restoration.p7475 k ..) ?_)
      refine Evp.ret (hok M ad cc gg (KeepB.refl _ _) (Nat.le_refl _) (fun e => by rw [hr] at e; cases e) ⟨hbox, st.own, fun k hk => ?_⟩)
      rw [st.eq k hk]
      by_cases e : k = 2
      · subst e; rw [if_neg (by omega), if_pos (by omega)]; unfold restG; rw [if_neg (by rw [hr]; decide)]
      · by_cases e2 : k < 2
        · rw [if_pos e2, if_pos (by omega)]
        · rw [if_neg e2, if_neg (by omega)]
theorem restoration_ok (ad : Nat → Addr) (cc : Nat → Nat) (h1w : ∀ k, k < 3 → (f1.at k).w = (f.at k).w ∧ (f1.at k).h = (f.at k).h ∧ (f1.at k).xs = h k) (hln : ∀ k, k < 3 → (g k).length = (f.at k).xs.length ∧ (h k).length = (f.at k).xs.length)
    (M : Mem) (hp : Pre Mi M) (h0 : M0.length ≤ M.length) (hf1 : FrS M b f1) (hbox : M[b]? = some ⟨.fx, boxL (frB f ad cc g) f1 hd s⟩) (own : Own3 M0 M b ad cc g) :
    Ac P T lo F.chain_run_restoration [.pointer (some ⟨b, 0, none⟩)] M fun r => ∃ M', KeepB b M M' ∧ M.length ≤ M'.length ∧ ((RestP f s hd ∧ r = (.int .i64 0, M') ∧ ∃ ad' cc' gg, Own3 M0 M' b ad' cc' gg ∧ (∀ k, k < 3 → gg k = restG f s hd g h k) ∧ M'[b]? = some ⟨.fx, boxL (frB f ad' cc' gg) f1 hd s⟩) ∨ (¬ RestP f s hd ∧ r = (.int .i64 2, M'))) := by
  have hG := own.frS f
  have hGw : ∀ k, k < 3 → ((frB f ad cc g).at k).w = (f.at k).w ∧ ((frB f ad cc g).at k).h = (f.at k).h ∧ ((frB f ad cc g).at k).xs = g k := fun k hk => by
    rcases lt3 hk with rfl | rfl | rfl <;> exact ⟨rfl, rfl, rfl⟩
  refine Ac.of (Evp.of_eq (fun k => chain_run_restoration.entry k ..) ?_)
  refine Evp.some (ld_int hbox rfl rfl) (Evp.some (ld_int hbox rfl rfl) (Evp.some (ld_slc hbox rfl rfl) (Evp.some (ld_int hbox rfl rfl) (Evp.some (ld_int hbox rfl rfl) (Evp.some (ld_slc hbox rfl rfl) (Evp.some (ld_int hbox rfl rfl) (Evp.some (ld_int hbox rfl rfl) (Evp.some (ld_slc hbox rfl rfl) ?_))))))))
  have st0 : RestSt b f f1 hd s M0 g h 0 M ad cc g := ⟨hbox, own, fun k _ => by rw [if_neg (by omega)]⟩
  refine Evp.ret (rest_step lo b f f1 (frB f ad cc g) hd s Mi M0 g h hlo hb hs 0 (by omega) hGw h1w hln M hp h0 hG hf1 ad cc g st0 (fun M' k1 k2 k3 => ⟨M', k1, k2, .inr ⟨k3, rfl⟩⟩) fun M1 ad1 cc1 gg1 kb1 l1 o1 st1 => ?_)
  rw [show IntKind.i64.wrap (((0 : Nat) : Int) + 1) = ((1 : Nat) : Int) from by decide]
  refine rest_step lo b f f1 (frB f ad cc g) hd s Mi M0 g h hlo hb hs 1 (by omega) hGw h1w hln M1 (kb1.pre hp hb) (by omega) (hG.keepB kb1) (hf1.keepB kb1) ad1 cc1 gg1 st1 (fun M' k1 k2 k3 => ⟨M', kb1.trans k1, by omega, .inr ⟨k3, rfl⟩⟩) fun M2 ad2 cc2 gg2 kb2 l2 o2 st2 => ?_
  rw [show IntKind.i64.wrap (((1 : Nat) : Int) + 1) = ((2 : Nat) : Int) from by decide]
  refine rest_step lo b f f1 (frB f ad cc g) hd s Mi M0 g h hlo hb hs 2 (by omega) hGw h1w hln M2 (kb2.pre (kb1.pre hp hb) hb) (by omega) (hG.keepB (kb1.trans kb2)) (hf1.keepB (kb1.trans kb2)) ad2 cc2 gg2 st2 (fun M' k1 k2 k3 => ⟨M', (kb1.trans kb2).trans k1, by omega, .inr ⟨k3, rfl⟩⟩) fun M3 ad3 cc3 gg3 kb3 l3 o3 st3 => ?_
  rw [show IntKind.i64.wrap (((2 : Nat) : Int) + 1) = 3 from by decide]
  refine Run.cut (Evp.of_eq (fun k => chain_run_restoration.p116 k ..) ?_)
  refine Evp.dec (fun h => absurd h (by decide)) fun _ => Evp.ret (Run.ret ⟨M3, (kb1.trans kb2).trans kb3, by omega, .inl ⟨fun n hn => ?_, rfl, ad3, cc3, gg3, st3.own, fun k hk => by rw [st3.eq k hk, if_pos hk], st3.box⟩⟩)
  rcases lt3 hn with rfl | rfl | rfl
  · exact o1
  · exact o2
  · exact o3
end
def LossP (hd : Hd) : Prop := hd.h9 = 0 ∧ [hd.h10, hd.h11, hd.h12, hd.h13, hd.h14] = [0, 0, 0, 0, 0]
instance (hd : Hd) : Decidable (LossP hd) := inferInstanceAs (Decidable (_ ∧ _))
def HdWf (hd : Hd) : Prop := ∀ x ∈ [hd.h10, hd.h11, hd.h12, hd.h13, hd.h14], (Lit.int .i64 x).wf = true
theorem loss_ok (lo : Nat) (hd : Hd) (M : Mem) (hw : HdWf hd) : Ac P T lo F.quant_Lossless [.agg ⟨hd.cells⟩] M fun r => r = (.bool (decide (LossP hd)), M) := by
  refine Ac.of (Evp.of_eq (fun k => quant_Lossless.entry k ..) ?_)
  refine Evp.eqb (fun h => ?_) fun h => Evp.ret (Run.ret (by rw [decide_eq_false fun e => h e.1]))
  refine Evp.some (keyLits_ints (l := [hd.h10, hd.h11, hd.h12, hd.h13, hd.h14]) (d := 7) (e := 3) (n := 5) Go.Proofs.Try.underlying29 Go.Proofs.Try.underlying3 (by kernel_rfl) (by kernel_rfl) rfl hw) ?_
  refine Evp.some (keyLits_ints (l := [0, 0, 0, 0, 0]) (d := 7) (e := 3) (n := 5) Go.Proofs.Try.underlying29 Go.Proofs.Try.underlying3 (by kernel_rfl) (by kernel_rfl) rfl (by decide)) ?_
  rw [sameLits_ints]
  refine Evp.ret (Run.ret ?_)
  congr 2
  exact decide_eq_decide.2 ⟨fun e => ⟨h, e⟩, fun e => e.2⟩
theorem whole_pos {f : Fr3} (hw : WholeF f) : ∀ n, n < 3 → (f.at n).xs.length ≠ 0 ∧ (f.at n).xs.length ≤ 262144 := fun n hn => by
  have key : ∀ w h : Int, ∀ k : Nat, checkS w h k = 0 → k ≠ 0 ∧ k ≤ 262144 := fun w h k e => by
    have l := checkS_len' e
    have a := area ⟨l.1, l.2.1, l.2.2.1, l.2.2.2.1⟩
    omega
  rcases lt3 hn with rfl | rfl | rfl
  · exact key _ _ _ hw.1
  · exact key _ _ _ hw.2.2.2.1
  · exact key _ _ _ hw.2.2.2.2.2.2.1
theorem ccopied_ok (lo : Nat) (f : Fr3) (M : Mem) (hf : FrIn M f) (hw : WholeF f) (hlo : lo ≤ M.length) :
    Ac P T lo F.chain_copied [.agg ⟨f.cells⟩] M fun r => ∃ ad cc M', r = (.agg ⟨(frB f ad cc fun n => (f.at n).xs).cells⟩, M') ∧ Pre M M' ∧ ∀ b, M'.length ≤ b → Own3 M M' b ad cc fun n => (f.at n).xs := by
  have l0 := whole_pos hw 0 (by omega)
  have l1 := whole_pos hw 1 (by omega)
  have l2 := whole_pos hw 2 (by omega)
  refine Ac.of (Evp.of_eq (fun k => chain_copied.entry k ..) ?_)
  refine Evp.ret ?_
  refine Run.cut (Evp.of_eq (fun k => chain_copied.p52 k ..) ?_)
  refine Evp.tt rfl (Evp.pos (by decide) (Evp.some rfl ?_))
  refine Evp.ob (clone_ok lo f.p0.A f.p0.c f.p0.xs M (hf.rd 0 (by omega)) l0.1 (Nat.le_trans l0.2 (by decide)) hlo) ?_
  rintro _ ⟨a0, d0, M1, rfl, p1, q0, b0⟩
  simp only [ret_int, ret_bool, ret_flt, ret_slc, ret_str, ret_ptr, ret_agg, ret_tup, ob_some, bb_true, bb_false, List.getElem?_cons_zero, List.getElem?_cons_succ, List.length_cons, List.length_nil, Nat.reduceAdd, Nat.reduceLT]
  refine Evp.pos (by decide) (Evp.pos (Nat.le_of_ble_eq_true rfl) ?_)
  rw [show IntKind.i64.wrap (0 + 1) = 1 from by decide]
  refine Evp.ret ?_
  have m1 := p1.len
  refine Run.cut (Evp.of_eq (fun k => chain_copied.p52 k ..) ?_)
  refine Evp.tt rfl (Evp.pos (by decide) (Evp.some rfl ?_))
  refine Evp.ob (clone_ok lo f.p1.A f.p1.c f.p1.xs M1 ((hf.rd 1 (by omega)).pre p1) l1.1 (Nat.le_trans l1.2 (by decide)) (by omega)) ?_
  rintro _ ⟨a1, d1, M2, rfl, p2, q1, b1⟩
  simp only [ret_int, ret_bool, ret_flt, ret_slc, ret_str, ret_ptr, ret_agg, ret_tup, ob_some, bb_true, bb_false, List.getElem?_cons_zero, List.getElem?_cons_succ, List.length_cons, List.length_nil, Nat.reduceAdd, Nat.reduceLT]
  refine Evp.pos (by decide) (Evp.pos (Nat.le_of_ble_eq_true rfl) ?_)
  rw [show IntKind.i64.wrap (1 + 1) = 2 from by decide]
  refine Evp.ret ?_
  have m2 := p2.len
  refine Run.cut (Evp.of_eq (fun k => chain_copied.p52 k ..) ?_)
  refine Evp.tt rfl (Evp.pos (by decide) (Evp.some rfl ?_))
  refine Evp.ob (clone_ok lo f.p2.A f.p2.c f.p2.xs M2 ((hf.rd 2 (by omega)).pre (p1.trans p2)) l2.1 (Nat.le_trans l2.2 (by decide)) (by omega)) ?_
  rintro _ ⟨a2, d2, M3, rfl, p3, q2, b2⟩
  simp only [ret_int, ret_bool, ret_flt, ret_slc, ret_str, ret_ptr, ret_agg, ret_tup, ob_some, bb_true, bb_false, List.getElem?_cons_zero, List.getElem?_cons_succ, List.length_cons, List.length_nil, Nat.reduceAdd, Nat.reduceLT]
  refine Evp.pos (by decide) (Evp.pos (Nat.le_of_ble_eq_true rfl) ?_)
  rw [show IntKind.i64.wrap (2 + 1) = 3 from by decide]
  refine Evp.ret ?_
  refine Run.cut (Evp.of_eq (fun k => chain_copied.p52 k ..) ?_)
  refine Evp.ff rfl ?_
  refine Evp.some rfl (Evp.some rfl (Evp.some rfl (Evp.some rfl (Evp.some rfl (Evp.some rfl (Evp.some rfl (Evp.some rfl (Evp.some rfl ?_))))))))
  have i0 := b0.in_
  have i1 := b1.in_
  have i2 := b2.in_
  have n1 := b1.new
  have n2 := b2.new
  have m3 := p3.len
  refine Evp.ret (Run.ret ⟨pick3 a0 a1 a2, pick3 d0 d1 d2, M3, rfl, (p1.trans p2).trans p3, fun b hb => ⟨fun n hn => ?_, fun n hn => ?_, fun n hn => hf.by_ n hn, fun n hn => ?_, fun m n hm hn hmn => ?_⟩⟩)
  · rcases lt3 hn with rfl | rfl | rfl
    · exact b0.pre (p2.trans p3)
    · exact (b1.floor m1).pre p3
    · exact b2.floor (by omega)
  · rcases lt3 hn with rfl | rfl | rfl
    · show a0.block ≠ b; omega
    · show a1.block ≠ b; omega
    · show a2.block ≠ b; omega
  · rcases lt3 hn with rfl | rfl | rfl
    · exact q0
    · exact q1
    · exact q2
  · have z : a0.block ≠ a1.block ∧ a0.block ≠ a2.block ∧ a1.block ≠ a2.block := ⟨by omega, by omega, by omega⟩
    rcases lt3 hm with rfl | rfl | rfl <;> rcases lt3 hn with rfl | rfl | rfl
    · exact absurd rfl hmn
    · exact z.1
    · exact z.2.1
    · exact z.1.symm
    · exact absurd rfl hmn
    · exact z.2.2
    · exact z.2.1.symm
    · exact z.2.2.symm
    · exact absurd rfl hmn
def RunP (f : Fr3) (s : SideV) (hd : Hd) (L : List Int) : Prop := WholeF f ∧ f.p0.w % 8 = 0 ∧ f.p0.h % 8 = 0 ∧ (LossP hd ∨ (PassesP f s hd ∧ DirP f s hd L ∧ RestP f s hd))
noncomputable def runS (f : Fr3) (s : SideV) (hd : Hd) (L : List Int) (n : Nat) : List Int := if LossP hd then (f.at n).xs else restG f s hd (g2 f s hd L) (g1 f s hd) n
def RunR (f : Fr3) (s : SideV) (hd : Hd) (L : List Int) (M : Mem) (r : Value × Mem) : Prop :=
  Pre M r.2 ∧ ((RunP f s hd L ∧ ∃ b ad cc gg, r.1 = .tuple ⟨[.agg ⟨(frB f ad cc gg).cells⟩, .int .i64 0]⟩ ∧ Own3 M r.2 b ad cc gg ∧ ∀ n, n < 3 → gg n = runS f s hd L n) ∨ (¬ RunP f s hd L ∧ r.1 = .tuple ⟨[.agg ⟨zeroF⟩, .int .i64 2]⟩))
abbrev zFr : Fr3 := ⟨⟨0, 0, none, 0, []⟩, ⟨0, 0, none, 0, []⟩, ⟨0, 0, none, 0, []⟩⟩
section
variable (lo : Nat) (f : Fr3) (s : SideV) (hd : Hd) (L : List Int) (M : Mem)
variable (hlo : lo ≤ M.length) (hf : FrIn M f) (hs : SideOk M s) (hL : Rd M hd.A hd.n 4 (L.map (Value.int .i64))) (hwf : HdWf hd)
include hlo hf hs hL hwf
omit hf hwf in
theorem run_loop (hw : WholeF f) (h2 : f.p0.w % 8 = 0) (h3 : f.p0.h % 8 = 0) (hno : ¬ LossP hd) (b B : Nat) (ad : Nat → Addr) (cc : Nat → Nat) (M3 : Mem) (p3 : Pre M M3) (hb : M.length ≤ b) (hB : B ≠ b)
    (hbox : M3[b]? = some ⟨.fx, boxL (frB f ad cc fun n => (f.at n).xs) zFr hd s⟩) (hfn : M3[B]? = some ⟨.fx, [.func (.func F.chain_run_passes) ⟨[.pointer (some ⟨b, 0, none⟩)]⟩ ⟨[]⟩, .func (.func F.chain_run_directions) ⟨[.pointer (some ⟨b, 0, none⟩)]⟩ ⟨[]⟩, .func (.func F.chain_run_restoration) ⟨[.pointer (some ⟨b, 0, none⟩)]⟩ ⟨[]⟩]⟩)
    (own : Own3 M M3 b ad cc fun n => (f.at n).xs) :
    Run P T lo F.chain_Run (chain_Run.c500 ⟨b, 0, none⟩ (some ⟨B, 0, none⟩) 3 3 3 0 0 0 none 0 0 0 0 none 0 0 0 0 none 0 0 M3) (RunR f s hd L M) := by
  have bad : ∀ M', Pre M M' → ¬ RunP f s hd L → Run P T lo F.chain_Run (.ret (.tuple ⟨[.agg ⟨zeroF⟩, .int .i64 2]⟩) M') (RunR f s hd L M) := fun M' hp hno => Run.ret ⟨hp, .inr ⟨hno, rfl⟩⟩
  have no : (¬ PassesP f s hd ∨ ¬ DirP f s hd L ∨ ¬ RestP f s hd) → ¬ RunP f s hd L := fun h e => by
    rcases e.2.2.2 with e | e
    · exact hno e
    · rcases h with h | h | h
      · exact h e.1
      · exact h e.2.1
      · exact h e.2.2
  have l3 := p3.len
  have fn : ∀ (M' : Mem) (k : Nat) (v : Value), M'[B]? = some ⟨.fx, [.func (.func F.chain_run_passes) ⟨[.pointer (some ⟨b, 0, none⟩)]⟩ ⟨[]⟩, .func (.func F.chain_run_directions) ⟨[.pointer (some ⟨b, 0, none⟩)]⟩ ⟨[]⟩, .func (.func F.chain_run_restoration) ⟨[.pointer (some ⟨b, 0, none⟩)]⟩ ⟨[]⟩]⟩ →
      ([.func (.func F.chain_run_passes) ⟨[.pointer (some ⟨b, 0, none⟩)]⟩ ⟨[]⟩, .func (.func F.chain_run_directions) ⟨[.pointer (some ⟨b, 0, none⟩)]⟩ ⟨[]⟩, .func (.func F.chain_run_restoration) ⟨[.pointer (some ⟨b, 0, none⟩)]⟩ ⟨[]⟩] : List Value)[k]? = some v → v.oneCell' = true → (M'.ld (plus ⟨B, 0, none⟩ k)).bind Value.one? = some v := fun M' k v h1 h2 h3 => by
    rw [fx_ldp h1, h2]
    show Value.one? v = some v
    unfold Value.one?
    rw [h3]
  -- the three steps
  refine Run.cut (Evp.of_eq (fun k => chain_Run.p500 k ..) ?_)
  refine Evp.dec (fun _ => ?_) fun h => absurd h (by decide)
  refine Evp.pos (by decide) (Evp.some rfl (Evp.some (fn M3 0 _ hfn rfl rfl) (Evp.some rfl ?_)))
  refine Evp.ob (passes_ok lo b (frB f ad cc fun n => (f.at n).xs) zFr hd s M hlo hb hs M3 p3 hbox (own.frS f) fun n hn => ?_) ?_
  · have := (whole_pos hw n hn).2
    rcases lt3 hn with rfl | rfl | rfl <;> exact this
  have at_ : ∀ n, n < 3 → ((frB f ad cc fun n => (f.at n).xs).at n).w = (f.at n).w ∧ ((frB f ad cc fun n => (f.at n).xs).at n).h = (f.at n).h ∧ ((frB f ad cc fun n => (f.at n).xs).at n).xs = (f.at n).xs := fun n hn => by
    rcases lt3 hn with rfl | rfl | rfl <;> exact ⟨rfl, rfl, rfl⟩
  have ePass : PassesP (frB f ad cc fun n => (f.at n).xs) s hd ↔ PassesP f s hd := by
    have e1 : ∀ n, n < 3 → ∀ lv, PassP ((frB f ad cc fun n => (f.at n).xs).at n) (s.map n) lv hd.h22 ↔ PassP (f.at n) (s.map n) lv hd.h22 := fun n hn lv => by
      obtain ⟨a1, a2, a3⟩ := at_ n hn
      unfold PassP
      rw [a1, a2, a3]
    exact ⟨fun h n hn => ⟨(e1 n hn _).1 (h n hn).1, (e1 n hn _).1 (h n hn).2⟩, fun h n hn => ⟨(e1 n hn _).2 (h n hn).1, (e1 n hn _).2 (h n hn).2⟩⟩
  have eg1 : ∀ n, n < 3 → g1 (frB f ad cc fun n => (f.at n).xs) s hd n = g1 f s hd n := fun n hn => by
    obtain ⟨a1, a2, a3⟩ := at_ n hn
    unfold g1 ly2 up1
    rw [a1, a2, a3]
  rintro ⟨v, M4⟩ ⟨M4', kb4, l4, hr⟩
  rcases hr with ⟨hpass, e, ad1, cc1, own1, hbox1⟩ | ⟨hpass, e⟩
  rotate_left
  · injection e with e1 e2; subst e1 e2
    simp only [ret_int, ret_bool, ret_flt, ret_slc, ret_str, ret_ptr, ret_agg, ret_tup, ob_some, bb_true, bb_false, List.getElem?_cons_zero, List.getElem?_cons_succ, List.length_cons, List.length_nil, Nat.reduceAdd, Nat.reduceLT]
    exact Evp.tt rfl (Evp.ret (bad M4 (kb4.pre p3 hb) (no (.inl fun e => hpass (ePass.2 e)))))
  injection e with e1 e2; subst e1 e2
  simp only [ret_int, ret_bool, ret_flt, ret_slc, ret_str, ret_ptr, ret_agg, ret_tup, ob_some, bb_true, bb_false, List.getElem?_cons_zero, List.getElem?_cons_succ, List.length_cons, List.length_nil, Nat.reduceAdd, Nat.reduceLT]
  refine Evp.ff rfl (Evp.ret ?_)
  rw [show IntKind.i64.wrap (0 + 1) = 1 from by decide]
  have hpass := ePass.1 hpass
  have p4 : Pre M M4 := kb4.pre p3 hb
  have efr : frB (frB f ad cc fun n => (f.at n).xs) ad1 cc1 (g1 (frB f ad cc fun n => (f.at n).xs) s hd) = frB f ad1 cc1 (g1 f s hd) := by
    show frB f ad1 cc1 (g1 (frB f ad cc fun n => (f.at n).xs) s hd) = _
    simp only [frB, eg1 0 (by omega), eg1 1 (by omega), eg1 2 (by omega)]
  rw [efr] at hbox1
  have own1 : Own3 M M4 b ad1 cc1 (g1 f s hd) := by
    have o := own1.floor (M0 := M) l3
    exact ⟨fun n hn => by rw [← eg1 n hn]; exact o.buf n hn, o.nb, fun n hn => by rw [← eg1 n hn]; exact o.by_ n hn, fun n hn => by rw [← eg1 n hn]; exact o.cap n hn, o.ne⟩
  have hfn4 := kb4 _ _ hfn hB
  refine Run.cut (Evp.of_eq (fun k => chain_Run.p500 k ..) ?_)
  refine Evp.dec (fun _ => ?_) fun h => absurd h (by decide)
  refine Evp.pos (by decide) (Evp.some rfl (Evp.some (fn M4 1 _ hfn4 rfl rfl) (Evp.some rfl ?_)))
  refine Evp.ob (directions_ok lo b (frB f ad1 cc1 (g1 f s hd)) (frB f ad1 cc1 (g1 f s hd)) hd s L M hlo hb M4 p4 hs hL hbox1 (own1.frS f)) ?_
  rintro ⟨v, M5⟩ ⟨M5', kb5, l5, hr⟩
  have eDir := frB_dir (s := s) (hd := hd) (L := L) (ad := ad1) (cc := cc1) (g := g1 f s hd) fun n hn => g1_len f s hd n
  rcases hr with ⟨hdir, e, ad2, cc2, own2, len2, hbox2⟩ | ⟨hdir, e⟩
  rotate_left
  · injection e with e1 e2; subst e1 e2
    simp only [ret_int, ret_bool, ret_flt, ret_slc, ret_str, ret_ptr, ret_agg, ret_tup, ob_some, bb_true, bb_false, List.getElem?_cons_zero, List.getElem?_cons_succ, List.length_cons, List.length_nil, Nat.reduceAdd, Nat.reduceLT]
    exact Evp.tt rfl (Evp.ret (bad M5 (kb5.pre p4 hb) (no (.inr (.inl fun e => hdir (eDir.2 e))))))
  injection e with e1 e2; subst e1 e2
  simp only [ret_int, ret_bool, ret_flt, ret_slc, ret_str, ret_ptr, ret_agg, ret_tup, ob_some, bb_true, bb_false, List.getElem?_cons_zero, List.getElem?_cons_succ, List.length_cons, List.length_nil, Nat.reduceAdd, Nat.reduceLT]
  refine Evp.ff rfl (Evp.ret ?_)
  rw [show IntKind.i64.wrap (1 + 1) = 2 from by decide]
  have hdir := eDir.1 hdir
  have p5 : Pre M M5 := kb5.pre p4 hb
  have eg2 : ∀ n, n < 3 → outF (frB f ad1 cc1 (g1 f s hd)) s.qs s.ws hd L n = g2 f s hd L n := fun n hn => frB_out n hn
  have len2' : ∀ n, n < 3 → (g2 f s hd L n).length = (f.at n).xs.length := fun n hn => by
    rw [← eg2 n hn, len2 n hn]
    rcases lt3 hn with rfl | rfl | rfl <;> exact g1_len f s hd _
  have own2 : Own3 M M5 b ad2 cc2 (g2 f s hd L) := by
    have o := own2.floor (M0 := M) (by omega)
    exact ⟨fun n hn => by rw [← eg2 n hn]; exact o.buf n hn, o.nb, fun n hn => by rw [← eg2 n hn]; exact o.by_ n hn, fun n hn => by rw [← eg2 n hn]; exact o.cap n hn, o.ne⟩
  have hbox2 : M5[b]? = some ⟨.fx, boxL (frB f ad2 cc2 (g2 f s hd L)) (frB f ad1 cc1 (g1 f s hd)) hd s⟩ := by
    have e : frB (frB f ad1 cc1 (g1 f s hd)) ad2 cc2 (outF (frB f ad1 cc1 (g1 f s hd)) s.qs s.ws hd L) = frB f ad2 cc2 (g2 f s hd L) := by
      show frB f ad2 cc2 (outF (frB f ad1 cc1 (g1 f s hd)) s.qs s.ws hd L) = _
      simp only [frB, eg2 0 (by omega), eg2 1 (by omega), eg2 2 (by omega)]
    rw [e] at hbox2
    exact hbox2
  have hfn5 := kb5 _ _ hfn4 hB
  have fr1 : FrS M5 b (frB f ad1 cc1 (g1 f s hd)) := (own1.keepB kb5).frS f
  refine Run.cut (Evp.of_eq (fun k => chain_Run.p500 k ..) ?_)
  refine Evp.dec (fun _ => ?_) fun h => absurd h (by decide)
  refine Evp.pos (by decide) (Evp.some rfl (Evp.some (fn M5 2 _ hfn5 rfl rfl) (Evp.some rfl ?_)))
  refine Evp.ob (restoration_ok lo b f (frB f ad1 cc1 (g1 f s hd)) hd s M M (g2 f s hd L) (g1 f s hd) hlo hb hs ad2 cc2 (fun n hn => by rcases lt3 hn with rfl | rfl | rfl <;> exact ⟨rfl, rfl, rfl⟩) (fun n hn => ⟨len2' n hn, g1_len f s hd n⟩) M5 p5 (by omega) fr1 hbox2 own2) ?_
  rintro ⟨v, M6⟩ ⟨M6', kb6, l6, hr⟩
  rcases hr with ⟨hrest, e, ad3, cc3, gg, own3, eqg, hbox3⟩ | ⟨hrest, e⟩
  rotate_left
  · injection e with e1 e2; subst e1 e2
    simp only [ret_int, ret_bool, ret_flt, ret_slc, ret_str, ret_ptr, ret_agg, ret_tup, ob_some, bb_true, bb_false, List.getElem?_cons_zero, List.getElem?_cons_succ, List.length_cons, List.length_nil, Nat.reduceAdd, Nat.reduceLT]
    exact Evp.tt rfl (Evp.ret (bad M6 (kb6.pre p5 hb) (no (.inr (.inr hrest)))))
  injection e with e1 e2; subst e1 e2
  simp only [ret_int, ret_bool, ret_flt, ret_slc, ret_str, ret_ptr, ret_agg, ret_tup, ob_some, bb_true, bb_false, List.getElem?_cons_zero, List.getElem?_cons_succ, List.length_cons, List.length_nil, Nat.reduceAdd, Nat.reduceLT]
  refine Evp.ff rfl (Evp.ret ?_)
  rw [show IntKind.i64.wrap (2 + 1) = 3 from by decide]
  refine Run.cut (Evp.of_eq (fun k => chain_Run.p500 k ..) ?_)
  refine Evp.dec (fun h => absurd h (by decide)) fun _ => ?_
  refine Evp.some (ld_int hbox3 rfl rfl) (Evp.some (ld_int hbox3 rfl rfl) (Evp.some (ld_slc hbox3 rfl rfl) (Evp.some (ld_int hbox3 rfl rfl) (Evp.some (ld_int hbox3 rfl rfl) (Evp.some (ld_slc hbox3 rfl rfl) (Evp.some (ld_int hbox3 rfl rfl) (Evp.some (ld_int hbox3 rfl rfl) (Evp.some (ld_slc hbox3 rfl rfl) ?_))))))))
  exact Evp.ret (Run.ret ⟨kb6.pre p5 hb, .inl ⟨⟨hw, h2, h3, .inr ⟨hpass, hdir, hrest⟩⟩, b, ad3, cc3, gg, rfl, own3, fun n hn => by rw [eqg n hn]; unfold runS; rw [if_neg hno]⟩⟩)
theorem run_ok : Ac P T lo F.chain_Run [.agg ⟨f.cells⟩, .agg ⟨hd.cells⟩, .agg ⟨s.cells⟩] M (RunR f s hd L M) := by
  have bad : ∀ M', Pre M M' → ¬ RunP f s hd L → Run P T lo F.chain_Run (.ret (.tuple ⟨[.agg ⟨zeroF⟩, .int .i64 2]⟩) M') (RunR f s hd L M) := fun M' hp hno => Run.ret ⟨hp, .inr ⟨hno, rfl⟩⟩
  refine Ac.of (Evp.of_eq (fun k => chain_Run.entry k ..) ?_)
  refine Evp.ob (whole_ok ..) ?_
  rintro _ rfl
  simp only [ret_int, ret_bool, ret_flt, ret_slc, ret_str, ret_ptr, ret_agg, ret_tup, ob_some, bb_true, bb_false, List.getElem?_cons_zero, List.getElem?_cons_succ, List.length_cons, List.length_nil, Nat.reduceAdd, Nat.reduceLT]
  refine Evp.neb (fun h => Evp.ret (bad M (Pre.refl M) fun e => h (by unfold wholeS; exact if_pos e.1))) fun h1 => ?_
  have hw : WholeF f := by
    unfold wholeS at h1
    split at h1
    · assumption
    · cases h1
  have sw : sideP f.p0.w := hw.2.1
  have sh : sideP f.p0.h := hw.2.2.1
  unfold sideP at sw sh
  rw [Int.tmod_eq_emod_of_nonneg (a := f.p0.w) (by omega), Int.tmod_eq_emod_of_nonneg (a := f.p0.h) (by omega)]
  refine Evp.neb (fun h => Evp.ret (bad M (Pre.refl M) fun e => h e.2.1)) fun h2 => ?_
  refine Evp.neb (fun h => Evp.ret (bad M (Pre.refl M) fun e => h e.2.2.1)) fun h3 => ?_
  refine Evp.ob (ccopied_ok _ f M hf hw (by omega)) ?_
  rintro _ ⟨ad, cc, M1, rfl, p1, own0⟩
  simp only [ret_int, ret_bool, ret_flt, ret_slc, ret_str, ret_ptr, ret_agg, ret_tup, ob_some, bb_true, bb_false, List.getElem?_cons_zero, List.getElem?_cons_succ, List.length_cons, List.length_nil, Nat.reduceAdd, Nat.reduceLT]
  have l1 := p1.len
  have hbox := push_self M1 ⟨.fx, boxL (frB f ad cc fun n => (f.at n).xs) zFr hd s⟩
  have p2 : Pre M1 (M1 ++ [⟨.fx, boxL (frB f ad cc fun n => (f.at n).xs) zFr hd s⟩] : Mem) := Pre.app _ _
  have l2 : (M1 ++ [⟨.fx, boxL (frB f ad cc fun n => (f.at n).xs) zFr hd s⟩] : Mem).length = M1.length + 1 := by simp
  have own := (own0 M1.length (Nat.le_refl _)).keepB (p2.keepB M1.length)
  refine Evp.ob (loss_ok lo hd _ hwf) ?_
  rintro _ rfl
  simp only [ret_int, ret_bool, ret_flt, ret_slc, ret_str, ret_ptr, ret_agg, ret_tup, ob_some, bb_true, bb_false, List.getElem?_cons_zero, List.getElem?_cons_succ, List.length_cons, List.length_nil, Nat.reduceAdd, Nat.reduceLT]
  refine Evp.dec (fun hl => ?_) fun hl => ?_
  · refine Evp.some (ld_int hbox rfl rfl) (Evp.some (ld_int hbox rfl rfl) (Evp.some (ld_slc hbox rfl rfl) (Evp.some (ld_int hbox rfl rfl) (Evp.some (ld_int hbox rfl rfl) (Evp.some (ld_slc hbox rfl rfl) (Evp.some (ld_int hbox rfl rfl) (Evp.some (ld_int hbox rfl rfl) (Evp.some (ld_slc hbox rfl rfl) ?_))))))))
    exact Evp.ret (Run.ret ⟨p1.trans p2, .inl ⟨⟨hw, h2, h3, .inl hl⟩, M1.length, ad, cc, _, rfl, own, fun n hn => by unfold runS; rw [if_pos hl]⟩⟩)
  · obtain ⟨M2, hM2⟩ : ∃ M2 : Mem, M2 = (M1 ++ [⟨.fx, boxL (frB f ad cc fun n => (f.at n).xs) zFr hd s⟩] : Mem) := ⟨_, rfl⟩
    rw [← hM2] at hbox p2 l2 own
    have p3 := Pre.app M2 [⟨.fx, [.func (.func F.chain_run_passes) ⟨[.pointer (some ⟨M1.length, 0, none⟩)]⟩ ⟨[]⟩, .func (.func F.chain_run_directions) ⟨[.pointer (some ⟨M1.length, 0, none⟩)]⟩ ⟨[]⟩, .func (.func F.chain_run_restoration) ⟨[.pointer (some ⟨M1.length, 0, none⟩)]⟩ ⟨[]⟩]⟩]
    have := run_loop lo f s hd L M hlo hs hL hw h2 h3 hl M1.length M2.length ad cc _ ((p1.trans p2).trans p3) l1 (by omega) (p3 _ _ hbox) (push_self _ _) (own.keepB (p3.keepB _))
    subst hM2
    exact Evp.ret this
end
end Go.Zt
