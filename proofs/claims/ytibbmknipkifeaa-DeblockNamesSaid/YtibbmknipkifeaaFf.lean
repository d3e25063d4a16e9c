/- Narrow filters. -/
import Derived.Test.YtibbmknipkifeaaFe
set_option linter.unusedVariables false
set_option linter.unusedSimpArgs false
set_option maxRecDepth 100000
namespace Go.Zt
def hevP (xs : List Int) (t : Int) : Prop := farE xs (-2) (-1) > t ∨ farE xs 1 0 > t
instance (xs : List Int) (t : Int) : Decidable (hevP xs t) := inferInstanceAs (Decidable (_ ∨ _))
def cB (v : Int) : Int := clipS v (-128) 127
def fE0 (xs : List Int) (t : Int) : Int := if hevP xs t then cB (atE xs (-2) - atE xs 1) else 0
def fE (xs : List Int) (t : Int) : Int := cB (fE0 xs t + 3 * (atE xs 0 - atE xs (-1)))
def aE (xs : List Int) (t : Int) : Int := cB (fE xs t + 4) / 8
def bE (xs : List Int) (t : Int) : Int := cB (fE xs t + 3) / 8
def dE (xs : List Int) (t : Int) : Int := (aE xs t + 1) / 2
def narrowL (xs : List Int) (t : Int) : List Int :=
  if hevP xs t then (xs.set (xs.length / 2) (clipS (atE xs 0 - aE xs t) 0 255)).set (xs.length / 2 - 1) (clipS (atE xs (-1) + bE xs t) 0 255)
  else (((xs.set (xs.length / 2) (clipS (atE xs 0 - aE xs t) 0 255)).set (xs.length / 2 - 1) (clipS (atE xs (-1) + bE xs t) 0 255)).set (xs.length / 2 + 1) (clipS (atE xs 1 - dE xs t) 0 255)).set (xs.length / 2 - 2) (clipS (atE xs (-2) + dE xs t) 0 255)
theorem cB_le (v : Int) : -128 ≤ cB v ∧ cB v ≤ 127 := clipS_le (by decide)
theorem c_ok (lo : Nat) (v : Int) (M : Mem) : Ac P T lo F.zoetroperef22_c [.int .i64 v] M fun r => r = (.int .i64 (cB v), M) := by
  refine Ac.of (Evp.of_eq (fun k => zoetroperef22_c.entry k ..) ?_)
  refine Evp.ob (clip_ok ..) ?_
  rintro _ rfl
  simp only [ret_int, ret_bool, ret_flt, ret_slc, ret_str, ret_ptr, ret_agg, ret_tup, ob_some, bb_true, bb_false, List.getElem?_cons_zero, List.getElem?_cons_succ, List.length_cons, List.length_nil, Nat.reduceAdd, Nat.reduceLT]
  exact Evp.ret (Run.ret rfl)
theorem n1_ok (lo : Nat) (v : Int) (M : Mem) : Ac P T lo F.deblock_line_narrow_1 [.int .i64 v] M fun r => r = (.int .i64 (cB v), M) := by
  refine Ac.of (Evp.of_eq (fun k => deblock_line_narrow_1.entry k ..) ?_)
  refine Evp.ob (dclip_ok _ _ _ _ _ (by decide)) ?_
  rintro _ rfl
  simp only [ret_int, ret_bool, ret_flt, ret_slc, ret_str, ret_ptr, ret_agg, ret_tup, ob_some, bb_true, bb_false, List.getElem?_cons_zero, List.getElem?_cons_succ, List.length_cons, List.length_nil, Nat.reduceAdd, Nat.reduceLT]
  exact Evp.ret (Run.ret rfl)
theorem shr3 (z : Int) : shrI .i64 z 3 = z / 8 := by rw [shr_eq 3 (by omega)]; rfl
theorem shr1 (z : Int) : shrI .i64 z 1 = z / 2 := by rw [shr_eq 1 (by omega)]; rfl
theorem rnarrow_ok (lo : Nat) (A : Option Addr) (c : Nat) (xs : List Int) (M : Mem) (level : Int) (hlo : lo ≤ M.length) (hx : RdI M .u8 A xs) (bx : Bytes xs) (hn : xs.length ≤ 1000) (h2 : 2 * (xs.length / 2) = xs.length) (h4 : 4 ≤ xs.length) (hl : 0 ≤ level ∧ level ≤ 63) :
    Ac P T lo F.zoetroperef22_narrow [.slice A xs.length c, .int .i64 level] M fun r => ∃ a cc M', r = (.slice (some a) xs.length cc, M') ∧ Pre M M' ∧ Buf M M' a ((narrowL xs (level / 16)).map (Value.int .u8)) := by
  have e : Int.tdiv (xs.length : Int) 2 = ((xs.length / 2 : Nat) : Int) := rfl
  have te : IntKind.i64.wrap (Int.tdiv level 16) = level / 16 := by rw [Int.tdiv_eq_ediv_of_nonneg hl.1]; exact w64 (by omega)
  have v1 := atE_le xs bx (-2)
  have v2 := atE_le xs bx (-1)
  have v3 := atE_le xs bx 0
  have v4 := atE_le xs bx 1
  have ret : ∀ (a : Addr) (cc : Nat) (M' : Mem), Pre M M' → Buf M M' a ((narrowL xs (level / 16)).map (Value.int .u8)) → Run P T lo F.zoetroperef22_narrow (zoetroperef22_narrow.c16383 (some a) xs.length cc M') fun r => ∃ a cc M', r = (.slice (some a) xs.length cc, M') ∧ Pre M M' ∧ Buf M M' a ((narrowL xs (level / 16)).map (Value.int .u8)) := fun a cc M' hp hb => by
    refine Run.cut (Evp.of_eq (fun k => zoetroperef22_narrow.p16383 k ..) ?_)
    exact Evp.ret (Run.ret ⟨a, cc, M', rfl, hp, hb⟩)
  have fin : ∀ (b : Bool), (b = true ↔ hevP xs (level / 16)) → Run P T lo F.zoetroperef22_narrow (zoetroperef22_narrow.c63 A xs.length c b (fE0 xs (level / 16)) M) fun r => ∃ a cc M', r = (.slice (some a) xs.length cc, M') ∧ Pre M M' ∧ Buf M M' a ((narrowL xs (level / 16)).map (Value.int .u8)) := fun b hb => by
    have hf0 : -128 ≤ fE0 xs (level / 16) ∧ fE0 xs (level / 16) ≤ 127 := by
      unfold fE0; split
      · exact cB_le _
      · omega
    refine Run.cut (Evp.of_eq (fun k => zoetroperef22_narrow.p63 k ..) ?_)
    refine Evp.ob (rat_ok _ _ _ _ _ hx bx hn 0 (by omega) (by omega)) ?_
    rintro _ rfl
    simp only [ret_int, ret_bool, ret_flt, ret_slc, ret_str, ret_ptr, ret_agg, ret_tup, ob_some, bb_true, bb_false, List.getElem?_cons_zero, List.getElem?_cons_succ, List.length_cons, List.length_nil, Nat.reduceAdd, Nat.reduceLT]
    refine Evp.ob (rat_ok _ _ _ _ _ hx bx hn (-1) (by omega) (by omega)) ?_
    rintro _ rfl
    simp only [ret_int, ret_bool, ret_flt, ret_slc, ret_str, ret_ptr, ret_agg, ret_tup, ob_some, bb_true, bb_false, List.getElem?_cons_zero, List.getElem?_cons_succ, List.length_cons, List.length_nil, Nat.reduceAdd, Nat.reduceLT]
    rw [w64 (x := atE xs 0 - atE xs (-1)) (by omega), w64 (x := 3 * (atE xs 0 - atE xs (-1))) (by omega), w64 (x := fE0 xs (level / 16) + 3 * (atE xs 0 - atE xs (-1))) (by omega)]
    refine Evp.ob (c_ok ..) ?_
    rintro _ rfl
    simp only [ret_int, ret_bool, ret_flt, ret_slc, ret_str, ret_ptr, ret_agg, ret_tup, ob_some, bb_true, bb_false, List.getElem?_cons_zero, List.getElem?_cons_succ, List.length_cons, List.length_nil, Nat.reduceAdd, Nat.reduceLT]
    rw [show cB (fE0 xs (level / 16) + 3 * (atE xs 0 - atE xs (-1))) = fE xs (level / 16) from rfl]
    have hf : -128 ≤ fE xs (level / 16) ∧ fE xs (level / 16) ≤ 127 := cB_le _
    rw [w64 (x := fE xs (level / 16) + 4) (by omega), w64 (x := fE xs (level / 16) + 3) (by omega)]
    refine Evp.ob (c_ok ..) ?_
    rintro _ rfl
    simp only [ret_int, ret_bool, ret_flt, ret_slc, ret_str, ret_ptr, ret_agg, ret_tup, ob_some, bb_true, bb_false, List.getElem?_cons_zero, List.getElem?_cons_succ, List.length_cons, List.length_nil, Nat.reduceAdd, Nat.reduceLT]
    refine Evp.ob (c_ok ..) ?_
    rintro _ rfl
    simp only [ret_int, ret_bool, ret_flt, ret_slc, ret_str, ret_ptr, ret_agg, ret_tup, ob_some, bb_true, bb_false, List.getElem?_cons_zero, List.getElem?_cons_succ, List.length_cons, List.length_nil, Nat.reduceAdd, Nat.reduceLT]
    refine Evp.ob (copyBytes_ok _ _ _ _ _ hx (by omega) hlo) ?_
    rintro _ ⟨A', cc, M1, rfl, p1, hcc, g1⟩
    simp only [ret_int, ret_bool, ret_flt, ret_slc, ret_str, ret_ptr, ret_agg, ret_tup, ob_some, bb_true, bb_false, List.getElem?_cons_zero, List.getElem?_cons_succ, List.length_cons, List.length_nil, Nat.reduceAdd, Nat.reduceLT]
    obtain ⟨a, rfl, hbuf⟩ := g1.buf (by omega)
    rw [shr3, shr3, show cB (fE xs (level / 16) + 4) / 8 = aE xs (level / 16) from rfl, show cB (fE xs (level / 16) + 3) / 8 = bE xs (level / 16) from rfl]
    have ha : -16 ≤ aE xs (level / 16) ∧ aE xs (level / 16) ≤ 16 := by have := cB_le (fE xs (level / 16) + 4); unfold aE; omega
    have hbb : -16 ≤ bE xs (level / 16) ∧ bE xs (level / 16) ≤ 16 := by have := cB_le (fE xs (level / 16) + 3); unfold bE; omega
    rw [w64 (x := aE xs (level / 16) + 1) (by omega), shr1, show (aE xs (level / 16) + 1) / 2 = dE xs (level / 16) from rfl]
    have hd : -16 ≤ dE xs (level / 16) ∧ dE xs (level / 16) ≤ 16 := by unfold dE; omega
    refine Evp.ob (rat_ok _ _ _ _ _ (hx.pre p1) bx hn 0 (by omega) (by omega)) ?_
    rintro _ rfl
    simp only [ret_int, ret_bool, ret_flt, ret_slc, ret_str, ret_ptr, ret_agg, ret_tup, ob_some, bb_true, bb_false, List.getElem?_cons_zero, List.getElem?_cons_succ, List.length_cons, List.length_nil, Nat.reduceAdd, Nat.reduceLT]
    rw [w64 (x := atE xs 0 - aE xs (level / 16)) (by omega)]
    refine Evp.ob (clip_ok ..) ?_
    rintro _ rfl
    simp only [ret_int, ret_bool, ret_flt, ret_slc, ret_str, ret_ptr, ret_agg, ret_tup, ob_some, bb_true, bb_false, List.getElem?_cons_zero, List.getElem?_cons_succ, List.length_cons, List.length_nil, Nat.reduceAdd, Nat.reduceLT]
    have k1 := clipS_le (v := atE xs 0 - aE xs (level / 16)) (a := 0) (b := 255) (by decide)
    have k2 := clipS_le (v := atE xs (-1) + bE xs (level / 16)) (a := 0) (b := 255) (by decide)
    have k3 := clipS_le (v := atE xs 1 - dE xs (level / 16)) (a := 0) (b := 255) (by decide)
    have k4 := clipS_le (v := atE xs (-2) + dE xs (level / 16)) (a := 0) (b := 255) (by decide)
    rw [e, w64 (x := ((xs.length / 2 : Nat) : Int)) (by omega), wu8 k1, w64 (x := ((xs.length / 2 : Nat) : Int) - 1) (by omega), w64 (x := ((xs.length / 2 : Nat) : Int) + 1) (by omega), w64 (x := ((xs.length / 2 : Nat) : Int) - 2) (by omega)]
    refine Evp.pos (by omega) (Evp.some rfl ?_)
    rw [Int.toNat_natCast]
    obtain ⟨M2, s1, s2, s3, s4, s5⟩ := hbuf.st (lo := lo) (i := xs.length / 2) (vs := [.int .u8 (clipS (atE xs 0 - aE xs (level / 16)) 0 255)]) p1 hlo (by simp; omega)
    refine Evp.some s1 ?_
    rw [setL_one, set_map] at s2
    refine Evp.ob (rat_ok _ _ _ _ _ (hx.pre s3) bx hn (-1) (by omega) (by omega)) ?_
    rintro _ rfl
    simp only [ret_int, ret_bool, ret_flt, ret_slc, ret_str, ret_ptr, ret_agg, ret_tup, ob_some, bb_true, bb_false, List.getElem?_cons_zero, List.getElem?_cons_succ, List.length_cons, List.length_nil, Nat.reduceAdd, Nat.reduceLT]
    rw [w64 (x := atE xs (-1) + bE xs (level / 16)) (by omega)]
    refine Evp.ob (clip_ok ..) ?_
    rintro _ rfl
    simp only [ret_int, ret_bool, ret_flt, ret_slc, ret_str, ret_ptr, ret_agg, ret_tup, ob_some, bb_true, bb_false, List.getElem?_cons_zero, List.getElem?_cons_succ, List.length_cons, List.length_nil, Nat.reduceAdd, Nat.reduceLT]
    rw [wu8 k2]
    refine Evp.pos (by omega) (Evp.some rfl ?_)
    rw [show (((xs.length / 2 : Nat) : Int) - 1).toNat = xs.length / 2 - 1 by omega]
    obtain ⟨M3, t1, t2, t3, t4, t5⟩ := s2.st (lo := lo) (i := xs.length / 2 - 1) (vs := [.int .u8 (clipS (atE xs (-1) + bE xs (level / 16)) 0 255)]) s3 hlo (by simp; omega)
    refine Evp.some t1 ?_
    rw [setL_one, set_map] at t2
    refine Evp.nb (fun hf => ?_) fun hf => ?_
    · have hne : ¬ hevP xs (level / 16) := fun h => by rw [hb.2 h] at hf; exact absurd hf (by decide)
      refine Evp.ob (rat_ok _ _ _ _ _ (hx.pre t3) bx hn 1 (by omega) (by omega)) ?_
      rintro _ rfl
      simp only [ret_int, ret_bool, ret_flt, ret_slc, ret_str, ret_ptr, ret_agg, ret_tup, ob_some, bb_true, bb_false, List.getElem?_cons_zero, List.getElem?_cons_succ, List.length_cons, List.length_nil, Nat.reduceAdd, Nat.reduceLT]
      rw [w64 (x := atE xs 1 - dE xs (level / 16)) (by omega)]
      refine Evp.ob (clip_ok ..) ?_
      rintro _ rfl
      simp only [ret_int, ret_bool, ret_flt, ret_slc, ret_str, ret_ptr, ret_agg, ret_tup, ob_some, bb_true, bb_false, List.getElem?_cons_zero, List.getElem?_cons_succ, List.length_cons, List.length_nil, Nat.reduceAdd, Nat.reduceLT]
      rw [wu8 k3]
      refine Evp.pos (by omega) (Evp.some rfl ?_)
      rw [show (((xs.length / 2 : Nat) : Int) + 1).toNat = xs.length / 2 + 1 by omega]
      obtain ⟨M4, u1, u2, u3, u4, u5⟩ := t2.st (lo := lo) (i := xs.length / 2 + 1) (vs := [.int .u8 (clipS (atE xs 1 - dE xs (level / 16)) 0 255)]) t3 hlo (by simp; omega)
      refine Evp.some u1 ?_
      rw [setL_one, set_map] at u2
      refine Evp.ob (rat_ok _ _ _ _ _ (hx.pre u3) bx hn (-2) (by omega) (by omega)) ?_
      rintro _ rfl
      simp only [ret_int, ret_bool, ret_flt, ret_slc, ret_str, ret_ptr, ret_agg, ret_tup, ob_some, bb_true, bb_false, List.getElem?_cons_zero, List.getElem?_cons_succ, List.length_cons, List.length_nil, Nat.reduceAdd, Nat.reduceLT]
      rw [w64 (x := atE xs (-2) + dE xs (level / 16)) (by omega)]
      refine Evp.ob (clip_ok ..) ?_
      rintro _ rfl
      simp only [ret_int, ret_bool, ret_flt, ret_slc, ret_str, ret_ptr, ret_agg, ret_tup, ob_some, bb_true, bb_false, List.getElem?_cons_zero, List.getElem?_cons_succ, List.length_cons, List.length_nil, Nat.reduceAdd, Nat.reduceLT]
      rw [wu8 k4]
      refine Evp.pos (by omega) (Evp.some rfl ?_)
      rw [show (((xs.length / 2 : Nat) : Int) - 2).toNat = xs.length / 2 - 2 by omega]
      obtain ⟨M5, w1, w2, w3, w4, w5⟩ := u2.st (lo := lo) (i := xs.length / 2 - 2) (vs := [.int .u8 (clipS (atE xs (-2) + dE xs (level / 16)) 0 255)]) u3 hlo (by simp; omega)
      refine Evp.some w1 ?_
      rw [setL_one, set_map] at w2
      exact Evp.ret (ret a cc M5 w3 (by unfold narrowL; rw [if_neg hne]; exact w2))
    · exact Evp.ret (ret a cc M3 t3 (by unfold narrowL; rw [if_pos (hb.1 hf)]; exact t2))
  refine Ac.of (Evp.of_eq (fun k => zoetroperef22_narrow.entry k ..) ?_)
  refine Evp.ob (rfar_ok _ _ _ _ _ hx bx hn (-2) (-1) (by omega) (by omega) (by omega) (by omega)) ?_
  rintro _ rfl
  simp only [ret_int, ret_bool, ret_flt, ret_slc, ret_str, ret_ptr, ret_agg, ret_tup, ob_some, bb_true, bb_false, List.getElem?_cons_zero, List.getElem?_cons_succ, List.length_cons, List.length_nil, Nat.reduceAdd, Nat.reduceLT]
  rw [te]
  have cF : hevP xs (level / 16) → cB (atE xs (-2) - atE xs 1) = fE0 xs (level / 16) := fun h => by unfold fE0; rw [if_pos h]
  refine Evp.dec (fun h => ?_) fun h1 => ?_
  · refine Evp.ob (rat_ok _ _ _ _ _ hx bx hn (-2) (by omega) (by omega)) ?_
    rintro _ rfl
    simp only [ret_int, ret_bool, ret_flt, ret_slc, ret_str, ret_ptr, ret_agg, ret_tup, ob_some, bb_true, bb_false, List.getElem?_cons_zero, List.getElem?_cons_succ, List.length_cons, List.length_nil, Nat.reduceAdd, Nat.reduceLT]
    refine Evp.ob (rat_ok _ _ _ _ _ hx bx hn 1 (by omega) (by omega)) ?_
    rintro _ rfl
    simp only [ret_int, ret_bool, ret_flt, ret_slc, ret_str, ret_ptr, ret_agg, ret_tup, ob_some, bb_true, bb_false, List.getElem?_cons_zero, List.getElem?_cons_succ, List.length_cons, List.length_nil, Nat.reduceAdd, Nat.reduceLT]
    rw [w64 (x := atE xs (-2) - atE xs 1) (by omega)]
    refine Evp.ob (c_ok ..) ?_
    rintro _ rfl
    simp only [ret_int, ret_bool, ret_flt, ret_slc, ret_str, ret_ptr, ret_agg, ret_tup, ob_some, bb_true, bb_false, List.getElem?_cons_zero, List.getElem?_cons_succ, List.length_cons, List.length_nil, Nat.reduceAdd, Nat.reduceLT]
    rw [cF (.inl h)]
    exact Evp.ret (fin true ⟨fun _ => .inl h, fun _ => rfl⟩)
  · refine Evp.ob (rfar_ok _ _ _ _ _ hx bx hn 1 0 (by omega) (by omega) (by omega) (by omega)) ?_
    rintro _ rfl
    simp only [ret_int, ret_bool, ret_flt, ret_slc, ret_str, ret_ptr, ret_agg, ret_tup, ob_some, bb_true, bb_false, List.getElem?_cons_zero, List.getElem?_cons_succ, List.length_cons, List.length_nil, Nat.reduceAdd, Nat.reduceLT]
    have iffd : decide (farE xs 1 0 > level / 16) = true ↔ hevP xs (level / 16) := ⟨fun h => .inr (of_decide_eq_true h), fun h => decide_eq_true (by rcases h with h | h; exact absurd h h1; exact h)⟩
    refine Evp.dec (fun h => ?_) fun h => ?_
    · refine Evp.ob (rat_ok _ _ _ _ _ hx bx hn (-2) (by omega) (by omega)) ?_
      rintro _ rfl
      simp only [ret_int, ret_bool, ret_flt, ret_slc, ret_str, ret_ptr, ret_agg, ret_tup, ob_some, bb_true, bb_false, List.getElem?_cons_zero, List.getElem?_cons_succ, List.length_cons, List.length_nil, Nat.reduceAdd, Nat.reduceLT]
      refine Evp.ob (rat_ok _ _ _ _ _ hx bx hn 1 (by omega) (by omega)) ?_
      rintro _ rfl
      simp only [ret_int, ret_bool, ret_flt, ret_slc, ret_str, ret_ptr, ret_agg, ret_tup, ob_some, bb_true, bb_false, List.getElem?_cons_zero, List.getElem?_cons_succ, List.length_cons, List.length_nil, Nat.reduceAdd, Nat.reduceLT]
      rw [w64 (x := atE xs (-2) - atE xs 1) (by omega)]
      refine Evp.ob (c_ok ..) ?_
      rintro _ rfl
      simp only [ret_int, ret_bool, ret_flt, ret_slc, ret_str, ret_ptr, ret_agg, ret_tup, ob_some, bb_true, bb_false, List.getElem?_cons_zero, List.getElem?_cons_succ, List.length_cons, List.length_nil, Nat.reduceAdd, Nat.reduceLT]
      rw [cF (.inr h)]
      exact Evp.ret (fin _ iffd)
    · have h0 : fE0 xs (level / 16) = 0 := by unfold fE0; rw [if_neg (fun e => by rcases e with e | e; exact h1 e; exact h e)]
      have := fin _ iffd
      rw [h0] at this
      exact Evp.ret this
end Go.Zt
