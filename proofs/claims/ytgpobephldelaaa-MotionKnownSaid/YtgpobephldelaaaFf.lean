/- A block between samples: the program's Fetch, whole. -/
import Derived.Test.YtgpobephldelaaaFe
set_option linter.unusedVariables false
set_option linter.unusedSimpArgs false
namespace Go.Zt
theorem fetchS_eq (w h : Int) (xs : List Int) (x y : Int) (bw bh : Nat) (kind : Int) : fetchS w h xs x y bw bh kind = outL w h xs (tapsS kind (x % 16)) (tapsS kind (y % 16)) x y bw (bh * bw) := rfl
/-- What Fetch hands back. -/
def FetchR (M : Mem) (w h : Int) (xs : List Int) (x y bw bh kind : Int) (r : Value × Mem) : Prop :=
  Pre M r.2 ∧ if FetchOk w h xs.length x y bw bh kind then ∃ B cc, r.1 = .tuple ⟨[.slice B (fetchS w h xs x y bw.toNat bh.toNat kind).length cc, .int .i64 0]⟩ ∧ (fetchS w h xs x y bw.toNat bh.toNat kind).length ≤ cc ∧ Grow M r.2 1 B (fetchS w h xs x y bw.toNat bh.toNat kind).length ((fetchS w h xs x y bw.toNat bh.toNat kind).map (Value.int .u8))
    else r.1 = .tuple ⟨[.slice none 0 0, .int .i64 2]⟩
theorem minI_lt {x y z : Int} : minI x y < z ↔ x < z ∨ y < z := by unfold minI; split <;> omega
theorem maxI_gt {x y z : Int} : maxI x y > z ↔ x > z ∨ y > z := by unfold maxI; split <;> omega

theorem fetch_ok (lo : Nat) (w h : Int) (A : Option Addr) (c : Nat) (xs : List Int) (x y bw bh kind : Int) (M : Mem) (hx : RdI M .u8 A xs) (bx : Bytes xs) (hc : xs.length ≤ c) (hlo : lo ≤ M.length) :
    Ac P T lo F.subpel_Fetch [.agg ⟨[.int .i64 w, .int .i64 h, .slice A xs.length c]⟩, .int .i64 x, .int .i64 y, .int .i64 bw, .int .i64 bh, .int .i64 kind] M (FetchR M w h xs x y bw bh kind) := by
  refine Ac.of (Evp.of_eq (fun k => subpel_Fetch.entry k ..) ?_)
  have g0 := push_self M ⟨.fx, [.int .i64 w, .int .i64 h, .slice A xs.length c]⟩
  have p0 := Pre.app M [⟨.fx, [.int .i64 w, .int .i64 h, .slice A xs.length c]⟩]
  refine Evp.some (b := w) (by rw [fx_ld g0]; rfl) ?_
  refine Evp.some (b := h) (by rw [fx_ldp g0]; rfl) ?_
  refine Evp.some (b := ⟨A, xs.length, c⟩) (by rw [fx_ldp g0]; rfl) ?_
  refine Evp.ob (check_ok ..) ?_
  rintro _ rfl
  simp only [ret_int, ret_bool, ret_flt, ret_slc, ret_str, ret_ptr, ret_agg, ret_tup, ob_some, bb_true, bb_false, List.getElem?_cons_zero, List.getElem?_cons_succ, List.length_cons, List.length_nil, Nat.reduceAdd, Nat.reduceLT]
  have bad : ∀ M', Pre M M' → ¬ FetchOk w h xs.length x y bw bh kind → FetchR M w h xs x y bw bh kind (.tuple ⟨[.slice none 0 0, .int .i64 2]⟩, M') := fun M' hp hn => ⟨hp, by rw [if_neg hn]⟩
  refine Evp.neb (fun h1 => Evp.ret (Run.ret (bad _ p0 fun e => h1 e.1))) fun h1 => ?_
  refine Evp.dec (fun h2 => Evp.ret (Run.ret (bad _ p0 fun e => by have := minI_lt.1 h2; have := e.2; omega))) fun h2 => ?_
  refine Evp.dec (fun h3 => Evp.ret (Run.ret (bad _ p0 fun e => by have := maxI_gt.1 h3; have := e.2; omega))) fun h3 => ?_
  refine Evp.dec (fun h4 => Evp.ret (Run.ret (bad _ p0 fun e => by have := minI_lt.1 h4; have := e.2; omega))) fun h4 => ?_
  refine Evp.dec (fun h5 => Evp.ret (Run.ret (bad _ p0 fun e => by have := maxI_gt.1 h5; have := e.2; omega))) fun h5 => ?_
  rw [minI_lt] at h2 h4
  rw [maxI_gt] at h3 h5
  have a15 : ∀ z : Int, andI .i64 z 15 = z % 16 := fun z => and_mask (x := z) 4 (by omega)
  rw [a15, a15]
  refine Evp.ob (taps_ok _ _ _ _ (by have := p0.len; omega)) ?_
  rintro _ ⟨M1, rfl, p1⟩
  rw [list8 _ (tapsS_len _ _)]
  simp only [ret_int, ret_bool, ret_flt, ret_slc, ret_str, ret_ptr, ret_agg, ret_tup, ob_some, bb_true, bb_false, List.getElem?_cons_zero, List.getElem?_cons_succ, List.length_cons, List.length_nil, Nat.reduceAdd, Nat.reduceLT]
  refine Evp.ob (taps_ok _ _ _ _ (by have := p0.len; have := p1.len; omega)) ?_
  rintro _ ⟨M2, rfl, p2⟩
  rw [list8 _ (tapsS_len kind (y % 16))]
  simp only [ret_int, ret_bool, ret_flt, ret_slc, ret_str, ret_ptr, ret_agg, ret_tup, ob_some, bb_true, bb_false, List.getElem?_cons_zero, List.getElem?_cons_succ, List.length_cons, List.length_nil, Nat.reduceAdd, Nat.reduceLT]
  have p02 := (p0.trans p1).trans p2
  refine Evp.neb (fun h6 => Evp.ret (Run.ret (bad _ p02 fun e => by unfold tapsE at h6; have := e.2; split at h6 <;> omega))) fun h6 => ?_
  have hk : 0 ≤ kind ∧ kind ≤ 2 := by unfold tapsE at h6; split at h6 <;> omega
  refine Evp.neb (fun h7 => absurd (tapsE_ok (kind := kind) (at_ := y % 16) (by omega)) h7) fun h7 => ?_
  rw [← list8 _ (tapsS_len kind (x % 16)), ← list8 _ (tapsS_len kind (y % 16))]
  refine Evp.ob (sum_ok _ _ _ _ (tapsS_len _ _)) ?_
  rintro _ rfl
  refine one_func ?_
  refine Evp.ob (sum_ok _ _ _ _ (tapsS_len _ _)) ?_
  rintro _ rfl
  refine one_func ?_
  rw [w64 (x := bh + 8) (by omega), w64 (by omega)]
  have hb8 : (bh + 8 - 1).toNat = bh.toNat + 7 := by omega
  rw [hb8]
  refine Evp.pos ⟨by omega, by show (bh.toNat + 7) * 24 ≤ 140737488355328; omega⟩ ?_
  dsimp only
  have l02 := p02.len
  generalize hMs : ((M2 ++ [⟨.fx, (tapsS kind (x % 16)).map (Value.int .i64)⟩] ++ [⟨.fx, [.int .i64 3]⟩] : Mem) ++ [⟨.fx, (tapsS kind (y % 16)).map (Value.int .i64)⟩] ++ [⟨.fx, [.int .i64 11]⟩] : Mem) = Ms
  have q1 : Ms[M2.length]? = some ⟨.fx, (tapsS kind (x % 16)).map (Value.int .i64)⟩ := by rw [← hMs]; exact get_push (get_push (get_push (push_self _ _)))
  have q2 : Ms[M2.length + 1]? = some ⟨.fx, [.int .i64 3]⟩ := by
    rw [← hMs]
    have := push_self (M2 ++ [⟨.fx, (tapsS kind (x % 16)).map (Value.int .i64)⟩]) ⟨.fx, [.int .i64 3]⟩
    simp only [List.length_append, List.length_cons, List.length_nil] at this
    exact get_push (get_push this)
  have e3 : (M2 ++ [⟨.fx, (tapsS kind (x % 16)).map (Value.int .i64)⟩] ++ [⟨.fx, [.int .i64 3]⟩] : Mem).length = M2.length + 2 := by simp
  have q3 : Ms[M2.length + 2]? = some ⟨.fx, (tapsS kind (y % 16)).map (Value.int .i64)⟩ := by
    rw [← hMs]
    have := push_self (M2 ++ [⟨.fx, (tapsS kind (x % 16)).map (Value.int .i64)⟩] ++ [⟨.fx, [.int .i64 3]⟩]) ⟨.fx, (tapsS kind (y % 16)).map (Value.int .i64)⟩
    rw [e3] at this
    exact get_push this
  have q4 : Ms[M2.length + 3]? = some ⟨.fx, [.int .i64 11]⟩ := by
    rw [← hMs]
    have := push_self (M2 ++ [⟨.fx, (tapsS kind (x % 16)).map (Value.int .i64)⟩] ++ [⟨.fx, [.int .i64 3]⟩] ++ [⟨.fx, (tapsS kind (y % 16)).map (Value.int .i64)⟩]) ⟨.fx, [.int .i64 11]⟩
    rw [List.length_append, e3] at this
    exact this
  have pS : Pre M2 Ms := by rw [← hMs]; exact (((Pre.app _ _).trans (Pre.app _ _)).trans (Pre.app _ _)).trans (Pre.app _ _)
  have q0 := pS _ _ (p2 _ _ (p1 _ _ g0))
  have hMsl : Ms.length = M2.length + 4 := by rw [← hMs]; simp
  rw [e3]
  have pMs := p02.trans pS
  refine Evp.some (push_st (by simp; omega) rfl) ?_
  have r0 := push_self Ms ⟨.fx, zerosL [.slice none 0 0] (bh.toNat + 7)⟩
  have r8 := push_self (Ms ++ [⟨.fx, zerosL [.slice none 0 0] (bh.toNat + 7)⟩]) ⟨.fx, [.slice (some ⟨Ms.length, 0, none⟩) (bh.toNat + 7) (bh.toNat + 7)]⟩
  have pA : Pre Ms (Ms ++ [⟨.fx, zerosL [.slice none 0 0] (bh.toNat + 7)⟩] ++ [⟨.fx, [.slice (some ⟨Ms.length, 0, none⟩) (bh.toNat + 7) (bh.toNat + 7)]⟩]) := (Pre.app _ _).trans (Pre.app _ _)
  have e5 : (Ms ++ [⟨.fx, zerosL [.slice none 0 0] (bh.toNat + 7)⟩] : Mem).length = Ms.length + 1 := by simp
  rw [e5] at r8 ⊢
  refine Evp.some (b := ⟨some ⟨Ms.length, 0, none⟩, bh.toNat + 7, bh.toNat + 7⟩) (by rw [fx_ld r8]; rfl) ?_
  have hsz : 1 ≤ w ∧ w ≤ 512 ∧ 1 ≤ h ∧ h ≤ 512 ∧ (xs.length : Int) = w * h := by
    unfold checkS at h1; split at h1
    · assumption
    · omega
  have hG : Given lo M A c xs w h x y bw.toNat bh.toNat (tapsS kind (x % 16)) (tapsS kind (y % 16)) :=
    ⟨hx, bx, ⟨hsz.1, hsz.2.1, hsz.2.2.1, hsz.2.2.2.1⟩, hsz.2.2.2.2, hc, by omega, by omega, by omega, by omega, tapsS_ok _ _, tapsS_ok _ _, hlo⟩
  have hBase : Base M A c xs w h bh.toNat (tapsS kind (x % 16)) (tapsS kind (y % 16)) M.length (M2.length + 1) M2.length (M2.length + 3) (M2.length + 2) (Ms.length + 1) Ms.length (Ms ++ [⟨.fx, zerosL [.slice none 0 0] (bh.toNat + 7)⟩] ++ [⟨.fx, [.slice (some ⟨Ms.length, 0, none⟩) (bh.toNat + 7) (bh.toNat + 7)]⟩]) :=
    ⟨pA _ _ q0, pA _ _ q2, pA _ _ q1, pA _ _ q4, pA _ _ q3, r8, pMs.trans pA⟩
  have hl1 := lt_of_get q0
  have fin := rows_loop hG (p0 := M.length) (b3 := M2.length + 1) (bt := M2.length) (b11 := M2.length + 3) (bd := M2.length + 2) (b8 := Ms.length + 1) (br := Ms.length) (Q := FetchR M w h xs x y bw bh kind) (v7 := v6S (M2.length + 3) (M2.length + 2)) (by omega) (by omega) (by omega) (by omega) (by omega) (by omega) (by omega) (fun rows M' hB hR => by
    refine (outs_loop hG rows M' hB hR bh.toNat 0 _ 0 0 _ rfl (by omega) (Pre.app _ _) ⟨by simp [outL], .inr ⟨M'.length, by simp [outL], Nat.le_refl _, by simp [outL]⟩⟩ (Nat.le_refl _)).mono ?_
    rintro _ ⟨B, cc, M'', rfl, g1, g2, g3⟩
    refine ⟨hB.pre.trans g1, ?_⟩
    rw [if_pos ⟨h1, by omega, by omega, by omega, by omega, by omega, by omega, by omega, by omega, by omega, by omega⟩, fetchS_eq]
    refine ⟨B, cc, rfl, g2, g3.len, ?_⟩
    rcases g3.at_ with g4 | ⟨b, g4, g5, g6⟩
    · exact .inl g4
    · exact .inr ⟨b, g4, by have := hB.pre.len; omega, g6⟩) (bh.toNat + 7) 0 _ _ rfl (by omega) hBase ⟨get_push r0, by rw [zerosL_one]; simp, fun q hq => by omega⟩
  have ebw : ((bw.toNat : Nat) : Int) = bw := by omega
  have ebh : ((bh.toNat : Nat) : Int) = bh := by omega
  rw [ebw, ebh] at fin
  exact Evp.ret fin
end Go.Zt
