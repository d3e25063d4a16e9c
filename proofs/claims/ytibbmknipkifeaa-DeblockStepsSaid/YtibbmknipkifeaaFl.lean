/- Where the step at an edge is above what the level allows it stays, and flat sides come nearer where it is not. -/
import Derived.Test.YtibbmknipkifeaaFj
import Derived.Test.YtibbmknipkifeaaFk
set_option linter.unusedVariables false
set_option linter.unusedSimpArgs false
set_option maxRecDepth 100000
namespace Go.Zt
def StepK (k : Nat) : Prop := k = 2 ∨ k = 3 ∨ k = 4 ∨ k = 7
theorem step_len (k : Nat) (a b : Int) : (stepL k a b).length = 2 * k := by simp [stepL]; omega
theorem step_bytes {k : Nat} {a b : Int} (ha : 0 ≤ a ∧ a ≤ 255) (hb : 0 ≤ b ∧ b ≤ 255) : Bytes (stepL k a b) := by
  intro x hx
  unfold stepL at hx
  rcases List.mem_append.1 hx with h | h <;> have := List.eq_of_mem_replicate h <;> omega
theorem step_next {k : Nat} {a b : Int} {i : Nat} (hi : i < 2 * k) : (stepL k a b).take (i + 1) = (stepL k a b).take i ++ [if i < k then a else b] := by
  rw [List.take_succ_eq_append_getElem (by rw [step_len]; exact hi)]
  congr 2
  unfold stepL
  by_cases h : i < k
  · rw [if_pos h, List.getElem_append_left (by simpa using h)]; simp
  · rw [if_neg h, List.getElem_append_right (by simpa using h)]; simp
theorem step_far {k : Nat} (a b : Int) (hk : StepK k) : farE (stepL k a b) (-1) 0 = absS (a - b) ∧ farE (stepL k a b) (-2) 1 = absS (a - b) := by
  rcases hk with rfl | rfl | rfl | rfl <;> exact ⟨by kernel_rfl, by kernel_rfl⟩
theorem abs_far (a b : Int) : absS (a - b) = maxI a b - minI a b := by
  unfold absS maxI minI
  repeat' split
  all_goals omega
theorem limit_le (level sharp : Int) (h : 0 ≤ level) : limitS level sharp ≤ maxI level 1 := by
  unfold limitS maxI minI
  repeat' split
  all_goals omega
section
variable {a b level sharp : Int} {k : Nat} (ha : 0 ≤ a ∧ a ≤ 255) (hb : 0 ≤ b ∧ b ≤ 255) (hk : StepK k) (hl : 0 ≤ level ∧ level ≤ 63) (hs : 0 ≤ sharp ∧ sharp ≤ 7)
include hk
theorem last_loop (lo : Nat) (M0 M : Mem) (A : Option Addr) (c : Nat) (zs : List Int) (hz : zs.length = 2 * k) (bz : Bytes zs) (hx : RdI M .u8 A zs) (ho : okL a b a zs) : ∀ (d i : Nat), 2 * k - i = d → i ≤ 2 * k →
    Run P T lo F.zoetropelaw22_DeblockSteps (zoetropelaw22_DeblockSteps.c32756 a b ((2 * k : Nat) : Int) A (2 * k) c i M) fun r => r.1 = .bool true := by
  unfold StepK at hk
  have hmin : minI a b ≤ a ∧ minI a b ≤ b ∧ (minI a b = a ∨ minI a b = b) := by unfold minI; split <;> omega
  have hmax : a ≤ maxI a b ∧ b ≤ maxI a b ∧ (maxI a b = a ∨ maxI a b = b) := by unfold maxI; split <;> omega
  intro d
  induction d with
  | zero =>
    intro i hd hi
    refine Run.cut (Evp.of_eq (fun k => zoetropelaw22_DeblockSteps.p32756 k ..) ?_)
    refine Evp.dec (fun h => absurd h (by omega)) fun _ => ?_
    exact Evp.ret (Run.ret rfl)
  | succ d ih =>
    intro i hd hi
    have next : Run P T lo F.zoetropelaw22_DeblockSteps (zoetropelaw22_DeblockSteps.c32756 a b ((2 * k : Nat) : Int) A (2 * k) c (IntKind.i64.wrap ((i : Int) + 1)) M) fun r => r.1 = .bool true := by
      rw [w64 (by omega)]
      exact ih (i + 1) (by omega) (by omega)
    have g := okL_get ho i (by omega)
    refine Run.cut (Evp.of_eq (fun k => zoetropelaw22_DeblockSteps.p32756 k ..) ?_)
    refine Evp.dec (fun _ => ?_) fun h => absurd h (by omega)
    refine Evp.pos (by omega) ?_
    simp only [Int.toNat_natCast]
    refine Evp.ldI hx (by omega) fun _ _ => ?_
    refine Evp.dec (fun h => absurd h (by omega)) fun _ => ?_
    refine Evp.pos (by omega) (Evp.ldI hx (by omega) fun _ _ => ?_)
    refine Evp.dec (fun h => absurd h (by omega)) fun _ => ?_
    refine Evp.dec (fun h => ?_) fun _ => Evp.ret next
    rw [if_neg (by omega)] at g
    have e : (IntKind.i64.wrap ((i : Int) - 1)) = ((i - 1 : Nat) : Int) := by rw [w64 (by omega)]; omega
    rw [e]
    refine Evp.pos (by omega) ?_
    simp only [Int.toNat_natCast]
    refine Evp.ldI hx (by omega) fun _ _ => ?_
    refine Evp.pos (by omega) (Evp.ldI hx (by omega) fun _ _ => ?_)
    refine Evp.bb (fun hne => ?_) fun _ => Evp.ret next
    refine Evp.pos (by omega) (Evp.ldI hx (by omega) fun _ _ => ?_)
    refine Evp.pos (by omega) (Evp.ldI hx (by omega) fun _ _ => ?_)
    refine Evp.neb (fun h2 => ?_) fun _ => Evp.ret next
    exfalso
    rcases g.2 with ⟨g1, g2⟩ | ⟨g1, g2⟩
    · rw [decide_eq_true g1, decide_eq_true g2] at hne; cases hne
    · rw [decide_eq_false (show ¬ a ≤ b by omega), decide_eq_false (show ¬ zs.getD (i - 1) 0 ≤ zs.getD i 0 by omega)] at hne; cases hne
include ha hb hl hs
theorem steps_loop (lo : Nat) (M0 : Mem) (hlo : lo ≤ M0.length) : ∀ (d i : Nat) (M : Mem) (A : Option Addr) (c : Nat), 2 * k - i = d → i ≤ 2 * k → Pre M0 M → i ≤ c → Grow M0 M 1 A i (((stepL k a b).take i).map (Value.int .u8)) →
    Run P T lo F.zoetropelaw22_DeblockSteps (zoetropelaw22_DeblockSteps.c1012 a b ((2 * k : Nat) : Int) level sharp A i c i M) fun r => r.1 = .bool true := by
  have hk' := hk
  unfold StepK at hk'
  intro d
  induction d with
  | zero =>
    intro i M A c hd hi hp hc hg
    obtain rfl : i = 2 * k := by omega
    have hx : RdI M .u8 A (stepL k a b) := by
      have := hg.rd
      rw [List.take_of_length_le (by rw [step_len]; exact Nat.le_refl _)] at this
      unfold RdI
      rw [step_len]; exact this
    have hlen := step_len k a b
    refine Run.cut (Evp.of_eq (fun k => zoetropelaw22_DeblockSteps.p1012 k ..) ?_)
    refine Evp.dec (fun h => absurd h (by omega)) fun _ => ?_
    have ed := edge_ok lo A c (stepL k a b) M level sharp ((2 * k : Nat) : Int) (Nat.le_trans hlo hp.len) hx (step_bytes ha hb)
    rw [hlen] at ed
    refine Evp.ob ed ?_
    rintro ⟨v, M2⟩ h2
    have ok : EdgeOk ((stepL k a b).length : Int) ((2 * k : Nat) : Int) level sharp := by rw [hlen]; exact ⟨by omega, rfl, hl.1, hl.2, hs.1, hs.2⟩
    obtain ⟨B, cc, rfl, p2, b2⟩ := h2.got ok _ rfl
    rw [hlen]
    simp only [ret_int, ret_bool, ret_flt, ret_slc, ret_str, ret_ptr, ret_agg, ret_tup, ob_some, bb_true, bb_false, List.getElem?_cons_zero, List.getElem?_cons_succ, List.length_cons, List.length_nil, Nat.reduceAdd, Nat.reduceLT]
    refine Evp.neb (fun h => absurd rfl h) fun _ => ?_
    refine Evp.neb (fun h => absurd rfl h) fun _ => ?_
    have el : (edgeL (stepL k a b) level sharp).length = 2 * k := by rw [edgeL_len, hlen]
    have eb := eqBytes_ok lo (some B) A cc c (edgeL (stepL k a b) level sharp) (stepL k a b) M2 b2.rdI (hx.pre p2) (by omega)
    rw [el, hlen] at eb
    have same : edgeL (stepL k a b) level sharp = stepL k a b → Evp (fun kk => ob (acall P T kk lo F.zoetroperef00_EqBytes [.slice (some B) (2 * k) cc, .slice A (2 * k) c] M2) fun r28 => ob ((some r28.1).bind Value.bool?) fun b29 => some (.ret (.bool b29) r28.2)) fun out => Run P T lo F.zoetropelaw22_DeblockSteps out fun r => r.1 = .bool true := fun e => by
      refine Evp.ob eb ?_
      rintro _ rfl
      simp only [ret_int, ret_bool, ret_flt, ret_slc, ret_str, ret_ptr, ret_agg, ret_tup, ob_some, bb_true, bb_false, List.getElem?_cons_zero, List.getElem?_cons_succ, List.length_cons, List.length_nil, Nat.reduceAdd, Nat.reduceLT]
      exact Evp.ret (Run.ret (by rw [e]; simp))
    refine Evp.eqb (fun h0 => same (by unfold edgeL; rw [if_neg (fun e => e.1 h0)])) fun h0 => ?_
    have hmin : minI a b ≤ a ∧ minI a b ≤ b ∧ (minI a b = a ∨ minI a b = b) := by unfold minI; split <;> omega
    have hmax : a ≤ maxI a b ∧ b ≤ maxI a b ∧ (maxI a b = a ∨ maxI a b = b) := by unfold maxI; split <;> omega
    have habs := abs_far a b
    have hlv : 1 ≤ maxI level 1 ∧ level ≤ maxI level 1 ∧ maxI level 1 ≤ 63 := by unfold maxI; split <;> omega
    have hlim := limit_le level sharp hl.1
    rw [wu8 (x := maxI a b - minI a b) (by omega), w64 (x := maxI a b - minI a b) (by omega)]
    have td : IntKind.i64.wrap (Int.tdiv (maxI a b - minI a b) 2) = (maxI a b - minI a b) / 2 := by rw [Int.tdiv_eq_ediv_of_nonneg (by omega)]; exact w64 (by omega)
    rw [td, w64 (x := 2 * (maxI a b - minI a b)) (by omega), w64 (x := 2 * (maxI a b - minI a b) + (maxI a b - minI a b) / 2) (by omega), w64 (x := level + 2) (by omega), w64 (x := 2 * (level + 2)) (by omega), w64 (x := 2 * (level + 2) + maxI level 1) (by omega)]
    refine Evp.dec (fun hgt => same ?_) fun _ => ?_
    · unfold edgeL
      rw [if_neg]
      rintro ⟨_, _, h3⟩
      obtain ⟨f1, f2⟩ := step_far a b hk
      rw [f1, f2, habs] at h3
      unfold edgeOf at h3
      omega
    · have rz : RdI M2 .u8 (some B) (edgeL (stepL k a b) level sharp) := b2.rdI
      have bz : Bytes (edgeL (stepL k a b) level sharp) := fun x hx => by
        obtain ⟨i, hi, rfl⟩ := List.mem_iff_getElem.1 hx
        have := okL_get (edge_step ha hb hl.1 hk (sharp := sharp)) i hi
        rw [List.getD_eq_getElem?_getD, List.getElem?_eq_getElem hi, Option.getD_some] at this
        omega
      exact Evp.ret (last_loop hk lo M0 M2 (some B) cc _ el bz rz (edge_step ha hb hl.1 hk) _ 0 rfl (by omega))
  | succ d ih =>
    intro i M A c hd hi hp hc hg
    have step : ∀ v : Int, (v = if i < k then a else b) → Evp (fun kk => ob (M.app lo 1 1 ⟨A, i, c⟩ [.int .u8 v] 1) fun r20 => some (zoetropelaw22_DeblockSteps.c4051 a b ((2 * k : Nat) : Int) level sharp r20.1.a r20.1.n r20.1.c i r20.2)) fun out => Run P T lo F.zoetropelaw22_DeblockSteps out fun r => r.1 = .bool true := by
      rintro v rfl
      obtain ⟨s, M', h1, h2, h3, h4, _, h5⟩ := hg.app (lo := lo) (bytes := 1) (c := c) (m := 1) (vs := [.int .u8 (if i < k then a else b)]) hp hlo (by simp) (by omega) (by omega)
      refine Evp.some h1 (Evp.ret ?_)
      have h5 := h5 hc
      have e : ((stepL k a b).take i).map (Value.int .u8) ++ [.int .u8 (if i < k then a else b)] = ((stepL k a b).take (i + 1)).map (Value.int .u8) := by rw [step_next (by omega), List.map_append]; rfl
      rw [h3, e] at h2
      rw [h3] at h5 ⊢
      refine Run.cut (Evp.of_eq (fun k => zoetropelaw22_DeblockSteps.p4051 k ..) ?_)
      rw [w64 (by omega)]
      exact Evp.ret (ih (i + 1) M' s.a s.c (by omega) (by omega) h4 h5 h2)
    refine Run.cut (Evp.of_eq (fun k => zoetropelaw22_DeblockSteps.p1012 k ..) ?_)
    have td : IntKind.i64.wrap (Int.tdiv ((2 * k : Nat) : Int) 2) = k := by rw [Int.tdiv_eq_ediv_of_nonneg (by omega), w64 (by omega)]; omega
    rw [td]
    refine Evp.dec (fun _ => ?_) fun h => absurd h (by omega)
    refine Evp.dec (fun h => step a (by rw [if_pos (by omega)])) fun h => step b (by rw [if_neg (by omega)])
end
theorem DeblockSteps_law (M : Mem) (vs : List Value) (hro : AllRo M) (hv : LaysArgs P M [5, 5, 31] vs) : Ac P T M.length F.zoetropelaw22_DeblockSteps vs M fun r => r.1 = .bool true := by
  obtain ⟨a, b, x, y, z, rfl, wa, wb, _⟩ := Arg.DeblockSteps hv
  have ha := wf_u8 wa
  have hb := wf_u8 wb
  refine Ac.of (Evp.of_eq (fun k => zoetropelaw22_DeblockSteps.entry k ..) ?_)
  refine Evp.ob (awake_ok _ _ (Nat.le_refl _)) ?_
  rintro ⟨v, M2⟩ ⟨h, p2⟩
  simp only at h
  subst h
  simp only [ret_int, ret_bool, ret_flt, ret_slc, ret_str, ret_ptr, ret_agg, ret_tup, ob_some, bb_true, bb_false, List.getElem?_cons_zero, List.getElem?_cons_succ, List.length_cons, List.length_nil, Nat.reduceAdd, Nat.reduceLT]
  refine Evp.ff rfl ?_
  have p3 := Pre.app M2 [⟨.fx, tapsL.map (Value.int .i64)⟩]
  refine Evp.ob (bring_ok _ _ _ _ (by omega)) ?_
  rintro _ rfl
  simp only [ret_int, ret_bool, ret_flt, ret_slc, ret_str, ret_ptr, ret_agg, ret_tup, ob_some, bb_true, bb_false, List.getElem?_cons_zero, List.getElem?_cons_succ, List.length_cons, List.length_nil, Nat.reduceAdd, Nat.reduceLT]
  have h4 := bringS_lt (i := x) (n := 4) (by omega)
  refine Evp.pos h4 ?_
  have ld : (M2 ++ [⟨.fx, [.int .i64 4, .int .i64 6, .int .i64 8, .int .i64 14]⟩] : Mem).ld (plus ⟨M2.length, 0, none⟩ (bringS x 4).toNat) = ([.int .i64 4, .int .i64 6, .int .i64 8, .int .i64 14] : List Value)[(bringS x 4).toNat]? := fx_ldp (push_self _ _) _
  rw [ld]
  obtain ⟨k, hk, e⟩ : ∃ k : Nat, StepK k ∧ ([.int .i64 4, .int .i64 6, .int .i64 8, .int .i64 14] : List Value)[(bringS x 4).toNat]? = some (.int .i64 ((2 * k : Nat) : Int)) := by
    have : (bringS x 4).toNat = 0 ∨ (bringS x 4).toNat = 1 ∨ (bringS x 4).toNat = 2 ∨ (bringS x 4).toNat = 3 := by omega
    rcases this with h | h | h | h <;> rw [h]
    · exact ⟨2, .inl rfl, rfl⟩
    · exact ⟨3, .inr (.inl rfl), rfl⟩
    · exact ⟨4, .inr (.inr (.inl rfl)), rfl⟩
    · exact ⟨7, .inr (.inr (.inr rfl)), rfl⟩
  rw [e]
  simp only [ret_int, ret_bool, ret_flt, ret_slc, ret_str, ret_ptr, ret_agg, ret_tup, ob_some, bb_true, bb_false, List.getElem?_cons_zero, List.getElem?_cons_succ, List.length_cons, List.length_nil, Nat.reduceAdd, Nat.reduceLT]
  refine Evp.ob (bring_ok _ _ _ _ (by omega)) ?_
  rintro _ rfl
  simp only [ret_int, ret_bool, ret_flt, ret_slc, ret_str, ret_ptr, ret_agg, ret_tup, ob_some, bb_true, bb_false, List.getElem?_cons_zero, List.getElem?_cons_succ, List.length_cons, List.length_nil, Nat.reduceAdd, Nat.reduceLT]
  refine Evp.ob (bring_ok _ _ _ _ (by omega)) ?_
  rintro _ rfl
  simp only [ret_int, ret_bool, ret_flt, ret_slc, ret_str, ret_ptr, ret_agg, ret_tup, ob_some, bb_true, bb_false, List.getElem?_cons_zero, List.getElem?_cons_succ, List.length_cons, List.length_nil, Nat.reduceAdd, Nat.reduceLT]
  have h5 := bringS_lt (i := y) (n := 64) (by omega)
  have h6 := bringS_lt (i := z) (n := 8) (by omega)
  exact Evp.ret (steps_loop ha hb hk ⟨h5.1, by omega⟩ ⟨h6.1, by omega⟩ _ _ (p2.trans p3).len _ 0 _ none 0 rfl (by omega) (Pre.refl _) (by omega) Grow.nil)
end Go.Zt
