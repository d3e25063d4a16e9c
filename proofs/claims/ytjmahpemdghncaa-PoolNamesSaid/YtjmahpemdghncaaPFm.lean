/- What the law PoolNames needs of the text Fm. -/
import Derived.Test.YtjmahpemdghncaaPFl
set_option linter.unusedVariables false
set_option linter.unusedSimpArgs false
set_option maxRecDepth 100000
namespace Go.Zt
theorem app_c {M M' : Mem} {lo z b m : Nat} {sl s : Slc} {vs : List Value} (h : M.app lo z b sl vs m = some (s, M')) (hm : m ≠ 0) : s.c = s.n := by
  unfold Mem.app at h
  rw [if_neg hm] at h
  split at h
  · split at h
    · split at h
      · injection h with h; injection h with h _; rw [← h]
      · cases h
    · split at h
      · split at h
        · obtain ⟨old, _, h⟩ := Option.bind_eq_some_iff.1 h
          injection h with h; injection h with h _; rw [← h]
        · cases h
      · split at h
        · split at h
          · injection h with h; injection h with h _; rw [← h]
          · cases h
        · cases h
  · cases h
section
variable (lo : Nat)
theorem rdef_row (Ms : Mem) (a : Addr) (c1 k : Nat) (hk : k < 32) (hlo : lo ≤ Ms.length) (hR : RowsAt Ms a) (A9 A12 : Option Addr) (n10 c11 n13 c14 : Nat) {Q : Value × Mem → Prop}
    (hnext : ∀ (M' : Mem) (Ar : Option Addr) (cr : Nat) (us : List Value), Pre Ms M' → RowG Ms M' Ar (defRow k) us → Run P T lo F.zoetroperef04_Default (zoetroperef04_Default.c62612 (some a) 32 c1 (k : Int) Ar (shC k) cr (shC k : Int) A9 n10 c11 A12 n13 c14 M') Q) :
    ∀ (d j : Nat) (M : Mem) (Ar : Option Addr) (cr : Nat) (us : List Value), shC k - j = d → j ≤ shC k → Pre Ms M → RowG Ms M Ar (List.replicate j (defT k)) us →
      Run P T lo F.zoetroperef04_Default (zoetroperef04_Default.c62612 (some a) 32 c1 (k : Int) Ar j cr (j : Int) A9 n10 c11 A12 n13 c14 M) Q := by
  have hsb := sh_bound k hk
  intro d
  induction d with
  | zero =>
    intro j M Ar cr us hd hj hp hr
    obtain rfl : j = shC k := by omega
    exact hnext M Ar cr us hp hr
  | succ d ih =>
    intro j M Ar cr us hd hj hp hr
    have l0 := hp.len
    have step : ∀ (M1 M2 : Mem) (A : Option Addr) (cc : Nat), Pre M M1 → Pre M1 M2 → Grow M1 M2 1 A (shV k) ((defT k).1.map (Value.int .u16)) →
        Run P T lo F.zoetroperef04_Default (zoetroperef04_Default.c2003603 (some a) 32 c1 (k : Int) Ar j cr (j : Int) A9 n10 c11 A12 n13 c14 A (shV k) cc 0 M2) Q := fun M1 M2 A cc p1 p2 hg => by
      have l1 := p1.len
      obtain ⟨aa, rfl, hb⟩ := hg.buf (by omega)
      refine Run.cut (Evp.of_eq (fun k => zoetroperef04_Default.p2003603 k ..) ?_)
      have hl : (List.replicate j (defT k)).length = j := List.length_replicate
      obtain ⟨s, M3, g1, g2, g3, g4⟩ := hr.add (lo := lo) (c := cr) (cc := cc) (t := defT k) (p1.trans p2) hp (hb.floor (M0 := M) l1) hlo (by omega)
      rw [hl, defT_len] at g1
      rw [hl] at g3
      refine Evp.some g1 ?_
      obtain ⟨sa, sn, sc⟩ := s
      simp only at g2 g3
      subst g3
      rw [w64 (x := (j : Int) + 1) (by omega)]
      rw [← List.replicate_succ'] at g2
      exact Evp.ret (ih (j + 1) M3 sa sc _ (by omega) (by omega) g4 g2)
    have hRM := hR.pre hp
    refine Run.cut (Evp.of_eq (fun k => zoetroperef04_Default.p62612 k ..) ?_)
    refine Evp.pos (by omega) (Evp.some rfl ?_)
    simp only [Int.toNat_natCast]
    refine Evp.some (hRM.c k hk) ?_
    refine Evp.dec (fun _ => ?_) fun h => absurd h (by omega)
    refine Evp.pos (by omega) (Evp.some rfl (Evp.some (hRM.v k hk) ?_))
    refine Evp.ob (rflat_ok lo (shV k) M hsb.2.2 (by omega)) ?_
    rintro _ ⟨A, c, M1, rfl, p1, hg⟩
    simp only [ret_int, ret_bool, ret_flt, ret_slc, ret_str, ret_ptr, ret_agg, ret_tup, ob_some, bb_true, bb_false, List.getElem?_cons_zero, List.getElem?_cons_succ, List.length_cons, List.length_nil, Nat.reduceAdd, Nat.reduceLT]
    have l1 := p1.len
    have hR1 := hRM.pre p1
    refine Evp.pos (by omega) (Evp.some rfl (Evp.some (hR1.b k hk) ?_))
    cases hb : shB k with
    | true =>
      refine Evp.tt rfl (Evp.pos (by omega) (Evp.some rfl (Evp.some (hR1.v k hk) ?_)))
      refine Evp.ob (rsteep_ok lo (shV k) M1 hsb.2.2 (by omega)) ?_
      rintro _ ⟨A', c', M2, rfl, p2, hg'⟩
      simp only [ret_int, ret_bool, ret_flt, ret_slc, ret_str, ret_ptr, ret_agg, ret_tup, ob_some, bb_true, bb_false, List.getElem?_cons_zero, List.getElem?_cons_succ, List.length_cons, List.length_nil, Nat.reduceAdd, Nat.reduceLT]
      have e : (defT k).1 = steepS (shV k) := by unfold defT; simp [hb]
      exact Evp.ret (step M1 M2 A' c' p1 p2 (by rw [e]; exact hg'))
    | false =>
      refine Evp.ff rfl ?_
      have e : (defT k).1 = flatS (shV k) := by unfold defT; simp [hb]
      exact Evp.ret (step M M1 A c (Pre.refl M) p1 (by rw [e]; exact hg))
theorem rdef_loop (M0 : Mem) (a : Addr) (c1 : Nat) (hlo : lo ≤ M0.length) (hR : RowsAt M0 a) (A9 : Option Addr) (n10 c11 : Nat) : ∀ (d k : Nat) (M : Mem) (A : Option Addr) (c m1 : Nat) (vs : List Value), 32 - k = d → k ≤ 32 → Pre M0 M → SetG m1 M0 M A (defSet.take k) vs → ((defSet.take k) ≠ [] → m1 ≤ M.length) →
    Run P T lo F.zoetroperef04_Default (zoetroperef04_Default.c244 (some a) 32 c1 (k : Int) A9 n10 c11 A k c M) fun r => ∃ A c M', r = (.agg ⟨[.slice A 32 c]⟩, M') ∧ Pre M0 M' ∧ SetIs (fun b => M0.length ≤ b) M' A defSet := by
  have hdl : defSet.length = 32 := by simp [defSet]
  intro d
  induction d with
  | zero =>
    intro k M A c m1 vs hd hk hp hs hm
    obtain rfl : k = 32 := by omega
    refine Run.cut (Evp.of_eq (fun k => zoetroperef04_Default.p244 k ..) ?_)
    refine Evp.dec (fun h => absurd h (by omega)) fun _ => Evp.ret (Run.ret ⟨A, c, M, rfl, hp, ?_⟩)
    have := hs.set
    rwa [List.take_of_length_le (by omega)] at this
  | succ d ih =>
    intro k M A c m1 vs hd hk hp hs hm
    have hk32 : k < 32 := by omega
    have hsb := sh_bound k hk32
    have l0 := hp.len
    have hRM := hR.pre hp
    refine Run.cut (Evp.of_eq (fun k => zoetroperef04_Default.p244 k ..) ?_)
    refine Evp.dec (fun _ => ?_) fun h => absurd h (by omega)
    refine Evp.ret (rdef_row lo M a c1 k hk32 (by omega) hRM A9 A n10 c11 k c (fun M' Ar cr us p1 hr => ?_) _ 0 M none 0 [] rfl (by omega) (Pre.refl M) RowG.nil)
    have hR' := hRM.pre p1
    have hl : (defSet.take k).length = k := by rw [List.length_take]; omega
    have hrl : (defRow k).length = shC k := by simp [defRow]
    obtain ⟨m1', s, M2, g1, g2, g3, g4, g5⟩ := hs.add (lo := lo) (c := c) (cr := cr) hp p1 hr (fun e => by rw [e] at hrl; simp at hrl; omega) hm hlo (by omega)
    rw [hl, hrl] at g1
    rw [hl] at g3
    refine Run.cut (Evp.of_eq (fun k => zoetroperef04_Default.p62612 k ..) ?_)
    refine Evp.pos (by omega) (Evp.some rfl ?_)
    simp only [Int.toNat_natCast]
    refine Evp.some (hR'.c k hk32) ?_
    refine Evp.dec (fun h => absurd h (by omega)) fun _ => ?_
    refine Evp.some g1 ?_
    obtain ⟨sa, sn, sc⟩ := s
    simp only at g2 g3
    subst g3
    rw [w64 (x := (k : Int) + 1) (by omega)]
    have e3 : defSet.take k ++ [defRow k] = defSet.take (k + 1) := by rw [List.take_add_one, defSet_get hk32]; rfl
    rw [e3] at g2
    exact Evp.ret (ih (k + 1) M2 sa sc m1' _ (by omega) (by omega) g4 g2 fun _ => g5)
theorem rdefault_ok (M : Mem) (hlo : lo ≤ M.length) : Ac P T lo F.zoetroperef04_Default [] M fun r => ∃ A c M', r = (.agg ⟨[.slice A 32 c]⟩, M') ∧ Pre M M' ∧ SetIs (fun b => M.length ≤ b) M' A defSet := by
  refine Ac.of (Evp.of_eq (fun k => zoetroperef04_Default.entry k ..) ?_)
  refine Evp.ob (rrows_ok lo M) ?_
  rintro _ ⟨a, M1, rfl, p1, hR⟩
  simp only [ret_int, ret_bool, ret_flt, ret_slc, ret_str, ret_ptr, ret_agg, ret_tup, ob_some, bb_true, bb_false, List.getElem?_cons_zero, List.getElem?_cons_succ, List.length_cons, List.length_nil, Nat.reduceAdd, Nat.reduceLT]
  have l1 := p1.len
  refine Evp.ret ((rdef_loop lo M1 a 32 (by omega) hR none 0 0 _ 0 M1 none 0 0 [] rfl (by omega) (Pre.refl M1) SetG.nil fun h => absurd rfl h).mono ?_)
  rintro _ ⟨A, c, M', rfl, p2, hs⟩
  exact ⟨A, c, M', rfl, p1.trans p2, hs.mono fun b h => by omega⟩
section
variable (S : Nat → Prop) (A : Option Addr) (c : Nat) (rows : List (List Tb)) (a : Addr) (c1 : Nat) (M : Mem)
theorem rcheck_row (hs : SetIs S M A rows) (hR : RowsAt M a) (k : Nat) (hk : k < 32) (row : List Tb) (hkr : rows[k]? = some row) (hn : row.length ≤ 140737488355328) {Q : Value × Mem → Prop}
    (hno : ¬ (∀ t ∈ row, t.1.length = shV k ∧ TabP t) → Q (.int .i64 2, M)) (hyes : (∀ t ∈ row, t.1.length = shV k ∧ TabP t) → Run P T lo F.zoetroperef04_Check (zoetroperef04_Check.c244 (some a) 32 c1 ((IntKind.i64.wrap ((k : Int) + 1))) A rows.length c M) Q) :
    ∀ (d j : Nat), row.length - j = d → j ≤ row.length → (∀ i t, i < j → row[i]? = some t → t.1.length = shV k ∧ TabP t) →
      Run P T lo F.zoetroperef04_Check (zoetroperef04_Check.c31308 (some a) 32 c1 (k : Int) (j : Int) A rows.length c M) Q := by
  have hkl := (List.getElem?_eq_some_iff.1 hkr).1
  intro d
  induction d with
  | zero =>
    intro j hd hj hh
    obtain rfl : j = row.length := by omega
    refine Run.cut (Evp.of_eq (fun k => zoetroperef04_Check.p31308 k ..) ?_)
    refine Evp.pos (by omega) ?_
    simp only [Int.toNat_natCast]
    refine Evp.ldR hs hkr fun a1 A1 c2 _ hr _ => ?_
    dsimp only
    refine Evp.dec (fun h => absurd h (by omega)) fun _ => Evp.ret (hyes fun t ht => ?_)
    obtain ⟨i, hi, rfl⟩ := List.getElem_of_mem ht
    exact hh i _ hi (List.getElem?_eq_getElem hi)
  | succ d ih =>
    intro j hd hj hh
    have hjl : j < row.length := by omega
    have hjt : row[j]? = some row[j] := List.getElem?_eq_getElem hjl
    have hmem : row[j] ∈ row := List.getElem_mem hjl
    refine Run.cut (Evp.of_eq (fun k => zoetroperef04_Check.p31308 k ..) ?_)
    refine Evp.pos (by omega) ?_
    simp only [Int.toNat_natCast]
    refine Evp.ldR hs hkr fun a1 A1 c2 _ hr _ => ?_
    dsimp only
    refine Evp.dec (fun _ => ?_) fun h => absurd h (by omega)
    refine Evp.pos (by omega) (Evp.ldR hs hkr fun a2 A2 c3 _ hr2 _ => ?_)
    dsimp only
    refine Evp.pos (by omega) (Evp.ldTs hr2 hjt fun a3 A3 c4 _ _ _ => ?_)
    dsimp only
    refine Evp.pos (by omega) (Evp.some rfl (Evp.some (hR.v k hk) ?_))
    refine Evp.neb (fun h => Evp.ret (Run.ret (hno fun e => h (congrArg (fun n : Nat => (n : Int)) (e _ hmem).1)))) fun h => ?_
    have h : ((row[j].1.length : Nat) : Int) = (shV k : Int) := h
    refine Evp.pos (by omega) (Evp.ldR hs hkr fun a4 A4 c5 _ hr4 _ => ?_)
    dsimp only
    refine Evp.pos (by omega) (Evp.ldT hr4 hjt fun a5 A5 c6 hx _ => ?_)
    dsimp only
    refine Evp.ob (rtcheck_ok lo A5 c6 row[j] M hx) ?_
    rintro _ rfl
    simp only [ret_int, ret_bool, ret_flt, ret_slc, ret_str, ret_ptr, ret_agg, ret_tup, ob_some, bb_true, bb_false, List.getElem?_cons_zero, List.getElem?_cons_succ, List.length_cons, List.length_nil, Nat.reduceAdd, Nat.reduceLT]
    refine Evp.neb (fun h2 => Evp.ret (Run.ret (hno fun e => h2 (by unfold tabS; rw [if_pos (e _ hmem).2])))) fun h2 => ?_
    rw [w64 (x := (j : Int) + 1) (by omega)]
    refine Evp.ret (ih (j + 1) (by omega) (by omega) fun i t hi ht => ?_)
    by_cases e : i = j
    · subst e
      rw [hjt] at ht; injection ht with ht; subst ht
      refine ⟨by omega, ?_⟩
      unfold tabS at h2
      split at h2
      · assumption
      · cases h2
    · exact hh i t (by omega) ht
theorem rcheck_loop (hs : SetIs S M A rows) (hR : RowsAt M a) (hl : rows.length = 32) (hb : ∀ row ∈ rows, row.length ≤ 140737488355328) :
    ∀ (d k : Nat), 32 - k = d → k ≤ 32 → (∀ i, i < k → RowP i (rows.getD i [])) → Run P T lo F.zoetroperef04_Check (zoetroperef04_Check.c244 (some a) 32 c1 (k : Int) A rows.length c M) fun r => r = (.int .i64 (setS rows), M) := by
  intro d
  induction d with
  | zero =>
    intro k hd hk hp
    obtain rfl : k = 32 := by omega
    refine Run.cut (Evp.of_eq (fun k => zoetroperef04_Check.p244 k ..) ?_)
    refine Evp.dec (fun h => absurd h (by omega)) fun _ => Evp.ret (Run.ret ?_)
    unfold setS
    rw [if_pos ⟨hl, hp⟩]
  | succ d ih =>
    intro k hd hk hp
    have hk32 : k < 32 := by omega
    have hkr : rows[k]? = some (rows.getD k []) := by rw [List.getD_eq_getElem?_getD, List.getElem?_eq_getElem (by omega)]; rfl
    have hmem : rows.getD k [] ∈ rows := List.mem_of_getElem? hkr
    have no : ¬ RowP k (rows.getD k []) → (Value.int .i64 2, M) = (Value.int .i64 (setS rows), M) := fun h => by
      unfold setS
      rw [if_neg fun e => h (e.2 k hk32)]
    refine Run.cut (Evp.of_eq (fun k => zoetroperef04_Check.p244 k ..) ?_)
    refine Evp.dec (fun _ => ?_) fun h => absurd h (by omega)
    refine Evp.pos (by omega) ?_
    simp only [Int.toNat_natCast]
    refine Evp.ldR hs hkr fun a1 A1 c2 _ hr _ => ?_
    dsimp only
    refine Evp.pos (by omega) (Evp.some rfl (Evp.some (hR.c k hk32) ?_))
    refine Evp.neb (fun h => Evp.ret (Run.ret (no fun e => h (congrArg (fun n : Nat => (n : Int)) e.1)))) fun h => ?_
    have h : (((rows.getD k []).length : Nat) : Int) = (shC k : Int) := h
    refine Evp.ret (rcheck_row lo S A c rows a c1 M hs hR k hk32 _ hkr (hb _ hmem) (fun h2 => no fun e => h2 e.2) (fun hy => ?_) _ 0 rfl (by omega) (fun i t hi => absurd hi (by omega)))
    rw [w64 (x := (k : Int) + 1) (by omega)]
    refine ih (k + 1) (by omega) (by omega) fun i hi => ?_
    by_cases e : i = k
    · subst e; exact ⟨by omega, hy⟩
    · exact hp i (by omega)
theorem rscheck_ok (hs : SetIs S M A rows) (hb : ∀ row ∈ rows, row.length ≤ 140737488355328) : Ac P T lo F.zoetroperef04_Check [.agg ⟨[.slice A rows.length c]⟩] M fun r => ∃ M', r = (.int .i64 (setS rows), M') ∧ Pre M M' := by
  refine Ac.of (Evp.of_eq (fun k => zoetroperef04_Check.entry k ..) ?_)
  refine Evp.neb (fun h => Evp.ret (Run.ret ⟨M, ?_, Pre.refl M⟩)) fun h => ?_
  · unfold setS
    rw [if_neg fun e => h (by have := e.1; omega)]
  refine Evp.ob (rrows_ok lo M) ?_
  rintro _ ⟨a, M1, rfl, p1, hR⟩
  simp only [ret_int, ret_bool, ret_flt, ret_slc, ret_str, ret_ptr, ret_agg, ret_tup, ob_some, bb_true, bb_false, List.getElem?_cons_zero, List.getElem?_cons_succ, List.length_cons, List.length_nil, Nat.reduceAdd, Nat.reduceLT]
  refine Evp.ret ((rcheck_loop lo S A c rows a 32 M1 (hs.pre p1) hR (by omega) hb _ 0 rfl (by omega) fun i hi => absurd hi (by omega)).mono ?_)
  rintro _ rfl
  exact ⟨M1, rfl, p1⟩
end
section
variable (S : Nat → Prop) (A : Option Addr) (c : Nat) (rows : List (List Tb))
theorem rcopy_row (Ms : Mem) (hlo : lo ≤ Ms.length) (hs : SetIs S Ms A rows) (k : Nat) (row : List Tb) (hkr : rows[k]? = some row) (hn : row.length ≤ 1000) (hne : ∀ t ∈ row, t.1.length ≠ 0 ∧ t.1.length ≤ 1000) (A9 A12 : Option Addr) (n10 c11 n13 c14 : Nat) {Q : Value × Mem → Prop}
    (hnext : ∀ (M' : Mem) (Ar : Option Addr) (cr : Nat) (us : List Value), Pre Ms M' → RowG Ms M' Ar row us → Run P T lo F.zoetroperef04_Copy (zoetroperef04_Copy.c29844 (k : Int) Ar row.length cr (row.length : Int) A rows.length c A9 n10 c11 A12 n13 c14 M') Q) :
    ∀ (d j : Nat) (M : Mem) (Ar : Option Addr) (cr : Nat) (us : List Value), row.length - j = d → j ≤ row.length → Pre Ms M → RowG Ms M Ar (row.take j) us →
      Run P T lo F.zoetroperef04_Copy (zoetroperef04_Copy.c29844 (k : Int) Ar j cr (j : Int) A rows.length c A9 n10 c11 A12 n13 c14 M) Q := by
  have hkl := (List.getElem?_eq_some_iff.1 hkr).1
  intro d
  induction d with
  | zero =>
    intro j M Ar cr us hd hj hp hr
    obtain rfl : j = row.length := by omega
    rw [List.take_length] at hr
    exact hnext M Ar cr us hp hr
  | succ d ih =>
    intro j M Ar cr us hd hj hp hr
    have hjl : j < row.length := by omega
    have hjt : row[j]? = some row[j] := List.getElem?_eq_getElem hjl
    have hmem : row[j] ∈ row := List.getElem_mem hjl
    have hsM := hs.pre hp
    have l0 := hp.len
    have hl : (row.take j).length = j := by rw [List.length_take]; omega
    refine Run.cut (Evp.of_eq (fun k => zoetroperef04_Copy.p29844 k ..) ?_)
    refine Evp.pos (by omega) ?_
    simp only [Int.toNat_natCast]
    refine Evp.ldR hsM hkr fun a1 A1 c2 _ hr1 _ => ?_
    dsimp only
    refine Evp.dec (fun _ => ?_) fun h => absurd h (by omega)
    refine Evp.pos (by omega) (Evp.ldR hsM hkr fun a2 A2 c3 _ hr2 _ => ?_)
    dsimp only
    refine Evp.pos (by omega) ?_
    have two : ∀ {α : Type} {Q : α → Prop} {f : Nat → Addr → Int → Option α}, (∀ a, Evp (fun kk => f kk a row[j].2) Q) → Evp (fun kk => ob A2 fun a => ob ((M.ld (plus (plus a (j * 2)) 1)).bind (Value.int? .i64)) (f kk a)) Q := fun {α Q f} hf => by
      obtain ⟨h0, vs, h1, h2⟩ := hr2
      obtain ⟨A', c', g1, g2, g3, g4⟩ := h2 j row[j] hjt
      obtain ⟨a, ha, _, e2⟩ := h1.get (i := j * 2 + 1) (by omega)
      subst ha
      refine Evp.of_eq (fun kk => ?_) (hf a)
      rw [ob_some, show plus (plus a (j * 2)) 1 = plus a (j * 2 + 1) by simp only [plus_eq, Nat.add_assoc], e2, g2, ret_int]
    refine two fun a3 => ?_
    refine Evp.pos (by omega) (Evp.ldR hsM hkr fun a4 A4 c5 _ hr4 _ => ?_)
    dsimp only
    refine Evp.pos (by omega) (Evp.ldTs hr4 hjt fun a5 A5 c6 _ hx _ => ?_)
    dsimp only
    have hnj := hne _ hmem
    refine Evp.some hx.src ?_
    obtain ⟨s, M1, h1, h2, h3, h4, _, h5⟩ := (Grow.nil (M0 := M) (M := M) (z := 1)).app (lo := lo) (bytes := 2) (c := 0) (m := row[j].1.length) (vs := row[j].1.map (Value.int .u16)) (Pre.refl M) (by omega) (by simp) (by omega) (by omega)
    rw [Nat.zero_add] at h3
    refine Evp.some h1 ?_
    obtain ⟨sa, sn, sc⟩ := s
    simp only at h2 h3
    subst h3
    obtain ⟨aa, rfl, hb⟩ := h2.buf hnj.1
    obtain ⟨s', M2, g1, g2, g3, g4⟩ := hr.add (lo := lo) (c := cr) (cc := sc) (t := row[j]) h4 hp hb hlo (by omega)
    rw [hl] at g1 g3
    refine Evp.some g1 ?_
    obtain ⟨ta, tn, tc⟩ := s'
    simp only at g2 g3
    subst g3
    rw [w64 (x := (j : Int) + 1) (by omega)]
    have e3 : row.take j ++ [row[j]] = row.take (j + 1) := by rw [List.take_add_one, hjt]; rfl
    rw [e3] at g2
    exact Evp.ret (ih (j + 1) M2 ta tc _ (by omega) (by omega) g4 g2)
theorem rcopy_loop (M0 : Mem) (hlo : lo ≤ M0.length) (hs : SetIs S M0 A rows) (hn : rows.length ≤ 1000) (hne : ∀ row ∈ rows, row.length ≠ 0 ∧ row.length ≤ 1000 ∧ ∀ t ∈ row, t.1.length ≠ 0 ∧ t.1.length ≤ 1000) (A9 : Option Addr) (n10 c11 : Nat) :
    ∀ (d k : Nat) (M : Mem) (Ao : Option Addr) (co m1 : Nat) (vs : List Value), rows.length - k = d → k ≤ rows.length → Pre M0 M → SetG m1 M0 M Ao (rows.take k) vs → ((rows.take k) ≠ [] → m1 ≤ M.length) → co = k →
    Run P T lo F.zoetroperef04_Copy (zoetroperef04_Copy.c116 (k : Int) A rows.length c A9 n10 c11 Ao k co M) fun r => ∃ A m1 vs M', r = (.agg ⟨[.slice A rows.length rows.length]⟩, M') ∧ Pre M0 M' ∧ SetG m1 M0 M' A rows vs := by
  intro d
  induction d with
  | zero =>
    intro k M Ao co m1 vs hd hk hp hg hm hco
    obtain rfl : k = rows.length := by omega
    subst hco
    refine Run.cut (Evp.of_eq (fun k => zoetroperef04_Copy.p116 k ..) ?_)
    rw [List.take_length] at hg
    exact Evp.dec (fun h => absurd h (by omega)) fun _ => Evp.ret (Run.ret ⟨Ao, m1, vs, M, rfl, hp, hg⟩)
  | succ d ih =>
    intro k M Ao co m1 vs hd hk hp hg hm hco
    have hkl : k < rows.length := by omega
    have hkr : rows[k]? = some rows[k] := List.getElem?_eq_getElem hkl
    have hmem : rows[k] ∈ rows := List.getElem_mem hkl
    have hn1 := hne _ hmem
    have l0 := hp.len
    have hsM := hs.pre hp
    have hl : (rows.take k).length = k := by rw [List.length_take]; omega
    refine Run.cut (Evp.of_eq (fun k => zoetroperef04_Copy.p116 k ..) ?_)
    refine Evp.dec (fun _ => ?_) fun h => absurd h (by omega)
    refine Evp.ret (rcopy_row lo S A c rows M (by omega) hsM k rows[k] hkr hn1.2.1 hn1.2.2 A9 Ao n10 c11 k co (fun M' Ar cr us p1 hr => ?_) _ 0 M none 0 [] rfl (by omega) (Pre.refl M) RowG.nil)
    obtain ⟨m1', s, M2, g1, g2, g3, g4, g5⟩ := hg.add (lo := lo) (c := co) (cr := cr) hp p1 hr (fun e => hn1.1 (by rw [e]; rfl)) hm hlo (by omega)
    rw [hl] at g1 g3
    refine Run.cut (Evp.of_eq (fun k => zoetroperef04_Copy.p29844 k ..) ?_)
    refine Evp.pos (by omega) ?_
    simp only [Int.toNat_natCast]
    refine Evp.ldR (hsM.pre p1) hkr fun a1 A1 c2 _ hr1 _ => ?_
    dsimp only
    refine Evp.dec (fun h => absurd h (by omega)) fun _ => ?_
    refine Evp.some g1 ?_
    have gc := app_c g1 (by omega)
    obtain ⟨sa, sn, sc⟩ := s
    simp only at g2 g3 gc
    subst g3
    rw [w64 (x := (k : Int) + 1) (by omega)]
    have e3 : rows.take k ++ [rows[k]] = rows.take (k + 1) := by rw [List.take_add_one, hkr]; rfl
    rw [e3] at g2
    exact Evp.ret (ih (k + 1) M2 sa sc m1' _ (by omega) (by omega) g4 g2 (fun _ => g5) gc)
theorem rcopyG_ok (M : Mem) (hlo : lo ≤ M.length) (hs : SetIs S M A rows) (hp : SetP rows) : Ac P T lo F.zoetroperef04_Copy [.agg ⟨[.slice A rows.length c]⟩] M fun r => ∃ A m1 vs M', r = (.agg ⟨[.slice A rows.length rows.length]⟩, M') ∧ Pre M M' ∧ SetG m1 M M' A rows vs := by
  have hne := hp.ne
  refine Ac.of (Evp.of_eq (fun k => zoetroperef04_Copy.entry k ..) ?_)
  exact Evp.ret (rcopy_loop lo S A c rows M hlo hs (by have := hne.1; omega) hne.2 none 0 0 _ 0 M none 0 0 [] rfl (by omega) (Pre.refl M) SetG.nil (fun h => absurd rfl h) rfl)
theorem rcopy_ok (M : Mem) (hlo : lo ≤ M.length) (hs : SetIs S M A rows) (hp : SetP rows) : Ac P T lo F.zoetroperef04_Copy [.agg ⟨[.slice A rows.length c]⟩] M fun r => ∃ A c M', r = (.agg ⟨[.slice A rows.length c]⟩, M') ∧ Pre M M' ∧ SetIs (fun b => M.length ≤ b) M' A rows :=
  Ac.mono (rcopyG_ok lo S A c rows M hlo hs hp) fun r ⟨A, m1, vs, M', h1, h2, h3⟩ => ⟨A, _, M', h1, h2, h3.set⟩
end
section
variable (S S' : Nat → Prop) (A B : Option Addr) (c c' : Nat) (rows rows' : List (List Tb)) (M : Mem) (hs : SetIs S M A rows) (hs' : SetIs S' M B rows')
include hs hs'
omit hs hs' in
theorem rsame_tab (k j : Nat) (A1 B1 : Option Addr) (c1 c2 : Nat) (t t' : Tb) (hx : RdI M .u16 A1 t.1) (hy : RdI M .u16 B1 t'.1) (hl : t.1.length = t'.1.length) (hn : t.1.length ≤ 1000) {Q : Value × Mem → Prop} (hno : t.1 ≠ t'.1 → Q (.bool false, M))
    (hyes : t.1 = t'.1 → Run P T lo F.zoetroperef04_Same (zoetroperef04_Same.c14924 (k : Int) (IntKind.i64.wrap ((j : Int) + 1)) A rows.length c B rows'.length c' M) Q) :
    ∀ (d i : Nat), t.1.length - i = d → i ≤ t.1.length → (∀ l, l < i → t.1.getD l 0 = t'.1.getD l 0) → Run P T lo F.zoetroperef04_Same (zoetroperef04_Same.c3820700 (k : Int) (j : Int) (i : Int) A rows.length c B rows'.length c' A1 t.1.length c1 t.2 B1 t'.1.length c2 t'.2 M) Q := by
  intro d
  induction d with
  | zero =>
    intro i hd hi he
    refine Run.cut (Evp.of_eq (fun k => zoetroperef04_Same.p3820700 k ..) ?_)
    exact Evp.dec (fun h => absurd h (by omega)) fun _ => Evp.ret (hyes (ext_getD hl fun l h => he l (by omega)))
  | succ d ih =>
    intro i hd hi he
    refine Run.cut (Evp.of_eq (fun k => zoetroperef04_Same.p3820700 k ..) ?_)
    refine Evp.dec (fun _ => ?_) fun h => absurd h (by omega)
    refine Evp.pos (by omega) ?_
    simp only [Int.toNat_natCast]
    refine Evp.ldI hx (by omega) fun _ _ => Evp.pos (by omega) (Evp.ldI hy (by omega) fun _ _ => ?_)
    refine Evp.neb (fun h => Evp.ret (Run.ret (hno fun e => h (by rw [e])))) fun h => ?_
    rw [w64 (x := (i : Int) + 1) (by omega)]
    refine Evp.ret (ih (i + 1) (by omega) (by omega) fun l hl => ?_)
    by_cases e : l = i
    · subst e; exact h
    · exact he l (by omega)
theorem rsame_row (k : Nat) (row row' : List Tb) (h1 : rows[k]? = some row) (h2 : rows'[k]? = some row') (hl : row.length = row'.length) (hn : row.length ≤ 1000) (hb : ∀ t ∈ row, t.1.length ≤ 1000) {Q : Value × Mem → Prop} (hno : row ≠ row' → Q (.bool false, M))
    (hyes : row = row' → Run P T lo F.zoetroperef04_Same (zoetroperef04_Same.c116 (IntKind.i64.wrap ((k : Int) + 1)) A rows.length c B rows'.length c' M) Q) :
    ∀ (d j : Nat), row.length - j = d → j ≤ row.length → (∀ i x y, i < j → row[i]? = some x → row'[i]? = some y → x = y) → Run P T lo F.zoetroperef04_Same (zoetroperef04_Same.c14924 (k : Int) (j : Int) A rows.length c B rows'.length c' M) Q := by
  have k1 := (List.getElem?_eq_some_iff.1 h1).1
  have k2 := (List.getElem?_eq_some_iff.1 h2).1
  intro d
  induction d with
  | zero =>
    intro j hd hj he
    refine Run.cut (Evp.of_eq (fun k => zoetroperef04_Same.p14924 k ..) ?_)
    refine Evp.pos (by omega) ?_
    simp only [Int.toNat_natCast]
    refine Evp.ldR hs h1 fun a1 A1 c2 _ hr1 _ => ?_
    dsimp only
    exact Evp.dec (fun h => absurd h (by omega)) fun _ => Evp.ret (hyes (eq_of_get hl fun i x y g1 g2 => he i x y (by have := (List.getElem?_eq_some_iff.1 g1).1; omega) g1 g2))
  | succ d ih =>
    intro j hd hj he
    have hjl : j < row.length := by omega
    have e1 : row[j]? = some row[j] := List.getElem?_eq_getElem hjl
    have e2 : row'[j]? = some (row'[j]'(by omega)) := List.getElem?_eq_getElem (by omega)
    refine Run.cut (Evp.of_eq (fun k => zoetroperef04_Same.p14924 k ..) ?_)
    refine Evp.pos (by omega) ?_
    simp only [Int.toNat_natCast]
    refine Evp.ldR hs h1 fun a1 A1 c2 _ hr1 _ => ?_
    dsimp only
    refine Evp.dec (fun _ => ?_) fun h => absurd h (by omega)
    refine Evp.pos (by omega) (Evp.ldR hs h1 fun a2 A2 c3 _ hr2 _ => ?_)
    dsimp only
    refine Evp.pos (by omega) (Evp.ldT hr2 e1 fun a3 A3 c4 hx _ => ?_)
    dsimp only
    refine Evp.pos (by omega) (Evp.ldR hs' h2 fun a4 A4 c5 _ hr4 _ => ?_)
    dsimp only
    refine Evp.pos (by omega) (Evp.ldT hr4 e2 fun a5 A5 c6 hy _ => ?_)
    dsimp only
    have no : row[j] ≠ row'[j]'(by omega) → row ≠ row' := fun h e => h (by simp only [e])
    refine Evp.neb (fun h => Evp.ret (Run.ret (hno (no fun e => h (by rw [e]))))) fun hc => ?_
    refine Evp.neb (fun h => Evp.ret (Run.ret (hno (no fun e => h (by rw [e]))))) fun hle => ?_
    refine Evp.ret (rsame_tab lo A B c c' rows rows' M k j A3 A5 c4 c6 row[j] _ hx hy (by omega) (hb _ (List.getElem_mem hjl)) (fun h => hno (no fun e => h (by rw [e]))) (fun h => ?_) _ 0 rfl (by omega) fun l hl => absurd hl (by omega))
    rw [w64 (x := (j : Int) + 1) (by omega)]
    refine ih (j + 1) (by omega) (by omega) fun i x y hi g1 g2 => ?_
    by_cases e : i = j
    · subst e
      rw [e1] at g1; rw [e2] at g2
      injection g1 with g1; injection g2 with g2
      rw [← g1, ← g2]
      exact Prod.ext h hc
    · exact he i x y (by omega) g1 g2
theorem rsame_loop (hl : rows.length = rows'.length) (hn : rows.length ≤ 1000) (hb : ∀ row ∈ rows, row.length ≤ 1000 ∧ ∀ t ∈ row, t.1.length ≤ 1000) :
    ∀ (d k : Nat), rows.length - k = d → k ≤ rows.length → (∀ i x y, i < k → rows[i]? = some x → rows'[i]? = some y → x = y) → Run P T lo F.zoetroperef04_Same (zoetroperef04_Same.c116 (k : Int) A rows.length c B rows'.length c' M) fun r => r = (.bool (decide (rows = rows')), M) := by
  intro d
  induction d with
  | zero =>
    intro k hd hk he
    refine Run.cut (Evp.of_eq (fun k => zoetroperef04_Same.p116 k ..) ?_)
    refine Evp.dec (fun h => absurd h (by omega)) fun _ => Evp.ret (Run.ret ?_)
    rw [decide_eq_true (eq_of_get hl fun i x y g1 g2 => he i x y (by have := (List.getElem?_eq_some_iff.1 g1).1; omega) g1 g2)]
  | succ d ih =>
    intro k hd hk he
    have hkl : k < rows.length := by omega
    have e1 : rows[k]? = some rows[k] := List.getElem?_eq_getElem hkl
    have e2 : rows'[k]? = some (rows'[k]'(by omega)) := List.getElem?_eq_getElem (by omega)
    have hbk := hb _ (List.getElem_mem hkl)
    have no : rows[k] ≠ rows'[k]'(by omega) → (Value.bool false, M) = (Value.bool (decide (rows = rows')), M) := fun h => by
      rw [decide_eq_false fun e => h (by simp only [e])]
    refine Run.cut (Evp.of_eq (fun k => zoetroperef04_Same.p116 k ..) ?_)
    refine Evp.dec (fun _ => ?_) fun h => absurd h (by omega)
    refine Evp.pos (by omega) ?_
    simp only [Int.toNat_natCast]
    refine Evp.ldR hs e1 fun a1 A1 c2 _ hr1 _ => ?_
    dsimp only
    refine Evp.pos (by omega) (Evp.ldR hs' e2 fun a2 A2 c3 _ hr2 _ => ?_)
    dsimp only
    refine Evp.neb (fun h => Evp.ret (Run.ret (no fun e => h (by rw [e])))) fun hle => ?_
    refine Evp.ret (rsame_row lo S S' A B c c' rows rows' M hs hs' k rows[k] _ e1 e2 (by omega) hbk.1 hbk.2 no (fun h => ?_) _ 0 rfl (by omega) fun i x y hi => absurd hi (by omega))
    rw [w64 (x := (k : Int) + 1) (by omega)]
    refine ih (k + 1) (by omega) (by omega) fun i x y hi g1 g2 => ?_
    by_cases e : i = k
    · subst e
      rw [e1] at g1; rw [e2] at g2
      injection g1 with g1; injection g2 with g2
      rw [← g1, ← g2]; exact h
    · exact he i x y (by omega) g1 g2
theorem rsset_ok (hn : rows.length ≤ 1000) (hb : ∀ row ∈ rows, row.length ≤ 1000 ∧ ∀ t ∈ row, t.1.length ≤ 1000) : Ac P T lo F.zoetroperef04_Same [.agg ⟨[.slice A rows.length c]⟩, .agg ⟨[.slice B rows'.length c']⟩] M fun r => r = (.bool (decide (rows = rows')), M) := by
  refine Ac.of (Evp.of_eq (fun k => zoetroperef04_Same.entry k ..) ?_)
  refine Evp.neb (fun h => Evp.ret (Run.ret ?_)) fun h => ?_
  · rw [decide_eq_false fun e => h (by rw [e])]
  · exact Evp.ret (rsame_loop lo S S' A B c c' rows rows' M hs hs' (by omega) hn hb _ 0 rfl (by omega) fun i x y hi => absurd hi (by omega))
end
end
end Go.Zt
