/- What the law PoolNames needs of the text Fi. -/
import Derived.Test.YtjmahpemdghncaaPFh
set_option linter.unusedVariables false
set_option linter.unusedSimpArgs false
set_option maxRecDepth 100000
namespace Go.Zt
theorem eq_of_get {α : Type} {l l' : List α} (hl : l.length = l'.length) (h : ∀ (i : Nat) (x y : α), l[i]? = some x → l'[i]? = some y → x = y) : l = l' := by
  apply List.ext_getElem hl
  intro i h1 h2
  exact h i _ _ (List.getElem?_eq_getElem h1) (List.getElem?_eq_getElem h2)
section
variable (lo : Nat)
theorem equal16_loop (A A' : Option Addr) (c c' : Nat) (xs ys : List Int) (M : Mem) (hx : RdI M .u16 A xs) (hy : RdI M .u16 A' ys) (hl : xs.length = ys.length) (hn : xs.length ≤ 140737488351232) :
    ∀ (d i : Nat), xs.length - i = d → i ≤ xs.length → (∀ j, j < i → xs.getD j 0 = ys.getD j 0) → Run P T lo F.slices_Equal__uint16_uint16 (slices_Equal__uint16_uint16.c116 A xs.length c A' ys.length c' xs.length i M) fun r => r = (.bool (decide (xs = ys)), M) := by
  intro d
  induction d with
  | zero =>
    intro i hd hi hj
    refine Run.cut (Evp.of_eq (fun k => slices_Equal__uint16_uint16.p116 k ..) ?_)
    refine Evp.dec (fun h => absurd h (by omega)) fun _ => Evp.ret (Run.ret ?_)
    rw [decide_eq_true (ext_getD hl fun j h => hj j (by omega))]
  | succ d ih =>
    intro i hd hi hj
    refine Run.cut (Evp.of_eq (fun k => slices_Equal__uint16_uint16.p116 k ..) ?_)
    refine Evp.dec (fun _ => ?_) fun h => absurd h (by omega)
    refine Evp.pos (by omega) ?_
    simp only [Int.toNat_natCast]
    refine Evp.ldI hx (by omega) fun a _ => ?_
    refine Evp.pos (by omega) ?_
    refine Evp.ldI hy (by omega) fun a' _ => ?_
    refine Evp.neb (fun hne => Evp.ret (Run.ret ?_)) fun he => ?_
    · rw [decide_eq_false (fun e => hne (by rw [e]))]
    · rw [w64 (by omega)]
      exact Evp.ret (ih (i + 1) (by omega) (by omega) fun j h => by
        by_cases hji : j = i
        · subst hji; exact he
        · exact hj j (by omega))
theorem equal16_ok (A A' : Option Addr) (c c' : Nat) (xs ys : List Int) (M : Mem) (hx : RdI M .u16 A xs) (hy : RdI M .u16 A' ys) (hn : xs.length ≤ 140737488351232) :
    Ac P T lo F.slices_Equal__uint16_uint16 [.slice A xs.length c, .slice A' ys.length c'] M fun r => r = (.bool (decide (xs = ys)), M) := by
  refine Ac.of (Evp.of_eq (fun k => slices_Equal__uint16_uint16.entry k ..) ?_)
  refine Evp.neb (fun h => Evp.ret (Run.ret ?_)) fun h => ?_
  · rw [decide_eq_false (fun e => h (by rw [e]))]
  · exact Evp.ret (equal16_loop lo A A' c c' xs ys M hx hy (by omega) hn _ 0 rfl (by omega) fun j h => by omega)
theorem same1_ok (A A' : Option Addr) (c c' : Nat) (t t' : Tb) (M : Mem) (hx : RdI M .u16 A t.1) (hy : RdI M .u16 A' t'.1) (hn : t.1.length ≤ 140737488351232) :
    Ac P T lo F.pool_sameSet_1 [.agg ⟨[.slice A t.1.length c, .int .i64 t.2]⟩, .agg ⟨[.slice A' t'.1.length c', .int .i64 t'.2]⟩] M fun r => r = (.bool (decide (t = t')), M) := by
  refine Ac.of (Evp.of_eq (fun k => pool_sameSet_1.entry k ..) ?_)
  refine Evp.eqb (fun h => ?_) fun h => Evp.ret (Run.ret (by rw [decide_eq_false (fun e => h (by rw [e]))]))
  refine Evp.ob (equal16_ok lo _ _ _ _ _ _ _ hx hy hn) ?_
  rintro _ rfl
  simp only [ret_int, ret_bool, ret_flt, ret_slc, ret_str, ret_ptr, ret_agg, ret_tup, ob_some, bb_true, bb_false, List.getElem?_cons_zero, List.getElem?_cons_succ, List.length_cons, List.length_nil, Nat.reduceAdd, Nat.reduceLT]
  refine Evp.ret (Run.ret ?_)
  congr 2
  exact decide_eq_decide.2 ⟨fun e => Prod.ext e h, fun e => by rw [e]⟩
variable (S S' : Nat → Prop) (M : Mem)
abbrev fn1 : Value := .func (.func F.pool_sameSet_1) ⟨[]⟩ ⟨[]⟩
theorem eqrow_loop (A A' : Option Addr) (c c' : Nat) (row row' : List Tb) (h : RowIs S M A row) (h' : RowIs S' M A' row') (hl : row.length = row'.length) (hn : row.length ≤ 1000) (hb : ∀ t ∈ row, t.1.length ≤ 1000) :
    ∀ (d i : Nat), row.length - i = d → i ≤ row.length → (∀ j x y, j < i → row[j]? = some x → row'[j]? = some y → x = y) →
      Run P T lo F.slices_EqualFunc__api_Table_api_Table_api_Table_api_Table_n2 (slices_EqualFunc__api_Table_api_Table_api_Table_api_Table_n2.c116 A' row'.length c' fn1 A row.length c (row.length : Int) (i : Int) M) fun r => r = (.bool (decide (row = row')), M) := by
  intro d
  induction d with
  | zero =>
    intro i hd hi hj
    obtain rfl : i = row.length := by omega
    refine Run.cut (Evp.of_eq (fun k => slices_EqualFunc__api_Table_api_Table_api_Table_api_Table_n2.p116 k ..) ?_)
    refine Evp.dec (fun h => absurd h (by omega)) fun _ => Evp.ret (Run.ret ?_)
    rw [decide_eq_true (eq_of_get hl fun j x y h1 h2 => hj j x y (List.getElem?_eq_some_iff.1 h1).1 h1 h2)]
  | succ d ih =>
    intro i hd hi hj
    have hil : i < row.length := by omega
    have e1 : row[i]? = some row[i] := List.getElem?_eq_getElem hil
    have e2 : row'[i]? = some (row'[i]'(by omega)) := List.getElem?_eq_getElem (by omega)
    refine Run.cut (Evp.of_eq (fun k => slices_EqualFunc__api_Table_api_Table_api_Table_api_Table_n2.p116 k ..) ?_)
    refine Evp.dec (fun _ => ?_) fun h => absurd h (by omega)
    refine Evp.pos (by omega) ?_
    simp only [Int.toNat_natCast]
    refine Evp.ldT h e1 fun a B d hx _ => ?_
    refine Evp.pos (by omega) ?_
    refine Evp.ldT h' e2 fun a' B' d' hy _ => ?_
    refine Evp.some rfl ?_
    refine Evp.ob (same1_ok lo B B' d d' row[i] _ M hx hy (by have := hb _ (List.getElem_mem hil); omega)) ?_
    rintro _ rfl
    simp only [ret_int, ret_bool, ret_flt, ret_slc, ret_str, ret_ptr, ret_agg, ret_tup, ob_some, bb_true, bb_false, List.getElem?_cons_zero, List.getElem?_cons_succ, List.length_cons, List.length_nil, Nat.reduceAdd, Nat.reduceLT]
    refine Evp.nb (fun hf => Evp.ret (Run.ret ?_)) fun ht => ?_
    · have := of_decide_eq_false hf
      rw [decide_eq_false fun e => this (by simp only [e])]
    · have := of_decide_eq_true ht
      rw [w64 (by omega)]
      refine Evp.ret (ih (i + 1) (by omega) (by omega) fun j x y h1 h2 h3 => ?_)
      by_cases hji : j = i
      · subst hji
        rw [e1] at h2; rw [e2] at h3
        injection h2 with h2; injection h3 with h3
        rw [← h2, ← h3]; exact this
      · exact hj j x y (by omega) h2 h3
theorem same2_ok (A A' : Option Addr) (c c' : Nat) (row row' : List Tb) (h : RowIs S M A row) (h' : RowIs S' M A' row') (hn : row.length ≤ 1000) (hb : ∀ t ∈ row, t.1.length ≤ 1000) (p : Addr) (hp : M.ld p = some fn1) :
    Ac P T lo F.pool_sameSet_2 [.slice A row.length c, .slice A' row'.length c', .pointer (some p)] M fun r => r = (.bool (decide (row = row')), M) := by
  refine Ac.of (Evp.of_eq (fun k => pool_sameSet_2.entry k ..) ?_)
  refine Evp.some (b := fn1) (by rw [hp]; rfl) ?_
  have key : Ac P T lo F.slices_EqualFunc__api_Table_api_Table_api_Table_api_Table_n2 [.slice A row.length c, .slice A' row'.length c', fn1] M fun r => r = (.bool (decide (row = row')), M) := by
    refine Ac.of (Evp.of_eq (fun k => slices_EqualFunc__api_Table_api_Table_api_Table_api_Table_n2.entry k ..) ?_)
    refine Evp.neb (fun h => Evp.ret (Run.ret ?_)) fun h => ?_
    · rw [decide_eq_false (fun e => h (by rw [e]))]
    · exact Evp.ret (eqrow_loop lo S S' M A A' c c' row row' ‹_› h' (by omega) hn hb _ 0 rfl (by omega) fun j x y hj => absurd hj (by omega))
  refine Evp.ob key ?_
  rintro _ rfl
  simp only [ret_int, ret_bool, ret_flt, ret_slc, ret_str, ret_ptr, ret_agg, ret_tup, ob_some, bb_true, bb_false, List.getElem?_cons_zero, List.getElem?_cons_succ, List.length_cons, List.length_nil, Nat.reduceAdd, Nat.reduceLT]
  exact Evp.ret (Run.ret rfl)
abbrev fn2 (p : Addr) : Value := .func (.func F.pool_sameSet_2) ⟨[]⟩ ⟨[.pointer (some p)]⟩
theorem eqset_loop (A A' : Option Addr) (c c' : Nat) (rows rows' : List (List Tb)) (h : SetIs S M A rows) (h' : SetIs S' M A' rows') (hl : rows.length = rows'.length) (hn : rows.length ≤ 1000) (hb : ∀ row ∈ rows, row.length ≤ 1000 ∧ ∀ t ∈ row, t.1.length ≤ 1000) (p : Addr) (hp : M.ld p = some fn1) :
    ∀ (d i : Nat), rows.length - i = d → i ≤ rows.length → (∀ j x y, j < i → rows[j]? = some x → rows'[j]? = some y → x = y) →
      Run P T lo F.slices_EqualFunc__api_Table_api_Table_api_Table_api_Table (slices_EqualFunc__api_Table_api_Table_api_Table_api_Table.c116 A' rows'.length c' (fn2 p) A rows.length c (rows.length : Int) (i : Int) M) fun r => r = (.bool (decide (rows = rows')), M) := by
  intro d
  induction d with
  | zero =>
    intro i hd hi hj
    obtain rfl : i = rows.length := by omega
    refine Run.cut (Evp.of_eq (fun k => slices_EqualFunc__api_Table_api_Table_api_Table_api_Table.p116 k ..) ?_)
    refine Evp.dec (fun h => absurd h (by omega)) fun _ => Evp.ret (Run.ret ?_)
    rw [decide_eq_true (eq_of_get hl fun j x y h1 h2 => hj j x y (List.getElem?_eq_some_iff.1 h1).1 h1 h2)]
  | succ d ih =>
    intro i hd hi hj
    have hil : i < rows.length := by omega
    have e1 : rows[i]? = some rows[i] := List.getElem?_eq_getElem hil
    have e2 : rows'[i]? = some (rows'[i]'(by omega)) := List.getElem?_eq_getElem (by omega)
    refine Run.cut (Evp.of_eq (fun k => slices_EqualFunc__api_Table_api_Table_api_Table_api_Table.p116 k ..) ?_)
    refine Evp.dec (fun _ => ?_) fun h => absurd h (by omega)
    refine Evp.pos (by omega) ?_
    simp only [Int.toNat_natCast]
    refine Evp.ldR h e1 fun a B d _ hx _ => ?_
    refine Evp.pos (by omega) ?_
    refine Evp.ldR h' e2 fun a' B' d' _ hy _ => ?_
    refine Evp.some rfl ?_
    have hbi := hb _ (List.getElem_mem hil)
    refine Evp.ob (same2_ok lo S S' M B B' d d' rows[i] _ hx hy hbi.1 hbi.2 p hp) ?_
    rintro _ rfl
    simp only [ret_int, ret_bool, ret_flt, ret_slc, ret_str, ret_ptr, ret_agg, ret_tup, ob_some, bb_true, bb_false, List.getElem?_cons_zero, List.getElem?_cons_succ, List.length_cons, List.length_nil, Nat.reduceAdd, Nat.reduceLT]
    refine Evp.nb (fun hf => Evp.ret (Run.ret ?_)) fun ht => ?_
    · have := of_decide_eq_false hf
      rw [decide_eq_false fun e => this (by simp only [e])]
    · have := of_decide_eq_true ht
      rw [w64 (by omega)]
      refine Evp.ret (ih (i + 1) (by omega) (by omega) fun j x y h1 h2 h3 => ?_)
      by_cases hji : j = i
      · subst hji
        rw [e1] at h2; rw [e2] at h3
        injection h2 with h2; injection h3 with h3
        rw [← h2, ← h3]; exact this
      · exact hj j x y (by omega) h2 h3
theorem sset_ok (A A' : Option Addr) (c c' : Nat) (rows rows' : List (List Tb)) (h : SetIs S M A rows) (h' : SetIs S' M A' rows') (hn : rows.length ≤ 1000) (hb : ∀ row ∈ rows, row.length ≤ 1000 ∧ ∀ t ∈ row, t.1.length ≤ 1000) (hlo : lo ≤ M.length) :
    Ac P T lo F.pool_sameSet [.agg ⟨[.slice A rows.length c]⟩, .agg ⟨[.slice A' rows'.length c']⟩] M fun r => ∃ M', r = (.bool (decide (rows = rows')), M') ∧ Pre M M' := by
  refine Ac.of (Evp.of_eq (fun k => pool_sameSet.entry k ..) ?_)
  refine Evp.some (push_st (vs := [fn1]) hlo rfl) ?_
  have pp : Pre M (M ++ [⟨.fx, [fn1]⟩] : Mem) := Pre.app _ _
  have key : Ac P T lo F.slices_EqualFunc__api_Table_api_Table_api_Table_api_Table [.slice A rows.length c, .slice A' rows'.length c', fn2 ⟨M.length, 0, none⟩] (M ++ [⟨.fx, [fn1]⟩] : Mem) fun r => r = (.bool (decide (rows = rows')), (M ++ [⟨.fx, [fn1]⟩] : Mem)) := by
    refine Ac.of (Evp.of_eq (fun k => slices_EqualFunc__api_Table_api_Table_api_Table_api_Table.entry k ..) ?_)
    refine Evp.neb (fun h => Evp.ret (Run.ret ?_)) fun hl => ?_
    · rw [decide_eq_false (fun e => h (by rw [e]))]
    · exact Evp.ret (eqset_loop lo S S' _ A A' c c' rows rows' (h.pre pp) (h'.pre pp) (by omega) hn hb _ (by rw [fx_ld (push_self _ _)]; rfl) _ 0 rfl (by omega) fun j x y hj => absurd hj (by omega))
  refine Evp.ob key ?_
  rintro _ rfl
  simp only [ret_int, ret_bool, ret_flt, ret_slc, ret_str, ret_ptr, ret_agg, ret_tup, ob_some, bb_true, bb_false, List.getElem?_cons_zero, List.getElem?_cons_succ, List.length_cons, List.length_nil, Nat.reduceAdd, Nat.reduceLT]
  exact Evp.ret (Run.ret ⟨_, rfl, pp⟩)
end
def rowsOf : Option SlotV → List (List Tb)
  | none => []
  | some (_, rows) => rows
section
variable {S : Nat → Prop} {M : Mem} {r : RawS}
theorem SlotIs.t : ∀ {o : Option SlotV}, SlotIs S M r o → r.t = o.isSome
  | none, h => by have h : r = RawS.zero := h; rw [h]; rfl
  | some (f, rows), h => by have h : SlotS S M r f rows := h; rw [h.t]; rfl
theorem SlotIs.rows : ∀ {o : Option SlotV}, SlotIs S M r o → SetIs S M r.As (rowsOf o) ∧ r.ns = (rowsOf o).length ∧ (rowsOf o).length ≤ 1000 ∧ ∀ row ∈ rowsOf o, row.length ≤ 1000 ∧ ∀ t ∈ row, t.1.length ≤ 1000
  | none, h => by
    have h : r = RawS.zero := h
    subst h
    exact ⟨⟨OnS.none, [], Rd.zero, fun k row hk => by simp [rowsOf] at hk⟩, rfl, by simp [rowsOf], fun row hr => by simp [rowsOf] at hr⟩
  | some (f, rows), h => by
    have h : SlotS S M r f rows := h
    have hne := h.sp.ne
    exact ⟨h.set, h.ns, by show rows.length ≤ 1000; omega, fun row hr => ⟨(hne.2 row hr).2.1, fun t ht => ((hne.2 row hr).2.2 t ht).2⟩⟩
end
def SameSl (sl sl' : Nat → Option SlotV) : Prop := ∀ n, n < 8 → sl n = sl' n
instance : DecidableEq FrV := fun a b => decidable_of_iff _ (FrV.eq_iff a b)
instance : DecidableEq SlotV := inferInstanceAs (DecidableEq (FrV × List (List (List Int × Int))))
instance (sl sl' : Nat → Option SlotV) : Decidable (SameSl sl sl') := inferInstanceAs (Decidable (∀ n, n < 8 → sl n = sl' n))
section
variable (lo : Nat) (S S' : Nat → Prop) (b b' : Nat) (sl sl' : Nat → Option SlotV) (R R' : Nat → RawS) (M : Mem)
theorem psame_loop (hlo : lo ≤ M.length) (h : ∀ n, n < 8 → SlotIs S M (R n) (sl n)) (hR' : PoolRaw M b' R') (h' : ∀ n, n < 8 → SlotIs S' M (R' n) (sl' n)) : ∀ (d k : Nat) (M1 : Mem), 8 - k = d → k ≤ 8 → Pre M M1 → (∀ n, n < k → sl n = sl' n) →
    Run P T lo F.pool_Same (pool_Same.c116 ⟨b', 0, none⟩ (R 0).t (R 0).w0 (R 0).h0 (R 0).A0 (R 0).n0 (R 0).c0 (R 0).w1 (R 0).h1 (R 0).A1 (R 0).n1 (R 0).c1 (R 0).w2 (R 0).h2 (R 0).A2 (R 0).n2 (R 0).c2 (R 0).As (R 0).ns (R 0).cs (R 1).t (R 1).w0 (R 1).h0 (R 1).A0 (R 1).n0 (R 1).c0 (R 1).w1 (R 1).h1 (R 1).A1 (R 1).n1 (R 1).c1 (R 1).w2 (R 1).h2 (R 1).A2 (R 1).n2 (R 1).c2 (R 1).As (R 1).ns (R 1).cs (R 2).t (R 2).w0 (R 2).h0 (R 2).A0 (R 2).n0 (R 2).c0 (R 2).w1 (R 2).h1 (R 2).A1 (R 2).n1 (R 2).c1 (R 2).w2 (R 2).h2 (R 2).A2 (R 2).n2 (R 2).c2 (R 2).As (R 2).ns (R 2).cs (R 3).t (R 3).w0 (R 3).h0 (R 3).A0 (R 3).n0 (R 3).c0 (R 3).w1 (R 3).h1 (R 3).A1 (R 3).n1 (R 3).c1 (R 3).w2 (R 3).h2 (R 3).A2 (R 3).n2 (R 3).c2 (R 3).As (R 3).ns (R 3).cs (R 4).t (R 4).w0 (R 4).h0 (R 4).A0 (R 4).n0 (R 4).c0 (R 4).w1 (R 4).h1 (R 4).A1 (R 4).n1 (R 4).c1 (R 4).w2 (R 4).h2 (R 4).A2 (R 4).n2 (R 4).c2 (R 4).As (R 4).ns (R 4).cs (R 5).t (R 5).w0 (R 5).h0 (R 5).A0 (R 5).n0 (R 5).c0 (R 5).w1 (R 5).h1 (R 5).A1 (R 5).n1 (R 5).c1 (R 5).w2 (R 5).h2 (R 5).A2 (R 5).n2 (R 5).c2 (R 5).As (R 5).ns (R 5).cs (R 6).t (R 6).w0 (R 6).h0 (R 6).A0 (R 6).n0 (R 6).c0 (R 6).w1 (R 6).h1 (R 6).A1 (R 6).n1 (R 6).c1 (R 6).w2 (R 6).h2 (R 6).A2 (R 6).n2 (R 6).c2 (R 6).As (R 6).ns (R 6).cs (R 7).t (R 7).w0 (R 7).h0 (R 7).A0 (R 7).n0 (R 7).c0 (R 7).w1 (R 7).h1 (R 7).A1 (R 7).n1 (R 7).c1 (R 7).w2 (R 7).h2 (R 7).A2 (R 7).n2 (R 7).c2 (R 7).As (R 7).ns (R 7).cs (k : Int) M1) fun r => ∃ M', r = (.bool (decide (SameSl sl sl')), M') ∧ Pre M M' := by
  intro d
  induction d with
  | zero =>
    intro k M1 hd hk hp hs
    obtain rfl : k = 8 := by omega
    refine Run.cut (Evp.of_eq (fun k => pool_Same.p116 k ..) ?_)
    exact Evp.dec (fun h => absurd h (by omega)) fun _ => Evp.ret (Run.ret ⟨M1, by rw [decide_eq_true (show SameSl sl sl' from hs)], hp⟩)
  | succ d ih =>
    intro k M1 hd hk hp hs
    have hk8 : k < 8 := by omega
    have hr := h k hk8
    have hr' := h' k hk8
    have hR1 := hR'.keep (M' := M1) fun x hx => hp _ _ hx
    have ad : ∀ j, plus (plus (plus ⟨b', 0, none⟩ 1) (k * 11)) j = (⟨b', 1 + k * 11 + j, none⟩ : Addr) := fun j => by simp only [plus_eq, Nat.zero_add]
    have l : ∀ j, j < 11 → M1.ld (plus (plus (plus ⟨b', 0, none⟩ 1) (k * 11)) j) = (R' k).cells[j]? := fun j hj => hR1.ld k j hk8 hj _ (ad j)
    have l0 : M1.ld (plus (plus ⟨b', 0, none⟩ 1) (k * 11)) = some (.bool (R' k).t) := l 0 (by decide)
    have no : sl k ≠ sl' k → ∀ M2, Pre M M2 → Run P T lo F.pool_Same (.ret (.bool false) M2) fun r => ∃ M', r = (.bool (decide (SameSl sl sl')), M') ∧ Pre M M' := fun hne M2 p2 =>
      Run.ret ⟨M2, by rw [decide_eq_false fun e => hne (e k hk8)], p2⟩
    refine Run.cut (Evp.of_eq (fun k => pool_Same.p116 k ..) ?_)
    refine Evp.dec (fun _ => ?_) fun h => absurd h (by omega)
    refine Evp.pos (by omega) ?_
    simp only [Int.toNat_natCast]
    refine evp_c11 (r := R k) (poolL_get R k hk8) ?_
    refine Evp.pos (by omega) ?_
    refine evp_ld11 (r := R' k) l0 (l 1 (by decide)) (l 2 (by decide)) (l 3 (by decide)) (l 4 (by decide)) (l 5 (by decide)) (l 6 (by decide)) (l 7 (by decide)) (l 8 (by decide)) (l 9 (by decide)) (l 10 (by decide)) ?_
    refine Evp.nb (fun hf => Evp.ret (no (fun e => ?_) _ hp)) fun ht => ?_
    · rw [hr.t, hr'.t, e] at hf
      simp at hf
    obtain ⟨s1, s2, s3, s4⟩ := hr.rows
    obtain ⟨t1, t2, t3, t4⟩ := hr'.rows
    dsimp only
    rw [s2, t2]
    have l1 := hp.len
    refine Evp.ob (sset_ok lo S S' M1 _ _ _ _ _ _ (s1.pre hp) (t1.pre hp) s3 s4 (by omega)) ?_
    rintro _ ⟨M2, rfl, p2⟩
    simp only [ret_int, ret_bool, ret_flt, ret_slc, ret_str, ret_ptr, ret_agg, ret_tup, ob_some, bb_true, bb_false, List.getElem?_cons_zero, List.getElem?_cons_succ, List.length_cons, List.length_nil, Nat.reduceAdd, Nat.reduceLT]
    have hp2 := hp.trans p2
    refine Evp.nb (fun hf => Evp.ret (no (fun e => of_decide_eq_false hf (by rw [e])) _ hp2)) fun hrows => ?_
    have hrows := of_decide_eq_true hrows
    have ht : (R k).t = (R' k).t := by simpa using ht
    rw [← s2, ← t2]
    have next : sl k = sl' k → ∀ M3, Pre M M3 → Run P T lo F.pool_Same (pool_Same.c116 ⟨b', 0, none⟩ (R 0).t (R 0).w0 (R 0).h0 (R 0).A0 (R 0).n0 (R 0).c0 (R 0).w1 (R 0).h1 (R 0).A1 (R 0).n1 (R 0).c1 (R 0).w2 (R 0).h2 (R 0).A2 (R 0).n2 (R 0).c2 (R 0).As (R 0).ns (R 0).cs (R 1).t (R 1).w0 (R 1).h0 (R 1).A0 (R 1).n0 (R 1).c0 (R 1).w1 (R 1).h1 (R 1).A1 (R 1).n1 (R 1).c1 (R 1).w2 (R 1).h2 (R 1).A2 (R 1).n2 (R 1).c2 (R 1).As (R 1).ns (R 1).cs (R 2).t (R 2).w0 (R 2).h0 (R 2).A0 (R 2).n0 (R 2).c0 (R 2).w1 (R 2).h1 (R 2).A1 (R 2).n1 (R 2).c1 (R 2).w2 (R 2).h2 (R 2).A2 (R 2).n2 (R 2).c2 (R 2).As (R 2).ns (R 2).cs (R 3).t (R 3).w0 (R 3).h0 (R 3).A0 (R 3).n0 (R 3).c0 (R 3).w1 (R 3).h1 (R 3).A1 (R 3).n1 (R 3).c1 (R 3).w2 (R 3).h2 (R 3).A2 (R 3).n2 (R 3).c2 (R 3).As (R 3).ns (R 3).cs (R 4).t (R 4).w0 (R 4).h0 (R 4).A0 (R 4).n0 (R 4).c0 (R 4).w1 (R 4).h1 (R 4).A1 (R 4).n1 (R 4).c1 (R 4).w2 (R 4).h2 (R 4).A2 (R 4).n2 (R 4).c2 (R 4).As (R 4).ns (R 4).cs (R 5).t (R 5).w0 (R 5).h0 (R 5).A0 (R 5).n0 (R 5).c0 (R 5).w1 (R 5).h1 (R 5).A1 (R 5).n1 (R 5).c1 (R 5).w2 (R 5).h2 (R 5).A2 (R 5).n2 (R 5).c2 (R 5).As (R 5).ns (R 5).cs (R 6).t (R 6).w0 (R 6).h0 (R 6).A0 (R 6).n0 (R 6).c0 (R 6).w1 (R 6).h1 (R 6).A1 (R 6).n1 (R 6).c1 (R 6).w2 (R 6).h2 (R 6).A2 (R 6).n2 (R 6).c2 (R 6).As (R 6).ns (R 6).cs (R 7).t (R 7).w0 (R 7).h0 (R 7).A0 (R 7).n0 (R 7).c0 (R 7).w1 (R 7).h1 (R 7).A1 (R 7).n1 (R 7).c1 (R 7).w2 (R 7).h2 (R 7).A2 (R 7).n2 (R 7).c2 (R 7).As (R 7).ns (R 7).cs (IntKind.i64.wrap ((k : Int) + 1)) M3) fun r => ∃ M', r = (.bool (decide (SameSl sl sl')), M') ∧ Pre M M' := fun e M3 p3 => by
      rw [w64 (by omega)]
      exact ih (k + 1) M3 (by omega) (by omega) p3 fun n hn => by
        by_cases hnk : n = k
        · subst hnk; exact e
        · exact hs n (by omega)
    refine Evp.ret ?_
    have hsl := hr.t
    have hsl' := hr'.t
    cases ho : sl k with
    | none =>
      rw [ho] at hsl
      have ho' : sl' k = none := by
        rw [← ht, hsl] at hsl'
        cases h2 : sl' k with
        | none => rfl
        | some v => rw [h2] at hsl'; cases hsl'
      have hf : (R k).t = false := hsl
      refine Run.cut (Evp.of_eq (fun k => pool_Same.p119612 k ..) ?_)
      refine Evp.tt rfl (Evp.ff hf (Evp.ret ?_))
      rw [show IntKind.i64.wrap (0 + 1) = 1 from by decide]
      refine Run.cut (Evp.of_eq (fun k => pool_Same.p119612 k ..) ?_)
      refine Evp.tt rfl (Evp.ff hf (Evp.ret ?_))
      rw [show IntKind.i64.wrap (1 + 1) = 2 from by decide]
      refine Run.cut (Evp.of_eq (fun k => pool_Same.p119612 k ..) ?_)
      refine Evp.tt rfl (Evp.ff hf (Evp.ret ?_))
      rw [show IntKind.i64.wrap (2 + 1) = 3 from by decide]
      refine Run.cut (Evp.of_eq (fun k => pool_Same.p119612 k ..) ?_)
      exact Evp.ff rfl (Evp.ret (next (by rw [ho, ho']) M2 hp2))
    | some v =>
      obtain ⟨f, rows⟩ := v
      rw [ho] at hsl hr hrows no next
      have ho' : ∃ g rows', sl' k = some (g, rows') := by
        rw [← ht, hsl] at hsl'
        cases h2 : sl' k with
        | none => rw [h2] at hsl'; cases hsl'
        | some v => exact ⟨v.1, v.2, rfl⟩
      obtain ⟨g, rows', ho'⟩ := ho'
      rw [ho'] at hr' hrows no next
      have hrows : rows = rows' := hrows
      subst hrows
      have hr : SlotS S M (R k) f rows := hr
      have hr' : SlotS S' M (R' k) g rows := hr'
      have htt : (R k).t = true := hsl
      obtain ⟨z0, z1, z2⟩ := hr.fw.len
      have no' : f ≠ g → (some (f, rows) : Option SlotV) ≠ some (g, rows) := fun hne e => hne (by injection e with e; injection e)
      rw [hr.w0, hr.h0, hr.n0, hr.w1, hr.h1, hr.n1, hr.w2, hr.h2, hr.n2, hr'.w0, hr'.h0, hr'.n0, hr'.w1, hr'.h1, hr'.n1, hr'.w2, hr'.h2, hr'.n2]
      refine Run.cut (Evp.of_eq (fun k => pool_Same.p119612 k ..) ?_)
      refine Evp.tt rfl (Evp.tt htt (Evp.pos (by decide) (Evp.some rfl (Evp.some rfl (Evp.some rfl (Evp.pos (by decide) (Evp.some rfl (Evp.some rfl (Evp.some rfl ?_)))))))))
      refine Evp.ob (same_ok lo f.w0 f.h0 g.w0 g.h0 _ _ _ _ f.x0 g.x0 M2 (hr.fr.r0.pre hp2) (hr'.fr.r0.pre hp2) (by omega)) ?_
      rintro _ rfl
      simp only [ret_int, ret_bool, ret_flt, ret_slc, ret_str, ret_ptr, ret_agg, ret_tup, ob_some, bb_true, bb_false, List.getElem?_cons_zero, List.getElem?_cons_succ, List.length_cons, List.length_nil, Nat.reduceAdd, Nat.reduceLT]
      refine Evp.nb (fun hf => Evp.ret (no (no' fun e => of_decide_eq_false hf (by rw [e]; exact ⟨rfl, rfl, rfl⟩)) _ hp2)) fun q0 => Evp.ret ?_
      rw [show IntKind.i64.wrap (0 + 1) = 1 from by decide]
      refine Run.cut (Evp.of_eq (fun k => pool_Same.p119612 k ..) ?_)
      refine Evp.tt rfl (Evp.tt htt (Evp.pos (by decide) (Evp.some rfl (Evp.some rfl (Evp.some rfl (Evp.pos (by decide) (Evp.some rfl (Evp.some rfl (Evp.some rfl ?_)))))))))
      refine Evp.ob (same_ok lo f.w1 f.h1 g.w1 g.h1 _ _ _ _ f.x1 g.x1 M2 (hr.fr.r1.pre hp2) (hr'.fr.r1.pre hp2) (by omega)) ?_
      rintro _ rfl
      simp only [ret_int, ret_bool, ret_flt, ret_slc, ret_str, ret_ptr, ret_agg, ret_tup, ob_some, bb_true, bb_false, List.getElem?_cons_zero, List.getElem?_cons_succ, List.length_cons, List.length_nil, Nat.reduceAdd, Nat.reduceLT]
      refine Evp.nb (fun hf => Evp.ret (no (no' fun e => of_decide_eq_false hf (by rw [e]; exact ⟨rfl, rfl, rfl⟩)) _ hp2)) fun q1 => Evp.ret ?_
      rw [show IntKind.i64.wrap (1 + 1) = 2 from by decide]
      refine Run.cut (Evp.of_eq (fun k => pool_Same.p119612 k ..) ?_)
      refine Evp.tt rfl (Evp.tt htt (Evp.pos (by decide) (Evp.some rfl (Evp.some rfl (Evp.some rfl (Evp.pos (by decide) (Evp.some rfl (Evp.some rfl (Evp.some rfl ?_)))))))))
      refine Evp.ob (same_ok lo f.w2 f.h2 g.w2 g.h2 _ _ _ _ f.x2 g.x2 M2 (hr.fr.r2.pre hp2) (hr'.fr.r2.pre hp2) (by omega)) ?_
      rintro _ rfl
      simp only [ret_int, ret_bool, ret_flt, ret_slc, ret_str, ret_ptr, ret_agg, ret_tup, ob_some, bb_true, bb_false, List.getElem?_cons_zero, List.getElem?_cons_succ, List.length_cons, List.length_nil, Nat.reduceAdd, Nat.reduceLT]
      refine Evp.nb (fun hf => Evp.ret (no (no' fun e => of_decide_eq_false hf (by rw [e]; exact ⟨rfl, rfl, rfl⟩)) _ hp2)) fun q2 => Evp.ret ?_
      rw [show IntKind.i64.wrap (2 + 1) = 3 from by decide]
      have e : f = g := by
        obtain ⟨a1, a2, a3⟩ := of_decide_eq_true q0
        obtain ⟨a4, a5, a6⟩ := of_decide_eq_true q1
        obtain ⟨a7, a8, a9⟩ := of_decide_eq_true q2
        exact (FrV.eq_iff f g).1 ⟨a1, a2, a3, a4, a5, a6, a7, a8, a9⟩
      subst e
      refine Run.cut (Evp.of_eq (fun k => pool_Same.p119612 k ..) ?_)
      refine Evp.ff rfl (Evp.ret ?_)
      have := next rfl M2 hp2
      exact this
theorem psame_ok (h : PoolIs S M b sl) (h' : PoolIs S' M b' sl') (hlo : lo ≤ M.length) :
    Ac P T lo F.pool_Same [.pointer (some ⟨b, 0, none⟩), .pointer (some ⟨b', 0, none⟩)] M fun r => ∃ M', r = (.bool (decide (SameSl sl sl')), M') ∧ Pre M M' := by
  obtain ⟨R, hR, h1⟩ := h
  obtain ⟨R', hR', h1'⟩ := h'
  refine Ac.of (Evp.of_eq (fun k => pool_Same.entry k ..) ?_)
  refine Evp.ob (pnone_ok _ _ _ _ hR) ?_
  rintro _ rfl
  simp only [ret_int, ret_bool, ret_flt, ret_slc, ret_str, ret_ptr, ret_agg, ret_tup, ob_some, bb_true, bb_false, List.getElem?_cons_zero, List.getElem?_cons_succ, List.length_cons, List.length_nil, Nat.reduceAdd, Nat.reduceLT]
  refine Evp.ff rfl ?_
  refine Evp.ob (pnone_ok _ _ _ _ hR') ?_
  rintro _ rfl
  simp only [ret_int, ret_bool, ret_flt, ret_slc, ret_str, ret_ptr, ret_agg, ret_tup, ob_some, bb_true, bb_false, List.getElem?_cons_zero, List.getElem?_cons_succ, List.length_cons, List.length_nil, Nat.reduceAdd, Nat.reduceLT]
  refine Evp.ff rfl ?_
  refine evp_ld11 (hR.ld 0 0 (by decide) (by decide) _ rfl) (hR.ld 0 1 (by decide) (by decide) _ rfl) (hR.ld 0 2 (by decide) (by decide) _ rfl) (hR.ld 0 3 (by decide) (by decide) _ rfl) (hR.ld 0 4 (by decide) (by decide) _ rfl) (hR.ld 0 5 (by decide) (by decide) _ rfl) (hR.ld 0 6 (by decide) (by decide) _ rfl) (hR.ld 0 7 (by decide) (by decide) _ rfl) (hR.ld 0 8 (by decide) (by decide) _ rfl) (hR.ld 0 9 (by decide) (by decide) _ rfl) (hR.ld 0 10 (by decide) (by decide) _ rfl) ?_
  refine evp_ld11 (hR.ld 1 0 (by decide) (by decide) _ rfl) (hR.ld 1 1 (by decide) (by decide) _ rfl) (hR.ld 1 2 (by decide) (by decide) _ rfl) (hR.ld 1 3 (by decide) (by decide) _ rfl) (hR.ld 1 4 (by decide) (by decide) _ rfl) (hR.ld 1 5 (by decide) (by decide) _ rfl) (hR.ld 1 6 (by decide) (by decide) _ rfl) (hR.ld 1 7 (by decide) (by decide) _ rfl) (hR.ld 1 8 (by decide) (by decide) _ rfl) (hR.ld 1 9 (by decide) (by decide) _ rfl) (hR.ld 1 10 (by decide) (by decide) _ rfl) ?_
  refine evp_ld11 (hR.ld 2 0 (by decide) (by decide) _ rfl) (hR.ld 2 1 (by decide) (by decide) _ rfl) (hR.ld 2 2 (by decide) (by decide) _ rfl) (hR.ld 2 3 (by decide) (by decide) _ rfl) (hR.ld 2 4 (by decide) (by decide) _ rfl) (hR.ld 2 5 (by decide) (by decide) _ rfl) (hR.ld 2 6 (by decide) (by decide) _ rfl) (hR.ld 2 7 (by decide) (by decide) _ rfl) (hR.ld 2 8 (by decide) (by decide) _ rfl) (hR.ld 2 9 (by decide) (by decide) _ rfl) (hR.ld 2 10 (by decide) (by decide) _ rfl) ?_
  refine evp_ld11 (hR.ld 3 0 (by decide) (by decide) _ rfl) (hR.ld 3 1 (by decide) (by decide) _ rfl) (hR.ld 3 2 (by decide) (by decide) _ rfl) (hR.ld 3 3 (by decide) (by decide) _ rfl) (hR.ld 3 4 (by decide) (by decide) _ rfl) (hR.ld 3 5 (by decide) (by decide) _ rfl) (hR.ld 3 6 (by decide) (by decide) _ rfl) (hR.ld 3 7 (by decide) (by decide) _ rfl) (hR.ld 3 8 (by decide) (by decide) _ rfl) (hR.ld 3 9 (by decide) (by decide) _ rfl) (hR.ld 3 10 (by decide) (by decide) _ rfl) ?_
  refine evp_ld11 (hR.ld 4 0 (by decide) (by decide) _ rfl) (hR.ld 4 1 (by decide) (by decide) _ rfl) (hR.ld 4 2 (by decide) (by decide) _ rfl) (hR.ld 4 3 (by decide) (by decide) _ rfl) (hR.ld 4 4 (by decide) (by decide) _ rfl) (hR.ld 4 5 (by decide) (by decide) _ rfl) (hR.ld 4 6 (by decide) (by decide) _ rfl) (hR.ld 4 7 (by decide) (by decide) _ rfl) (hR.ld 4 8 (by decide) (by decide) _ rfl) (hR.ld 4 9 (by decide) (by decide) _ rfl) (hR.ld 4 10 (by decide) (by decide) _ rfl) ?_
  refine evp_ld11 (hR.ld 5 0 (by decide) (by decide) _ rfl) (hR.ld 5 1 (by decide) (by decide) _ rfl) (hR.ld 5 2 (by decide) (by decide) _ rfl) (hR.ld 5 3 (by decide) (by decide) _ rfl) (hR.ld 5 4 (by decide) (by decide) _ rfl) (hR.ld 5 5 (by decide) (by decide) _ rfl) (hR.ld 5 6 (by decide) (by decide) _ rfl) (hR.ld 5 7 (by decide) (by decide) _ rfl) (hR.ld 5 8 (by decide) (by decide) _ rfl) (hR.ld 5 9 (by decide) (by decide) _ rfl) (hR.ld 5 10 (by decide) (by decide) _ rfl) ?_
  refine evp_ld11 (hR.ld 6 0 (by decide) (by decide) _ rfl) (hR.ld 6 1 (by decide) (by decide) _ rfl) (hR.ld 6 2 (by decide) (by decide) _ rfl) (hR.ld 6 3 (by decide) (by decide) _ rfl) (hR.ld 6 4 (by decide) (by decide) _ rfl) (hR.ld 6 5 (by decide) (by decide) _ rfl) (hR.ld 6 6 (by decide) (by decide) _ rfl) (hR.ld 6 7 (by decide) (by decide) _ rfl) (hR.ld 6 8 (by decide) (by decide) _ rfl) (hR.ld 6 9 (by decide) (by decide) _ rfl) (hR.ld 6 10 (by decide) (by decide) _ rfl) ?_
  refine evp_ld11 (hR.ld 7 0 (by decide) (by decide) _ rfl) (hR.ld 7 1 (by decide) (by decide) _ rfl) (hR.ld 7 2 (by decide) (by decide) _ rfl) (hR.ld 7 3 (by decide) (by decide) _ rfl) (hR.ld 7 4 (by decide) (by decide) _ rfl) (hR.ld 7 5 (by decide) (by decide) _ rfl) (hR.ld 7 6 (by decide) (by decide) _ rfl) (hR.ld 7 7 (by decide) (by decide) _ rfl) (hR.ld 7 8 (by decide) (by decide) _ rfl) (hR.ld 7 9 (by decide) (by decide) _ rfl) (hR.ld 7 10 (by decide) (by decide) _ rfl) ?_
  exact Evp.ret (psame_loop lo S S' b' sl sl' R R' M hlo h1 hR' h1' _ 0 M rfl (by omega) (Pre.refl M) fun n hn => absurd hn (by omega))
theorem pcopy_ok (h : PoolIs S M b sl) (hlo : lo ≤ M.length) : Ac P T lo F.pool_Pool_Copy [.pointer (some ⟨b, 0, none⟩)] M fun r => ∃ M', r = (.tuple ⟨[.pointer (some ⟨M.length, 0, none⟩), .int .i64 0]⟩, M') ∧ Pre M M' ∧ M'.length = M.length + 1 ∧ PoolIs S M' M.length sl := by
  obtain ⟨R, hR, h1⟩ := h
  refine Ac.of (Evp.of_eq (fun k => pool_Pool_Copy.entry k ..) ?_)
  refine Evp.ob (pnone_ok _ _ _ _ hR) ?_
  rintro _ rfl
  simp only [ret_int, ret_bool, ret_flt, ret_slc, ret_str, ret_ptr, ret_agg, ret_tup, ob_some, bb_true, bb_false, List.getElem?_cons_zero, List.getElem?_cons_succ, List.length_cons, List.length_nil, Nat.reduceAdd, Nat.reduceLT]
  refine Evp.ff rfl (Evp.some (b := true) (by rw [hR.made]; rfl) ?_)
  refine evp_ld11 (hR.ld 0 0 (by decide) (by decide) _ rfl) (hR.ld 0 1 (by decide) (by decide) _ rfl) (hR.ld 0 2 (by decide) (by decide) _ rfl) (hR.ld 0 3 (by decide) (by decide) _ rfl) (hR.ld 0 4 (by decide) (by decide) _ rfl) (hR.ld 0 5 (by decide) (by decide) _ rfl) (hR.ld 0 6 (by decide) (by decide) _ rfl) (hR.ld 0 7 (by decide) (by decide) _ rfl) (hR.ld 0 8 (by decide) (by decide) _ rfl) (hR.ld 0 9 (by decide) (by decide) _ rfl) (hR.ld 0 10 (by decide) (by decide) _ rfl) ?_
  refine evp_ld11 (hR.ld 1 0 (by decide) (by decide) _ rfl) (hR.ld 1 1 (by decide) (by decide) _ rfl) (hR.ld 1 2 (by decide) (by decide) _ rfl) (hR.ld 1 3 (by decide) (by decide) _ rfl) (hR.ld 1 4 (by decide) (by decide) _ rfl) (hR.ld 1 5 (by decide) (by decide) _ rfl) (hR.ld 1 6 (by decide) (by decide) _ rfl) (hR.ld 1 7 (by decide) (by decide) _ rfl) (hR.ld 1 8 (by decide) (by decide) _ rfl) (hR.ld 1 9 (by decide) (by decide) _ rfl) (hR.ld 1 10 (by decide) (by decide) _ rfl) ?_
  refine evp_ld11 (hR.ld 2 0 (by decide) (by decide) _ rfl) (hR.ld 2 1 (by decide) (by decide) _ rfl) (hR.ld 2 2 (by decide) (by decide) _ rfl) (hR.ld 2 3 (by decide) (by decide) _ rfl) (hR.ld 2 4 (by decide) (by decide) _ rfl) (hR.ld 2 5 (by decide) (by decide) _ rfl) (hR.ld 2 6 (by decide) (by decide) _ rfl) (hR.ld 2 7 (by decide) (by decide) _ rfl) (hR.ld 2 8 (by decide) (by decide) _ rfl) (hR.ld 2 9 (by decide) (by decide) _ rfl) (hR.ld 2 10 (by decide) (by decide) _ rfl) ?_
  refine evp_ld11 (hR.ld 3 0 (by decide) (by decide) _ rfl) (hR.ld 3 1 (by decide) (by decide) _ rfl) (hR.ld 3 2 (by decide) (by decide) _ rfl) (hR.ld 3 3 (by decide) (by decide) _ rfl) (hR.ld 3 4 (by decide) (by decide) _ rfl) (hR.ld 3 5 (by decide) (by decide) _ rfl) (hR.ld 3 6 (by decide) (by decide) _ rfl) (hR.ld 3 7 (by decide) (by decide) _ rfl) (hR.ld 3 8 (by decide) (by decide) _ rfl) (hR.ld 3 9 (by decide) (by decide) _ rfl) (hR.ld 3 10 (by decide) (by decide) _ rfl) ?_
  refine evp_ld11 (hR.ld 4 0 (by decide) (by decide) _ rfl) (hR.ld 4 1 (by decide) (by decide) _ rfl) (hR.ld 4 2 (by decide) (by decide) _ rfl) (hR.ld 4 3 (by decide) (by decide) _ rfl) (hR.ld 4 4 (by decide) (by decide) _ rfl) (hR.ld 4 5 (by decide) (by decide) _ rfl) (hR.ld 4 6 (by decide) (by decide) _ rfl) (hR.ld 4 7 (by decide) (by decide) _ rfl) (hR.ld 4 8 (by decide) (by decide) _ rfl) (hR.ld 4 9 (by decide) (by decide) _ rfl) (hR.ld 4 10 (by decide) (by decide) _ rfl) ?_
  refine evp_ld11 (hR.ld 5 0 (by decide) (by decide) _ rfl) (hR.ld 5 1 (by decide) (by decide) _ rfl) (hR.ld 5 2 (by decide) (by decide) _ rfl) (hR.ld 5 3 (by decide) (by decide) _ rfl) (hR.ld 5 4 (by decide) (by decide) _ rfl) (hR.ld 5 5 (by decide) (by decide) _ rfl) (hR.ld 5 6 (by decide) (by decide) _ rfl) (hR.ld 5 7 (by decide) (by decide) _ rfl) (hR.ld 5 8 (by decide) (by decide) _ rfl) (hR.ld 5 9 (by decide) (by decide) _ rfl) (hR.ld 5 10 (by decide) (by decide) _ rfl) ?_
  refine evp_ld11 (hR.ld 6 0 (by decide) (by decide) _ rfl) (hR.ld 6 1 (by decide) (by decide) _ rfl) (hR.ld 6 2 (by decide) (by decide) _ rfl) (hR.ld 6 3 (by decide) (by decide) _ rfl) (hR.ld 6 4 (by decide) (by decide) _ rfl) (hR.ld 6 5 (by decide) (by decide) _ rfl) (hR.ld 6 6 (by decide) (by decide) _ rfl) (hR.ld 6 7 (by decide) (by decide) _ rfl) (hR.ld 6 8 (by decide) (by decide) _ rfl) (hR.ld 6 9 (by decide) (by decide) _ rfl) (hR.ld 6 10 (by decide) (by decide) _ rfl) ?_
  refine evp_ld11 (hR.ld 7 0 (by decide) (by decide) _ rfl) (hR.ld 7 1 (by decide) (by decide) _ rfl) (hR.ld 7 2 (by decide) (by decide) _ rfl) (hR.ld 7 3 (by decide) (by decide) _ rfl) (hR.ld 7 4 (by decide) (by decide) _ rfl) (hR.ld 7 5 (by decide) (by decide) _ rfl) (hR.ld 7 6 (by decide) (by decide) _ rfl) (hR.ld 7 7 (by decide) (by decide) _ rfl) (hR.ld 7 8 (by decide) (by decide) _ rfl) (hR.ld 7 9 (by decide) (by decide) _ rfl) (hR.ld 7 10 (by decide) (by decide) _ rfl) ?_
  refine Evp.some (push_st hlo rfl) ?_
  refine Evp.ret (Run.ret ⟨_, rfl, Pre.app _ _, by simp, R, ⟨_, push_self _ _, rfl, rfl, fun n j hn hj => ?_⟩, fun n hn => (h1 n hn).keepS (Pre.app _ _).keepS⟩)
  show (Value.bool true :: poolL R)[1 + n * 11 + j]? = _
  rw [show 1 + n * 11 + j = n * 11 + j + 1 by omega, List.getElem?_cons_succ, poolL_get _ n hn j hj]
end
end Go.Zt
