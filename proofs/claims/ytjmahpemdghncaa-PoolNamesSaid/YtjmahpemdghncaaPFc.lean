/- What the law PoolNames needs of the text Fc. -/
import Derived.Test.YtjmahpemdghncaaPFb
set_option linter.unusedVariables false
set_option linter.unusedSimpArgs false
set_option maxRecDepth 100000
namespace Go.Zt
def OnS (S : Nat → Prop) (A : Option Addr) : Prop := ∀ a, A = some a → S a.block
def KeepS (S : Nat → Prop) (M M' : Mem) : Prop := ∀ (b : Nat) (k : Blk), S b → M[b]? = some k → M'[b]? = some k
section
variable {M M' M1 : Mem} {S S' : Nat → Prop} {A : Option Addr} {n z : Nat} {vs : List Value}
theorem Pre.keepS (h : Pre M M') : KeepS S M M' := fun b k _ hb => h b k hb
theorem KeepS.trans (h : KeepS S M M1) (k : KeepS S M1 M') : KeepS S M M' := fun b x hs hx => k b x hs (h b x hs hx)
theorem KeepS.mono (h : KeepS S M M') (hs : ∀ b, S' b → S b) : KeepS S' M M' := fun b x h' hx => h b x (hs b h') hx
theorem Keep.keepS (h : Keep A M M') (hs : ∀ a, A = some a → ¬ S a.block) : KeepS S M M' := fun b k hb hx => h b k hx fun a ha e => hs a ha (by rw [e]; exact hb)
theorem KeepB.keepS {b : Nat} (h : KeepB b M M') (hs : ¬ S b) : KeepS S M M' := fun i k hi hx => h i k hx fun e => hs (by rw [← e]; exact hi)
theorem OnS.none : OnS S none := fun a h => by cases h
theorem OnS.mono (h : OnS S A) (hs : ∀ b, S b → S' b) : OnS S' A := fun a ha => hs _ (h a ha)
theorem Rd.keepS (h : Rd M A n z vs) (ho : OnS S A) (hk : KeepS S M M') : Rd M' A n z vs := by
  refine ⟨h.1, ?_⟩
  have := h.2
  unfold Mem.src at this ⊢
  split
  · rename_i a
    simp only at this
    split
    · rename_i h0; rw [if_pos h0] at this; exact this
    · rename_i h0
      rw [if_neg h0] at this
      have hb := (lds_len this).2
      have e : M'[a.block]? = M[a.block]? := by rw [List.getElem?_eq_getElem hb]; exact hk _ _ (ho a rfl) (List.getElem?_eq_getElem hb)
      unfold Mem.lds at this ⊢
      rw [e]; exact this
  · exact this
theorem RdI.keepS {k : IntKind} {xs : List Int} (h : RdI M k A xs) (ho : OnS S A) (hk : KeepS S M M') : RdI M' k A xs := Rd.keepS h ho hk
end
theorem setL_two {α : Type} (cs : List α) (i : Nat) (u v : α) : setL cs i [u, v] = (cs.set i u).set (i + 1) v := rfl
def TabAt (S : Nat → Prop) (M : Mem) (vs : List Value) (j : Nat) (t : Tb) : Prop := ∃ A c, vs[j * 2]? = some (.slice A t.1.length c) ∧ vs[j * 2 + 1]? = some (.int .i64 t.2) ∧ RdI M .u16 A t.1 ∧ OnS S A
def RowIs (S : Nat → Prop) (M : Mem) (A : Option Addr) (row : List Tb) : Prop := OnS S A ∧ ∃ vs, Rd M A row.length 2 vs ∧ ∀ j t, row[j]? = some t → TabAt S M vs j t
def RowAt (S : Nat → Prop) (M : Mem) (vs : List Value) (k : Nat) (row : List Tb) : Prop := ∃ A c, vs[k]? = some (.slice A row.length c) ∧ RowIs S M A row
def SetIs (S : Nat → Prop) (M : Mem) (A : Option Addr) (rows : List (List Tb)) : Prop := OnS S A ∧ ∃ vs, Rd M A rows.length 1 vs ∧ ∀ k row, rows[k]? = some row → RowAt S M vs k row
section
variable {M M' M1 : Mem} {S S' : Nat → Prop} {A : Option Addr} {vs us : List Value} {j : Nat} {t : Tb} {row : List Tb} {rows : List (List Tb)}
theorem TabAt.keepS (h : TabAt S M vs j t) (hk : KeepS S M M') : TabAt S M' vs j t := by
  obtain ⟨A, c, h1, h2, h3, h4⟩ := h
  exact ⟨A, c, h1, h2, h3.keepS h4 hk, h4⟩
theorem TabAt.mono (h : TabAt S M vs j t) (hs : ∀ b, S b → S' b) : TabAt S' M vs j t := by
  obtain ⟨A, c, h1, h2, h3, h4⟩ := h
  exact ⟨A, c, h1, h2, h3, h4.mono hs⟩
theorem TabAt.cells (h : TabAt S M vs j t) (e1 : us[j * 2]? = vs[j * 2]?) (e2 : us[j * 2 + 1]? = vs[j * 2 + 1]?) : TabAt S M us j t := by
  obtain ⟨A, c, h1, h2, h3, h4⟩ := h
  exact ⟨A, c, by rw [e1, h1], by rw [e2, h2], h3, h4⟩
theorem RowIs.keepS (h : RowIs S M A row) (hk : KeepS S M M') : RowIs S M' A row := by
  obtain ⟨h0, vs, h1, h2⟩ := h
  exact ⟨h0, vs, h1.keepS h0 hk, fun j t hj => (h2 j t hj).keepS hk⟩
theorem RowIs.mono (h : RowIs S M A row) (hs : ∀ b, S b → S' b) : RowIs S' M A row := by
  obtain ⟨h0, vs, h1, h2⟩ := h
  exact ⟨h0.mono hs, vs, h1, fun j t hj => (h2 j t hj).mono hs⟩
theorem RowAt.keepS (h : RowAt S M vs j row) (hk : KeepS S M M') : RowAt S M' vs j row := by
  obtain ⟨A, c, h1, h2⟩ := h
  exact ⟨A, c, h1, h2.keepS hk⟩
theorem RowAt.mono (h : RowAt S M vs j row) (hs : ∀ b, S b → S' b) : RowAt S' M vs j row := by
  obtain ⟨A, c, h1, h2⟩ := h
  exact ⟨A, c, h1, h2.mono hs⟩
theorem RowAt.cells (h : RowAt S M vs j row) (e : us[j]? = vs[j]?) : RowAt S M us j row := by
  obtain ⟨A, c, h1, h2⟩ := h
  exact ⟨A, c, by rw [e, h1], h2⟩
theorem SetIs.keepS (h : SetIs S M A rows) (hk : KeepS S M M') : SetIs S M' A rows := by
  obtain ⟨h0, vs, h1, h2⟩ := h
  exact ⟨h0, vs, h1.keepS h0 hk, fun j t hj => (h2 j t hj).keepS hk⟩
theorem SetIs.mono (h : SetIs S M A rows) (hs : ∀ b, S b → S' b) : SetIs S' M A rows := by
  obtain ⟨h0, vs, h1, h2⟩ := h
  exact ⟨h0.mono hs, vs, h1, fun j t hj => (h2 j t hj).mono hs⟩
theorem SetIs.pre (h : SetIs S M A rows) (hp : Pre M M') : SetIs S M' A rows := h.keepS hp.keepS
theorem RowIs.pre (h : RowIs S M A row) (hp : Pre M M') : RowIs S M' A row := h.keepS hp.keepS
variable {α : Type} {Q : α → Prop}
theorem Evp.ldT {f : Nat → Addr → Slc → Int → Option α} (h : RowIs S M A row) (hj : row[j]? = .some t)
    (hf : ∀ a A' c', RdI M .u16 A' t.1 → OnS S A' → Evp (fun kk => f kk a ⟨A', t.1.length, c'⟩ t.2) Q) :
    Evp (fun kk => Zt.ob A fun a => Zt.ob ((M.ld (plus a (j * 2))).bind Value.slc?) fun s => Zt.ob ((M.ld (plus (plus a (j * 2)) 1)).bind (Value.int? .i64)) (f kk a s)) Q := by
  obtain ⟨h0, vs, h1, h2⟩ := h
  have hjl := (List.getElem?_eq_some_iff.1 hj).1
  obtain ⟨A', c', g1, g2, g3, g4⟩ := h2 j t hj
  obtain ⟨a, rfl, _, e1⟩ := h1.get (i := j * 2) (by omega)
  obtain ⟨a', ha, _, e2⟩ := h1.get (i := j * 2 + 1) (by omega)
  injection ha with ha; subst ha
  refine Evp.of_eq (fun kk => ?_) (hf a A' c' g3 g4)
  rw [ob_some, e1, g1, ret_slc, show plus (plus a (j * 2)) 1 = plus a (j * 2 + 1) by simp only [plus_eq, Nat.add_assoc], e2, g2, ret_int]
theorem Evp.ldTs {f : Nat → Addr → Slc → Option α} (h : RowIs S M A row) (hj : row[j]? = .some t)
    (hf : ∀ a A' c', A = .some a → RdI M .u16 A' t.1 → OnS S A' → Evp (fun kk => f kk a ⟨A', t.1.length, c'⟩) Q) :
    Evp (fun kk => Zt.ob A fun a => Zt.ob ((M.ld (plus a (j * 2))).bind Value.slc?) (f kk a)) Q := by
  obtain ⟨h0, vs, h1, h2⟩ := h
  have hjl := (List.getElem?_eq_some_iff.1 hj).1
  obtain ⟨A', c', g1, g2, g3, g4⟩ := h2 j t hj
  obtain ⟨a, rfl, _, e1⟩ := h1.get (i := j * 2) (by omega)
  refine Evp.of_eq (fun kk => ?_) (hf a A' c' rfl g3 g4)
  rw [ob_some, e1, g1, ret_slc]
theorem Evp.ldR {k : Nat} {f : Nat → Addr → Slc → Option α} (h : SetIs S M A rows) (hk : rows[k]? = .some row)
    (hf : ∀ a A' c', A = .some a → RowIs S M A' row → M.ld (plus a k) = .some (.slice A' row.length c') → Evp (fun kk => f kk a ⟨A', row.length, c'⟩) Q) :
    Evp (fun kk => Zt.ob A fun a => Zt.ob ((M.ld (plus a k)).bind Value.slc?) (f kk a)) Q := by
  obtain ⟨h0, vs, h1, h2⟩ := h
  have hkl := (List.getElem?_eq_some_iff.1 hk).1
  obtain ⟨A', c', g1, g2⟩ := h2 k row hk
  obtain ⟨a, rfl, _, e1⟩ := h1.get (i := k) (by omega)
  refine Evp.of_eq (fun kk => ?_) (hf a A' c' rfl g2 (by rw [e1, g1]))
  rw [ob_some, e1, g1, ret_slc]
end
def RowP (k : Nat) (row : List Tb) : Prop := row.length = shC k ∧ ∀ t ∈ row, t.1.length = shV k ∧ TabP t
instance (k : Nat) (row : List Tb) : Decidable (RowP k row) := inferInstanceAs (Decidable (_ ∧ _))
def SetP (rows : List (List Tb)) : Prop := rows.length = 32 ∧ ∀ k, k < 32 → RowP k (rows.getD k [])
instance (rows : List (List Tb)) : Decidable (SetP rows) := inferInstanceAs (Decidable (_ ∧ _))
def setS (rows : List (List Tb)) : Int := if SetP rows then 0 else 2
section
variable (lo : Nat) (S : Nat → Prop) (A : Option Addr) (c : Nat) (rows : List (List Tb)) (M : Mem)
theorem check_row (Ar : Option Addr) (cr : Nat) (row : List Tb) (k : Nat) (hr : RowIs S M Ar row) (hb : ∀ t ∈ row, t.1.length ≤ 140737488355328) (hn : row.length ≤ 140737488355328) {Q : Value × Mem → Prop}
    (hno : ¬ (∀ t ∈ row, t.1.length = shV k ∧ TabP t) → Q (.int .i64 2, M)) (b : Bool) (x : Int)
    (hyes : (∀ t ∈ row, t.1.length = shV k ∧ TabP t) → Run P T lo F.syms_Check (syms_Check.c116 8 10 false 4 8 false 3 2 false 3 2 false 4 13 false 8 7 false 1 13 false 1 14 false 1 8 false 2 16 true 1 2 false 3 3 false 3 9 false 1 2 false 3 3 false 1 2 false 3 4 false 1 4 false 2 11 true 2 8 false 1 3 false 1 2 false 4 2 false 2 5 false 2 7 false 2 9 false 2 11 false 2 3 true 10 4 true 14 4 true 6 2 false 3 2 false ((IntKind.i64.wrap ((k : Int) + 1))) A rows.length c M) Q) :
    ∀ (d j : Nat), row.length - j = d → j ≤ row.length → (∀ i t, i < j → row[i]? = some t → t.1.length = shV k ∧ TabP t) →
      Run P T lo F.syms_Check (syms_Check.c59804 8 10 false 4 8 false 3 2 false 3 2 false 4 13 false 8 7 false 1 13 false 1 14 false 1 8 false 2 16 true 1 2 false 3 3 false 3 9 false 1 2 false 3 3 false 1 2 false 3 4 false 1 4 false 2 11 true 2 8 false 1 3 false 1 2 false 4 2 false 2 5 false 2 7 false 2 9 false 2 11 false 2 3 true 10 4 true 14 4 true 6 2 false 3 2 false (k : Int) Ar row.length cr (row.length : Int) (j : Int) A rows.length c x (shV k : Int) b M) Q := by
  intro d
  induction d with
  | zero =>
    intro j hd hj hs
    obtain rfl : j = row.length := by omega
    refine Run.cut (Evp.of_eq (fun k => syms_Check.p59804 k ..) ?_)
    refine Evp.dec (fun h => absurd h (by omega)) fun _ => Evp.ret (hyes fun t ht => ?_)
    obtain ⟨i, hi, rfl⟩ := List.getElem_of_mem ht
    exact hs i _ hi (List.getElem?_eq_getElem hi)
  | succ d ih =>
    intro j hd hj hs
    have hjl : j < row.length := by omega
    have hjt : row[j]? = some row[j] := List.getElem?_eq_getElem hjl
    have hmem : row[j] ∈ row := List.getElem_mem hjl
    refine Run.cut (Evp.of_eq (fun k => syms_Check.p59804 k ..) ?_)
    refine Evp.dec (fun _ => ?_) fun h => absurd h (by omega)
    refine Evp.pos (by omega) ?_
    simp only [Int.toNat_natCast]
    refine Evp.ldT hr hjt fun a A' c' hx _ => ?_
    refine Evp.neb (fun h => Evp.ret (Run.ret (hno fun e => h (congrArg (fun n : Nat => (n : Int)) (e _ hmem).1)))) fun h => ?_
    have h : ((row[j].1.length : Nat) : Int) = (shV k : Int) := h
    refine Evp.ob (tcheck_ok lo A' c' row[j] M hx (hb _ hmem)) ?_
    rintro _ rfl
    simp only [ret_int, ret_bool, ret_flt, ret_slc, ret_str, ret_ptr, ret_agg, ret_tup, ob_some, bb_true, bb_false, List.getElem?_cons_zero, List.getElem?_cons_succ, List.length_cons, List.length_nil, Nat.reduceAdd, Nat.reduceLT]
    refine Evp.neb (fun h2 => Evp.ret (Run.ret (hno fun e => h2 (by unfold tabS; rw [if_pos (e _ hmem).2])))) fun h2 => ?_
    rw [w64 (x := (j : Int) + 1) (by omega)]
    refine Evp.ret (ih (j + 1) (by omega) (by omega) fun i t hi ht => ?_)
    by_cases e : i = j
    · subst e
      rw [hjt] at ht; injection ht with ht; subst ht
      refine ⟨by omega, ?_⟩
      unfold tabS at h2
      split at h2
      · assumption
      · cases h2
    · exact hs i t (by omega) ht
theorem check_loop (hs : SetIs S M A rows) (hl : rows.length = 32) (hb : ∀ row ∈ rows, row.length ≤ 140737488355328 ∧ ∀ t ∈ row, t.1.length ≤ 140737488355328) :
    ∀ (d k : Nat), 32 - k = d → k ≤ 32 → (∀ i, i < k → RowP i (rows.getD i [])) → Run P T lo F.syms_Check (syms_Check.c116 8 10 false 4 8 false 3 2 false 3 2 false 4 13 false 8 7 false 1 13 false 1 14 false 1 8 false 2 16 true 1 2 false 3 3 false 3 9 false 1 2 false 3 3 false 1 2 false 3 4 false 1 4 false 2 11 true 2 8 false 1 3 false 1 2 false 4 2 false 2 5 false 2 7 false 2 9 false 2 11 false 2 3 true 10 4 true 14 4 true 6 2 false 3 2 false (k : Int) A rows.length c M) fun r => r = (.int .i64 (setS rows), M) := by
  intro d
  induction d with
  | zero =>
    intro k hd hk hp
    obtain rfl : k = 32 := by omega
    refine Run.cut (Evp.of_eq (fun k => syms_Check.p116 k ..) ?_)
    refine Evp.dec (fun h => absurd h (by omega)) fun _ => Evp.ret (Run.ret ?_)
    unfold setS
    rw [if_pos ⟨hl, hp⟩]
  | succ d ih =>
    intro k hd hk hp
    have hk32 : k < 32 := by omega
    have hkr : rows[k]? = some (rows.getD k []) := by rw [List.getD_eq_getElem?_getD, List.getElem?_eq_getElem (by omega)]; rfl
    have hmem : rows.getD k [] ∈ rows := List.mem_of_getElem? hkr
    have no : ¬ RowP k (rows.getD k []) → (Value.int .i64 2, M) = (Value.int .i64 (setS rows), M) := fun h => by
      unfold setS
      rw [if_neg fun e => h (e.2 k hk32)]
    refine Run.cut (Evp.of_eq (fun k => syms_Check.p116 k ..) ?_)
    refine Evp.dec (fun _ => ?_) fun h => absurd h (by omega)
    refine Evp.pos (by omega) ?_
    simp only [Int.toNat_natCast]
    refine Evp.some (shC_get k hk32) (Evp.some (shV_get k hk32) (Evp.some (shB_get k hk32) ?_))
    refine Evp.pos (by omega) ?_
    refine Evp.ldR hs hkr fun a A' c' _ hr _ => ?_
    refine Evp.neb (fun h => Evp.ret (Run.ret (no fun e => h (congrArg (fun n : Nat => (n : Int)) e.1)))) fun h => ?_
    have h : (((rows.getD k []).length : Nat) : Int) = (shC k : Int) := h
    refine Evp.pos (by omega) ?_
    refine Evp.ldR hs hkr fun a A' c' _ hr _ => ?_
    refine Evp.ret (check_row lo S A c rows M A' c' (rows.getD k []) k hr (hb _ hmem).2 (hb _ hmem).1 (fun h2 => no fun e => h2 e.2) (shB k) (shC k) (fun hy => ?_) _ 0 rfl (by omega) (fun i t hi => absurd hi (by omega)))
    rw [w64 (x := (k : Int) + 1) (by omega)]
    refine ih (k + 1) (by omega) (by omega) fun i hi => ?_
    by_cases e : i = k
    · subst e; exact ⟨by omega, hy⟩
    · exact hp i (by omega)
theorem scheck_ok (hs : SetIs S M A rows) (hb : ∀ row ∈ rows, row.length ≤ 140737488355328 ∧ ∀ t ∈ row, t.1.length ≤ 140737488355328) :
    Ac P T lo F.syms_Check [.agg ⟨[.slice A rows.length c]⟩] M fun r => r = (.int .i64 (setS rows), M) := by
  refine Ac.of (Evp.of_eq (fun k => syms_Check.entry k ..) ?_)
  refine Evp.neb (fun h => Evp.ret (Run.ret ?_)) fun h => ?_
  · unfold setS
    rw [if_neg fun e => h (by have := e.1; omega)]
  refine Evp.ob (shapes_ok ..) ?_
  rintro _ rfl
  simp only [ret_int, ret_bool, ret_flt, ret_slc, ret_str, ret_ptr, ret_agg, ret_tup, ob_some, bb_true, bb_false, List.getElem?_cons_zero, List.getElem?_cons_succ, List.length_cons, List.length_nil, Nat.reduceAdd, Nat.reduceLT]
  exact Evp.ret (check_loop lo S A c rows M hs (by omega) hb _ 0 rfl (by omega) fun i hi => absurd hi (by omega))
end
end Go.Zt
