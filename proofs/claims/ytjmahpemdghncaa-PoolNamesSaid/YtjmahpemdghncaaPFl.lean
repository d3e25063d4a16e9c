/- What the law PoolNames needs of the text Fl. -/
import Derived.Test.YtjmahpemdghncaaPFi
import Derived.Test.YtjmahpemdghncaaPFh
set_option linter.unusedVariables false
set_option linter.unusedSimpArgs false
set_option maxRecDepth 100000
namespace Go.Zt
def rowsL : List Int := [8, 10, 0, 4, 8, 0, 3, 2, 0, 3, 2, 0, 4, 13, 0, 8, 7, 0, 1, 13, 0, 1, 14, 0, 1, 8, 0, 2, 16, 1, 1, 2, 0, 3, 3, 0, 3, 9, 0, 1, 2, 0, 3, 3, 0, 1, 2, 0, 3, 4, 0, 1, 4, 0, 2, 11, 1, 2, 8, 0, 1, 3, 0, 1, 2, 0, 4, 2, 0, 2, 5, 0, 2, 7, 0, 2, 9, 0, 2, 11, 0, 2, 3, 1, 10, 4, 1, 14, 4, 1, 6, 2, 0, 3, 2, 0]
theorem rowsL_get : ∀ k, k < 32 → rowsL[k * 3]? = some (shC k : Int) ∧ rowsL[k * 3 + 1]? = some (shV k : Int) ∧ rowsL[k * 3 + 2]? = some (if shB k = true then (1 : Int) else 0) := by decide
def RowsAt (M : Mem) (a : Addr) : Prop := a.off = 0 ∧ a.spot = none ∧ M[a.block]? = some ⟨.fx, rowsL.map (Value.int .i64)⟩
theorem RowsAt.pre {M M' : Mem} {a : Addr} (h : RowsAt M a) (hp : Pre M M') : RowsAt M' a := ⟨h.1, h.2.1, hp _ _ h.2.2⟩
theorem RowsAt.ld {M : Mem} {a : Addr} (h : RowsAt M a) (i : Nat) (x : Int) (hx : rowsL[i]? = some x) : (M.ld (plus a i)).bind (Value.int? .i64) = some x := by
  obtain ⟨h1, h2, h3⟩ := h
  unfold Mem.ld
  rw [plus_eq]
  simp only [h3, h2, if_true, h1, Nat.zero_add]
  rw [List.getElem?_map, hx]
  simp [Value.int?]
theorem RowsAt.c {M : Mem} {a : Addr} (h : RowsAt M a) (k : Nat) (hk : k < 32) : (M.ld (plus a (k * 3))).bind (Value.int? .i64) = some (shC k : Int) := h.ld _ _ (rowsL_get k hk).1
theorem RowsAt.v {M : Mem} {a : Addr} (h : RowsAt M a) (k : Nat) (hk : k < 32) : (M.ld (plus (plus a (k * 3)) 1)).bind (Value.int? .i64) = some (shV k : Int) := by
  rw [show plus (plus a (k * 3)) 1 = plus a (k * 3 + 1) by simp only [plus_eq, Nat.add_assoc]]
  exact h.ld _ _ (rowsL_get k hk).2.1
theorem RowsAt.b {M : Mem} {a : Addr} (h : RowsAt M a) (k : Nat) (hk : k < 32) : (M.ld (plus (plus a (k * 3)) 2)).bind (Value.int? .i64) = some (if shB k = true then (1 : Int) else 0) := by
  rw [show plus (plus a (k * 3)) 2 = plus a (k * 3 + 2) by simp only [plus_eq, Nat.add_assoc]]
  exact h.ld _ _ (rowsL_get k hk).2.2
section
variable (lo : Nat)
theorem rrows_ok (M : Mem) : Ac P T lo F.zoetroperef04_rows [] M fun r => ∃ a M', r = (.slice (some a) 32 32, M') ∧ Pre M M' ∧ RowsAt M' a := by
  refine Ac.of (Evp.of_eq (fun k => zoetroperef04_rows.entry k ..) ?_)
  exact Evp.ret (Run.ret ⟨⟨M.length, 0, none⟩, _, rfl, Pre.app _ _, rfl, rfl, push_self _ _⟩)
theorem rtcheck_loop (A : Option Addr) (c : Nat) (t : Tb) (M : Mem) (hx : RdI M .u16 A t.1) (hn : 2 ≤ t.1.length ∧ t.1.length ≤ 16) (hc : 0 ≤ t.2 ∧ t.2 ≤ 32) (hl : t.1.getD (t.1.length - 1) 0 = 32768) : ∀ (d i : Nat), t.1.length - i = d → 1 ≤ i → i ≤ t.1.length → (∀ j, j + 1 < i → t.1.getD j 0 ≤ t.1.getD (j + 1) 0) →
    Run P T lo F.zoetroperef03_Check (zoetroperef03_Check.c244 (t.1.length : Int) (i : Int) A t.1.length c t.2 M) fun r => r = (.int .i64 (tabS t), M) := by
  intro d
  induction d with
  | zero =>
    intro i hd h1 hi hs
    refine Run.cut (Evp.of_eq (fun k => zoetroperef03_Check.p244 k ..) ?_)
    refine Evp.dec (fun h => absurd h (by omega)) fun _ => Evp.ret (Run.ret ?_)
    unfold tabS
    rw [if_pos ⟨hn.1, hn.2, hc.1, hc.2, List.all_eq_true.2 fun j hj => decide_eq_true (hs j (by have := List.mem_range.1 hj; omega)), hl⟩]
  | succ d ih =>
    intro i hd h1 hi hs
    refine Run.cut (Evp.of_eq (fun k => zoetroperef03_Check.p244 k ..) ?_)
    refine Evp.dec (fun _ => ?_) fun h => absurd h (by omega)
    rw [show ((i : Nat) : Int) - 1 = ((i - 1 : Nat) : Int) by omega, w64 (x := ((i - 1 : Nat) : Int)) (by omega), w64 (x := (i : Int) + 1) (by omega)]
    simp only [Int.toNat_natCast]
    refine Evp.pos (by omega) (Evp.ldI hx (by omega) fun _ _ => Evp.pos (by omega) (Evp.ldI hx (by omega) fun _ _ => ?_))
    refine Evp.dec (fun h => Evp.ret (Run.ret ?_)) fun h => Evp.ret (ih (i + 1) (by omega) (by omega) (by omega) fun j hj => ?_)
    · unfold tabS
      rw [if_neg fun e => ?_]
      have := of_decide_eq_true (List.all_eq_true.1 e.2.2.2.2.1 (i - 1) (List.mem_range.2 (by omega)))
      rw [show i - 1 + 1 = i by omega] at this
      omega
    · by_cases e : j + 1 = i
      · subst e
        rw [show j + 1 - 1 = j by omega] at h
        omega
      · exact hs j (by omega)
theorem rtcheck_ok (A : Option Addr) (c : Nat) (t : Tb) (M : Mem) (hx : RdI M .u16 A t.1) : Ac P T lo F.zoetroperef03_Check [.agg ⟨[.slice A t.1.length c, .int .i64 t.2]⟩] M fun r => r = (.int .i64 (tabS t), M) := by
  have no : ¬ TabP t → Run P T lo F.zoetroperef03_Check (.ret (.int .i64 2) M) fun r => r = (.int .i64 (tabS t), M) := fun h => Run.ret (by unfold tabS; rw [if_neg h])
  refine Ac.of (Evp.of_eq (fun k => zoetroperef03_Check.entry k ..) ?_)
  refine Evp.dec (fun h => Evp.ret (no fun e => by have := e.1; omega)) fun h1 => Evp.dec (fun h => Evp.ret (no fun e => by have := e.2.1; omega)) fun h2 => ?_
  refine Evp.dec (fun h => Evp.ret (no fun e => by have := e.2.2.1; omega)) fun h3 => Evp.dec (fun h => Evp.ret (no fun e => by have := e.2.2.2.1; omega)) fun h4 => ?_
  rw [show ((t.1.length : Nat) : Int) - 1 = ((t.1.length - 1 : Nat) : Int) by omega, w64 (x := ((t.1.length - 1 : Nat) : Int)) (by omega)]
  simp only [Int.toNat_natCast]
  refine Evp.pos (by omega) (Evp.ldI hx (by omega) fun _ _ => ?_)
  refine Evp.neb (fun h => Evp.ret (no fun e => h e.2.2.2.2.2)) fun h5 => ?_
  exact Evp.ret (rtcheck_loop lo A c t M hx (by omega) (by omega) h5 _ 1 rfl (by omega) (by omega) fun j hj => absurd hj (by omega))
theorem rflat_loop (M0 : Mem) (n : Nat) (hn : 2 ≤ n ∧ n ≤ 16) (hlo : lo ≤ M0.length) (A3 : Option Addr) (n4 c5 : Nat) (x6 : Int) : ∀ (d i : Nat) (M : Mem) (A : Option Addr) (c : Nat), n - i = d → i ≤ n → Pre M0 M → Grow M0 M 1 A i (((List.range i).map (flatF n)).map (Value.int .u16)) →
    Run P T lo F.zoetroperef03_Flat (zoetroperef03_Flat.c244 (n : Int) (i : Int) A3 n4 c5 x6 A i c 0 M) fun r => ∃ A c M', r = (.tuple ⟨[.agg ⟨[.slice A n c, .int .i64 0]⟩, .int .i64 0]⟩, M') ∧ Pre M0 M' ∧ Grow M0 M' 1 A n ((flatS n).map (Value.int .u16)) := by
  intro d
  induction d with
  | zero =>
    intro i M A c hd hi hp hg
    obtain rfl : i = n := by omega
    refine Run.cut (Evp.of_eq (fun k => zoetroperef03_Flat.p244 k ..) ?_)
    exact Evp.dec (fun h => absurd h (by omega)) fun _ => Evp.ret (Run.ret ⟨A, c, M, rfl, hp, hg⟩)
  | succ d ih =>
    intro i M A c hd hi hp hg
    refine Run.cut (Evp.of_eq (fun k => zoetroperef03_Flat.p244 k ..) ?_)
    refine Evp.dec (fun _ => ?_) fun h => absurd h (by omega)
    refine Evp.neg (by omega) ?_
    have hb0 := flatF_b n i hn (by omega)
    have e : IntKind.u16.wrap (IntKind.i64.wrap (Int.tdiv (IntKind.i64.wrap (32768 * (IntKind.i64.wrap ((i : Int) + 1)))) (n : Int))) = flatF n i := by
      rw [w64 (x := (i : Int) + 1) (by omega), w64 (x := 32768 * ((i : Int) + 1)) (by omega)]
      have : Int.tdiv (32768 * ((i : Int) + 1)) (n : Int) = flatF n i := Int.tdiv_eq_ediv_of_nonneg (by omega)
      rw [this, w64 (by omega), wu16 (by omega)]
    rw [e, w64 (x := (i : Int) + 1) (by omega)]
    obtain ⟨s, M', g1, g2, g3, g4, _⟩ := hg.app (lo := lo) (bytes := 2) (c := c) (m := 1) (vs := [.int .u16 (flatF n i)]) hp hlo rfl (by omega) (by omega)
    refine Evp.some g1 ?_
    obtain ⟨sa, sn, sc⟩ := s
    simp only at g2 g3
    subst g3
    refine Evp.ret (ih (i + 1) M' sa sc (by omega) (by omega) g4 ?_)
    rw [List.range_succ, List.map_append, List.map_append]
    exact g2
theorem rflat_ok (n : Nat) (M : Mem) (hn : 2 ≤ n ∧ n ≤ 16) (hlo : lo ≤ M.length) : Ac P T lo F.zoetroperef03_Flat [.int .i64 n] M fun r => ∃ A c M', r = (.tuple ⟨[.agg ⟨[.slice A n c, .int .i64 0]⟩, .int .i64 0]⟩, M') ∧ Pre M M' ∧ Grow M M' 1 A n ((flatS n).map (Value.int .u16)) := by
  refine Ac.of (Evp.of_eq (fun k => zoetroperef03_Flat.entry k ..) ?_)
  refine Evp.dec (fun h => absurd h (by omega)) fun _ => Evp.dec (fun h => absurd h (by omega)) fun _ => ?_
  exact Evp.ret (rflat_loop lo M n hn hlo _ _ _ _ _ 0 M none 0 rfl (by omega) (Pre.refl M) Grow.nil)
def halfF (i : Nat) : Int := 32768 / 2 ^ i
theorem halfF_step : ∀ i, i < 16 → IntKind.i64.wrap (Int.tdiv (halfF i) 2) = halfF (i + 1) ∧ IntKind.u16.wrap (IntKind.i64.wrap (32768 - halfF (i + 1))) = steepF 0 i := by decide +kernel
theorem rsteep_loop (M0 : Mem) (n : Nat) (hn : 2 ≤ n ∧ n ≤ 16) (hlo : lo ≤ M0.length) (A3 : Option Addr) (n4 c5 : Nat) (x6 : Int) : ∀ (d i : Nat) (M : Mem) (A : Option Addr) (c : Nat), n - 1 - i = d → i ≤ n - 1 → Pre M0 M → Grow M0 M 1 A i (((List.range i).map (steepF 0)).map (Value.int .u16)) →
    Run P T lo F.zoetroperef03_Steep (zoetroperef03_Steep.c500 (n : Int) (halfF i) (i : Int) A3 n4 c5 x6 A i c 0 M) fun r => ∃ A c M', r = (.tuple ⟨[.agg ⟨[.slice A n c, .int .i64 0]⟩, .int .i64 0]⟩, M') ∧ Pre M0 M' ∧ Grow M0 M' 1 A n ((steepS n).map (Value.int .u16)) := by
  intro d
  induction d with
  | zero =>
    intro i M A c hd hi hp hg
    obtain rfl : i = n - 1 := by omega
    refine Run.cut (Evp.of_eq (fun k => zoetroperef03_Steep.p500 k ..) ?_)
    rw [w64 (x := (n : Int) - 1) (by omega)]
    refine Evp.dec (fun h => absurd h (by omega)) fun _ => ?_
    obtain ⟨s, M', g1, g2, g3, g4, _⟩ := hg.app (lo := lo) (bytes := 2) (c := c) (m := 1) (vs := [.int .u16 32768]) hp hlo rfl (by omega) (by omega)
    refine Evp.some g1 ?_
    obtain ⟨sa, sn, sc⟩ := s
    simp only at g2 g3
    subst g3
    have en : n - 1 + 1 = n := by omega
    have e : (steepS n).map (Value.int .u16) = ((List.range (n - 1)).map (steepF 0)).map (Value.int .u16) ++ [.int .u16 32768] := by
      have : steepS n = (List.range (n - 1)).map (steepF 0) ++ [32768] := by
        unfold steepS
        conv => lhs; rw [← en, List.range_succ, List.map_append]
        congr 1
        · apply List.map_congr_left
          intro j hj
          have := List.mem_range.1 hj
          rw [if_neg (by omega)]; rfl
        · simp
      rw [this, List.map_append]; rfl
    exact Evp.ret (Run.ret ⟨sa, sc, M', by rw [en], g4, by rw [e]; rw [en] at g2; exact g2⟩)
  | succ d ih =>
    intro i M A c hd hi hp hg
    refine Run.cut (Evp.of_eq (fun k => zoetroperef03_Steep.p500 k ..) ?_)
    rw [w64 (x := (n : Int) - 1) (by omega)]
    refine Evp.dec (fun _ => ?_) fun h => absurd h (by omega)
    obtain ⟨e1, e2⟩ := halfF_step i (by omega)
    rw [e1, e2, w64 (x := (i : Int) + 1) (by omega)]
    obtain ⟨s, M', g1, g2, g3, g4, _⟩ := hg.app (lo := lo) (bytes := 2) (c := c) (m := 1) (vs := [.int .u16 (steepF 0 i)]) hp hlo rfl (by omega) (by omega)
    refine Evp.some g1 ?_
    obtain ⟨sa, sn, sc⟩ := s
    simp only at g2 g3
    subst g3
    refine Evp.ret (ih (i + 1) M' sa sc (by omega) (by omega) g4 ?_)
    rw [List.range_succ, List.map_append, List.map_append]
    exact g2
theorem rsteep_ok (n : Nat) (M : Mem) (hn : 2 ≤ n ∧ n ≤ 16) (hlo : lo ≤ M.length) : Ac P T lo F.zoetroperef03_Steep [.int .i64 n] M fun r => ∃ A c M', r = (.tuple ⟨[.agg ⟨[.slice A n c, .int .i64 0]⟩, .int .i64 0]⟩, M') ∧ Pre M M' ∧ Grow M M' 1 A n ((steepS n).map (Value.int .u16)) := by
  refine Ac.of (Evp.of_eq (fun k => zoetroperef03_Steep.entry k ..) ?_)
  refine Evp.dec (fun h => absurd h (by omega)) fun _ => Evp.dec (fun h => absurd h (by omega)) fun _ => ?_
  exact Evp.ret (rsteep_loop lo M n hn hlo _ _ _ _ _ 0 M none 0 rfl (by omega) (Pre.refl M) Grow.nil)
end
def TabW (Q : Nat → Prop) (M0 M : Mem) (vs : List Value) (j : Nat) (t : Tb) : Prop := ∃ a c, vs[j * 2]? = some (.slice (some a) t.1.length c) ∧ vs[j * 2 + 1]? = some (.int .i64 t.2) ∧ Buf M0 M a (t.1.map (Value.int .u16)) ∧ Q a.block
def RowW (Q : Nat → Prop) (M0 M : Mem) (vs : List Value) (k : Nat) (row : List Tb) : Prop := ∃ a c us, vs[k]? = some (.slice (some a) row.length c) ∧ Buf M0 M a us ∧ us.length = row.length * 2 ∧ Q a.block ∧ ∀ j t, row[j]? = some t → TabW (fun b => Q b ∧ b ≠ a.block) M0 M us j t
section
variable {Q Q' : Nat → Prop} {M0 M M' : Mem} {vs us : List Value} {j k : Nat} {t : Tb} {row : List Tb}
theorem TabW.keep {A : Option Addr} (h : TabW Q M0 M vs j t) (hk : Keep A M M') (hq : ∀ a, A = some a → ¬ Q a.block) : TabW Q M0 M' vs j t := by
  obtain ⟨a, c, h1, h2, h3, h4⟩ := h
  exact ⟨a, c, h1, h2, h3.keep hk fun a' ha e => hq a' ha (by rw [e]; exact h4), h4⟩
theorem TabW.pre (h : TabW Q M0 M vs j t) (hp : Pre M M') : TabW Q M0 M' vs j t := by
  obtain ⟨a, c, h1, h2, h3, h4⟩ := h
  exact ⟨a, c, h1, h2, h3.pre hp, h4⟩
theorem TabW.mono (h : TabW Q M0 M vs j t) (hq : ∀ b, b < M.length → Q b → Q' b) : TabW Q' M0 M vs j t := by
  obtain ⟨a, c, h1, h2, h3, h4⟩ := h
  exact ⟨a, c, h1, h2, h3, hq _ h3.in_ h4⟩
theorem TabW.cells (h : TabW Q M0 M vs j t) (e1 : us[j * 2]? = vs[j * 2]?) (e2 : us[j * 2 + 1]? = vs[j * 2 + 1]?) : TabW Q M0 M us j t := by
  obtain ⟨a, c, h1, h2, h3, h4⟩ := h
  exact ⟨a, c, by rw [e1, h1], by rw [e2, h2], h3, h4⟩
theorem TabW.floor {M1 : Mem} (h : TabW Q M1 M vs j t) (hl : M0.length ≤ M1.length) : TabW Q M0 M vs j t := by
  obtain ⟨a, c, h1, h2, h3, h4⟩ := h
  exact ⟨a, c, h1, h2, h3.floor hl, h4⟩
theorem TabW.at_ (h : TabW Q M0 M vs j t) : TabAt (fun b => M0.length ≤ b) M vs j t := by
  obtain ⟨a, c, h1, h2, h3, h4⟩ := h
  exact ⟨some a, c, h1, h2, h3.rdI, fun a' e => by injection e with e; subst e; exact h3.new⟩
theorem RowW.keep {A : Option Addr} (h : RowW Q M0 M vs k row) (hk : Keep A M M') (hq : ∀ a, A = some a → ¬ Q a.block) : RowW Q M0 M' vs k row := by
  obtain ⟨a, c, us, h1, h2, h3, h4, h5⟩ := h
  exact ⟨a, c, us, h1, h2.keep hk fun a' ha e => hq a' ha (by rw [e]; exact h4), h3, h4, fun j t hj => (h5 j t hj).keep hk fun a' ha e => hq a' ha e.1⟩
theorem RowW.pre (h : RowW Q M0 M vs k row) (hp : Pre M M') : RowW Q M0 M' vs k row := by
  obtain ⟨a, c, us, h1, h2, h3, h4, h5⟩ := h
  exact ⟨a, c, us, h1, h2.pre hp, h3, h4, fun j t hj => (h5 j t hj).pre hp⟩
theorem RowW.mono (h : RowW Q M0 M vs k row) (hq : ∀ b, b < M.length → Q b → Q' b) : RowW Q' M0 M vs k row := by
  obtain ⟨a, c, us, h1, h2, h3, h4, h5⟩ := h
  exact ⟨a, c, us, h1, h2, h3, hq _ h2.in_ h4, fun j t hj => (h5 j t hj).mono fun b hb e => ⟨hq b hb e.1, e.2⟩⟩
theorem RowW.cells (h : RowW Q M0 M vs k row) (e : us[k]? = vs[k]?) : RowW Q M0 M us k row := by
  obtain ⟨a, c, us, h1, h2⟩ := h
  exact ⟨a, c, us, by rw [e, h1], h2⟩
theorem RowW.at_ (h : RowW Q M0 M vs k row) : RowAt (fun b => M0.length ≤ b) M vs k row := by
  obtain ⟨a, c, us, h1, h2, h3, h4, h5⟩ := h
  exact ⟨some a, c, h1, fun a' e => by injection e with e; subst e; exact h2.new, us, h2.rd h3, fun j t hj => (h5 j t hj).at_⟩
end
structure RowG (Ms M : Mem) (A : Option Addr) (row : List Tb) (vs : List Value) : Prop where
  g : Grow Ms M 2 A row.length vs
  t : ∀ j t, row[j]? = some t → TabW (fun b => ∀ a, A = some a → b ≠ a.block) Ms M vs j t
theorem RowG.nil {Ms M : Mem} : RowG Ms M none [] [] := ⟨Grow.nil, fun j t h => by simp at h⟩
theorem RowG.add {lo : Nat} {Ms M0 M : Mem} {A : Option Addr} {row : List Tb} {vs : List Value} {c cc : Nat} {t : Tb} {a : Addr} (h : RowG Ms M0 A row vs) (h01 : Pre M0 M) (hp : Pre Ms M0) (ha : Buf M0 M a (t.1.map (Value.int .u16))) (hlo : lo ≤ Ms.length) (hn : row.length ≤ 1000) :
    ∃ s M', M.app lo 2 32 ⟨A, row.length, c⟩ [.slice (some a) t.1.length cc, .int .i64 t.2] 1 = some (s, M') ∧ RowG Ms M' s.a (row ++ [t]) (vs ++ [.slice (some a) t.1.length cc, .int .i64 t.2]) ∧ s.n = row.length + 1 ∧ Pre Ms M' := by
  have hg := h.g.pre h01
  obtain ⟨s, M', g1, g2, g3, g4, g5, g6⟩ := hg.app' (lo := lo) (bytes := 32) (c := c) (m := 1) (vs := [.slice (some a) t.1.length cc, .int .i64 t.2]) (hp.trans h01) hlo rfl (by omega) (by omega) (by omega)
  have hl := h.g.len
  have hin : ∀ a', A = some a' → a'.block < M0.length := fun a' e => by
    rcases h.g.at_ with ⟨e', _⟩ | ⟨b, e', _, hb⟩
    · rw [e'] at e; cases e
    · rw [e'] at e; injection e with e; rw [← e]; exact lt_of_get hb
  have new := ha.new
  have iN := ha.in_
  have l0 := hp.len
  have l1 := h01.len
  refine ⟨s, M', g1, ⟨by rw [List.length_append, List.length_singleton, ← g3]; exact g2, fun j x hj => ?_⟩, g3, g4⟩
  have nb : ∀ b, b < M.length → (∀ a, A = some a → b ≠ a.block) → ∀ a', s.a = some a' → b ≠ a'.block := fun b hb hA a' e => by
    rcases g6 a' e with ⟨a0, e0, e1⟩ | e1
    · rw [← e1]; exact hA a0 e0
    · omega
  by_cases hjl : j < row.length
  · rw [List.getElem?_append_left hjl] at hj
    have h1 := ((h.t j x hj).pre h01).keep (M' := M') g5 fun a' e q => q a' e rfl
    have h2 : TabW (fun b => b < M.length ∧ ∀ a, A = some a → b ≠ a.block) Ms M' vs j x := by
      have h3 := ((h.t j x hj).pre h01).mono (Q' := fun b => b < M.length ∧ ∀ a, A = some a → b ≠ a.block) fun b hb q => ⟨hb, q⟩
      exact h3.keep g5 fun a' e q => q.2 a' e rfl
    refine (h2.mono fun b hb q => nb b q.1 q.2).cells ?_ ?_
    · rw [List.getElem?_append_left (by omega)]
    · rw [List.getElem?_append_left (by omega)]
  · have hj2 : j = row.length := by
      have := (List.getElem?_eq_some_iff.1 hj).1
      simp at this
      omega
    subst hj2
    rw [List.getElem?_append_right (Nat.le_refl _), Nat.sub_self] at hj
    injection hj with hj; subst hj
    refine ⟨a, cc, ?_, ?_, ?_, ?_⟩
    · rw [← hl, List.getElem?_append_right (Nat.le_refl _), Nat.sub_self]; rfl
    · rw [← hl, List.getElem?_append_right (by omega), show vs.length + 1 - vs.length = 1 by omega]; rfl
    · exact (ha.floor l0).keep g5 fun a' e q => by have := hin a' e; omega
    · exact nb _ iN fun a' e q => by have := hin a' e; omega
structure SetG (m1 : Nat) (M0 M : Mem) (A : Option Addr) (rows : List (List Tb)) (vs : List Value) : Prop where
  g : Grow M0 M 1 A rows.length vs
  r : ∀ k row, rows[k]? = some row → RowW (fun b => (∀ a, A = some a → b ≠ a.block) ∧ (k = 0 → b < m1) ∧ (k ≠ 0 → m1 ≤ b)) M0 M vs k row
theorem SetG.nil {m1 : Nat} {M0 M : Mem} : SetG m1 M0 M none [] [] := ⟨Grow.nil, fun k row h => by simp at h⟩
theorem SetG.set {m1 : Nat} {M0 M : Mem} {A : Option Addr} {rows : List (List Tb)} {vs : List Value} (h : SetG m1 M0 M A rows vs) : SetIs (fun b => M0.length ≤ b) M A rows := by
  refine ⟨fun a e => ?_, vs, h.g.rd, fun k row hk => (h.r k row hk).at_⟩
  rcases h.g.at_ with ⟨e', _⟩ | ⟨b, e', h1, _⟩
  · rw [e'] at e; cases e
  · rw [e'] at e; injection e with e; rw [← e]; exact h1
theorem SetG.add {lo m1 : Nat} {M0 Ms M : Mem} {A Ar : Option Addr} {rows : List (List Tb)} {row : List Tb} {vs us : List Value} {c cr : Nat} (h : SetG m1 M0 Ms A rows vs) (h0 : Pre M0 Ms) (hp : Pre Ms M) (hr : RowG Ms M Ar row us) (hne : row ≠ []) (hm : rows ≠ [] → m1 ≤ Ms.length) (hlo : lo ≤ M0.length) (hn : rows.length ≤ 1000) :
    ∃ m1' s M', M.app lo 1 24 ⟨A, rows.length, c⟩ [.slice Ar row.length cr] 1 = some (s, M') ∧ SetG m1' M0 M' s.a (rows ++ [row]) (vs ++ [.slice Ar row.length cr]) ∧ s.n = rows.length + 1 ∧ Pre M0 M' ∧ m1' ≤ M'.length := by
  have hg := h.g.pre hp
  obtain ⟨s, M', g1, g2, g3, g4, g5, g6⟩ := hg.app' (lo := lo) (bytes := 24) (c := c) (m := 1) (vs := [.slice Ar row.length cr]) (h0.trans hp) hlo rfl (by omega) (by omega) (by omega)
  have hl := h.g.len
  have l0 := h0.len
  have l1 := hp.len
  have hin : ∀ a', A = some a' → a'.block < Ms.length := fun a' e => by
    rcases h.g.at_ with ⟨e', _⟩ | ⟨b, e', _, hb⟩
    · rw [e'] at e; cases e
    · rw [e'] at e; injection e with e; rw [← e]; exact lt_of_get hb
  have l2 : M.length ≤ M'.length := by
    rcases hg.at_ with ⟨e', _⟩ | ⟨b, e', _, hb⟩
    · have : Pre M M' := fun b k hb => g5 b k hb fun a e => by rw [e'] at e; cases e
      exact this.len
    · have hh := g5
      have : ∀ i, i < M.length → i ≠ b → i < M'.length := fun i hi hne => lt_of_get (g5 i _ (List.getElem?_eq_getElem hi) fun a e => by rw [e'] at e; injection e with e; rw [← e]; exact fun q => hne q.symm)
      rcases Nat.lt_or_ge M'.length M.length with hlt | hge
      · exfalso
        obtain ⟨a', ea, hb'⟩ : ∃ a', s.a = some a' ∧ a'.block < M'.length := by
          rcases g2.at_ with ⟨_, e2⟩ | ⟨b2, e2, _, e3⟩
          · omega
          · exact ⟨_, e2, lt_of_get e3⟩
        rcases g6 a' ea with ⟨a0, e0, e1⟩ | e1
        · rw [e'] at e0; injection e0 with e0
          have hbb : a0.block = b := by rw [← e0]
          by_cases hq : M.length - 1 = b
          · have := this
            by_cases hq2 : M.length = 1
            · omega
            · omega
          · have := this (M.length - 1) (by omega) hq
            omega
        · omega
      · exact hge
  obtain ⟨ar, hAr, hbr⟩ := hr.g.buf (by intro e; exact hne (List.eq_nil_of_length_eq_zero e))
  have nar := hbr.new
  have iar := hbr.in_
  have nb : ∀ b, b < M.length → (∀ a, A = some a → b ≠ a.block) → ∀ a', s.a = some a' → b ≠ a'.block := fun b hb hA a' e => by
    rcases g6 a' e with ⟨a0, e0, e1⟩ | e1
    · rw [← e1]; exact hA a0 e0
    · omega
  have newrow : RowW (fun b => (∀ a, s.a = some a → b ≠ a.block) ∧ Ms.length ≤ b ∧ b < M'.length) M0 M' (vs ++ [.slice Ar row.length cr]) rows.length row := by
    refine ⟨ar, cr, us, ?_, (hbr.floor l0).keep g5 fun a' e q => by have := hin a' e; omega, hr.g.len, ⟨nb _ iar fun a' e q => by have := hin a' e; omega, nar, by omega⟩, fun j t hj => ?_⟩
    · have : rows.length = vs.length := by omega
      rw [this, List.getElem?_append_right (Nat.le_refl _), Nat.sub_self, hAr]; rfl
    · have h1 := hr.t j t hj
      have h2 : TabW (fun b => (Ms.length ≤ b ∧ b < M.length) ∧ b ≠ ar.block) Ms M us j t := by
        obtain ⟨a, cc, q1, q2, q3, q4⟩ := h1
        exact ⟨a, cc, q1, q2, q3, ⟨q3.new, q3.in_⟩, q4 ar hAr⟩
      have h3 : TabW (fun b => (Ms.length ≤ b ∧ b < M.length) ∧ b ≠ ar.block) M0 M' us j t := (h2.floor l0).keep g5 fun a' e q => by have := hin a' e; omega
      exact h3.mono fun b hb q => ⟨⟨nb b q.1.2 fun a' e q' => by have := hin a' e; omega, q.1.1, hb⟩, q.2⟩
  refine ⟨if rows = [] then M'.length else m1, s, M', g1, ⟨by rw [List.length_append, List.length_singleton, ← g3]; exact g2, fun k x hk => ?_⟩, g3, g4, ?_⟩
  · by_cases hkl : k < rows.length
    · rw [List.getElem?_append_left hkl] at hk
      have hrn : rows ≠ [] := fun e => by rw [e] at hkl; simp at hkl
      rw [if_neg hrn]
      have h1 := (h.r k x hk).mono (Q' := fun b => b < M.length ∧ (∀ a, A = some a → b ≠ a.block) ∧ (k = 0 → b < m1) ∧ (k ≠ 0 → m1 ≤ b)) fun b hb q => ⟨by omega, q⟩
      have h2 := (h1.pre hp).keep g5 fun a' e q => q.2.1 a' e rfl
      refine (h2.mono fun b hb q => ⟨nb b q.1 q.2.1, q.2.2⟩).cells ?_
      rw [List.getElem?_append_left (by omega)]
    · have hk2 : k = rows.length := by
        have := (List.getElem?_eq_some_iff.1 hk).1
        simp at this
        omega
      subst hk2
      rw [List.getElem?_append_right (Nat.le_refl _), Nat.sub_self] at hk
      injection hk with hk; subst hk
      refine newrow.mono fun b hb q => ⟨q.1, fun e => ?_, fun e => ?_⟩
      · rw [if_pos (List.eq_nil_of_length_eq_zero e)]; exact hb
      · have hrn : rows ≠ [] := fun e' => e (by rw [e']; rfl)
        rw [if_neg hrn]
        have := hm hrn
        omega
  · split
    · exact Nat.le_refl _
    · rename_i hrn
      have := hm hrn
      omega
end Go.Zt
