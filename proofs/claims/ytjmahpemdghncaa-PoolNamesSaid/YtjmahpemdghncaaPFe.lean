/- What the law PoolNames needs of the text Fe. -/
import Derived.Test.YtjmahpemdghncaaPFd
set_option linter.unusedVariables false
set_option linter.unusedSimpArgs false
set_option maxRecDepth 100000
namespace Go.Zt
section
variable (lo : Nat)
theorem clone16_ok (A : Option Addr) (c : Nat) (xs : List Int) (M : Mem) (hr : RdI M .u16 A xs) (h0 : xs.length ≠ 0) (hn : xs.length ≤ 1073741824) (hlo : lo ≤ M.length) :
    Ac P T lo F.slices_Clone__uint16_uint16 [.slice A xs.length c] M fun r => ∃ a cc M', r = (.slice (some a) xs.length cc, M') ∧ Pre M M' ∧ Buf M M' a (xs.map (Value.int .u16)) := by
  obtain ⟨a0, hA, _⟩ := hr.ld (i := 0) (by omega)
  refine Ac.of (Evp.of_eq (fun k => slices_Clone__uint16_uint16.entry k ..) ?_)
  refine Evp.ff (by rw [hA]; rfl) ?_
  refine Evp.some ((hr.pre (Pre.app _ _)).src) ?_
  have e : (M ++ [⟨.fx, []⟩] : Mem).app lo 1 2 ⟨some ⟨M.length, 0, none⟩, 0, 0⟩ (xs.map (Value.int .u16)) xs.length = some (⟨some ⟨(M ++ [⟨.fx, []⟩] : Mem).length, 0, some (xs.map (Value.int .u16)).length⟩, xs.length, xs.length⟩, (M ++ [⟨.fx, []⟩] : Mem) ++ [⟨.op 1, xs.map (Value.int .u16)⟩]) := by
    unfold Mem.app
    have hroom : room (0 + xs.length) 2 := by show (0 + xs.length) * 2 ≤ 140737488355328; omega
    simp only [h0, if_false]
    rw [if_pos hroom]
    simp
  refine Evp.some e ?_
  refine Evp.ret (Run.ret ⟨_, _, _, rfl, (Pre.app M _).trans (Pre.app _ _), ?_⟩)
  exact ⟨.op 1, rfl, by simp, by simp, .inr ⟨1, rfl, rfl⟩⟩
theorem cloneT_ok (A : Option Addr) (n c : Nat) (vs : List Value) (M : Mem) (hr : Rd M A n 2 vs) (h0 : n ≠ 0) (hn : n ≤ 1073741824) (hlo : lo ≤ M.length) :
    Ac P T lo F.slices_Clone__api_Table_api_Table [.slice A n c] M fun r => ∃ a cc M', r = (.slice (some a) n cc, M') ∧ Pre M M' ∧ Buf M M' a vs := by
  obtain ⟨a0, hA, _⟩ := hr.get (i := 0) (by omega)
  refine Ac.of (Evp.of_eq (fun k => slices_Clone__api_Table_api_Table.entry k ..) ?_)
  refine Evp.ff (by rw [hA]; rfl) ?_
  refine Evp.some ((hr.pre (Pre.app _ _)).src) ?_
  have hl := hr.1
  have e : (M ++ [⟨.fx, []⟩] : Mem).app lo 2 32 ⟨some ⟨M.length, 0, none⟩, 0, 0⟩ vs n = some (⟨some ⟨(M ++ [⟨.fx, []⟩] : Mem).length, 0, some vs.length⟩, n, n⟩, (M ++ [⟨.fx, []⟩] : Mem) ++ [⟨.op 2, vs⟩]) := by
    unfold Mem.app
    have hroom : room (0 + n) 32 := by show (0 + n) * 32 ≤ 140737488355328; omega
    simp only [h0, if_false]
    rw [if_pos hroom]
    simp
  refine Evp.some e ?_
  refine Evp.ret (Run.ret ⟨_, _, _, rfl, (Pre.app M _).trans (Pre.app _ _), ?_⟩)
  exact ⟨.op 2, rfl, by simp, by simp, .inr ⟨2, rfl, rfl⟩⟩
theorem copy_row (S : Nat → Prop) (M0 : Mem) (Ar : Option Addr) (cr cr' : Nat) (row : List Tb) (ao a : Addr) (os : List Value) (k n c : Nat) (A : Option Addr) (cA c3 : Nat) (hlo : lo ≤ M0.length)
    (hn : n ≤ 1000) (hk : k < n) (hrl : row.length ≤ 1073741824) (hne : ∀ t ∈ row, t.1.length ≠ 0 ∧ t.1.length ≤ 1073741824) (ho : os[k]? = some (.slice (some a) row.length cr')) (hon : os.length = n) (hao : M0.length ≤ ao.block) (haa : M0.length ≤ a.block) (hne2 : ao.block ≠ a.block)
    (M1 : Mem) (h01 : Pre M0 M1) {Q : Value × Mem → Prop} (hnext : ∀ (M' : Mem) (vs : List Value), Pre M0 M' → KeepB a.block M1 M' → Buf M0 M' ao os → Buf M0 M' a vs → vs.length = row.length * 2 → (∀ i t, row[i]? = some t → TabAt (fun b => M1.length ≤ b) M' vs i t) →
      Run P T lo F.syms_Copy (syms_Copy.c116 A n cA (n : Int) ((IntKind.i64.wrap ((k : Int) + 1))) none 0 0 (some ao) n c3 M') Q) (hr : RowIs S M1 Ar row) (hra : ∀ a', Ar = some a' → a'.block < M0.length) (hrs : ∀ b, S b → b < M0.length) :
    ∀ (d j : Nat) (M : Mem) (vs : List Value), row.length - j = d → j ≤ row.length → Pre M0 M → KeepB a.block M1 M → M1.length ≤ M.length → Buf M0 M ao os → Buf M0 M a vs → vs.length = row.length * 2 → (∀ i t, i < j → row[i]? = some t → TabAt (fun b => M1.length ≤ b) M vs i t) → (∀ i t, j ≤ i → row[i]? = some t → vs[i * 2 + 1]? = some (.int .i64 t.2)) → a.block < M1.length →
      Run P T lo F.syms_Copy (syms_Copy.c59804 (k : Int) Ar row.length cr A n cA (n : Int) (k : Int) (row.length : Int) (j : Int) none 0 0 (some ao) n c3 M) Q := by
  intro d
  induction d with
  | zero =>
    intro j M vs hd hj hp hkb hml hbo hba hl ht hc h1
    obtain rfl : j = row.length := by omega
    refine Run.cut (Evp.of_eq (fun k => syms_Copy.p59804 k ..) ?_)
    refine Evp.dec (fun h => absurd h (by omega)) fun _ => Evp.ret (hnext M vs hp hkb hbo hba hl fun i t hi => ht i t (List.getElem?_eq_some_iff.1 hi).1 hi)
  | succ d ih =>
    intro j M vs hd hj hp hkb hml hbo hba hl ht hc h1
    have hjl : j < row.length := by omega
    have hjt : row[j]? = some row[j] := List.getElem?_eq_getElem hjl
    have hmem : row[j] ∈ row := List.getElem_mem hjl
    have hrM : RowIs S M Ar row := hr.keepS (hkb.keepS fun h => by have := hrs _ h; omega)
    refine Run.cut (Evp.of_eq (fun k => syms_Copy.p59804 k ..) ?_)
    refine Evp.dec (fun _ => ?_) fun h => absurd h (by omega)
    refine Evp.pos (by omega) (Evp.some rfl ?_)
    simp only [Int.toNat_natCast]
    obtain ⟨a0, e0, _, hld⟩ := (hbo.rd (n := n) (z := 1) (by omega)).get (i := k) (by omega)
    injection e0 with e0; subst e0
    have hin := hbo.in_
    rw [if_pos (by rw [plus_eq]; exact hin), hld, ho]
    refine Evp.some rfl ?_
    refine Evp.pos (by omega) ?_
    refine Evp.ldTs hrM hjt fun aR A' c' hAr hx hs => ?_
    refine Evp.ob (clone16_ok M.length A' c' row[j].1 M hx (hne _ hmem).1 (hne _ hmem).2 (Nat.le_refl _)) ?_
    rintro _ ⟨a', cc, M2, rfl, p2, b2⟩
    simp only [ret_int, ret_bool, ret_flt, ret_slc, ret_str, ret_ptr, ret_agg, ret_tup, ob_some, bb_true, bb_false, List.getElem?_cons_zero, List.getElem?_cons_succ, List.length_cons, List.length_nil, Nat.reduceAdd, Nat.reduceLT]
    refine Evp.pos (by omega) (Evp.some rfl ?_)
    have l2 := p2.len
    have inn := b2.in_
    have new := b2.new
    obtain ⟨M3, g1, g2, g3, g4, g5⟩ := (hba.pre p2).st (lo := lo) (i := j * 2) (vs := [.slice (some a') row[j].1.length cc]) (hp.trans p2) hlo (by simp; omega)
    refine Evp.some g1 ?_
    rw [w64 (x := (j : Int) + 1) (by omega)]
    have kb : KeepB a.block M M3 := (p2.keepB _).trans fun i x hx hi => g4 i x hx fun a0 e h => by injection e with e; subst e; exact hi h.symm
    have kS : KeepS (fun b => M1.length ≤ b) M M3 := kb.keepS (by omega)
    have kS2 : KeepS (fun b => M1.length ≤ b) M2 M3 := g4.keepS fun a0 e h => by injection e with e; subst e; omega
    refine Evp.ret (ih (j + 1) M3 _ (by omega) (by omega) g3 (hkb.trans kb) (by omega) ((hbo.pre p2).keep g4 fun a0 e => by injection e with e; subst e; exact fun h => hne2 h.symm) g2 (by rw [setL_len]; exact hl) (fun i t hi hit => ?_) (fun i t hi hit => ?_) h1)
    · by_cases e : i = j
      · subst e
        rw [hjt] at hit; injection hit with hit; subst hit
        refine ⟨some a', cc, ?_, ?_, ?_, fun a0 e => ?_⟩
        · rw [setL_one, List.getElem?_set_self (by omega)]
        · rw [setL_one, List.getElem?_set_ne (by omega)]; exact hc i _ (by omega) hjt
        · exact (b2.rdI).keepS (S := fun b => M1.length ≤ b) (fun a0 e => by injection e with e; subst e; omega) kS2
        · injection e with e; subst e; omega
      · refine ((ht i t (by omega) hit).keepS kS).cells ?_ ?_
        · rw [setL_one, List.getElem?_set_ne (by omega)]
        · rw [setL_one, List.getElem?_set_ne (by omega)]
    · rw [setL_one, List.getElem?_set_ne (by omega)]; exact hc i t (by omega) hit
theorem copy_loop (S : Nat → Prop) (Mi : Mem) (A : Option Addr) (cA c3 : Nat) (rows : List (List Tb)) (ao : Addr) (hlo : lo ≤ Mi.length) (hs : SetIs S Mi A rows) (hb : ∀ b, S b → b < Mi.length)
    (hn : rows.length ≤ 1000) (hne : ∀ row ∈ rows, row.length ≠ 0 ∧ row.length ≤ 1000 ∧ ∀ t ∈ row, t.1.length ≠ 0 ∧ t.1.length ≤ 1000) :
    ∀ (d k : Nat) (M : Mem) (os : List Value), rows.length - k = d → k ≤ rows.length → Pre Mi M → Buf Mi M ao os → os.length = rows.length →
      (∀ i row, i < k → rows[i]? = some row → RowAt (fun b => Mi.length ≤ b ∧ b ≠ ao.block) M os i row) →
      Run P T lo F.syms_Copy (syms_Copy.c116 A rows.length cA (rows.length : Int) (k : Int) none 0 0 (some ao) rows.length c3 M) fun r => ∃ a c M', r = (.agg ⟨[.slice (some a) rows.length c]⟩, M') ∧ Pre Mi M' ∧ SetIs (fun b => Mi.length ≤ b) M' (some a) rows := by
  intro d
  induction d with
  | zero =>
    intro k M os hd hk hp hbo hol hr
    obtain rfl : k = rows.length := by omega
    refine Run.cut (Evp.of_eq (fun k => syms_Copy.p116 k ..) ?_)
    refine Evp.dec (fun h => absurd h (by omega)) fun _ => Evp.ret (Run.ret ⟨ao, c3, M, rfl, hp, fun a ha => ?_, os, hbo.rd (by omega), fun i row hi => ?_⟩)
    · injection ha with ha; subst ha; exact hbo.new
    · exact (hr i row (List.getElem?_eq_some_iff.1 hi).1 hi).mono fun b h => h.1
  | succ d ih =>
    intro k M os hd hk hp hbo hol hr
    have hkl : k < rows.length := by omega
    have hkt : rows[k]? = some rows[k] := List.getElem?_eq_getElem hkl
    have hmem : rows[k] ∈ rows := List.getElem_mem hkl
    have hn1 := hne _ hmem
    have l0 := hp.len
    refine Run.cut (Evp.of_eq (fun k => syms_Copy.p116 k ..) ?_)
    refine Evp.dec (fun _ => ?_) fun h => absurd h (by omega)
    refine Evp.pos (by omega) ?_
    simp only [Int.toNat_natCast]
    refine Evp.ldR (hs.pre hp) hkt fun aA A' c' hA hrow _ => ?_
    obtain ⟨hoA, vs, hv, hvt⟩ := hrow
    refine Evp.ob (cloneT_ok M.length A' rows[k].length c' vs M hv hn1.1 (by omega) (Nat.le_refl _)) ?_
    rintro _ ⟨a, cc, M1, rfl, p1, b1⟩
    simp only [ret_int, ret_bool, ret_flt, ret_slc, ret_str, ret_ptr, ret_agg, ret_tup, ob_some, bb_true, bb_false, List.getElem?_cons_zero, List.getElem?_cons_succ, List.length_cons, List.length_nil, Nat.reduceAdd, Nat.reduceLT]
    refine Evp.pos (by omega) (Evp.some rfl ?_)
    have l1 := p1.len
    have io := hbo.in_
    have no := hbo.new
    have ia := b1.in_
    have na := b1.new
    obtain ⟨M2, g1, g2, g3, g4, g5⟩ := (hbo.pre p1).st (lo := lo) (i := k) (vs := [.slice (some a) rows[k].length cc]) (hp.trans p1) hlo (by simp; omega)
    refine Evp.some g1 ?_
    rw [setL_one] at g2
    have kS : KeepS S M M2 := p1.keepS.trans (g4.keepS fun a0 e h => by injection e with e; subst e; have := hb _ h; omega)
    have hrow2 : RowIs S M2 A' rows[k] := RowIs.keepS ⟨hoA, vs, hv, hvt⟩ kS
    refine Evp.ret (copy_row lo S Mi A' c' cc rows[k] ao a _ k rows.length c3 A cA c3 hlo hn hkl (by omega) (fun t ht => ⟨(hn1.2.2 t ht).1, by have := (hn1.2.2 t ht).2; omega⟩) (List.getElem?_set_self (by omega)) (by simp; omega) no (by omega) (by omega) M2 g3 (fun M' us q1 q2 q3 q4 q5 q6 => ?_) hrow2
      (fun a0 e => by have := hb _ (hoA a0 e); omega) hb _ 0 M2 vs rfl (by omega) g3 (KeepB.refl _ _) (Nat.le_refl _) g2 ((b1.floor l0).keep g4 fun a0 e => by injection e with e; subst e; omega) hv.1 (fun i t hi => absurd hi (by omega)) (fun i t hi hit => ?_) (by omega))
    · rw [w64 (x := (k : Int) + 1) (by omega)]
      refine ih (k + 1) M' _ (by omega) (by omega) q1 q3 (by simp; omega) fun i row hi hir => ?_
      by_cases e : i = k
      · subst e
        rw [hkt] at hir; injection hir with hir; subst hir
        refine ⟨some a, cc, List.getElem?_set_self (by omega), fun a0 e => ?_, us, q4.rd q5, fun j t hj => (q6 j t hj).mono fun b h => ⟨by omega, by omega⟩⟩
        injection e with e; subst e; exact ⟨by omega, by omega⟩
      · have h1 := hr i row (by omega) hir
        have hn2 := hne _ (List.mem_of_getElem? hir)
        have h2 := h1.lt hn2.1 fun t ht => (hn2.2.2 t ht).1
        have h3 := h2.keepS (M' := M') (p1.keepS.trans ((g4.keepS fun a0 e h => by injection e with e; subst e; exact h.1.2 rfl).trans (q2.keepS fun h => by have := h.2; omega)))
        exact (h3.mono fun b h => h.1).cells (by rw [List.getElem?_set_ne (by omega)])
    · obtain ⟨A2, c2, k1, k2, _⟩ := hvt i t hit
      exact k2
theorem SetIs.lt {S : Nat → Prop} {M : Mem} {A : Option Addr} {rows : List (List Tb)} (h : SetIs S M A rows) (h0 : rows.length ≠ 0) (hne : ∀ row ∈ rows, row.length ≠ 0 ∧ ∀ t ∈ row, t.1.length ≠ 0) : SetIs (fun b => S b ∧ b < M.length) M A rows := by
  obtain ⟨g0, vs, g1, g2⟩ := h
  refine ⟨fun a ha => ⟨g0 a ha, ?_⟩, vs, g1, fun j t hj => ?_⟩
  · obtain ⟨a', e, hl, _⟩ := g1.get (i := 0) (by omega)
    rw [ha] at e; injection e with e; rw [e]; exact hl
  · have := hne t (List.mem_of_getElem? hj)
    exact (g2 j t hj).lt this.1 this.2
theorem SetP.ne {rows : List (List Tb)} (h : SetP rows) : rows.length = 32 ∧ ∀ row ∈ rows, row.length ≠ 0 ∧ row.length ≤ 1000 ∧ ∀ t ∈ row, t.1.length ≠ 0 ∧ t.1.length ≤ 1000 := by
  refine ⟨h.1, fun row hr => ?_⟩
  obtain ⟨i, hi, rfl⟩ := List.getElem_of_mem hr
  have h1 := h.2 i (by have := h.1; omega)
  have hsb := sh_bound i (by have := h.1; omega)
  rw [List.getD_eq_getElem?_getD, List.getElem?_eq_getElem hi] at h1
  simp only [Option.getD_some] at h1
  have h2 := h1.1
  exact ⟨by omega, by omega, fun t ht => by have := (h1.2 t ht).1; omega⟩
theorem zeros_one (n : Nat) (v : Value) : zerosL [v] n = List.replicate n v := zerosL_one v n
theorem scopy_ok (S : Nat → Prop) (A : Option Addr) (cA : Nat) (rows : List (List Tb)) (M : Mem) (hs : SetIs S M A rows) (hp : SetP rows) (hlo : lo ≤ M.length) :
    Ac P T lo F.syms_Copy [.agg ⟨[.slice A rows.length cA]⟩] M fun r => ∃ a c M', r = (.agg ⟨[.slice (some a) rows.length c]⟩, M') ∧ Pre M M' ∧ SetIs (fun b => M.length ≤ b) M' (some a) rows := by
  have hne := hp.ne
  have hs1 := hs.lt (by omega) fun row h => ⟨(hne.2 row h).1, fun t ht => ((hne.2 row h).2.2 t ht).1⟩
  have hl := hne.1
  refine Ac.of (Evp.of_eq (fun k => syms_Copy.entry k ..) ?_)
  refine Evp.pos ⟨by omega, by show ((rows.length : Nat) : Int).toNat * 24 ≤ 140737488355328; omega⟩ ?_
  simp only [Int.toNat_natCast]
  exact Evp.ret (copy_loop lo _ M A cA rows.length rows ⟨M.length, 0, none⟩ hlo hs1 (fun b h => h.2) (by omega) hne.2 _ 0 _ (List.replicate rows.length (.slice none 0 0)) rfl (by omega) (Pre.app _ _) (by rw [zeros_one]; exact Buf.push (Pre.refl M)) (by simp) fun i row hi => absurd hi (by omega))
end
end Go.Zt
