/- What the law PoolNames needs of the text Fq. -/
import Derived.Test.YtjmahpemdghncaaPFp
set_option linter.unusedVariables false
set_option linter.unusedSimpArgs false
set_option maxRecDepth 100000
namespace Go.Zt
structure CodV where
  eb : Nat
  wb : Nat
  A : Option Addr
  n : Nat
  c : Nat
  low : Int
  rng : Int
  a : Addr
  vs : List Value
  a0 : Addr
  c0 : Nat
  us : List Value
  ac : Addr
  cc : Nat
  t : Tb
  N : Int
  L0 : Nat
  L1 : Nat
def CodV.S (v : CodV) (b : Nat) : Prop := v.L0 ≤ b ∧ b < v.L1 ∧ b ≠ v.a.block ∧ b ≠ v.a0.block
structure CodIs (M0 M : Mem) (v : CodV) : Prop where
  enc : EncIs M0 M v.eb v.A v.n v.c v.low v.rng
  rng : 16777216 ≤ v.rng ∧ v.rng < 4294967296
  w : M[v.wb]? = some ⟨.fx, [.pointer (some ⟨v.eb, 0, none⟩), .pointer none, .slice (some v.a) 32 32, .bool true, .int .i64 v.N]⟩
  ord : M0.length ≤ v.eb ∧ v.eb < v.L0 ∧ v.L0 ≤ v.L1 ∧ v.L1 ≤ v.wb
  out : ∀ x, v.A = some x → v.wb < x.block
  ba : Buf M0 M v.a v.vs
  la : v.vs.length = 32
  ra : v.L0 ≤ v.a.block ∧ v.a.block < v.L1
  e0 : v.vs[0]? = some (.slice (some v.a0) 8 v.c0)
  b0 : Buf M0 M v.a0 v.us
  l0 : v.us.length = 16
  r0 : v.L0 ≤ v.a0.block ∧ v.a0.block < v.L1 ∧ v.a0.block ≠ v.a.block
  t0 : v.us[0]? = some (.slice (some v.ac) v.t.1.length v.cc)
  t1 : v.us[1]? = some (.int .i64 v.t.2)
  bc : Buf M0 M v.ac (v.t.1.map (Value.int .u16))
  rc : v.ac.block ≠ v.eb ∧ v.ac.block ≠ v.wb ∧ v.ac.block ≠ v.a.block ∧ v.ac.block ≠ v.a0.block ∧ ∀ x, v.A = some x → x.block ≠ v.ac.block
  row : ∀ j t, j ≠ 0 → (defRow 0)[j]? = some t → TabW v.S M0 M v.us j t
  rows : ∀ k row, k ≠ 0 → defSet[k]? = some row → RowW v.S M0 M v.vs k row
def codSet (t : Tb) : List (List Tb) := (t :: (defRow 0).tail) :: defSet.tail
theorem codSet_len (t : Tb) : (codSet t).length = 32 := by simp [codSet, defSet]
theorem defRow0_len : (defRow 0).length = 8 := by simp [defRow, shC]
theorem codSet_row (t : Tb) {k : Nat} (hk : k ≠ 0) : (codSet t)[k]? = defSet[k]? := by
  obtain ⟨j, rfl⟩ : ∃ j, k = j + 1 := ⟨k - 1, by omega⟩
  unfold codSet
  rw [List.getElem?_cons_succ, List.getElem?_tail]
theorem codSet_tab (t : Tb) {j : Nat} (hj : j ≠ 0) : (t :: (defRow 0).tail)[j]? = (defRow 0)[j]? := by
  obtain ⟨i, rfl⟩ : ∃ i, j = i + 1 := ⟨j - 1, by omega⟩
  rw [List.getElem?_cons_succ, List.getElem?_tail]
section
variable {M0 M M' : Mem} {v : CodV}
theorem CodIs.row0 (h : CodIs M0 M v) : RowAt (fun b => M0.length ≤ b) M v.vs 0 (v.t :: (defRow 0).tail) := by
  have hl : (v.t :: (defRow 0).tail).length = 8 := by simp [defRow0_len]
  refine ⟨some v.a0, v.c0, by rw [hl]; exact h.e0, fun a e => by injection e with e; subst e; exact h.b0.new, v.us, h.b0.rd (by rw [hl, h.l0]), fun j t hj => ?_⟩
  by_cases e : j = 0
  · subst e
    injection hj with hj
    subst hj
    exact ⟨some v.ac, v.cc, h.t0, h.t1, h.bc.rdI, fun a e => by injection e with e; subst e; exact h.bc.new⟩
  · rw [codSet_tab _ e] at hj
    exact (h.row j t e hj).at_
theorem CodIs.set (h : CodIs M0 M v) : SetIs (fun b => M0.length ≤ b) M (some v.a) (codSet v.t) := by
  refine ⟨fun a e => by injection e with e; subst e; exact h.ba.new, v.vs, h.ba.rd (by rw [codSet_len, h.la]), fun k row hk => ?_⟩
  by_cases e : k = 0
  · subst e
    injection hk with hk
    subst hk
    exact h.row0
  · rw [codSet_row _ e] at hk
    exact (h.rows k row e hk).at_
theorem CodIs.pre (h : CodIs M0 M v) (hp : Pre M M') : CodIs M0 M' v := by
  obtain ⟨xs, hx⟩ := h.enc.out
  exact { h with
    enc := ⟨h.enc.pre.trans hp, h.enc.e0, hp _ _ h.enc.cell, ⟨xs, hx.pre hp⟩, h.enc.ne⟩
    w := hp _ _ h.w
    ba := h.ba.pre hp
    b0 := h.b0.pre hp
    bc := h.bc.pre hp
    row := fun j t hj ht => (h.row j t hj ht).pre hp
    rows := fun k row hk hr => (h.rows k row hk hr).pre hp }
theorem CodIs.far (h : CodIs M0 M v) {b : Nat} (hb : v.L0 ≤ b ∧ b ≤ v.wb) : b ≠ v.eb ∧ ∀ x, v.A = some x → x.block ≠ b := by
  have := h.ord
  exact ⟨by omega, fun x e => by have := h.out x e; omega⟩
theorem Buf.ke {a : Addr} {cs : List Value} {eb : Nat} {A : Option Addr} (h : Buf M0 M a cs) (hk : KeE eb A M M') (h1 : a.block ≠ eb) (h2 : ∀ x, A = some x → x.block ≠ a.block) : Buf M0 M' a cs := by
  obtain ⟨k, q1, q2, q3, q4⟩ := h
  exact ⟨k, q1, q2, hk _ _ q3 h1 h2, q4⟩
theorem TabW.ke {Q : Nat → Prop} {vs : List Value} {j : Nat} {t : Tb} {eb : Nat} {A : Option Addr} (h : TabW Q M0 M vs j t) (hk : KeE eb A M M') (hq : ∀ b, Q b → b ≠ eb ∧ ∀ x, A = some x → x.block ≠ b) : TabW Q M0 M' vs j t := by
  obtain ⟨a, c, h1, h2, h3, h4⟩ := h
  exact ⟨a, c, h1, h2, h3.ke hk (hq _ h4).1 (hq _ h4).2, h4⟩
theorem RowW.ke {Q : Nat → Prop} {vs : List Value} {k : Nat} {row : List Tb} {eb : Nat} {A : Option Addr} (h : RowW Q M0 M vs k row) (hk : KeE eb A M M') (hq : ∀ b, Q b → b ≠ eb ∧ ∀ x, A = some x → x.block ≠ b) : RowW Q M0 M' vs k row := by
  obtain ⟨a, c, us, h1, h2, h3, h4, h5⟩ := h
  exact ⟨a, c, us, h1, h2.ke hk (hq _ h4).1 (hq _ h4).2, h3, h4, fun j t hj => (h5 j t hj).ke hk fun b e => hq b e.1⟩
theorem CodIs.put (h : CodIs M0 M v) {A' : Option Addr} {n' c' : Nat} {low' rng' : Int} (hk : KeE v.eb v.A M M') (hE : EncIs M0 M' v.eb A' n' c' low' rng') (hr : 16777216 ≤ rng' ∧ rng' < 4294967296) (hw : Went v.A A' M.length) : CodIs M0 M' { v with A := A', n := n', c := c', low := low', rng := rng' } := by
  have o := h.ord
  have fS : ∀ b, v.S b → b ≠ v.eb ∧ ∀ x, v.A = some x → x.block ≠ b := fun b hb => h.far ⟨hb.1, by have := hb.2.1; omega⟩
  have fw := h.far (b := v.wb) (by omega)
  have fa := h.far (b := v.a.block) (by have := h.ra; omega)
  have f0 := h.far (b := v.a0.block) (by have := h.r0; omega)
  have lw := lt_of_get h.w
  have lc := h.bc.in_
  exact ⟨hE, hr, hk _ _ h.w fw.1 fw.2, h.ord, fun x e => by
      rcases hw x e with ⟨a, e1, e2⟩ | e1
      · have := h.out a e1; show v.wb < x.block; omega
      · show v.wb < x.block; omega, h.ba.ke hk fa.1 fa.2, h.la, h.ra, h.e0, h.b0.ke hk f0.1 f0.2, h.l0, h.r0, h.t0, h.t1, h.bc.ke hk h.rc.1 h.rc.2.2.2.2, ⟨h.rc.1, h.rc.2.1, h.rc.2.2.1, h.rc.2.2.2.1, fun x e => by
      rcases hw x e with ⟨a, e1, e2⟩ | e1
      · have := h.rc.2.2.2.2 a e1; show x.block ≠ v.ac.block; omega
      · show x.block ≠ v.ac.block; omega⟩, fun j t hj ht => (h.row j t hj ht).ke hk fS, fun k row hk' hr => (h.rows k row hk' hr).ke hk fS⟩
end
def tabN : Nat → Tb
  | 0 => defT 0
  | k + 1 => adT (tabN k) k
theorem tabN_ok : ∀ k, k < 7 → (tabN k).1.length = 10 ∧ TabP (tabN k) ∧ (tabN k).2 = (k : Int) ∧ ∀ i, i < 10 → 0 ≤ (tabN k).1.getD i 0 ∧ (tabN k).1.getD i 0 ≤ 32768 := by decide +kernel
theorem tabN_len (k : Nat) : (tabN k).1.length = 10 := by
  cases k with
  | zero => show (defT 0).1.length = 10; rw [defT_len]; rfl
  | succ k => show ((List.range 10).map _).length = 10; simp
section
variable (lo : Nat)
theorem rshape_ok (M : Mem) : Ac P T lo F.zoetroperef04_Shape [.int .i64 0] M fun r => ∃ M', r = (.tuple ⟨[.int .i64 8, .int .i64 10, .int .i64 0]⟩, M') ∧ Pre M M' := by
  refine Ac.of (Evp.of_eq (fun k => zoetroperef04_Shape.entry k ..) ?_)
  refine Evp.ff rfl (Evp.ff rfl ?_)
  refine Evp.ob (rrows_ok lo M) ?_
  rintro _ ⟨a, M1, rfl, p1, hR⟩
  simp only [ret_int, ret_bool, ret_flt, ret_slc, ret_str, ret_ptr, ret_agg, ret_tup, ob_some, bb_true, bb_false, List.getElem?_cons_zero, List.getElem?_cons_succ, List.length_cons, List.length_nil, Nat.reduceAdd, Nat.reduceLT]
  refine Evp.pos (by decide) (Evp.some rfl ?_)
  exact Evp.some (hR.c 0 (by decide)) (Evp.some (hR.v 0 (by decide)) (Evp.some (hR.b 0 (by decide)) (Evp.ret (Run.ret ⟨M1, rfl, p1⟩))))
theorem symbol_ok (M0 M : Mem) (v : CodV) (s : Nat) (hlo : lo ≤ M0.length) (h : CodIs M0 M v) (hs : s < 7) (ht : v.t = tabN s) (hn : v.n ≤ 800) (hN : v.N = (s : Int)) :
    Ac P T lo F.zoetroperef04_Coder_Symbol [.pointer (some ⟨v.wb, 0, none⟩), .int .i64 0, .int .i64 0, .int .i64 s] M fun r => ∃ v' M', r = (.tuple ⟨[.int .i64 s, .int .i64 0]⟩, M') ∧ CodIs M0 M' v' ∧ v'.t = tabN (s + 1) ∧ v'.n ≤ v.n + 2 ∧ v'.N = ((s + 1 : Nat) : Int) ∧ v'.wb = v.wb := by
  obtain ⟨h10, hP, hc, hb⟩ := tabN_ok s hs
  rw [← ht] at h10 hP hc hb
  refine Ac.of (Evp.of_eq (fun k => zoetroperef04_Coder_Symbol.entry k ..) ?_)
  refine Evp.ob (rshape_ok lo M) ?_
  rintro _ ⟨M1, rfl, p1⟩
  simp only [ret_int, ret_bool, ret_flt, ret_slc, ret_str, ret_ptr, ret_agg, ret_tup, ob_some, bb_true, bb_false, List.getElem?_cons_zero, List.getElem?_cons_succ, List.length_cons, List.length_nil, Nat.reduceAdd, Nat.reduceLT]
  have h1 := h.pre p1
  have w0 : ∀ {M1 : Mem} {v : CodV}, CodIs M0 M1 v → (M1.ld ⟨v.wb, 0, none⟩).bind Value.ptr? = some (some ⟨v.eb, 0, none⟩) := fun h => by rw [fx_ld h.w]; rfl
  have w2 : ∀ {M1 : Mem} {v : CodV}, CodIs M0 M1 v → (M1.ld (plus ⟨v.wb, 0, none⟩ 2)).bind Value.slc? = some ⟨some v.a, 32, 32⟩ := fun h => by rw [fx_ldp h.w]; rfl
  have wa : ∀ {M1 : Mem} {v : CodV}, CodIs M0 M1 v → (M1.ld (plus v.a 0)).bind Value.slc? = some ⟨some v.a0, 8, v.c0⟩ := fun h => by
    obtain ⟨a', e, _, hl⟩ := (h.ba.rd (n := 32) (z := 1) (by rw [h.la])).get (i := 0) (by omega)
    injection e with e; rw [e, hl, h.e0]; rfl
  have wt : ∀ {M1 : Mem} {v : CodV}, CodIs M0 M1 v → (M1.ld (plus v.a0 0)).bind Value.slc? = some ⟨some v.ac, v.t.1.length, v.cc⟩ := fun h => by
    obtain ⟨a', e, _, hl⟩ := (h.b0.rd (n := 8) (z := 2) (by rw [h.l0])).get (i := 0) (by omega)
    injection e with e; rw [e, hl, h.t0]; rfl
  have wn : ∀ {M1 : Mem} {v : CodV}, CodIs M0 M1 v → (M1.ld (plus v.a0 1)).bind (Value.int? .i64) = some v.t.2 := fun h => by
    obtain ⟨a', e, _, hl⟩ := (h.b0.rd (n := 8) (z := 2) (by rw [h.l0])).get (i := 1) (by omega)
    injection e with e; rw [e, hl, h.t1]; simp [Value.int?]
  refine Evp.ff rfl (Evp.ff rfl (Evp.ff rfl ?_))
  refine Evp.some (w0 h1) (Evp.tt rfl ?_)
  refine Evp.dec (fun h => absurd h (by omega)) fun _ => Evp.dec (fun h => absurd h (by omega)) fun _ => ?_
  refine Evp.some (w2 h1) (Evp.pos (by dsimp only; omega) (Evp.some rfl (Evp.some (wa h1) (Evp.pos (by dsimp only; omega) (Evp.some rfl (Evp.some (wt h1) (Evp.some (wn h1) (Evp.some (w0 h1) (Evp.tt rfl ?_)))))))))
  refine Evp.ob (rbounds_ok lo M1 (some v.ac) v.cc v.t s h1.bc.rdI (by omega) (by omega)) ?_
  rintro _ ⟨bl, bh, be, rfl, q1, q2⟩
  simp only [ret_int, ret_bool, ret_flt, ret_slc, ret_str, ret_ptr, ret_agg, ret_tup, ob_some, bb_true, bb_false, List.getElem?_cons_zero, List.getElem?_cons_succ, List.length_cons, List.length_nil, Nat.reduceAdd, Nat.reduceLT]
  refine Evp.some (w0 h1) ?_
  refine Evp.ob (rput2_ok lo M0 M1 v.eb v.n v.c v.A v.low v.rng bl bh hlo h1.enc (by omega) h1.rng ⟨q1, q2⟩) ?_
  rintro _ ⟨x, A', n', c', low', rng', M2, rfl, k1, k2, k3, k4, k5, k6, k7⟩
  simp only [ret_int, ret_bool, ret_flt, ret_slc, ret_str, ret_ptr, ret_agg, ret_tup, ob_some, bb_true, bb_false, List.getElem?_cons_zero, List.getElem?_cons_succ, List.length_cons, List.length_nil, Nat.reduceAdd, Nat.reduceLT]
  have h2 := h1.put k5 k1 ⟨k3, k4⟩ k6
  obtain ⟨v2, e2⟩ : ∃ v2 : CodV, v2 = { v with A := A', n := n', c := c', low := low', rng := rng' } := ⟨_, rfl⟩
  rw [← e2] at h2
  have x1 : v.wb = v2.wb := by rw [e2]
  have x2 : v.ac = v2.ac := by rw [e2]
  have x3 : v.cc = v2.cc := by rw [e2]
  have x4 : v.t = v2.t := by rw [e2]
  have x5 : v2.n = n' := by rw [e2]
  have x6 : v.N = v2.N := by rw [e2]
  have x7 : v2.A = A' := by rw [e2]
  rw [x4] at h10 hP hc hb ht
  rw [x6] at hN
  refine Evp.ret ?_
  rw [x1, x2, x3, x4]
  refine Run.cut (Evp.of_eq (fun k => zoetroperef04_Coder_Symbol.p127 k ..) ?_)
  refine Evp.some (b := true) (by rw [fx_ldp h2.w]; rfl) (Evp.tt rfl ?_)
  have l2 := h2.enc.pre.len
  refine Evp.ob (adapt_ok lo M2 (some v2.ac) v2.cc v2.t s (by omega) h2.bc.rdI h10 hP (by omega) (by omega) hb) ?_
  rintro _ ⟨B, cb, M3, rfl, p3, hB⟩
  simp only [ret_int, ret_bool, ret_flt, ret_slc, ret_str, ret_ptr, ret_agg, ret_tup, ob_some, bb_true, bb_false, List.getElem?_cons_zero, List.getElem?_cons_succ, List.length_cons, List.length_nil, Nat.reduceAdd, Nat.reduceLT]
  have h3 := h2.pre p3
  obtain ⟨ab, rfl, hbb⟩ := hB.buf (by decide)
  have l3 := p3.len
  refine Evp.some (w2 h3) (Evp.pos (by dsimp only; omega) (Evp.some rfl (Evp.some (wa h3) (Evp.pos (by dsimp only; omega) (Evp.some rfl ?_)))))
  have iab := hbb.in_
  have nab := hbb.new
  have la0 := h2.b0.in_
  have laa := h2.ba.in_
  have lew := lt_of_get h2.enc.cell
  have lww := lt_of_get h2.w
  have o2 := h2.ord
  have r2 := h2.r0
  have ra2 := h2.ra
  obtain ⟨M4, g1, g2, g3, g4, g5⟩ := h3.b0.st (lo := lo) (i := 0) (vs := [.slice (some ab) 10 cb, .int .i64 (adT v2.t s).2]) h3.enc.pre hlo (by simp [h3.l0])
  refine Evp.some g1 (Evp.ret ?_)
  have hA3 : ∀ y, v2.A = some y → y.block < M2.length := fun y e => by
    obtain ⟨xs, hx⟩ := h2.enc.out
    rcases hx.at_ with ⟨e', _⟩ | ⟨b, e', _, hb'⟩
    · rw [e'] at e; cases e
    · rw [e'] at e; injection e with e; rw [← e]; exact lt_of_get hb'
  have hA3w : ∀ y, v2.A = some y → v2.wb < y.block := h2.out
  have nb : ∀ b, b ≠ v2.a0.block → ∀ k, M3[b]? = some k → M4[b]? = some k := fun b hb k hk => g4 b k hk fun y e => by injection e with e; subst e; exact fun q => hb q.symm
  have kb : ∀ {a : Addr} {cs : List Value}, Buf M0 M3 a cs → a.block ≠ v2.a0.block → Buf M0 M4 a cs := fun h hne => by
    obtain ⟨k, q1, q2, q3, q4⟩ := h
    exact ⟨k, q1, q2, nb _ hne _ q3, q4⟩
  have h4 : CodIs M0 M4 { v2 with us := setL v2.us 0 [.slice (some ab) 10 cb, .int .i64 (adT v2.t s).2], ac := ab, cc := cb, t := adT v2.t s } := by
    obtain ⟨xs, hx⟩ := h3.enc.out
    have hus : ∀ i, 2 ≤ i → (setL v2.us 0 [.slice (some ab) 10 cb, .int .i64 (adT v2.t s).2])[i]? = v2.us[i]? := fun i hi => setL_out _ _ _ _ (.inr (by simpa using hi))
    have u0 := setL_in [Value.slice (some ab) 10 cb, .int .i64 (adT v2.t s).2] v2.us 0 0 (by simp) (by simp [h2.l0])
    have u1 := setL_in [Value.slice (some ab) 10 cb, .int .i64 (adT v2.t s).2] v2.us 0 1 (by simp) (by simp [h2.l0])
    refine ⟨⟨g3, h3.enc.e0, nb _ (by show v2.eb ≠ v2.a0.block; omega) _ h3.enc.cell, ⟨xs, hx.keep g4 fun y y' e e' => by injection e' with e'; subst e'; have := hA3w y e; show v2.a0.block ≠ y.block; omega⟩, h3.enc.ne⟩, h3.rng, nb _ (by show v2.wb ≠ v2.a0.block; omega) _ h3.w, h3.ord, h3.out, kb h3.ba (fun e => r2.2.2 e.symm), h3.la, h3.ra, h3.e0, g2, by rw [setL_len]; exact h3.l0, h3.r0, ?_, ?_, kb (hbb.floor l2) (by show ab.block ≠ v2.a0.block; omega), ⟨by show ab.block ≠ v2.eb; omega, by show ab.block ≠ v2.wb; omega, by show ab.block ≠ v2.a.block; omega, by show ab.block ≠ v2.a0.block; omega, fun y e => by have := hA3 y e; show y.block ≠ ab.block; omega⟩, fun j t hj ht' => ?_, fun k row hk hr => ?_⟩
    · show (setL v2.us 0 [.slice (some ab) 10 cb, .int .i64 (adT v2.t s).2])[0]? = some (.slice (some ab) (adT v2.t s).1.length cb)
      rw [Nat.zero_add] at u0
      rw [u0, show (adT v2.t s).1.length = 10 from by simp [adT]]; rfl
    · show (setL v2.us 0 [.slice (some ab) 10 cb, .int .i64 (adT v2.t s).2])[1]? = some (.int .i64 (adT v2.t s).2)
      rw [Nat.zero_add] at u1
      rw [u1]; rfl
    · have hh := h3.row j t hj ht'
      have hh4 := hh.keep (M' := M4) g4 fun y e q => by injection e with e; subst e; exact q.2.2.2 rfl
      refine hh4.cells (hus _ (by omega)) (hus _ (by omega))
    · have hh := h3.rows k row hk hr
      exact hh.keep (M' := M4) g4 fun y e q => by injection e with e; subst e; exact q.2.2.2 rfl
  obtain ⟨v4, e4⟩ : ∃ v4 : CodV, v4 = { v2 with us := setL v2.us 0 [.slice (some ab) 10 cb, .int .i64 (adT v2.t s).2], ac := ab, cc := cb, t := adT v2.t s } := ⟨_, rfl⟩
  rw [← e4] at h4
  have ew : v4.wb = v2.wb := by rw [e4]
  have en : v4.n = n' := by rw [e4]; exact x5
  have et : v4.t = adT v2.t s := by rw [e4]
  have eN : v4.N = v2.N := by rw [e4]
  rw [← ew]
  refine Run.cut (Evp.of_eq (fun k => zoetroperef04_Coder_Symbol.p255 k ..) ?_)
  refine Evp.some (b := v4.N) (by rw [fx_ldp h4.w]; simp [Value.int?]) ?_
  have o4 := h4.ord
  have hlw : lo ≤ v4.wb := by omega
  refine Evp.some (fx_st h4.w hlw (by simp)) (Evp.ret (Run.ret ⟨{ v4 with N := IntKind.i64.wrap (v4.N + 1) }, _, rfl, ?_, ?_, ?_, ?_, ?_⟩))
  · have kk : ∀ b, b ≠ v4.wb → ∀ k, M4[b]? = some k → (M4.set v4.wb ⟨.fx, [.pointer (some ⟨v4.eb, 0, none⟩), .pointer none, .slice (some v4.a) 32 32, .bool true, .int .i64 (IntKind.i64.wrap (v4.N + 1))]⟩ : Mem)[b]? = some k := fun b hb k hk => by rw [List.getElem?_set_ne (Ne.symm hb)]; exact hk
    have kE : Keep (some ⟨v4.wb, 0, none⟩) M4 (M4.set v4.wb ⟨.fx, [.pointer (some ⟨v4.eb, 0, none⟩), .pointer none, .slice (some v4.a) 32 32, .bool true, .int .i64 (IntKind.i64.wrap (v4.N + 1))]⟩) := fun b k hk hne => kk b (fun e => hne _ rfl e.symm) k hk
    obtain ⟨xs, hx⟩ := h4.enc.out
    have r4 := h4.r0
    have ra4 := h4.ra
    have hS : ∀ b, v4.S b → b ≠ v4.wb := fun b q => by have := q.2.1; omega
    show CodIs M0 (M4.set v4.wb ⟨.fx, [.pointer (some ⟨v4.eb, 0, none⟩), .pointer none, .slice (some v4.a) 32 32, .bool true, .int .i64 (IntKind.i64.wrap (v4.N + 1))]⟩) { v4 with N := IntKind.i64.wrap (v4.N + 1) }
    exact ⟨⟨h4.enc.pre.set (by omega) _, h4.enc.e0, kk _ (by show v4.eb ≠ v4.wb; omega) _ h4.enc.cell, ⟨xs, hx.keep kE fun y y' e e' => by injection e' with e'; subst e'; have := h4.out y e; show v4.wb ≠ y.block; omega⟩, h4.enc.ne⟩, h4.rng, set_self (lt_of_get h4.w), h4.ord, h4.out,
      h4.ba.keep kE fun y e => by injection e with e; subst e; show v4.wb ≠ v4.a.block; omega, h4.la, h4.ra, h4.e0, h4.b0.keep kE fun y e => by injection e with e; subst e; show v4.wb ≠ v4.a0.block; omega, h4.l0, h4.r0, h4.t0, h4.t1, h4.bc.keep kE fun y e => by injection e with e; subst e; exact fun q => h4.rc.2.1 q.symm, h4.rc,
      fun j t hj ht' => (h4.row j t hj ht').keep kE fun y e q => by injection e with e; subst e; exact hS _ q rfl, fun k row hk hr => (h4.rows k row hk hr).keep kE fun y e q => by injection e with e; subst e; exact hS _ q rfl⟩
  · show v4.t = tabN (s + 1)
    rw [et, ht]; rfl
  · show v4.n ≤ v.n + 2
    rw [en]; exact k2
  · show IntKind.i64.wrap (v4.N + 1) = _
    rw [eN, hN, w64 (by omega)]; omega
  · rfl
end
end Go.Zt
