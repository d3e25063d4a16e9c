/- What the law ChainBrightness needs of the text Fs. -/
import Derived.Test.YtbbfdebfhgdciaaPFr
set_option linter.unusedVariables false
set_option linter.unusedSimpArgs false
set_option maxRecDepth 100000
set_option maxHeartbeats 4000000
namespace Go.Zt
theorem wf_u0 : u0.wf := ⟨by decide, by decide, by decide, by decide, by decide, by decide⟩
def FarP (l : Nat) (M : Mem) (A : Option Addr) (xs : List Int) : Prop := RdI M .u8 A xs ∧ ∀ a, A = some a → l ≤ a.block
theorem FarP.pre {l : Nat} {M M' : Mem} {A : Option Addr} {xs : List Int} (h : FarP l M A xs) (hp : Pre M M') : FarP l M' A xs := ⟨h.1.pre hp, h.2⟩
theorem FarP.keep {l X : Nat} {M M' : Mem} {A : Option Addr} {xs : List Int} (h : FarP l M A xs) (hX : X < l) (hk : KeepB X M M') : FarP l M' A xs :=
  ⟨Rd.keepB h.1 (fun a ha => by have := h.2 a ha; omega) hk, h.2⟩
theorem FarP.buf {l : Nat} {M0 M : Mem} {a : Addr} {xs : List Int} (h : Buf M0 M a (xs.map (Value.int .u8))) (hl : l ≤ M0.length) : FarP l M (some a) xs :=
  ⟨h.rdI, fun z e => by injection e with e; subst e; exact Nat.le_trans hl h.new⟩
structure Lad (s : SideV) (M0 : Mem) (l : Nat → Nat) : Prop where
  z : l 0 = M0.length
  mono : ∀ i j, i ≤ j → l i ≤ l j
  in_ : ∀ i, i < 14 → InAt s (l i) (l (i + 1)) i
structure BrSt (s : SideV) (M0 : Mem) (l : Nat → Nat) (q1 : List Bool) (w1 : List Un) (q2 : List Bool) (w2 : List Un) (M : Mem) : Prop where
  pre : Pre M0 M
  len : l 14 ≤ M.length
  rd : ∀ i, i < 14 → RdAt (cur s q1 w1 q2 w2) M i
  ok : CurOk s q1 w1 q2 w2
  o1 : OwnB M0 M s.m1.AQ s.m1.qs.length (q1.map Value.bool)
  v1 : OwnB M0 M s.u1.A s.u1.us.length (cellsU w1)
  o2 : OwnB M0 M s.m2.AQ s.m2.qs.length (q2.map Value.bool)
  v2 : OwnB M0 M s.u2.A s.u2.us.length (cellsU w2)
section
variable {s : SideV} {M0 M M' : Mem} {l : Nat → Nat} {q1 q2 : List Bool} {w1 w2 : List Un}
theorem BrSt.go (h : BrSt s M0 l q1 w1 q2 w2 M) (hp : Pre M M') : BrSt s M0 l q1 w1 q2 w2 M' :=
  ⟨h.pre.trans hp, Nat.le_trans h.len hp.len, fun i hi => (h.rd i hi).pre hp, h.ok, h.o1.pre hp, h.v1.pre hp, h.o2.pre hp, h.v2.pre hp⟩
theorem BrSt.set_q1 (h : BrSt s M0 l q1 w1 q2 w2 M) (hL : Lad s M0 l) (h0 : s.m1.qs.length ≠ 0) {a : Addr} (hA : s.m1.AQ = some a) {ys : List Bool} (hk : KeepB a.block M M') (hp : Pre M0 M') (hl : M.length ≤ M'.length) (hb : Buf M0 M' a (ys.map Value.bool)) (hy : ys.length = s.m1.qs.length) : BrSt s M0 l ys w1 q2 w2 M' := by
  have hin : In s.m1.AQ s.m1.qs.length (l 6) (l 7) := hL.in_ 6 (by omega)
  have hx := hin h0 a hA
  have hX : ∀ i, i ≠ 6 → a.block < l i ∨ l (i + 1) ≤ a.block := fun i hi => Lad.apart hL.mono hi hx
  have K : ∀ i, i < 14 → i ≠ 6 → RdAt (cur s q1 w1 q2 w2) M' i := fun i hi hne => RdAt.keep (hX i hne) hk i (h.rd i hi) (InAt.cur h.ok i (hL.in_ i hi))
  have ok : CurOk s ys w1 q2 w2 := ⟨hy, h.ok.ew1, h.ok.eq2, h.ok.ew2, h.ok.f1, h.ok.f2⟩
  refine ⟨hp, Nat.le_trans h.len hl, fun i hi => ?_, ok, .inr ⟨a, hA, hb⟩, h.v1.keepI (hL.in_ 7 (by omega) : In s.u1.A s.u1.us.length _ _) (hX 7 (by omega)) hk, h.o2.keepI (hL.in_ 10 (by omega) : In s.m2.AQ s.m2.qs.length _ _) (hX 10 (by omega)) hk, h.v2.keepI (hL.in_ 11 (by omega) : In s.u2.A s.u2.us.length _ _) (hX 11 (by omega)) hk⟩
  by_cases e : i = 6
  · subst e
    show Rd M' s.m1.AQ ys.length 1 (ys.map Value.bool)
    rw [hA]
    exact hb.rd (by simp)
  · match i, hi, e with
    | 0, _, _ => exact K 0 (by omega) (by omega)
    | 1, _, _ => exact K 1 (by omega) (by omega)
    | 2, _, _ => exact K 2 (by omega) (by omega)
    | 3, _, _ => exact K 3 (by omega) (by omega)
    | 4, _, _ => exact K 4 (by omega) (by omega)
    | 5, _, _ => exact K 5 (by omega) (by omega)
    | 7, _, _ => exact K 7 (by omega) (by omega)
    | 8, _, _ => exact K 8 (by omega) (by omega)
    | 9, _, _ => exact K 9 (by omega) (by omega)
    | 10, _, _ => exact K 10 (by omega) (by omega)
    | 11, _, _ => exact K 11 (by omega) (by omega)
    | 12, _, _ => exact K 12 (by omega) (by omega)
    | 13, _, _ => exact K 13 (by omega) (by omega)
    | 6, _, e => exact absurd rfl e
    | i + 14, hi, _ => omega
theorem BrSt.set_w1 (h : BrSt s M0 l q1 w1 q2 w2 M) (hL : Lad s M0 l) (h0 : s.u1.us.length ≠ 0) {a : Addr} (hA : s.u1.A = some a) {ys : List Un} (hk : KeepB a.block M M') (hp : Pre M0 M') (hl : M.length ≤ M'.length) (hb : Buf M0 M' a (cellsU ys)) (hy : ys.length = s.u1.us.length) (hz : ∀ u ∈ ys, u.wf) : BrSt s M0 l q1 ys q2 w2 M' := by
  have hin : In s.u1.A s.u1.us.length (l 7) (l 8) := hL.in_ 7 (by omega)
  have hx := hin h0 a hA
  have hX : ∀ i, i ≠ 7 → a.block < l i ∨ l (i + 1) ≤ a.block := fun i hi => Lad.apart hL.mono hi hx
  have K : ∀ i, i < 14 → i ≠ 7 → RdAt (cur s q1 w1 q2 w2) M' i := fun i hi hne => RdAt.keep (hX i hne) hk i (h.rd i hi) (InAt.cur h.ok i (hL.in_ i hi))
  have ok : CurOk s q1 ys q2 w2 := ⟨h.ok.eq1, hy, h.ok.eq2, h.ok.ew2, hz, h.ok.f2⟩
  refine ⟨hp, Nat.le_trans h.len hl, fun i hi => ?_, ok, h.o1.keepI (hL.in_ 6 (by omega) : In s.m1.AQ s.m1.qs.length _ _) (hX 6 (by omega)) hk, .inr ⟨a, hA, hb⟩, h.o2.keepI (hL.in_ 10 (by omega) : In s.m2.AQ s.m2.qs.length _ _) (hX 10 (by omega)) hk, h.v2.keepI (hL.in_ 11 (by omega) : In s.u2.A s.u2.us.length _ _) (hX 11 (by omega)) hk⟩
  by_cases e : i = 7
  · subst e
    show Rd M' s.u1.A ys.length 7 (cellsU ys)
    rw [hA]
    exact hb.rd (by show _ = ys.length * 7; rw [cellsU_len])
  · match i, hi, e with
    | 0, _, _ => exact K 0 (by omega) (by omega)
    | 1, _, _ => exact K 1 (by omega) (by omega)
    | 2, _, _ => exact K 2 (by omega) (by omega)
    | 3, _, _ => exact K 3 (by omega) (by omega)
    | 4, _, _ => exact K 4 (by omega) (by omega)
    | 5, _, _ => exact K 5 (by omega) (by omega)
    | 6, _, _ => exact K 6 (by omega) (by omega)
    | 8, _, _ => exact K 8 (by omega) (by omega)
    | 9, _, _ => exact K 9 (by omega) (by omega)
    | 10, _, _ => exact K 10 (by omega) (by omega)
    | 11, _, _ => exact K 11 (by omega) (by omega)
    | 12, _, _ => exact K 12 (by omega) (by omega)
    | 13, _, _ => exact K 13 (by omega) (by omega)
    | 7, _, e => exact absurd rfl e
    | i + 14, hi, _ => omega
theorem BrSt.set_q2 (h : BrSt s M0 l q1 w1 q2 w2 M) (hL : Lad s M0 l) (h0 : s.m2.qs.length ≠ 0) {a : Addr} (hA : s.m2.AQ = some a) {ys : List Bool} (hk : KeepB a.block M M') (hp : Pre M0 M') (hl : M.length ≤ M'.length) (hb : Buf M0 M' a (ys.map Value.bool)) (hy : ys.length = s.m2.qs.length) : BrSt s M0 l q1 w1 ys w2 M' := by
  have hin : In s.m2.AQ s.m2.qs.length (l 10) (l 11) := hL.in_ 10 (by omega)
  have hx := hin h0 a hA
  have hX : ∀ i, i ≠ 10 → a.block < l i ∨ l (i + 1) ≤ a.block := fun i hi => Lad.apart hL.mono hi hx
  have K : ∀ i, i < 14 → i ≠ 10 → RdAt (cur s q1 w1 q2 w2) M' i := fun i hi hne => RdAt.keep (hX i hne) hk i (h.rd i hi) (InAt.cur h.ok i (hL.in_ i hi))
  have ok : CurOk s q1 w1 ys w2 := ⟨h.ok.eq1, h.ok.ew1, hy, h.ok.ew2, h.ok.f1, h.ok.f2⟩
  refine ⟨hp, Nat.le_trans h.len hl, fun i hi => ?_, ok, h.o1.keepI (hL.in_ 6 (by omega) : In s.m1.AQ s.m1.qs.length _ _) (hX 6 (by omega)) hk, h.v1.keepI (hL.in_ 7 (by omega) : In s.u1.A s.u1.us.length _ _) (hX 7 (by omega)) hk, .inr ⟨a, hA, hb⟩, h.v2.keepI (hL.in_ 11 (by omega) : In s.u2.A s.u2.us.length _ _) (hX 11 (by omega)) hk⟩
  by_cases e : i = 10
  · subst e
    show Rd M' s.m2.AQ ys.length 1 (ys.map Value.bool)
    rw [hA]
    exact hb.rd (by simp)
  · match i, hi, e with
    | 0, _, _ => exact K 0 (by omega) (by omega)
    | 1, _, _ => exact K 1 (by omega) (by omega)
    | 2, _, _ => exact K 2 (by omega) (by omega)
    | 3, _, _ => exact K 3 (by omega) (by omega)
    | 4, _, _ => exact K 4 (by omega) (by omega)
    | 5, _, _ => exact K 5 (by omega) (by omega)
    | 6, _, _ => exact K 6 (by omega) (by omega)
    | 7, _, _ => exact K 7 (by omega) (by omega)
    | 8, _, _ => exact K 8 (by omega) (by omega)
    | 9, _, _ => exact K 9 (by omega) (by omega)
    | 11, _, _ => exact K 11 (by omega) (by omega)
    | 12, _, _ => exact K 12 (by omega) (by omega)
    | 13, _, _ => exact K 13 (by omega) (by omega)
    | 10, _, e => exact absurd rfl e
    | i + 14, hi, _ => omega
theorem BrSt.set_w2 (h : BrSt s M0 l q1 w1 q2 w2 M) (hL : Lad s M0 l) (h0 : s.u2.us.length ≠ 0) {a : Addr} (hA : s.u2.A = some a) {ys : List Un} (hk : KeepB a.block M M') (hp : Pre M0 M') (hl : M.length ≤ M'.length) (hb : Buf M0 M' a (cellsU ys)) (hy : ys.length = s.u2.us.length) (hz : ∀ u ∈ ys, u.wf) : BrSt s M0 l q1 w1 q2 ys M' := by
  have hin : In s.u2.A s.u2.us.length (l 11) (l 12) := hL.in_ 11 (by omega)
  have hx := hin h0 a hA
  have hX : ∀ i, i ≠ 11 → a.block < l i ∨ l (i + 1) ≤ a.block := fun i hi => Lad.apart hL.mono hi hx
  have K : ∀ i, i < 14 → i ≠ 11 → RdAt (cur s q1 w1 q2 w2) M' i := fun i hi hne => RdAt.keep (hX i hne) hk i (h.rd i hi) (InAt.cur h.ok i (hL.in_ i hi))
  have ok : CurOk s q1 w1 q2 ys := ⟨h.ok.eq1, h.ok.ew1, h.ok.eq2, hy, h.ok.f1, hz⟩
  refine ⟨hp, Nat.le_trans h.len hl, fun i hi => ?_, ok, h.o1.keepI (hL.in_ 6 (by omega) : In s.m1.AQ s.m1.qs.length _ _) (hX 6 (by omega)) hk, h.v1.keepI (hL.in_ 7 (by omega) : In s.u1.A s.u1.us.length _ _) (hX 7 (by omega)) hk, h.o2.keepI (hL.in_ 10 (by omega) : In s.m2.AQ s.m2.qs.length _ _) (hX 10 (by omega)) hk, .inr ⟨a, hA, hb⟩⟩
  by_cases e : i = 11
  · subst e
    show Rd M' s.u2.A ys.length 7 (cellsU ys)
    rw [hA]
    exact hb.rd (by show _ = ys.length * 7; rw [cellsU_len])
  · match i, hi, e with
    | 0, _, _ => exact K 0 (by omega) (by omega)
    | 1, _, _ => exact K 1 (by omega) (by omega)
    | 2, _, _ => exact K 2 (by omega) (by omega)
    | 3, _, _ => exact K 3 (by omega) (by omega)
    | 4, _, _ => exact K 4 (by omega) (by omega)
    | 5, _, _ => exact K 5 (by omega) (by omega)
    | 6, _, _ => exact K 6 (by omega) (by omega)
    | 7, _, _ => exact K 7 (by omega) (by omega)
    | 8, _, _ => exact K 8 (by omega) (by omega)
    | 9, _, _ => exact K 9 (by omega) (by omega)
    | 10, _, _ => exact K 10 (by omega) (by omega)
    | 12, _, _ => exact K 12 (by omega) (by omega)
    | 13, _, _ => exact K 13 (by omega) (by omega)
    | 11, _, e => exact absurd rfl e
    | i + 14, hi, _ => omega
end
section
variable (lo : Nat) (f O : Fr3) (hd : Hd) (s : SideV) (A1 : Option Addr) (c3 : Nat) (ms : List Int)
theorem br_side1 (M0 : Mem) (l : Nat → Nat) (hL : Lad s M0 l) (hlo : lo ≤ M0.length) (q1 q2 : List Bool) (w1 w2 : List Un) (X' : List Value) (M : Mem) (h : BrSt s M0 l q1 w1 q2 w2 M) (n1 : s.m1.qs.length ≤ 140737488351232) (n2 : s.u1.us.length ≤ 140737488351232) {Q : Value × Mem → Prop}
    (hnext : ∀ (M' : Mem) (ys : List Bool) (us : List Un), BrSt s M0 l ys us q2 w2 M' → (∀ u ∈ us, u = u0) → (∀ A xs, FarP (l 14) M A xs → FarP (l 14) M' A xs) → Run P T lo F.zoetropelaw25_ChainBrightness (zoetropelaw25_ChainBrightness.c2036 A1 ms.length c3 (IntKind.i64.wrap ((1 : Int) + 1)) f.p0.w f.p0.h f.p0.A f.p0.xs.length f.p0.c f.p1.w f.p1.h f.p1.A f.p1.xs.length f.p1.c f.p2.w f.p2.h f.p2.A f.p2.xs.length f.p2.c hd.h0 hd.h1 hd.h2 hd.h3 hd.h4 hd.h5 hd.h6 hd.h7 hd.h8 hd.h9 hd.h10 hd.h11 hd.h12 hd.h13 hd.h14 hd.h15 hd.h16 hd.h17 hd.h18 hd.h19 hd.h20 hd.h21 hd.h22 hd.cdef hd.damp hd.h25 hd.A hd.n hd.c hd.h27 hd.h28 hd.h29 s.m0.w s.m0.h s.m0.AT s.m0.tx.length s.m0.ct s.m0.AI s.m0.ids.length s.m0.ci s.m0.AQ s.m0.qs.length s.m0.cq s.m1.w s.m1.h s.m1.AT s.m1.tx.length s.m1.ct s.m1.AI s.m1.ids.length s.m1.ci s.m1.AQ s.m1.qs.length s.m1.cq s.m2.w s.m2.h s.m2.AT s.m2.tx.length s.m2.ct s.m2.AI s.m2.ids.length s.m2.ci s.m2.AQ s.m2.qs.length s.m2.cq s.Q s.qs.length s.qc s.V s.ws.length s.vc s.u0.A s.u0.us.length s.u0.c s.u1.A s.u1.us.length s.u1.c s.u2.A s.u2.us.length s.u2.c O.p0.w O.p0.h O.p0.A O.p0.xs.length O.p0.c O.p1.w O.p1.h O.p1.A O.p1.xs.length O.p1.c O.p2.w O.p2.h O.p2.A O.p2.xs.length O.p2.c X' M') Q) :
    Run P T lo F.zoetropelaw25_ChainBrightness (zoetropelaw25_ChainBrightness.c2085492 A1 ms.length c3 (1 : Int) 0 f.p0.w f.p0.h f.p0.A f.p0.xs.length f.p0.c f.p1.w f.p1.h f.p1.A f.p1.xs.length f.p1.c f.p2.w f.p2.h f.p2.A f.p2.xs.length f.p2.c hd.h0 hd.h1 hd.h2 hd.h3 hd.h4 hd.h5 hd.h6 hd.h7 hd.h8 hd.h9 hd.h10 hd.h11 hd.h12 hd.h13 hd.h14 hd.h15 hd.h16 hd.h17 hd.h18 hd.h19 hd.h20 hd.h21 hd.h22 hd.cdef hd.damp hd.h25 hd.A hd.n hd.c hd.h27 hd.h28 hd.h29 s.m0.w s.m0.h s.m0.AT s.m0.tx.length s.m0.ct s.m0.AI s.m0.ids.length s.m0.ci s.m0.AQ s.m0.qs.length s.m0.cq s.m1.w s.m1.h s.m1.AT s.m1.tx.length s.m1.ct s.m1.AI s.m1.ids.length s.m1.ci s.m1.AQ s.m1.qs.length s.m1.cq s.m2.w s.m2.h s.m2.AT s.m2.tx.length s.m2.ct s.m2.AI s.m2.ids.length s.m2.ci s.m2.AQ s.m2.qs.length s.m2.cq s.Q s.qs.length s.qc s.V s.ws.length s.vc s.u0.A s.u0.us.length s.u0.c s.u1.A s.u1.us.length s.u1.c s.u2.A s.u2.us.length s.u2.c O.p0.w O.p0.h O.p0.A O.p0.xs.length O.p0.c O.p1.w O.p1.h O.p1.A O.p1.xs.length O.p1.c O.p2.w O.p2.h O.p2.A O.p2.xs.length O.p2.c X' M) Q := by
  have units : ∀ (M1 : Mem) (ys : List Bool), BrSt s M0 l ys w1 q2 w2 M1 → (∀ A xs, FarP (l 14) M A xs → FarP (l 14) M1 A xs) → Run P T lo F.zoetropelaw25_ChainBrightness (zoetropelaw25_ChainBrightness.c2085500 A1 ms.length c3 (1 : Int) 0 f.p0.w f.p0.h f.p0.A f.p0.xs.length f.p0.c f.p1.w f.p1.h f.p1.A f.p1.xs.length f.p1.c f.p2.w f.p2.h f.p2.A f.p2.xs.length f.p2.c hd.h0 hd.h1 hd.h2 hd.h3 hd.h4 hd.h5 hd.h6 hd.h7 hd.h8 hd.h9 hd.h10 hd.h11 hd.h12 hd.h13 hd.h14 hd.h15 hd.h16 hd.h17 hd.h18 hd.h19 hd.h20 hd.h21 hd.h22 hd.cdef hd.damp hd.h25 hd.A hd.n hd.c hd.h27 hd.h28 hd.h29 s.m0.w s.m0.h s.m0.AT s.m0.tx.length s.m0.ct s.m0.AI s.m0.ids.length s.m0.ci s.m0.AQ s.m0.qs.length s.m0.cq s.m1.w s.m1.h s.m1.AT s.m1.tx.length s.m1.ct s.m1.AI s.m1.ids.length s.m1.ci s.m1.AQ s.m1.qs.length s.m1.cq s.m2.w s.m2.h s.m2.AT s.m2.tx.length s.m2.ct s.m2.AI s.m2.ids.length s.m2.ci s.m2.AQ s.m2.qs.length s.m2.cq s.Q s.qs.length s.qc s.V s.ws.length s.vc s.u0.A s.u0.us.length s.u0.c s.u1.A s.u1.us.length s.u1.c s.u2.A s.u2.us.length s.u2.c O.p0.w O.p0.h O.p0.A O.p0.xs.length O.p0.c O.p1.w O.p1.h O.p1.A O.p1.xs.length O.p1.c O.p2.w O.p2.h O.p2.A O.p2.xs.length O.p2.c X' M1) Q := fun M1 ys h1 hf1 => by
    by_cases h0 : s.u1.us.length = 0
    · refine Run.cut (Evp.of_eq (fun k => zoetropelaw25_ChainBrightness.p2085500 k ..) ?_)
      refine Evp.pos (by decide) (Evp.some rfl ?_)
      refine Evp.dec (fun h => absurd h (by show ¬ ((0 : Int) < (s.u1.us.length : Int)); omega)) fun _ => Evp.ret (hnext M1 ys w1 h1 (fun u hu => ?_) hf1)
      have e := h1.ok.ew1
      rw [h0] at e
      rw [List.eq_nil_of_length_eq_zero e] at hu
      cases hu
    · rcases h1.v1 with e | ⟨a, hA, hb⟩
      · exact absurd e h0
      have hin : In s.u1.A s.u1.us.length (l 7) (l (7 + 1)) := hL.in_ 7 (by omega)
      have hx := hin h0 a hA
      have h14 := hL.mono (7 + 1) 14 (by omega)
      refine br_units1 lo f O hd s A1 c3 ms M0 M1 hlo a hA X' (fun M2 us hk hp hl hb2 hy hz => hnext M2 ys us (h1.set_w1 hL h0 hA hk hp hl hb2 hy fun u hu => by rw [hz u hu]; exact wf_u0) hz fun A xs hf => (hf1 A xs hf).keep (by omega) hk) s.u1.us.length 0 M1 w1 rfl (by omega) n2 (KeepB.refl _ _) h1.pre (Nat.le_refl _) hb h1.ok.ew1 fun j u hj _ => absurd hj (by omega)
  by_cases h0 : s.m1.qs.length = 0
  · refine Run.cut (Evp.of_eq (fun k => zoetropelaw25_ChainBrightness.p2085492 k ..) ?_)
    refine Evp.pos (by decide) (Evp.some rfl ?_)
    exact Evp.dec (fun h => absurd h (by show ¬ ((0 : Int) < (s.m1.qs.length : Int)); omega)) fun _ => Evp.ret (units M q1 h fun A xs hf => hf)
  · rcases h.o1 with e | ⟨a, hA, hb⟩
    · exact absurd e h0
    have hin : In s.m1.AQ s.m1.qs.length (l 6) (l (6 + 1)) := hL.in_ 6 (by omega)
    have hx := hin h0 a hA
    have h14 := hL.mono (6 + 1) 14 (by omega)
    exact br_quiet1 lo f O hd s A1 c3 ms M0 M hlo a hA X' (fun M2 ys hk hp hl hb2 hy => units M2 ys (h.set_q1 hL h0 hA hk hp hl hb2 hy) fun A xs hf => hf.keep (by omega) hk) s.m1.qs.length 0 M q1 rfl (by omega) n1 (KeepB.refl _ _) h.pre (Nat.le_refl _) hb h.ok.eq1
theorem br_step1 (M0 : Mem) (l : Nat → Nat) (hL : Lad s M0 l) (hlo : lo ≤ M0.length) (q1 q2 : List Bool) (w1 w2 : List Un) (X : Fr3) (M : Mem) (h : BrSt s M0 l q1 w1 q2 w2 M) (n1 : s.m1.qs.length ≤ 140737488351232) (n2 : s.u1.us.length ≤ 140737488351232) (hf : FrIn M0 f) (hw : WholeF f) (hm : RdI M0 .u8 A1 ms) (hmn : ms.length ≤ 140737488351232) {Q : Value × Mem → Prop}
    (hnext : ∀ (M' : Mem) (ys : List Bool) (us : List Un) (a : Addr) (c : Nat) (zs : List Int), BrSt s M0 l ys us q2 w2 M' → (∀ u ∈ us, u = u0) → (∀ A xs, FarP (l 14) M A xs → FarP (l 14) M' A xs) → FarP (l 14) M' (some a) zs → Bytes zs → zs.length = f.p1.xs.length → zs.length ≤ c → Run P T lo F.zoetropelaw25_ChainBrightness (zoetropelaw25_ChainBrightness.c2036 A1 ms.length c3 (IntKind.i64.wrap ((1 : Int) + 1)) f.p0.w f.p0.h f.p0.A f.p0.xs.length f.p0.c f.p1.w f.p1.h f.p1.A f.p1.xs.length f.p1.c f.p2.w f.p2.h f.p2.A f.p2.xs.length f.p2.c hd.h0 hd.h1 hd.h2 hd.h3 hd.h4 hd.h5 hd.h6 hd.h7 hd.h8 hd.h9 hd.h10 hd.h11 hd.h12 hd.h13 hd.h14 hd.h15 hd.h16 hd.h17 hd.h18 hd.h19 hd.h20 hd.h21 hd.h22 hd.cdef hd.damp hd.h25 hd.A hd.n hd.c hd.h27 hd.h28 hd.h29 s.m0.w s.m0.h s.m0.AT s.m0.tx.length s.m0.ct s.m0.AI s.m0.ids.length s.m0.ci s.m0.AQ s.m0.qs.length s.m0.cq s.m1.w s.m1.h s.m1.AT s.m1.tx.length s.m1.ct s.m1.AI s.m1.ids.length s.m1.ci s.m1.AQ s.m1.qs.length s.m1.cq s.m2.w s.m2.h s.m2.AT s.m2.tx.length s.m2.ct s.m2.AI s.m2.ids.length s.m2.ci s.m2.AQ s.m2.qs.length s.m2.cq s.Q s.qs.length s.qc s.V s.ws.length s.vc s.u0.A s.u0.us.length s.u0.c s.u1.A s.u1.us.length s.u1.c s.u2.A s.u2.us.length s.u2.c O.p0.w O.p0.h O.p0.A O.p0.xs.length O.p0.c O.p1.w O.p1.h O.p1.A O.p1.xs.length O.p1.c O.p2.w O.p2.h O.p2.A O.p2.xs.length O.p2.c (X.set 1 ⟨f.p1.w, f.p1.h, some a, c, zs⟩).cells M') Q) :
    Run P T lo F.zoetropelaw25_ChainBrightness (zoetropelaw25_ChainBrightness.c2036 A1 ms.length c3 (1 : Int) f.p0.w f.p0.h f.p0.A f.p0.xs.length f.p0.c f.p1.w f.p1.h f.p1.A f.p1.xs.length f.p1.c f.p2.w f.p2.h f.p2.A f.p2.xs.length f.p2.c hd.h0 hd.h1 hd.h2 hd.h3 hd.h4 hd.h5 hd.h6 hd.h7 hd.h8 hd.h9 hd.h10 hd.h11 hd.h12 hd.h13 hd.h14 hd.h15 hd.h16 hd.h17 hd.h18 hd.h19 hd.h20 hd.h21 hd.h22 hd.cdef hd.damp hd.h25 hd.A hd.n hd.c hd.h27 hd.h28 hd.h29 s.m0.w s.m0.h s.m0.AT s.m0.tx.length s.m0.ct s.m0.AI s.m0.ids.length s.m0.ci s.m0.AQ s.m0.qs.length s.m0.cq s.m1.w s.m1.h s.m1.AT s.m1.tx.length s.m1.ct s.m1.AI s.m1.ids.length s.m1.ci s.m1.AQ s.m1.qs.length s.m1.cq s.m2.w s.m2.h s.m2.AT s.m2.tx.length s.m2.ct s.m2.AI s.m2.ids.length s.m2.ci s.m2.AQ s.m2.qs.length s.m2.cq s.Q s.qs.length s.qc s.V s.ws.length s.vc s.u0.A s.u0.us.length s.u0.c s.u1.A s.u1.us.length s.u1.c s.u2.A s.u2.us.length s.u2.c O.p0.w O.p0.h O.p0.A O.p0.xs.length O.p0.c O.p1.w O.p1.h O.p1.A O.p1.xs.length O.p1.c O.p2.w O.p2.h O.p2.A O.p2.xs.length O.p2.c X.cells M) Q := by
  have hf' := hf.pre h.pre
  obtain ⟨z0, z1⟩ := whole_pos hw 1 (by omega)
  have z0 : f.p1.xs.length ≠ 0 := z0
  have z1 : f.p1.xs.length ≤ 262144 := z1
  refine Run.cut (Evp.of_eq (fun k => zoetropelaw25_ChainBrightness.p2036 k ..) ?_)
  refine Evp.tt rfl (Evp.pos (by decide) (Evp.some rfl (Evp.pos (by decide) (Evp.some rfl (Evp.pos (by decide) (Evp.some rfl ?_))))))
  refine Evp.ob (copyBytes_ok _ f.p1.A f.p1.c f.p1.xs M (hf'.rd 1 (by omega)) (Nat.le_trans z1 (by decide)) (Nat.le_refl _)) ?_
  rintro _ ⟨A, c, M1, rfl, p1, hc, g⟩
  obtain ⟨a, rfl, hb⟩ := g.buf z0
  simp only [ret_int, ret_bool, ret_flt, ret_slc, ret_str, ret_ptr, ret_agg, ret_tup, ob_some, bb_true, bb_false, List.getElem?_cons_zero, List.getElem?_cons_succ, List.length_cons, List.length_nil, Nat.reduceAdd, Nat.reduceLT]
  refine Evp.ret ?_
  have lm := Nat.le_trans hlo h.pre.len
  refine br_pix1 lo f O X hd s A1 c3 ms M M a c f.p1.w f.p1.h lm (hm.pre h.pre) hmn f.p1.xs.length z1 (fun M2 zs p2 hb2 bz hz => ?_) f.p1.xs.length 0 M1 f.p1.xs rfl (Nat.zero_le _) p1 hb (hf'.by_ 1 (by omega)) rfl
  refine br_side1 lo f O hd s A1 c3 ms M0 l hL hlo q1 q2 w1 w2 _ M2 (h.go p2) n1 n2 fun M3 ys us h3 hu hfar => ?_
  have := hnext M3 ys us a c zs h3 hu (fun A xs hf => hfar A xs (hf.pre p2)) (hfar _ _ (FarP.buf hb2 h.len)) bz hz (by omega)
  have e : setL X.cells (0 + ((1 : Int).toNat * 3)) [.int .i64 f.p1.w, .int .i64 f.p1.h, .slice (some a) f.p1.xs.length c] = (X.set 1 ⟨f.p1.w, f.p1.h, some a, c, zs⟩).cells := by rw [← hz]; rfl
  rw [e]
  exact this
theorem br_side2 (M0 : Mem) (l : Nat → Nat) (hL : Lad s M0 l) (hlo : lo ≤ M0.length) (q1 q2 : List Bool) (w1 w2 : List Un) (X' : List Value) (M : Mem) (h : BrSt s M0 l q1 w1 q2 w2 M) (n1 : s.m2.qs.length ≤ 140737488351232) (n2 : s.u2.us.length ≤ 140737488351232) {Q : Value × Mem → Prop}
    (hnext : ∀ (M' : Mem) (ys : List Bool) (us : List Un), BrSt s M0 l q1 w1 ys us M' → (∀ u ∈ us, u = u0) → (∀ A xs, FarP (l 14) M A xs → FarP (l 14) M' A xs) → Run P T lo F.zoetropelaw25_ChainBrightness (zoetropelaw25_ChainBrightness.c2036 A1 ms.length c3 (IntKind.i64.wrap ((2 : Int) + 1)) f.p0.w f.p0.h f.p0.A f.p0.xs.length f.p0.c f.p1.w f.p1.h f.p1.A f.p1.xs.length f.p1.c f.p2.w f.p2.h f.p2.A f.p2.xs.length f.p2.c hd.h0 hd.h1 hd.h2 hd.h3 hd.h4 hd.h5 hd.h6 hd.h7 hd.h8 hd.h9 hd.h10 hd.h11 hd.h12 hd.h13 hd.h14 hd.h15 hd.h16 hd.h17 hd.h18 hd.h19 hd.h20 hd.h21 hd.h22 hd.cdef hd.damp hd.h25 hd.A hd.n hd.c hd.h27 hd.h28 hd.h29 s.m0.w s.m0.h s.m0.AT s.m0.tx.length s.m0.ct s.m0.AI s.m0.ids.length s.m0.ci s.m0.AQ s.m0.qs.length s.m0.cq s.m1.w s.m1.h s.m1.AT s.m1.tx.length s.m1.ct s.m1.AI s.m1.ids.length s.m1.ci s.m1.AQ s.m1.qs.length s.m1.cq s.m2.w s.m2.h s.m2.AT s.m2.tx.length s.m2.ct s.m2.AI s.m2.ids.length s.m2.ci s.m2.AQ s.m2.qs.length s.m2.cq s.Q s.qs.length s.qc s.V s.ws.length s.vc s.u0.A s.u0.us.length s.u0.c s.u1.A s.u1.us.length s.u1.c s.u2.A s.u2.us.length s.u2.c O.p0.w O.p0.h O.p0.A O.p0.xs.length O.p0.c O.p1.w O.p1.h O.p1.A O.p1.xs.length O.p1.c O.p2.w O.p2.h O.p2.A O.p2.xs.length O.p2.c X' M') Q) :
    Run P T lo F.zoetropelaw25_ChainBrightness (zoetropelaw25_ChainBrightness.c2085492 A1 ms.length c3 (2 : Int) 0 f.p0.w f.p0.h f.p0.A f.p0.xs.length f.p0.c f.p1.w f.p1.h f.p1.A f.p1.xs.length f.p1.c f.p2.w f.p2.h f.p2.A f.p2.xs.length f.p2.c hd.h0 hd.h1 hd.h2 hd.h3 hd.h4 hd.h5 hd.h6 hd.h7 hd.h8 hd.h9 hd.h10 hd.h11 hd.h12 hd.h13 hd.h14 hd.h15 hd.h16 hd.h17 hd.h18 hd.h19 hd.h20 hd.h21 hd.h22 hd.cdef hd.damp hd.h25 hd.A hd.n hd.c hd.h27 hd.h28 hd.h29 s.m0.w s.m0.h s.m0.AT s.m0.tx.length s.m0.ct s.m0.AI s.m0.ids.length s.m0.ci s.m0.AQ s.m0.qs.length s.m0.cq s.m1.w s.m1.h s.m1.AT s.m1.tx.length s.m1.ct s.m1.AI s.m1.ids.length s.m1.ci s.m1.AQ s.m1.qs.length s.m1.cq s.m2.w s.m2.h s.m2.AT s.m2.tx.length s.m2.ct s.m2.AI s.m2.ids.length s.m2.ci s.m2.AQ s.m2.qs.length s.m2.cq s.Q s.qs.length s.qc s.V s.ws.length s.vc s.u0.A s.u0.us.length s.u0.c s.u1.A s.u1.us.length s.u1.c s.u2.A s.u2.us.length s.u2.c O.p0.w O.p0.h O.p0.A O.p0.xs.length O.p0.c O.p1.w O.p1.h O.p1.A O.p1.xs.length O.p1.c O.p2.w O.p2.h O.p2.A O.p2.xs.length O.p2.c X' M) Q := by
  have units : ∀ (M1 : Mem) (ys : List Bool), BrSt s M0 l q1 w1 ys w2 M1 → (∀ A xs, FarP (l 14) M A xs → FarP (l 14) M1 A xs) → Run P T lo F.zoetropelaw25_ChainBrightness (zoetropelaw25_ChainBrightness.c2085500 A1 ms.length c3 (2 : Int) 0 f.p0.w f.p0.h f.p0.A f.p0.xs.length f.p0.c f.p1.w f.p1.h f.p1.A f.p1.xs.length f.p1.c f.p2.w f.p2.h f.p2.A f.p2.xs.length f.p2.c hd.h0 hd.h1 hd.h2 hd.h3 hd.h4 hd.h5 hd.h6 hd.h7 hd.h8 hd.h9 hd.h10 hd.h11 hd.h12 hd.h13 hd.h14 hd.h15 hd.h16 hd.h17 hd.h18 hd.h19 hd.h20 hd.h21 hd.h22 hd.cdef hd.damp hd.h25 hd.A hd.n hd.c hd.h27 hd.h28 hd.h29 s.m0.w s.m0.h s.m0.AT s.m0.tx.length s.m0.ct s.m0.AI s.m0.ids.length s.m0.ci s.m0.AQ s.m0.qs.length s.m0.cq s.m1.w s.m1.h s.m1.AT s.m1.tx.length s.m1.ct s.m1.AI s.m1.ids.length s.m1.ci s.m1.AQ s.m1.qs.length s.m1.cq s.m2.w s.m2.h s.m2.AT s.m2.tx.length s.m2.ct s.m2.AI s.m2.ids.length s.m2.ci s.m2.AQ s.m2.qs.length s.m2.cq s.Q s.qs.length s.qc s.V s.ws.length s.vc s.u0.A s.u0.us.length s.u0.c s.u1.A s.u1.us.length s.u1.c s.u2.A s.u2.us.length s.u2.c O.p0.w O.p0.h O.p0.A O.p0.xs.length O.p0.c O.p1.w O.p1.h O.p1.A O.p1.xs.length O.p1.c O.p2.w O.p2.h O.p2.A O.p2.xs.length O.p2.c X' M1) Q := fun M1 ys h1 hf1 => by
    by_cases h0 : s.u2.us.length = 0
    · refine Run.cut (Evp.of_eq (fun k => zoetropelaw25_ChainBrightness.p2085500 k ..) ?_)
      refine Evp.pos (by decide) (Evp.some rfl ?_)
      refine Evp.dec (fun h => absurd h (by show ¬ ((0 : Int) < (s.u2.us.length : Int)); omega)) fun _ => Evp.ret (hnext M1 ys w2 h1 (fun u hu => ?_) hf1)
      have e := h1.ok.ew2
      rw [h0] at e
      rw [List.eq_nil_of_length_eq_zero e] at hu
      cases hu
    · rcases h1.v2 with e | ⟨a, hA, hb⟩
      · exact absurd e h0
      have hin : In s.u2.A s.u2.us.length (l 11) (l (11 + 1)) := hL.in_ 11 (by omega)
      have hx := hin h0 a hA
      have h14 := hL.mono (11 + 1) 14 (by omega)
      refine br_units2 lo f O hd s A1 c3 ms M0 M1 hlo a hA X' (fun M2 us hk hp hl hb2 hy hz => hnext M2 ys us (h1.set_w2 hL h0 hA hk hp hl hb2 hy fun u hu => by rw [hz u hu]; exact wf_u0) hz fun A xs hf => (hf1 A xs hf).keep (by omega) hk) s.u2.us.length 0 M1 w2 rfl (by omega) n2 (KeepB.refl _ _) h1.pre (Nat.le_refl _) hb h1.ok.ew2 fun j u hj _ => absurd hj (by omega)
  by_cases h0 : s.m2.qs.length = 0
  · refine Run.cut (Evp.of_eq (fun k => zoetropelaw25_ChainBrightness.p2085492 k ..) ?_)
    refine Evp.pos (by decide) (Evp.some rfl ?_)
    exact Evp.dec (fun h => absurd h (by show ¬ ((0 : Int) < (s.m2.qs.length : Int)); omega)) fun _ => Evp.ret (units M q2 h fun A xs hf => hf)
  · rcases h.o2 with e | ⟨a, hA, hb⟩
    · exact absurd e h0
    have hin : In s.m2.AQ s.m2.qs.length (l 10) (l (10 + 1)) := hL.in_ 10 (by omega)
    have hx := hin h0 a hA
    have h14 := hL.mono (10 + 1) 14 (by omega)
    exact br_quiet2 lo f O hd s A1 c3 ms M0 M hlo a hA X' (fun M2 ys hk hp hl hb2 hy => units M2 ys (h.set_q2 hL h0 hA hk hp hl hb2 hy) fun A xs hf => hf.keep (by omega) hk) s.m2.qs.length 0 M q2 rfl (by omega) n1 (KeepB.refl _ _) h.pre (Nat.le_refl _) hb h.ok.eq2
theorem br_step2 (M0 : Mem) (l : Nat → Nat) (hL : Lad s M0 l) (hlo : lo ≤ M0.length) (q1 q2 : List Bool) (w1 w2 : List Un) (X : Fr3) (M : Mem) (h : BrSt s M0 l q1 w1 q2 w2 M) (n1 : s.m2.qs.length ≤ 140737488351232) (n2 : s.u2.us.length ≤ 140737488351232) (hf : FrIn M0 f) (hw : WholeF f) (hm : RdI M0 .u8 A1 ms) (hmn : ms.length ≤ 140737488351232) {Q : Value × Mem → Prop}
    (hnext : ∀ (M' : Mem) (ys : List Bool) (us : List Un) (a : Addr) (c : Nat) (zs : List Int), BrSt s M0 l q1 w1 ys us M' → (∀ u ∈ us, u = u0) → (∀ A xs, FarP (l 14) M A xs → FarP (l 14) M' A xs) → FarP (l 14) M' (some a) zs → Bytes zs → zs.length = f.p2.xs.length → zs.length ≤ c → Run P T lo F.zoetropelaw25_ChainBrightness (zoetropelaw25_ChainBrightness.c2036 A1 ms.length c3 (IntKind.i64.wrap ((2 : Int) + 1)) f.p0.w f.p0.h f.p0.A f.p0.xs.length f.p0.c f.p1.w f.p1.h f.p1.A f.p1.xs.length f.p1.c f.p2.w f.p2.h f.p2.A f.p2.xs.length f.p2.c hd.h0 hd.h1 hd.h2 hd.h3 hd.h4 hd.h5 hd.h6 hd.h7 hd.h8 hd.h9 hd.h10 hd.h11 hd.h12 hd.h13 hd.h14 hd.h15 hd.h16 hd.h17 hd.h18 hd.h19 hd.h20 hd.h21 hd.h22 hd.cdef hd.damp hd.h25 hd.A hd.n hd.c hd.h27 hd.h28 hd.h29 s.m0.w s.m0.h s.m0.AT s.m0.tx.length s.m0.ct s.m0.AI s.m0.ids.length s.m0.ci s.m0.AQ s.m0.qs.length s.m0.cq s.m1.w s.m1.h s.m1.AT s.m1.tx.length s.m1.ct s.m1.AI s.m1.ids.length s.m1.ci s.m1.AQ s.m1.qs.length s.m1.cq s.m2.w s.m2.h s.m2.AT s.m2.tx.length s.m2.ct s.m2.AI s.m2.ids.length s.m2.ci s.m2.AQ s.m2.qs.length s.m2.cq s.Q s.qs.length s.qc s.V s.ws.length s.vc s.u0.A s.u0.us.length s.u0.c s.u1.A s.u1.us.length s.u1.c s.u2.A s.u2.us.length s.u2.c O.p0.w O.p0.h O.p0.A O.p0.xs.length O.p0.c O.p1.w O.p1.h O.p1.A O.p1.xs.length O.p1.c O.p2.w O.p2.h O.p2.A O.p2.xs.length O.p2.c (X.set 2 ⟨f.p2.w, f.p2.h, some a, c, zs⟩).cells M') Q) :
    Run P T lo F.zoetropelaw25_ChainBrightness (zoetropelaw25_ChainBrightness.c2036 A1 ms.length c3 (2 : Int) f.p0.w f.p0.h f.p0.A f.p0.xs.length f.p0.c f.p1.w f.p1.h f.p1.A f.p1.xs.length f.p1.c f.p2.w f.p2.h f.p2.A f.p2.xs.length f.p2.c hd.h0 hd.h1 hd.h2 hd.h3 hd.h4 hd.h5 hd.h6 hd.h7 hd.h8 hd.h9 hd.h10 hd.h11 hd.h12 hd.h13 hd.h14 hd.h15 hd.h16 hd.h17 hd.h18 hd.h19 hd.h20 hd.h21 hd.h22 hd.cdef hd.damp hd.h25 hd.A hd.n hd.c hd.h27 hd.h28 hd.h29 s.m0.w s.m0.h s.m0.AT s.m0.tx.length s.m0.ct s.m0.AI s.m0.ids.length s.m0.ci s.m0.AQ s.m0.qs.length s.m0.cq s.m1.w s.m1.h s.m1.AT s.m1.tx.length s.m1.ct s.m1.AI s.m1.ids.length s.m1.ci s.m1.AQ s.m1.qs.length s.m1.cq s.m2.w s.m2.h s.m2.AT s.m2.tx.length s.m2.ct s.m2.AI s.m2.ids.length s.m2.ci s.m2.AQ s.m2.qs.length s.m2.cq s.Q s.qs.length s.qc s.V s.ws.length s.vc s.u0.A s.u0.us.length s.u0.c s.u1.A s.u1.us.length s.u1.c s.u2.A s.u2.us.length s.u2.c O.p0.w O.p0.h O.p0.A O.p0.xs.length O.p0.c O.p1.w O.p1.h O.p1.A O.p1.xs.length O.p1.c O.p2.w O.p2.h O.p2.A O.p2.xs.length O.p2.c X.cells M) Q := by
  have hf' := hf.pre h.pre
  obtain ⟨z0, z1⟩ := whole_pos hw 2 (by omega)
  have z0 : f.p2.xs.length ≠ 0 := z0
  have z1 : f.p2.xs.length ≤ 262144 := z1
  refine Run.cut (Evp.of_eq (fun k => zoetropelaw25_ChainBrightness.p2036 k ..) ?_)
  refine Evp.tt rfl (Evp.pos (by decide) (Evp.some rfl (Evp.pos (by decide) (Evp.some rfl (Evp.pos (by decide) (Evp.some rfl ?_))))))
  refine Evp.ob (copyBytes_ok _ f.p2.A f.p2.c f.p2.xs M (hf'.rd 2 (by omega)) (Nat.le_trans z1 (by decide)) (Nat.le_refl _)) ?_
  rintro _ ⟨A, c, M1, rfl, p1, hc, g⟩
  obtain ⟨a, rfl, hb⟩ := g.buf z0
  simp only [ret_int, ret_bool, ret_flt, ret_slc, ret_str, ret_ptr, ret_agg, ret_tup, ob_some, bb_true, bb_false, List.getElem?_cons_zero, List.getElem?_cons_succ, List.length_cons, List.length_nil, Nat.reduceAdd, Nat.reduceLT]
  refine Evp.ret ?_
  have lm := Nat.le_trans hlo h.pre.len
  refine br_pix2 lo f O X hd s A1 c3 ms M M a c f.p2.w f.p2.h lm (hm.pre h.pre) hmn f.p2.xs.length z1 (fun M2 zs p2 hb2 bz hz => ?_) f.p2.xs.length 0 M1 f.p2.xs rfl (Nat.zero_le _) p1 hb (hf'.by_ 2 (by omega)) rfl
  refine br_side2 lo f O hd s A1 c3 ms M0 l hL hlo q1 q2 w1 w2 _ M2 (h.go p2) n1 n2 fun M3 ys us h3 hu hfar => ?_
  have := hnext M3 ys us a c zs h3 hu (fun A xs hf => hfar A xs (hf.pre p2)) (hfar _ _ (FarP.buf hb2 h.len)) bz hz (by omega)
  have e : setL X.cells (0 + ((2 : Int).toNat * 3)) [.int .i64 f.p2.w, .int .i64 f.p2.h, .slice (some a) f.p2.xs.length c] = (X.set 2 ⟨f.p2.w, f.p2.h, some a, c, zs⟩).cells := by rw [← hz]; rfl
  rw [e]
  exact this
end
theorem foldF_p0 {f g : Fr3} (h : f.p0 = g.p0) (qs : List Bool) (ws L : List Int) (damp : Int) : ∀ i, foldF f qs ws L damp i 0 = foldF g qs ws L damp i 0
  | 0 => by show f.p0.xs = g.p0.xs; rw [h]
  | i + 1 => by
    simp only [foldF]
    by_cases e : qs.getD i false = true
    · rw [if_pos e, if_pos e]; exact foldF_p0 h qs ws L damp i
    · rw [if_neg e, if_neg e]
      simp only [newN, cut8, if_true, h, foldF_p0 h qs ws L damp i]
theorem runS_cur {f X : Fr3} {s : SideV} (q1 : List Bool) (w1 : List Un) (q2 : List Bool) (w2 : List Un) (hd : Hd) (L : List Int) (h : X.p0 = f.p0) : runS X (cur s q1 w1 q2 w2) hd L 0 = runS f s hd L 0 := by
  have h0 : X.at 0 = f.at 0 := h
  have e1 : g1 X (cur s q1 w1 q2 w2) hd 0 = g1 f s hd 0 := by
    show ly2 (X.at 0) s.m0 0 hd = ly2 (f.at 0) s.m0 0 hd
    rw [h0]
  have e2 : g2 X (cur s q1 w1 q2 w2) hd L 0 = g2 f s hd L 0 := by
    show outF (frD X (g1 X (cur s q1 w1 q2 w2) hd)) s.qs s.ws hd L 0 = outF (frD f (g1 f s hd)) s.qs s.ws hd L 0
    unfold outF
    split
    · exact foldF_p0 (by show Plv.mk X.p0.w X.p0.h none 0 (g1 X (cur s q1 w1 q2 w2) hd 0) = Plv.mk f.p0.w f.p0.h none 0 (g1 f s hd 0); rw [e1, h]) _ _ _ _ _
    · exact e1
  unfold runS
  split
  · rw [h0]
  · unfold restG
    rw [e1, e2, h0]
    rfl
theorem runP_cur {f : Fr3} {s : SideV} {q1 : List Bool} {w1 : List Un} {q2 : List Bool} {w2 : List Un} {hd : Hd} {L : List Int} (hP : RunP f s hd L) (hc : CurOk s q1 w1 q2 w2) (z1 : ∀ u ∈ w1, u = u0) (z2 : ∀ u ∈ w2, u = u0) : RunP f (cur s q1 w1 q2 w2) hd L := by
  obtain ⟨h1, h2, h3, h4⟩ := hP
  refine ⟨h1, h2, h3, ?_⟩
  rcases h4 with h4 | ⟨p, d, r⟩
  · exact .inl h4
  refine .inr ⟨fun n hn => ?_, d, fun n hn e => ?_⟩
  · rcases lt3 hn with rfl | rfl | rfl
    · exact p 0 hn
    · have := p 1 hn
      unfold PassP at this ⊢
      show PassOk _ _ _ _ _ _ _ q1.length _ _ ∧ PassOk _ _ _ _ _ _ _ q1.length _ _
      rw [hc.eq1]
      exact this
    · have := p 2 hn
      unfold PassP at this ⊢
      show PassOk _ _ _ _ _ _ _ q2.length _ _ ∧ PassOk _ _ _ _ _ _ _ q2.length _ _
      rw [hc.eq2]
      exact this
  · rcases lt3 hn with rfl | rfl | rfl
    · exact r 0 hn e
    · obtain ⟨a1, a2, a3, a4, a5, a6, a7⟩ := r 1 hn e
      exact ⟨a1, a2, a3, a4, a5, hc.ew1.trans a6, fun u hu => .inr (z1 u hu)⟩
    · obtain ⟨a1, a2, a3, a4, a5, a6, a7⟩ := r 2 hn e
      exact ⟨a1, a2, a3, a4, a5, hc.ew2.trans a6, fun u hu => .inr (z2 u hu)⟩
theorem fold_len25 (f : Fr3) (qs : List Bool) (ws L : List Int) (damp : Int) (n : Nat) : ∀ i, (foldF f qs ws L damp i n).length = (f.at n).xs.length
  | 0 => rfl
  | i + 1 => by
    simp only [foldF]
    split
    · exact fold_len25 f qs ws L damp n i
    · rw [newN_len]; exact fold_len25 f qs ws L damp n i
theorem runS_len0 {f : Fr3} (hw : WholeF f) (s : SideV) (hd : Hd) (L : List Int) : (runS f s hd L 0).length = (f.at 0).xs.length := by
  have dm := whole_dims hw 0 (by omega)
  have l2 : (g2 f s hd L 0).length = (f.at 0).xs.length := by
    unfold g2 outF
    split
    · rw [fold_len25]; exact g1_len f s hd 0
    · exact g1_len f s hd 0
  unfold runS
  split
  · rfl
  · unfold restG
    split
    · rw [outW_len, dm.2.2, Nat.mul_comm]
    · exact l2
theorem ChainBrightness_law (M : Mem) (vs : List Value) (hro : AllRo M) (hv : LaysArgs P M [27, 60, 22] vs) : Ac P T M.length F.zoetropelaw25_ChainBrightness vs M fun r => r.1 = .bool true := by
  obtain ⟨v0, r0, rfl, h0, k0⟩ := args_cons hv
  obtain ⟨a0, rfl, y0⟩ := arg_agg (by kernel_rfl) h0
  obtain ⟨f, rfl, hf, hsm⟩ := fr_of (d := 3) y0
  obtain ⟨v1, r1, rfl, h1, k1⟩ := args_cons k0
  obtain ⟨a1, rfl, y1⟩ := arg_agg (by kernel_rfl) h1
  obtain ⟨c0, c1, rfl, z0, z1⟩ := Y60 (d := 1) y1
  obtain ⟨hd, L, rfl, hwf, hL⟩ := hd_of (d := 3) z0
  obtain ⟨s0, rfl, hs0, fit⟩ := side_of (d := 1) z1
  obtain ⟨v2, r2, rfl, h2, k2⟩ := args_cons k1
  obtain ⟨A2, c2, ms, e2, _, hmn, hm, _⟩ := Y22 (d := 6) (arg_one (by kernel_rfl) h2)
  injection e2 with e2; subst e2
  obtain rfl := args_nil k2
  refine Ac.of (Evp.of_eq (fun k => zoetropelaw25_ChainBrightness.entry k ..) ?_)
  refine Evp.ob (works_ok _ M (Nat.le_refl _)) ?_
  rintro _ ⟨M1, rfl, p1⟩
  simp only [ret_int, ret_bool, ret_flt, ret_slc, ret_str, ret_ptr, ret_agg, ret_tup, ob_some, bb_true, bb_false, List.getElem?_cons_zero, List.getElem?_cons_succ, List.length_cons, List.length_nil, Nat.reduceAdd, Nat.reduceLT]
  refine Evp.ff rfl ?_
  refine Evp.ob (copiedB_ok _ s0 M1 (hs0.pre p1) fit (Nat.le_refl _)) ?_
  rintro _ ⟨s, M2, l, rfl, p2, hs, heq, hl0, hl14, mono, hin, o1, o2, v1, v2⟩
  refine Evp.some rfl ?_
  refine Evp.some rfl ?_
  refine Evp.some rfl ?_
  refine Evp.some rfl ?_
  refine Evp.some rfl ?_
  refine Evp.some rfl ?_
  refine Evp.some rfl ?_
  refine Evp.some rfl ?_
  refine Evp.some rfl ?_
  refine Evp.some rfl ?_
  refine Evp.some rfl ?_
  refine Evp.some rfl ?_
  refine Evp.some rfl ?_
  refine Evp.some rfl ?_
  refine Evp.some rfl ?_
  refine Evp.some rfl ?_
  refine Evp.some rfl ?_
  refine Evp.some rfl ?_
  refine Evp.some rfl ?_
  refine Evp.some rfl ?_
  refine Evp.some rfl ?_
  have q2 := p1.trans p2
  have l1 := p1.len
  have l2 := q2.len
  have hf2 := hf.pre q2
  refine Evp.ob (run_ok _ f s hd L M2 l2 hf2 hs (hL.pre q2) hwf) ?_
  rintro ⟨v, M3⟩ ⟨p3, hr⟩
  have q3 := q2.trans p3
  have l3 := q3.len
  rcases hr with ⟨hP, b, ad, cc, gg, e, own, eg⟩ | ⟨hP, e⟩
  rotate_left
  · obtain rfl : v = _ := e
    simp only [ret_int, ret_bool, ret_flt, ret_slc, ret_str, ret_ptr, ret_agg, ret_tup, ob_some, bb_true, bb_false, List.getElem?_cons_zero, List.getElem?_cons_succ, List.length_cons, List.length_nil, Nat.reduceAdd, Nat.reduceLT]
    exact Evp.tt rfl (Evp.ret (Run.ret rfl))
  obtain rfl : v = _ := e
  simp only [ret_int, ret_bool, ret_flt, ret_slc, ret_str, ret_ptr, ret_agg, ret_tup, ob_some, bb_true, bb_false, List.getElem?_cons_zero, List.getElem?_cons_succ, List.length_cons, List.length_nil, Nat.reduceAdd, Nat.reduceLT]
  refine Evp.ff rfl (Evp.ret ?_)
  have hw := hP.1
  have hLad : Lad s M1 l := ⟨hl0, mono, hin⟩
  have fq : ∀ n, (s.map n).qs.length ≤ 140737488351232 := fun n => by rw [(heq.m n).qs]; exact fit.mqs n
  have fu : ∀ n, (s.un n).us.length ≤ 140737488351232 := fun n => by rw [heq.u n]; have := fit.us n; omega
  have hc : CurOk s s.m1.qs s.u1.us s.m2.qs s.u2.us := ⟨rfl, rfl, rfl, rfl, (hs.u 1).wf, (hs.u 2).wf⟩
  have st0 : BrSt s M1 l s.m1.qs s.u1.us s.m2.qs s.u2.us M3 := ⟨p2.trans p3, by rw [hl14]; exact p3.len, fun i hi => RdAt.pre p3 i (match i, hi with
    | 0, _ => (hs.m 0).rt | 1, _ => (hs.m 0).ri | 2, _ => (hs.m 0).rq | 3, _ => (hs.u 0).rd
    | 4, _ => (hs.m 1).rt | 5, _ => (hs.m 1).ri | 6, _ => (hs.m 1).rq | 7, _ => (hs.u 1).rd
    | 8, _ => (hs.m 2).rt | 9, _ => (hs.m 2).ri | 10, _ => (hs.m 2).rq | 11, _ => (hs.u 2).rd
    | 12, _ => hs.q | 13, _ => hs.v | i + 14, h => absurd h (by omega)), hc, o1.pre p3, v1.pre p3, o2.pre p3, v2.pre p3⟩
  have far0 : FarP (l 14) M3 (some (ad 0)) (gg 0) := FarP.buf (own.buf 0 (by omega)) (by rw [hl14]; exact Nat.le_refl _)
  have hf1 := hf.pre p1
  have hm1 := hm.pre p1
  refine br_step1 M.length f (frB f ad cc gg) hd s A2 c2 ms M1 l hLad l1 _ _ _ _ f M3 st0 (fq 1) (fu 1) hf1 hw hm1 (by omega) fun M4 ys us a c zs st1 hu1 far1 fa1 ba1 hz1 hc1 => ?_
  rw [show IntKind.i64.wrap ((1 : Int) + 1) = 2 from by decide]
  refine br_step2 M.length f (frB f ad cc gg) hd s A2 c2 ms M1 l hLad l1 _ _ _ _ _ M4 st1 (fq 2) (fu 2) hf1 hw hm1 (by omega) fun M5 ys' us' a' c' zs' st2 hu2 far2 fa2 ba2 hz2 hc2 => ?_
  rw [show IntKind.i64.wrap ((2 : Int) + 1) = 3 from by decide]
  obtain ⟨X, hX⟩ : ∃ X : Fr3, X = (f.set 1 ⟨f.p1.w, f.p1.h, some a, c, zs⟩).set 2 ⟨f.p2.w, f.p2.h, some a', c', zs'⟩ := ⟨_, rfl⟩
  rw [← hX]
  have hX0 : X.p0 = f.p0 := by rw [hX]; rfl
  have fa1 := far2 _ _ fa1
  have far := far2 _ _ (far1 _ _ far0)
  have hXd : ∀ n, n < 3 → (X.at n).w = (f.at n).w ∧ (X.at n).h = (f.at n).h ∧ (X.at n).xs.length = (f.at n).xs.length := fun n hn => by
    rw [hX]
    rcases lt3 hn with rfl | rfl | rfl
    · exact ⟨rfl, rfl, rfl⟩
    · exact ⟨rfl, rfl, hz1⟩
    · exact ⟨rfl, rfl, hz2⟩
  have q5 := st2.pre
  have hf5 := hf1.pre q5
  have hXi : FrIn M5 X := ⟨fun n hn => by
      rw [hX]
      rcases lt3 hn with rfl | rfl | rfl
      · exact hf5.rd 0 (by omega)
      · exact fa1.1
      · exact fa2.1, fun n hn => by
      rw [hX]
      rcases lt3 hn with rfl | rfl | rfl
      · exact hf5.by_ 0 (by omega)
      · exact ba1
      · exact ba2, fun n hn => by
      rw [hX]
      rcases lt3 hn with rfl | rfl | rfl
      · exact hf5.cap 0 (by omega)
      · exact hc1
      · exact hc2⟩
  have hPX : RunP X (cur s ys us ys' us') hd L := runP_cur (runP_sizes hXd hP) st2.ok hu1 hu2
  have hs5 : SideOk M5 (cur s ys us ys' us') := side_ok st2.rd st2.ok hs
  have l5 := (p1.trans q5).len
  refine Run.cut (Evp.of_eq (fun k => zoetropelaw25_ChainBrightness.p2036 k ..) ?_)
  refine Evp.ff rfl ?_
  refine Evp.some rfl ?_
  refine Evp.some rfl ?_
  refine Evp.some rfl ?_
  refine Evp.some rfl ?_
  refine Evp.some rfl ?_
  refine Evp.some rfl ?_
  refine Evp.some rfl ?_
  refine Evp.some rfl ?_
  refine Evp.some rfl ?_
  have hrun := run_ok M.length X (cur s ys us ys' us') hd L M5 l5 hXi hs5 ((hL.pre p1).pre q5) hwf
  rw [cur_cells st2.ok] at hrun
  refine Evp.ob hrun ?_
  rintro ⟨v, M6⟩ ⟨p6, hr⟩
  rcases hr with ⟨_, b', ad', cc', gX, e, ownX, egX⟩ | ⟨hno, _⟩
  rotate_left
  · exact absurd hPX hno
  obtain rfl : v = _ := e
  simp only [ret_int, ret_bool, ret_flt, ret_slc, ret_str, ret_ptr, ret_agg, ret_tup, ob_some, bb_true, bb_false, List.getElem?_cons_zero, List.getElem?_cons_succ, List.length_cons, List.length_nil, Nat.reduceAdd, Nat.reduceLT]
  refine Evp.tt rfl ?_
  have eq0 : gX 0 = gg 0 := by rw [egX 0 (by omega), eg 0 (by omega)]; exact runS_cur ys us ys' us' hd L hX0
  have ew : X.p0.w = f.p0.w ∧ X.p0.h = f.p0.h := by rw [hX0]; exact ⟨rfl, rfl⟩
  have bnd : (gg 0).length ≤ 140737488351232 := by
    rw [eg 0 (by omega)]
    rw [runS_len0 hw]; exact hsm 0 (by omega)
  refine Evp.ob (same_ok _ f.p0.w f.p0.h X.p0.w X.p0.h (some (ad 0)) (some (ad' 0)) (cc 0) (cc' 0) (gg 0) (gX 0) M6 (far.1.pre p6) (ownX.buf 0 (by omega)).rdI bnd) ?_
  rintro _ rfl
  simp only [ret_int, ret_bool, ret_flt, ret_slc, ret_str, ret_ptr, ret_agg, ret_tup, ob_some, bb_true, bb_false, List.getElem?_cons_zero, List.getElem?_cons_succ, List.length_cons, List.length_nil, Nat.reduceAdd, Nat.reduceLT]
  refine Evp.ret (Run.ret ?_)
  show Value.bool _ = _
  rw [decide_eq_true (show f.p0.w = X.p0.w ∧ f.p0.h = X.p0.h ∧ gg 0 = gX 0 from ⟨ew.1.symm, ew.2.symm, eq0.symm⟩)]
end Go.Zt
