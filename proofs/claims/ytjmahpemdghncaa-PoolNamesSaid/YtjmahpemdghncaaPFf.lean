/- What the law PoolNames needs of the text Ff. -/
import Derived.Test.YtjmahpemdghncaaPFe
set_option linter.unusedVariables false
set_option linter.unusedSimpArgs false
set_option maxRecDepth 100000
namespace Go.Zt
structure FrV where
  w0 : Int
  h0 : Int
  x0 : List Int
  w1 : Int
  h1 : Int
  x1 : List Int
  w2 : Int
  h2 : Int
  x2 : List Int
def WholeF (f : FrV) : Prop := WholeP f.w0 f.h0 f.x0.length f.w1 f.h1 f.x1.length f.w2 f.h2 f.x2.length
instance (f : FrV) : Decidable (WholeF f) := inferInstanceAs (Decidable (WholeP ..))
theorem WholeF.len {f : FrV} (h : WholeF f) : (f.x0.length ≠ 0 ∧ f.x0.length ≤ 262144) ∧ (f.x1.length ≠ 0 ∧ f.x1.length ≤ 262144) ∧ f.x2.length ≠ 0 ∧ f.x2.length ≤ 262144 := by
  obtain ⟨h1, _, _, h2, _, _, h3, _, _⟩ := h
  have l1 := checkS_len' h1
  have l2 := checkS_len' h2
  have l3 := checkS_len' h3
  have a1 := area ⟨l1.1, l1.2.1, l1.2.2.1, l1.2.2.2.1⟩
  have a2 := area ⟨l2.1, l2.2.1, l2.2.2.1, l2.2.2.2.1⟩
  have a3 := area ⟨l3.1, l3.2.1, l3.2.2.1, l3.2.2.2.1⟩
  omega
structure FrIs (S : Nat → Prop) (M : Mem) (A0 A1 A2 : Option Addr) (f : FrV) : Prop where
  o0 : OnS S A0
  o1 : OnS S A1
  o2 : OnS S A2
  r0 : RdI M .u8 A0 f.x0
  r1 : RdI M .u8 A1 f.x1
  r2 : RdI M .u8 A2 f.x2
section
variable {S S' : Nat → Prop} {M M' : Mem} {A0 A1 A2 : Option Addr} {f : FrV}
theorem FrIs.keepS (h : FrIs S M A0 A1 A2 f) (hk : KeepS S M M') : FrIs S M' A0 A1 A2 f := ⟨h.o0, h.o1, h.o2, h.r0.keepS h.o0 hk, h.r1.keepS h.o1 hk, h.r2.keepS h.o2 hk⟩
theorem FrIs.mono (h : FrIs S M A0 A1 A2 f) (hs : ∀ b, S b → S' b) : FrIs S' M A0 A1 A2 f := ⟨h.o0.mono hs, h.o1.mono hs, h.o2.mono hs, h.r0, h.r1, h.r2⟩
end
theorem fcopied_ok (lo : Nat) (S : Nat → Prop) (A0 A1 A2 : Option Addr) (c0 c1 c2 : Nat) (f : FrV) (M : Mem) (hf : FrIs S M A0 A1 A2 f) (hw : WholeF f) (hlo : lo ≤ M.length) :
    Ac P T lo F.pool_copied [.agg ⟨[.int .i64 f.w0, .int .i64 f.h0, .slice A0 f.x0.length c0, .int .i64 f.w1, .int .i64 f.h1, .slice A1 f.x1.length c1, .int .i64 f.w2, .int .i64 f.h2, .slice A2 f.x2.length c2]⟩] M fun r => ∃ a0 a1 a2 d0 d1 d2 M', r = (.agg ⟨[.int .i64 f.w0, .int .i64 f.h0, .slice (some a0) f.x0.length d0, .int .i64 f.w1, .int .i64 f.h1, .slice (some a1) f.x1.length d1, .int .i64 f.w2, .int .i64 f.h2, .slice (some a2) f.x2.length d2]⟩, M') ∧ Pre M M' ∧
      Buf M M' a0 (f.x0.map (Value.int .u8)) ∧ Buf M M' a1 (f.x1.map (Value.int .u8)) ∧ Buf M M' a2 (f.x2.map (Value.int .u8)) ∧ a0.block ≠ a1.block ∧ a0.block ≠ a2.block ∧ a1.block ≠ a2.block := by
  obtain ⟨l0, l1, l2⟩ := hw.len
  refine Ac.of (Evp.of_eq (fun k => pool_copied.entry k ..) ?_)
  refine Evp.ret ?_
  refine Run.cut (Evp.of_eq (fun k => pool_copied.p52 k ..) ?_)
  refine Evp.tt rfl (Evp.pos (by decide) (Evp.some rfl ?_))
  refine Evp.ob (clone_ok lo A0 c0 f.x0 M hf.r0 l0.1 (by omega) hlo) ?_
  rintro _ ⟨a0, d0, M1, rfl, p1, _, b0⟩
  simp only [ret_int, ret_bool, ret_flt, ret_slc, ret_str, ret_ptr, ret_agg, ret_tup, ob_some, bb_true, bb_false, List.getElem?_cons_zero, List.getElem?_cons_succ, List.length_cons, List.length_nil, Nat.reduceAdd, Nat.reduceLT]
  refine Evp.pos (by decide) (Evp.pos (Nat.le_of_ble_eq_true rfl) ?_)
  rw [show IntKind.i64.wrap (0 + 1) = 1 from by decide]
  refine Evp.ret ?_
  have q1 := p1.len
  refine Run.cut (Evp.of_eq (fun k => pool_copied.p52 k ..) ?_)
  refine Evp.tt rfl (Evp.pos (by decide) (Evp.some rfl ?_))
  refine Evp.ob (clone_ok lo A1 c1 f.x1 M1 (hf.r1.pre p1) l1.1 (by omega) (by omega)) ?_
  rintro _ ⟨a1, d1, M2, rfl, p2, _, b1⟩
  simp only [ret_int, ret_bool, ret_flt, ret_slc, ret_str, ret_ptr, ret_agg, ret_tup, ob_some, bb_true, bb_false, List.getElem?_cons_zero, List.getElem?_cons_succ, List.length_cons, List.length_nil, Nat.reduceAdd, Nat.reduceLT]
  refine Evp.pos (by decide) (Evp.pos (Nat.le_of_ble_eq_true rfl) ?_)
  rw [show IntKind.i64.wrap (1 + 1) = 2 from by decide]
  refine Evp.ret ?_
  have q2 := p2.len
  refine Run.cut (Evp.of_eq (fun k => pool_copied.p52 k ..) ?_)
  refine Evp.tt rfl (Evp.pos (by decide) (Evp.some rfl ?_))
  refine Evp.ob (clone_ok lo A2 c2 f.x2 M2 (hf.r2.pre (p1.trans p2)) l2.1 (by omega) (by omega)) ?_
  rintro _ ⟨a2, d2, M3, rfl, p3, _, b2⟩
  simp only [ret_int, ret_bool, ret_flt, ret_slc, ret_str, ret_ptr, ret_agg, ret_tup, ob_some, bb_true, bb_false, List.getElem?_cons_zero, List.getElem?_cons_succ, List.length_cons, List.length_nil, Nat.reduceAdd, Nat.reduceLT]
  refine Evp.pos (by decide) (Evp.pos (Nat.le_of_ble_eq_true rfl) ?_)
  rw [show IntKind.i64.wrap (2 + 1) = 3 from by decide]
  refine Evp.ret ?_
  refine Run.cut (Evp.of_eq (fun k => pool_copied.p52 k ..) ?_)
  refine Evp.ff rfl ?_
  refine Evp.some rfl (Evp.some rfl (Evp.some rfl (Evp.some rfl (Evp.some rfl (Evp.some rfl (Evp.some rfl (Evp.some rfl (Evp.some rfl ?_))))))))
  have i0 := b0.in_
  have i1 := b1.in_
  have n1 := b1.new
  have n2 := b2.new
  exact Evp.ret (Run.ret ⟨a0, a1, a2, d0, d1, d2, M3, rfl, (p1.trans p2).trans p3, b0.pre (p2.trans p3), (b1.floor q1).pre p3, b2.floor (by omega), by omega, by omega, by omega⟩)
structure RawS where
  t : Bool
  w0 : Int
  h0 : Int
  A0 : Option Addr
  n0 : Nat
  c0 : Nat
  w1 : Int
  h1 : Int
  A1 : Option Addr
  n1 : Nat
  c1 : Nat
  w2 : Int
  h2 : Int
  A2 : Option Addr
  n2 : Nat
  c2 : Nat
  As : Option Addr
  ns : Nat
  cs : Nat
def RawS.cells (r : RawS) : List Value := [.bool r.t, .int .i64 r.w0, .int .i64 r.h0, .slice r.A0 r.n0 r.c0, .int .i64 r.w1, .int .i64 r.h1, .slice r.A1 r.n1 r.c1, .int .i64 r.w2, .int .i64 r.h2, .slice r.A2 r.n2 r.c2, .slice r.As r.ns r.cs]
def RawS.zero : RawS := ⟨false, 0, 0, none, 0, 0, 0, 0, none, 0, 0, 0, 0, none, 0, 0, none, 0, 0⟩
def PoolRaw (M : Mem) (b : Nat) (R : Nat → RawS) : Prop := ∃ cs, M[b]? = some ⟨.fx, cs⟩ ∧ cs.length = 89 ∧ cs[0]? = some (.bool true) ∧ ∀ n j, n < 8 → j < 11 → cs[1 + n * 11 + j]? = (R n).cells[j]?
theorem PoolRaw.ld {M : Mem} {b : Nat} {R : Nat → RawS} (h : PoolRaw M b R) (n j : Nat) (hn : n < 8) (hj : j < 11) (a : Addr) (ha : a = ⟨b, 1 + n * 11 + j, none⟩) : M.ld a = (R n).cells[j]? := by
  obtain ⟨cs, h1, h2, h3, h4⟩ := h
  rw [ha, fx_ld h1, h4 n j hn hj]
theorem PoolRaw.made {M : Mem} {b : Nat} {R : Nat → RawS} (h : PoolRaw M b R) : M.ld ⟨b, 0, none⟩ = some (.bool true) := by
  obtain ⟨cs, h1, h2, h3, h4⟩ := h
  rw [fx_ld h1, h3]
theorem PoolRaw.keep {M M' : Mem} {b : Nat} {R : Nat → RawS} (h : PoolRaw M b R) (hk : ∀ k, M[b]? = some k → M'[b]? = some k) : PoolRaw M' b R := by
  obtain ⟨cs, h1, h2⟩ := h
  exact ⟨cs, hk _ h1, h2⟩
section
variable {α : Type} {Q : α → Prop}
theorem evp_ld11 {M : Mem} {r : RawS} {a0 a1 a2 a3 a4 a5 a6 a7 a8 a9 a10 : Addr} {f : Nat → Bool → Int → Int → Slc → Int → Int → Slc → Int → Int → Slc → Slc → Option α}
    (h0 : M.ld a0 = some (.bool r.t)) (h1 : M.ld a1 = some (.int .i64 r.w0)) (h2 : M.ld a2 = some (.int .i64 r.h0)) (h3 : M.ld a3 = some (.slice r.A0 r.n0 r.c0)) (h4 : M.ld a4 = some (.int .i64 r.w1)) (h5 : M.ld a5 = some (.int .i64 r.h1)) (h6 : M.ld a6 = some (.slice r.A1 r.n1 r.c1))
    (h7 : M.ld a7 = some (.int .i64 r.w2)) (h8 : M.ld a8 = some (.int .i64 r.h2)) (h9 : M.ld a9 = some (.slice r.A2 r.n2 r.c2)) (h10 : M.ld a10 = some (.slice r.As r.ns r.cs))
    (hf : Evp (fun kk => f kk r.t r.w0 r.h0 ⟨r.A0, r.n0, r.c0⟩ r.w1 r.h1 ⟨r.A1, r.n1, r.c1⟩ r.w2 r.h2 ⟨r.A2, r.n2, r.c2⟩ ⟨r.As, r.ns, r.cs⟩) Q) :
    Evp (fun kk => ob ((M.ld a0).bind Value.bool?) fun v0 => ob ((M.ld a1).bind (Value.int? .i64)) fun v1 => ob ((M.ld a2).bind (Value.int? .i64)) fun v2 => ob ((M.ld a3).bind Value.slc?) fun v3 => ob ((M.ld a4).bind (Value.int? .i64)) fun v4 => ob ((M.ld a5).bind (Value.int? .i64)) fun v5 => ob ((M.ld a6).bind Value.slc?) fun v6 =>
      ob ((M.ld a7).bind (Value.int? .i64)) fun v7 => ob ((M.ld a8).bind (Value.int? .i64)) fun v8 => ob ((M.ld a9).bind Value.slc?) fun v9 => ob ((M.ld a10).bind Value.slc?) fun v10 => f kk v0 v1 v2 v3 v4 v5 v6 v7 v8 v9 v10) Q := by
  refine Evp.of_eq (fun kk => ?_) hf
  rw [h0, h1, h2, h3, h4, h5, h6, h7, h8, h9, h10, ret_bool, ret_int, ret_int, ret_slc, ret_int, ret_int, ret_slc, ret_int, ret_int, ret_slc, ret_slc]
theorem evp_c11 {L : List Value} {m : Nat} {r : RawS} {f : Nat → Bool → Int → Int → Slc → Int → Int → Slc → Int → Int → Slc → Slc → Option α}
    (h : ∀ j, j < 11 → L[m + j]? = r.cells[j]?)
    (hf : Evp (fun kk => f kk r.t r.w0 r.h0 ⟨r.A0, r.n0, r.c0⟩ r.w1 r.h1 ⟨r.A1, r.n1, r.c1⟩ r.w2 r.h2 ⟨r.A2, r.n2, r.c2⟩ ⟨r.As, r.ns, r.cs⟩) Q) :
    Evp (fun kk => ob ((L[m + 0]?).bind Value.bool?) fun v0 => ob ((L[m + 1]?).bind (Value.int? .i64)) fun v1 => ob ((L[m + 2]?).bind (Value.int? .i64)) fun v2 => ob ((L[m + 3]?).bind Value.slc?) fun v3 => ob ((L[m + 4]?).bind (Value.int? .i64)) fun v4 => ob ((L[m + 5]?).bind (Value.int? .i64)) fun v5 => ob ((L[m + 6]?).bind Value.slc?) fun v6 =>
      ob ((L[m + 7]?).bind (Value.int? .i64)) fun v7 => ob ((L[m + 8]?).bind (Value.int? .i64)) fun v8 => ob ((L[m + 9]?).bind Value.slc?) fun v9 => ob ((L[m + 10]?).bind Value.slc?) fun v10 => f kk v0 v1 v2 v3 v4 v5 v6 v7 v8 v9 v10) Q := by
  refine Evp.of_eq (fun kk => ?_) hf
  rw [h 0 (by decide), h 1 (by decide), h 2 (by decide), h 3 (by decide), h 4 (by decide), h 5 (by decide), h 6 (by decide), h 7 (by decide), h 8 (by decide), h 9 (by decide), h 10 (by decide)]
  simp only [RawS.cells, ret_int, ret_bool, ret_flt, ret_slc, ret_str, ret_ptr, ret_agg, ret_tup, ob_some, bb_true, bb_false, List.getElem?_cons_zero, List.getElem?_cons_succ, List.length_cons, List.length_nil, Nat.reduceAdd, Nat.reduceLT]
end
def poolL (R : Nat → RawS) : List Value := [.bool (R 0).t, .int .i64 (R 0).w0, .int .i64 (R 0).h0, .slice (R 0).A0 (R 0).n0 (R 0).c0, .int .i64 (R 0).w1, .int .i64 (R 0).h1, .slice (R 0).A1 (R 0).n1 (R 0).c1, .int .i64 (R 0).w2, .int .i64 (R 0).h2, .slice (R 0).A2 (R 0).n2 (R 0).c2, .slice (R 0).As (R 0).ns (R 0).cs, .bool (R 1).t, .int .i64 (R 1).w0, .int .i64 (R 1).h0, .slice (R 1).A0 (R 1).n0 (R 1).c0, .int .i64 (R 1).w1, .int .i64 (R 1).h1, .slice (R 1).A1 (R 1).n1 (R 1).c1, .int .i64 (R 1).w2, .int .i64 (R 1).h2, .slice (R 1).A2 (R 1).n2 (R 1).c2, .slice (R 1).As (R 1).ns (R 1).cs, .bool (R 2).t, .int .i64 (R 2).w0, .int .i64 (R 2).h0, .slice (R 2).A0 (R 2).n0 (R 2).c0, .int .i64 (R 2).w1, .int .i64 (R 2).h1, .slice (R 2).A1 (R 2).n1 (R 2).c1, .int .i64 (R 2).w2, .int .i64 (R 2).h2, .slice (R 2).A2 (R 2).n2 (R 2).c2, .slice (R 2).As (R 2).ns (R 2).cs, .bool (R 3).t, .int .i64 (R 3).w0, .int .i64 (R 3).h0, .slice (R 3).A0 (R 3).n0 (R 3).c0, .int .i64 (R 3).w1, .int .i64 (R 3).h1, .slice (R 3).A1 (R 3).n1 (R 3).c1, .int .i64 (R 3).w2, .int .i64 (R 3).h2, .slice (R 3).A2 (R 3).n2 (R 3).c2, .slice (R 3).As (R 3).ns (R 3).cs, .bool (R 4).t, .int .i64 (R 4).w0, .int .i64 (R 4).h0, .slice (R 4).A0 (R 4).n0 (R 4).c0, .int .i64 (R 4).w1, .int .i64 (R 4).h1, .slice (R 4).A1 (R 4).n1 (R 4).c1, .int .i64 (R 4).w2, .int .i64 (R 4).h2, .slice (R 4).A2 (R 4).n2 (R 4).c2, .slice (R 4).As (R 4).ns (R 4).cs, .bool (R 5).t, .int .i64 (R 5).w0, .int .i64 (R 5).h0, .slice (R 5).A0 (R 5).n0 (R 5).c0, .int .i64 (R 5).w1, .int .i64 (R 5).h1, .slice (R 5).A1 (R 5).n1 (R 5).c1, .int .i64 (R 5).w2, .int .i64 (R 5).h2, .slice (R 5).A2 (R 5).n2 (R 5).c2, .slice (R 5).As (R 5).ns (R 5).cs, .bool (R 6).t, .int .i64 (R 6).w0, .int .i64 (R 6).h0, .slice (R 6).A0 (R 6).n0 (R 6).c0, .int .i64 (R 6).w1, .int .i64 (R 6).h1, .slice (R 6).A1 (R 6).n1 (R 6).c1, .int .i64 (R 6).w2, .int .i64 (R 6).h2, .slice (R 6).A2 (R 6).n2 (R 6).c2, .slice (R 6).As (R 6).ns (R 6).cs, .bool (R 7).t, .int .i64 (R 7).w0, .int .i64 (R 7).h0, .slice (R 7).A0 (R 7).n0 (R 7).c0, .int .i64 (R 7).w1, .int .i64 (R 7).h1, .slice (R 7).A1 (R 7).n1 (R 7).c1, .int .i64 (R 7).w2, .int .i64 (R 7).h2, .slice (R 7).A2 (R 7).n2 (R 7).c2, .slice (R 7).As (R 7).ns (R 7).cs]
theorem poolL_get (R : Nat → RawS) : ∀ k, k < 8 → ∀ j, j < 11 → (poolL R)[k * 11 + j]? = (R k).cells[j]? := fun k hk j hj => match k, hk, j, hj with
  | 0, _, 0, _ => rfl
  | 0, _, 1, _ => rfl
  | 0, _, 2, _ => rfl
  | 0, _, 3, _ => rfl
  | 0, _, 4, _ => rfl
  | 0, _, 5, _ => rfl
  | 0, _, 6, _ => rfl
  | 0, _, 7, _ => rfl
  | 0, _, 8, _ => rfl
  | 0, _, 9, _ => rfl
  | 0, _, 10, _ => rfl
  | 1, _, 0, _ => rfl
  | 1, _, 1, _ => rfl
  | 1, _, 2, _ => rfl
  | 1, _, 3, _ => rfl
  | 1, _, 4, _ => rfl
  | 1, _, 5, _ => rfl
  | 1, _, 6, _ => rfl
  | 1, _, 7, _ => rfl
  | 1, _, 8, _ => rfl
  | 1, _, 9, _ => rfl
  | 1, _, 10, _ => rfl
  | 2, _, 0, _ => rfl
  | 2, _, 1, _ => rfl
  | 2, _, 2, _ => rfl
  | 2, _, 3, _ => rfl
  | 2, _, 4, _ => rfl
  | 2, _, 5, _ => rfl
  | 2, _, 6, _ => rfl
  | 2, _, 7, _ => rfl
  | 2, _, 8, _ => rfl
  | 2, _, 9, _ => rfl
  | 2, _, 10, _ => rfl
  | 3, _, 0, _ => rfl
  | 3, _, 1, _ => rfl
  | 3, _, 2, _ => rfl
  | 3, _, 3, _ => rfl
  | 3, _, 4, _ => rfl
  | 3, _, 5, _ => rfl
  | 3, _, 6, _ => rfl
  | 3, _, 7, _ => rfl
  | 3, _, 8, _ => rfl
  | 3, _, 9, _ => rfl
  | 3, _, 10, _ => rfl
  | 4, _, 0, _ => rfl
  | 4, _, 1, _ => rfl
  | 4, _, 2, _ => rfl
  | 4, _, 3, _ => rfl
  | 4, _, 4, _ => rfl
  | 4, _, 5, _ => rfl
  | 4, _, 6, _ => rfl
  | 4, _, 7, _ => rfl
  | 4, _, 8, _ => rfl
  | 4, _, 9, _ => rfl
  | 4, _, 10, _ => rfl
  | 5, _, 0, _ => rfl
  | 5, _, 1, _ => rfl
  | 5, _, 2, _ => rfl
  | 5, _, 3, _ => rfl
  | 5, _, 4, _ => rfl
  | 5, _, 5, _ => rfl
  | 5, _, 6, _ => rfl
  | 5, _, 7, _ => rfl
  | 5, _, 8, _ => rfl
  | 5, _, 9, _ => rfl
  | 5, _, 10, _ => rfl
  | 6, _, 0, _ => rfl
  | 6, _, 1, _ => rfl
  | 6, _, 2, _ => rfl
  | 6, _, 3, _ => rfl
  | 6, _, 4, _ => rfl
  | 6, _, 5, _ => rfl
  | 6, _, 6, _ => rfl
  | 6, _, 7, _ => rfl
  | 6, _, 8, _ => rfl
  | 6, _, 9, _ => rfl
  | 6, _, 10, _ => rfl
  | 7, _, 0, _ => rfl
  | 7, _, 1, _ => rfl
  | 7, _, 2, _ => rfl
  | 7, _, 3, _ => rfl
  | 7, _, 4, _ => rfl
  | 7, _, 5, _ => rfl
  | 7, _, 6, _ => rfl
  | 7, _, 7, _ => rfl
  | 7, _, 8, _ => rfl
  | 7, _, 9, _ => rfl
  | 7, _, 10, _ => rfl
  | k + 8, h, _, _ => absurd h (by omega)
  | 0, _, j + 11, h => absurd h (by omega)
  | 1, _, j + 11, h => absurd h (by omega)
  | 2, _, j + 11, h => absurd h (by omega)
  | 3, _, j + 11, h => absurd h (by omega)
  | 4, _, j + 11, h => absurd h (by omega)
  | 5, _, j + 11, h => absurd h (by omega)
  | 6, _, j + 11, h => absurd h (by omega)
  | 7, _, j + 11, h => absurd h (by omega)
abbrev SlotV := FrV × List (List Tb)
structure SlotS (S : Nat → Prop) (M : Mem) (r : RawS) (f : FrV) (rows : List (List Tb)) : Prop where
  t : r.t = true
  w0 : r.w0 = f.w0
  h0 : r.h0 = f.h0
  n0 : r.n0 = f.x0.length
  w1 : r.w1 = f.w1
  h1 : r.h1 = f.h1
  n1 : r.n1 = f.x1.length
  w2 : r.w2 = f.w2
  h2 : r.h2 = f.h2
  n2 : r.n2 = f.x2.length
  fr : FrIs S M r.A0 r.A1 r.A2 f
  ns : r.ns = rows.length
  set : SetIs S M r.As rows
  fw : WholeF f
  sp : SetP rows
def SlotIs (S : Nat → Prop) (M : Mem) (r : RawS) : Option SlotV → Prop
  | none => r = RawS.zero
  | some (f, rows) => SlotS S M r f rows
theorem SlotIs.keepS {S : Nat → Prop} {M M' : Mem} {r : RawS} : ∀ {o : Option SlotV}, SlotIs S M r o → KeepS S M M' → SlotIs S M' r o
  | none, h, _ => h
  | some (f, rows), h, hk => { h with fr := h.fr.keepS hk, set := h.set.keepS hk }
theorem SlotIs.mono {S S' : Nat → Prop} {M : Mem} {r : RawS} : ∀ {o : Option SlotV}, SlotIs S M r o → (∀ b, S b → S' b) → SlotIs S' M r o
  | none, h, _ => h
  | some (f, rows), h, hs => { h with fr := h.fr.mono hs, set := h.set.mono hs }
def PoolIs (S : Nat → Prop) (M : Mem) (b : Nat) (sl : Nat → Option SlotV) : Prop := ∃ R, PoolRaw M b R ∧ ∀ n, n < 8 → SlotIs S M (R n) (sl n)
theorem PoolIs.keep {S : Nat → Prop} {M M' : Mem} {b : Nat} {sl : Nat → Option SlotV} (h : PoolIs S M b sl) (hb : ∀ k, M[b]? = some k → M'[b]? = some k) (hk : KeepS S M M') : PoolIs S M' b sl := by
  obtain ⟨R, h1, h2⟩ := h
  exact ⟨R, h1.keep hb, fun n hn => (h2 n hn).keepS hk⟩
theorem PoolIs.pre {S : Nat → Prop} {M M' : Mem} {b : Nat} {sl : Nat → Option SlotV} (h : PoolIs S M b sl) (hp : Pre M M') : PoolIs S M' b sl := h.keep (fun k hk => hp b k hk) hp.keepS
theorem PoolIs.mono {S S' : Nat → Prop} {M : Mem} {b : Nat} {sl : Nat → Option SlotV} (h : PoolIs S M b sl) (hs : ∀ b, S b → S' b) : PoolIs S' M b sl := by
  obtain ⟨R, h1, h2⟩ := h
  exact ⟨R, h1, fun n hn => (h2 n hn).mono hs⟩
theorem PoolIs.in_ {S : Nat → Prop} {M : Mem} {b : Nat} {sl : Nat → Option SlotV} (h : PoolIs S M b sl) : b < M.length := by
  obtain ⟨R, ⟨cs, h1, _⟩, _⟩ := h
  exact lt_of_get h1
end Go.Zt
