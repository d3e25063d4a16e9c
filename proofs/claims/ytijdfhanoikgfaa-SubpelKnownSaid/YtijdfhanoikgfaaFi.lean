/- That it works at all; the laws that hold the program to the document's answer. -/
import Derived.Test.YtijdfhanoikgfaaFh
set_option linter.unusedVariables false
set_option linter.unusedSimpArgs false
set_option maxRecDepth 100000
namespace Go.Zt
theorem slAddr0 (B : Option Addr) (q : Nat) : slAddr 1 B 0 q = B := by
  unfold slAddr; split
  · rfl
  · cases B <;> rfl
theorem FetchR.got {M : Mem} {w h : Int} {xs : List Int} {x y bw bh kind : Int} {r : Value × Mem} (h' : FetchR M w h xs x y bw bh kind r) (hk : FetchOk w h xs.length x y bw bh kind) :
    ∃ B cc M', r = (.tuple ⟨[.slice B (fetchS w h xs x y bw.toNat bh.toNat kind).length cc, .int .i64 0]⟩, M') ∧ Pre M M' ∧ (fetchS w h xs x y bw.toNat bh.toNat kind).length ≤ cc ∧ Grow M M' 1 B (fetchS w h xs x y bw.toNat bh.toNat kind).length ((fetchS w h xs x y bw.toNat bh.toNat kind).map (Value.int .u8)) := by
  obtain ⟨v, M'⟩ := r
  obtain ⟨h1, h2⟩ := h'
  rw [if_pos hk] at h2
  obtain ⟨B, cc, h3, h4, h5⟩ := h2
  simp only at h3
  subst h3
  exact ⟨B, cc, M', rfl, h1, h4, h5⟩
theorem FetchR.not {M : Mem} {w h : Int} {xs : List Int} {x y bw bh kind : Int} {r : Value × Mem} (h' : FetchR M w h xs x y bw bh kind r) (hk : ¬ FetchOk w h xs.length x y bw bh kind) :
    ∃ M', r = (.tuple ⟨[.slice none 0 0, .int .i64 2]⟩, M') ∧ Pre M M' := by
  obtain ⟨v, M'⟩ := r
  obtain ⟨h1, h2⟩ := h'
  rw [if_neg hk] at h2
  simp only at h2
  subst h2
  exact ⟨M', rfl, h1⟩
theorem fetchS_len (w h : Int) (xs : List Int) (x y : Int) (bw bh : Nat) (kind : Int) : (fetchS w h xs x y bw bh kind).length = bh * bw := by simp [fetchS]
theorem fetchS_bytes (w h : Int) (xs : List Int) (x y : Int) (bw bh : Nat) (kind : Int) : Bytes (fetchS w h xs x y bw bh kind) := by
  intro z hz
  unfold fetchS at hz
  obtain ⟨q, _, rfl⟩ := List.mem_map.1 hz
  exact sampS_le ..

theorem taps_key (kind at_ : Int) : P.keyLits 9 22 ((tapsS kind at_).map (Value.int .i64)) = some ((tapsS kind at_).map (Lit.int .i64)) :=
  keyLits_ints (d := 7) (e := 3) (n := 8) Go.Proofs.Try.underlying22 Go.Proofs.Try.underlying3 (by kernel_rfl) (by kernel_rfl) (tapsS_len _ _) fun x hx => by
    obtain ⟨i, hi, rfl⟩ := List.mem_iff_getElem.1 hx
    have := (tapsS_ok kind at_).2 i
    rw [List.getD_eq_getElem?_getD, List.getElem?_eq_getElem hi] at this
    simp only [Option.getD_some] at this
    simp [Lit.wf, IntKind.min, IntKind.max, IntKind.signed, IntKind.bits]; omega
theorem lits8 (l : List Int) (hl : l.length = 8) (hw : ∀ x ∈ l, -128 ≤ x ∧ x ≤ 128) : P.keyLits 9 22 (l.map (Value.int .i64)) = some (l.map (Lit.int .i64)) :=
  keyLits_ints (d := 7) (e := 3) (n := 8) Go.Proofs.Try.underlying22 Go.Proofs.Try.underlying3 (by kernel_rfl) (by kernel_rfl) hl fun x hx => by
    have := hw x hx
    simp [Lit.wf, IntKind.min, IntKind.max, IntKind.signed, IntKind.bits]; omega

theorem given_ok (lo : Nat) (M : Mem) : Ac P T lo F.zoetropelaw14_given [] M fun r => r = (.agg ⟨[.int .i64 4, .int .i64 1, .slice (some ⟨M.length, 0, none⟩) 4 4]⟩, M ++ [⟨.fx, [.int .u8 0, .int .u8 100, .int .u8 100, .int .u8 0]⟩]) := by
  refine Ac.of (Evp.of_eq (fun k => zoetropelaw14_given.entry k ..) ?_)
  exact Evp.ret (Run.ret rfl)
abbrev givenL : List Int := [0, 100, 100, 0]
theorem givenB : Bytes givenL := by intro x hx; simp at hx; omega
theorem row_ok (lo : Nat) (x y kind : Int) (M : Mem) (hlo : lo ≤ M.length) (hk : FetchOk 4 1 4 x y 4 4 kind) : Ac P T lo F.zoetropelaw14_row [.int .i64 x, .int .i64 y, .int .i64 kind] M fun r => ∃ B cc M', r = (.slice B 4 cc, M') ∧ Pre M M' ∧ RdI M' .u8 B ((fetchS 4 1 givenL x y 4 4 kind).take 4) := by
  refine Ac.of (Evp.of_eq (fun k => zoetropelaw14_row.entry k ..) ?_)
  refine Evp.ob (given_ok ..) ?_
  rintro _ rfl
  simp only [ret_int, ret_bool, ret_flt, ret_slc, ret_str, ret_ptr, ret_agg, ret_tup, ob_some, bb_true, bb_false, List.getElem?_cons_zero, List.getElem?_cons_succ, List.length_cons, List.length_nil, Nat.reduceAdd, Nat.reduceLT]
  have p1 := Pre.app M [⟨.fx, givenL.map (Value.int .u8)⟩]
  refine Evp.ob (fetch_ok lo 4 1 (some ⟨M.length, 0, none⟩) 4 givenL x y 4 4 kind _ (RdI.lit (k := .u8) givenL) givenB (by decide) (Nat.le_trans hlo p1.len)) ?_
  intro r hr
  obtain ⟨B, cc, M', rfl, h1, h2, h3⟩ := hr.got hk
  have hl := fetchS_len 4 1 givenL x y 4 4 kind
  rw [show ((4 : Int)).toNat = 4 from rfl] at h2 h3 ⊢
  have hrd := h3.rdI
  rw [hl] at h2 h3 ⊢
  simp only [ret_int, ret_bool, ret_flt, ret_slc, ret_str, ret_ptr, ret_agg, ret_tup, ob_some, bb_true, bb_false, List.getElem?_cons_zero, List.getElem?_cons_succ, List.length_cons, List.length_nil, Nat.reduceAdd, Nat.reduceLT]
  refine Evp.ff rfl (Evp.ff rfl ?_)
  refine Evp.pos (by omega) ?_
  rw [slAddr0]
  refine Evp.ret (Run.ret ⟨B, cc - 0, M', rfl, p1.trans h1, ?_⟩)
  have := hrd.slAddr (l := 0) (h := 4) (c := cc) (by omega) (by rw [hl]; omega) (by rw [hl]; omega)
  rw [slAddr0] at this
  simpa using this
theorem works_ok (lo : Nat) (M : Mem) (hlo : lo ≤ M.length) : Ac P T lo F.zoetropelaw14_works [] M fun r => ∃ M', r = (.bool true, M') ∧ Pre M M' := by
  refine Ac.of (Evp.of_eq (fun k => zoetropelaw14_works.entry k ..) ?_)
  refine Evp.ob (taps_ok _ _ _ _ hlo) ?_
  rintro _ ⟨M1, rfl, p1⟩
  have e1 : tapsS 0 15 = [0, 0, -2, 8, 126, -6, 2, 0] := by decide
  have e2 : tapsE 0 15 = 0 := by decide
  rw [e1, e2]
  simp only [ret_int, ret_bool, ret_flt, ret_slc, ret_str, ret_ptr, ret_agg, ret_tup, ob_some, bb_true, bb_false, List.getElem?_cons_zero, List.getElem?_cons_succ, List.length_cons, List.length_nil, Nat.reduceAdd, Nat.reduceLT, List.map_cons, List.map_nil]
  refine Evp.tt rfl ?_
  have key := lits8 [0, 0, -2, 8, 126, -6, 2, 0] rfl (by intro x hx; simp at hx; omega)
  refine Evp.some key (Evp.some key ?_)
  refine Evp.tt (by rw [sameLits_ints]; rfl) ?_
  have l1 := p1.len
  refine Evp.ob (row_ok _ _ _ _ _ (by omega) (by decide)) ?_
  rintro _ ⟨B, cc, M2, rfl, p2, h2⟩
  simp only [ret_int, ret_bool, ret_flt, ret_slc, ret_str, ret_ptr, ret_agg, ret_tup, ob_some, bb_true, bb_false, List.getElem?_cons_zero, List.getElem?_cons_succ, List.length_cons, List.length_nil, Nat.reduceAdd, Nat.reduceLT]
  have e3 : (fetchS 4 1 givenL 16 99 4 4 1).take 4 = [100, 100, 0, 0] := by kernel_rfl
  rw [e3] at h2
  have p3 := Pre.app M2 [⟨.fx, ([100, 100, 0, 0] : List Int).map (Value.int .u8)⟩]
  refine Evp.ob (eqBytes_ok _ _ _ _ _ _ _ _ (h2.pre p3) (RdI.lit (k := .u8) [100, 100, 0, 0]) (by decide)) ?_
  rintro _ rfl
  simp only [ret_int, ret_bool, ret_flt, ret_slc, ret_str, ret_ptr, ret_agg, ret_tup, ob_some, bb_true, bb_false, List.getElem?_cons_zero, List.getElem?_cons_succ, List.length_cons, List.length_nil, Nat.reduceAdd, Nat.reduceLT]
  refine Evp.tt rfl ?_
  have l2 := p2.len
  have l3 := p3.len
  refine Evp.ob (row_ok _ _ _ _ _ (by first | omega | (simp; omega)) (by decide)) ?_
  rintro _ ⟨B', cc', M4, rfl, p4, h4⟩
  simp only [ret_int, ret_bool, ret_flt, ret_slc, ret_str, ret_ptr, ret_agg, ret_tup, ob_some, bb_true, bb_false, List.getElem?_cons_zero, List.getElem?_cons_succ, List.length_cons, List.length_nil, Nat.reduceAdd, Nat.reduceLT]
  have e5 : (fetchS 4 1 givenL 8 0 4 4 2).take 4 = [50, 100, 50, 0] := by kernel_rfl
  rw [e5] at h4
  have p5 := Pre.app M4 [⟨.fx, ([50, 100, 50, 0] : List Int).map (Value.int .u8)⟩]
  refine Evp.ob (eqBytes_ok _ _ _ _ _ _ _ _ (h4.pre p5) (RdI.lit (k := .u8) [50, 100, 50, 0]) (by decide)) ?_
  rintro _ rfl
  simp only [ret_int, ret_bool, ret_flt, ret_slc, ret_str, ret_ptr, ret_agg, ret_tup, ob_some, bb_true, bb_false, List.getElem?_cons_zero, List.getElem?_cons_succ, List.length_cons, List.length_nil, Nat.reduceAdd, Nat.reduceLT]
  exact Evp.ret (Run.ret ⟨_, rfl, (((p1.trans p2).trans p3).trans p4).trans p5⟩)

theorem staps_k (lo : Nat) (kind at_ i : Int) (hi : -1 ≤ i ∧ i < 4) {Q : Value × Mem → Prop} (hnext : ∀ M : Mem, lo ≤ M.length → Run P T lo F.zoetropelaw14_SubpelTaps (zoetropelaw14_SubpelTaps.c52 kind at_ (i + 1) M) Q) :
    ∀ (d : Nat) (k : Int) (M : Mem), (18 - k).toNat = d → -1 ≤ k → k ≤ 18 → lo ≤ M.length → Run P T lo F.zoetropelaw14_SubpelTaps (zoetropelaw14_SubpelTaps.c3364 kind at_ i k M) Q := by
  intro d
  induction d with
  | zero =>
    intro k M hd h1 h2 hlo
    obtain rfl : k = 18 := by omega
    refine Run.cut (Evp.of_eq (fun k => zoetropelaw14_SubpelTaps.p3364 k ..) ?_)
    refine Evp.dec (fun h => absurd h (by omega)) fun _ => ?_
    rw [w64 (by omega)]
    exact Evp.ret (hnext M hlo)
  | succ d ih =>
    intro k M hd h1 h2 hlo
    refine Run.cut (Evp.of_eq (fun k => zoetropelaw14_SubpelTaps.p3364 k ..) ?_)
    refine Evp.dec (fun _ => ?_) fun h => absurd h (by omega)
    refine Evp.ob (taps_ok _ _ _ _ hlo) ?_
    rintro _ ⟨M1, rfl, p1⟩
    rw [list8 _ (tapsS_len i k)]
    simp only [ret_int, ret_bool, ret_flt, ret_slc, ret_str, ret_ptr, ret_agg, ret_tup, ob_some, bb_true, bb_false, List.getElem?_cons_zero, List.getElem?_cons_succ, List.length_cons, List.length_nil, Nat.reduceAdd, Nat.reduceLT]
    refine Evp.ob (rtaps_ok ..) ?_
    rintro _ rfl
    rw [list8 _ (tapsS_len i k)]
    simp only [ret_int, ret_bool, ret_flt, ret_slc, ret_str, ret_ptr, ret_agg, ret_tup, ob_some, bb_true, bb_false, List.getElem?_cons_zero, List.getElem?_cons_succ, List.length_cons, List.length_nil, Nat.reduceAdd, Nat.reduceLT]
    rw [← list8 _ (tapsS_len i k)]
    refine Evp.some (taps_key i k) (Evp.some (taps_key i k) ?_)
    refine Evp.ff (by rw [sameLits_ints]; simp) ?_
    refine Evp.ff (by simp) ?_
    rw [w64 (by omega)]
    have := p1.len
    exact Evp.ret (ih (k + 1) M1 (by omega) (by omega) (by omega) (by omega))
theorem staps_i (lo : Nat) (kind at_ : Int) : ∀ (d : Nat) (i : Int) (M : Mem), (4 - i).toNat = d → -1 ≤ i → i ≤ 4 → lo ≤ M.length → Run P T lo F.zoetropelaw14_SubpelTaps (zoetropelaw14_SubpelTaps.c52 kind at_ i M) fun r => r.1 = .bool true := by
  intro d
  induction d with
  | zero =>
    intro i M hd h1 h2 hlo
    obtain rfl : i = 4 := by omega
    refine Run.cut (Evp.of_eq (fun k => zoetropelaw14_SubpelTaps.p52 k ..) ?_)
    refine Evp.dec (fun h => absurd h (by omega)) fun _ => ?_
    refine Evp.ob (taps_ok _ _ _ _ hlo) ?_
    rintro _ ⟨M1, rfl, p1⟩
    rw [list8 _ (tapsS_len kind at_)]
    simp only [ret_int, ret_bool, ret_flt, ret_slc, ret_str, ret_ptr, ret_agg, ret_tup, ob_some, bb_true, bb_false, List.getElem?_cons_zero, List.getElem?_cons_succ, List.length_cons, List.length_nil, Nat.reduceAdd, Nat.reduceLT]
    refine Evp.ob (rtaps_ok ..) ?_
    rintro _ rfl
    rw [list8 _ (tapsS_len kind at_)]
    simp only [ret_int, ret_bool, ret_flt, ret_slc, ret_str, ret_ptr, ret_agg, ret_tup, ob_some, bb_true, bb_false, List.getElem?_cons_zero, List.getElem?_cons_succ, List.length_cons, List.length_nil, Nat.reduceAdd, Nat.reduceLT]
    rw [← list8 _ (tapsS_len kind at_)]
    refine Evp.some (taps_key kind at_) (Evp.some (taps_key kind at_) ?_)
    refine Evp.tt (by rw [sameLits_ints]; simp) ?_
    refine Evp.tt (by simp) ?_
    have := p1.len
    refine Evp.ob (works_ok _ _ (by omega)) ?_
    rintro _ ⟨M2, rfl, _⟩
    simp only [ret_int, ret_bool, ret_flt, ret_slc, ret_str, ret_ptr, ret_agg, ret_tup, ob_some, bb_true, bb_false, List.getElem?_cons_zero, List.getElem?_cons_succ, List.length_cons, List.length_nil, Nat.reduceAdd, Nat.reduceLT]
    exact Evp.ret (Run.ret rfl)
  | succ d ih =>
    intro i M hd h1 h2 hlo
    refine Run.cut (Evp.of_eq (fun k => zoetropelaw14_SubpelTaps.p52 k ..) ?_)
    refine Evp.dec (fun _ => ?_) fun h => absurd h (by omega)
    exact Evp.ret (staps_k lo kind at_ i (by omega) (fun M' hl => ih (i + 1) M' (by omega) (by omega) (by omega) hl) _ (-1) M rfl (by omega) (by omega) hlo)
theorem SubpelTaps_law (M : Mem) (vs : List Value) (hro : AllRo M) (h : LaysArgs P M [3, 3] vs) : Ac P T M.length F.zoetropelaw14_SubpelTaps vs M fun r => r.1 = .bool true := by
  obtain ⟨kind, at_, rfl, _, _⟩ := Arg.SubpelTaps h
  refine Ac.of (Evp.of_eq (fun k => zoetropelaw14_SubpelTaps.entry k ..) ?_)
  exact Evp.ret (staps_i _ kind at_ _ (-1) M rfl (by omega) (by omega) (Nat.le_refl _))
end Go.Zt
