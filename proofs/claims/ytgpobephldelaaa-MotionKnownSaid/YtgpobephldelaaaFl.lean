/- A block of a frame, moved: both texts. -/
import Derived.Test.YtgpobephldelaaaFk
set_option linter.unusedVariables false
set_option linter.unusedSimpArgs false
set_option maxRecDepth 100000
namespace Go.Zt
theorem FetchR.got {M : Mem} {w h : Int} {xs : List Int} {x y bw bh kind : Int} {r : Value × Mem} (h' : FetchR M w h xs x y bw bh kind r) (hk : FetchOk w h xs.length x y bw bh kind) :
    ∃ B cc M', r = (.tuple ⟨[.slice B (fetchS w h xs x y bw.toNat bh.toNat kind).length cc, .int .i64 0]⟩, M') ∧ Pre M M' ∧ (fetchS w h xs x y bw.toNat bh.toNat kind).length ≤ cc ∧ Grow M M' 1 B (fetchS w h xs x y bw.toNat bh.toNat kind).length ((fetchS w h xs x y bw.toNat bh.toNat kind).map (Value.int .u8)) := by
  obtain ⟨v, M'⟩ := r
  obtain ⟨h1, h2⟩ := h'
  rw [if_pos hk] at h2
  obtain ⟨B, cc, h3, h4, h5⟩ := h2
  simp only at h3
  subst h3
  exact ⟨B, cc, M', rfl, h1, h4, h5⟩
theorem FetchR.not {M : Mem} {w h : Int} {xs : List Int} {x y bw bh kind : Int} {r : Value × Mem} (h' : FetchR M w h xs x y bw bh kind r) (hk : ¬ FetchOk w h xs.length x y bw bh kind) :
    ∃ M', r = (.tuple ⟨[.slice none 0 0, .int .i64 2]⟩, M') ∧ Pre M M' := by
  obtain ⟨v, M'⟩ := r
  obtain ⟨h1, h2⟩ := h'
  rw [if_neg hk] at h2
  simp only at h2
  subst h2
  exact ⟨M', rfl, h1⟩
theorem fetchS_len (w h : Int) (xs : List Int) (x y : Int) (bw bh : Nat) (kind : Int) : (fetchS w h xs x y bw bh kind).length = bh * bw := by simp [fetchS]
theorem fetchS_bytes (w h : Int) (xs : List Int) (x y : Int) (bw bh : Nat) (kind : Int) : Bytes (fetchS w h xs x y bw bh kind) := by
  intro z hz
  unfold fetchS at hz
  obtain ⟨q, _, rfl⟩ := List.mem_map.1 hz
  exact sampS_le ..

theorem part_ok (lo : Nat) (v : Int) (M : Mem) : Ac P T lo F.zoetroperef15_part [.int .i64 v] M fun r => r = (.bool (decide (-4095 ≤ v ∧ v ≤ 4095)), M) := by
  refine Ac.of (Evp.of_eq (fun k => zoetroperef15_part.entry k ..) ?_)
  refine Evp.dec (fun h => Evp.ret (Run.ret ?_)) fun h => Evp.ret (Run.ret (by rw [decide_eq_false (fun e => h e.1)]))
  congr 2
  exact decide_eq_decide.2 ⟨fun e => ⟨h, e⟩, fun e => e.2⟩
def pk {α : Type} (n : Int) (a b c : α) : α := if n = 0 then a else if n = 1 then b else c
def SingleOk (w0 h0 n0 w1 h1 n1 w2 h2 n2 n x y w h vx vy : Int) : Prop := WholeP w0 h0 n0 w1 h1 n1 w2 h2 n2 ∧ (0 ≤ n ∧ n ≤ 2) ∧ (0 ≤ x ∧ x ≤ 1024) ∧ (0 ≤ y ∧ y ≤ 1024) ∧ (4 ≤ w ∧ w ≤ 64) ∧ (4 ≤ h ∧ h ≤ 64) ∧ (-4095 ≤ vx ∧ vx ≤ 4095) ∧ (-4095 ≤ vy ∧ vy ≤ 4095)
instance (w0 h0 n0 w1 h1 n1 w2 h2 n2 n x y w h vx vy : Int) : Decidable (SingleOk w0 h0 n0 w1 h1 n1 w2 h2 n2 n x y w h vx vy) := inferInstanceAs (Decidable (_ ∧ _))
def byS (n : Int) : Int := if n = 0 then 2 else 1
section
variable (lo : Nat) (w0 h0 w1 h1 w2 h2 : Int) (A0 A1 A2 : Option Addr) (c0 c1 c2 : Nat) (xs ys zs : List Int) (n x y w h vx vy kind : Int) (M : Mem)
def SingleR (r : Value × Mem) : Prop :=
  if SingleOk w0 h0 xs.length w1 h1 ys.length w2 h2 zs.length n x y w h vx vy then FetchR M (pk n w0 w1 w2) (pk n h0 h1 h2) (pk n xs ys zs) (16 * x + byS n * vx) (16 * y + byS n * vy) w h kind r
  else Pre M r.2 ∧ r.1 = .tuple ⟨[.slice none 0 0, .int .i64 2]⟩
theorem fetchR_again {M : Mem} {w h : Int} {xs : List Int} {x y bw bh kind : Int} {r : Value × Mem} {lo : Nat} {f : FuncId} {Q : Value × Mem → Prop} (h' : FetchR M w h xs x y bw bh kind r) (hq : Q r) :
    Evp (fun k => ob (r.1.tup? 2) fun l49 => ob ((l49[0]?).bind Value.slc?) fun s50 => ob ((l49[1]?).bind (Value.int? .i64)) fun x51 => some (Out.ret (.tuple ⟨[.slice s50.a s50.n s50.c, .int .i64 x51]⟩) r.2)) fun out => Run P T lo f out Q := by
  by_cases hk : FetchOk w h xs.length x y bw bh kind
  · obtain ⟨B, cc, M', rfl, _⟩ := h'.got hk
    simp only [ret_int, ret_bool, ret_flt, ret_slc, ret_str, ret_ptr, ret_agg, ret_tup, ob_some, bb_true, bb_false, List.getElem?_cons_zero, List.getElem?_cons_succ, List.length_cons, List.length_nil, Nat.reduceAdd, Nat.reduceLT]
    exact Evp.ret (Run.ret hq)
  · obtain ⟨M', rfl, _⟩ := h'.not hk
    simp only [ret_int, ret_bool, ret_flt, ret_slc, ret_str, ret_ptr, ret_agg, ret_tup, ob_some, bb_true, bb_false, List.getElem?_cons_zero, List.getElem?_cons_succ, List.length_cons, List.length_nil, Nat.reduceAdd, Nat.reduceLT]
    exact Evp.ret (Run.ret hq)
variable (hx : RdI M .u8 A0 xs) (hy : RdI M .u8 A1 ys) (hz : RdI M .u8 A2 zs) (bx : Bytes xs) (by_ : Bytes ys) (bz : Bytes zs) (k0 : xs.length ≤ c0) (k1 : ys.length ≤ c1) (k2 : zs.length ≤ c2) (hlo : lo ≤ M.length)
include hx hy hz bx by_ bz k0 k1 k2 hlo
theorem single_ok : Ac P T lo F.motion_Single [.agg ⟨[.int .i64 w0, .int .i64 h0, .slice A0 xs.length c0, .int .i64 w1, .int .i64 h1, .slice A1 ys.length c1, .int .i64 w2, .int .i64 h2, .slice A2 zs.length c2]⟩, .int .i64 n, .agg ⟨[.int .i64 x, .int .i64 y, .int .i64 w, .int .i64 h]⟩, .agg ⟨[.int .i64 vx, .int .i64 vy]⟩, .int .i64 kind] M
    (SingleR w0 h0 w1 h1 w2 h2 xs ys zs n x y w h vx vy kind M) := by
  have bad : ∀ {out : Out}, out = .ret (.tuple ⟨[.slice none 0 0, .int .i64 2]⟩) M → ¬ SingleOk w0 h0 xs.length w1 h1 ys.length w2 h2 zs.length n x y w h vx vy → Run P T lo F.motion_Single out (SingleR w0 h0 w1 h1 w2 h2 xs ys zs n x y w h vx vy kind M) := fun e hn => by
    subst e; exact Run.ret (by unfold SingleR; rw [if_neg hn]; exact ⟨Pre.refl _, rfl⟩)
  have c25 : ∀ b : Bool, b = true → ¬ SingleOk w0 h0 xs.length w1 h1 ys.length w2 h2 zs.length n x y w h vx vy → Run P T lo F.motion_Single (motion_Single.c25 n kind b w0 h0 A0 xs.length c0 w1 h1 A1 ys.length c1 w2 h2 A2 zs.length c2 x y w h vx vy M) (SingleR w0 h0 w1 h1 w2 h2 xs ys zs n x y w h vx vy kind M) := fun b hb hn => by
    subst hb
    refine Run.cut (Evp.of_eq (fun k => motion_Single.p25 k ..) ?_)
    exact Evp.tt rfl (Evp.ret (bad rfl hn))
  have c103 : ∀ b : Bool, b = true → ¬ SingleOk w0 h0 xs.length w1 h1 ys.length w2 h2 zs.length n x y w h vx vy → Run P T lo F.motion_Single (motion_Single.c103 n kind b w0 h0 A0 xs.length c0 w1 h1 A1 ys.length c1 w2 h2 A2 zs.length c2 x y w h vx vy M) (SingleR w0 h0 w1 h1 w2 h2 xs ys zs n x y w h vx vy kind M) := fun b hb hn => by
    subst hb
    refine Run.cut (Evp.of_eq (fun k => motion_Single.p103 k ..) ?_)
    exact Evp.tt rfl (Evp.ret (bad rfl hn))
  have c415 : ∀ b : Bool, b = true → ¬ SingleOk w0 h0 xs.length w1 h1 ys.length w2 h2 zs.length n x y w h vx vy → Run P T lo F.motion_Single (motion_Single.c415 n kind b w0 h0 A0 xs.length c0 w1 h1 A1 ys.length c1 w2 h2 A2 zs.length c2 x y w h vx vy M) (SingleR w0 h0 w1 h1 w2 h2 xs ys zs n x y w h vx vy kind M) := fun b hb hn => by
    subst hb
    refine Run.cut (Evp.of_eq (fun k => motion_Single.p415 k ..) ?_)
    exact Evp.tt rfl (Evp.ret (bad rfl hn))
  refine Ac.of (Evp.of_eq (fun k => motion_Single.entry k ..) ?_)
  refine Evp.ob (whole_ok ..) ?_
  rintro _ rfl
  simp only [ret_int, ret_bool, ret_flt, ret_slc, ret_str, ret_ptr, ret_agg, ret_tup, ob_some, bb_true, bb_false, List.getElem?_cons_zero, List.getElem?_cons_succ, List.length_cons, List.length_nil, Nat.reduceAdd, Nat.reduceLT]
  refine Evp.neb (fun hne => Evp.ret (c25 _ (by simpa using hne) fun e => ?_)) fun hw => ?_
  · exact hne (wholeS_pos (hw := e.1) ..)
  have hwp : WholeP w0 h0 xs.length w1 h1 ys.length w2 h2 zs.length := by
    by_cases hp : WholeP w0 h0 xs.length w1 h1 ys.length w2 h2 zs.length
    · exact hp
    · rw [wholeS_neg (hw := hp) ..] at hw; exact absurd hw (by decide)
  refine Evp.ob (mwithin_ok ..) ?_
  rintro _ rfl
  simp only [ret_int, ret_bool, ret_flt, ret_slc, ret_str, ret_ptr, ret_agg, ret_tup, ob_some, bb_true, bb_false, List.getElem?_cons_zero, List.getElem?_cons_succ, List.length_cons, List.length_nil, Nat.reduceAdd, Nat.reduceLT]
  by_cases g0 : ¬ (0 ≤ n ∧ n ≤ 2)
  · exact Evp.ret (c25 _ (by rw [decide_eq_false g0]; rfl) fun e => g0 e.2.1)
  have g0 := Decidable.not_not.1 g0
  rw [decide_eq_true g0]
  refine Evp.ret ?_
  refine Run.cut (Evp.of_eq (fun k => motion_Single.p25 k ..) ?_)
  refine Evp.ff rfl ?_
  refine Evp.ob (mwithin_ok ..) ?_
  rintro _ rfl
  simp only [ret_int, ret_bool, ret_flt, ret_slc, ret_str, ret_ptr, ret_agg, ret_tup, ob_some, bb_true, bb_false, List.getElem?_cons_zero, List.getElem?_cons_succ, List.length_cons, List.length_nil, Nat.reduceAdd, Nat.reduceLT]
  refine Evp.nb (fun g => Evp.ret (c103 _ (by rw [g]; rfl) fun e => of_decide_eq_false g e.2.2.1)) fun g1 => ?_
  have g1 := of_decide_eq_true g1
  refine Evp.ob (mwithin_ok ..) ?_
  rintro _ rfl
  simp only [ret_int, ret_bool, ret_flt, ret_slc, ret_str, ret_ptr, ret_agg, ret_tup, ob_some, bb_true, bb_false, List.getElem?_cons_zero, List.getElem?_cons_succ, List.length_cons, List.length_nil, Nat.reduceAdd, Nat.reduceLT]
  refine Evp.nb (fun g => Evp.ret (c103 _ (by rw [g]; rfl) fun e => of_decide_eq_false g e.2.2.2.1)) fun g2 => ?_
  have g2 := of_decide_eq_true g2
  refine Evp.ob (mwithin_ok ..) ?_
  rintro _ rfl
  simp only [ret_int, ret_bool, ret_flt, ret_slc, ret_str, ret_ptr, ret_agg, ret_tup, ob_some, bb_true, bb_false, List.getElem?_cons_zero, List.getElem?_cons_succ, List.length_cons, List.length_nil, Nat.reduceAdd, Nat.reduceLT]
  refine Evp.nb (fun g => Evp.ret (c103 _ (by rw [g]; rfl) fun e => of_decide_eq_false g e.2.2.2.2.1)) fun g3 => ?_
  have g3 := of_decide_eq_true g3
  refine Evp.ob (mwithin_ok ..) ?_
  rintro _ rfl
  simp only [ret_int, ret_bool, ret_flt, ret_slc, ret_str, ret_ptr, ret_agg, ret_tup, ob_some, bb_true, bb_false, List.getElem?_cons_zero, List.getElem?_cons_succ, List.length_cons, List.length_nil, Nat.reduceAdd, Nat.reduceLT]
  by_cases g4 : ¬ (4 ≤ h ∧ h ≤ 64)
  · exact Evp.ret (c103 _ (by rw [decide_eq_false g4]; rfl) fun e => g4 e.2.2.2.2.2.1)
  have g4 := Decidable.not_not.1 g4
  rw [decide_eq_true g4]
  refine Evp.ret ?_
  refine Run.cut (Evp.of_eq (fun k => motion_Single.p103 k ..) ?_)
  refine Evp.ff rfl ?_
  refine Evp.ob (mwithin_ok ..) ?_
  rintro _ rfl
  simp only [ret_int, ret_bool, ret_flt, ret_slc, ret_str, ret_ptr, ret_agg, ret_tup, ob_some, bb_true, bb_false, List.getElem?_cons_zero, List.getElem?_cons_succ, List.length_cons, List.length_nil, Nat.reduceAdd, Nat.reduceLT]
  refine Evp.nb (fun g => Evp.ret (c415 _ (by rw [g]; rfl) fun e => of_decide_eq_false g e.2.2.2.2.2.2.1)) fun g5 => ?_
  have g5 := of_decide_eq_true g5
  refine Evp.ob (mwithin_ok ..) ?_
  rintro _ rfl
  simp only [ret_int, ret_bool, ret_flt, ret_slc, ret_str, ret_ptr, ret_agg, ret_tup, ob_some, bb_true, bb_false, List.getElem?_cons_zero, List.getElem?_cons_succ, List.length_cons, List.length_nil, Nat.reduceAdd, Nat.reduceLT]
  by_cases g6 : ¬ (-4095 ≤ vy ∧ vy ≤ 4095)
  · exact Evp.ret (c415 _ (by rw [decide_eq_false g6]; rfl) fun e => g6 e.2.2.2.2.2.2.2)
  have g6 := Decidable.not_not.1 g6
  rw [decide_eq_true g6]
  refine Evp.ret ?_
  refine Run.cut (Evp.of_eq (fun k => motion_Single.p415 k ..) ?_)
  refine Evp.ff rfl ?_
  have ok : SingleOk w0 h0 xs.length w1 h1 ys.length w2 h2 zs.length n x y w h vx vy := ⟨hwp, g0, g1, g2, g3, g4, g5, g6⟩
  have wr : IntKind.i64.wrap (2 * vx) = 2 * vx ∧ IntKind.i64.wrap (2 * vy) = 2 * vy := ⟨w64 (by omega), w64 (by omega)⟩
  have fin : ∀ (px py : Int), px = byS n * vx → py = byS n * vy → Run P T lo F.motion_Single (motion_Single.c15 n kind w0 h0 A0 xs.length c0 w1 h1 A1 ys.length c1 w2 h2 A2 zs.length c2 x y w h px py M) (SingleR w0 h0 w1 h1 w2 h2 xs ys zs n x y w h vx vy kind M) := by
    rintro px py rfl rfl
    have hb : byS n = 1 ∨ byS n = 2 := by unfold byS; split <;> omega
    have e1 : IntKind.i64.wrap ((IntKind.i64.wrap (16 * x)) + byS n * vx) = 16 * x + byS n * vx := by rcases hb with hb | hb <;> rw [hb, w64 (x := 16 * x) (by omega), w64 (by omega)]
    have e2 : IntKind.i64.wrap ((IntKind.i64.wrap (16 * y)) + byS n * vy) = 16 * y + byS n * vy := by rcases hb with hb | hb <;> rw [hb, w64 (x := 16 * y) (by omega), w64 (by omega)]
    have done : ∀ r, FetchR M (pk n w0 w1 w2) (pk n h0 h1 h2) (pk n xs ys zs) (16 * x + byS n * vx) (16 * y + byS n * vy) w h kind r → SingleR w0 h0 w1 h1 w2 h2 xs ys zs n x y w h vx vy kind M r := fun r hr => by unfold SingleR; rw [if_pos ok]; exact hr
    refine Run.cut (Evp.of_eq (fun k => motion_Single.p15 k ..) ?_)
    rw [e1, e2]
    refine Evp.pos (by omega) ?_
    have hn : n = 0 ∨ n = 1 ∨ n = 2 := by omega
    rcases hn with rfl | rfl | rfl
    · refine Evp.some rfl (Evp.some rfl (Evp.some rfl ?_))
      exact Evp.ob (fetch_ok lo w0 h0 A0 c0 xs _ _ w h kind M hx bx k0 hlo) fun r hr => fetchR_again hr (done r hr)
    · refine Evp.some rfl (Evp.some rfl (Evp.some rfl ?_))
      exact Evp.ob (fetch_ok lo w1 h1 A1 c1 ys _ _ w h kind M hy by_ k1 hlo) fun r hr => fetchR_again hr (done r hr)
    · refine Evp.some rfl (Evp.some rfl (Evp.some rfl ?_))
      exact Evp.ob (fetch_ok lo w2 h2 A2 c2 zs _ _ w h kind M hz bz k2 hlo) fun r hr => fetchR_again hr (done r hr)
  rw [wr.1, wr.2]
  refine Evp.eqb (fun e => Evp.ret (fin _ _ (by unfold byS; rw [if_pos e]) (by unfold byS; rw [if_pos e]))) fun e => Evp.ret (fin _ _ (by unfold byS; rw [if_neg e, Int.one_mul]) (by unfold byS; rw [if_neg e, Int.one_mul]))
theorem rsingle_ok : Ac P T lo F.zoetroperef15_Single [.agg ⟨[.int .i64 w0, .int .i64 h0, .slice A0 xs.length c0, .int .i64 w1, .int .i64 h1, .slice A1 ys.length c1, .int .i64 w2, .int .i64 h2, .slice A2 zs.length c2]⟩, .int .i64 n, .agg ⟨[.int .i64 x, .int .i64 y, .int .i64 w, .int .i64 h]⟩, .agg ⟨[.int .i64 vx, .int .i64 vy]⟩, .int .i64 kind] M
    (SingleR w0 h0 w1 h1 w2 h2 xs ys zs n x y w h vx vy kind M) := by
  have bad : ¬ SingleOk w0 h0 xs.length w1 h1 ys.length w2 h2 zs.length n x y w h vx vy → Run P T lo F.zoetroperef15_Single (.ret (.tuple ⟨[.slice none 0 0, .int .i64 2]⟩) M) (SingleR w0 h0 w1 h1 w2 h2 xs ys zs n x y w h vx vy kind M) := fun hn => Run.ret (by unfold SingleR; rw [if_neg hn]; exact ⟨Pre.refl _, rfl⟩)
  refine Ac.of (Evp.of_eq (fun k => zoetroperef15_Single.entry k ..) ?_)
  refine Evp.ob (rwhole_ok ..) ?_
  rintro _ rfl
  simp only [ret_int, ret_bool, ret_flt, ret_slc, ret_str, ret_ptr, ret_agg, ret_tup, ob_some, bb_true, bb_false, List.getElem?_cons_zero, List.getElem?_cons_succ, List.length_cons, List.length_nil, Nat.reduceAdd, Nat.reduceLT]
  refine Evp.neb (fun hne => Evp.ret (bad fun e => ?_)) fun hw => ?_
  · exact hne (wholeS_pos (hw := e.1) ..)
  have hwp : WholeP w0 h0 xs.length w1 h1 ys.length w2 h2 zs.length := by
    by_cases hp : WholeP w0 h0 xs.length w1 h1 ys.length w2 h2 zs.length
    · exact hp
    · rw [wholeS_neg (hw := hp) ..] at hw; exact absurd hw (by decide)
  refine Evp.dec (fun g => Evp.ret (bad fun e => by have := e.2.1; omega)) fun g1 => ?_
  refine Evp.dec (fun g => Evp.ret (bad fun e => by have := e.2.1; omega)) fun g2 => ?_
  refine Evp.dec (fun g => Evp.ret (bad fun e => by have := e.2.2.1; omega)) fun g3 => ?_
  refine Evp.dec (fun g => Evp.ret (bad fun e => by have := e.2.2.1; omega)) fun g4 => ?_
  refine Evp.dec (fun g => Evp.ret (bad fun e => by have := e.2.2.2.1; omega)) fun g5 => ?_
  refine Evp.dec (fun g => Evp.ret (bad fun e => by have := e.2.2.2.1; omega)) fun g6 => ?_
  refine Evp.dec (fun g => Evp.ret (bad fun e => by have := e.2.2.2.2.1; omega)) fun g7 => ?_
  refine Evp.dec (fun g => Evp.ret (bad fun e => by have := e.2.2.2.2.1; omega)) fun g8 => ?_
  refine Evp.dec (fun g => Evp.ret (bad fun e => by have := e.2.2.2.2.2.1; omega)) fun g9 => ?_
  refine Evp.dec (fun g => Evp.ret (bad fun e => by have := e.2.2.2.2.2.1; omega)) fun g10 => ?_
  refine Evp.ob (part_ok ..) ?_
  rintro _ rfl
  simp only [ret_int, ret_bool, ret_flt, ret_slc, ret_str, ret_ptr, ret_agg, ret_tup, ob_some, bb_true, bb_false, List.getElem?_cons_zero, List.getElem?_cons_succ, List.length_cons, List.length_nil, Nat.reduceAdd, Nat.reduceLT]
  refine Evp.nb (fun g => Evp.ret (bad fun e => of_decide_eq_false g e.2.2.2.2.2.2.1)) fun g11 => ?_
  have g11 := of_decide_eq_true g11
  refine Evp.ob (part_ok ..) ?_
  rintro _ rfl
  simp only [ret_int, ret_bool, ret_flt, ret_slc, ret_str, ret_ptr, ret_agg, ret_tup, ob_some, bb_true, bb_false, List.getElem?_cons_zero, List.getElem?_cons_succ, List.length_cons, List.length_nil, Nat.reduceAdd, Nat.reduceLT]
  refine Evp.nb (fun g => Evp.ret (bad fun e => of_decide_eq_false g e.2.2.2.2.2.2.2)) fun g12 => ?_
  have g12 := of_decide_eq_true g12
  have ok : SingleOk w0 h0 xs.length w1 h1 ys.length w2 h2 zs.length n x y w h vx vy := ⟨hwp, by omega, by omega, by omega, by omega, by omega, g11, g12⟩
  have fin : ∀ b : Int, b = byS n → Run P T lo F.zoetroperef15_Single (zoetroperef15_Single.c31 n kind b w0 h0 A0 xs.length c0 w1 h1 A1 ys.length c1 w2 h2 A2 zs.length c2 x y w h vx vy M) (SingleR w0 h0 w1 h1 w2 h2 xs ys zs n x y w h vx vy kind M) := by
    rintro b rfl
    have hb : byS n = 1 ∨ byS n = 2 := by unfold byS; split <;> omega
    have e1 : IntKind.i64.wrap ((IntKind.i64.wrap (16 * x)) + (IntKind.i64.wrap (byS n * vx))) = 16 * x + byS n * vx := by rcases hb with hb | hb <;> rw [hb, w64 (x := 16 * x) (by omega), w64 (x := _ * vx) (by omega), w64 (by omega)]
    have e2 : IntKind.i64.wrap ((IntKind.i64.wrap (16 * y)) + (IntKind.i64.wrap (byS n * vy))) = 16 * y + byS n * vy := by rcases hb with hb | hb <;> rw [hb, w64 (x := 16 * y) (by omega), w64 (x := _ * vy) (by omega), w64 (by omega)]
    have done : ∀ r, FetchR M (pk n w0 w1 w2) (pk n h0 h1 h2) (pk n xs ys zs) (16 * x + byS n * vx) (16 * y + byS n * vy) w h kind r → SingleR w0 h0 w1 h1 w2 h2 xs ys zs n x y w h vx vy kind M r := fun r hr => by unfold SingleR; rw [if_pos ok]; exact hr
    refine Run.cut (Evp.of_eq (fun k => zoetroperef15_Single.p31 k ..) ?_)
    rw [e1, e2]
    refine Evp.pos (by omega) ?_
    have hn : n = 0 ∨ n = 1 ∨ n = 2 := by omega
    rcases hn with rfl | rfl | rfl
    · refine Evp.some rfl (Evp.some rfl (Evp.some rfl ?_))
      exact Evp.ob (rfetch_ok lo w0 h0 A0 c0 xs _ _ w h kind M hx bx k0 hlo) fun r hr => fetchR_again hr (done r hr)
    · refine Evp.some rfl (Evp.some rfl (Evp.some rfl ?_))
      exact Evp.ob (rfetch_ok lo w1 h1 A1 c1 ys _ _ w h kind M hy by_ k1 hlo) fun r hr => fetchR_again hr (done r hr)
    · refine Evp.some rfl (Evp.some rfl (Evp.some rfl ?_))
      exact Evp.ob (rfetch_ok lo w2 h2 A2 c2 zs _ _ w h kind M hz bz k2 hlo) fun r hr => fetchR_again hr (done r hr)
  refine Evp.eqb (fun e => Evp.ret (fin _ (by unfold byS; rw [if_pos e]))) fun e => Evp.ret (fin _ (by unfold byS; rw [if_neg e]))
end
/-- What a block that is moved comes to. -/
def singleL (w0 h0 w1 h1 w2 h2 : Int) (xs ys zs : List Int) (n x y w h vx vy kind : Int) : List Int := fetchS (pk n w0 w1 w2) (pk n h0 h1 h2) (pk n xs ys zs) (16 * x + byS n * vx) (16 * y + byS n * vy) w.toNat h.toNat kind
theorem SingleR.cases {w0 h0 w1 h1 w2 h2 : Int} {xs ys zs : List Int} {n x y w h vx vy kind : Int} {M : Mem} {r : Value × Mem} (hr : SingleR w0 h0 w1 h1 w2 h2 xs ys zs n x y w h vx vy kind M r) :
    ∃ (l : List Int) (e : Int) (B : Option Addr) (cc : Nat) (M' : Mem), r = (.tuple ⟨[.slice B l.length cc, .int .i64 e]⟩, M') ∧ Pre M M' ∧ l.length ≤ cc ∧ OwnM M M' B l ∧ l.length ≤ 4096 ∧
      (∃ q : Prop, ∃ _ : Decidable q, l = (if q then singleL w0 h0 w1 h1 w2 h2 xs ys zs n x y w h vx vy kind else []) ∧ e = (if q then 0 else 2) ∧ (q ↔ SingleOk w0 h0 xs.length w1 h1 ys.length w2 h2 zs.length n x y w h vx vy ∧ FetchOk (pk n w0 w1 w2) (pk n h0 h1 h2) (pk n xs ys zs).length (16 * x + byS n * vx) (16 * y + byS n * vy) w h kind)) := by
  unfold SingleR at hr
  by_cases hs : SingleOk w0 h0 xs.length w1 h1 ys.length w2 h2 zs.length n x y w h vx vy
  · rw [if_pos hs] at hr
    by_cases hk : FetchOk (pk n w0 w1 w2) (pk n h0 h1 h2) (pk n xs ys zs).length (16 * x + byS n * vx) (16 * y + byS n * vy) w h kind
    · obtain ⟨B, cc, M', rfl, p, u1, u2⟩ := hr.got hk
      have hl := fetchS_len (pk n w0 w1 w2) (pk n h0 h1 h2) (pk n xs ys zs) (16 * x + byS n * vx) (16 * y + byS n * vy) w.toNat h.toNat kind
      have sz : h.toNat * w.toNat ≤ 4096 := by
        obtain ⟨_, _, _, _, g3, g4, _⟩ := hs
        exact small_mul (by omega) (by omega)
      exact ⟨_, 0, B, cc, M', rfl, p, u1, u2.own, by rw [hl]; exact sz, True, inferInstance, by rw [if_pos trivial]; rfl, by rw [if_pos trivial], ⟨fun _ => ⟨hs, hk⟩, fun _ => trivial⟩⟩
    · obtain ⟨M', rfl, p⟩ := hr.not hk
      exact ⟨[], 2, none, 0, M', rfl, p, Nat.le_refl _, .inl rfl, by decide, False, inferInstance, by rw [if_neg id], by rw [if_neg id], ⟨False.elim, fun e => hk e.2⟩⟩
  · rw [if_neg hs] at hr
    obtain ⟨v, M'⟩ := r
    obtain ⟨p, e⟩ := hr
    simp only at e
    subst e
    exact ⟨[], 2, none, 0, M', rfl, p, Nat.le_refl _, .inl rfl, by decide, False, inferInstance, by rw [if_neg id], by rw [if_neg id], ⟨False.elim, fun e => hs e.1⟩⟩
end Go.Zt
