/- Functions of the layer: numbers with a fraction. -/
import Derived.Test.YtpjfnpokkpapaaaFa
import Derived.KernelRfl
set_option linter.unusedVariables false
set_option linter.unusedSimpArgs false
namespace Go.Zt
open Ieee

abbrev ordF (x y : Nat) : Option Ordering := FloatKind.f64.format.order x y
def nanF (x : Nat) : Bool := FloatKind.f64.format.order x x != some .eq
abbrev oneF : Nat := 4607182418800017408

theorem fmt64 : FloatKind.f64.format = double := rfl
theorem cmp_self (a : Int) : compare a a = .eq := by simp [compare, compareOfLessAndEq]
theorem cmp_lt {a b : Int} : compare a b = .lt ↔ a < b := by
  simp only [compare, compareOfLessAndEq]; split
  · simp [*]
  · split <;> simp [*]
theorem cmp_eq {a b : Int} : compare a b = .eq ↔ a = b := by
  simp only [compare, compareOfLessAndEq]; split
  · simp; omega
  · split <;> simp [*]
theorem cmp_gt {a b : Int} : compare a b = .gt ↔ b < a := by
  simp only [compare, compareOfLessAndEq]; split
  · simp; omega
  · split
    · simp; omega
    · simp; omega

theorem nanF_false {x : Nat} (h : nanF x = false) : ordF x x = some .eq := by
  unfold nanF at h
  simpa using h
theorem nanF_true {x : Nat} (h : nanF x = true) : ∃ s f, double.read x = .nan s f := by
  unfold nanF at h
  rw [fmt64] at h
  unfold Format.order at h
  cases hr : double.read x with
  | nan s f => exact ⟨s, f, rfl⟩
  | infinity s => rw [hr] at h; exact absurd h (by cases s <;> decide)
  | number s m p => rw [hr] at h; simp [Datum.order, cmp_self] at h
theorem read_cases {x : Nat} (h : nanF x = false) : (∃ s, double.read x = .infinity s) ∨ ∃ s m p, double.read x = .number s m p := by
  cases hr : double.read x with
  | nan s f =>
    exfalso
    unfold nanF at h
    rw [fmt64] at h
    unfold Format.order at h
    rw [hr] at h
    cases h
  | infinity s => exact .inl ⟨s, rfl⟩
  | number s m p => exact .inr ⟨s, m, p, rfl⟩
theorem read0 : double.read 0 = .number false 0 double.leastPlace := by kernel_rfl
theorem ord_total {x : Nat} (h : nanF x = false) : ordF x 0 = some .lt ∨ ordF x 0 = some .eq ∨ ordF x 0 = some .gt := by
  unfold ordF
  rw [fmt64]
  unfold Format.order
  rw [read0]
  rcases read_cases h with ⟨s, hr⟩ | ⟨s, m, p, hr⟩
  · rw [hr]; cases s <;> simp [Datum.order]
  · rw [hr]; simp only [Datum.order]
    cases compare (signed s m (p - min p double.leastPlace).toNat) (signed false 0 (double.leastPlace - min p double.leastPlace).toNat) <;> simp
theorem ord_zero {x : Nat} (h : ordF x 0 = some .eq) : ∃ s p, double.read x = .number s 0 p := by
  unfold ordF at h
  rw [fmt64] at h
  unfold Format.order at h
  rw [read0] at h
  cases hr : double.read x with
  | nan s f => rw [hr] at h; cases h
  | infinity s => rw [hr] at h; cases s <;> cases h
  | number s m p =>
    rw [hr] at h
    simp only [Datum.order, Option.some.injEq, cmp_eq] at h
    have : m = 0 := by
      unfold signed at h
      simp only [Nat.shiftLeft_eq, Bool.false_eq_true, if_false, Nat.zero_mul] at h
      have h2 : m * 2 ^ (p - min p double.leastPlace).toNat = 0 := by split at h <;> omega
      rcases Nat.mul_eq_zero.1 h2 with h3 | h3
      · exact h3
      · exact absurd h3 (Nat.pos_iff_ne_zero.1 (Nat.two_pow_pos _))
    exact ⟨s, p, by rw [this]⟩
theorem read1 : double.read oneF = .number false 4503599627370496 (-52) := by kernel_rfl
theorem one_over_zero {x : Nat} {s : Bool} {p : Int} (h : double.read x = .number s 0 p) : fdiv .f64 oneF x = double.word s double.infRung := by
  unfold fdiv
  rw [fmt64]
  unfold Format.div
  rw [h, read1]
  unfold Datum.quotient
  simp only [if_true]
  rw [if_neg (by omega)]
  cases s <;> rfl
theorem recip_self {x : Nat} (h : ordF x 0 = some .eq) : ordF (fdiv .f64 oneF x) (fdiv .f64 oneF x) = some .eq := by
  obtain ⟨s, p, hr⟩ := ord_zero h
  rw [one_over_zero hr]
  cases s <;> kernel_rfl
theorem recip_lt {x : Nat} {s : Bool} {p : Int} (h : double.read x = .number s 0 p) : (ordF (fdiv .f64 oneF x) 0 == some .lt) = s := by
  rw [one_over_zero h]
  cases s <;> kernel_rfl

/-- A number less itself. -/
theorem sub_self {x : Nat} (h : nanF x = false) : fsub .f64 x x = 0 ∨ ((∃ s, double.read x = .infinity s) ∧ fsub .f64 x x = fnan .f64) := by
  unfold fsub
  rw [fmt64]
  unfold Format.sub
  rcases read_cases h with ⟨s, hr⟩ | ⟨s, m, p, hr⟩
  · right
    refine ⟨⟨s, hr⟩, ?_⟩
    rw [hr]
    cases s <;> rfl
  · left
    rw [hr]
    simp only [Datum.opposite, Datum.sum, Int.min_self, Int.sub_self, Int.toNat_zero]
    have e : signed s m 0 + signed (!s) m 0 = 0 := by unfold signed; cases s <;> simp <;> omega
    rw [e]
    simp only [if_true, Int.natAbs_zero]
    cases s <;> rfl
theorem nan_nan : nanF (fnan .f64) = true := by kernel_rfl
theorem nan_zero : nanF 0 = false := by kernel_rfl
theorem ord_nan0 : (FloatKind.f64.format.order (fnan .f64) 0 != some .eq) = true := by kernel_rfl
theorem ord_00 : (FloatKind.f64.format.order 0 0 != some .eq) = false := by kernel_rfl

/-! ### Two numbers: both none, or the same, with its sign -/
def sameF (x y : Nat) : Bool := if nanF x || nanF y then nanF x && nanF y else (FloatKind.f64.format.order x y == some .eq) && ((FloatKind.f64.format.order x 0 != some .eq) || (FloatKind.f64.format.order (fdiv .f64 oneF x) (fdiv .f64 oneF y) == some .eq))
theorem sameF_self (x : Nat) : sameF x x = true := by
  unfold sameF
  cases h : nanF x
  · simp only [Bool.or_self, Bool.false_eq_true, if_false]
    have h1 := nanF_false h
    unfold ordF at h1
    rw [h1]
    simp only [beq_self_eq_true, Bool.true_and]
    cases h2 : (FloatKind.f64.format.order x 0 != some .eq)
    · have h3 := recip_self (x := x) (by simpa using h2)
      unfold ordF at h3
      rw [h3]; rfl
    · rfl
  · rfl

theorem rnone_ok (lo : Nat) (y : Nat) (M : Mem) : Ac P T lo F.zoetroperef06_None [.float .f64 y] M fun r => r = (.bool (nanF y), M) := by
  refine Ac.of (Evp.of_eq (fun k => zoetroperef06_None.entry k ..) ?_)
  exact Evp.ret (Run.ret rfl)
theorem isNone_ok (lo : Nat) (y : Nat) (M : Mem) : Ac P T lo F.score_isNone [.float .f64 y] M fun r => r = (.bool (nanF y), M) := by
  refine Ac.of (Evp.of_eq (fun k => score_isNone.entry k ..) ?_)
  exact Evp.ret (Run.ret rfl)
theorem snone_ok (lo : Nat) (M : Mem) : Ac P T lo F.score_none [] M fun r => r = (.float .f64 (fdiv .f64 0 0), M) := by
  refine Ac.of (Evp.of_eq (fun k => score_none.entry k ..) ?_)
  exact Evp.ret (Run.ret rfl)
theorem rnonef_ok (lo : Nat) (M : Mem) : Ac P T lo F.zoetroperef06_none [] M fun r => r = (.float .f64 (fdiv .f64 0 0), M) := by
  refine Ac.of (Evp.of_eq (fun k => zoetroperef06_none.entry k ..) ?_)
  exact Evp.ret (Run.ret rfl)

theorem sameF_ok (lo : Nat) (x y : Nat) (M : Mem) : Ac P T lo F.zoetroperef06_Same [.float .f64 x, .float .f64 y] M fun r => r = (.bool (sameF x y), M) := by
  refine Ac.of (Evp.of_eq (fun k => zoetroperef06_Same.entry k ..) ?_)
  unfold sameF
  refine Evp.ob (rnone_ok ..) ?_
  rintro _ rfl
  simp only [ret_int, ret_bool, ret_flt, ret_slc, ret_str, ret_ptr, ret_agg, ret_tup, ob_some, bb_true, bb_false, List.getElem?_cons_zero, List.getElem?_cons_succ, List.length_cons, List.length_nil, Nat.reduceAdd, Nat.reduceLT]
  refine Evp.bb (fun h1 => ?_) fun h1 => ?_
  · rw [h1]
    refine Evp.ob (rnone_ok ..) ?_
    rintro _ rfl
    simp only [ret_int, ret_bool, ret_flt, ret_slc, ret_str, ret_ptr, ret_agg, ret_tup, ob_some, bb_true, bb_false, List.getElem?_cons_zero, List.getElem?_cons_succ, List.length_cons, List.length_nil, Nat.reduceAdd, Nat.reduceLT]
    refine Evp.bb (fun h2 => ?_) fun h2 => absurd (h1.symm.trans h2) (by simp)
    refine Evp.ob (rnone_ok ..) ?_
    rintro _ rfl
    simp only [ret_int, ret_bool, ret_flt, ret_slc, ret_str, ret_ptr, ret_agg, ret_tup, ob_some, bb_true, bb_false, List.getElem?_cons_zero, List.getElem?_cons_succ, List.length_cons, List.length_nil, Nat.reduceAdd, Nat.reduceLT]
    exact Evp.ret (Run.ret (by simp))
  · rw [h1]
    refine Evp.ob (rnone_ok ..) ?_
    rintro _ rfl
    simp only [ret_int, ret_bool, ret_flt, ret_slc, ret_str, ret_ptr, ret_agg, ret_tup, ob_some, bb_true, bb_false, List.getElem?_cons_zero, List.getElem?_cons_succ, List.length_cons, List.length_nil, Nat.reduceAdd, Nat.reduceLT]
    refine Evp.bb (fun h2 => ?_) fun h2 => ?_
    · rw [h2]
      refine Evp.ob (rnone_ok ..) ?_
      rintro _ rfl
      simp only [ret_int, ret_bool, ret_flt, ret_slc, ret_str, ret_ptr, ret_agg, ret_tup, ob_some, bb_true, bb_false, List.getElem?_cons_zero, List.getElem?_cons_succ, List.length_cons, List.length_nil, Nat.reduceAdd, Nat.reduceLT]
      refine Evp.bb (fun h3 => absurd (h1.symm.trans h3) (by simp)) fun h3 => Evp.ret (Run.ret (by simp))
    · rw [h2]
      refine Evp.bb (fun h3 => ?_) fun h3 => Evp.ret (Run.ret (by simp [h3]))
      rw [h3]
      refine Evp.bb (fun h4 => Evp.ret (Run.ret (by simp [h4]))) fun h4 => Evp.ret (Run.ret (by simp [h4]))

/-! ### Ratio, Cost -/
def ratioS (w h w' h' : Int) (xs ys : List Int) : Nat := if checkS w h xs.length = 0 ∧ checkS w' h' ys.length = 0 ∧ w = w' ∧ h = h' then fdiv .f64 (FloatKind.f64.nearest (65025 * (xs.length : Int))) (FloatKind.f64.nearest (apartS xs ys xs.length)) else fdiv .f64 0 0
theorem checkS_len {w h n : Int} (h0 : checkS w h n = 0) : 1 ≤ n ∧ n ≤ 262144 ∧ n = w * h := by
  unfold checkS at h0
  split at h0
  · rename_i e
    have := area (w := w) (h := h) (by omega)
    omega
  · omega
section
variable (lo : Nat) (w h w' h' : Int) (A A' : Option Addr) (c c' : Nat) (xs ys : List Int) (M : Mem)
theorem ratio_ok (hx : RdI M .u8 A xs) (hy : RdI M .u8 A' ys) (bx : Bytes xs) (by_ : Bytes ys) :
    Ac P T lo F.score_Ratio [.agg ⟨[.int .i64 w, .int .i64 h, .slice A xs.length c]⟩, .agg ⟨[.int .i64 w', .int .i64 h', .slice A' ys.length c']⟩] M fun r => r = (.float .f64 (ratioS w h w' h' xs ys), M) := by
  refine Ac.of (Evp.of_eq (fun k => score_Ratio.entry k ..) ?_)
  refine Evp.ob (apart_ok _ _ _ _ _ _ _ _ _ _ _ _ hx hy bx by_) ?_
  rintro _ rfl
  unfold ratioS
  split
  · rename_i hc
    simp only [ret_int, ret_bool, ret_flt, ret_slc, ret_str, ret_ptr, ret_agg, ret_tup, ob_some, bb_true, bb_false, List.getElem?_cons_zero, List.getElem?_cons_succ, List.length_cons, List.length_nil, Nat.reduceAdd, Nat.reduceLT]
    refine Evp.neb (fun h => absurd rfl h) fun _ => ?_
    have := checkS_len hc.1
    rw [w64 (by omega)]
    exact Evp.ret (Run.ret rfl)
  · simp only [ret_int, ret_bool, ret_flt, ret_slc, ret_str, ret_ptr, ret_agg, ret_tup, ob_some, bb_true, bb_false, List.getElem?_cons_zero, List.getElem?_cons_succ, List.length_cons, List.length_nil, Nat.reduceAdd, Nat.reduceLT]
    refine Evp.neb (fun _ => ?_) fun h => absurd h (by omega)
    refine Evp.ob (snone_ok ..) ?_
    rintro _ rfl
    simp only [ret_int, ret_bool, ret_flt, ret_slc, ret_str, ret_ptr, ret_agg, ret_tup, ob_some, bb_true, bb_false, List.getElem?_cons_zero, List.getElem?_cons_succ, List.length_cons, List.length_nil, Nat.reduceAdd, Nat.reduceLT]
    exact Evp.ret (Run.ret rfl)
theorem rratio_ok (hx : RdI M .u8 A xs) (hy : RdI M .u8 A' ys) (bx : Bytes xs) (by_ : Bytes ys) :
    Ac P T lo F.zoetroperef06_Ratio [.agg ⟨[.int .i64 w, .int .i64 h, .slice A xs.length c]⟩, .agg ⟨[.int .i64 w', .int .i64 h', .slice A' ys.length c']⟩] M fun r => r = (.float .f64 (ratioS w h w' h' xs ys), M) := by
  refine Ac.of (Evp.of_eq (fun k => zoetroperef06_Ratio.entry k ..) ?_)
  refine Evp.ob (rapart_ok _ _ _ _ _ _ _ _ _ _ _ _ hx hy bx by_) ?_
  rintro _ rfl
  unfold ratioS
  split
  · rename_i hc
    simp only [ret_int, ret_bool, ret_flt, ret_slc, ret_str, ret_ptr, ret_agg, ret_tup, ob_some, bb_true, bb_false, List.getElem?_cons_zero, List.getElem?_cons_succ, List.length_cons, List.length_nil, Nat.reduceAdd, Nat.reduceLT]
    refine Evp.neb (fun h => absurd rfl h) fun _ => ?_
    have := checkS_len hc.1
    rw [w64 (by omega)]
    exact Evp.ret (Run.ret rfl)
  · simp only [ret_int, ret_bool, ret_flt, ret_slc, ret_str, ret_ptr, ret_agg, ret_tup, ob_some, bb_true, bb_false, List.getElem?_cons_zero, List.getElem?_cons_succ, List.length_cons, List.length_nil, Nat.reduceAdd, Nat.reduceLT]
    refine Evp.neb (fun _ => ?_) fun h => absurd h (by omega)
    refine Evp.ob (rnonef_ok ..) ?_
    rintro _ rfl
    simp only [ret_int, ret_bool, ret_flt, ret_slc, ret_str, ret_ptr, ret_agg, ret_tup, ob_some, bb_true, bb_false, List.getElem?_cons_zero, List.getElem?_cons_succ, List.length_cons, List.length_nil, Nat.reduceAdd, Nat.reduceLT]
    exact Evp.ret (Run.ret rfl)
end
def costS (d rate : Int) (l : Nat) : Nat := fadd .f64 (fmul .f64 l (FloatKind.f64.nearest rate)) (FloatKind.f64.nearest d)
theorem cost_ok (lo : Nat) (d rate : Int) (l : Nat) (M : Mem) : Ac P T lo F.score_Cost [.int .u64 d, .int .u64 rate, .float .f64 l] M fun r => r = (.float .f64 (costS d rate l), M) := by
  refine Ac.of (Evp.of_eq (fun k => score_Cost.entry k ..) ?_)
  exact Evp.ret (Run.ret rfl)
theorem rcost_ok (lo : Nat) (d rate : Int) (l : Nat) (M : Mem) : Ac P T lo F.zoetroperef06_Cost [.int .u64 d, .int .u64 rate, .float .f64 l] M fun r => r = (.float .f64 (costS d rate l), M) := by
  refine Ac.of (Evp.of_eq (fun k => zoetroperef06_Cost.entry k ..) ?_)
  exact Evp.ret (Run.ret rfl)

/-! ### Best -/
def better (x y : Nat) : Bool := FloatKind.f64.format.order x y == some .lt
def bestS (xs : List Nat) : Nat → Int
  | 0 => -1
  | n + 1 => if nanF (xs.getD n 0) = false ∧ (bestS xs n < 0 ∨ better (xs.getD n 0) (xs.getD (bestS xs n).toNat 0) = true) then n else bestS xs n
theorem bestS_lt (xs : List Nat) (n : Nat) : -1 ≤ bestS xs n ∧ bestS xs n < n := by
  induction n with
  | zero => simp [bestS]
  | succ n ih => simp only [bestS]; split <;> omega
def bestR (xs : List Nat) : Value := if bestS xs xs.length < 0 then .tuple ⟨[.int .i64 0, .int .i64 2]⟩ else .tuple ⟨[.int .i64 (bestS xs xs.length), .int .i64 0]⟩

theorem best_loop (lo : Nat) (A : Option Addr) (c : Nat) (xs : List Nat) (M : Mem) (hx : RdF M .f64 A xs) (hn : xs.length ≤ 140737488351232) :
    ∀ (d i : Nat), xs.length - i = d → i ≤ xs.length → Run P T lo F.score_Best (score_Best.c116 A xs.length c (bestS xs i) A xs.length c xs.length i M) fun r => r = (bestR xs, M) := by
  intro d
  induction d with
  | zero =>
    intro i hd hi
    obtain rfl : i = xs.length := by omega
    refine Run.cut (Evp.of_eq (fun k => score_Best.p116 k ..) ?_)
    refine Evp.dec (fun h => absurd h (by omega)) fun _ => ?_
    unfold bestR
    refine Evp.dec (fun h => Evp.ret (Run.ret (by rw [if_pos h]))) fun h => Evp.ret (Run.ret (by rw [if_neg h]))
  | succ d ih =>
    intro i hd hi
    have ih' := ih (i + 1) (by omega) (by omega)
    have hb := bestS_lt xs i
    have next : ∀ b : Int, bestS xs (i + 1) = b → Run P T lo F.score_Best (score_Best.c935 A xs.length c b A xs.length c xs.length i M) fun r => r = (bestR xs, M) := by
      rintro _ rfl
      refine Run.cut (Evp.of_eq (fun k => score_Best.p935 k ..) ?_)
      rw [w64 (by omega)]
      exact Evp.ret ih'
    refine Run.cut (Evp.of_eq (fun k => score_Best.p116 k ..) ?_)
    refine Evp.dec (fun _ => ?_) fun h => absurd h (by omega)
    refine Evp.pos (by omega) ?_
    simp only [Int.toNat_natCast]
    refine Evp.ldF hx (by omega) fun a _ => ?_
    refine Evp.ob (isNone_ok ..) ?_
    rintro _ rfl
    simp only [ret_int, ret_bool, ret_flt, ret_slc, ret_str, ret_ptr, ret_agg, ret_tup, ob_some, bb_true, bb_false, List.getElem?_cons_zero, List.getElem?_cons_succ, List.length_cons, List.length_nil, Nat.reduceAdd, Nat.reduceLT]
    refine Evp.nb (fun h1 => ?_) fun h1 => Evp.ret (next _ (by simp only [bestS]; rw [if_neg (fun e => absurd (h1.symm.trans e.1) (by simp))]))
    refine Evp.dec (fun h2 => Evp.ret (next _ (by simp only [bestS]; rw [if_pos ⟨h1, .inl h2⟩]))) fun h2 => ?_
    refine Evp.pos (by omega) ?_
    refine Evp.ldF hx (by omega) fun a _ => ?_
    refine Evp.bb (fun h3 => Evp.ret (next _ (by simp only [bestS]; rw [if_pos ⟨h1, .inr h3⟩]))) fun h3 => Evp.ret (next _ ?_)
    simp only [bestS]
    rw [if_neg]
    rintro ⟨_, h4 | h4⟩
    · exact h2 h4
    · exact absurd (h3.symm.trans h4) (by simp)
theorem best_ok (lo : Nat) (A : Option Addr) (c : Nat) (xs : List Nat) (M : Mem) (hx : RdF M .f64 A xs) (hn : xs.length ≤ 140737488351232) : Ac P T lo F.score_Best [.slice A xs.length c] M fun r => r = (bestR xs, M) := by
  refine Ac.of (Evp.of_eq (fun k => score_Best.entry k ..) ?_)
  exact Evp.ret (best_loop lo A c xs M hx hn _ 0 rfl (by omega))
theorem rbest_loop (lo : Nat) (A : Option Addr) (c : Nat) (xs : List Nat) (M : Mem) (hx : RdF M .f64 A xs) (hn : xs.length ≤ 140737488351232) :
    ∀ (d i : Nat), xs.length - i = d → i ≤ xs.length → Run P T lo F.zoetroperef06_Best (zoetroperef06_Best.c116 A xs.length c (bestS xs i) i M) fun r => r = (bestR xs, M) := by
  intro d
  induction d with
  | zero =>
    intro i hd hi
    obtain rfl : i = xs.length := by omega
    refine Run.cut (Evp.of_eq (fun k => zoetroperef06_Best.p116 k ..) ?_)
    refine Evp.dec (fun h => absurd h (by omega)) fun _ => ?_
    unfold bestR
    refine Evp.dec (fun h => Evp.ret (Run.ret (by rw [if_pos h]))) fun h => Evp.ret (Run.ret (by rw [if_neg h]))
  | succ d ih =>
    intro i hd hi
    have ih' := ih (i + 1) (by omega) (by omega)
    have hb := bestS_lt xs i
    have next : ∀ b : Int, bestS xs (i + 1) = b → Run P T lo F.zoetroperef06_Best (zoetroperef06_Best.c467 A xs.length c b i M) fun r => r = (bestR xs, M) := by
      rintro _ rfl
      refine Run.cut (Evp.of_eq (fun k => zoetroperef06_Best.p467 k ..) ?_)
      rw [w64 (by omega)]
      exact Evp.ret ih'
    refine Run.cut (Evp.of_eq (fun k => zoetroperef06_Best.p116 k ..) ?_)
    refine Evp.dec (fun _ => ?_) fun h => absurd h (by omega)
    refine Evp.pos (by omega) ?_
    simp only [Int.toNat_natCast]
    refine Evp.ldF hx (by omega) fun a _ => ?_
    refine Evp.ob (rnone_ok ..) ?_
    rintro _ rfl
    simp only [ret_int, ret_bool, ret_flt, ret_slc, ret_str, ret_ptr, ret_agg, ret_tup, ob_some, bb_true, bb_false, List.getElem?_cons_zero, List.getElem?_cons_succ, List.length_cons, List.length_nil, Nat.reduceAdd, Nat.reduceLT]
    refine Evp.nb (fun h1 => ?_) fun h1 => Evp.ret (next _ (by simp only [bestS]; rw [if_neg (fun e => absurd (h1.symm.trans e.1) (by simp))]))
    refine Evp.dec (fun h2 => Evp.ret (next _ (by simp only [bestS]; rw [if_pos ⟨h1, .inl h2⟩]))) fun h2 => ?_
    refine Evp.pos (by omega) ?_
    refine Evp.ldF hx (by omega) fun a _ => ?_
    refine Evp.pos (by omega) ?_
    refine Evp.ldF hx (by omega) fun a _ => ?_
    refine Evp.bb (fun h3 => Evp.ret (next _ (by simp only [bestS]; rw [if_pos ⟨h1, .inr h3⟩]))) fun h3 => Evp.ret (next _ ?_)
    simp only [bestS]
    rw [if_neg]
    rintro ⟨_, h4 | h4⟩
    · exact h2 h4
    · exact absurd (h3.symm.trans h4) (by simp)
theorem rbest_ok (lo : Nat) (A : Option Addr) (c : Nat) (xs : List Nat) (M : Mem) (hx : RdF M .f64 A xs) (hn : xs.length ≤ 140737488351232) : Ac P T lo F.zoetroperef06_Best [.slice A xs.length c] M fun r => r = (bestR xs, M) := by
  refine Ac.of (Evp.of_eq (fun k => zoetroperef06_Best.entry k ..) ?_)
  exact Evp.ret (rbest_loop lo A c xs M hx hn _ 0 rfl (by omega))

/-! ### Mean -/
def sumS (xs : List Nat) : Nat → Nat
  | 0 => xs.getD 0 0
  | n + 1 => fadd .f64 (sumS xs n) (xs.getD (n + 1) 0)
def meanS (xs : List Nat) : Nat := if xs.length = 0 then fdiv .f64 0 0 else fdiv .f64 (sumS xs (xs.length - 1)) (FloatKind.f64.nearest (xs.length : Int))
theorem getD_part {xs : List Nat} {n i : Nat} (hi : i < n) : ((xs.drop 1).take n).getD i 0 = xs.getD (i + 1) 0 := by
  simp only [List.getD_eq_getElem?_getD, List.getElem?_take, if_pos hi, List.getElem?_drop]
  rw [Nat.add_comm]
theorem mean_loop (lo : Nat) (A A' : Option Addr) (c c' : Nat) (xs : List Nat) (M : Mem) (hx : RdF M .f64 A' ((xs.drop 1).take (xs.length - 1))) (h0 : 0 < xs.length) (hn : xs.length ≤ 140737488351232) :
    ∀ (d i : Nat), xs.length - 1 - i = d → i ≤ xs.length - 1 → Run P T lo F.score_Mean (score_Mean.c244 A xs.length c (sumS xs i) A' (xs.length - 1) c' ((xs.length - 1 : Nat) : Int) i M) fun r => r = (.float .f64 (meanS xs), M) := by
  intro d
  have hl : ((xs.drop 1).take (xs.length - 1)).length = xs.length - 1 := by simp
  induction d with
  | zero =>
    intro i hd hi
    obtain rfl : i = xs.length - 1 := by omega
    refine Run.cut (Evp.of_eq (fun k => score_Mean.p244 k ..) ?_)
    refine Evp.dec (fun h => absurd h (by omega)) fun _ => Evp.ret (Run.ret ?_)
    unfold meanS
    rw [if_neg (by omega)]
  | succ d ih =>
    intro i hd hi
    refine Run.cut (Evp.of_eq (fun k => score_Mean.p244 k ..) ?_)
    refine Evp.dec (fun _ => ?_) fun h => absurd h (by omega)
    refine Evp.pos (by omega) ?_
    simp only [Int.toNat_natCast]
    refine Evp.ldF hx (by omega) fun a _ => ?_
    rw [getD_part (by omega), w64 (by omega)]
    exact Evp.ret (ih (i + 1) (by omega) (by omega))
theorem mean_ok (lo : Nat) (A : Option Addr) (c : Nat) (xs : List Nat) (M : Mem) (hx : RdF M .f64 A xs) (hn : xs.length ≤ 140737488351232) (hc : xs.length ≤ c) : Ac P T lo F.score_Mean [.slice A xs.length c] M fun r => r = (.float .f64 (meanS xs), M) := by
  refine Ac.of (Evp.of_eq (fun k => score_Mean.entry k ..) ?_)
  refine Evp.eqb (fun h => ?_) fun h => ?_
  · refine Evp.ob (snone_ok ..) ?_
    rintro _ rfl
    simp only [ret_int, ret_bool, ret_flt, ret_slc, ret_str, ret_ptr, ret_agg, ret_tup, ob_some, bb_true, bb_false, List.getElem?_cons_zero, List.getElem?_cons_succ, List.length_cons, List.length_nil, Nat.reduceAdd, Nat.reduceLT]
    refine Evp.ret (Run.ret ?_)
    unfold meanS
    rw [if_pos (by omega)]
  · refine Evp.pos (by omega) ?_
    obtain ⟨a, rfl, _, h2⟩ := hx.ld (i := 0) (by omega)
    rw [plus_zero] at h2
    refine Evp.some rfl ?_
    rw [h2]
    simp only [ret_int, ret_bool, ret_flt, ret_slc, ret_str, ret_ptr, ret_agg, ret_tup, ob_some, bb_true, bb_false, List.getElem?_cons_zero, List.getElem?_cons_succ, List.length_cons, List.length_nil, Nat.reduceAdd, Nat.reduceLT]
    refine Evp.pos (by omega) ?_
    exact Evp.ret (mean_loop lo _ _ _ _ xs M (hx.slAddr (by omega) (by omega) hc) (by omega) hn _ 0 rfl (by omega))
theorem rmean_loop (lo : Nat) (A : Option Addr) (c : Nat) (xs : List Nat) (M : Mem) (hx : RdF M .f64 A xs) (h0 : 0 < xs.length) (hn : xs.length ≤ 140737488351232) :
    ∀ (d i : Nat), xs.length - 1 - i = d → i ≤ xs.length - 1 → Run P T lo F.zoetroperef06_Mean (zoetroperef06_Mean.c244 A xs.length c (sumS xs i) ((i : Int) + 1) M) fun r => r = (.float .f64 (meanS xs), M) := by
  intro d
  induction d with
  | zero =>
    intro i hd hi
    obtain rfl : i = xs.length - 1 := by omega
    refine Run.cut (Evp.of_eq (fun k => zoetroperef06_Mean.p244 k ..) ?_)
    refine Evp.dec (fun h => absurd h (by omega)) fun _ => Evp.ret (Run.ret ?_)
    unfold meanS
    rw [if_neg (by omega)]
  | succ d ih =>
    intro i hd hi
    refine Run.cut (Evp.of_eq (fun k => zoetroperef06_Mean.p244 k ..) ?_)
    refine Evp.dec (fun _ => ?_) fun h => absurd h (by omega)
    refine Evp.pos (by omega) ?_
    have e : ((i : Int) + 1).toNat = i + 1 := by omega
    rw [e]
    refine Evp.ldF hx (by omega) fun a _ => ?_
    rw [w64 (by omega)]
    exact Evp.ret (ih (i + 1) (by omega) (by omega))
theorem rmean_ok (lo : Nat) (A : Option Addr) (c : Nat) (xs : List Nat) (M : Mem) (hx : RdF M .f64 A xs) (hn : xs.length ≤ 140737488351232) : Ac P T lo F.zoetroperef06_Mean [.slice A xs.length c] M fun r => r = (.float .f64 (meanS xs), M) := by
  refine Ac.of (Evp.of_eq (fun k => zoetroperef06_Mean.entry k ..) ?_)
  refine Evp.eqb (fun h => ?_) fun h => ?_
  · refine Evp.ob (rnonef_ok ..) ?_
    rintro _ rfl
    simp only [ret_int, ret_bool, ret_flt, ret_slc, ret_str, ret_ptr, ret_agg, ret_tup, ob_some, bb_true, bb_false, List.getElem?_cons_zero, List.getElem?_cons_succ, List.length_cons, List.length_nil, Nat.reduceAdd, Nat.reduceLT]
    refine Evp.ret (Run.ret ?_)
    unfold meanS
    rw [if_pos (by omega)]
  · refine Evp.pos (by omega) ?_
    obtain ⟨a, rfl, _, h2⟩ := hx.ld (i := 0) (by omega)
    rw [plus_zero] at h2
    refine Evp.some rfl ?_
    rw [h2]
    simp only [ret_int, ret_bool, ret_flt, ret_slc, ret_str, ret_ptr, ret_agg, ret_tup, ob_some, bb_true, bb_false, List.getElem?_cons_zero, List.getElem?_cons_succ, List.length_cons, List.length_nil, Nat.reduceAdd, Nat.reduceLT]
    exact Evp.ret (rmean_loop lo _ _ xs M hx (by omega) hn _ 0 rfl (by omega))

/-! ### Class -/
def classS (x : Nat) : ByteArray :=
  if nanF x then ⟨#[110, 111, 110, 101]⟩
  else if (FloatKind.f64.format.order x 0 == some .eq) then (if (FloatKind.f64.format.order (fdiv .f64 oneF x) 0 == some .lt) then ⟨#[45, 48]⟩ else ⟨#[48]⟩)
  else if nanF (fsub .f64 x x) then (if (FloatKind.f64.format.order x 0 == some .lt) then ⟨#[45, 105, 110, 102]⟩ else ⟨#[105, 110, 102]⟩)
  else if (FloatKind.f64.format.order x 0 == some .lt) then ⟨#[110, 101, 103, 97, 116, 105, 118, 101]⟩
  else if (FloatKind.f64.format.order x oneF == some .lt) then ⟨#[108, 111, 119]⟩ else ⟨#[104, 105, 103, 104]⟩
theorem sub_nan {x : Nat} (h : nanF x = false) : (FloatKind.f64.format.order (fsub .f64 x x) 0 != some .eq) = nanF (fsub .f64 x x) := by
  rcases sub_self h with e | ⟨_, e⟩
  · rw [e, ord_00, nan_zero]
  · rw [e, ord_nan0, nan_nan]
theorem o11 : (some Ordering.lt == some Ordering.lt) = true := rfl
theorem o12 : (some Ordering.lt == some Ordering.eq) = false := rfl
theorem o13 : (some Ordering.lt == some Ordering.gt) = false := rfl
theorem o21 : (some Ordering.eq == some Ordering.lt) = false := rfl
theorem o22 : (some Ordering.eq == some Ordering.eq) = true := rfl
theorem o23 : (some Ordering.eq == some Ordering.gt) = false := rfl
theorem o31 : (some Ordering.gt == some Ordering.lt) = false := rfl
theorem o32 : (some Ordering.gt == some Ordering.eq) = false := rfl
theorem o33 : (some Ordering.gt == some Ordering.gt) = true := rfl
theorem s1 : ((⟨#[45]⟩ : ByteArray).toList == (⟨#[]⟩ : ByteArray).toList) = false := by rw [ByteArray.toList_eq, ByteArray.toList_eq]; rfl
theorem s2 : ((⟨#[]⟩ : ByteArray).toList == (⟨#[]⟩ : ByteArray).toList) = true := by simp
theorem rclass_ok (lo : Nat) (x : Nat) (M : Mem) : Ac P T lo F.zoetroperef06_Class [.float .f64 x] M fun r => r = (.string (classS x), M) := by
  refine Ac.of (Evp.of_eq (fun k => zoetroperef06_Class.entry k ..) ?_)
  refine Evp.ob (rnone_ok ..) ?_
  rintro _ rfl
  simp only [ret_int, ret_bool, ret_flt, ret_slc, ret_str, ret_ptr, ret_agg, ret_tup, ob_some, bb_true, bb_false, List.getElem?_cons_zero, List.getElem?_cons_succ, List.length_cons, List.length_nil, Nat.reduceAdd, Nat.reduceLT]
  unfold classS
  cases h1 : nanF x
  · have h2 := sub_nan h1
    have h3 := ord_total h1
    unfold ordF at h3
    unfold oneF
    rw [h2]
    rcases h3 with h3 | h3 | h3 <;> rw [h3] <;> cases h4 : nanF (fsub .f64 x x) <;> cases h5 : (FloatKind.f64.format.order (fdiv .f64 4607182418800017408 x) 0 == some .lt) <;> cases h6 : (FloatKind.f64.format.order x 4607182418800017408 == some .lt) <;>
      simp only [h1, h2, h3, h4, h5, h6, o11, o12, o13, o21, o22, o23, o31, o32, o33, bb_true, bb_false, if_true, if_false, Bool.false_eq_true] <;> exact Evp.ret (Run.ret rfl)
  · exact Evp.ret (Run.ret (by simp))
theorem of_o {o : Option Ordering} {a : Ordering} (h : (o == some a) = true) : o = some a := by simpa using h
theorem class_ok (lo : Nat) (x : Nat) (M : Mem) : Ac P T lo F.score_Class [.float .f64 x] M fun r => r = (.string (classS x), M) := by
  have next : ∀ t : ByteArray, (nanF x = false → t = if (FloatKind.f64.format.order x 0 == some .lt) || ((FloatKind.f64.format.order x 0 == some .eq) && (FloatKind.f64.format.order (fdiv .f64 4607182418800017408 x) 0 == some .lt)) then ⟨#[45]⟩ else ⟨#[]⟩) →
      Run P T lo F.score_Class (score_Class.c15 x t M) fun r => r = (.string (classS x), M) := by
    intro t ht
    refine Run.cut (Evp.of_eq (fun k => score_Class.p15 k ..) ?_)
    refine Evp.ob (isNone_ok ..) ?_
    rintro _ rfl
    simp only [ret_int, ret_bool, ret_flt, ret_slc, ret_str, ret_ptr, ret_agg, ret_tup, ob_some, bb_true, bb_false, List.getElem?_cons_zero, List.getElem?_cons_succ, List.length_cons, List.length_nil, Nat.reduceAdd, Nat.reduceLT]
    unfold classS
    cases h1 : nanF x
    · have ht := ht h1
      have h3 := ord_total h1
      unfold ordF at h3
      unfold oneF
      have i1 : ∀ n : Nat, n < 1000 → ¬ (((n : Nat) : Int) > IntKind.i64.max) := fun n hn => by simp [IntKind.max, IntKind.signed, IntKind.bits]; omega
      refine Evp.ff rfl ?_
      refine Evp.bb (fun h2 => ?_) fun h2 => ?_
      · rw [h2] at ht ⊢
        cases h5 : (FloatKind.f64.format.order (fdiv .f64 4607182418800017408 x) 0 == some .lt) <;> rw [h5] at ht
        · have h6 : (FloatKind.f64.format.order x 0 == some .lt) = false := by rw [of_o h2]; rfl
          rw [h6] at ht
          subst ht
          exact Evp.neg (i1 _ (by decide)) (Evp.ret (Run.ret rfl))
        · have h6 : (FloatKind.f64.format.order x 0 == some .lt) = false := by rw [of_o h2]; rfl
          rw [h6] at ht
          subst ht
          exact Evp.neg (i1 _ (by decide)) (Evp.ret (Run.ret rfl))
      · rw [h2] at ht ⊢
        refine Evp.ob (isNone_ok ..) ?_
        rintro _ rfl
        simp only [ret_int, ret_bool, ret_flt, ret_slc, ret_str, ret_ptr, ret_agg, ret_tup, ob_some, bb_true, bb_false, List.getElem?_cons_zero, List.getElem?_cons_succ, List.length_cons, List.length_nil, Nat.reduceAdd, Nat.reduceLT]
        cases h6 : (FloatKind.f64.format.order x 0 == some .lt) <;> rw [h6] at ht <;> simp only [Bool.false_or, Bool.false_and, Bool.true_or, if_true, if_false, Bool.false_eq_true] at ht <;> subst ht
        · refine Evp.bb (fun h4 => ?_) fun h4 => ?_
          · rw [h4]
            exact Evp.neg (i1 _ (by decide)) (Evp.ret (Run.ret rfl))
          · rw [h4]
            refine Evp.ff (by rw [s2]; rfl) ?_
            refine Evp.bb (fun h7 => ?_) fun h7 => ?_
            · rw [h7]; exact Evp.ret (Run.ret rfl)
            · rw [h7]; exact Evp.ret (Run.ret rfl)
        · refine Evp.bb (fun h4 => ?_) fun h4 => ?_
          · rw [h4]
            exact Evp.neg (i1 _ (by decide)) (Evp.ret (Run.ret rfl))
          · rw [h4]
            refine Evp.tt (by rw [s1]; rfl) ?_
            exact Evp.ret (Run.ret rfl)
    · exact Evp.ret (Run.ret (by simp))
  refine Ac.of (Evp.of_eq (fun k => score_Class.entry k ..) ?_)
  refine Evp.bb (fun h1 => Evp.ret (next _ fun _ => by simp [h1])) fun h1 => ?_
  refine Evp.bb (fun h2 => ?_) fun h2 => Evp.ret (next _ fun _ => by simp [h1, h2])
  refine Evp.bb (fun h3 => Evp.ret (next _ fun _ => by simp [h2, h3])) fun h3 => Evp.ret (next _ fun _ => by simp [h1, h3])
end Go.Zt
