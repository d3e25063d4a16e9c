/- Across and down: a sample. -/
import Derived.Test.YtfghnhhhlckafaaFa
set_option linter.unusedVariables false
set_option linter.unusedSimpArgs false
set_option maxRecDepth 100000
namespace Go.Zt
def TsB (ts : List Int) : Prop := ts.length = 7 ∧ ∀ k, -256 ≤ ts.getD k 0 ∧ ts.getD k 0 ≤ 256
theorem sev_TsB (t : Tp) : TsB (sevL t) := ⟨sevL_len t, fun k => by
  by_cases hk : k < (sevL t).length
  · exact sevL_le t _ (by rw [List.getD_eq_getElem?_getD, List.getElem?_eq_getElem hk]; exact List.getElem_mem hk)
  · rw [List.getD_eq_getElem?_getD, List.getElem?_eq_none (by omega)]; decide⟩
/-- The column of a tap. -/
def cxS (w x i : Nat) : Nat := (clipS ((x : Int) + i - 3) 0 ((w : Int) - 1)).toNat
theorem cx_eq {w x i : Nat} (hw : 1 ≤ w) : clipS ((x : Int) + i - 3) 0 ((w : Int) - 1) = ((cxS w x i : Nat) : Int) ∧ cxS w x i < w := by
  have : 0 ≤ clipS ((x : Int) + i - 3) 0 ((w : Int) - 1) ∧ clipS ((x : Int) + i - 3) 0 ((w : Int) - 1) ≤ (w : Int) - 1 := by
    unfold clipS
    repeat' split
    all_goals omega
  unfold cxS; omega
def accS (ts xs : List Int) (w y x : Nat) : Nat → Int
  | 0 => 0
  | i + 1 => accS ts xs w y x i + ts.getD i 0 * xs.getD (y * w + cxS w x i) 0
theorem prod_le {a b : Int} (ha : -256 ≤ a ∧ a ≤ 256) (hb : 0 ≤ b ∧ b ≤ 255) : -65280 ≤ a * b ∧ a * b ≤ 65280 := by
  have := mul_abs (a := a) (b := b) (A := 256) (B := 255) (by omega) (by omega); omega
theorem accS_le {ts xs : List Int} (ht : TsB ts) (bx : Bytes xs) (w y x : Nat) : ∀ i : Nat, -(65280 * (i : Int)) ≤ accS ts xs w y x i ∧ accS ts xs w y x i ≤ 65280 * (i : Int)
  | 0 => by simp [accS]
  | i + 1 => by
    have h1 := accS_le ht bx w y x i
    have h2 := prod_le (ht.2 i) (bx.get (y * w + cxS w x i))
    simp only [accS]; omega
def acS (ts xs : List Int) (w y x : Nat) : Int := clipS ((accS ts xs w y x 7 + 4) / 8) (-4096) 8191
theorem acS_le (ts xs : List Int) (w y x : Nat) : -4096 ≤ acS ts xs w y x ∧ acS ts xs w y x ≤ 8191 := by
  unfold acS clipS
  repeat' split
  all_goals omega
def acL (ts xs : List Int) (w y from_ n : Nat) : List Int := (List.range n).map fun j => acS ts xs w y (from_ + j)
theorem round3 (lo : Nat) (v : Int) (M : Mem) (hv : -1000000000 ≤ v ∧ v ≤ 1000000000) : Ac P T lo F.wiener_round [.int .i64 v, .int .i64 3] M fun r => r = (.int .i64 ((v + 4) / 8), M) := by
  refine Ac.of (Evp.of_eq (fun k => wiener_round.entry k ..) ?_)
  refine Evp.neg (by decide) (Evp.neg (by decide) (Evp.ret (Run.ret ?_)))
  rw [show (IntKind.i64.wrap ((3 : Int) - 1)).toNat = 2 from by decide, shl_one 2 (by omega), show ((3 : Int)).toNat = 3 from rfl, show ((2 : Int) ^ 2) = 4 from rfl, w64 (by omega), shr_eq 3 (by omega)]; rfl
theorem round11 (lo : Nat) (v : Int) (M : Mem) (hv : -1000000000 ≤ v ∧ v ≤ 1000000000) : Ac P T lo F.wiener_round [.int .i64 v, .int .i64 11] M fun r => r = (.int .i64 ((v + 1024) / 2048), M) := by
  refine Ac.of (Evp.of_eq (fun k => wiener_round.entry k ..) ?_)
  refine Evp.neg (by decide) (Evp.neg (by decide) (Evp.ret (Run.ret ?_)))
  rw [show (IntKind.i64.wrap ((11 : Int) - 1)).toNat = 10 from by decide, shl_one 10 (by omega), show ((11 : Int)).toNat = 11 from rfl, show ((2 : Int) ^ 10) = 1024 from rfl, w64 (by omega), shr_eq 11 (by omega)]; rfl
theorem rround3 (lo : Nat) (v : Int) (M : Mem) (hv : -1000000000 ≤ v ∧ v ≤ 1000000000) : Ac P T lo F.zoetroperef24_round [.int .i64 v, .int .i64 3] M fun r => r = (.int .i64 ((v + 4) / 8), M) := by
  refine Ac.of (Evp.of_eq (fun k => zoetroperef24_round.entry k ..) ?_)
  refine Evp.neg (by decide) (Evp.neg (by decide) (Evp.ret (Run.ret ?_)))
  rw [show (IntKind.i64.wrap ((3 : Int) - 1)).toNat = 2 from by decide, shl_one 2 (by omega), show ((3 : Int)).toNat = 3 from rfl, show ((2 : Int) ^ 2) = 4 from rfl, w64 (by omega), shr_eq 3 (by omega)]; rfl
theorem rround11 (lo : Nat) (v : Int) (M : Mem) (hv : -1000000000 ≤ v ∧ v ≤ 1000000000) : Ac P T lo F.zoetroperef24_round [.int .i64 v, .int .i64 11] M fun r => r = (.int .i64 ((v + 1024) / 2048), M) := by
  refine Ac.of (Evp.of_eq (fun k => zoetroperef24_round.entry k ..) ?_)
  refine Evp.neg (by decide) (Evp.neg (by decide) (Evp.ret (Run.ret ?_)))
  rw [show (IntKind.i64.wrap ((11 : Int) - 1)).toNat = 10 from by decide, shl_one 10 (by omega), show ((11 : Int)).toNat = 11 from rfl, show ((2 : Int) ^ 10) = 1024 from rfl, w64 (by omega), shr_eq 11 (by omega)]; rfl
theorem seven_get {a b c d e f g : Int} (i : Nat) (hi : i < 7) : (([.int .i64 a, .int .i64 b, .int .i64 c, .int .i64 d, .int .i64 e, .int .i64 f, .int .i64 g] : List Value)[i]?).bind (Value.int? .i64) = some (([a, b, c, d, e, f, g] : List Int).getD i 0) := tab_get [a, b, c, d, e, f, g] i hi
theorem pos_iN {i n : Nat} (h : i < n) : (0 : Int) ≤ (i : Int) ∧ (i : Int) < (n : Int) := ⟨by omega, by omega⟩
theorem row_lt {h w y c : Nat} (hy : y < h) (hc : c < w) : y * w + c < h * w := by
  have : (y + 1) * w ≤ h * w := Nat.mul_le_mul_right w (by omega)
  rw [Nat.add_mul, Nat.one_mul] at this
  omega
section
variable (lo : Nat) (A : Option Addr) (cap : Nat) (xs : List Int) (w h y : Nat) (a b c d e f g : Int) (M0 : Mem)
variable (hlo : lo ≤ M0.length) (hx : RdI M0 .u8 A xs) (bx : Bytes xs) (hw : 1 ≤ w ∧ w ≤ 512) (hh : h ≤ 512) (hn : xs.length = h * w) (hy : y < h) (ht : TsB [a, b, c, d, e, f, g]) (hcap : xs.length ≤ cap)
include hx bx hw hn hy ht hh in
theorem racross_loop (x : Nat) (hx2 : x ≤ 1024) (M : Mem) (hp : Pre M0 M) : ∀ (q i : Nat), 7 - i = q → i ≤ 7 →
    Run P T lo F.zoetroperef24_across (zoetroperef24_across.c116 x y (accS [a, b, c, d, e, f, g] xs w y x i) i w h A xs.length cap a b c d e f g M) fun r => r = (.int .i64 (acS [a, b, c, d, e, f, g] xs w y x), M) := by
  intro q
  induction q with
  | zero =>
    intro i hq hi
    obtain rfl : i = 7 := by omega
    have := accS_le ht bx w y x 7
    refine Run.cut (Evp.of_eq (fun k => zoetroperef24_across.p116 k ..) ?_)
    refine Evp.ff rfl ?_
    refine Evp.ob (rround3 _ _ _ (by omega)) ?_
    rintro _ rfl
    simp only [ret_int, ret_bool, ret_flt, ret_slc, ret_str, ret_ptr, ret_agg, ret_tup, ob_some, bb_true, bb_false, List.getElem?_cons_zero, List.getElem?_cons_succ, List.length_cons, List.length_nil, Nat.reduceAdd, Nat.reduceLT]
    refine Evp.ob (clip_ok ..) ?_
    rintro _ rfl
    simp only [ret_int, ret_bool, ret_flt, ret_slc, ret_str, ret_ptr, ret_agg, ret_tup, ob_some, bb_true, bb_false, List.getElem?_cons_zero, List.getElem?_cons_succ, List.length_cons, List.length_nil, Nat.reduceAdd, Nat.reduceLT]
    exact Evp.ret (Run.ret rfl)
  | succ q ih =>
    intro i hq hi
    have ha := accS_le ht bx w y x i
    have hp2 := prod_le (ht.2 i) (bx.get (y * w + cxS w x i))
    have bg := bx.get (y * w + cxS w x i)
    obtain ⟨e1, e2⟩ := cx_eq (w := w) (x := x) (i := i) hw.1
    have hlt := row_lt hy e2
    have sm : y * w ≤ 512 * 512 := Nat.mul_le_mul (by omega) hw.2
    refine Run.cut (Evp.of_eq (fun k => zoetroperef24_across.p116 k ..) ?_)
    refine Evp.dec (fun _ => ?_) fun h => absurd h (by omega)
    refine Evp.pos (by omega) ?_
    simp only [Int.toNat_natCast, Nat.zero_add]
    refine Evp.some (seven_get i (by omega)) ?_
    rw [w64 (x := (x : Int) + i) (by omega), w64 (x := (x : Int) + i - 3) (by omega), w64 (x := (w : Int) - 1) (by omega)]
    refine Evp.ob (clip_ok ..) ?_
    rintro _ rfl
    simp only [ret_int, ret_bool, ret_flt, ret_slc, ret_str, ret_ptr, ret_agg, ret_tup, ob_some, bb_true, bb_false, List.getElem?_cons_zero, List.getElem?_cons_succ, List.length_cons, List.length_nil, Nat.reduceAdd, Nat.reduceLT]
    rw [e1, ← Int.natCast_mul, w64 (x := ((y * w : Nat) : Int)) (by omega), ← Int.natCast_add, w64 (x := ((y * w + cxS w x i : Nat) : Int)) (by omega)]
    refine Evp.pos (pos_iN (by omega)) ?_
    simp only [Int.toNat_natCast]
    refine Evp.ldI (hx.pre hp) (by omega) fun _ _ => ?_
    rw [w64 (x := xs.getD (y * w + cxS w x i) 0) (by omega), w64 (x := _ * _) (by omega), w64 (x := _ + _ * _) (by omega), w64 (x := (i : Int) + 1) (by omega)]
    exact Evp.ret (ih (i + 1) (by omega) (by omega))
include hx bx hw hn hy ht hh in
theorem racross_ok (x : Nat) (hx2 : x ≤ 1024) (M : Mem) (hp : Pre M0 M) : Ac P T lo F.zoetroperef24_across [.agg ⟨[.int .i64 w, .int .i64 h, .slice A xs.length cap]⟩, .int .i64 x, .int .i64 y, .agg ⟨[.int .i64 a, .int .i64 b, .int .i64 c, .int .i64 d, .int .i64 e, .int .i64 f, .int .i64 g]⟩] M fun r => r = (.int .i64 (acS [a, b, c, d, e, f, g] xs w y x), M) := by
  refine Ac.of (Evp.of_eq (fun k => zoetroperef24_across.entry k ..) ?_)
  exact Evp.ret (racross_loop lo A cap xs w h y a b c d e f g M0 hx bx hw hh hn hy ht x hx2 M hp 7 0 rfl (by omega))
include bx hw hn hy ht in
theorem across_in (R : Option Addr) (cr from_ to : Nat) (hR : RdI M0 .u8 R ((xs.drop (y * w)).take w)) (B : Option Addr) (n cb : Nat) (x : Nat) (hx2 : x ≤ 1024) (M : Mem) (hp : Pre M0 M) {Q : Value × Mem → Prop}
    (hf : Evp (fun k => ob (M.app lo 1 8 ⟨B, n, cb⟩ [.int .i64 (acS [a, b, c, d, e, f, g] xs w y x)] 1) fun r39 => some (wiener_across.c244 to r39.1.a r39.1.n r39.1.c R w cr (IntKind.i64.wrap ((x : Int) + 1)) w h A xs.length cap a b c d e f g r39.2)) fun out => Run P T lo F.wiener_across out Q) : ∀ (q i : Nat), 7 - i = q → i ≤ 7 →
    Run P T lo F.wiener_across (wiener_across.c62612 to B n cb R w cr x (accS [a, b, c, d, e, f, g] xs w y x i) a b c d e f g i w h A xs.length cap a b c d e f g M) Q := by
  intro q
  induction q with
  | zero =>
    intro i hq hi
    obtain rfl : i = 7 := by omega
    have := accS_le ht bx w y x 7
    refine Run.cut (Evp.of_eq (fun k => wiener_across.p62612 k ..) ?_)
    refine Evp.ff rfl ?_
    refine Evp.ob (round3 _ _ _ (by omega)) ?_
    rintro _ rfl
    simp only [ret_int, ret_bool, ret_flt, ret_slc, ret_str, ret_ptr, ret_agg, ret_tup, ob_some, bb_true, bb_false, List.getElem?_cons_zero, List.getElem?_cons_succ, List.length_cons, List.length_nil, Nat.reduceAdd, Nat.reduceLT]
    refine Evp.ob (wclip_ok _ _ _ _ _ (by omega)) ?_
    rintro _ rfl
    simp only [ret_int, ret_bool, ret_flt, ret_slc, ret_str, ret_ptr, ret_agg, ret_tup, ob_some, bb_true, bb_false, List.getElem?_cons_zero, List.getElem?_cons_succ, List.length_cons, List.length_nil, Nat.reduceAdd, Nat.reduceLT]
    exact hf
  | succ q ih =>
    intro i hq hi
    have ha := accS_le ht bx w y x i
    have hp2 := prod_le (ht.2 i) (bx.get (y * w + cxS w x i))
    have bg := bx.get (y * w + cxS w x i)
    obtain ⟨e1, e2⟩ := cx_eq (w := w) (x := x) (i := i) hw.1
    have hlt := row_lt hy e2
    have lr : ((xs.drop (y * w)).take w).length = w := by
      have := row_lt (c := 0) hy hw.1
      have h2 : (y + 1) * w ≤ h * w := Nat.mul_le_mul_right w (by omega)
      rw [Nat.add_mul, Nat.one_mul] at h2
      rw [List.length_take, List.length_drop]; omega
    have gr : ((xs.drop (y * w)).take w).getD (cxS w x i) 0 = xs.getD (y * w + cxS w x i) 0 := by
      simp only [List.getD_eq_getElem?_getD, List.getElem?_take, if_pos e2, List.getElem?_drop]
    refine Run.cut (Evp.of_eq (fun k => wiener_across.p62612 k ..) ?_)
    refine Evp.dec (fun _ => ?_) fun h => absurd h (by omega)
    refine Evp.pos (by omega) ?_
    simp only [Int.toNat_natCast, Nat.add_zero]
    refine Evp.some (seven_get i (by omega)) ?_
    rw [w64 (x := (x : Int) + i) (by omega), w64 (x := (x : Int) + i - 3) (by omega), w64 (x := (w : Int) - 1) (by omega)]
    refine Evp.ob (wclip_ok _ _ _ _ _ (by omega)) ?_
    rintro _ rfl
    simp only [ret_int, ret_bool, ret_flt, ret_slc, ret_str, ret_ptr, ret_agg, ret_tup, ob_some, bb_true, bb_false, List.getElem?_cons_zero, List.getElem?_cons_succ, List.length_cons, List.length_nil, Nat.reduceAdd, Nat.reduceLT]
    rw [e1]
    refine Evp.pos (pos_iN (by omega)) ?_
    simp only [Int.toNat_natCast]
    refine Evp.ldI (hR.pre hp) (by omega) fun _ _ => ?_
    rw [gr, w64 (x := xs.getD (y * w + cxS w x i) 0) (by omega), w64 (x := _ * _) (by omega), w64 (x := _ + _ * _) (by omega), w64 (x := (i : Int) + 1) (by omega)]
    exact Evp.ret (ih (i + 1) (by omega) (by omega))
include hlo bx hw hn hy ht in
theorem across_loop (R : Option Addr) (cr from_ to : Nat) (hft : from_ ≤ to) (hto : to ≤ 1024) (hR : RdI M0 .u8 R ((xs.drop (y * w)).take w)) : ∀ (q i : Nat) (B : Option Addr) (cb : Nat) (M : Mem), to - from_ - i = q → i ≤ to - from_ → Pre M0 M → Grow M0 M 1 B i (((acL [a, b, c, d, e, f, g] xs w y from_ i)).map (Value.int .i64)) →
    Run P T lo F.wiener_across (wiener_across.c244 to B i cb R w cr ((from_ + i : Nat) : Int) w h A xs.length cap a b c d e f g M) fun r => ∃ B' cb' M', r = (.slice B' (to - from_) cb', M') ∧ Pre M0 M' ∧ RdI M' .i64 B' (acL [a, b, c, d, e, f, g] xs w y from_ (to - from_)) ∧ ∀ z, B' = some z → M0.length ≤ z.block := by
  intro q
  induction q with
  | zero =>
    intro i B cb M hq hi hp hg
    obtain rfl : i = to - from_ := by omega
    refine Run.cut (Evp.of_eq (fun k => wiener_across.p244 k ..) ?_)
    refine Evp.dec (fun h => absurd h (by omega)) fun _ => ?_
    refine Evp.ret (Run.ret ⟨B, cb, M, rfl, hp, ?_, fun z hz => ?_⟩)
    rotate_left
    · rcases hg.at_ with ⟨e, _⟩ | ⟨b', e, hb', _⟩
      · rw [e] at hz; cases hz
      · rw [e] at hz; injection hz with hz; subst hz; exact hb'
    have := hg.rd
    unfold RdI
    rw [show (acL [a, b, c, d, e, f, g] xs w y from_ (to - from_)).length = to - from_ by simp [acL]]
    exact this
  | succ q ih =>
    intro i B cb M hq hi hp hg
    refine Run.cut (Evp.of_eq (fun k => wiener_across.p244 k ..) ?_)
    refine Evp.dec (fun _ => ?_) fun h => absurd h (by omega)
    refine Evp.ret ?_
    refine across_in lo A cap xs w h y a b c d e f g M0 bx hw hn hy ht R cr from_ to hR B i cb (from_ + i) (by omega) M hp ?_ 7 0 rfl (by omega)
    obtain ⟨s, M', h1, h2, h3, h4, _, _⟩ := hg.app (lo := lo) (bytes := 8) (c := cb) (m := 1) (vs := [.int .i64 (acS [a, b, c, d, e, f, g] xs w y (from_ + i))]) hp hlo (by simp) (by omega) (by omega)
    refine Evp.some h1 (Evp.ret ?_)
    have e2 : (acL [a, b, c, d, e, f, g] xs w y from_ i).map (Value.int .i64) ++ [.int .i64 (acS [a, b, c, d, e, f, g] xs w y (from_ + i))] = (acL [a, b, c, d, e, f, g] xs w y from_ (i + 1)).map (Value.int .i64) := by
      unfold acL; rw [List.range_succ, List.map_append, List.map_append]; rfl
    rw [h3, e2] at h2
    rw [h3, w64 (by omega)]
    have := ih (i + 1) s.a s.c M' (by omega) (by omega) h4 h2
    exact this
include hlo hx bx hw hn hy ht hh hcap in
theorem across_ok (from_ to : Nat) (hft : from_ ≤ to) (hto : to ≤ 1024) : Ac P T lo F.wiener_across [.agg ⟨[.int .i64 w, .int .i64 h, .slice A xs.length cap]⟩, .int .i64 y, .agg ⟨[.int .i64 a, .int .i64 b, .int .i64 c, .int .i64 d, .int .i64 e, .int .i64 f, .int .i64 g]⟩, .int .i64 (from_ : Nat), .int .i64 (to : Nat)] M0 fun r =>
    ∃ B' cb' M', r = (.slice B' (to - from_) cb', M') ∧ Pre M0 M' ∧ RdI M' .i64 B' (acL [a, b, c, d, e, f, g] xs w y from_ (to - from_)) ∧ ∀ z, B' = some z → M0.length ≤ z.block := by
  have h2 : (y + 1) * w ≤ h * w := Nat.mul_le_mul_right w (by omega)
  have sm : h * w ≤ 512 * 512 := Nat.mul_le_mul hh hw.2
  have e3 : (y + 1) * w = y * w + w := by rw [Nat.add_mul, Nat.one_mul]
  refine Ac.of (Evp.of_eq (fun k => wiener_across.entry k ..) ?_)
  rw [w64 (x := (to : Int) - from_) (by omega), ← Int.natCast_mul, w64 (x := ((y * w : Nat) : Int)) (by omega), w64 (x := (y : Int) + 1) (by omega), show ((y : Int) + 1) * (w : Int) = (((y + 1) * w : Nat) : Int) by rw [Int.natCast_mul]; rfl, w64 (x := (((y + 1) * w : Nat) : Int)) (by omega)]
  refine Evp.pos ⟨by omega, by show _ * 8 ≤ _; omega⟩ (Evp.pos ⟨by omega, by omega, by omega⟩ ?_)
  simp only [Int.toNat_natCast]
  have hR := hx.slAddr (l := y * w) (h := (y + 1) * w) (c := cap) (by omega) (by omega) hcap
  rw [show (y + 1) * w - y * w = w by omega] at hR ⊢
  have p1 := Pre.app M0 [⟨.op 1, []⟩]
  refine Evp.ret ?_
  have := across_loop lo A cap xs w h y a b c d e f g M0 hlo bx hw hn hy ht (slAddr 1 A (y * w) cap) (cap - y * w) from_ to hft hto hR _ 0 (some ⟨M0.length, 0, some 0⟩) 0 (M0 ++ [⟨.op 1, []⟩]) rfl (by omega) p1 ⟨by simp [acL], .inr ⟨M0.length, rfl, Nat.le_refl _, by simp [acL]⟩⟩
  exact this
end
end Go.Zt
