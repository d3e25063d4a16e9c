/- What is blended with a neighbour's samples. -/
import Derived.Test.YtgpobephldelaaaFj
set_option linter.unusedVariables false
set_option linter.unusedSimpArgs false
set_option maxRecDepth 100000
namespace Go.Zt
def LiesP (n w x y rw rh : Int) : Prop := 1 ≤ w ∧ w ≤ 64 ∧ n % w = 0 ∧ 1 ≤ n / w ∧ n / w ≤ 64 ∧ 1 ≤ rw ∧ rw ≤ w ∧ 0 ≤ x ∧ x ≤ w - rw ∧ 1 ≤ rh ∧ rh ≤ n / w ∧ 0 ≤ y ∧ y ≤ n / w - rh
instance (n w x y rw rh : Int) : Decidable (LiesP n w x y rw rh) := inferInstanceAs (Decidable (_ ∧ _))
section
variable (lo : Nat) (A : Option Addr) (n c : Nat) (w x y rw rh : Int) (M : Mem) (hn : n ≤ 140737488351232)
include hn
theorem lies_ok : Ac P T lo F.motion_lies [.slice A n c, .int .i64 w, .agg ⟨[.int .i64 x, .int .i64 y, .int .i64 rw, .int .i64 rh]⟩] M fun r => r = (.bool (decide (LiesP n w x y rw rh)), M) := by
  have no : ¬ (LiesP n w x y rw rh) → Run P T lo F.motion_lies (.ret (.bool false) M) fun r => r = (.bool (decide (LiesP n w x y rw rh)), M) := fun h => Run.ret (by rw [decide_eq_false h])
  refine Ac.of (Evp.of_eq (fun k => motion_lies.entry k ..) ?_)
  refine Evp.ob (mwithin_ok ..) ?_
  rintro _ rfl
  simp only [ret_int, ret_bool, ret_flt, ret_slc, ret_str, ret_ptr, ret_agg, ret_tup, ob_some, bb_true, bb_false, List.getElem?_cons_zero, List.getElem?_cons_succ, List.length_cons, List.length_nil, Nat.reduceAdd, Nat.reduceLT]
  refine Evp.nb (fun h => Evp.ret (no fun e => of_decide_eq_false h ⟨e.1, e.2.1⟩)) fun h1 => ?_
  have h1 := of_decide_eq_true h1
  have td : Int.tdiv (n : Int) w = (n : Int) / w := Int.tdiv_eq_ediv_of_nonneg (by omega)
  have tm : Int.tmod (n : Int) w = (n : Int) % w := Int.tmod_eq_emod_of_nonneg (by omega)
  have d1 : 0 ≤ (n : Int) / w := Int.ediv_nonneg (by omega) (by omega)
  have d2 : (n : Int) / w ≤ n := Int.ediv_le_self _ (by omega)
  refine Evp.neg (by omega) ?_
  rw [td, tm]
  refine Evp.neb (fun h => Evp.ret (no fun e => h e.2.2.1)) fun h2 => ?_
  refine Evp.neg (by omega) ?_
  rw [w64 (x := (n : Int) / w) (by omega)]
  refine Evp.ob (mwithin_ok ..) ?_
  rintro _ rfl
  simp only [ret_int, ret_bool, ret_flt, ret_slc, ret_str, ret_ptr, ret_agg, ret_tup, ob_some, bb_true, bb_false, List.getElem?_cons_zero, List.getElem?_cons_succ, List.length_cons, List.length_nil, Nat.reduceAdd, Nat.reduceLT]
  refine Evp.nb (fun h => Evp.ret (no fun e => of_decide_eq_false h ⟨e.2.2.2.1, e.2.2.2.2.1⟩)) fun h3 => ?_
  have h3 := of_decide_eq_true h3
  refine Evp.ob (mwithin_ok ..) ?_
  rintro _ rfl
  simp only [ret_int, ret_bool, ret_flt, ret_slc, ret_str, ret_ptr, ret_agg, ret_tup, ob_some, bb_true, bb_false, List.getElem?_cons_zero, List.getElem?_cons_succ, List.length_cons, List.length_nil, Nat.reduceAdd, Nat.reduceLT]
  refine Evp.dec (fun h4 => ?_) fun h4 => Evp.ret (no fun e => h4 ⟨e.2.2.2.2.2.1, e.2.2.2.2.2.2.1⟩)
  rw [w64 (x := w - rw) (by omega)]
  refine Evp.ob (mwithin_ok ..) ?_
  rintro _ rfl
  simp only [ret_int, ret_bool, ret_flt, ret_slc, ret_str, ret_ptr, ret_agg, ret_tup, ob_some, bb_true, bb_false, List.getElem?_cons_zero, List.getElem?_cons_succ, List.length_cons, List.length_nil, Nat.reduceAdd, Nat.reduceLT]
  refine Evp.dec (fun h5 => ?_) fun h5 => Evp.ret (no fun e => h5 ⟨e.2.2.2.2.2.2.2.1, e.2.2.2.2.2.2.2.2.1⟩)
  refine Evp.neg (by omega) ?_
  refine Evp.ob (mwithin_ok ..) ?_
  rintro _ rfl
  simp only [ret_int, ret_bool, ret_flt, ret_slc, ret_str, ret_ptr, ret_agg, ret_tup, ob_some, bb_true, bb_false, List.getElem?_cons_zero, List.getElem?_cons_succ, List.length_cons, List.length_nil, Nat.reduceAdd, Nat.reduceLT]
  refine Evp.dec (fun h6 => ?_) fun h6 => Evp.ret (no fun e => h6 ⟨e.2.2.2.2.2.2.2.2.2.1, e.2.2.2.2.2.2.2.2.2.2.1⟩)
  refine Evp.neg (by omega) ?_
  rw [w64 (x := (n : Int) / w - rh) (by omega)]
  refine Evp.ob (mwithin_ok ..) ?_
  rintro _ rfl
  simp only [ret_int, ret_bool, ret_flt, ret_slc, ret_str, ret_ptr, ret_agg, ret_tup, ob_some, bb_true, bb_false, List.getElem?_cons_zero, List.getElem?_cons_succ, List.length_cons, List.length_nil, Nat.reduceAdd, Nat.reduceLT]
  refine Evp.ret (Run.ret ?_)
  congr 2
  exact decide_eq_decide.2 ⟨fun e => ⟨h1.1, h1.2, h2, h3.1, h3.2, h4.1, h4.2, h5.1, h5.2, h6.1, h6.2, e.1, e.2⟩, fun e => ⟨e.2.2.2.2.2.2.2.2.2.2.2.1, e.2.2.2.2.2.2.2.2.2.2.2.2⟩⟩
theorem rwithin15_ok : Ac P T lo F.zoetroperef15_within [.slice A n c, .int .i64 w, .agg ⟨[.int .i64 x, .int .i64 y, .int .i64 rw, .int .i64 rh]⟩] M fun r => r = (.bool (decide (LiesP n w x y rw rh)), M) := by
  have no : ¬ (LiesP n w x y rw rh) → Run P T lo F.zoetroperef15_within (.ret (.bool false) M) fun r => r = (.bool (decide (LiesP n w x y rw rh)), M) := fun h => Run.ret (by rw [decide_eq_false h])
  refine Ac.of (Evp.of_eq (fun k => zoetroperef15_within.entry k ..) ?_)
  refine Evp.dec (fun h => Evp.ret (no fun e => by have := e.1; omega)) fun h1 => ?_
  refine Evp.dec (fun h => Evp.ret (no fun e => by have := e.2.1; omega)) fun h2 => ?_
  have td : Int.tdiv (n : Int) w = (n : Int) / w := Int.tdiv_eq_ediv_of_nonneg (by omega)
  have tm : Int.tmod (n : Int) w = (n : Int) % w := Int.tmod_eq_emod_of_nonneg (by omega)
  have d1 : 0 ≤ (n : Int) / w := Int.ediv_nonneg (by omega) (by omega)
  have d2 : (n : Int) / w ≤ n := Int.ediv_le_self _ (by omega)
  refine Evp.eqb (fun h => Evp.ret (no fun e => by have := e.2.2.2.1; rw [h, Int.zero_ediv] at this; omega)) fun h0 => ?_
  refine Evp.neg (by omega) ?_
  rw [td, tm]
  refine Evp.neb (fun h => Evp.ret (no fun e => h e.2.2.1)) fun h3 => ?_
  refine Evp.neg (by omega) ?_
  rw [w64 (x := (n : Int) / w) (by omega)]
  refine Evp.dec (fun h => Evp.ret (no fun e => by have := e.2.2.2.2.1; omega)) fun h4 => ?_
  refine Evp.neg (by omega) ?_
  have h5 : 1 ≤ (n : Int) / w := by
    have e := Int.mul_ediv_add_emod (n : Int) w
    rw [h3, Int.add_zero] at e
    refine Int.not_lt.1 fun hlt => h0 ?_
    have : (n : Int) / w = 0 := by omega
    rw [this, Int.mul_zero] at e
    omega
  refine Evp.ob (Q1 := fun r => r = (.bool (decide (LiesP n w x y rw rh)), M)) ?_ ?_
  · have no : ¬ (LiesP n w x y rw rh) → Run P T lo F.zoetroperef05_Within (.ret (.bool false) M) fun r => r = (.bool (decide (LiesP n w x y rw rh)), M) := fun h => Run.ret (by rw [decide_eq_false h])
    refine Ac.of (Evp.of_eq (fun k => zoetroperef05_Within.entry k ..) ?_)
    refine Evp.dec (fun g1 => ?_) fun g1 => Evp.ret (no fun e => by unfold LiesP at e; omega)
    refine Evp.dec (fun g2 => ?_) fun g2 => Evp.ret (no fun e => by unfold LiesP at e; omega)
    refine Evp.dec (fun g3 => ?_) fun g3 => Evp.ret (no fun e => by unfold LiesP at e; omega)
    refine Evp.dec (fun g4 => ?_) fun g4 => Evp.ret (no fun e => by unfold LiesP at e; omega)
    refine Evp.dec (fun g5 => ?_) fun g5 => Evp.ret (no fun e => by unfold LiesP at e; omega)
    refine Evp.dec (fun g6 => ?_) fun g6 => Evp.ret (no fun e => by unfold LiesP at e; omega)
    rw [w64 (x := w - rw) (by omega), w64 (x := (n : Int) / w - rh) (by omega)]
    refine Evp.dec (fun g7 => ?_) fun g7 => Evp.ret (no fun e => by unfold LiesP at e; omega)
    refine Evp.ret (Run.ret ?_)
    congr 2
    exact decide_eq_decide.2 (by unfold LiesP; omega)
  rintro _ rfl
  simp only [ret_int, ret_bool, ret_flt, ret_slc, ret_str, ret_ptr, ret_agg, ret_tup, ob_some, bb_true, bb_false, List.getElem?_cons_zero, List.getElem?_cons_succ, List.length_cons, List.length_nil, Nat.reduceAdd, Nat.reduceLT]
  exact Evp.ret (Run.ret rfl)
end

/-! ### Blending -/
def mixS (k a b : Int) : Int := (k * a + (64 - k) * b + 32) / 64
theorem mix_le {k a b : Int} (hk : 32 ≤ k ∧ k ≤ 63) (ha : 0 ≤ a ∧ a ≤ 255) (hb : 0 ≤ b ∧ b ≤ 255) : 0 ≤ k * a ∧ k * a ≤ 16065 ∧ 0 ≤ (64 - k) * b ∧ (64 - k) * b ≤ 8160 ∧ k * a + (64 - k) * b ≤ 16320 := by
  have h1 : 0 ≤ k * a := Int.mul_nonneg (by omega) (by omega)
  have h2 : 0 ≤ (64 - k) * b := Int.mul_nonneg (by omega) (by omega)
  have h3 : k * a ≤ k * 255 := Int.mul_le_mul_of_nonneg_left (by omega) (by omega)
  have h4 : (64 - k) * b ≤ (64 - k) * 255 := Int.mul_le_mul_of_nonneg_left (by omega) (by omega)
  omega
theorem mix_bytes {k a b : Int} (hk : 32 ≤ k ∧ k ≤ 63) (ha : 0 ≤ a ∧ a ≤ 255) (hb : 0 ≤ b ∧ b ≤ 255) : 0 ≤ mixS k a b ∧ mixS k a b ≤ 255 := by
  have := mix_le hk ha hb
  unfold mixS; omega
/-- Which weight a place has; how many there are. -/
def alS (al : Bool) (W i : Nat) : Nat := if al then i / W else i % W
def nA (al : Bool) (W H : Nat) : Nat := if al then H else W
def atS (w X Y W i : Nat) : Nat := (Y + i / W) * w + X + i % W
def blS (al : Bool) (own other : List Int) (w X Y W H : Nat) : Nat → List Int
  | 0 => own
  | i + 1 => (blS al own other w X Y W H i).set (atS w X Y W i) (mixS (wS (nA al W H) (alS al W i)) ((blS al own other w X Y W H i).getD (atS w X Y W i) 0) (other.getD i 0))
theorem bl_len (al : Bool) (own other : List Int) (w X Y W H i : Nat) : (blS al own other w X Y W H i).length = own.length := by
  induction i with
  | zero => rfl
  | succ i ih => simp [blS, ih]
structure Rect (w h X Y W H : Nat) : Prop where
  w1 : 1 ≤ w
  w2 : w ≤ 64
  h1 : 1 ≤ h
  h2 : h ≤ 64
  rw : 1 ≤ W
  rh : 1 ≤ H
  x : X + W ≤ w
  y : Y + H ≤ h
theorem al_lt {al : Bool} {W H i : Nat} (hi : i < W * H) (hW : 1 ≤ W) : alS al W i < nA al W H := by
  unfold alS nA
  cases al
  · exact Nat.mod_lt _ (by omega)
  · exact Nat.div_lt_of_lt_mul hi
theorem at_lt {w h X Y W H i : Nat} (r : Rect w h X Y W H) (hi : i < W * H) : atS w X Y W i < h * w ∧ i / W < H ∧ i % W < W := by
  have h1 : i / W < H := Nat.div_lt_of_lt_mul hi
  have h2 : i % W < W := Nat.mod_lt _ r.rw
  have := r.x; have := r.y
  refine ⟨?_, h1, h2⟩
  unfold atS
  have h3 : (Y + i / W + 1) * w ≤ h * w := Nat.mul_le_mul_right w (by omega)
  rw [Nat.add_mul, Nat.one_mul] at h3
  omega
theorem bl_bytes {al : Bool} {own other : List Int} {w h X Y W H : Nat} (bo : Bytes own) (bt : Bytes other) (r : Rect w h X Y W H) : ∀ i, i ≤ W * H → Bytes (blS al own other w X Y W H i)
  | 0, _ => bo
  | i + 1, hi => fun z hz => by
    have ih := bl_bytes (al := al) bo bt r i (by omega)
    simp only [blS] at hz
    rcases List.mem_or_eq_of_mem_set hz with h | h
    · exact ih z h
    · rw [h]
      exact mix_bytes (wS_le (al_lt (by omega) r.rw)) (ih.get _) (bt.get _)
def BlendR (al : Bool) (M : Mem) (own other : List Int) (w x y rw rh : Int) (r : Value × Mem) : Prop :=
  Pre M r.2 ∧ if LiesP own.length w x y rw rh ∧ (4 ≤ (if al then rh else rw) ∧ (if al then rh else rw) ≤ 32) ∧ (other.length : Int) = rw * rh then
    ∃ A cc, r.1 = .tuple ⟨[.slice A own.length cc, .int .i64 0]⟩ ∧ own.length ≤ cc ∧ OwnM M r.2 A (blS al own other w.toNat x.toNat y.toNat rw.toNat rh.toNat other.length)
  else r.1 = .tuple ⟨[.slice none 0 0, .int .i64 2]⟩
section
variable (al : Bool) (lo : Nat) (A B K D : Option Addr) (c cb ck cd : Nat) (own other : List Int) (M0 : Mem) (w h X Y W H : Nat)
variable (hlo : lo ≤ M0.length) (hy : RdI M0 .u8 B other) (bo : Bytes own) (bt : Bytes other) (r : Rect w h X Y W H) (ho : own.length = h * w) (ht : other.length = W * H) (hN : 4 ≤ nA al W H ∧ nA al W H ≤ 32) (hK : RdI M0 .i64 K (wL (nA al W H)))
theorem small_mul {a b : Nat} (ha : a ≤ 64) (hb : b ≤ 64) : a * b ≤ 4096 := Nat.mul_le_mul ha hb
def alV (al : Bool) : Value := if al then .func (.func F.motion_Above_1) ⟨[]⟩ ⟨[]⟩ else .func (.func F.motion_Left_1) ⟨[]⟩ ⟨[]⟩
def alF (al : Bool) : Nat := if al then F.motion_Above_1 else F.motion_Left_1
theorem alV_fun : (alV al).fun? = some (alF al, [], []) := by cases al <;> rfl
theorem al_ok (lo : Nat) (a b : Int) (M : Mem) : Ac P T lo (alF al) [.int .i64 a, .int .i64 b] M fun r => r = (.int .i64 (if al then b else a), M) := by
  cases al
  · show Ac P T lo F.motion_Left_1 _ _ _
    refine Ac.of (Evp.of_eq (fun k => motion_Left_1.entry k ..) ?_)
    exact Evp.ret (Run.ret rfl)
  · show Ac P T lo F.motion_Above_1 _ _ _
    refine Ac.of (Evp.of_eq (fun k => motion_Above_1.entry k ..) ?_)
    exact Evp.ret (Run.ret rfl)
theorem at_eq (i : Nat) (hi : i < W * H) (r : Rect w h X Y W H) : IntKind.i64.wrap ((IntKind.i64.wrap ((IntKind.i64.wrap ((IntKind.i64.wrap ((Y : Int) + (IntKind.i64.wrap (Int.tdiv (i : Int) (W : Int))))) * (w : Int))) + (X : Int))) + (Int.tmod (i : Int) (W : Int))) = (atS w X Y W i : Nat) := by
  obtain ⟨h1, h2, h3⟩ := at_lt r hi
  have := r.w2; have := r.h2; have := r.x; have := r.y; have := r.rw
  have sm := small_mul r.h2 r.w2
  have e1 : Int.tdiv (i : Int) (W : Int) = ((i / W : Nat) : Int) := rfl
  have e2 : Int.tmod (i : Int) (W : Int) = ((i % W : Nat) : Int) := rfl
  unfold atS at *
  have h4 : (Y + i / W) * w ≤ 4096 := by omega
  rw [e1, e2]
  generalize i / W = q at *
  generalize i % W = s at *
  rw [w64 (x := ((q : Nat) : Int)) (by omega), w64 (x := (Y : Int) + (q : Int)) (by omega), ← Int.natCast_add, ← Int.natCast_mul, w64 (x := (((Y + q) * w : Nat) : Int)) (by omega), w64 (x := (((Y + q) * w : Nat) : Int) + (X : Int)) (by omega), w64 (by omega)]
  omega
include hlo hy bo bt r ho ht hN hK in
theorem blend_loop (hc : own.length ≤ cd) : ∀ (d i : Nat) (M : Mem), W * H - i = d → i ≤ W * H → Pre M0 M → OwnM M0 M D (blS al own other w X Y W H i) →
    Run P T lo F.motion_blend (motion_blend.c500 (w : Int) (alV al) K (nA al W H) ck D own.length cd B other.length cb (other.length : Int) i X Y W H M) fun r => ∃ M', r = (.tuple ⟨[.slice D own.length cd, .int .i64 0]⟩, M') ∧ Pre M0 M' ∧ OwnM M0 M' D (blS al own other w X Y W H (W * H)) := by
  have sm := small_mul (a := W) (b := H) (by have := r.x; have := r.w2; omega) (by have := r.y; have := r.h2; omega)
  intro d
  induction d with
  | zero =>
    intro i M hd hi hp hb
    obtain rfl : i = W * H := by omega
    refine Run.cut (Evp.of_eq (fun k => motion_blend.p500 k ..) ?_)
    refine Evp.dec (fun h => absurd h (by omega)) fun _ => ?_
    exact Evp.ret (Run.ret ⟨M, rfl, hp, hb⟩)
  | succ d ih =>
    intro i M hd hi hp hb
    have bl := bl_len al own other w X Y W H i
    obtain ⟨h1, h2, h3⟩ := at_lt r (i := i) (by omega)
    have ha := al_lt (al := al) (i := i) (H := H) (by omega) r.rw
    rcases hb with hnil | ⟨a, rfl, hb⟩
    · rw [hnil] at bl; simp at bl; omega
    have bb := bl_bytes (al := al) bo bt r i (by omega)
    refine Run.cut (Evp.of_eq (fun k => motion_blend.p500 k ..) ?_)
    refine Evp.dec (fun _ => ?_) fun h => absurd h (by omega)
    refine Evp.pos (by omega) ?_
    simp only [Int.toNat_natCast]
    refine Evp.ldI (hy.pre hp) (by omega) fun _ _ => ?_
    refine Evp.neg (by have := r.rw; omega) (Evp.neg (by have := r.rw; omega) ?_)
    refine Evp.some (alV_fun al) ?_
    refine Evp.ob (al_ok al lo _ _ M) ?_
    rintro _ rfl
    simp only [ret_int, ret_bool, ret_flt, ret_slc, ret_str, ret_ptr, ret_agg, ret_tup, ob_some, bb_true, bb_false, List.getElem?_cons_zero, List.getElem?_cons_succ, List.length_cons, List.length_nil, Nat.reduceAdd, Nat.reduceLT]
    have ei : (if al = true then IntKind.i64.wrap (Int.tdiv (i : Int) (W : Int)) else Int.tmod (i : Int) (W : Int)) = ((alS al W i : Nat) : Int) := by
      unfold alS
      cases al
      · rfl
      · simp only [if_true]
        rw [show Int.tdiv (i : Int) (W : Int) = ((i / W : Nat) : Int) from rfl]
        have := r.y; have := r.h2
        generalize i / W = q at *
        exact w64 (by omega)
    rw [ei, at_eq w h X Y W H i (by omega) r]
    refine Evp.pos (pos_i ha) ?_
    simp only [Int.toNat_natCast]
    refine Evp.ldI (hK.pre hp) (by rw [wL_len]; exact ha) fun _ _ => ?_
    rw [wL_get ha]
    refine Evp.pos (pos_i (by omega)) (Evp.ldI hb.rdI (by omega) fun _ _ => ?_)
    refine Evp.pos (pos_i (by omega)) (Evp.some rfl ?_)
    have kw := wS_le ha
    have b1 := bb.get (atS w X Y W i)
    have b2 := bt.get i
    have ml := mix_le kw b1 b2
    have e : IntKind.u8.wrap (shrI .i64 (IntKind.i64.wrap ((IntKind.i64.wrap ((IntKind.i64.wrap (wS (nA al W H) (alS al W i) * (IntKind.i64.wrap ((blS al own other w X Y W H i).getD (atS w X Y W i) 0)))) + (IntKind.i64.wrap ((IntKind.i64.wrap (64 - wS (nA al W H) (alS al W i))) * (IntKind.i64.wrap (other.getD i 0)))))) + 32)) 6) = mixS (wS (nA al W H) (alS al W i)) ((blS al own other w X Y W H i).getD (atS w X Y W i) 0) (other.getD i 0) := by
      unfold mixS
      generalize wS (nA al W H) (alS al W i) = k at *
      generalize (blS al own other w X Y W H i).getD (atS w X Y W i) 0 = p at *
      generalize other.getD i 0 = q at *
      rw [w64 (x := p) (by omega), w64 (x := q) (by omega), w64 (x := 64 - k) (by omega), w64 (x := k * p) (by omega), w64 (x := (64 - k) * q) (by omega), w64 (x := k * p + (64 - k) * q) (by omega), w64 (x := k * p + (64 - k) * q + 32) (by omega), shr_eq 6 (by omega), show ((2 : Int) ^ 6) = 64 from rfl, wu8 (by omega)]
    rw [e]
    obtain ⟨M', q1, q2, q3, q4, q5⟩ := hb.st (lo := lo) (i := atS w X Y W i) (vs := [.int .u8 (mixS (wS (nA al W H) (alS al W i)) ((blS al own other w X Y W H i).getD (atS w X Y W i) 0) (other.getD i 0))]) hp hlo (by simp; omega)
    refine Evp.some q1 ?_
    rw [setL_one, set_map] at q2
    rw [w64 (by omega)]
    exact Evp.ret (ih (i + 1) M' (by omega) (by omega) q3 (.inr ⟨a, rfl, q2⟩))
end
theorem lies_nat {n : Nat} {w x y rw rh : Int} (h : LiesP n w x y rw rh) : ∃ w' h' x' y' rw' rh' : Nat, w = w' ∧ x = x' ∧ y = y' ∧ rw = rw' ∧ rh = rh' ∧ n = h' * w' ∧ Rect w' h' x' y' rw' rh' := by
  unfold LiesP at h
  obtain ⟨w', rfl⟩ := Int.eq_ofNat_of_zero_le (a := w) (by omega)
  obtain ⟨x', rfl⟩ := Int.eq_ofNat_of_zero_le (a := x) (by omega)
  obtain ⟨y', rfl⟩ := Int.eq_ofNat_of_zero_le (a := y) (by omega)
  obtain ⟨rw', rfl⟩ := Int.eq_ofNat_of_zero_le (a := rw) (by omega)
  obtain ⟨rh', rfl⟩ := Int.eq_ofNat_of_zero_le (a := rh) (by omega)
  have e1 : (n : Int) / (w' : Int) = ((n / w' : Nat) : Int) := rfl
  have e2 : (n : Int) % (w' : Int) = ((n % w' : Nat) : Int) := rfl
  rw [e1, e2] at h
  have e3 := Nat.div_add_mod n w'
  rw [show n % w' = 0 by omega, Nat.add_zero, Nat.mul_comm] at e3
  exact ⟨w', n / w', x', y', rw', rh', rfl, rfl, rfl, rfl, rfl, e3.symm, ⟨by omega, by omega, by omega, by omega, by omega, by omega, by omega, by omega⟩⟩
section
variable (lo : Nat) (A B : Option Addr) (c cb : Nat) (own other : List Int) (M0 : Mem) (w x y rw rh : Int)
variable (hlo : lo ≤ M0.length) (hx : RdI M0 .u8 A own) (hy : RdI M0 .u8 B other) (bo : Bytes own) (bt : Bytes other) (hn : own.length ≤ 140737488351232)
include hlo hx hy bo bt hn
theorem pblend_ok (al : Bool) : Ac P T lo F.motion_blend [.slice A own.length c, .int .i64 w, .agg ⟨[.int .i64 x, .int .i64 y, .int .i64 rw, .int .i64 rh]⟩, .slice B other.length cb, .int .i64 (if al then rh else rw), alV al] M0 (BlendR al M0 own other w x y rw rh) := by
  have bad : ∀ M : Mem, Pre M0 M → ¬ (LiesP own.length w x y rw rh ∧ (4 ≤ (if al then rh else rw) ∧ (if al then rh else rw) ≤ 32) ∧ (other.length : Int) = rw * rh) → Run P T lo F.motion_blend (.ret (.tuple ⟨[.slice none 0 0, .int .i64 2]⟩) M) (BlendR al M0 own other w x y rw rh) := fun M hp h => Run.ret ⟨hp, by rw [if_neg h]⟩
  refine Ac.of (Evp.of_eq (fun k => motion_blend.entry k ..) ?_)
  refine Evp.ob (weights_ok lo _ M0 hlo) ?_
  rintro ⟨v, M1⟩ ⟨p1, hw⟩
  by_cases h4 : 4 ≤ (if al then rh else rw) ∧ (if al then rh else rw) ≤ 32
  · rw [if_pos h4] at hw
    obtain ⟨a, ck, e, hck, hbw⟩ := hw
    simp only at e
    subst e
    simp only [ret_int, ret_bool, ret_flt, ret_slc, ret_str, ret_ptr, ret_agg, ret_tup, ob_some, bb_true, bb_false, List.getElem?_cons_zero, List.getElem?_cons_succ, List.length_cons, List.length_nil, Nat.reduceAdd, Nat.reduceLT]
    refine Evp.neb (fun h => absurd rfl h) fun _ => ?_
    refine Evp.ob (lies_ok _ _ _ _ _ _ _ _ _ _ hn) ?_
    rintro _ rfl
    simp only [ret_int, ret_bool, ret_flt, ret_slc, ret_str, ret_ptr, ret_agg, ret_tup, ob_some, bb_true, bb_false, List.getElem?_cons_zero, List.getElem?_cons_succ, List.length_cons, List.length_nil, Nat.reduceAdd, Nat.reduceLT]
    refine Evp.nb (fun h => Evp.ret (bad M1 p1 fun e => of_decide_eq_false h e.1)) fun hl => ?_
    have hl := of_decide_eq_true hl
    obtain ⟨w', h', x', y', rw', rh', rfl, rfl, rfl, rfl, rfl, e1, rc⟩ := lies_nat hl
    have sm := small_mul (a := rw') (b := rh') (by have := rc.x; have := rc.w2; omega) (by have := rc.y; have := rc.h2; omega)
    have em : (rw' : Int) * (rh' : Int) = ((rw' * rh' : Nat) : Int) := by rw [Int.natCast_mul]
    rw [em, w64 (x := ((rw' * rh' : Nat) : Int)) (by omega)]
    rw [em] at bad
    refine Evp.neb (fun h => Evp.ret (bad M1 p1 fun e => h e.2.2)) fun ht => ?_
    have ht : other.length = rw' * rh' := by omega
    have en : (if al then (rh' : Int) else (rw' : Int)) = ((nA al rw' rh' : Nat) : Int) := by unfold nA; cases al <;> rfl
    rw [en] at h4 hbw ⊢
    simp only [Int.toNat_natCast] at hbw ⊢
    have hr1 := hx.pre p1
    refine Evp.ob (cloneAny_ok lo A c own M1 hr1 hn (Nat.le_trans hlo p1.len)) ?_
    rintro _ ⟨D, cd, M2, rfl, p2, hc, ho⟩
    simp only [ret_int, ret_bool, ret_flt, ret_slc, ret_str, ret_ptr, ret_agg, ret_tup, ob_some, bb_true, bb_false, List.getElem?_cons_zero, List.getElem?_cons_succ, List.length_cons, List.length_nil, Nat.reduceAdd, Nat.reduceLT]
    have hK : RdI M1 .i64 (some a) (wL (nA al rw' rh')) := hbw.rdI
    refine Evp.ret (Run.mono (blend_loop al lo B (some a) D cb ck cd own other M1 w' h' x' y' rw' rh' (Nat.le_trans hlo p1.len) (hy.pre p1) bo bt rc e1 ht (by omega) hK hc (rw' * rh') 0 M2 (by omega) (by omega) p2 ho) ?_)
    rintro _ ⟨M', rfl, p3, ho3⟩
    refine ⟨p1.trans p3, ?_⟩
    rw [if_pos ⟨hl, by rw [en]; exact h4, by rw [em]; omega⟩, ht]
    exact ⟨D, cd, rfl, hc, ho3.floor p1.len⟩
  · rw [if_neg h4] at hw
    simp only at hw
    subst hw
    simp only [ret_int, ret_bool, ret_flt, ret_slc, ret_str, ret_ptr, ret_agg, ret_tup, ob_some, bb_true, bb_false, List.getElem?_cons_zero, List.getElem?_cons_succ, List.length_cons, List.length_nil, Nat.reduceAdd, Nat.reduceLT]
    refine Evp.neb (fun _ => Evp.ret (bad M1 p1 fun e => h4 e.2.1)) fun h => absurd h (by omega)
theorem above_ok : Ac P T lo F.motion_Above [.slice A own.length c, .int .i64 w, .agg ⟨[.int .i64 x, .int .i64 y, .int .i64 rw, .int .i64 rh]⟩, .slice B other.length cb] M0 (BlendR true M0 own other w x y rw rh) := by
  refine Ac.of (Evp.of_eq (fun k => motion_Above.entry k ..) ?_)
  refine Evp.ob (pblend_ok lo A B c cb own other M0 w x y rw rh hlo hx hy bo bt hn true) ?_
  rintro ⟨v, M1⟩ ⟨p1, hw⟩
  by_cases hk : LiesP own.length w x y rw rh ∧ (4 ≤ (if (true = true) then rh else rw) ∧ (if (true = true) then rh else rw) ≤ 32) ∧ (other.length : Int) = rw * rh
  · rw [if_pos hk] at hw
    obtain ⟨D, cd, e, h1, h2⟩ := hw
    simp only at e
    subst e
    simp only [ret_int, ret_bool, ret_flt, ret_slc, ret_str, ret_ptr, ret_agg, ret_tup, ob_some, bb_true, bb_false, List.getElem?_cons_zero, List.getElem?_cons_succ, List.length_cons, List.length_nil, Nat.reduceAdd, Nat.reduceLT]
    exact Evp.ret (Run.ret ⟨p1, by rw [if_pos hk]; exact ⟨D, cd, rfl, h1, h2⟩⟩)
  · rw [if_neg hk] at hw
    simp only at hw
    subst hw
    simp only [ret_int, ret_bool, ret_flt, ret_slc, ret_str, ret_ptr, ret_agg, ret_tup, ob_some, bb_true, bb_false, List.getElem?_cons_zero, List.getElem?_cons_succ, List.length_cons, List.length_nil, Nat.reduceAdd, Nat.reduceLT]
    exact Evp.ret (Run.ret ⟨p1, by rw [if_neg hk]⟩)
theorem left_ok : Ac P T lo F.motion_Left [.slice A own.length c, .int .i64 w, .agg ⟨[.int .i64 x, .int .i64 y, .int .i64 rw, .int .i64 rh]⟩, .slice B other.length cb] M0 (BlendR false M0 own other w x y rw rh) := by
  refine Ac.of (Evp.of_eq (fun k => motion_Left.entry k ..) ?_)
  refine Evp.ob (pblend_ok lo A B c cb own other M0 w x y rw rh hlo hx hy bo bt hn false) ?_
  rintro ⟨v, M1⟩ ⟨p1, hw⟩
  by_cases hk : LiesP own.length w x y rw rh ∧ (4 ≤ (if (false = true) then rh else rw) ∧ (if (false = true) then rh else rw) ≤ 32) ∧ (other.length : Int) = rw * rh
  · rw [if_pos hk] at hw
    obtain ⟨D, cd, e, h1, h2⟩ := hw
    simp only at e
    subst e
    simp only [ret_int, ret_bool, ret_flt, ret_slc, ret_str, ret_ptr, ret_agg, ret_tup, ob_some, bb_true, bb_false, List.getElem?_cons_zero, List.getElem?_cons_succ, List.length_cons, List.length_nil, Nat.reduceAdd, Nat.reduceLT]
    exact Evp.ret (Run.ret ⟨p1, by rw [if_pos hk]; exact ⟨D, cd, rfl, h1, h2⟩⟩)
  · rw [if_neg hk] at hw
    simp only at hw
    subst hw
    simp only [ret_int, ret_bool, ret_flt, ret_slc, ret_str, ret_ptr, ret_agg, ret_tup, ob_some, bb_true, bb_false, List.getElem?_cons_zero, List.getElem?_cons_succ, List.length_cons, List.length_nil, Nat.reduceAdd, Nat.reduceLT]
    exact Evp.ret (Run.ret ⟨p1, by rw [if_neg hk]⟩)
end
/-! ### The document's -/
theorem rblend_ok (lo : Nat) (a : Addr) (cd : Nat) (zs : List Int) (p : Nat) (k v : Int) (M0 M : Mem) (hlo : lo ≤ M0.length) (hp : Pre M0 M) (hb : Buf M0 M a (zs.map (Value.int .u8))) (bz : Bytes zs) (hk : 32 ≤ k ∧ k ≤ 63) (hv : 0 ≤ v ∧ v ≤ 255) (hi : p < zs.length) :
    Ac P T lo F.zoetroperef15_blend [.slice (some a) zs.length cd, .int .i64 (p : Nat), .int .i64 k, .int .u8 v] M fun r => ∃ M', r = (.tuple ⟨[]⟩, M') ∧ Pre M0 M' ∧ Buf M0 M' a ((zs.set p (mixS k (zs.getD p 0) v)).map (Value.int .u8)) := by
  refine Ac.of (Evp.of_eq (fun k => zoetroperef15_blend.entry k ..) ?_)
  refine Evp.pos (pos_i hi) ?_
  simp only [Int.toNat_natCast]
  refine Evp.ldI hb.rdI hi fun _ _ => ?_
  refine Evp.pos (pos_i hi) (Evp.some rfl ?_)
  have b1 := bz.get p
  have ml := mix_le hk b1 hv
  have e : IntKind.u8.wrap (IntKind.i64.wrap (Int.tdiv (IntKind.i64.wrap ((IntKind.i64.wrap ((IntKind.i64.wrap (k * (IntKind.i64.wrap (zs.getD p 0)))) + (IntKind.i64.wrap ((IntKind.i64.wrap (64 - k)) * (IntKind.i64.wrap v))))) + 32)) 64)) = mixS k (zs.getD p 0) v := by
    unfold mixS
    generalize zs.getD p 0 = q at *
    rw [w64 (x := q) (by omega), w64 (x := v) (by omega), w64 (x := 64 - k) (by omega), w64 (x := k * q) (by omega), w64 (x := (64 - k) * v) (by omega), w64 (x := k * q + (64 - k) * v) (by omega), w64 (x := k * q + (64 - k) * v + 32) (by omega), Int.tdiv_eq_ediv_of_nonneg (by omega), w64 (x := (k * q + (64 - k) * v + 32) / 64) (by omega), wu8 (by omega)]
  rw [e]
  obtain ⟨M', q1, q2, q3, q4, q5⟩ := hb.st (lo := lo) (i := p) (vs := [.int .u8 (mixS k (zs.getD p 0) v)]) hp hlo (by simp; omega)
  refine Evp.some q1 ?_
  rw [setL_one, set_map] at q2
  exact Evp.ret (Run.ret ⟨M', rfl, q3, q2⟩)
section
variable (lo : Nat) (B K D : Option Addr) (cb ck cd : Nat) (own other : List Int) (M0 : Mem) (w h X Y W H : Nat)
variable (hlo : lo ≤ M0.length) (hy : RdI M0 .u8 B other) (bo : Bytes own) (bt : Bytes other) (r : Rect w h X Y W H) (ho : own.length = h * w) (ht : other.length = W * H) (hK : RdI M0 .i64 K (wL (nA true W H)))
include hlo hy bo bt r ho ht hK in
theorem rabove_loop (hc : own.length ≤ cd) : ∀ (d i : Nat) (M : Mem), W * H - i = d → i ≤ W * H → Pre M0 M → OwnM M0 M D (blS true own other w X Y W H i) →
    Run P T lo F.zoetroperef15_Above (zoetroperef15_Above.c500 (w : Int) B other.length cb K (nA true W H) ck D own.length cd i X Y W H M) fun r => ∃ M', r = (.tuple ⟨[.slice D own.length cd, .int .i64 0]⟩, M') ∧ Pre M0 M' ∧ OwnM M0 M' D (blS true own other w X Y W H (W * H)) := by
  have sm := small_mul (a := W) (b := H) (by have := r.x; have := r.w2; omega) (by have := r.y; have := r.h2; omega)
  intro d
  induction d with
  | zero =>
    intro i M hd hi hp hb
    obtain rfl : i = W * H := by omega
    refine Run.cut (Evp.of_eq (fun k => zoetroperef15_Above.p500 k ..) ?_)
    refine Evp.dec (fun h => absurd h (by omega)) fun _ => ?_
    exact Evp.ret (Run.ret ⟨M, rfl, hp, hb⟩)
  | succ d ih =>
    intro i M hd hi hp hb
    have bl := bl_len true own other w X Y W H i
    obtain ⟨h1, h2, h3⟩ := at_lt r (i := i) (by omega)
    have ha := al_lt (al := true) (i := i) (H := H) (by omega) r.rw
    rcases hb with hnil | ⟨a, rfl, hb⟩
    · rw [hnil] at bl; simp at bl; omega
    have bb := bl_bytes (al := true) bo bt r i (by omega)
    have rwp := r.rw
    refine Run.cut (Evp.of_eq (fun k => zoetroperef15_Above.p500 k ..) ?_)
    refine Evp.dec (fun _ => ?_) fun h => absurd h (by omega)
    refine Evp.neg (by omega) (Evp.neg (by omega) (Evp.neg (by omega) ?_))
    have ei : IntKind.i64.wrap (Int.tdiv (i : Int) (W : Int)) = ((alS true W i : Nat) : Int) := by
      unfold alS
      simp only [if_true]
      rw [show Int.tdiv (i : Int) (W : Int) = ((i / W : Nat) : Int) from rfl]
      have := r.y; have := r.h2
      generalize i / W = q at *
      exact w64 (by omega)
    rw [at_eq w h X Y W H i (by omega) r, ei]
    refine Evp.pos (pos_i ha) ?_
    simp only [Int.toNat_natCast]
    refine Evp.ldI (hK.pre hp) (by rw [wL_len]; exact ha) fun _ _ => ?_
    rw [wL_get ha]
    refine Evp.pos (by omega) (Evp.ldI (hy.pre hp) (by omega) fun _ _ => ?_)
    have rb := rblend_ok lo a cd (blS true own other w X Y W H i) (atS w X Y W i) (wS (nA true W H) (alS true W i)) (other.getD i 0) M0 M hlo hp hb bb (wS_le ha) (bt.get i) (by omega)
    rw [bl] at rb
    refine Evp.ob rb ?_
    rintro _ ⟨M', rfl, q3, q2⟩
    simp only [ret_int, ret_bool, ret_flt, ret_slc, ret_str, ret_ptr, ret_agg, ret_tup, ob_some, bb_true, bb_false, List.getElem?_cons_zero, List.getElem?_cons_succ, List.length_cons, List.length_nil, Nat.reduceAdd, Nat.reduceLT]
    rw [w64 (by omega)]
    exact Evp.ret (ih (i + 1) M' (by omega) (by omega) q3 (.inr ⟨a, rfl, q2⟩))
end
section
variable (lo : Nat) (A B : Option Addr) (c cb : Nat) (own other : List Int) (M0 : Mem) (w x y rw rh : Int)
variable (hlo : lo ≤ M0.length) (hx : RdI M0 .u8 A own) (hy : RdI M0 .u8 B other) (bo : Bytes own) (bt : Bytes other) (hn : own.length ≤ 140737488351232)
include hlo hx hy bo bt hn
theorem rabove_ok : Ac P T lo F.zoetroperef15_Above [.slice A own.length c, .int .i64 w, .agg ⟨[.int .i64 x, .int .i64 y, .int .i64 rw, .int .i64 rh]⟩, .slice B other.length cb] M0 (BlendR true M0 own other w x y rw rh) := by
  have bad : ∀ M : Mem, Pre M0 M → ¬ (LiesP own.length w x y rw rh ∧ (4 ≤ rh ∧ rh ≤ 32) ∧ (other.length : Int) = rw * rh) → Run P T lo F.zoetroperef15_Above (.ret (.tuple ⟨[.slice none 0 0, .int .i64 2]⟩) M) (BlendR true M0 own other w x y rw rh) := fun M hp h => Run.ret ⟨hp, by rw [if_neg]; exact h⟩
  refine Ac.of (Evp.of_eq (fun k => zoetroperef15_Above.entry k ..) ?_)
  refine Evp.ob (rweights_ok lo _ M0 hlo) ?_
  rintro ⟨v, M1⟩ ⟨p1, hw⟩
  by_cases h4 : 4 ≤ rh ∧ rh ≤ 32
  · rw [if_pos h4] at hw
    obtain ⟨a, ck, e, hck, hbw⟩ := hw
    simp only at e
    subst e
    simp only [ret_int, ret_bool, ret_flt, ret_slc, ret_str, ret_ptr, ret_agg, ret_tup, ob_some, bb_true, bb_false, List.getElem?_cons_zero, List.getElem?_cons_succ, List.length_cons, List.length_nil, Nat.reduceAdd, Nat.reduceLT]
    refine Evp.ob (rwithin15_ok _ _ _ _ _ _ _ _ _ _ hn) ?_
    rintro _ rfl
    simp only [ret_int, ret_bool, ret_flt, ret_slc, ret_str, ret_ptr, ret_agg, ret_tup, ob_some, bb_true, bb_false, List.getElem?_cons_zero, List.getElem?_cons_succ, List.length_cons, List.length_nil, Nat.reduceAdd, Nat.reduceLT]
    refine Evp.nb (fun h => Evp.ret (bad M1 p1 fun e => of_decide_eq_false h e.1)) fun hl => ?_
    have hl := of_decide_eq_true hl
    refine Evp.neb (fun h => absurd rfl h) fun _ => ?_
    obtain ⟨w', h', x', y', rw', rh', rfl, rfl, rfl, rfl, rfl, e1, rc⟩ := lies_nat hl
    have sm := small_mul (a := rw') (b := rh') (by have := rc.x; have := rc.w2; omega) (by have := rc.y; have := rc.h2; omega)
    have em : (rw' : Int) * (rh' : Int) = ((rw' * rh' : Nat) : Int) := by rw [Int.natCast_mul]
    rw [em, w64 (x := ((rw' * rh' : Nat) : Int)) (by omega)]
    rw [em] at bad
    refine Evp.neb (fun h => Evp.ret (bad M1 p1 fun e => h e.2.2)) fun ht => ?_
    have ht : other.length = rw' * rh' := by omega
    have en : nA true rw' rh' = rh' := rfl
    simp only [Int.toNat_natCast] at hbw ⊢
    rw [← en] at hbw
    refine Evp.ob (copyBytes_ok lo A c own M1 (hx.pre p1) hn (Nat.le_trans hlo p1.len)) ?_
    rintro _ ⟨D, cd, M2, rfl, p2, hc, ho⟩
    simp only [ret_int, ret_bool, ret_flt, ret_slc, ret_str, ret_ptr, ret_agg, ret_tup, ob_some, bb_true, bb_false, List.getElem?_cons_zero, List.getElem?_cons_succ, List.length_cons, List.length_nil, Nat.reduceAdd, Nat.reduceLT]
    have hK : RdI M1 .i64 (some a) (wL (nA true rw' rh')) := hbw.rdI
    refine Evp.ret (Run.mono (rabove_loop lo B (some a) D cb ck cd own other M1 w' h' x' y' rw' rh' (Nat.le_trans hlo p1.len) (hy.pre p1) bo bt rc e1 ht hK hc (rw' * rh') 0 M2 (by omega) (by omega) p2 ho.own) ?_)
    rintro _ ⟨M', rfl, p3, ho3⟩
    refine ⟨p1.trans p3, ?_⟩
    rw [if_pos]
    · rw [ht]; exact ⟨D, cd, rfl, hc, ho3.floor p1.len⟩
    · exact ⟨hl, h4, by rw [em]; omega⟩
  · rw [if_neg h4] at hw
    simp only at hw
    subst hw
    simp only [ret_int, ret_bool, ret_flt, ret_slc, ret_str, ret_ptr, ret_agg, ret_tup, ob_some, bb_true, bb_false, List.getElem?_cons_zero, List.getElem?_cons_succ, List.length_cons, List.length_nil, Nat.reduceAdd, Nat.reduceLT]
    refine Evp.ob (rwithin15_ok _ _ _ _ _ _ _ _ _ _ hn) ?_
    rintro _ rfl
    simp only [ret_int, ret_bool, ret_flt, ret_slc, ret_str, ret_ptr, ret_agg, ret_tup, ob_some, bb_true, bb_false, List.getElem?_cons_zero, List.getElem?_cons_succ, List.length_cons, List.length_nil, Nat.reduceAdd, Nat.reduceLT]
    refine Evp.nb (fun h => Evp.ret (bad M1 p1 fun e => of_decide_eq_false h e.1)) fun hl => ?_
    refine Evp.neb (fun _ => Evp.ret (bad M1 p1 fun e => h4 e.2.1)) fun h => absurd h (by omega)
end
section
variable (lo : Nat) (B K D : Option Addr) (cb ck cd : Nat) (own other : List Int) (M0 : Mem) (w h X Y W H : Nat)
variable (hlo : lo ≤ M0.length) (hy : RdI M0 .u8 B other) (bo : Bytes own) (bt : Bytes other) (r : Rect w h X Y W H) (ho : own.length = h * w) (ht : other.length = W * H) (hK : RdI M0 .i64 K (wL (nA false W H)))
include hlo hy bo bt r ho ht hK in
theorem rleft_loop (hc : own.length ≤ cd) : ∀ (d i : Nat) (M : Mem), W * H - i = d → i ≤ W * H → Pre M0 M → OwnM M0 M D (blS false own other w X Y W H i) →
    Run P T lo F.zoetroperef15_Left (zoetroperef15_Left.c500 (w : Int) B other.length cb K (nA false W H) ck D own.length cd i X Y W H M) fun r => ∃ M', r = (.tuple ⟨[.slice D own.length cd, .int .i64 0]⟩, M') ∧ Pre M0 M' ∧ OwnM M0 M' D (blS false own other w X Y W H (W * H)) := by
  have sm := small_mul (a := W) (b := H) (by have := r.x; have := r.w2; omega) (by have := r.y; have := r.h2; omega)
  intro d
  induction d with
  | zero =>
    intro i M hd hi hp hb
    obtain rfl : i = W * H := by omega
    refine Run.cut (Evp.of_eq (fun k => zoetroperef15_Left.p500 k ..) ?_)
    refine Evp.dec (fun h => absurd h (by omega)) fun _ => ?_
    exact Evp.ret (Run.ret ⟨M, rfl, hp, hb⟩)
  | succ d ih =>
    intro i M hd hi hp hb
    have bl := bl_len false own other w X Y W H i
    obtain ⟨h1, h2, h3⟩ := at_lt r (i := i) (by omega)
    have ha := al_lt (al := false) (i := i) (H := H) (by omega) r.rw
    rcases hb with hnil | ⟨a, rfl, hb⟩
    · rw [hnil] at bl; simp at bl; omega
    have bb := bl_bytes (al := false) bo bt r i (by omega)
    have rwp := r.rw
    refine Run.cut (Evp.of_eq (fun k => zoetroperef15_Left.p500 k ..) ?_)
    refine Evp.dec (fun _ => ?_) fun h => absurd h (by omega)
    refine Evp.neg (by omega) (Evp.neg (by omega) (Evp.neg (by omega) ?_))
    have ei : Int.tmod (i : Int) (W : Int) = ((alS false W i : Nat) : Int) := by
      rfl
    rw [at_eq w h X Y W H i (by omega) r, ei]
    refine Evp.pos (pos_i ha) ?_
    simp only [Int.toNat_natCast]
    refine Evp.ldI (hK.pre hp) (by rw [wL_len]; exact ha) fun _ _ => ?_
    rw [wL_get ha]
    refine Evp.pos (by omega) (Evp.ldI (hy.pre hp) (by omega) fun _ _ => ?_)
    have rb := rblend_ok lo a cd (blS false own other w X Y W H i) (atS w X Y W i) (wS (nA false W H) (alS false W i)) (other.getD i 0) M0 M hlo hp hb bb (wS_le ha) (bt.get i) (by omega)
    rw [bl] at rb
    refine Evp.ob rb ?_
    rintro _ ⟨M', rfl, q3, q2⟩
    simp only [ret_int, ret_bool, ret_flt, ret_slc, ret_str, ret_ptr, ret_agg, ret_tup, ob_some, bb_true, bb_false, List.getElem?_cons_zero, List.getElem?_cons_succ, List.length_cons, List.length_nil, Nat.reduceAdd, Nat.reduceLT]
    rw [w64 (by omega)]
    exact Evp.ret (ih (i + 1) M' (by omega) (by omega) q3 (.inr ⟨a, rfl, q2⟩))
end
section
variable (lo : Nat) (A B : Option Addr) (c cb : Nat) (own other : List Int) (M0 : Mem) (w x y rw rh : Int)
variable (hlo : lo ≤ M0.length) (hx : RdI M0 .u8 A own) (hy : RdI M0 .u8 B other) (bo : Bytes own) (bt : Bytes other) (hn : own.length ≤ 140737488351232)
include hlo hx hy bo bt hn
theorem rleft_ok : Ac P T lo F.zoetroperef15_Left [.slice A own.length c, .int .i64 w, .agg ⟨[.int .i64 x, .int .i64 y, .int .i64 rw, .int .i64 rh]⟩, .slice B other.length cb] M0 (BlendR false M0 own other w x y rw rh) := by
  have bad : ∀ M : Mem, Pre M0 M → ¬ (LiesP own.length w x y rw rh ∧ (4 ≤ rw ∧ rw ≤ 32) ∧ (other.length : Int) = rw * rh) → Run P T lo F.zoetroperef15_Left (.ret (.tuple ⟨[.slice none 0 0, .int .i64 2]⟩) M) (BlendR false M0 own other w x y rw rh) := fun M hp h => Run.ret ⟨hp, by rw [if_neg]; exact h⟩
  refine Ac.of (Evp.of_eq (fun k => zoetroperef15_Left.entry k ..) ?_)
  refine Evp.ob (rweights_ok lo _ M0 hlo) ?_
  rintro ⟨v, M1⟩ ⟨p1, hw⟩
  by_cases h4 : 4 ≤ rw ∧ rw ≤ 32
  · rw [if_pos h4] at hw
    obtain ⟨a, ck, e, hck, hbw⟩ := hw
    simp only at e
    subst e
    simp only [ret_int, ret_bool, ret_flt, ret_slc, ret_str, ret_ptr, ret_agg, ret_tup, ob_some, bb_true, bb_false, List.getElem?_cons_zero, List.getElem?_cons_succ, List.length_cons, List.length_nil, Nat.reduceAdd, Nat.reduceLT]
    refine Evp.ob (rwithin15_ok _ _ _ _ _ _ _ _ _ _ hn) ?_
    rintro _ rfl
    simp only [ret_int, ret_bool, ret_flt, ret_slc, ret_str, ret_ptr, ret_agg, ret_tup, ob_some, bb_true, bb_false, List.getElem?_cons_zero, List.getElem?_cons_succ, List.length_cons, List.length_nil, Nat.reduceAdd, Nat.reduceLT]
    refine Evp.nb (fun h => Evp.ret (bad M1 p1 fun e => of_decide_eq_false h e.1)) fun hl => ?_
    have hl := of_decide_eq_true hl
    refine Evp.neb (fun h => absurd rfl h) fun _ => ?_
    obtain ⟨w', h', x', y', rw', rh', rfl, rfl, rfl, rfl, rfl, e1, rc⟩ := lies_nat hl
    have sm := small_mul (a := rw') (b := rh') (by have := rc.x; have := rc.w2; omega) (by have := rc.y; have := rc.h2; omega)
    have em : (rw' : Int) * (rh' : Int) = ((rw' * rh' : Nat) : Int) := by rw [Int.natCast_mul]
    rw [em, w64 (x := ((rw' * rh' : Nat) : Int)) (by omega)]
    rw [em] at bad
    refine Evp.neb (fun h => Evp.ret (bad M1 p1 fun e => h e.2.2)) fun ht => ?_
    have ht : other.length = rw' * rh' := by omega
    have en : nA false rw' rh' = rw' := rfl
    simp only [Int.toNat_natCast] at hbw ⊢
    rw [← en] at hbw
    refine Evp.ob (copyBytes_ok lo A c own M1 (hx.pre p1) hn (Nat.le_trans hlo p1.len)) ?_
    rintro _ ⟨D, cd, M2, rfl, p2, hc, ho⟩
    simp only [ret_int, ret_bool, ret_flt, ret_slc, ret_str, ret_ptr, ret_agg, ret_tup, ob_some, bb_true, bb_false, List.getElem?_cons_zero, List.getElem?_cons_succ, List.length_cons, List.length_nil, Nat.reduceAdd, Nat.reduceLT]
    have hK : RdI M1 .i64 (some a) (wL (nA false rw' rh')) := hbw.rdI
    refine Evp.ret (Run.mono (rleft_loop lo B (some a) D cb ck cd own other M1 w' h' x' y' rw' rh' (Nat.le_trans hlo p1.len) (hy.pre p1) bo bt rc e1 ht hK hc (rw' * rh') 0 M2 (by omega) (by omega) p2 ho.own) ?_)
    rintro _ ⟨M', rfl, p3, ho3⟩
    refine ⟨p1.trans p3, ?_⟩
    rw [if_pos]
    · rw [ht]; exact ⟨D, cd, rfl, hc, ho3.floor p1.len⟩
    · exact ⟨hl, h4, by rw [em]; omega⟩
  · rw [if_neg h4] at hw
    simp only at hw
    subst hw
    simp only [ret_int, ret_bool, ret_flt, ret_slc, ret_str, ret_ptr, ret_agg, ret_tup, ob_some, bb_true, bb_false, List.getElem?_cons_zero, List.getElem?_cons_succ, List.length_cons, List.length_nil, Nat.reduceAdd, Nat.reduceLT]
    refine Evp.ob (rwithin15_ok _ _ _ _ _ _ _ _ _ _ hn) ?_
    rintro _ rfl
    simp only [ret_int, ret_bool, ret_flt, ret_slc, ret_str, ret_ptr, ret_agg, ret_tup, ob_some, bb_true, bb_false, List.getElem?_cons_zero, List.getElem?_cons_succ, List.length_cons, List.length_nil, Nat.reduceAdd, Nat.reduceLT]
    refine Evp.nb (fun h => Evp.ret (bad M1 p1 fun e => of_decide_eq_false h e.1)) fun hl => ?_
    refine Evp.neb (fun _ => Evp.ret (bad M1 p1 fun e => h4 e.2.1)) fun h => absurd h (by omega)
end
theorem BlendR.got {al : Bool} {M M' : Mem} {own other : List Int} {w x y rw rh : Int} {v : Value} (h : BlendR al M own other w x y rw rh (v, M')) (hk : LiesP own.length w x y rw rh ∧ (4 ≤ (if al then rh else rw) ∧ (if al then rh else rw) ≤ 32) ∧ (other.length : Int) = rw * rh) :
    ∃ A cc, v = .tuple ⟨[.slice A own.length cc, .int .i64 0]⟩ ∧ Pre M M' ∧ own.length ≤ cc ∧ OwnM M M' A (blS al own other w.toNat x.toNat y.toNat rw.toNat rh.toNat other.length) := by
  obtain ⟨p, h⟩ := h
  rw [if_pos hk] at h
  obtain ⟨A, cc, e, h1, h2⟩ := h
  exact ⟨A, cc, e, p, h1, h2⟩
theorem BlendR.not {al : Bool} {M M' : Mem} {own other : List Int} {w x y rw rh : Int} {v : Value} (h : BlendR al M own other w x y rw rh (v, M')) (hk : ¬ (LiesP own.length w x y rw rh ∧ (4 ≤ (if al then rh else rw) ∧ (if al then rh else rw) ≤ 32) ∧ (other.length : Int) = rw * rh)) :
    v = .tuple ⟨[.slice none 0 0, .int .i64 2]⟩ ∧ Pre M M' := by
  obtain ⟨p, h⟩ := h
  rw [if_neg hk] at h
  exact ⟨h, p⟩
end Go.Zt
