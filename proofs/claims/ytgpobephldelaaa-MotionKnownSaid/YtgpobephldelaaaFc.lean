/- A block between samples: the closures. -/
import Derived.Test.YtgpobephldelaaaFb
import Derived.Test.YtgpobephldelaaaAb31
set_option linter.unusedVariables false
set_option linter.unusedSimpArgs false
namespace Go.Zt
/-! ### What a block between samples is -/
def sumT (t : List Int) (p : Nat → Int) : Nat → Int
  | 0 => 0
  | k + 1 => sumT t p k + t.getD k 0 * p k
def pixS (w h : Int) (xs : List Int) (y x : Int) : Int := xs.getD (clipS y 0 (h - 1) * w + clipS x 0 (w - 1)).toNat 0
def rowS (w h : Int) (xs ta : List Int) (x y : Int) (j i : Nat) : Int := (4 + sumT ta (fun k => pixS w h xs (y / 16 + j - 3) (x / 16 + i + k - 3)) 8) / 8
def sampS (w h : Int) (xs ta td : List Int) (x y : Int) (j i : Nat) : Int := clipS ((1024 + sumT td (fun k => rowS w h xs ta x y (j + k) i) 8) / 2048) 0 255
def Taps8 (t : List Int) : Prop := t.length = 8 ∧ ∀ k, -128 ≤ t.getD k 0 ∧ t.getD k 0 ≤ 128
theorem sumT_le {t : List Int} {p : Nat → Int} {B : Int} (ht : Taps8 t) (hp : ∀ k, -B ≤ p k ∧ p k ≤ B) (n : Nat) : -(128 * B * n) ≤ sumT t p n ∧ sumT t p n ≤ 128 * B * n := by
  induction n with
  | zero => simp [sumT]
  | succ n ih =>
    have := mul_abs (ht.2 n) (hp n)
    have e : 128 * B * ((n + 1 : Nat) : Int) = 128 * B * n + 128 * B := by rw [Int.natCast_add, Int.mul_add]; simp
    simp only [sumT]
    omega
theorem pixS_le {w h : Int} {xs : List Int} (hx : Bytes xs) (y x : Int) : 0 ≤ pixS w h xs y x ∧ pixS w h xs y x ≤ 255 := hx.get _
theorem rowS_le {w h : Int} {xs ta : List Int} (hx : Bytes xs) (ht : Taps8 ta) (x y : Int) (j i : Nat) : -32641 ≤ rowS w h xs ta x y j i ∧ rowS w h xs ta x y j i ≤ 32641 := by
  have := sumT_le (B := 255) ht (p := fun k => pixS w h xs (y / 16 + j - 3) (x / 16 + i + k - 3)) (fun k => by have := pixS_le (w := w) (h := h) hx (y / 16 + j - 3) (x / 16 + i + k - 3); omega) 8
  unfold rowS
  omega
theorem sampS_le (w h : Int) (xs ta td : List Int) (x y : Int) (j i : Nat) : 0 ≤ sampS w h xs ta td x y j i ∧ sampS w h xs ta td x y j i ≤ 255 := clipS_le (by decide)
theorem sumT_congr {t : List Int} {p q : Nat → Int} {n : Nat} (h : ∀ k, k < n → p k = q k) : sumT t p n = sumT t q n := by
  induction n with
  | zero => rfl
  | succ n ih => simp only [sumT]; rw [ih fun k hk => h k (by omega), h n (by omega)]
def fetchS (w h : Int) (xs : List Int) (x y : Int) (bw bh : Nat) (kind : Int) : List Int :=
  (List.range (bh * bw)).map fun q => sampS w h xs (tapsS kind (x % 16)) (tapsS kind (y % 16)) x y (q / bw) (q % bw)
def FetchOk (w h n x y bw bh kind : Int) : Prop := checkS w h n = 0 ∧ -1048576 ≤ x ∧ x ≤ 1048576 ∧ -1048576 ≤ y ∧ y ≤ 1048576 ∧ 4 ≤ bw ∧ bw ≤ 64 ∧ 4 ≤ bh ∧ bh ≤ 64 ∧ 0 ≤ kind ∧ kind ≤ 2
instance (w h n x y bw bh kind : Int) : Decidable (FetchOk w h n x y bw bh kind) := inferInstanceAs (Decidable (_ ∧ _))
theorem tapsS_ok (kind at_ : Int) : Taps8 (tapsS kind at_) := by
  refine ⟨tapsS_len _ _, fun k => ?_⟩
  have hs : ∀ n, -128 ≤ sharpL.getD n 0 ∧ sharpL.getD n 0 ≤ 128 := fun n => by
    by_cases h : n < 72
    · exact (show ∀ n, n < 72 → -128 ≤ sharpL.getD n 0 ∧ sharpL.getD n 0 ≤ 128 by decide) n h
    · rw [List.getD_eq_getElem?_getD, List.getElem?_eq_none (by rw [show sharpL.length = 72 from rfl]; omega)]; decide
  have hf : ∀ n, -128 ≤ softL.getD n 0 ∧ softL.getD n 0 ≤ 128 := fun n => by
    by_cases h : n < 72
    · exact (show ∀ n, n < 72 → -128 ≤ softL.getD n 0 ∧ softL.getD n 0 ≤ 128 by decide) n h
    · rw [List.getD_eq_getElem?_getD, List.getElem?_eq_none (by rw [show softL.length = 72 from rfl]; omega)]; decide
  have hr : ∀ (n k : Nat), -128 ≤ (rowT (if kind = 0 then sharpL else softL) n).getD k 0 ∧ (rowT (if kind = 0 then sharpL else softL) n).getD k 0 ≤ 128 := fun n k => by
    by_cases h : k < 8
    · unfold rowT
      rw [getD_map_range h]
      split
      · exact hs _
      · exact hf _
    · rw [List.getD_eq_getElem?_getD, List.getElem?_eq_none (by simp [rowT]; omega)]; decide
  have hk : k = 0 ∨ k = 1 ∨ k = 2 ∨ k = 3 ∨ k = 4 ∨ k = 5 ∨ k = 6 ∨ k = 7 ∨ 8 ≤ k := by omega
  unfold tapsS
  split
  · rcases hk with rfl | rfl | rfl | rfl | rfl | rfl | rfl | rfl | h <;> first | decide | (rw [List.getD_eq_getElem?_getD, List.getElem?_eq_none (by simpa using h)]; decide)
  · split
    · rcases hk with rfl | rfl | rfl | rfl | rfl | rfl | rfl | rfl | h <;> first | (simp <;> omega) | (rw [List.getD_eq_getElem?_getD, List.getElem?_eq_none (by simpa using h)]; decide)
    · split
      · exact hr _ _
      · by_cases h : k < 8
        · rw [getD_rev (by simpa [rowT] using h)]; exact hr _ _
        · rw [List.getD_eq_getElem?_getD, List.getElem?_eq_none (by simp [rowT]; omega)]; decide

theorem one_func {α : Type} {Q : α → Prop} {fn : Fn} {a b : Array Value} {f : Nat → Value → Option α} (h : Evp (fun k => f k (.func fn a b)) Q) : Evp (fun k => ob ((some (Value.func fn a b)).bind Value.one?) (f k)) Q := Evp.some rfl h

theorem sum_ok (lo : Nat) (ts : List Int) (n : Int) (M : Mem) (hl : ts.length = 8) : Ac P T lo F.subpel_sum [.agg ⟨ts.map (Value.int .i64)⟩, .int .i64 n] M fun r => r = (.func (.func F.subpel_sum_1) ⟨[]⟩ ⟨[.pointer (some ⟨M.length + 1, 0, none⟩), .pointer (some ⟨M.length, 0, none⟩)]⟩, M ++ [⟨.fx, ts.map (Value.int .i64)⟩] ++ [⟨.fx, [.int .i64 n]⟩]) := by
  rw [list8 ts hl]
  refine Ac.of (Evp.of_eq (fun k => subpel_sum.entry k ..) ?_)
  refine Evp.ret (Run.ret ?_)
  simp

section
variable (lo : Nat) (g : FuncId) (cap : List Value) (a2 a3 : Addr) (n : Nat) (ts : List Int) (p : Nat → Int) (M : Mem) (B : Int)
theorem sum1_loop (h2 : M.ld a2 = some (.int .i64 n)) (ht : Taps8 ts) (hn : 1 ≤ n ∧ n ≤ 16) (hB : 0 ≤ B ∧ B ≤ 65536) (hb : ∀ k, -B ≤ p k ∧ p k ≤ B)
    (hp : ∀ k : Nat, k < 8 → Ac P T lo g ([] ++ [.int .i64 k] ++ cap) M fun r => r = (.int .i64 (p k), M)) : ∀ (d i : Nat), 8 - i = d → i ≤ 8 →
    Run P T lo F.subpel_sum_1 (subpel_sum_1.c116 (.func (.func g) ⟨[]⟩ ⟨cap⟩) a2 (2 ^ (n - 1) + sumT ts p i) (ts.getD 0 0) (ts.getD 1 0) (ts.getD 2 0) (ts.getD 3 0) (ts.getD 4 0) (ts.getD 5 0) (ts.getD 6 0) (ts.getD 7 0) i M) fun r => r = (.int .i64 ((2 ^ (n - 1) + sumT ts p 8) / 2 ^ n), M) := by
  have hpow : (2 : Int) ^ (n - 1) = ((2 ^ (n - 1) : Nat) : Int) := by simp
  have hlt : (2 : Nat) ^ (n - 1) ≤ 2 ^ 15 := Nat.pow_le_pow_right (by decide) (by omega)
  have hposc : (0 : Int) ≤ 2 ^ (n - 1) := Int.pow_nonneg (by decide)
  have hsum := fun i => sumT_le ht hb i
  intro d
  induction d with
  | zero =>
    intro i hd hi
    obtain rfl : i = 8 := by omega
    refine Run.cut (Evp.of_eq (fun k => subpel_sum_1.p116 k ..) ?_)
    refine Evp.dec (fun h => absurd h (by omega)) fun _ => ?_
    refine Evp.some (b := (n : Int)) (by rw [h2]; simp [Value.int?]) ?_
    refine Evp.neg (by omega) ?_
    refine Evp.ret (Run.ret ?_)
    rw [show ((n : Int)).toNat = n by omega, shr_eq n (by omega)]
  | succ d ih =>
    intro i hd hi
    have ih' := ih (i + 1) (by omega) (by omega)
    have next : ∀ v : Int, v = 2 ^ (n - 1) + sumT ts p (i + 1) → Run P T lo F.subpel_sum_1 (subpel_sum_1.c935 (.func (.func g) ⟨[]⟩ ⟨cap⟩) a2 v (ts.getD 0 0) (ts.getD 1 0) (ts.getD 2 0) (ts.getD 3 0) (ts.getD 4 0) (ts.getD 5 0) (ts.getD 6 0) (ts.getD 7 0) i M) fun r => r = (.int .i64 ((2 ^ (n - 1) + sumT ts p 8) / 2 ^ n), M) := by
      rintro _ rfl
      refine Run.cut (Evp.of_eq (fun k => subpel_sum_1.p935 k ..) ?_)
      rw [w64 (by omega)]
      exact Evp.ret ih'
    refine Run.cut (Evp.of_eq (fun k => subpel_sum_1.p116 k ..) ?_)
    refine Evp.dec (fun _ => ?_) fun h => absurd h (by omega)
    refine Evp.pos (by omega) ?_
    have e := list8 ts ht.1
    rw [← e]
    refine Evp.some (b := ts.getD i 0) (by
      rw [show ((i : Int)).toNat + 0 = i by omega]
      exact tab_get ts i (by rw [ht.1]; omega)) ?_
    have hm := mul_abs (ht.2 i) (hb i)
    have hs := hsum i
    refine Evp.neb (fun h0 => ?_) fun h0 => Evp.ret (next _ (by simp only [sumT]; rw [h0]; omega))
    refine Evp.some (b := (g, [], cap)) rfl ?_
    refine Evp.ob (hp i (by omega)) ?_
    rintro _ rfl
    simp only [ret_int, ret_bool, ret_flt, ret_slc, ret_str, ret_ptr, ret_agg, ret_tup, ob_some, bb_true, bb_false, List.getElem?_cons_zero, List.getElem?_cons_succ, List.length_cons, List.length_nil, Nat.reduceAdd, Nat.reduceLT]
    have hBi : 128 * B * (i : Int) ≤ 128 * 65536 * 8 := by
      have : 128 * B * (i : Int) ≤ (128 * 65536) * 8 := Int.mul_le_mul (by omega) (by omega) (by omega) (by omega)
      omega
    rw [w64 (x := ts.getD i 0 * p i) (by omega), w64 (by omega)]
    exact Evp.ret (next _ (by simp only [sumT]; omega))
theorem sum1_ok (h2 : M.ld a2 = some (.int .i64 n)) (h3 : ∀ j, j < 8 → M.ld (plus a3 j) = some (.int .i64 (ts.getD j 0))) (ht : Taps8 ts) (hn : 1 ≤ n ∧ n ≤ 16) (hB : 0 ≤ B ∧ B ≤ 65536) (hb : ∀ k, -B ≤ p k ∧ p k ≤ B)
    (hp : ∀ k : Nat, k < 8 → Ac P T lo g ([] ++ [.int .i64 k] ++ cap) M fun r => r = (.int .i64 (p k), M)) :
    Ac P T lo F.subpel_sum_1 [.func (.func g) ⟨[]⟩ ⟨cap⟩, .pointer (some a2), .pointer (some a3)] M fun r => r = (.int .i64 ((2 ^ (n - 1) + sumT ts p 8) / 2 ^ n), M) := by
  refine Ac.of (Evp.of_eq (fun k => subpel_sum_1.entry k ..) ?_)
  refine Evp.some (b := (n : Int)) (by rw [h2]; simp [Value.int?]) ?_
  rw [w64 (by omega)]
  refine Evp.neg (by omega) ?_
  have ld : ∀ j, j < 8 → (M.ld (plus a3 j)).bind (Value.int? .i64) = some (ts.getD j 0) := fun j hj => by rw [h3 j hj]; simp [Value.int?]
  refine Evp.some (ld 0 (by omega)) ?_
  refine Evp.some (ld 1 (by omega)) ?_
  refine Evp.some (ld 2 (by omega)) ?_
  refine Evp.some (ld 3 (by omega)) ?_
  refine Evp.some (ld 4 (by omega)) ?_
  refine Evp.some (ld 5 (by omega)) ?_
  refine Evp.some (ld 6 (by omega)) ?_
  refine Evp.some (ld 7 (by omega)) ?_
  rw [show ((n : Int) - 1).toNat = n - 1 by omega, shl_one (n - 1) (by omega)]
  have := sum1_loop lo g cap a2 n ts p M B h2 ht hn hB hb hp 8 0 rfl (by omega)
  simp only [sumT, Int.add_zero] at this
  exact Evp.ret this
end

theorem at1_ok (lo : Nat) (k : Nat) (aL aF aP : Addr) (A : Option Addr) (c : Nat) (line : List Int) (f w : Int) (M : Mem) (h1 : M.ld aL = some (.slice A line.length c)) (hl : RdI M .u8 A line) (hb : Bytes line) (h2 : M.ld aF = some (.int .i64 f)) (h3 : M.ld aP = some (.int .i64 w))
    (hw : (line.length : Int) = w) (hw1 : 1 ≤ w ∧ w ≤ 512) (hf : -1000000 ≤ f ∧ f ≤ 1000000) (hk : k < 8) :
    Ac P T lo F.subpel_Fetch_1 ([] ++ [.int .i64 k] ++ [.pointer (some aL), .pointer (some aF), .pointer (some aP)]) M fun r => r = (.int .i64 (line.getD (clipS (f + k) 0 (w - 1)).toNat 0), M) := by
  show Ac P T lo F.subpel_Fetch_1 [.int .i64 k, .pointer (some aL), .pointer (some aF), .pointer (some aP)] M _
  refine Ac.of (Evp.of_eq (fun k => subpel_Fetch_1.entry k ..) ?_)
  refine Evp.some (b := ⟨A, line.length, c⟩) (by rw [h1]; rfl) ?_
  refine Evp.some (b := f) (by rw [h2]; simp [Value.int?]) ?_
  refine Evp.some (b := w) (by rw [h3]; simp [Value.int?]) ?_
  rw [w64 (x := f + k) (by omega), w64 (x := w - 1) (by omega), minmax_clip (by omega)]
  have hc := clipS_le (v := f + k) (a := 0) (b := w - 1) (by omega)
  refine Evp.pos (by simp only; omega) ?_
  refine Evp.ldI hl (by omega) fun a _ => ?_
  have := hb.get (clipS (f + k) 0 (w - 1)).toNat
  rw [w64 (by omega)]
  exact Evp.ret (Run.ret rfl)
end Go.Zt
