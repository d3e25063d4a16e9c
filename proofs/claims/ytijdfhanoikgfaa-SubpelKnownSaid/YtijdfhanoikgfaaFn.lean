/- Planes turned about. -/
import Derived.Test.YtijdfhanoikgfaaFm
set_option linter.unusedVariables false
set_option linter.unusedSimpArgs false
set_option maxRecDepth 100000
namespace Go.Zt
theorem dm {W r s : Nat} (hs : s < W) : (r * W + s) / W = r ∧ (r * W + s) % W = s := by
  rw [Nat.mul_comm, Nat.mul_add_div (by omega), Nat.mul_add_mod, Nat.div_eq_of_lt hs, Nat.mod_eq_of_lt hs]
  exact ⟨by omega, rfl⟩
def mirT (b : Bool) (W h q : Nat) : Nat := if b then (q / W) * W + (W - 1 - q % W) else (h - 1 - q / W) * W + q % W
theorem dm_lt {W h q : Nat} (hq : q < h * W) : 0 < W ∧ q / W < h ∧ q % W < W ∧ q = (q / W) * W + q % W := by
  have hW : 0 < W := by
    rcases Nat.eq_zero_or_pos W with e | e
    · rw [e] at hq; simp at hq
    · exact e
  refine ⟨hW, Nat.div_lt_of_lt_mul (by rwa [Nat.mul_comm] at hq), Nat.mod_lt _ hW, ?_⟩
  have := Nat.div_add_mod q W
  rw [Nat.mul_comm] at this
  exact this.symm
theorem dm_in {W h r s : Nat} (hr : r < h) (hs : s < W) : r * W + s < h * W := by
  have : (r + 1) * W ≤ h * W := Nat.mul_le_mul_right _ hr
  rw [Nat.succ_mul] at this
  omega
theorem mirT_ok {b : Bool} {W h q : Nat} (hq : q < h * W) : mirT b W h q < h * W ∧ mirT b W h (mirT b W h q) = q ∧ mirT b W h q / W = (if b then q / W else h - 1 - q / W) ∧ mirT b W h q % W = (if b then W - 1 - q % W else q % W) := by
  obtain ⟨hW, h1, h2, h3⟩ := dm_lt hq
  cases b with
  | true =>
    obtain ⟨d1, d2⟩ := dm (W := W) (r := q / W) (s := W - 1 - q % W) (by omega)
    have e : mirT true W h q = (q / W) * W + (W - 1 - q % W) := rfl
    refine ⟨by rw [e]; exact dm_in h1 (by omega), ?_, by rw [e, d1]; rfl, by rw [e, d2]; rfl⟩
    show (mirT true W h q / W) * W + (W - 1 - mirT true W h q % W) = q
    rw [e, d1, d2, show W - 1 - (W - 1 - q % W) = q % W by omega]; exact h3.symm
  | false =>
    obtain ⟨d1, d2⟩ := dm (W := W) (r := h - 1 - q / W) (s := q % W) h2
    have e : mirT false W h q = (h - 1 - q / W) * W + q % W := rfl
    have sl : ∀ t, t < h → h - 1 - t < h ∧ h - 1 - (h - 1 - t) = t := fun t ht => by omega
    refine ⟨by rw [e]; exact dm_in (sl _ h1).1 h2, ?_, by rw [e, d1]; rfl, by rw [e, d2]; rfl⟩
    show (h - 1 - mirT false W h q / W) * W + mirT false W h q % W = q
    rw [e, d1, d2, (sl _ h1).2]; exact h3.symm
def mirP (b : Bool) (W h : Nat) (xs : List Int) (i : Nat) : List Int := (List.range xs.length).map fun q => if mirT b W h q < i then xs.getD (mirT b W h q) 0 else 0
def mirS (b : Bool) (W h : Nat) (xs : List Int) : List Int := (List.range xs.length).map fun q => xs.getD (mirT b W h q) 0
theorem mirP_len (b : Bool) (W h : Nat) (xs : List Int) (i : Nat) : (mirP b W h xs i).length = xs.length := by simp [mirP]
theorem mirS_len (b : Bool) (W h : Nat) (xs : List Int) : (mirS b W h xs).length = xs.length := by simp [mirS]
theorem mirP_get {b : Bool} {W h : Nat} {xs : List Int} {i q : Nat} (hq : q < xs.length) : (mirP b W h xs i).getD q 0 = if mirT b W h q < i then xs.getD (mirT b W h q) 0 else 0 := getD_map_range hq
theorem mirS_get {b : Bool} {W h : Nat} {xs : List Int} {q : Nat} (hq : q < xs.length) : (mirS b W h xs).getD q 0 = xs.getD (mirT b W h q) 0 := getD_map_range hq
theorem mirP_set {b : Bool} {W h : Nat} {xs : List Int} {i : Nat} (hn : xs.length = h * W) (hi : i < xs.length) : (mirP b W h xs i).set (mirT b W h i) (xs.getD i 0) = mirP b W h xs (i + 1) := by
  obtain ⟨m1, m2, _⟩ := mirT_ok (b := b) (q := i) (by rw [← hn]; exact hi)
  apply ext_getD
  · simp [mirP_len]
  · intro p hp
    rw [List.length_set, mirP_len] at hp
    rw [getD_set (by rw [mirP_len]; omega), mirP_get hp, mirP_get hp]
    obtain ⟨k1, k2, _⟩ := mirT_ok (b := b) (q := p) (by rw [← hn]; exact hp)
    by_cases e : p = mirT b W h i
    · subst e
      rw [if_pos rfl, m2, if_pos (by omega)]
    · rw [if_neg e]
      have : mirT b W h p ≠ i := fun e2 => e (by rw [← e2, k2])
      by_cases h3 : mirT b W h p < i
      · rw [if_pos h3, if_pos (by omega)]
      · rw [if_neg h3, if_neg (by omega)]
theorem mirP_zero (b : Bool) (W h : Nat) (xs : List Int) : (mirP b W h xs 0).map (Value.int .u8) = zerosL [.int .u8 0] xs.length := by
  rw [zerosL_one]; simp [mirP, List.map_const']
theorem mirP_full {b : Bool} {W h : Nat} {xs : List Int} (hn : xs.length = h * W) : mirP b W h xs xs.length = mirS b W h xs := by
  apply ext_getD (by rw [mirP_len, mirS_len])
  intro q hq
  rw [mirP_len] at hq
  rw [mirP_get hq, mirS_get hq, if_pos (by have := (mirT_ok (b := b) (q := q) (by rw [← hn]; exact hq)).1; omega)]
theorem mirS_bytes {b : Bool} {W h : Nat} {xs : List Int} (hx : Bytes xs) : Bytes (mirS b W h xs) := fun x hx' => by
  obtain ⟨q, _, rfl⟩ := List.mem_map.1 hx'
  exact hx.get _
theorem mir_loop (lo : Nat) (b : Bool) (W h : Nat) (xs : List Int) (A : Option Addr) (c : Nat) (M0 : Mem) (a : Addr) (n cc : Nat) (u0 u1 : Int) (u2 : Option Addr) (u3 u4 : Nat) (hlo : lo ≤ M0.length) (hx : RdI M0 .u8 A xs) (hn : xs.length = h * W) (hnn : n = xs.length) (hW : W ≤ 512) (hh : h ≤ 512) :
    ∀ (d i : Nat) (M : Mem), xs.length - i = d → i ≤ xs.length → Pre M0 M → Buf M0 M a ((mirP b W h xs i).map (Value.int .u8)) →
    Run P T lo F.zoetropelaw14_mirrored (zoetropelaw14_mirrored.c116 b i W h A xs.length c u0 u1 u2 u3 u4 W h (some a) n cc M) fun r => ∃ M', r = (.agg ⟨[.int .i64 W, .int .i64 h, .slice (some a) n cc]⟩, M') ∧ Pre M0 M' ∧ Buf M0 M' a ((mirS b W h xs).map (Value.int .u8)) := by
  have hsz : xs.length ≤ 512 * 512 := by rw [hn]; exact Nat.mul_le_mul hh hW
  intro d
  induction d with
  | zero =>
    intro i M hd hi hp hb
    obtain rfl : i = xs.length := by omega
    refine Run.cut (Evp.of_eq (fun k => zoetropelaw14_mirrored.p116 k ..) ?_)
    refine Evp.dec (fun h => absurd h (by omega)) fun _ => ?_
    rw [mirP_full hn] at hb
    exact Evp.ret (Run.ret ⟨M, rfl, hp, hb⟩)
  | succ d ih =>
    intro i M hd hi hp hb
    have hil : i < h * W := by omega
    obtain ⟨q0, q1, q2, q3⟩ := dm_lt hil
    obtain ⟨m1, _, _, _⟩ := mirT_ok (b := b) hil
    have hmt : mirT b W h i = if b then (i / W) * W + (W - 1 - i % W) else (h - 1 - i / W) * W + i % W := rfl
    have e1 : Int.tdiv (i : Int) ((W : Nat) : Int) = ((i / W : Nat) : Int) := rfl
    have e2 : Int.tmod (i : Int) ((W : Nat) : Int) = ((i % W : Nat) : Int) := rfl
    have z1 : (i / W) * W ≤ i := by omega
    have z2 : 0 ≤ (i / W) * W := Nat.zero_le _
    have z3 : 0 ≤ i / W := Nat.zero_le _
    have c1 : ((i / W : Nat) : Int) * (W : Int) = ((i / W * W : Nat) : Int) := by simp
    have c2 : ((h - 1 - i / W : Nat) : Int) * (W : Int) = (((h - 1 - i / W) * W : Nat) : Int) := by rw [Int.natCast_mul]
    have fin : ∀ M1, Pre M0 M1 → Buf M0 M1 a ((mirP b W h xs (i + 1)).map (Value.int .u8)) → Run P T lo F.zoetropelaw14_mirrored (zoetropelaw14_mirrored.c467 b i W h A xs.length c u0 u1 u2 u3 u4 W h (some a) n cc M1) fun r => ∃ M', r = (.agg ⟨[.int .i64 W, .int .i64 h, .slice (some a) n cc]⟩, M') ∧ Pre M0 M' ∧ Buf M0 M' a ((mirS b W h xs).map (Value.int .u8)) := fun M1 hp1 hb1 => by
      refine Run.cut (Evp.of_eq (fun k => zoetropelaw14_mirrored.p467 k ..) ?_)
      rw [w64 (by omega)]
      exact Evp.ret (ih (i + 1) M1 (by omega) (by omega) hp1 hb1)
    have hst := fun (j : Nat) (hj : j = mirT b W h i) => hb.st (lo := lo) (i := j) (vs := [.int .u8 (xs.getD i 0)]) hp hlo (by simp [mirP_len]; omega)
    generalize hqq : i / W = qq at *
    generalize hqr : i % W = qr at *
    generalize hqw : qq * W = qw at *
    refine Run.cut (Evp.of_eq (fun k => zoetropelaw14_mirrored.p116 k ..) ?_)
    refine Evp.dec (fun _ => ?_) fun h => absurd h (by omega)
    refine Evp.neg (by omega) (Evp.neg (by omega) ?_)
    cases b with
    | true =>
      refine Evp.tt rfl ?_
      refine Evp.pos (by omega) ?_
      simp only [Int.toNat_natCast]
      refine Evp.ldI (hx.pre hp) (by omega) fun _ _ => ?_
      rw [e1, e2, w64 (x := (qq : Int)) (by omega), c1, w64 (x := (qw : Int)) (by omega), w64 (x := (qw : Int) + W) (by omega), w64 (x := (qw : Int) + W - 1) (by omega), w64 (x := (qw : Int) + W - 1 - qr) (by omega)]
      simp only [if_true] at hmt
      refine Evp.pos (by omega) (Evp.some rfl ?_)
      obtain ⟨M1, g1, g2, g3, g4, g5⟩ := hst ((qw : Int) + W - 1 - qr).toNat (by omega)
      refine Evp.some g1 ?_
      rw [show ((qw : Int) + W - 1 - qr).toNat = mirT true W h i by omega, setL_one, set_map, mirP_set hn (by omega)] at g2
      exact Evp.ret (fin M1 g3 g2)
    | false =>
      refine Evp.ff rfl ?_
      refine Evp.pos (by omega) ?_
      simp only [Int.toNat_natCast]
      refine Evp.ldI (hx.pre hp) (by omega) fun _ _ => ?_
      rw [e1, e2, w64 (x := (qq : Int)) (by omega), w64 (x := (h : Int) - 1) (by omega), w64 (x := (h : Int) - 1 - qq) (by omega), show (h : Int) - 1 - qq = ((h - 1 - qq : Nat) : Int) by omega, c2]
      have hb2 : (h - 1 - qq) * W ≤ 512 * 512 := Nat.mul_le_mul (by omega) hW
      have z4 : 0 ≤ (h - 1 - qq) * W := Nat.zero_le _
      simp only [Bool.false_eq_true, if_false] at hmt
      generalize (h - 1 - qq) * W = qz at *
      rw [w64 (x := (qz : Int)) (by omega), w64 (x := (qz : Int) + qr) (by omega)]
      refine Evp.pos (by omega) (Evp.some rfl ?_)
      obtain ⟨M1, g1, g2, g3, g4, g5⟩ := hst ((qz : Int) + qr).toNat (by omega)
      refine Evp.some g1 ?_
      rw [show ((qz : Int) + qr).toNat = mirT false W h i by omega, setL_one, set_map, mirP_set hn (by omega)] at g2
      exact Evp.ret (fin M1 g3 g2)
theorem mir_ok (lo : Nat) (b : Bool) (W h : Nat) (xs : List Int) (A : Option Addr) (c : Nat) (M : Mem) (hlo : lo ≤ M.length) (hx : RdI M .u8 A xs) (hn : xs.length = h * W) (hW : W ≤ 512) (hh : h ≤ 512) :
    Ac P T lo F.zoetropelaw14_mirrored [.agg ⟨[.int .i64 W, .int .i64 h, .slice A xs.length c]⟩, .bool b] M fun r => ∃ A' M', r = (.agg ⟨[.int .i64 W, .int .i64 h, .slice A' (mirS b W h xs).length xs.length]⟩, M') ∧ Pre M M' ∧ RdI M' .u8 A' (mirS b W h xs) := by
  have hsz : xs.length ≤ 512 * 512 := by rw [hn]; exact Nat.mul_le_mul hh hW
  refine Ac.of (Evp.of_eq (fun k => zoetropelaw14_mirrored.entry k ..) ?_)
  refine Evp.pos ⟨by omega, by show (xs.length : Int).toNat * 1 ≤ 140737488355328; omega⟩ ?_
  simp only [Int.toNat_natCast]
  refine Evp.ret ((mir_loop lo b W h xs A c M ⟨M.length, 0, none⟩ xs.length xs.length 0 0 none 0 0 hlo hx hn rfl hW hh xs.length 0 _ rfl (by omega) (Pre.app _ _) ?_).mono ?_)
  · rw [mirP_zero]; exact Buf.push (Pre.refl M)
  · rintro r ⟨M', rfl, h1, h2⟩
    exact ⟨_, M', by rw [mirS_len], h1, h2.rdI⟩
end Go.Zt
