/- Wide filters, whole; the document's. -/
import Derived.Test.YtibbmknipkifeaaFd
set_option linter.unusedVariables false
set_option linter.unusedSimpArgs false
set_option maxRecDepth 100000
namespace Go.Zt
theorem clone_ok (lo : Nat) (A : Option Addr) (c : Nat) (xs : List Int) (M : Mem) (hr : RdI M .u8 A xs) (h0 : xs.length ≠ 0) (hn : xs.length ≤ 140737488351232) (hlo : lo ≤ M.length) :
    Ac P T lo F.slices_Clone__uint8_uint8 [.slice A xs.length c] M fun r => ∃ a cc M', r = (.slice (some a) xs.length cc, M') ∧ Pre M M' ∧ xs.length ≤ cc ∧ Buf M M' a (xs.map (Value.int .u8)) := by
  obtain ⟨a0, hA, _⟩ := hr.ld (i := 0) (by omega)
  refine Ac.of (Evp.of_eq (fun k => slices_Clone__uint8_uint8.entry k ..) ?_)
  refine Evp.ff (by rw [hA]; rfl) ?_
  refine Evp.some ((hr.pre (Pre.app _ _)).src) ?_
  have e : (M ++ [⟨.fx, []⟩] : Mem).app lo 1 1 ⟨some ⟨M.length, 0, none⟩, 0, 0⟩ (xs.map (Value.int .u8)) xs.length = some (⟨some ⟨(M ++ [⟨.fx, []⟩] : Mem).length, 0, some (xs.map (Value.int .u8)).length⟩, xs.length, xs.length⟩, (M ++ [⟨.fx, []⟩] : Mem) ++ [⟨.op 1, xs.map (Value.int .u8)⟩]) := by
    unfold Mem.app
    have hroom : room (0 + xs.length) 1 := by show (0 + xs.length) * 1 ≤ 140737488355328; omega
    simp only [h0, if_false]
    rw [if_pos hroom]
    simp
  refine Evp.some e ?_
  refine Evp.ret (Run.ret ⟨_, _, _, rfl, (Pre.app M _).trans (Pre.app _ _), Nat.le_refl _, ?_⟩)
  exact ⟨.op 1, rfl, by simp, by simp, .inr ⟨1, rfl, rfl⟩⟩
def CaseW (n m : Nat) (sh : Int) : Prop := (n = 2 ∧ m = 1 ∧ sh = 3) ∨ (n = 3 ∧ m = 0 ∧ sh = 3) ∨ (n = 6 ∧ m = 1 ∧ sh = 4)
section
variable {lo : Nat} {A : Option Addr} {c : Nat} {xs : List Int} {M : Mem} {n m : Nat} {sh : Int}
theorem wide_ok (hlo : lo ≤ M.length) (hx : RdI M .u8 A xs) (bx : Bytes xs) (hn : xs.length ≤ 1000) (h2 : 2 * (xs.length / 2) = xs.length) (hnn : n + 1 ≤ xs.length / 2) (hc : CaseW n m sh) :
    Ac P T lo F.deblock_line_wide [.agg ⟨[.slice A xs.length c, .int .i64 ((xs.length / 2 : Nat) : Int)]⟩, .int .i64 n, .int .i64 m, .int .i64 sh] M fun r => ∃ a cc M', r = (.slice (some a) xs.length cc, M') ∧ Pre M M' ∧ Buf M M' a ((wideL xs n m sh (2 * n)).map (Value.int .u8)) := by
  unfold CaseW at hc
  refine Ac.of (Evp.of_eq (fun k => deblock_line_wide.entry k ..) ?_)
  refine Evp.ob (clone_ok lo A c xs M hx (by omega) (by omega) hlo) ?_
  rintro _ ⟨a, cc, M1, rfl, p1, hcc, hb⟩
  simp only [ret_int, ret_bool, ret_flt, ret_slc, ret_str, ret_ptr, ret_agg, ret_tup, ob_some, bb_true, bb_false, List.getElem?_cons_zero, List.getElem?_cons_succ, List.length_cons, List.length_nil, Nat.reduceAdd, Nat.reduceLT]
  rw [w64 (x := 0 - (n : Int)) (by omega), show 0 - (n : Int) = -(n : Int) + ((0 : Nat) : Int) by omega]
  refine Evp.ret ((wide_loop (a := a) (cc := cc) hlo hx bx hn h2 hnn (by omega) (by omega) _ 0 M1 rfl (by omega) p1 hb).mono ?_)
  rintro _ ⟨M', rfl, p, hb'⟩
  exact ⟨a, cc, M', rfl, p, hb'⟩
end
section
variable {lo : Nat} {A : Option Addr} {c : Nat} {xs : List Int} {M0 : Mem} {a : Addr} {cc : Nat} {Q : Value × Mem → Prop} {n m : Nat} {sh : Int}
theorem rwide_sum (hx : RdI M0 .u8 A xs) (bx : Bytes xs) (hn : xs.length ≤ 1000) (h2 : 2 * (xs.length / 2) = xs.length) (hnn : n + 1 ≤ xs.length / 2) (hm : m ≤ n) (M : Mem) (hp : Pre M0 M) (B : Option Addr) (nb cb : Nat) (i : Int) (hi : -(n : Int) ≤ i ∧ i < n)
    (hend : Run P T lo F.zoetroperef22_wide (zoetroperef22_wide.c259220 A xs.length c n m sh B nb cb i (sumE xs n m i (2 * n + 1)) ((n : Int) + 1) M) Q) :
    ∀ (d t : Nat), 2 * n + 1 - t = d → t ≤ 2 * n + 1 →
    Run P T lo F.zoetroperef22_wide (zoetroperef22_wide.c259220 A xs.length c n m sh B nb cb i (sumE xs n m i t) (-(n : Int) + t) M) Q := by
  intro d
  induction d with
  | zero =>
    intro t hd ht
    obtain rfl : t = 2 * n + 1 := by omega
    rw [show -(n : Int) + ((2 * n + 1 : Nat) : Int) = (n : Int) + 1 by omega]
    exact hend
  | succ d ih =>
    intro t hd ht
    have nxt := ih (t + 1) (by omega) (by omega)
    have fin : ∀ wgt : Int, (wgt = 1 ∨ wgt = 2) → (if -(m : Int) ≤ -(n : Int) + t ∧ -(n : Int) + t ≤ m then (2 : Int) else 1) = wgt → Run P T lo F.zoetroperef22_wide (zoetroperef22_wide.c8295059 A xs.length c n m sh B nb cb i (sumE xs n m i t) (-(n : Int) + t) wgt M) Q := fun wgt hw he => by
      refine Run.cut (Evp.of_eq (fun k => zoetroperef22_wide.p8295059 k ..) ?_)
      rw [w64 (x := i + (-(n : Int) + t)) (by omega), w64 (x := 0 - (n : Int)) (by omega), w64 (x := 0 - (n : Int) - 1) (by omega), show 0 - (n : Int) - 1 = -(n : Int) - 1 by omega]
      refine Evp.ob (clip_ok ..) ?_
      rintro _ rfl
      simp only [ret_int, ret_bool, ret_flt, ret_slc, ret_str, ret_ptr, ret_agg, ret_tup, ob_some, bb_true, bb_false, List.getElem?_cons_zero, List.getElem?_cons_succ, List.length_cons, List.length_nil, Nat.reduceAdd, Nat.reduceLT]
      have hc := clipS_le (v := i + (-(n : Int) + t)) (a := -(n : Int) - 1) (b := n) (by omega)
      have hs := sumE_le bx n m i t
      have ha := atE_le xs bx (clipS (i + (-(n : Int) + t)) (-(n : Int) - 1) n)
      refine Evp.ob (rat_ok _ _ _ _ _ (hx.pre hp) bx hn (clipS (i + (-(n : Int) + t)) (-(n : Int) - 1) n) (by omega) (by omega)) ?_
      rintro _ rfl
      simp only [ret_int, ret_bool, ret_flt, ret_slc, ret_str, ret_ptr, ret_agg, ret_tup, ob_some, bb_true, bb_false, List.getElem?_cons_zero, List.getElem?_cons_succ, List.length_cons, List.length_nil, Nat.reduceAdd, Nat.reduceLT]
      simp only [sumE] at nxt
      rw [he] at nxt
      generalize atE xs (clipS (i + (-(n : Int) + t)) (-(n : Int) - 1) n) = v at *
      rw [w64 (x := -(n : Int) + t + 1) (by omega), show -(n : Int) + t + 1 = -(n : Int) + ((t + 1 : Nat) : Int) by omega]
      rcases hw with rfl | rfl
      · rw [w64 (x := 1 * v) (by omega), w64 (x := sumE xs n m i t + 1 * v) (by omega)]
        exact Evp.ret nxt
      · rw [w64 (x := 2 * v) (by omega), w64 (x := sumE xs n m i t + 2 * v) (by omega)]
        exact Evp.ret nxt
    refine Run.cut (Evp.of_eq (fun k => zoetroperef22_wide.p259220 k ..) ?_)
    refine Evp.dec (fun _ => ?_) fun h => absurd h (by omega)
    refine Evp.ob (abs_ok _ _ _ (by omega)) ?_
    rintro _ rfl
    simp only [ret_int, ret_bool, ret_flt, ret_slc, ret_str, ret_ptr, ret_agg, ret_tup, ob_some, bb_true, bb_false, List.getElem?_cons_zero, List.getElem?_cons_succ, List.length_cons, List.length_nil, Nat.reduceAdd, Nat.reduceLT]
    refine Evp.dec (fun h => ?_) fun h => ?_
    · exact Evp.ret (fin 2 (.inr rfl) (by rw [if_pos (by unfold absS at h; split at h <;> omega)]))
    · exact Evp.ret (fin 1 (.inl rfl) (by rw [if_neg (by unfold absS at h; split at h <;> omega)]))
theorem rwide_loop (hlo : lo ≤ M0.length) (hx : RdI M0 .u8 A xs) (bx : Bytes xs) (hn : xs.length ≤ 1000) (h2 : 2 * (xs.length / 2) = xs.length) (hnn : n + 1 ≤ xs.length / 2) (hm : m ≤ n) (hsh : sh = 3 ∨ sh = 4) :
    ∀ (d k : Nat) (M : Mem), 2 * n - k = d → k ≤ 2 * n → Pre M0 M → Buf M0 M a ((wideL xs n m sh k).map (Value.int .u8)) →
    Run P T lo F.zoetroperef22_wide (zoetroperef22_wide.c1012 A xs.length c n m sh (some a) xs.length cc (-(n : Int) + k) M) fun r => ∃ M', r = (.slice (some a) xs.length cc, M') ∧ Pre M0 M' ∧ Buf M0 M' a ((wideL xs n m sh (2 * n)).map (Value.int .u8)) := by
  have e : Int.tdiv (xs.length : Int) 2 = ((xs.length / 2 : Nat) : Int) := rfl
  intro d
  induction d with
  | zero =>
    intro k M hd hk hp hb
    obtain rfl : k = 2 * n := by omega
    refine Run.cut (Evp.of_eq (fun k => zoetroperef22_wide.p1012 k ..) ?_)
    exact Evp.dec (fun h => absurd h (by omega)) fun _ => Evp.ret (Run.ret ⟨M, rfl, hp, hb⟩)
  | succ d ih =>
    intro k M hd hk hp hb
    refine Run.cut (Evp.of_eq (fun k => zoetroperef22_wide.p1012 k ..) ?_)
    refine Evp.dec (fun _ => ?_) fun h => absurd h (by omega)
    rw [w64 (x := 0 - (n : Int)) (by omega), show 0 - (n : Int) = -(n : Int) + ((0 : Nat) : Int) by omega]
    refine Evp.ret (rwide_sum hx bx hn h2 hnn hm M hp (some a) xs.length cc (-(n : Int) + k) (by omega) ?_ _ 0 rfl (by omega))
    refine Run.cut (Evp.of_eq (fun k => zoetroperef22_wide.p259220 k ..) ?_)
    refine Evp.dec (fun h => absurd h (by omega)) fun _ => ?_
    rw [e, w64 (x := ((xs.length / 2 : Nat) : Int)) (by omega), w64 (x := sh - 1) (by omega), w64 (x := ((xs.length / 2 : Nat) : Int) + (-(n : Int) + k)) (by omega)]
    refine Evp.neg (by omega) (Evp.neg (by omega) (Evp.pos (by omega) (Evp.some rfl ?_)))
    rw [show (((xs.length / 2 : Nat) : Int) + (-(n : Int) + k)).toNat = xs.length / 2 - n + k by omega]
    obtain ⟨M1, g1, g2, g3, g4, g5⟩ := hb.st (lo := lo) (i := xs.length / 2 - n + k) (vs := [.int .u8 (valE (sumE xs n m (-(n : Int) + k) (2 * n + 1)) sh)]) hp hlo (by simp [wideL_len]; omega)
    unfold valE at g1
    rw [w64 (x := sh - 1) (by omega)] at g1
    refine Evp.some g1 ?_
    rw [setL_one, set_map] at g2
    rw [w64 (x := -(n : Int) + k + 1) (by omega), show -(n : Int) + k + 1 = -(n : Int) + ((k + 1 : Nat) : Int) by omega]
    exact Evp.ret (ih (k + 1) M1 (by omega) (by omega) g3 g2)
end
theorem rwide_ok {lo : Nat} {A : Option Addr} {c : Nat} {xs : List Int} {M : Mem} {n m : Nat} {sh : Int} (hlo : lo ≤ M.length) (hx : RdI M .u8 A xs) (bx : Bytes xs) (hn : xs.length ≤ 1000) (h2 : 2 * (xs.length / 2) = xs.length) (hnn : n + 1 ≤ xs.length / 2) (hc : CaseW n m sh) :
    Ac P T lo F.zoetroperef22_wide [.slice A xs.length c, .int .i64 n] M fun r => ∃ a cc M', r = (.slice (some a) xs.length cc, M') ∧ Pre M M' ∧ Buf M M' a ((wideL xs n m sh (2 * n)).map (Value.int .u8)) := by
  unfold CaseW at hc
  have fin : Run P T lo F.zoetroperef22_wide (zoetroperef22_wide.c31 A xs.length c n m sh M) fun r => ∃ a cc M', r = (.slice (some a) xs.length cc, M') ∧ Pre M M' ∧ Buf M M' a ((wideL xs n m sh (2 * n)).map (Value.int .u8)) := by
    refine Run.cut (Evp.of_eq (fun k => zoetroperef22_wide.p31 k ..) ?_)
    refine Evp.ob (copyBytes_ok _ _ _ _ _ hx (by omega) hlo) ?_
    rintro _ ⟨A', cc, M1, rfl, p1, hcc, g1⟩
    simp only [ret_int, ret_bool, ret_flt, ret_slc, ret_str, ret_ptr, ret_agg, ret_tup, ob_some, bb_true, bb_false, List.getElem?_cons_zero, List.getElem?_cons_succ, List.length_cons, List.length_nil, Nat.reduceAdd, Nat.reduceLT]
    obtain ⟨a, rfl, hb⟩ := g1.buf (by omega)
    rw [w64 (x := 0 - (n : Int)) (by omega), show 0 - (n : Int) = -(n : Int) + ((0 : Nat) : Int) by omega]
    refine Evp.ret ((rwide_loop (a := a) (cc := cc) hlo hx bx hn h2 hnn (by omega) (by omega) _ 0 M1 rfl (by omega) p1 hb).mono ?_)
    rintro _ ⟨M', rfl, p, hb'⟩
    exact ⟨a, cc, M', rfl, p, hb'⟩
  refine Ac.of (Evp.of_eq (fun k => zoetroperef22_wide.entry k ..) ?_)
  refine Evp.eqb (fun h3 => Evp.ret ?_) fun h3 => Evp.ret ?_
  · obtain rfl : m = 0 := by omega
    obtain rfl : sh = 3 := by omega
    refine Run.cut (Evp.of_eq (fun k => zoetroperef22_wide.p15 k ..) ?_)
    refine Evp.eqb (fun h6 => absurd h6 (by omega)) fun _ => ?_
    exact Evp.ret fin
  · obtain rfl : m = 1 := by omega
    refine Run.cut (Evp.of_eq (fun k => zoetroperef22_wide.p15 k ..) ?_)
    refine Evp.eqb (fun h6 => ?_) fun h6 => ?_
    · obtain rfl : sh = 4 := by omega
      exact Evp.ret fin
    · obtain rfl : sh = 3 := by omega
      exact Evp.ret fin
end Go.Zt
