/- Taps and blocks of the program; stripes; that it works at all. -/
import Derived.Test.YtkbdmbjhgomaiaaFd
set_option linter.unusedVariables false
set_option linter.unusedSimpArgs false
set_option maxRecDepth 100000
namespace Go.Zt
def alongL : List Int := [-1, 1, -2, 2, 0, 1, -1, 2, 0, 1, 0, 2, 0, 1, 1, 2, 1, 1, 2, 2, 1, 0, 2, 1, 1, 0, 2, 0, 1, 0, 2, -1]
def timesN (pri : Nat) (k : Nat) : Int := if pri % 2 = 1 then 3 else if k = 0 then 4 else 2
def tapHalf (dir pri sec k : Nat) : List Int :=
  [alongL.getD (dir * 4 + k * 2) 0, alongL.getD (dir * 4 + k * 2 + 1) 0, pri, timesN pri k,
   alongL.getD ((dir + 2) % 8 * 4 + k * 2) 0, alongL.getD ((dir + 2) % 8 * 4 + k * 2 + 1) 0, sec, 2 - k,
   alongL.getD ((dir + 6) % 8 * 4 + k * 2) 0, alongL.getD ((dir + 6) % 8 * 4 + k * 2 + 1) 0, sec, 2 - k]
def tapsS (dir pri sec : Nat) : List Int := tapHalf dir pri sec 0 ++ tapHalf dir pri sec 1
theorem along_le : ∀ i, i < 32 → -2 ≤ alongL.getD i 0 ∧ alongL.getD i 0 ≤ 2 := by decide
theorem timesN_le (pri k : Nat) : 0 ≤ timesN pri k ∧ timesN pri k ≤ 4 := by
  unfold timesN
  repeat' split
  all_goals omega
theorem tapsS_b {dir pri sec : Nat} (hd : dir < 8) : TapB (tapsS dir pri sec) := by
  have al := fun (i : Nat) (h : i < 32) => along_le i h
  have t0 := timesN_le pri 0
  have t1 := timesN_le pri 1
  refine ⟨rfl, fun t ht => ?_⟩
  have : t = 0 ∨ t = 1 ∨ t = 2 ∨ t = 3 ∨ t = 4 ∨ t = 5 := by omega
  rcases this with rfl | rfl | rfl | rfl | rfl | rfl
  · exact ⟨al _ (by omega), al _ (by omega), t0⟩
  · exact ⟨al _ (by omega), al _ (by omega), by show (0 : Int) ≤ 2 - ((0 : Nat) : Int) ∧ 2 - ((0 : Nat) : Int) ≤ 4; omega⟩
  · exact ⟨al _ (by omega), al _ (by omega), by show (0 : Int) ≤ 2 - ((0 : Nat) : Int) ∧ 2 - ((0 : Nat) : Int) ≤ 4; omega⟩
  · exact ⟨al _ (by omega), al _ (by omega), t1⟩
  · exact ⟨al _ (by omega), al _ (by omega), by show (0 : Int) ≤ 2 - ((1 : Nat) : Int) ∧ 2 - ((1 : Nat) : Int) ≤ 4; omega⟩
  · exact ⟨al _ (by omega), al _ (by omega), by show (0 : Int) ≤ 2 - ((1 : Nat) : Int) ∧ 2 - ((1 : Nat) : Int) ≤ 4; omega⟩
theorem along_ok (lo : Nat) (M : Mem) : Ac P T lo F.cdef_along [] M fun r => r = (.agg ⟨alongL.map (Value.int .i64)⟩, M) := by
  refine Ac.of (Evp.of_eq (fun k => cdef_along.entry k ..) ?_)
  exact Evp.ret (Run.ret rfl)
theorem taps_ok (lo dir pri sec : Nat) (M : Mem) (hlo : lo ≤ M.length) (hd : dir < 8) (hp : pri ≤ 15) (hs : sec ≤ 4) : Ac P T lo F.cdef_taps [.int .i64 dir, .int .i64 pri, .int .i64 sec] M fun r => ∃ R cr M', r = (.slice R 6 cr, M') ∧ Pre M M' ∧ Rd M' R 6 4 ((tapsS dir pri sec).map (Value.int .i64)) := by
  have ag : ∀ i, i < 32 → ((alongL.map (Value.int .i64))[i]?).bind (Value.int? .i64) = some (alongL.getD i 0) := fun i hi => tabI hi
  have d2 : Int.tmod (IntKind.i64.wrap ((dir : Int) + 2)) 8 = (((dir + 2) % 8 : Nat) : Int) := by
    rw [w64 (by omega), show (dir : Int) + 2 = ((dir + 2 : Nat) : Int) by omega]; rfl
  have d6 : Int.tmod (IntKind.i64.wrap ((IntKind.i64.wrap ((dir : Int) + 8)) - 2)) 8 = (((dir + 6) % 8 : Nat) : Int) := by
    rw [w64 (x := (dir : Int) + 8) (by omega), w64 (by omega), show (dir : Int) + 8 - 2 = ((dir + 6 : Nat) : Int) by omega]; rfl
  have half : ∀ (t0 t1 : Int) (k : Nat) (A : Option Addr) (c : Nat) (cs : List Value) (M1 : Mem), t0 = timesN pri 0 → t1 = timesN pri 1 → k < 2 → Pre M M1 → Grow M M1 4 A (3 * k) cs →
      (∀ A' c' M2, Pre M M2 → Grow M M2 4 A' (3 * (k + 1)) (cs ++ (tapHalf dir pri sec k).map (Value.int .i64)) → Run P T lo F.cdef_taps (cdef_taps.c1012 dir pri sec A' (3 * (k + 1)) c' ((k + 1 : Nat) : Int) (-1) 1 (-2) 2 0 1 (-1) 2 0 1 0 2 0 1 1 2 1 1 2 2 1 0 2 1 1 0 2 0 1 0 2 (-1) t0 t1 M2) fun r => ∃ R cr M', r = (.slice R 6 cr, M') ∧ Pre M M' ∧ Rd M' R 6 4 ((tapsS dir pri sec).map (Value.int .i64))) →
      Run P T lo F.cdef_taps (cdef_taps.c1012 dir pri sec A (3 * k) c k (-1) 1 (-2) 2 0 1 (-1) 2 0 1 0 2 0 1 1 2 1 1 2 2 1 0 2 1 1 0 2 0 1 0 2 (-1) t0 t1 M1) fun r => ∃ R cr M', r = (.slice R 6 cr, M') ∧ Pre M M' ∧ Rd M' R 6 4 ((tapsS dir pri sec).map (Value.int .i64)) := by
    intro t0 t1 k A c cs M1 e0 e1 hk hpM hg next
    have tk : (([.int .i64 t0, .int .i64 t1] : List Value)[k]?).bind (Value.int? .i64) = some (timesN pri k) := by
      have : k = 0 ∨ k = 1 := by omega
      rcases this with rfl | rfl
      · rw [e0]; rfl
      · rw [e1]; rfl
    refine Run.cut (Evp.of_eq (fun k => cdef_taps.p1012 k ..) ?_)
    rw [d2, d6]
    refine Evp.dec (fun _ => ?_) fun g => absurd g (by omega)
    refine Evp.pos (by omega) (Evp.pos (by omega) ?_)
    simp only [Int.toNat_natCast, Nat.add_zero, Nat.zero_add]
    refine Evp.some (ag (dir * 4 + k * 2) (by omega)) (Evp.some (ag (dir * 4 + k * 2 + 1) (by omega)) ?_)
    refine Evp.pos (by omega) (Evp.some tk ?_)
    refine Evp.pos (by omega) (Evp.pos (by omega) ?_)
    refine Evp.some (ag ((dir + 2) % 8 * 4 + k * 2) (by omega)) (Evp.some (ag ((dir + 2) % 8 * 4 + k * 2 + 1) (by omega)) ?_)
    refine Evp.pos (by omega) (Evp.pos (by omega) ?_)
    refine Evp.some (ag ((dir + 6) % 8 * 4 + k * 2) (by omega)) (Evp.some (ag ((dir + 6) % 8 * 4 + k * 2 + 1) (by omega)) ?_)
    rw [w64 (x := 2 - (k : Int)) (by omega), w64 (x := (k : Int) + 1) (by omega)]
    obtain ⟨⟨sa, sn, sc⟩, M3, e3, g3, hsn, p3, _, _⟩ := hg.app (lo := lo) (bytes := 32) (c := c) (m := 3) (vs := (tapHalf dir pri sec k).map (Value.int .i64)) hpM hlo rfl (by omega) (by omega)
    refine Evp.some e3 ?_
    simp only at hsn g3
    subst hsn
    exact Evp.ret (next sa sc M3 p3 g3)
  have all : ∀ (t0 t1 : Int), t0 = timesN pri 0 → t1 = timesN pri 1 → Run P T lo F.cdef_taps (cdef_taps.c31 dir pri sec (-1) 1 (-2) 2 0 1 (-1) 2 0 1 0 2 0 1 1 2 1 1 2 2 1 0 2 1 1 0 2 0 1 0 2 (-1) t0 t1 M) fun r => ∃ R cr M', r = (.slice R 6 cr, M') ∧ Pre M M' ∧ Rd M' R 6 4 ((tapsS dir pri sec).map (Value.int .i64)) := fun t0 t1 e0 e1 => by
    refine Run.cut (Evp.of_eq (fun k => cdef_taps.p31 k ..) ?_)
    refine Evp.ret (half t0 t1 0 none 0 [] M e0 e1 (by omega) (Pre.refl _) Grow.nil fun A1 c1 M1 p1 g1 => half t0 t1 1 A1 c1 _ M1 e0 e1 (by omega) p1 g1 fun A2 c2 M2 p2 g2 => ?_)
    refine Run.cut (Evp.of_eq (fun k => cdef_taps.p1012 k ..) ?_)
    refine Evp.dec (fun g => absurd g (by decide)) fun _ => Evp.ret (Run.ret ⟨A2, c2, M2, rfl, p2, ?_⟩)
    have := g2.rd
    unfold tapsS
    rw [List.map_append]
    exact this
  have tm : Int.tmod (pri : Int) 2 = ((pri % 2 : Nat) : Int) := rfl
  refine Ac.of (Evp.of_eq (fun k => cdef_taps.entry k ..) ?_)
  refine Evp.ob (along_ok lo M) ?_
  rintro _ rfl
  simp only [alongL, List.map_cons, List.map_nil, ret_int, ret_bool, ret_flt, ret_slc, ret_str, ret_ptr, ret_agg, ret_tup, ob_some, bb_true, bb_false, List.getElem?_cons_zero, List.getElem?_cons_succ, List.length_cons, List.length_nil, Nat.reduceAdd, Nat.reduceLT]
  rw [tm]
  refine Evp.eqb (fun g => Evp.ret (all 3 3 (by unfold timesN; rw [if_pos (by omega)]) (by unfold timesN; rw [if_pos (by omega)]))) fun g => Evp.ret (all 4 2 (by unfold timesN; rw [if_neg (by omega), if_pos rfl]) (by unfold timesN; rw [if_neg (by omega), if_neg (by omega)]))
/-! ### Stripes -/
def stripeL (up : Bool) (a b : Int) (n : Nat) : List Int := (List.range n).map fun i => if ((if up then i % 8 else i / 8) / 2) % 2 = 0 then a else b
theorem stripes_ok (lo : Nat) (up : Bool) (a b : Int) (M : Mem) (hlo : lo ≤ M.length) : Ac P T lo F.zoetropelaw23_stripes [.bool up, .int .u8 a, .int .u8 b] M fun r => ∃ A c M', r = (.slice A 64 c, M') ∧ Pre M M' ∧ RdI M' .u8 A (stripeL up a b 64) := by
  have loop : ∀ (d i : Nat) (A : Option Addr) (c : Nat) (M1 : Mem), 64 - i = d → i ≤ 64 → Pre M M1 → Grow M M1 1 A i ((stripeL up a b i).map (Value.int .u8)) →
      Run P T lo F.zoetropelaw23_stripes (zoetropelaw23_stripes.c116 up a b A i c i M1) fun r => ∃ A c M', r = (.slice A 64 c, M') ∧ Pre M M' ∧ RdI M' .u8 A (stripeL up a b 64) := by
    intro d
    induction d with
    | zero =>
      intro i A c M1 hd hi hp hg
      obtain rfl : i = 64 := by omega
      refine Run.cut (Evp.of_eq (fun k => zoetropelaw23_stripes.p116 k ..) ?_)
      exact Evp.dec (fun g => absurd g (by omega)) fun _ => Evp.ret (Run.ret ⟨A, c, M1, rfl, hp, hg.rd⟩)
    | succ d ih =>
      intro i A c M1 hd hi hp hg
      have put : ∀ k : Nat, k ≤ 64 → (if up then i % 8 else i / 8) = k → Run P T lo F.zoetropelaw23_stripes (zoetropelaw23_stripes.c3731 up a b A i c i k M1) fun r => ∃ A c M', r = (.slice A 64 c, M') ∧ Pre M M' ∧ RdI M' .u8 A (stripeL up a b 64) := fun k hk64 hk => by
        have sl : stripeL up a b (i + 1) = stripeL up a b i ++ [if (k / 2) % 2 = 0 then a else b] := by
          unfold stripeL
          rw [List.range_succ, List.map_append, List.map_cons, List.map_nil, hk]
        have nx : ∀ v : Int, v = (if (k / 2) % 2 = 0 then a else b) → Evp (fun kk => ob (M1.app lo 1 1 ⟨A, i, c⟩ ([.int .u8 v]) 1) fun r9 => some (zoetropelaw23_stripes.c467 up a b r9.1.a r9.1.n r9.1.c i r9.2)) fun out => Run P T lo F.zoetropelaw23_stripes out fun r => ∃ A c M', r = (.slice A 64 c, M') ∧ Pre M M' ∧ RdI M' .u8 A (stripeL up a b 64) := fun v hv => by
          obtain ⟨⟨sa, sn, sc⟩, M3, e3, g3, hsn, p3, _, _⟩ := hg.app (lo := lo) (bytes := 1) (c := c) (m := 1) (vs := [.int .u8 v]) hp hlo rfl (by omega) (by omega)
          refine Evp.some e3 (Evp.ret ?_)
          simp only at hsn g3 ⊢
          subst hsn
          refine Run.cut (Evp.of_eq (fun k => zoetropelaw23_stripes.p467 k ..) ?_)
          rw [w64 (by omega)]
          refine Evp.ret (ih (i + 1) sa sc M3 (by omega) (by omega) p3 ?_)
          rw [sl, List.map_append, ← hv]
          exact g3
        have e : Int.tmod (IntKind.i64.wrap (Int.tdiv (k : Int) 2)) 2 = ((k / 2 % 2 : Nat) : Int) := by
          rw [show Int.tdiv (k : Int) 2 = ((k / 2 : Nat) : Int) from rfl, w64 (by omega)]; rfl
        refine Run.cut (Evp.of_eq (fun k => zoetropelaw23_stripes.p3731 k ..) ?_)
        rw [e]
        exact Evp.eqb (fun g => nx a (by rw [if_pos (by omega)])) fun g => nx b (by rw [if_neg (by omega)])
      refine Run.cut (Evp.of_eq (fun k => zoetropelaw23_stripes.p116 k ..) ?_)
      refine Evp.dec (fun _ => ?_) fun g => absurd g (by omega)
      rw [show Int.tdiv (i : Int) 8 = ((i / 8 : Nat) : Int) from rfl, show Int.tmod (i : Int) 8 = ((i % 8 : Nat) : Int) from rfl, w64 (by omega)]
      refine Evp.bb (fun hu => Evp.ret (put (i % 8) (by omega) (by rw [hu]; rfl))) fun hu => Evp.ret (put (i / 8) (by omega) (by rw [hu]; rfl))
  refine Ac.of (Evp.of_eq (fun k => zoetropelaw23_stripes.entry k ..) ?_)
  exact Evp.ret (loop 64 0 none 0 M rfl (by omega) (Pre.refl _) Grow.nil)
end Go.Zt
