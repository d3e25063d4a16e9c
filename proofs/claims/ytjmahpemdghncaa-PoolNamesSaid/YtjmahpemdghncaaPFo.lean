/- What the law PoolNames needs of the text Fo. -/
import Derived.Test.YtjmahpemdghncaaPFn
set_option linter.unusedVariables false
set_option linter.unusedSimpArgs false
set_option maxRecDepth 100000
namespace Go.Zt
theorem rbit_eq (r : Int) (k : Nat) (hk : k ≤ 8) (hr : 0 ≤ r) : (Int.tmod (shrI .i64 r k) 2 == 1) = bitS r k := by
  rw [shr_eq k (by omega), Int.tmod_eq_emod_of_nonneg (Int.ediv_nonneg hr (Int.le_of_lt (Int.pow_pos (by decide))))]
  unfold bitS
  cases h : (r / 2 ^ k % 2 == 1) with
  | true => rw [decide_eq_true (by simpa using h)]
  | false => rw [decide_eq_false (by simpa using h)]
abbrev x9L (X : RawS) : List Value := [.int .i64 X.w0, .int .i64 X.h0, .slice X.A0 X.n0 X.c0, .int .i64 X.w1, .int .i64 X.h1, .slice X.A1 X.n1 X.c1, .int .i64 X.w2, .int .i64 X.h2, .slice X.A2 X.n2 X.c2]
theorem RefCells.put {cs : List Value} {R : Nat → RawS} (h : RefCells cs R) (X : RawS) (i : Nat) (hi : i < 8) (hX : X.t = true) : RefCells (setL (setL (setL cs i [.bool true]) (8 + i * 9) (x9L X)) (80 + i) [.slice X.As X.ns X.cs]) (fun n => if n = i then X else R n) := by
  obtain ⟨h1, h2⟩ := h
  have l1 : (setL cs i [.bool true]).length = 88 := by rw [setL_len]; exact h1
  have l2 : (setL (setL cs i [.bool true]) (8 + i * 9) (x9L X)).length = 88 := by rw [setL_len]; exact l1
  refine ⟨by rw [setL_len]; exact l2, fun n hn => ?_⟩
  obtain ⟨k1, k2, k3⟩ := h2 n hn
  by_cases e : n = i
  · subst e
    simp only [if_true]
    refine ⟨?_, fun j hj => ?_, ?_⟩
    · have := setL_in [Value.bool true] cs n 0 (by simp) (by simp; omega)
      rw [Nat.add_zero] at this
      rw [setL_out _ _ _ _ (.inl (by omega)), setL_out _ _ _ _ (.inl (by omega)), this, hX]; rfl
    · rw [setL_out _ _ _ _ (.inl (by omega)), setL_in (x9L X) _ _ j hj (by rw [l1]; simp; omega)]
      match j, hj with
      | 0, _ | 1, _ | 2, _ | 3, _ | 4, _ | 5, _ | 6, _ | 7, _ | 8, _ => rfl
    · have := setL_in [Value.slice X.As X.ns X.cs] (setL (setL cs n [.bool true]) (8 + n * 9) (x9L X)) (80 + n) 0 (by simp) (by rw [l2]; simp; omega)
      rw [Nat.add_zero] at this
      rw [this]; rfl
  · simp only [if_neg e]
    refine ⟨?_, fun j hj => ?_, ?_⟩
    · rw [setL_out _ _ _ _ (.inl (by omega)), setL_out _ _ _ _ (.inl (by omega)), setL_out _ _ _ _ (by simp; omega)]; exact k1
    · rw [setL_out _ _ _ _ (.inl (by omega)), setL_out _ _ _ _ (by simp; omega), setL_out _ _ _ _ (by simp; omega)]; exact k2 j hj
    · rw [setL_out _ _ _ _ (by simp; omega), setL_out _ _ _ _ (by simp; omega), setL_out _ _ _ _ (by simp; omega)]; exact k3
section
variable (lo : Nat) (S : Nat → Prop) (b : Nat) (sl : Nat → Option SlotV) (M : Mem)
section
variable (A0 A1 A2 As : Option Addr) (c0 c1 c2 cs : Nat) (f : FrV) (rows : List (List Tb)) (r : Int) (S2 S3 : Nat → Prop) (hfr : FrIs S2 M A0 A1 A2 f) (hset : SetIs S3 M As rows)
include hfr hset
omit hfr in
theorem rput_bad (hb : ∀ row ∈ rows, row.length ≤ 140737488355328) (hp : ¬ PutP r f rows) :
    Ac P T lo F.zoetroperef26_Pool_Put [.pointer (some ⟨b, 0, none⟩), .int .i64 r, .agg ⟨frc f A0 A1 A2 c0 c1 c2⟩, .agg ⟨[.slice As rows.length cs]⟩] M fun q => ∃ M', q = (.int .i64 2, M') ∧ Pre M M' := by
  refine Ac.of (Evp.of_eq (fun k => zoetroperef26_Pool_Put.entry k ..) ?_)
  refine Evp.dec (fun _ => Evp.ret (Run.ret ⟨M, rfl, Pre.refl M⟩)) fun h1 => Evp.dec (fun _ => Evp.ret (Run.ret ⟨M, rfl, Pre.refl M⟩)) fun h2 => ?_
  refine Evp.ob (rwhole_ok ..) ?_
  rintro _ rfl
  simp only [ret_int, ret_bool, ret_flt, ret_slc, ret_str, ret_ptr, ret_agg, ret_tup, ob_some, bb_true, bb_false, List.getElem?_cons_zero, List.getElem?_cons_succ, List.length_cons, List.length_nil, Nat.reduceAdd, Nat.reduceLT]
  refine Evp.neb (fun _ => Evp.ret (Run.ret ⟨M, rfl, Pre.refl M⟩)) fun h3 => ?_
  refine Evp.ob (rscheck_ok lo S3 As cs rows M hset hb) ?_
  rintro _ ⟨M1, rfl, p1⟩
  simp only [ret_int, ret_bool, ret_flt, ret_slc, ret_str, ret_ptr, ret_agg, ret_tup, ob_some, bb_true, bb_false, List.getElem?_cons_zero, List.getElem?_cons_succ, List.length_cons, List.length_nil, Nat.reduceAdd, Nat.reduceLT]
  refine Evp.neb (fun _ => Evp.ret (Run.ret ⟨M1, rfl, p1⟩)) fun h4 => absurd ⟨by omega, by omega, ?_, ?_⟩ hp
  · unfold wholeS at h3
    split at h3
    · assumption
    · cases h3
  · unfold setS at h4
    split at h4
    · assumption
    · cases h4
theorem rput_loop (hSb : ¬ S b) (h2b : ¬ S2 b) (h3b : ¬ S3 b) (hin : b < M.length) (hp : PutP r f rows) (hlo : lo ≤ b) : ∀ (d i : Nat) (M1 : Mem) (R : Nat → RawS), 8 - i = d → i ≤ 8 → KeepB b M M1 → M.length ≤ M1.length → RefRaw M1 b R → (∀ n, n < 8 → SlotIs (fun x => S x ∨ M.length ≤ x) M1 (R n) (if n < i ∧ bitS r n = true then some (f, rows) else sl n)) →
    Run P T lo F.zoetroperef26_Pool_Put (zoetroperef26_Pool_Put.c116 ⟨b, 0, none⟩ r (i : Int) f.w0 f.h0 A0 f.x0.length c0 f.w1 f.h1 A1 f.x1.length c1 f.w2 f.h2 A2 f.x2.length c2 As rows.length cs M1) fun q => ∃ M', q = (.int .i64 0, M') ∧ KeepB b M M' ∧ M.length ≤ M'.length ∧ RefIs (fun x => S x ∨ M.length ≤ x) M' b (putS sl r (f, rows)) := by
  obtain ⟨q1, q2, q3, q4⟩ := hp
  intro d
  induction d with
  | zero =>
    intro i M1 R hd hi hk hl hR hs
    obtain rfl : i = 8 := by omega
    refine Run.cut (Evp.of_eq (fun k => zoetroperef26_Pool_Put.p116 k ..) ?_)
    refine Evp.dec (fun h => absurd h (by omega)) fun _ => Evp.ret (Run.ret ⟨M1, rfl, hk, hl, R, hR, fun n hn => ?_⟩)
    have := hs n hn
    unfold putS
    simpa [hn] using this
  | succ d ih =>
    intro i M1 R hd hi hk hl hR hs
    have hi8 : i < 8 := by omega
    refine Run.cut (Evp.of_eq (fun k => zoetroperef26_Pool_Put.p116 k ..) ?_)
    refine Evp.dec (fun _ => ?_) fun h => absurd h (by omega)
    refine Evp.neg (by omega) ?_
    simp only [Int.toNat_natCast]
    rw [rbit_eq r i (by omega) q1]
    refine Evp.bb (fun hbit => ?_) fun hbit => Evp.ret ?_
    · obtain ⟨cl, g1, g2⟩ := hR
      have kS2 : ∀ {M2 : Mem}, KeepB b M M2 → FrIs S2 M2 A0 A1 A2 f ∧ SetIs S3 M2 As rows := fun hk => ⟨hfr.keepS (hk.keepS h2b), hset.keepS (hk.keepS h3b)⟩
      refine Evp.pos (by omega) (Evp.some (fx_sts g1 hlo (by rw [g2.1]; simp; omega)) ?_)
      obtain ⟨M2, e2⟩ : ∃ M2 : Mem, M2 = M1.set b ⟨.fx, setL cl i [.bool true]⟩ := ⟨_, rfl⟩
      have k2 : KeepB b M1 M2 := by rw [e2]; exact KeepB.set _ _ _
      have l2 : M2.length = M1.length := by rw [e2]; simp
      have g3 : M2[b]? = some ⟨.fx, setL cl i [.bool true]⟩ := by rw [e2]; exact set_self (lt_of_get g1)
      rw [← e2]
      refine Evp.ob (rfcopy_ok lo S2 A0 A1 A2 c0 c1 c2 f M2 (kS2 (hk.trans k2)).1 q3.small (by omega)) ?_
      rintro _ ⟨B0, B1, B2, d0, d1, d2, M3, rfl, p3, hB⟩
      simp only [ret_int, ret_bool, ret_flt, ret_slc, ret_str, ret_ptr, ret_agg, ret_tup, ob_some, bb_true, bb_false, List.getElem?_cons_zero, List.getElem?_cons_succ, List.length_cons, List.length_nil, Nat.reduceAdd, Nat.reduceLT]
      have l3 := p3.len
      have g4 := p3 _ _ g3
      have k3 := (hk.trans k2).trans (p3.keepB b)
      refine Evp.pos (by omega) ?_
      rw [show plus (plus (⟨b, 0, none⟩ : Addr) 8) (i * 9) = plus ⟨b, 0, none⟩ (8 + i * 9) by simp only [plus_eq, Nat.zero_add]]
      refine Evp.some (fx_sts g4 hlo (by rw [setL_len, g2.1]; simp; omega)) ?_
      obtain ⟨M4, e4⟩ : ∃ M4 : Mem, M4 = M3.set b ⟨.fx, setL (setL cl i [.bool true]) (8 + i * 9) [.int .i64 f.w0, .int .i64 f.h0, .slice B0 f.x0.length d0, .int .i64 f.w1, .int .i64 f.h1, .slice B1 f.x1.length d1, .int .i64 f.w2, .int .i64 f.h2, .slice B2 f.x2.length d2]⟩ := ⟨_, rfl⟩
      have k4 : KeepB b M3 M4 := by rw [e4]; exact KeepB.set _ _ _
      have l4 : M4.length = M3.length := by rw [e4]; simp
      have g5 : M4[b]? = (M3.set b _)[b]? := congrArg (fun m : Mem => m[b]?) e4
      rw [set_self (lt_of_get g4)] at g5
      rw [← e4]
      refine Evp.ob (rcopy_ok lo S3 As cs rows M4 (by omega) (kS2 (k3.trans k4)).2 q4) ?_
      rintro _ ⟨A, c, M5, rfl, p5, hA⟩
      simp only [ret_int, ret_bool, ret_flt, ret_slc, ret_str, ret_ptr, ret_agg, ret_tup, ob_some, bb_true, bb_false, List.getElem?_cons_zero, List.getElem?_cons_succ, List.length_cons, List.length_nil, Nat.reduceAdd, Nat.reduceLT]
      have l5 := p5.len
      have g6 := p5 _ _ g5
      refine Evp.pos (by omega) ?_
      rw [show plus (plus (⟨b, 0, none⟩ : Addr) 80) i = plus ⟨b, 0, none⟩ (80 + i) by simp only [plus_eq, Nat.zero_add]]
      refine Evp.some (fx_sts g6 hlo (by rw [setL_len, setL_len, g2.1]; simp; omega)) ?_
      obtain ⟨X, eX⟩ : ∃ X : RawS, X = ⟨true, f.w0, f.h0, B0, f.x0.length, d0, f.w1, f.h1, B1, f.x1.length, d1, f.w2, f.h2, B2, f.x2.length, d2, A, rows.length, c⟩ := ⟨_, rfl⟩
      have hc : RefCells (setL (setL (setL cl i [.bool true]) (8 + i * 9) [.int .i64 f.w0, .int .i64 f.h0, .slice B0 f.x0.length d0, .int .i64 f.w1, .int .i64 f.h1, .slice B1 f.x1.length d1, .int .i64 f.w2, .int .i64 f.h2, .slice B2 f.x2.length d2]) (80 + i) [.slice A rows.length c]) (fun n => if n = i then X else R n) := by
        have := g2.put X i hi8 (by rw [eX])
        rw [eX] at this ⊢
        exact this
      obtain ⟨M6, e6⟩ : ∃ M6 : Mem, M6 = M5.set b ⟨.fx, setL (setL (setL cl i [.bool true]) (8 + i * 9) [.int .i64 f.w0, .int .i64 f.h0, .slice B0 f.x0.length d0, .int .i64 f.w1, .int .i64 f.h1, .slice B1 f.x1.length d1, .int .i64 f.w2, .int .i64 f.h2, .slice B2 f.x2.length d2]) (80 + i) [.slice A rows.length c]⟩ := ⟨_, rfl⟩
      have k6 : KeepB b M5 M6 := by rw [e6]; exact KeepB.set _ _ _
      have l6 : M6.length = M5.length := by rw [e6]; simp
      have g7 : M6[b]? = (M5.set b _)[b]? := congrArg (fun m : Mem => m[b]?) e6
      rw [set_self (lt_of_get g6)] at g7
      rw [← e6]
      have kk : KeepB b M1 M6 := (((k2.trans (p3.keepB b)).trans k4).trans (p5.keepB b)).trans k6
      have hnb : ¬ (S b ∨ M.length ≤ b) := fun e => e.elim hSb fun e => by omega
      refine Evp.ret ?_
      refine Run.cut (Evp.of_eq (fun k => zoetroperef26_Pool_Put.p467 k ..) ?_)
      rw [w64 (x := (i : Int) + 1) (by omega)]
      refine Evp.ret (ih (i + 1) M6 (fun n => if n = i then X else R n) (by omega) (by omega) (hk.trans kk) (by omega) ⟨_, g7, hc⟩ fun n hn => ?_)
      by_cases e : n = i
      · subst e
        simp only [if_true]
        rw [if_pos ⟨by omega, hbit⟩]
        refine SlotIs.keepS (o := some (f, rows)) (S := fun x => S x ∨ M.length ≤ x) (M := M5) ?_ (k6.keepS hnb)
        have hB' : FrIs (fun x => S x ∨ M.length ≤ x) M5 B0 B1 B2 f := ((hB.mono (S' := fun x => S x ∨ M.length ≤ x) fun x hx => .inr (by omega)).keepS (k4.keepS hnb)).keepS p5.keepS
        rw [eX]
        exact ⟨rfl, rfl, rfl, rfl, rfl, rfl, rfl, rfl, rfl, rfl, hB', rfl, hA.mono fun x hx => .inr (by omega), q3, q4⟩
      · simp only [if_neg e]
        have h1 := (hs n hn).keepS (kk.keepS hnb)
        by_cases hn2 : n < i ∧ bitS r n = true
        · rw [if_pos hn2] at h1
          rw [if_pos ⟨by omega, hn2.2⟩]; exact h1
        · rw [if_neg hn2] at h1
          rw [if_neg fun e' => hn2 ⟨by omega, e'.2⟩]; exact h1
    · refine Run.cut (Evp.of_eq (fun k => zoetroperef26_Pool_Put.p467 k ..) ?_)
      rw [w64 (x := (i : Int) + 1) (by omega)]
      refine Evp.ret (ih (i + 1) M1 R (by omega) (by omega) hk hl hR fun n hn => ?_)
      have h1 := hs n hn
      by_cases e : n = i
      · subst e
        rw [if_neg (by omega)] at h1
        rw [if_neg fun e' => by rw [hbit] at e'; exact absurd e'.2 (by decide)]; exact h1
      · by_cases hn2 : n < i ∧ bitS r n = true
        · rw [if_pos hn2] at h1
          rw [if_pos ⟨by omega, hn2.2⟩]; exact h1
        · rw [if_neg hn2] at h1
          rw [if_neg fun e' => hn2 ⟨by omega, e'.2⟩]; exact h1
theorem rput_ok (h : RefIs S M b sl) (hSb : ¬ S b) (h2b : ¬ S2 b) (h3b : ¬ S3 b) (hp : PutP r f rows) (hlo : lo ≤ b) :
    Ac P T lo F.zoetroperef26_Pool_Put [.pointer (some ⟨b, 0, none⟩), .int .i64 r, .agg ⟨frc f A0 A1 A2 c0 c1 c2⟩, .agg ⟨[.slice As rows.length cs]⟩] M fun q => ∃ M', q = (.int .i64 0, M') ∧ KeepB b M M' ∧ M.length ≤ M'.length ∧ RefIs (fun x => S x ∨ M.length ≤ x) M' b (putS sl r (f, rows)) := by
  have hin := h.in_
  have hne := hp.2.2.2.ne
  refine Ac.of (Evp.of_eq (fun k => zoetroperef26_Pool_Put.entry k ..) ?_)
  refine Evp.dec (fun h => absurd h (by have := hp.1; omega)) fun _ => Evp.dec (fun h => absurd h (by have := hp.2.1; omega)) fun _ => ?_
  refine Evp.ob (rwhole_ok ..) ?_
  rintro _ rfl
  simp only [ret_int, ret_bool, ret_flt, ret_slc, ret_str, ret_ptr, ret_agg, ret_tup, ob_some, bb_true, bb_false, List.getElem?_cons_zero, List.getElem?_cons_succ, List.length_cons, List.length_nil, Nat.reduceAdd, Nat.reduceLT]
  refine Evp.neb (fun h => absurd (by unfold wholeS; exact if_pos hp.2.2.1) h) fun _ => ?_
  refine Evp.ob (rscheck_ok lo S3 As cs rows M hset fun row hrow => by have := (hne.2 row hrow).2.1; omega) ?_
  rintro _ ⟨M1, rfl, p1⟩
  simp only [ret_int, ret_bool, ret_flt, ret_slc, ret_str, ret_ptr, ret_agg, ret_tup, ob_some, bb_true, bb_false, List.getElem?_cons_zero, List.getElem?_cons_succ, List.length_cons, List.length_nil, Nat.reduceAdd, Nat.reduceLT]
  have l1 := p1.len
  refine Evp.neb (fun h => absurd (by unfold setS; rw [if_pos hp.2.2.2]) h) fun _ => ?_
  obtain ⟨R, hR, hs⟩ := h
  refine Evp.ret (rput_loop lo S b sl M A0 A1 A2 As c0 c1 c2 cs f rows r S2 S3 hfr hset hSb h2b h3b hin hp hlo _ 0 M1 R rfl (by omega) (p1.keepB b) l1 (hR.keep fun k hk => p1 _ _ hk) fun n hn => ?_)
  rw [if_neg (by omega)]
  exact ((hs n hn).keepS p1.keepS).mono fun x hx => .inl hx
end
theorem bit_pow : ∀ i, i < 8 → ∀ k, k < 8 → bitS (2 ^ i) k = decide (k = i) := by decide
theorem pow_b : ∀ i, i < 8 → 0 ≤ (2 : Int) ^ i ∧ (2 : Int) ^ i ≤ 255 := by decide
theorem rpcopy_ok (h : RefIs S M b sl) (hS : ∀ x, S x → x < M.length) (hlo : lo ≤ M.length) :
    Ac P T lo F.zoetroperef26_Pool_Copy [.pointer (some ⟨b, 0, none⟩)] M fun r => ∃ M', r = (.pointer (some ⟨M.length, 0, none⟩), M') ∧ Pre M M' ∧ RefIs (fun x => M.length < x) M' M.length sl := by
  have hin := h.in_
  have loop : ∀ (d i : Nat) (M1 : Mem), 8 - i = d → i ≤ 8 → Pre M M1 → M.length < M1.length → RefIs (fun x => M.length < x) M1 M.length (fun n => if n < i then sl n else none) →
      Run P T lo F.zoetroperef26_Pool_Copy (zoetroperef26_Pool_Copy.c116 ⟨b, 0, none⟩ (some ⟨M.length, 0, none⟩) (i : Int) M1) fun r => ∃ M', r = (.pointer (some ⟨M.length, 0, none⟩), M') ∧ Pre M M' ∧ RefIs (fun x => M.length < x) M' M.length sl := by
    intro d
    induction d with
    | zero =>
      intro i M1 hd hi hp hl hq
      obtain rfl : i = 8 := by omega
      refine Run.cut (Evp.of_eq (fun k => zoetroperef26_Pool_Copy.p116 k ..) ?_)
      refine Evp.dec (fun h => absurd h (by omega)) fun _ => Evp.ret (Run.ret ⟨M1, rfl, hp, ?_⟩)
      obtain ⟨R, hR, hs⟩ := hq
      exact ⟨R, hR, fun n hn => by have := hs n hn; dsimp only at this; rwa [if_pos hn] at this⟩
    | succ d ih =>
      intro i M1 hd hi hp hl hq
      have hi8 : i < 8 := by omega
      have h1 := h.pre hp
      obtain ⟨R, hR, hs⟩ := h1
      have hsi := hs i hi8
      have pw := pow_b i hi8
      refine Run.cut (Evp.of_eq (fun k => zoetroperef26_Pool_Copy.p116 k ..) ?_)
      refine Evp.dec (fun _ => ?_) fun h => absurd h (by omega)
      refine Evp.pos (by omega) ?_
      simp only [Int.toNat_natCast]
      refine Evp.some (hR.is hi8) ?_
      rw [hsi.t]
      refine Evp.bb (fun ht => ?_) fun ht => Evp.ret ?_
      · obtain ⟨v, hv⟩ := Option.isSome_iff_exists.1 ht
        obtain ⟨f, rows⟩ := v
        rw [hv] at hsi
        have hsi : SlotS S M1 (R i) f rows := hsi
        refine Evp.neg (by omega) (Evp.pos (by omega) ?_)
        refine evp_ld9 (r := R i) (fun j hj => hR.fr hi8 hj) ?_
        refine Evp.pos (by omega) (Evp.some (hR.st hi8) ?_)
        rw [shl_one i (by omega)]
        dsimp only
        rw [hsi.w0, hsi.h0, hsi.n0, hsi.w1, hsi.h1, hsi.n1, hsi.w2, hsi.h2, hsi.n2, hsi.ns]
        refine Evp.ob (rput_ok lo (fun x => M.length < x) M.length _ M1 _ _ _ _ _ _ _ _ f rows (2 ^ i) S S hsi.fr hsi.set hq (Nat.lt_irrefl _) (fun e => Nat.lt_irrefl _ (hS _ e)) (fun e => Nat.lt_irrefl _ (hS _ e)) ⟨pw.1, pw.2, hsi.fw, hsi.sp⟩ hlo) ?_
        rintro _ ⟨M2, rfl, kb, l2, hq2⟩
        simp only [ret_int, ret_bool, ret_flt, ret_slc, ret_str, ret_ptr, ret_agg, ret_tup, ob_some, bb_true, bb_false, List.getElem?_cons_zero, List.getElem?_cons_succ, List.length_cons, List.length_nil, Nat.reduceAdd, Nat.reduceLT]
        refine Evp.ret ?_
        refine Run.cut (Evp.of_eq (fun k => zoetroperef26_Pool_Copy.p467 k ..) ?_)
        rw [w64 (x := (i : Int) + 1) (by omega)]
        refine Evp.ret (ih (i + 1) M2 (by omega) (by omega) (kb.pre hp (Nat.le_refl _)) (by omega) ?_)
        obtain ⟨R2, hR2, hs2⟩ := hq2
        refine ⟨R2, hR2, fun n hn => ?_⟩
        have h3 := (hs2 n hn).mono (S' := fun x => M.length < x) fun x hx => by omega
        unfold putS at h3
        dsimp only at h3 ⊢
        rw [bit_pow i hi8 n hn] at h3
        by_cases e : n = i
        · subst e
          rw [if_pos (by simp)] at h3
          rw [if_pos (by omega), hv]; exact h3
        · rw [if_neg (by simp [e])] at h3
          by_cases hn2 : n < i
          · rw [if_pos hn2] at h3; rw [if_pos (by omega)]; exact h3
          · rw [if_neg hn2] at h3; rw [if_neg (by omega)]; exact h3
      · refine Run.cut (Evp.of_eq (fun k => zoetroperef26_Pool_Copy.p467 k ..) ?_)
        rw [w64 (x := (i : Int) + 1) (by omega)]
        refine Evp.ret (ih (i + 1) M1 (by omega) (by omega) hp hl ?_)
        obtain ⟨R2, hR2, hs2⟩ := hq
        refine ⟨R2, hR2, fun n hn => ?_⟩
        have h3 := hs2 n hn
        dsimp only at h3 ⊢
        by_cases e : n = i
        · subst e
          rw [if_neg (by omega)] at h3
          rw [if_pos (by omega)]
          cases hv : sl n with
          | none => exact h3
          | some v => rw [hv] at ht; cases ht
        · by_cases hn2 : n < i
          · rw [if_pos hn2] at h3; rw [if_pos (by omega)]; exact h3
          · rw [if_neg hn2] at h3; rw [if_neg (by omega)]; exact h3
  refine Ac.of (Evp.of_eq (fun k => zoetroperef26_Pool_Copy.entry k ..) ?_)
  refine Evp.ob (rnew_ok lo (fun x => M.length < x) M) ?_
  rintro _ ⟨M1, rfl, p1, l1, hq⟩
  simp only [ret_int, ret_bool, ret_flt, ret_slc, ret_str, ret_ptr, ret_agg, ret_tup, ob_some, bb_true, bb_false, List.getElem?_cons_zero, List.getElem?_cons_succ, List.length_cons, List.length_nil, Nat.reduceAdd, Nat.reduceLT]
  refine Evp.ret (loop _ 0 M1 rfl (by omega) p1 (by omega) ?_)
  obtain ⟨R2, hR2, hs2⟩ := hq
  exact ⟨R2, hR2, fun n hn => by dsimp only; rw [if_neg (by omega)]; exact hs2 n hn⟩
theorem rpsame_ok (S' : Nat → Prop) (b' : Nat) (sl' : Nat → Option SlotV) (h : RefIs S M b sl) (h' : RefIs S' M b' sl') :
    Ac P T lo F.zoetroperef26_Same [.pointer (some ⟨b, 0, none⟩), .pointer (some ⟨b', 0, none⟩)] M fun r => r = (.bool (decide (SameSl sl sl')), M) := by
  obtain ⟨R, hR, hs⟩ := h
  obtain ⟨R', hR', hs'⟩ := h'
  have loop : ∀ (d i : Nat), 8 - i = d → i ≤ 8 → (∀ n, n < i → sl n = sl' n) → Run P T lo F.zoetroperef26_Same (zoetroperef26_Same.c52 ⟨b, 0, none⟩ ⟨b', 0, none⟩ (i : Int) M) fun r => r = (.bool (decide (SameSl sl sl')), M) := by
    intro d
    induction d with
    | zero =>
      intro i hd hi he
      obtain rfl : i = 8 := by omega
      refine Run.cut (Evp.of_eq (fun k => zoetroperef26_Same.p52 k ..) ?_)
      exact Evp.dec (fun h => absurd h (by omega)) fun _ => Evp.ret (Run.ret (by rw [decide_eq_true (show SameSl sl sl' from he)]))
    | succ d ih =>
      intro i hd hi he
      have hi8 : i < 8 := by omega
      have h1 := hs i hi8
      have h2 := hs' i hi8
      have no : sl i ≠ sl' i → Run P T lo F.zoetroperef26_Same (.ret (.bool false) M) fun r => r = (.bool (decide (SameSl sl sl')), M) := fun hne => Run.ret (by rw [decide_eq_false fun e => hne (e i hi8)])
      have next : sl i = sl' i → Run P T lo F.zoetroperef26_Same (zoetroperef26_Same.c52 ⟨b, 0, none⟩ ⟨b', 0, none⟩ (IntKind.i64.wrap ((i : Int) + 1)) M) fun r => r = (.bool (decide (SameSl sl sl')), M) := fun e => by
        rw [w64 (by omega)]
        exact ih (i + 1) (by omega) (by omega) fun n hn => by
          by_cases q : n = i
          · subst q; exact e
          · exact he n (by omega)
      refine Run.cut (Evp.of_eq (fun k => zoetroperef26_Same.p52 k ..) ?_)
      refine Evp.dec (fun _ => ?_) fun h => absurd h (by omega)
      refine Evp.pos (by omega) ?_
      simp only [Int.toNat_natCast]
      refine Evp.some (hR.is hi8) (Evp.pos (by omega) (Evp.some (hR'.is hi8) ?_))
      rw [h1.t, h2.t]
      refine Evp.nb (fun hf => Evp.ret (no fun e => by rw [e] at hf; simp at hf)) fun ht => ?_
      have ht : (sl i).isSome = (sl' i).isSome := by simpa using ht
      refine Evp.pos (by omega) (Evp.some (hR.is hi8) ?_)
      rw [h1.t]
      cases hv : sl i with
      | none =>
        rw [hv] at ht
        have hv' : sl' i = none := by
          cases q : sl' i with
          | none => rfl
          | some v => rw [q] at ht; cases ht
        exact Evp.ff rfl (Evp.ret (next (by rw [hv, hv'])))
      | some v =>
        obtain ⟨f, rows⟩ := v
        rw [hv] at ht h1 no next
        obtain ⟨g, rows', hv'⟩ : ∃ g rows', sl' i = some (g, rows') := by
          cases q : sl' i with
          | none => rw [q] at ht; cases ht
          | some v => exact ⟨v.1, v.2, rfl⟩
        rw [hv'] at h2 no next
        have h1 : SlotS S M (R i) f rows := h1
        have h2 : SlotS S' M (R' i) g rows' := h2
        have hne := h1.sp.ne
        refine Evp.tt rfl (Evp.pos (by omega) ?_)
        refine evp_ld9 (r := R i) (fun j hj => hR.fr hi8 hj) ?_
        refine Evp.pos (by omega) ?_
        refine evp_ld9 (r := R' i) (fun j hj => hR'.fr hi8 hj) ?_
        dsimp only
        rw [h1.w0, h1.h0, h1.n0, h1.w1, h1.h1, h1.n1, h1.w2, h1.h2, h1.n2, h2.w0, h2.h0, h2.n0, h2.w1, h2.h1, h2.n1, h2.w2, h2.h2, h2.n2]
        refine Evp.ob (rfsame_ok lo S _ _ _ _ _ _ f M h1.fr S' _ _ _ _ _ _ g h2.fr h1.fw.small) ?_
        rintro _ rfl
        simp only [ret_int, ret_bool, ret_flt, ret_slc, ret_str, ret_ptr, ret_agg, ret_tup, ob_some, bb_true, bb_false, List.getElem?_cons_zero, List.getElem?_cons_succ, List.length_cons, List.length_nil, Nat.reduceAdd, Nat.reduceLT]
        refine Evp.nb (fun hf => Evp.ret (no fun e => of_decide_eq_false hf (by injection e with e; injection e))) fun hfe => ?_
        have hfe := of_decide_eq_true hfe
        refine Evp.pos (by omega) (Evp.some (hR.st hi8) (Evp.pos (by omega) (Evp.some (hR'.st hi8) ?_)))
        dsimp only
        rw [h1.ns, h2.ns]
        refine Evp.ob (rsset_ok lo S S' _ _ _ _ rows rows' M h1.set h2.set (by omega) fun row hr => ⟨(hne.2 row hr).2.1, fun t ht => ((hne.2 row hr).2.2 t ht).2⟩) ?_
        rintro _ rfl
        simp only [ret_int, ret_bool, ret_flt, ret_slc, ret_str, ret_ptr, ret_agg, ret_tup, ob_some, bb_true, bb_false, List.getElem?_cons_zero, List.getElem?_cons_succ, List.length_cons, List.length_nil, Nat.reduceAdd, Nat.reduceLT]
        refine Evp.nb (fun hf => Evp.ret (no fun e => of_decide_eq_false hf (by injection e with e; injection e))) fun hre => Evp.ret ?_
        have hre := of_decide_eq_true hre
        exact next (by rw [hfe, hre])
  refine Ac.of (Evp.of_eq (fun k => zoetroperef26_Same.entry k ..) ?_)
  exact Evp.ret (loop _ 0 rfl (by omega) fun n hn => absurd hn (by omega))
theorem pset_bad (h : PoolIs S M b sl) (n : Int) (hn : n < 0 ∨ 8 ≤ n) : Ac P T lo F.pool_Pool_Set [.pointer (some ⟨b, 0, none⟩), .int .i64 n] M fun r => r = (.tuple ⟨[.agg ⟨[.slice none 0 0]⟩, .int .i64 2]⟩, M) := by
  obtain ⟨R, h1, h2⟩ := h
  refine Ac.of (Evp.of_eq (fun k => pool_Pool_Set.entry k ..) ?_)
  refine Evp.ob (slot_bad lo b R M h1 n hn) ?_
  rintro _ rfl
  simp only [RawS.cells, RawS.zero, ret_int, ret_bool, ret_flt, ret_slc, ret_str, ret_ptr, ret_agg, ret_tup, ob_some, bb_true, bb_false, List.getElem?_cons_zero, List.getElem?_cons_succ, List.length_cons, List.length_nil, Nat.reduceAdd, Nat.reduceLT]
  exact Evp.tt rfl (Evp.ret (Run.ret rfl))
theorem pset_none (h : PoolIs S M b sl) (n : Nat) (hn : n < 8) (hs : sl n = none) : Ac P T lo F.pool_Pool_Set [.pointer (some ⟨b, 0, none⟩), .int .i64 n] M fun r => r = (.tuple ⟨[.agg ⟨[.slice none 0 0]⟩, .int .i64 6]⟩, M) := by
  obtain ⟨R, h1, h2⟩ := h
  have hr := h2 n hn
  rw [hs] at hr
  have hr : R n = RawS.zero := hr
  refine Ac.of (Evp.of_eq (fun k => pool_Pool_Set.entry k ..) ?_)
  refine Evp.ob (slot_ok lo b R M h1 n hn) ?_
  rintro _ rfl
  rw [hr, if_neg (by decide)]
  simp only [RawS.cells, RawS.zero, ret_int, ret_bool, ret_flt, ret_slc, ret_str, ret_ptr, ret_agg, ret_tup, ob_some, bb_true, bb_false, List.getElem?_cons_zero, List.getElem?_cons_succ, List.length_cons, List.length_nil, Nat.reduceAdd, Nat.reduceLT]
  exact Evp.tt rfl (Evp.ret (Run.ret rfl))
theorem pset_some (h : PoolIs S M b sl) (n : Nat) (hn : n < 8) (f : FrV) (rows : List (List Tb)) (hs : sl n = some (f, rows)) (hlo : lo ≤ M.length) :
    Ac P T lo F.pool_Pool_Set [.pointer (some ⟨b, 0, none⟩), .int .i64 n] M fun r => ∃ A c M', r = (.tuple ⟨[.agg ⟨[.slice A rows.length c]⟩, .int .i64 0]⟩, M') ∧ Pre M M' ∧ SetIs (fun b => M.length ≤ b) M' A rows := by
  obtain ⟨R, h1, h2⟩ := h
  have hr := h2 n hn
  rw [hs] at hr
  have hr : SlotS S M (R n) f rows := hr
  refine Ac.of (Evp.of_eq (fun k => pool_Pool_Set.entry k ..) ?_)
  refine Evp.ob (slot_ok lo b R M h1 n hn) ?_
  rintro _ rfl
  rw [if_pos hr.t]
  simp only [RawS.cells, ret_int, ret_bool, ret_flt, ret_slc, ret_str, ret_ptr, ret_agg, ret_tup, ob_some, bb_true, bb_false, List.getElem?_cons_zero, List.getElem?_cons_succ, List.length_cons, List.length_nil, Nat.reduceAdd, Nat.reduceLT]
  refine Evp.ff rfl ?_
  rw [hr.ns]
  refine Evp.ob (scopy_ok lo S (R n).As (R n).cs rows M hr.set hr.sp hlo) ?_
  rintro _ ⟨a, c, M', rfl, k⟩
  simp only [ret_int, ret_bool, ret_flt, ret_slc, ret_str, ret_ptr, ret_agg, ret_tup, ob_some, bb_true, bb_false, List.getElem?_cons_zero, List.getElem?_cons_succ, List.length_cons, List.length_nil, Nat.reduceAdd, Nat.reduceLT]
  exact Evp.ret (Run.ret ⟨some a, c, M', rfl, k⟩)
theorem told_ok (S' : Nat → Prop) (b' : Nat) (h : PoolIs S M b sl) (h' : RefIs S' M b' sl) (x : Int) (hlo : lo ≤ M.length) :
    Ac P T lo F.zoetropelaw26_told [.pointer (some ⟨b, 0, none⟩), .pointer (some ⟨b', 0, none⟩), .int .i64 x] M fun r => ∃ M', r = (.bool true, M') ∧ Pre M M' := by
  have fin : ∀ M1, Pre M M1 → Evp (fun k => ob (acall P T k lo F.pool_Pool_Has [.pointer (some ⟨b, 0, none⟩)] M1) fun r49 => ob ((some r49.1).bind (Value.int? .i64)) fun x50 => ob (acall P T k lo F.zoetroperef26_Pool_Has [.pointer (some ⟨b', 0, none⟩)] r49.2) fun r51 => ob ((some r51.1).bind (Value.int? .i64)) fun x52 => some (Out.ret (.bool (x50 == x52)) r51.2))
      fun out => Run P T lo F.zoetropelaw26_told out fun r => ∃ M', r = (.bool true, M') ∧ Pre M M' := fun M1 p1 => by
    refine Evp.ob (has_ok lo S b sl M1 (h.pre p1)) ?_
    rintro _ rfl
    simp only [ret_int, ret_bool, ret_flt, ret_slc, ret_str, ret_ptr, ret_agg, ret_tup, ob_some, bb_true, bb_false, List.getElem?_cons_zero, List.getElem?_cons_succ, List.length_cons, List.length_nil, Nat.reduceAdd, Nat.reduceLT]
    refine Evp.ob (rhas_ok lo S' b' sl M1 (h'.pre p1)) ?_
    rintro _ rfl
    simp only [ret_int, ret_bool, ret_flt, ret_slc, ret_str, ret_ptr, ret_agg, ret_tup, ob_some, bb_true, bb_false, List.getElem?_cons_zero, List.getElem?_cons_succ, List.length_cons, List.length_nil, Nat.reduceAdd, Nat.reduceLT]
    exact Evp.ret (Run.ret ⟨M1, by simp, p1⟩)
  refine Ac.of (Evp.of_eq (fun k => zoetropelaw26_told.entry k ..) ?_)
  by_cases hx : x < 0 ∨ 8 ≤ x
  · refine Evp.ob (pframe_bad lo S b sl M h x hx) ?_
    rintro _ rfl
    simp only [ret_int, ret_bool, ret_flt, ret_slc, ret_str, ret_ptr, ret_agg, ret_tup, ob_some, bb_true, bb_false, List.getElem?_cons_zero, List.getElem?_cons_succ, List.length_cons, List.length_nil, Nat.reduceAdd, Nat.reduceLT]
    refine Evp.ob (rframe_bad lo b' M x hx) ?_
    rintro _ rfl
    simp only [ret_int, ret_bool, ret_flt, ret_slc, ret_str, ret_ptr, ret_agg, ret_tup, ob_some, bb_true, bb_false, List.getElem?_cons_zero, List.getElem?_cons_succ, List.length_cons, List.length_nil, Nat.reduceAdd, Nat.reduceLT]
    refine Evp.ob (pset_bad lo S b sl M h x hx) ?_
    rintro _ rfl
    simp only [ret_int, ret_bool, ret_flt, ret_slc, ret_str, ret_ptr, ret_agg, ret_tup, ob_some, bb_true, bb_false, List.getElem?_cons_zero, List.getElem?_cons_succ, List.length_cons, List.length_nil, Nat.reduceAdd, Nat.reduceLT]
    refine Evp.ob (rset_bad lo b' M x hx) ?_
    rintro _ rfl
    simp only [ret_int, ret_bool, ret_flt, ret_slc, ret_str, ret_ptr, ret_agg, ret_tup, ob_some, bb_true, bb_false, List.getElem?_cons_zero, List.getElem?_cons_succ, List.length_cons, List.length_nil, Nat.reduceAdd, Nat.reduceLT]
    refine Evp.tt rfl (Evp.tt rfl ?_)
    refine Evp.ob (rfsame_ok lo (fun _ => True) none none none 0 0 0 ⟨0, 0, [], 0, 0, [], 0, 0, []⟩ M ⟨OnS.none, OnS.none, OnS.none, RdI.nil, RdI.nil, RdI.nil⟩ (fun _ => True) none none none 0 0 0 ⟨0, 0, [], 0, 0, [], 0, 0, []⟩ ⟨OnS.none, OnS.none, OnS.none, RdI.nil, RdI.nil, RdI.nil⟩ ⟨by decide, by decide, by decide⟩) ?_
    rintro _ rfl
    simp only [ret_int, ret_bool, ret_flt, ret_slc, ret_str, ret_ptr, ret_agg, ret_tup, ob_some, bb_true, bb_false, List.getElem?_cons_zero, List.getElem?_cons_succ, List.length_cons, List.length_nil, Nat.reduceAdd, Nat.reduceLT]
    refine Evp.tt (by simp) ?_
    refine Evp.ob (rsset_ok lo (fun _ => True) (fun _ => True) none none 0 0 [] [] M ⟨OnS.none, [], Rd.zero, fun k row hk => by simp at hk⟩ ⟨OnS.none, [], Rd.zero, fun k row hk => by simp at hk⟩ (by decide) fun row hr => by simp at hr) ?_
    rintro _ rfl
    simp only [ret_int, ret_bool, ret_flt, ret_slc, ret_str, ret_ptr, ret_agg, ret_tup, ob_some, bb_true, bb_false, List.getElem?_cons_zero, List.getElem?_cons_succ, List.length_cons, List.length_nil, Nat.reduceAdd, Nat.reduceLT]
    exact Evp.tt (by simp) (fin M (Pre.refl M))
  · obtain ⟨n, rfl⟩ : ∃ n : Nat, x = n := ⟨x.toNat, by omega⟩
    have hn : n < 8 := by omega
    cases hv : sl n with
    | none =>
      refine Evp.ob (pframe_none lo S b sl M h n hn hv) ?_
      rintro _ rfl
      simp only [ret_int, ret_bool, ret_flt, ret_slc, ret_str, ret_ptr, ret_agg, ret_tup, ob_some, bb_true, bb_false, List.getElem?_cons_zero, List.getElem?_cons_succ, List.length_cons, List.length_nil, Nat.reduceAdd, Nat.reduceLT]
      refine Evp.ob (rframe_none lo S' b' sl M h' n hn hv) ?_
      rintro _ rfl
      simp only [ret_int, ret_bool, ret_flt, ret_slc, ret_str, ret_ptr, ret_agg, ret_tup, ob_some, bb_true, bb_false, List.getElem?_cons_zero, List.getElem?_cons_succ, List.length_cons, List.length_nil, Nat.reduceAdd, Nat.reduceLT]
      refine Evp.ob (pset_none lo S b sl M h n hn hv) ?_
      rintro _ rfl
      simp only [ret_int, ret_bool, ret_flt, ret_slc, ret_str, ret_ptr, ret_agg, ret_tup, ob_some, bb_true, bb_false, List.getElem?_cons_zero, List.getElem?_cons_succ, List.length_cons, List.length_nil, Nat.reduceAdd, Nat.reduceLT]
      refine Evp.ob (rset_none lo S' b' sl M h' n hn hv) ?_
      rintro _ rfl
      simp only [ret_int, ret_bool, ret_flt, ret_slc, ret_str, ret_ptr, ret_agg, ret_tup, ob_some, bb_true, bb_false, List.getElem?_cons_zero, List.getElem?_cons_succ, List.length_cons, List.length_nil, Nat.reduceAdd, Nat.reduceLT]
      refine Evp.tt rfl (Evp.tt rfl ?_)
      refine Evp.ob (rfsame_ok lo (fun _ => True) none none none 0 0 0 ⟨0, 0, [], 0, 0, [], 0, 0, []⟩ M ⟨OnS.none, OnS.none, OnS.none, RdI.nil, RdI.nil, RdI.nil⟩ (fun _ => True) none none none 0 0 0 ⟨0, 0, [], 0, 0, [], 0, 0, []⟩ ⟨OnS.none, OnS.none, OnS.none, RdI.nil, RdI.nil, RdI.nil⟩ ⟨by decide, by decide, by decide⟩) ?_
      rintro _ rfl
      simp only [ret_int, ret_bool, ret_flt, ret_slc, ret_str, ret_ptr, ret_agg, ret_tup, ob_some, bb_true, bb_false, List.getElem?_cons_zero, List.getElem?_cons_succ, List.length_cons, List.length_nil, Nat.reduceAdd, Nat.reduceLT]
      refine Evp.tt (by simp) ?_
      refine Evp.ob (rsset_ok lo (fun _ => True) (fun _ => True) none none 0 0 [] [] M ⟨OnS.none, [], Rd.zero, fun k row hk => by simp at hk⟩ ⟨OnS.none, [], Rd.zero, fun k row hk => by simp at hk⟩ (by decide) fun row hr => by simp at hr) ?_
      rintro _ rfl
      simp only [ret_int, ret_bool, ret_flt, ret_slc, ret_str, ret_ptr, ret_agg, ret_tup, ob_some, bb_true, bb_false, List.getElem?_cons_zero, List.getElem?_cons_succ, List.length_cons, List.length_nil, Nat.reduceAdd, Nat.reduceLT]
      exact Evp.tt (by simp) (fin M (Pre.refl M))
    | some v =>
      obtain ⟨f, rows⟩ := v
      obtain ⟨R0, hR0, hs0⟩ := h
      have hsl := hs0 n hn
      rw [hv] at hsl
      have hsl : SlotS S M (R0 n) f rows := hsl
      have hne := hsl.sp.ne
      have h : PoolIs S M b sl := ⟨R0, hR0, hs0⟩
      refine Evp.ob (pframe_some lo S b sl M h n hn f rows hv hlo) ?_
      rintro _ ⟨a0, a1, a2, d0, d1, d2, M1, rfl, p1, b0, b1, b2, _⟩
      simp only [ret_int, ret_bool, ret_flt, ret_slc, ret_str, ret_ptr, ret_agg, ret_tup, ob_some, bb_true, bb_false, List.getElem?_cons_zero, List.getElem?_cons_succ, List.length_cons, List.length_nil, Nat.reduceAdd, Nat.reduceLT]
      have l1 := p1.len
      refine Evp.ob (rframe_some lo S' b' sl M1 (h'.pre p1) n hn f rows hv (by omega)) ?_
      rintro _ ⟨B0, B1, B2, e0, e1, e2, M2, rfl, p2, hB⟩
      simp only [ret_int, ret_bool, ret_flt, ret_slc, ret_str, ret_ptr, ret_agg, ret_tup, ob_some, bb_true, bb_false, List.getElem?_cons_zero, List.getElem?_cons_succ, List.length_cons, List.length_nil, Nat.reduceAdd, Nat.reduceLT]
      have l2 := p2.len
      refine Evp.ob (pset_some lo S b sl M2 (h.pre (p1.trans p2)) n hn f rows hv (by omega)) ?_
      rintro _ ⟨A, c, M3, rfl, p3, hA⟩
      simp only [ret_int, ret_bool, ret_flt, ret_slc, ret_str, ret_ptr, ret_agg, ret_tup, ob_some, bb_true, bb_false, List.getElem?_cons_zero, List.getElem?_cons_succ, List.length_cons, List.length_nil, Nat.reduceAdd, Nat.reduceLT]
      have l3 := p3.len
      refine Evp.ob (rset_some lo S' b' sl M3 (h'.pre ((p1.trans p2).trans p3)) n hn f rows hv (by omega)) ?_
      rintro _ ⟨A', c', M4, rfl, p4, hA'⟩
      simp only [ret_int, ret_bool, ret_flt, ret_slc, ret_str, ret_ptr, ret_agg, ret_tup, ob_some, bb_true, bb_false, List.getElem?_cons_zero, List.getElem?_cons_succ, List.length_cons, List.length_nil, Nat.reduceAdd, Nat.reduceLT]
      refine Evp.tt rfl (Evp.tt rfl ?_)
      have p24 := (p2.trans p3).trans p4
      have hf4 : FrIs (fun _ => True) M4 (some a0) (some a1) (some a2) f := ⟨fun _ _ => trivial, fun _ _ => trivial, fun _ _ => trivial, b0.rdI.pre p24, b1.rdI.pre p24, b2.rdI.pre p24⟩
      refine Evp.ob (rfsame_ok lo (fun _ => True) (some a0) (some a1) (some a2) d0 d1 d2 f M4 hf4 _ B0 B1 B2 e0 e1 e2 f (hB.keepS (p3.trans p4).keepS) hsl.fw.small) ?_
      rintro _ rfl
      simp only [ret_int, ret_bool, ret_flt, ret_slc, ret_str, ret_ptr, ret_agg, ret_tup, ob_some, bb_true, bb_false, List.getElem?_cons_zero, List.getElem?_cons_succ, List.length_cons, List.length_nil, Nat.reduceAdd, Nat.reduceLT]
      refine Evp.tt (by simp) ?_
      refine Evp.ob (rsset_ok lo _ _ A A' c c' rows rows M4 (hA.pre p4) hA' (by omega) fun row hr => ⟨(hne.2 row hr).2.1, fun t ht => ((hne.2 row hr).2.2 t ht).2⟩) ?_
      rintro _ rfl
      simp only [ret_int, ret_bool, ret_flt, ret_slc, ret_str, ret_ptr, ret_agg, ret_tup, ob_some, bb_true, bb_false, List.getElem?_cons_zero, List.getElem?_cons_succ, List.length_cons, List.length_nil, Nat.reduceAdd, Nat.reduceLT]
      exact Evp.tt (by simp) (fin M4 ((p1.trans p2).trans (p3.trans p4)))
end
end Go.Zt
