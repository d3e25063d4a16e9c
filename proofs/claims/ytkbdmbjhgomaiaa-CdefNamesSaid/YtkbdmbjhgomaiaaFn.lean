/- Frames of the program. -/
import Derived.Test.YtkbdmbjhgomaiaaFm
set_option linter.unusedVariables false
set_option linter.unusedSimpArgs false
set_option maxRecDepth 100000
namespace Go.Zt

def Fr3.at (f : Fr3) (n : Nat) : Plv := match n with | 0 => f.p0 | 1 => f.p1 | _ => f.p2
abbrev csL (f : Fr3) (ad : Nat → Addr) (cc : Nat → Nat) : List Value := [.int .i64 f.p0.w, .int .i64 f.p0.h, .slice (some (ad 0)) f.p0.xs.length (cc 0), .int .i64 f.p1.w, .int .i64 f.p1.h, .slice (some (ad 1)) f.p1.xs.length (cc 1), .int .i64 f.p2.w, .int .i64 f.p2.h, .slice (some (ad 2)) f.p2.xs.length (cc 2)]
structure Bufs (M0 M : Mem) (f : Fr3) (ad : Nat → Addr) (os : Nat → List Int) : Prop where
  buf : ∀ n, n < 3 → Buf M0 M (ad n) ((os n).map (Value.int .u8))
  len : ∀ n, n < 3 → (os n).length = (f.at n).xs.length
  ne : ∀ m n, m < 3 → n < 3 → m ≠ n → (ad m).block ≠ (ad n).block
def upd (os : Nat → List Int) (n : Nat) (v : List Int) : Nat → List Int := fun m => if m = n then v else os m
theorem Bufs.pre {M0 M M' : Mem} {f : Fr3} {ad : Nat → Addr} {os : Nat → List Int} (h : Bufs M0 M f ad os) (hp : Pre M M') : Bufs M0 M' f ad os := ⟨fun n hn => (h.buf n hn).pre hp, h.len, h.ne⟩
theorem Bufs.congr {M0 M : Mem} {f : Fr3} {ad : Nat → Addr} {os os' : Nat → List Int} (h : Bufs M0 M f ad os) (he : ∀ n, n < 3 → os n = os' n) : Bufs M0 M f ad os' :=
  ⟨fun n hn => by rw [← he n hn]; exact h.buf n hn, fun n hn => by rw [← he n hn]; exact h.len n hn, h.ne⟩
theorem Bufs.st {M0 M : Mem} {f : Fr3} {ad : Nat → Addr} {os : Nat → List Int} (h : Bufs M0 M f ad os) {n : Nat} (hn : n < 3) (hp : Pre M0 M) {lo i : Nat} (hlo : lo ≤ M0.length) {vs : List Int} (hi : i + vs.length ≤ (os n).length) :
    ∃ M', M.st lo (plus (ad n) i) (vs.map (Value.int .u8)) = some M' ∧ Bufs M0 M' f ad (upd os n (setL (os n) i vs)) ∧ Pre M0 M' ∧ Keep (some (ad n)) M M' := by
  have smap : ∀ (cs : List Int) (i : Nat) (vs : List Int), setL (cs.map (Value.int .u8)) i (vs.map (Value.int .u8)) = (setL cs i vs).map (Value.int .u8) := fun cs i vs => by
    induction vs generalizing cs i with
    | nil => rfl
    | cons v r ih => simp only [List.map_cons, setL, set_map, ih]
  obtain ⟨M', h1, h2, h3, h4, _⟩ := (h.buf n hn).st (lo := lo) (i := i) (vs := vs.map (Value.int .u8)) hp hlo (by simpa using hi)
  rw [smap] at h2
  refine ⟨M', h1, ⟨fun m hm => ?_, fun m hm => ?_, h.ne⟩, h3, h4⟩
  · unfold upd
    by_cases e : m = n
    · subst e; rw [if_pos rfl]; exact h2
    · rw [if_neg e]
      exact (h.buf m hm).keep h4 fun a' ha => by injection ha with ha; subst ha; exact h.ne n m hn hm (Ne.symm e)
  · unfold upd
    by_cases e : m = n
    · subst e; rw [if_pos rfl, setL_len]; exact h.len m hm
    · rw [if_neg e]; exact h.len m hm
theorem upd_upd (os : Nat → List Int) (n : Nat) (u v : List Int) : upd (upd os n u) n v = upd os n v := by
  funext m; unfold upd; split <;> rfl
theorem upd_self (os : Nat → List Int) (n : Nat) (v : List Int) : upd os n v n = v := by unfold upd; rw [if_pos rfl]
theorem upd_same (os : Nat → List Int) (n : Nat) : upd os n (os n) = os := by
  funext m; unfold upd; split
  · rename_i h; rw [h]
  · rfl
theorem layE_row {w h x y rw rh : Nat} {xs bs : List Int} (hn : xs.length = w * h) (hr1 : 1 ≤ rw) (hx : x + rw ≤ w) (hy : y + rh ≤ h) (hb : bs.length = rh * rw) (k : Nat) (hk : k < rh) :
    setL (layE w xs bs x y rw rh (k * rw)) ((y + k) * w + x) ((bs.drop (k * rw)).take rw) = layE w xs bs x y rw rh ((k + 1) * rw) := by
  have key : ∀ d j, rw - j = d → j ≤ rw → setL (layE w xs bs x y rw rh (k * rw + j)) ((y + k) * w + x + j) ((bs.drop (k * rw + j)).take (rw - j)) = layE w xs bs x y rw rh (k * rw + rw) := by
    intro d
    induction d with
    | zero =>
      intro j hd hj
      obtain rfl : j = rw := by omega
      rw [Nat.sub_self, List.take_zero]; rfl
    | succ d ih =>
      intro j hd hj
      have lt : k * rw + j < bs.length := by
        have : (k + 1) * rw ≤ rh * rw := Nat.mul_le_mul_right _ (by omega)
        rw [Nat.succ_mul] at this
        omega
      obtain ⟨d1, d2⟩ := dm (W := rw) (r := k) (s := j) (by omega)
      have hs := layE_set (bs := bs) hn hr1 hx hy (k * rw + j) (by omega)
      rw [d1, d2] at hs
      rw [List.drop_eq_getElem_cons lt, show rw - j = (rw - j - 1) + 1 by omega, List.take_succ_cons]
      have eg : bs[k * rw + j] = bs.getD (k * rw + j) 0 := by rw [List.getD_eq_getElem?_getD, List.getElem?_eq_getElem lt]; rfl
      simp only [setL]
      rw [eg, show (y + k) * w + x + j = (y + k) * w + (x + j) by omega, hs]
      have := ih (j + 1) (by omega) (by omega)
      rw [show rw - j - 1 = rw - (j + 1) by omega, show k * rw + j + 1 = k * rw + (j + 1) by omega, show (y + k) * w + (x + j) + 1 = (y + k) * w + x + (j + 1) by omega]
      exact this
  have := key rw 0 (by omega) (by omega)
  rw [Nat.add_zero, Nat.sub_zero] at this
  rw [Nat.succ_mul]
  exact this
/-! ### What a block becomes -/
def cut8 (f : Fr3) (X Y : Nat) : List Int := cutS f.p0.w.toNat f.p0.xs X Y 8 64
def newS (p : Plv) (o : List Int) (X Y S d pri sec : Nat) (damp : Int) : List Int := layE p.w.toNat o (blockS p.w.toNat p.h.toNat p.xs X Y S damp (tapsS d pri sec) (S * S)) X Y S S (S * S)
def newN (f : Fr3) (damp : Int) (X Y : Nat) (a b c d : Int) (n : Nat) (o : List Int) : List Int :=
  if n = 0 then newS f.p0 o X Y 8 (if a = 0 then 0 else bestD (cut8 f X Y) 8) (primS a (strD (cut8 f X Y))).toNat (secS b).toNat damp
  else newS (f.at n) o (X / 2) (Y / 2) 4 (if c = 0 then 0 else bestD (cut8 f X Y) 8) c.toNat (secS d).toNat (damp - 1)
def foldF (f : Fr3) (qs : List Bool) (ws L : List Int) (damp : Int) : Nat → Nat → List Int
  | 0 => fun n => (f.at n).xs
  | i + 1 =>
    if qs.getD i false = true then foldF f qs ws L damp i
    else fun n => newN f damp (8 * (i % (f.p0.w.toNat / 8))) (8 * (i / (f.p0.w.toNat / 8)))
      (L.getD ((ws.getD (8 * (i / (f.p0.w.toNat / 8)) / 64 * ((f.p0.w.toNat + 63) / 64) + 8 * (i % (f.p0.w.toNat / 8)) / 64) 0).toNat * 4) 0)
      (L.getD ((ws.getD (8 * (i / (f.p0.w.toNat / 8)) / 64 * ((f.p0.w.toNat + 63) / 64) + 8 * (i % (f.p0.w.toNat / 8)) / 64) 0).toNat * 4 + 1) 0)
      (L.getD ((ws.getD (8 * (i / (f.p0.w.toNat / 8)) / 64 * ((f.p0.w.toNat + 63) / 64) + 8 * (i % (f.p0.w.toNat / 8)) / 64) 0).toNat * 4 + 2) 0)
      (L.getD ((ws.getD (8 * (i / (f.p0.w.toNat / 8)) / 64 * ((f.p0.w.toNat + 63) / 64) + 8 * (i % (f.p0.w.toNat / 8)) / 64) 0).toNat * 4 + 3) 0) n (foldF f qs ws L damp i n)
structure FrOk (M : Mem) (f : Fr3) : Prop where
  rd : ∀ n, n < 3 → RdI M .u8 (f.at n).A (f.at n).xs
  by_ : ∀ n, n < 3 → Bytes (f.at n).xs
  cap : ∀ n, n < 3 → (f.at n).xs.length ≤ (f.at n).c
  chk : ∀ n, n < 3 → checkS (f.at n).w (f.at n).h (f.at n).xs.length = 0
theorem lt3 {n : Nat} (h : n < 3) : n = 0 ∨ n = 1 ∨ n = 2 := by omega
theorem fr_w {f : Fr3} {n : Nat} (hn : n < 3) : ((f.cells)[0 + n * 3 + 0]?).bind (Value.int? .i64) = some (f.at n).w := by
  rcases lt3 hn with rfl | rfl | rfl <;> rfl
theorem fr_h {f : Fr3} {n : Nat} (hn : n < 3) : ((f.cells)[0 + n * 3 + 1]?).bind (Value.int? .i64) = some (f.at n).h := by
  rcases lt3 hn with rfl | rfl | rfl <;> rfl
theorem fr_p {f : Fr3} {n : Nat} (hn : n < 3) : ((f.cells)[0 + n * 3 + 2]?).bind Value.slc? = some ⟨(f.at n).A, (f.at n).xs.length, (f.at n).c⟩ := by
  rcases lt3 hn with rfl | rfl | rfl <;> rfl
theorem cs_w {f : Fr3} {ad : Nat → Addr} {cc : Nat → Nat} {n : Nat} (hn : n < 3) : ((csL f ad cc)[0 + n * 3 + 0 + 0]?).bind (Value.int? .i64) = some (f.at n).w := by
  rcases lt3 hn with rfl | rfl | rfl <;> rfl
theorem cs_p {f : Fr3} {ad : Nat → Addr} {cc : Nat → Nat} {n : Nat} (hn : n < 3) : ((csL f ad cc)[0 + n * 3 + 2 + 0]?).bind Value.slc? = some ⟨some (ad n), (f.at n).xs.length, cc n⟩ := by
  rcases lt3 hn with rfl | rfl | rfl <;> rfl
abbrev kN (V : Option Addr) (vn vc : Nat) (ac X Y dir str : Int) (Q : Option Addr) (qn qc : Nat) (len i n : Int) (f : Fr3) (hd : Hd) (cs : List Value) (a b c d : Int) (M : Mem) : Out := cdef_Frame.c33371132 V vn vc ac X Y dir str Q qn qc len i n f.p0.w f.p0.h f.p0.A f.p0.xs.length f.p0.c f.p1.w f.p1.h f.p1.A f.p1.xs.length f.p1.c f.p2.w f.p2.h f.p2.A f.p2.xs.length f.p2.c hd.h0 hd.h1 hd.h2 hd.h3 hd.h4 hd.h5 hd.h6 hd.h7 hd.h8 hd.h9 hd.h10 hd.h11 hd.h12 hd.h13 hd.h14 hd.h15 hd.h16 hd.h17 hd.h18 hd.h19 hd.h20 hd.h21 hd.h22 hd.cdef hd.damp hd.h25 hd.A hd.n hd.c hd.h27 hd.h28 hd.h29 0 0 none 0 0 0 0 none 0 0 0 0 none 0 0 cs a b c d M
abbrev kD (V : Option Addr) (vn vc : Nat) (ac X Y dir str n pri named sec damp : Int) (Q : Option Addr) (qn qc : Nat) (len i : Int) (f : Fr3) (hd : Hd) (cs : List Value) (a b c d rx ry rw rh : Int) (M : Mem) : Out := cdef_Frame.c4271504999 V vn vc ac X Y dir str n pri named sec damp Q qn qc len i n f.p0.w f.p0.h f.p0.A f.p0.xs.length f.p0.c f.p1.w f.p1.h f.p1.A f.p1.xs.length f.p1.c f.p2.w f.p2.h f.p2.A f.p2.xs.length f.p2.c hd.h0 hd.h1 hd.h2 hd.h3 hd.h4 hd.h5 hd.h6 hd.h7 hd.h8 hd.h9 hd.h10 hd.h11 hd.h12 hd.h13 hd.h14 hd.h15 hd.h16 hd.h17 hd.h18 hd.h19 hd.h20 hd.h21 hd.h22 hd.cdef hd.damp hd.h25 hd.A hd.n hd.c hd.h27 hd.h28 hd.h29 0 0 none 0 0 0 0 none 0 0 0 0 none 0 0 cs a b c d rx ry rw rh M
abbrev kR (V : Option Addr) (vn vc : Nat) (ac X Y dir str n : Int) (B : Option Addr) (bn bc : Nat) (Q : Option Addr) (qn qc : Nat) (len i k : Int) (f : Fr3) (hd : Hd) (cs : List Value) (a b c d rx ry rw rh : Int) (M : Mem) : Out := cdef_Frame.c546752639996 V vn vc ac X Y dir str n B bn bc Q qn qc len i n rh k f.p0.w f.p0.h f.p0.A f.p0.xs.length f.p0.c f.p1.w f.p1.h f.p1.A f.p1.xs.length f.p1.c f.p2.w f.p2.h f.p2.A f.p2.xs.length f.p2.c hd.h0 hd.h1 hd.h2 hd.h3 hd.h4 hd.h5 hd.h6 hd.h7 hd.h8 hd.h9 hd.h10 hd.h11 hd.h12 hd.h13 hd.h14 hd.h15 hd.h16 hd.h17 hd.h18 hd.h19 hd.h20 hd.h21 hd.h22 hd.cdef hd.damp hd.h25 hd.A hd.n hd.c hd.h27 hd.h28 hd.h29 0 0 none 0 0 0 0 none 0 0 0 0 none 0 0 cs a b c d rx ry rw rh M
abbrev kI (V : Option Addr) (vn vc : Nat) (ac : Int) (Q : Option Addr) (qn qc : Nat) (len i : Int) (f : Fr3) (hd : Hd) (cs : List Value) (M : Mem) : Out := cdef_Frame.c2036 V vn vc ac Q qn qc len i f.p0.w f.p0.h f.p0.A f.p0.xs.length f.p0.c f.p1.w f.p1.h f.p1.A f.p1.xs.length f.p1.c f.p2.w f.p2.h f.p2.A f.p2.xs.length f.p2.c hd.h0 hd.h1 hd.h2 hd.h3 hd.h4 hd.h5 hd.h6 hd.h7 hd.h8 hd.h9 hd.h10 hd.h11 hd.h12 hd.h13 hd.h14 hd.h15 hd.h16 hd.h17 hd.h18 hd.h19 hd.h20 hd.h21 hd.h22 hd.cdef hd.damp hd.h25 hd.A hd.n hd.c hd.h27 hd.h28 hd.h29 0 0 none 0 0 0 0 none 0 0 0 0 none 0 0 cs M
section
variable (lo : Nat) (f : Fr3) (V Q : Option Addr) (vn vc qn qc : Nat) (hd : Hd) (ac X Y str len i : Int) (dir : Nat) (a b c d : Int) (M0 : Mem) (ad : Nat → Addr) (cc : Nat → Nat) (R : Value × Mem → Prop)
variable (hlo : lo ≤ M0.length) (hf : FrOk M0 f) (hcc : ∀ n, n < 3 → (f.at n).xs.length ≤ cc n)
include hlo hf hcc
theorem plane_rows (n : Nat) (hn : n < 3) (S RX RY : Nat) (hS : S = 8 ∨ S = 4) (hx : RX + S ≤ (f.at n).w.toNat) (hy : RY + S ≤ (f.at n).h.toNat) (B : Option Addr) (cb : Nat) (bs : List Int) (hb : bs.length = S * S) (hcb : S * S ≤ cb) (os : Nat → List Int)
    (next : ∀ M', Pre M0 M' → Bufs M0 M' f ad (upd os n (layE (f.at n).w.toNat (os n) bs RX RY S S (S * S))) → Run P T lo F.cdef_Frame (kN V vn vc ac X Y dir str Q qn qc len i ((n + 1 : Nat) : Int) f hd (csL f ad cc) a b c d M') R) :
    ∀ (e k : Nat) (M : Mem), S - k = e → k ≤ S → Pre M0 M → Bufs M0 M f ad (upd os n (layE (f.at n).w.toNat (os n) bs RX RY S S (k * S))) → (∀ n', n' < 3 → ∀ x, B = some x → (ad n').block ≠ x.block) → RdI M .u8 B bs →
      Run P T lo F.cdef_Frame (kR V vn vc ac X Y dir str n B (S * S) cb Q qn qc len i k f hd (csL f ad cc) a b c d RX RY S S M) R := by
  have ck := checkS_len' (hf.chk n hn)
  obtain ⟨W, hW⟩ := Int.eq_ofNat_of_zero_le (a := (f.at n).w) (by omega)
  obtain ⟨H, hH⟩ := Int.eq_ofNat_of_zero_le (a := (f.at n).h) (by omega)
  have eW : (f.at n).w.toNat = W := by omega
  have eH : (f.at n).h.toNat = H := by omega
  have hl : (f.at n).xs.length = W * H := by have := ck.2.2.2.2; rw [hW, hH, ← Int.natCast_mul] at this; omega
  have hm : W * H ≤ 512 * 512 := Nat.mul_le_mul (by omega) (by omega)
  simp only [eW] at hx next ⊢
  simp only [eH] at hy
  intro e
  induction e with
  | zero =>
    intro k M he hk hp hB hne hr
    obtain rfl : k = S := by omega
    refine Run.cut (Evp.of_eq (fun k => cdef_Frame.p546752639996 k ..) ?_)
    refine Evp.dec (fun g => absurd g (by omega)) fun _ => ?_
    rw [w64 (by omega)]
    exact Evp.ret (next M hp hB)
  | succ e ih =>
    intro k M he hk hp hB hne hr
    have hkS : k < S := by omega
    have oin : (RY + k) * W + RX + S ≤ W * H := by
      have : (RY + k + 1) * W ≤ H * W := Nat.mul_le_mul_right _ (by omega)
      rw [Nat.succ_mul, Nat.mul_comm H W] at this
      omega
    have kS : k * S + S ≤ S * S := by
      have : (k + 1) * S ≤ S * S := Nat.mul_le_mul_right _ (by omega)
      rwa [Nat.succ_mul] at this
    have sm : S * S ≤ 64 := by rcases hS with rfl | rfl <;> omega
    have hol : (upd os n (layE W (os n) bs RX RY S S (k * S)) n).length = W * H := by rw [hB.len n hn, hl]
    rw [upd_self] at hol
    have hol' : (os n).length = W * H := by rw [layE_len] at hol; exact hol
    refine Run.cut (Evp.of_eq (fun k => cdef_Frame.p546752639996 k ..) ?_)
    refine Evp.dec (fun _ => ?_) fun g => absurd g (by omega)
    refine Evp.pos (by omega) ?_
    simp only [Int.toNat_natCast]
    refine Evp.some (cs_p hn) (Evp.pos (by omega) (Evp.some (cs_w hn) ?_))
    have e0 : IntKind.i64.wrap ((IntKind.i64.wrap ((IntKind.i64.wrap ((RY : Int) + k)) * (f.at n).w)) + (RX : Int)) = (((RY + k) * W + RX : Nat) : Int) := by
      have e1 : ((RY : Int) + k) * (W : Int) = (((RY + k) * W : Nat) : Int) := by simp
      rw [hW, w64 (x := (RY : Int) + k) (by omega), e1]
      generalize (RY + k) * W = g at *
      rw [w64 (x := (g : Int)) (by omega), w64 (by omega)]; omega
    have e2 : IntKind.i64.wrap ((k : Int) * S) = ((k * S : Nat) : Int) := by rw [← Int.natCast_mul, w64 (by omega)]
    have e3 : IntKind.i64.wrap ((IntKind.i64.wrap ((k : Int) + 1)) * S) = ((k * S + S : Nat) : Int) := by
      rw [w64 (x := (k : Int) + 1) (by omega), show (k : Int) + 1 = ((k + 1 : Nat) : Int) by omega, ← Int.natCast_mul, Nat.succ_mul, w64 (by omega)]
    have hcn := hcc n hn
    dsimp only
    rw [e0, e2, e3]
    refine Evp.pos (by omega) (Evp.pos (by omega) ?_)
    simp only [Int.toNat_natCast]
    have emin : Nat.min (k * S + S - k * S) ((f.at n).xs.length - ((RY + k) * W + RX)) = S := by rw [show k * S + S - k * S = S by omega]; exact Nat.min_eq_left (by omega)
    simp only [emin]
    have hsrc := (hr.slAddr (l := k * S) (h := k * S + S) (c := cb) (by omega) (by omega) (by omega)).src
    rw [List.length_take, List.length_drop, show min (k * S + S - k * S) (bs.length - k * S) = S by omega, show k * S + S - k * S = S by omega] at hsrc
    refine Evp.some hsrc (Evp.neg (by omega) ?_)
    have esl : slAddr 1 (some (ad n)) ((RY + k) * W + RX) (cc n) = some (plus (ad n) ((RY + k) * W + RX)) := by
      unfold slAddr
      rw [if_neg (by omega)]; rfl
    refine Evp.some esl ?_
    have hrow := layE_row (bs := bs) hol' (by omega) hx hy hb k hkS
    obtain ⟨M', h1, h2, h3, h4⟩ := hB.st (n := n) hn hp (lo := lo) (i := (RY + k) * W + RX) hlo (vs := (bs.drop (k * S)).take S) (by rw [upd_self, hol, List.length_take, List.length_drop]; omega)
    rw [upd_self, upd_upd, hrow] at h2
    refine Evp.some h1 ?_
    rw [w64 (x := (k : Int) + 1) (by omega)]
    exact Evp.ret (ih (k + 1) M' (by omega) (by omega) h3 h2 hne (Rd.keep hr h4 fun x x' hx hx' => by injection hx' with hx'; subst hx'; exact hne n hn x hx))
theorem prog_block (n : Nat) (hn : n < 3) (S RX RY : Nat) (hS : S = 8 ∨ S = 4) (hx : RX + S ≤ (f.at n).w.toNat) (hy : RY + S ≤ (f.at n).h.toNat) (pri named sec damp : Int) (hdir : dir < 8) (hpri : 0 ≤ pri ∧ pri ≤ 15) (hsec : 0 ≤ sec ∧ sec ≤ 3) (hdamp : 0 ≤ damp ∧ damp ≤ 6) (os : Nat → List Int) (M : Mem) (hp : Pre M0 M) (hB : Bufs M0 M f ad os)
    (next : ∀ M', Pre M0 M' → Bufs M0 M' f ad (upd os n (newS (f.at n) (os n) RX RY S (if named = 0 then 0 else dir) pri.toNat (secS sec).toNat damp)) → Run P T lo F.cdef_Frame (kN V vn vc ac X Y dir str Q qn qc len i ((n + 1 : Nat) : Int) f hd (csL f ad cc) a b c d M') R) :
    Run P T lo F.cdef_Frame (kD V vn vc ac X Y dir str n pri named sec damp Q qn qc len i f hd (csL f ad cc) a b c d RX RY S S M) R := by
  have ck := checkS_len' (hf.chk n hn)
  have hsec4 : 0 ≤ secS sec ∧ secS sec ≤ 4 := by unfold secS; split <;> omega
  have key : ∀ d' : Nat, d' < 8 → (∀ M', Pre M0 M' → Bufs M0 M' f ad (upd os n (newS (f.at n) (os n) RX RY S d' pri.toNat (secS sec).toNat damp)) → Run P T lo F.cdef_Frame (kN V vn vc ac X Y dir str Q qn qc len i ((n + 1 : Nat) : Int) f hd (csL f ad cc) a b c d M') R) →
      Run P T lo F.cdef_Frame (cdef_Frame.c17086019999 V vn vc ac X Y dir str n pri sec damp d' Q qn qc len i n f.p0.w f.p0.h f.p0.A f.p0.xs.length f.p0.c f.p1.w f.p1.h f.p1.A f.p1.xs.length f.p1.c f.p2.w f.p2.h f.p2.A f.p2.xs.length f.p2.c hd.h0 hd.h1 hd.h2 hd.h3 hd.h4 hd.h5 hd.h6 hd.h7 hd.h8 hd.h9 hd.h10 hd.h11 hd.h12 hd.h13 hd.h14 hd.h15 hd.h16 hd.h17 hd.h18 hd.h19 hd.h20 hd.h21 hd.h22 hd.cdef hd.damp hd.h25 hd.A hd.n hd.c hd.h27 hd.h28 hd.h29 0 0 none 0 0 0 0 none 0 0 0 0 none 0 0 (csL f ad cc) a b c d RX RY S S M) R := fun d' hd' nx => by
    have ok : BlockOk (f.at n).w (f.at n).h (f.at n).xs.length RX RY S S d' pri (secS sec) damp := ⟨hf.chk n hn, by rcases hS with rfl | rfl <;> omega, by rcases hS with rfl | rfl <;> omega, by omega, by omega, by omega, hpri, hsec4, hdamp⟩
    refine Run.cut (Evp.of_eq (fun k => cdef_Frame.p17086019999 k ..) ?_)
    refine Evp.pos (by omega) ?_
    simp only [Int.toNat_natCast]
    refine Evp.some (fr_w hn) (Evp.some (fr_h hn) (Evp.some (fr_p hn) ?_))
    refine Evp.ob (second_ok M.length sec M) ?_
    rintro _ rfl
    simp only [ret_int, ret_bool, ret_flt, ret_slc, ret_str, ret_ptr, ret_agg, ret_tup, ob_some, bb_true, bb_false, List.getElem?_cons_zero, List.getElem?_cons_succ, List.length_cons, List.length_nil, Nat.reduceAdd, Nat.reduceLT]
    refine Evp.ob (block_ok M.length (f.at n).A (f.at n).c (f.at n).xs (f.at n).w (f.at n).h RX RY S S d' pri (secS sec) damp M (Nat.le_refl _) ((hf.rd n hn).pre hp) (hf.by_ n hn)) ?_
    rintro ⟨v, M2⟩ ⟨p2, hb⟩
    rw [if_pos ok] at hb
    obtain ⟨B, cb, e, hcb, gB⟩ := hb
    simp only [Int.toNat_natCast] at e gB p2 hcb
    subst e
    simp only [ret_int, ret_bool, ret_flt, ret_slc, ret_str, ret_ptr, ret_agg, ret_tup, ob_some, bb_true, bb_false, List.getElem?_cons_zero, List.getElem?_cons_succ, List.length_cons, List.length_nil, Nat.reduceAdd, Nat.reduceLT]
    refine Evp.neb (fun g => absurd rfl g) fun _ => Evp.ret ?_
    unfold newS at nx
    obtain ⟨bs, hbs⟩ : ∃ bs, bs = blockS (f.at n).w.toNat (f.at n).h.toNat (f.at n).xs RX RY S damp (tapsS d' pri.toNat (secS sec).toNat) (S * S) := ⟨_, rfl⟩
    have hbl : bs.length = S * S := by rw [hbs, blockS_len]
    rw [← hbs] at nx gB
    have rB : RdI M2 .u8 B bs := by
      have := gB.rd
      rw [← hbl] at this
      exact this
    have hBn : ∀ n', n' < 3 → ∀ x, B = some x → (ad n').block ≠ x.block := fun n' hn' x hx => by
      have i1 := (hB.buf n' hn').in_
      rcases gB.at_ with ⟨e, _⟩ | ⟨q, e, q2, _⟩
      · rw [e] at hx; cases hx
      · rw [e] at hx; injection hx with hx; subst hx
        show (ad n').block ≠ q
        omega
    refine plane_rows lo f V Q vn vc qn qc hd ac X Y str len i dir a b c d M0 ad cc R hlo hf hcc n hn S RX RY hS hx hy B cb bs hbl hcb os nx S 0 M2 rfl (by omega) (hp.trans p2) ?_ hBn rB
    rw [Nat.zero_mul, layE_zero, upd_same]
    exact hB.pre p2
  refine Run.cut (Evp.of_eq (fun k => cdef_Frame.p4271504999 k ..) ?_)
  refine Evp.eqb (fun g => Evp.ret (key 0 (by omega) fun M' q1 q2 => next M' q1 (by rw [if_pos g]; exact q2))) fun g => Evp.ret (key dir hdir fun M' q1 q2 => next M' q1 (by rw [if_neg g]; exact q2))
end
end Go.Zt
