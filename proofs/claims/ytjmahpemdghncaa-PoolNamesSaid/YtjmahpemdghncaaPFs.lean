/- What the law PoolNames needs of the text Fs. -/
import Derived.Test.YtjmahpemdghncaaPFr
import Derived.Test.YtjmahpemdghncaaPArg
set_option linter.unusedVariables false
set_option linter.unusedSimpArgs false
set_option maxRecDepth 100000
namespace Go.Zt
section
variable (lo : Nat)
theorem mplane (M0 : Mem) (hlo : lo ≤ M0.length) (i : Nat) (W H : Int) (hW : 0 ≤ W ∧ W ≤ 255) (hH : 0 ≤ H ∧ H ≤ 255) (hi : i < 3) (x5 x6 x7 x8 x9 x10 x11 x12 : Int) (cs : List Value) (hcs : cs.length = 9) {Q : Value × Mem → Prop}
    (hnext : ∀ (M' : Mem) (A : Option Addr) (c : Nat) (xs : List Int), Pre M0 M' → xs.length = (W * H).toNat → Grow M0 M' 1 A xs.length (xs.map (Value.int .u8)) → xs.length ≤ c →
      Run P T lo F.zoetropelaw26_Do_frame (zoetropelaw26_Do_frame.c116 (IntKind.i64.wrap ((i : Int) + 1)) x5 x6 x7 x8 x9 x10 x11 x12 0 0 none 0 0 0 0 none 0 0 0 0 none 0 0 (setL cs (0 + i * 3) [.int .i64 W, .int .i64 H, .slice A xs.length c]) M') Q) :
    ∀ (d k : Nat) (M : Mem) (A : Option Addr) (c : Nat) (xs : List Int), (W * H).toNat - k = d → k ≤ (W * H).toNat → Pre M0 M → xs.length = k → Grow M0 M 1 A k (xs.map (Value.int .u8)) → k ≤ c →
      Run P T lo F.zoetropelaw26_Do_frame (zoetropelaw26_Do_frame.c119412 (i : Int) W H (k : Int) x5 x6 x7 x8 x9 x10 x11 x12 0 0 none 0 0 0 0 none 0 0 0 0 none 0 0 cs W H A k c M) Q := by
  have hp1 : 0 ≤ W * H := Int.mul_nonneg hW.1 hH.1
  have hp2 : W * H ≤ 255 * 255 := Int.le_trans (Int.mul_le_mul_of_nonneg_right hW.2 hH.1) (Int.mul_le_mul_of_nonneg_left hH.2 (by decide))
  intro d
  induction d with
  | zero =>
    intro k M A c xs hd hk hp hx hg hc
    refine Run.cut (Evp.of_eq (fun k => zoetropelaw26_Do_frame.p119412 k ..) ?_)
    rw [w64 (x := W * H) (by omega)]
    refine Evp.dec (fun h => absurd h (by omega)) fun _ => ?_
    refine Evp.pos (by omega) ?_
    simp only [Int.toNat_natCast]
    refine Evp.pos (by omega) (Evp.ret ?_)
    subst hx
    exact hnext M A c xs hp (by omega) hg hc
  | succ d ih =>
    intro k M A c xs hd hk hp hx hg hc
    refine Run.cut (Evp.of_eq (fun k => zoetropelaw26_Do_frame.p119412 k ..) ?_)
    rw [w64 (x := W * H) (by omega)]
    refine Evp.dec (fun _ => ?_) fun h => absurd h (by omega)
    obtain ⟨s, M', g1, g2, g3, g4, _, g5⟩ := hg.app (lo := lo) (bytes := 1) (c := c) (m := 1) (vs := [.int .u8 (IntKind.u8.wrap (IntKind.i64.wrap (x8 + (IntKind.i64.wrap ((k : Int) * x9)))))]) hp hlo rfl (by omega) (by omega)
    refine Evp.some g1 ?_
    have g5 := g5 hc
    obtain ⟨sa, sn, sc⟩ := s
    simp only at g2 g3 g5
    subst g3
    rw [w64 (x := (k : Int) + 1) (by omega)]
    exact Evp.ret (ih (k + 1) M' sa sc (xs ++ [IntKind.u8.wrap (IntKind.i64.wrap (x8 + (IntKind.i64.wrap ((k : Int) * x9))))]) (by omega) (by omega) g4 (by simp [hx]) (by rw [List.map_append]; exact g2) g5)
def FrR (M : Mem) (r : Value × Mem) : Prop := ∃ f A0 A1 A2 c0 c1 c2 M', r = (.agg ⟨frc f A0 A1 A2 c0 c1 c2⟩, M') ∧ Pre M M' ∧ FrIs (fun b => M.length ≤ b) M' A0 A1 A2 f ∧ SmallF f ∧ (f.x0.length ≠ 0 → ∃ a, A0 = some a ∧ Buf M M' a (f.x0.map (Value.int .u8)))
theorem mframe_ok (M : Mem) (hlo : lo ≤ M.length) (x1 x2 x3 x4 x5 x6 x7 x8 : Int) : Ac P T lo F.zoetropelaw26_Do_frame [.agg ⟨[.int .i64 x1, .int .i64 x2, .int .i64 x3, .int .i64 x4, .int .i64 x5, .int .i64 x6, .int .i64 x7, .int .i64 x8]⟩] M (FrR M) := by
  have ha := and_mask (x := x2) 8 (by omega)
  have hb := and_mask (x := x3) 8 (by omega)
  rw [show ((2 : Int) ^ 8 - 1) = 255 from rfl, show ((2 : Int) ^ 8) = 256 from rfl] at ha hb
  have small : ∀ W H : Int, 0 ≤ W ∧ W ≤ 255 → 0 ≤ H ∧ H ≤ 255 → (W * H).toNat ≤ 65025 := fun W H hW hH => by
    have hp2 : W * H ≤ 255 * 255 := Int.le_trans (Int.mul_le_mul_of_nonneg_right hW.2 hH.1) (Int.mul_le_mul_of_nonneg_left hH.2 (by decide))
    omega
  obtain ⟨W, eW⟩ : ∃ W, W = x2 % 256 := ⟨_, rfl⟩
  obtain ⟨H, eH⟩ : ∃ H, H = x3 % 256 := ⟨_, rfl⟩
  rw [← eW] at ha
  rw [← eH] at hb
  have dW : IntKind.i64.wrap (Int.tdiv W 2) = W / 2 := by rw [Int.tdiv_eq_ediv_of_nonneg (by omega)]; exact w64 (by omega)
  have dH : IntKind.i64.wrap (Int.tdiv H 2) = H / 2 := by rw [Int.tdiv_eq_ediv_of_nonneg (by omega)]; exact w64 (by omega)
  refine Ac.of (Evp.of_eq (fun k => zoetropelaw26_Do_frame.entry k ..) ?_)
  refine Evp.ret ?_
  refine Run.cut (Evp.of_eq (fun k => zoetropelaw26_Do_frame.p116 k ..) ?_)
  rw [ha, hb]
  refine Evp.tt rfl (Evp.ff rfl (Evp.ret ?_))
  refine Run.cut (Evp.of_eq (fun k => zoetropelaw26_Do_frame.p3731 k ..) ?_)
  refine Evp.ret (mplane lo M hlo 0 W H (by omega) (by omega) (by omega) x1 x2 x3 x4 x5 x6 x7 x8 _ rfl (fun M1 A0 c0 xs0 p1 n0 g0 k0 => ?_) _ 0 M none 0 [] rfl (by omega) (Pre.refl M) rfl Grow.nil (Nat.le_refl _))
  have l1 := p1.len
  rw [show IntKind.i64.wrap (((0 : Nat) : Int) + 1) = 1 from by decide]
  refine Run.cut (Evp.of_eq (fun k => zoetropelaw26_Do_frame.p116 k ..) ?_)
  rw [ha, hb, dW, dH]
  refine Evp.tt rfl (Evp.tt rfl (Evp.ret ?_))
  refine Run.cut (Evp.of_eq (fun k => zoetropelaw26_Do_frame.p3731 k ..) ?_)
  refine Evp.ret (mplane lo M1 (by omega) 1 (W / 2) (H / 2) (by omega) (by omega) (by omega) x1 x2 x3 x4 x5 x6 x7 x8 _ rfl (fun M2 A1 c1 xs1 p2 n1 g1 k1 => ?_) _ 0 M1 none 0 [] rfl (by omega) (Pre.refl M1) rfl Grow.nil (Nat.le_refl _))
  have l2 := p2.len
  rw [show IntKind.i64.wrap (((1 : Nat) : Int) + 1) = 2 from by decide]
  refine Run.cut (Evp.of_eq (fun k => zoetropelaw26_Do_frame.p116 k ..) ?_)
  rw [ha, hb, dW, dH]
  refine Evp.tt rfl (Evp.tt rfl (Evp.ret ?_))
  refine Run.cut (Evp.of_eq (fun k => zoetropelaw26_Do_frame.p3731 k ..) ?_)
  refine Evp.ret (mplane lo M2 (by omega) 2 (W / 2) (H / 2) (by omega) (by omega) (by omega) x1 x2 x3 x4 x5 x6 x7 x8 _ rfl (fun M3 A2 c2 xs2 p3 n2 g2 k2 => ?_) _ 0 M2 none 0 [] rfl (by omega) (Pre.refl M2) rfl Grow.nil (Nat.le_refl _))
  have s0 := small W H (by omega) (by omega)
  have s1 := small (W / 2) (H / 2) (by omega) (by omega)
  have hg0 := g0.pre (p2.trans p3)
  have hg1 := g1.pre p3
  have hfr : ∀ (A : Option Addr) (xs : List Int), OnS (fun b => M.length ≤ b) A → RdI M3 .u8 A xs → FrIs (fun b => M.length ≤ b) M3 A0 A1 A ⟨W, H, xs0, W / 2, H / 2, xs1, W / 2, H / 2, xs⟩ := fun A xs o r => ⟨g0.onS, g1.onS.mono fun b h => by omega, o, hg0.rdI, hg1.rdI, r⟩
  have hbuf : xs0.length ≠ 0 → ∃ a, A0 = some a ∧ Buf M M3 a (xs0.map (Value.int .u8)) := fun h => hg0.buf h
  rw [show IntKind.i64.wrap (((2 : Nat) : Int) + 1) = 3 from by decide]
  have fin : ∀ (A : Option Addr) (c : Nat) (xs : List Int), OnS (fun b => M.length ≤ b) A → RdI M3 .u8 A xs → xs.length ≤ 65025 → Run P T lo F.zoetropelaw26_Do_frame (zoetropelaw26_Do_frame.c31 0 0 none 0 0 0 0 none 0 0 0 0 none 0 0 [.int .i64 W, .int .i64 H, .slice A0 xs0.length c0, .int .i64 (W / 2), .int .i64 (H / 2), .slice A1 xs1.length c1, .int .i64 (W / 2), .int .i64 (H / 2), .slice A xs.length c] M3) (FrR M) := fun A c xs o r hx => by
    refine Run.cut (Evp.of_eq (fun k => zoetropelaw26_Do_frame.p31 k ..) ?_)
    refine Evp.some rfl (Evp.some rfl (Evp.some rfl (Evp.some rfl (Evp.some rfl (Evp.some rfl (Evp.some rfl (Evp.some rfl (Evp.some rfl ?_))))))))
    exact Evp.ret (Run.ret ⟨⟨W, H, xs0, W / 2, H / 2, xs1, W / 2, H / 2, xs⟩, A0, A1, A, c0, c1, c, M3, rfl, (p1.trans p2).trans p3, hfr A xs o r, ⟨by show xs0.length ≤ _; omega, by show xs1.length ≤ _; omega, by show xs.length ≤ _; omega⟩, hbuf⟩)
  have o2 : OnS (fun b => M.length ≤ b) A2 := g2.onS.mono fun b h => by omega
  refine Run.cut (Evp.of_eq (fun k => zoetropelaw26_Do_frame.p116 k ..) ?_)
  refine Evp.ff rfl (Evp.eqb (fun _ => ?_) fun _ => Evp.ret (fin A2 c2 xs2 o2 g2.rdI (by omega)))
  refine Evp.some (b := ⟨A2, xs2.length, c2⟩) rfl (Evp.dec (fun h => ?_) fun _ => Evp.ret (fin A2 c2 xs2 o2 g2.rdI (by omega)))
  dsimp only at h
  refine Evp.some (b := ⟨A2, xs2.length, c2⟩) rfl (Evp.pos (by dsimp only; omega) (Evp.pos (Nat.le_of_ble_eq_true rfl) (Evp.ret ?_)))
  dsimp only
  have r2 := RdI.slAddr (l := 1) (h := xs2.length) g2.rdI (by omega) (Nat.le_refl _) k2
  rw [List.take_of_length_le (by rw [List.length_drop]; omega)] at r2
  have ol : OnS (fun b => M.length ≤ b) (slAddr 1 A2 1 c2) := fun a e => by
    unfold slAddr at e
    split at e
    · exact o2 a e
    · cases hA : A2 with
      | none => rw [hA] at e; cases e
      | some a2 =>
        rw [hA] at e
        injection e with e
        have := o2 a2 hA
        rw [← e]
        show M.length ≤ (plus a2 (mulN 1 1)).block
        rw [plus_eq]; exact this
  have := fin (slAddr 1 A2 1 c2) (c2 - 1) (xs2.drop 1) ol r2 (by rw [List.length_drop]; omega)
  rw [List.length_drop] at this
  exact this
end
theorem OnS.lt {S : Nat → Prop} {M : Mem} {k : IntKind} {A : Option Addr} {xs : List Int} (h : OnS S A) (hr : RdI M k A xs) (h0 : xs.length ≠ 0) : OnS (fun b => S b ∧ b < M.length) A := fun a ha => by
  obtain ⟨a', e, hl, _⟩ := hr.ld (i := 0) (by omega)
  rw [ha] at e; injection e with e
  exact ⟨h a ha, by rw [e]; exact hl⟩
theorem SlotIs.lt {S : Nat → Prop} {M : Mem} {r : RawS} : ∀ {o : Option SlotV}, SlotIs S M r o → SlotIs (fun x => S x ∧ x < M.length) M r o
  | none, h => h
  | some (f, rows), h => by
    have h : SlotS S M r f rows := h
    obtain ⟨z0, z1, z2⟩ := h.fw.len
    have hne := h.sp.ne
    exact (show SlotS _ M r f rows from { h with
      fr := ⟨h.fr.o0.lt h.fr.r0 z0.1, h.fr.o1.lt h.fr.r1 z1.1, h.fr.o2.lt h.fr.r2 z2.1, h.fr.r0, h.fr.r1, h.fr.r2⟩
      set := h.set.lt (by omega) fun row hr => ⟨(hne.2 row hr).1, fun t ht => ((hne.2 row hr).2.2 t ht).1⟩ })
theorem PoolIs.lt {S : Nat → Prop} {M : Mem} {b : Nat} {sl : Nat → Option SlotV} (h : PoolIs S M b sl) : PoolIs (fun x => S x ∧ x < M.length) M b sl := by
  obtain ⟨R, h1, h2⟩ := h
  exact ⟨R, h1, fun n hn => (h2 n hn).lt⟩
theorem RefIs.lt {S : Nat → Prop} {M : Mem} {b : Nat} {sl : Nat → Option SlotV} (h : RefIs S M b sl) : RefIs (fun x => S x ∧ x < M.length) M b sl := by
  obtain ⟨R, h1, h2⟩ := h
  exact ⟨R, h1, fun n hn => (h2 n hn).lt⟩
def QIs (S : Nat → Prop) (M : Mem) (b : Nat) (p7 p8 : Option Addr) (sl : Nat → Option SlotV) : Prop := (p7 = none ∧ p8 = none) ∨ ∃ bq bn, p7 = some ⟨bq, 0, none⟩ ∧ p8 = some ⟨bn, 0, none⟩ ∧ b < bq ∧ b < bn ∧ PoolIs S M bq sl ∧ RefIs S M bn sl
theorem QIs.keep {S D : Nat → Prop} {M M' : Mem} {b : Nat} {p7 p8 : Option Addr} {sl : Nat → Option SlotV} (h : QIs S M b p7 p8 sl) (hk : KeepS D M M') (hD : ∀ x, b < x → x < M.length → D x) (hS : ∀ x, S x → b < x ∧ x < M.length) : QIs S M' b p7 p8 sl := by
  rcases h with h | ⟨bq, bn, h1, h2, h3, h4, h5, h6⟩
  · exact .inl h
  · have kS : KeepS S M M' := hk.mono fun x hx => hD x (hS x hx).1 (hS x hx).2
    exact .inr ⟨bq, bn, h1, h2, h3, h4, h5.keep (fun k hk' => hk _ _ (hD _ h3 h5.in_) hk') kS, h6.keep (fun k hk' => hk _ _ (hD _ h4 h6.in_) hk') kS⟩
theorem QIs.mono {S S' : Nat → Prop} {M : Mem} {b : Nat} {p7 p8 : Option Addr} {sl : Nat → Option SlotV} (h : QIs S M b p7 p8 sl) (hs : ∀ x, S x → S' x) : QIs S' M b p7 p8 sl := by
  rcases h with h | ⟨bq, bn, h1, h2, h3, h4, h5, h6⟩
  · exact .inl h
  · exact .inr ⟨bq, bn, h1, h2, h3, h4, h5.mono hs, h6.mono hs⟩
theorem QIs.lt {S : Nat → Prop} {M : Mem} {b : Nat} {p7 p8 : Option Addr} {sl : Nat → Option SlotV} (h : QIs S M b p7 p8 sl) : QIs (fun x => S x ∧ x < M.length) M b p7 p8 sl := by
  rcases h with h | ⟨bq, bn, h1, h2, h3, h4, h5, h6⟩
  · exact .inl h
  · exact .inr ⟨bq, bn, h1, h2, h3, h4, h5.lt, h6.lt⟩
def DosAt (M : Mem) (A : Option Addr) (n : Nat) : Prop := ∀ i, i < n → ∃ a x0 x1 x2 x3 x4 x5 x6 x7, A = some a ∧ ∀ j, j < 8 → M.ld (plus a (i * 8 + j)) = ([.int .i64 x0, .int .i64 x1, .int .i64 x2, .int .i64 x3, .int .i64 x4, .int .i64 x5, .int .i64 x6, .int .i64 x7] : List Value)[j]?
theorem dos_keep {M M' : Mem} {A : Option Addr} {n : Nat} (h : DosAt M A n) (hk : ∀ a, A = some a → ∀ k, M[a.block]? = some k → M'[a.block]? = some k) : DosAt M' A n := fun i hi => by
  obtain ⟨a, x0, x1, x2, x3, x4, x5, x6, x7, hA, h⟩ := h i hi
  refine ⟨a, x0, x1, x2, x3, x4, x5, x6, x7, hA, fun j hj => ?_⟩
  have h1 := h j hj
  have : ∃ v, ([.int .i64 x0, .int .i64 x1, .int .i64 x2, .int .i64 x3, .int .i64 x4, .int .i64 x5, .int .i64 x6, .int .i64 x7] : List Value)[j]? = some v := ⟨_, List.getElem?_eq_getElem (by simpa using hj)⟩
  obtain ⟨v, hv⟩ := this
  rw [hv] at h1 ⊢
  exact ld_keep h1 fun k hk' => by rw [plus_block] at hk' ⊢; exact hk a hA k hk'
section
variable {α : Type} {Q : α → Prop} {M : Mem} {a : Addr} {i : Nat} {x0 x1 x2 x3 x4 x5 x6 x7 : Int}
theorem evp_ld8 {f : Nat → Int → Int → Int → Int → Int → Int → Int → Int → Option α}
    (h : ∀ j, j < 8 → M.ld (plus a (i * 8 + j)) = ([.int .i64 x0, .int .i64 x1, .int .i64 x2, .int .i64 x3, .int .i64 x4, .int .i64 x5, .int .i64 x6, .int .i64 x7] : List Value)[j]?) (hf : Evp (fun kk => f kk x0 x1 x2 x3 x4 x5 x6 x7) Q) :
    Evp (fun kk => ob ((M.ld (plus a (i * 8))).bind (Value.int? .i64)) fun v0 => ob ((M.ld (plus (plus a (i * 8)) 1)).bind (Value.int? .i64)) fun v1 => ob ((M.ld (plus (plus a (i * 8)) 2)).bind (Value.int? .i64)) fun v2 => ob ((M.ld (plus (plus a (i * 8)) 3)).bind (Value.int? .i64)) fun v3 => ob ((M.ld (plus (plus a (i * 8)) 4)).bind (Value.int? .i64)) fun v4 => ob ((M.ld (plus (plus a (i * 8)) 5)).bind (Value.int? .i64)) fun v5 => ob ((M.ld (plus (plus a (i * 8)) 6)).bind (Value.int? .i64)) fun v6 => ob ((M.ld (plus (plus a (i * 8)) 7)).bind (Value.int? .i64)) fun v7 => f kk v0 v1 v2 v3 v4 v5 v6 v7) Q := by
  refine Evp.of_eq (fun kk => ?_) hf
  have e : ∀ j, plus (plus a (i * 8)) j = plus a (i * 8 + j) := fun j => by simp only [plus_eq, Nat.add_assoc]
  have h0 := h 0 (by decide)
  rw [Nat.add_zero] at h0
  rw [h0, e 1, e 2, e 3, e 4, e 5, e 6, e 7, h 1 (by decide), h 2 (by decide), h 3 (by decide), h 4 (by decide), h 5 (by decide), h 6 (by decide), h 7 (by decide)]
  simp only [ret_int, ret_bool, ret_flt, ret_slc, ret_str, ret_ptr, ret_agg, ret_tup, ob_some, bb_true, bb_false, List.getElem?_cons_zero, List.getElem?_cons_succ, List.length_cons, List.length_nil, Nat.reduceAdd, Nat.reduceLT]
theorem evp_ld8r {lo : Nat} {f : Nat → Int → Int → Int → Int → Int → Int → Int → Int → Option α} (hb : a.block < lo)
    (h : ∀ j, j < 8 → M.ld (plus a (i * 8 + j)) = ([.int .i64 x0, .int .i64 x1, .int .i64 x2, .int .i64 x3, .int .i64 x4, .int .i64 x5, .int .i64 x6, .int .i64 x7] : List Value)[j]?) (hf : Evp (fun kk => f kk x0 x1 x2 x3 x4 x5 x6 x7) Q) :
    Evp (fun kk => ob ((if (plus a (i * 8)).block < lo then M.ld (plus a (i * 8)) else none).bind (Value.int? .i64)) fun v0 => ob ((if (plus a (i * 8)).block < lo then M.ld (plus (plus a (i * 8)) 1) else none).bind (Value.int? .i64)) fun v1 => ob ((if (plus a (i * 8)).block < lo then M.ld (plus (plus a (i * 8)) 2) else none).bind (Value.int? .i64)) fun v2 => ob ((if (plus a (i * 8)).block < lo then M.ld (plus (plus a (i * 8)) 3) else none).bind (Value.int? .i64)) fun v3 => ob ((if (plus a (i * 8)).block < lo then M.ld (plus (plus a (i * 8)) 4) else none).bind (Value.int? .i64)) fun v4 => ob ((if (plus a (i * 8)).block < lo then M.ld (plus (plus a (i * 8)) 5) else none).bind (Value.int? .i64)) fun v5 => ob ((if (plus a (i * 8)).block < lo then M.ld (plus (plus a (i * 8)) 6) else none).bind (Value.int? .i64)) fun v6 => ob ((if (plus a (i * 8)).block < lo then M.ld (plus (plus a (i * 8)) 7) else none).bind (Value.int? .i64)) fun v7 => f kk v0 v1 v2 v3 v4 v5 v6 v7) Q := by
  have e : (plus a (i * 8)).block < lo := by rw [plus_block]; exact hb
  simp only [if_pos e]
  exact evp_ld8 h hf
end
def KeepZ (l l' : Nat) (M M' : Mem) : Prop := M'.length = M.length ∧ ∀ (x : Nat) (k : Blk), M[x]? = some k → ¬ (l ≤ x ∧ x < l') → M'[x]? = some k
theorem KeepZ.refl (l l' : Nat) (M : Mem) : KeepZ l l' M M := ⟨rfl, fun _ _ h _ => h⟩
theorem KeepZ.trans {l l' : Nat} {M M1 M2 : Mem} (h : KeepZ l l' M M1) (k : KeepZ l l' M1 M2) : KeepZ l l' M M2 := ⟨k.1.trans h.1, fun x b hx hn => k.2 x b (h.2 x b hx hn) hn⟩
def FirstZ (M0 M : Mem) (l l' : Nat) (A : Option Addr) (rows : List (List Tb)) : Prop := ∃ row t a ar cr ac cc, rows[0]? = some row ∧ row[0]? = some t ∧ t.1.length ≠ 0 ∧ A = some a ∧ M.ld a = some (.slice (some ar) row.length cr) ∧ M.ld ar = some (.slice (some ac) t.1.length cc) ∧ Buf M0 M ac (t.1.map (Value.int .u16)) ∧ l ≤ a.block ∧ l ≤ ar.block ∧ l ≤ ac.block ∧ ac.block < l'
theorem FirstW.z {M0 M1 M : Mem} {l' : Nat} {A : Option Addr} {rows : List (List Tb)} (h : FirstW M1 M l' A rows) (hl : M0.length ≤ M1.length) : FirstZ M0 M M1.length l' A rows := by
  obtain ⟨row, t, a, ar, cr, ac, cc, h1, h2, h3, q1, q2, q3, q4, q5, q6, q7⟩ := h
  exact ⟨row, t, a, ar, cr, ac, cc, h1, h2, h3, q1, q2, q3, q4.floor hl, q5, q6, q4.new, q7⟩
theorem FirstZ.keepS {M0 M M' : Mem} {l l' : Nat} {A : Option Addr} {rows : List (List Tb)} (h : FirstZ M0 M l l' A rows) (hk : KeepS (fun x => l ≤ x) M M') : FirstZ M0 M' l l' A rows := by
  obtain ⟨row, t, a, ar, cr, ac, cc, h1, h2, h3, q1, q2, q3, ⟨k, z1, z2, z3, z4⟩, q5, q6, q7, q8⟩ := h
  exact ⟨row, t, a, ar, cr, ac, cc, h1, h2, h3, q1, ld_keep q2 fun k hk' => hk _ _ q5 hk', ld_keep q3 fun k hk' => hk _ _ q6 hk', ⟨k, z1, z2, hk _ _ q7 z3, z4⟩, q5, q6, q7, q8⟩
section
variable (lo : Nat) (A1 : Option Addr) (n2 c3 : Nat) (x4 : Int) (p5 p6 p7 p8 : Option Addr) (x9 : Int)
theorem spoil_set (Mi M : Mem) (l ls l' : Nat) (hlo : lo ≤ Mi.length) (hpre : Pre Mi M) (As : Option Addr) (rows : List (List Tb)) (c28 : Nat) (hw : FirstZ Mi M ls l' As rows) (hl : l ≤ ls) {α : Type} {Q : α → Prop} {f : Nat → Mem → Option α} {g : Nat → Mem → Option α}
    (hnext : ∀ M', KeepZ l l' M M' → Evp (fun kk => f kk M') Q) :
    Evp (fun kk => bb (decide ((rows.length : Int) > 0)) (pb (0 ≤ (0 : Int) ∧ (0 : Int) < (rows.length : Int)) (ob As fun a70 => ob ((M.ld a70).bind Value.slc?) fun s71 => bb (decide ((s71.n : Int) > 0)) (pb (0 ≤ (0 : Int) ∧ (0 : Int) < (rows.length : Int)) (ob As fun a72 => ob ((M.ld a72).bind Value.slc?) fun s73 => pb (0 ≤ (0 : Int) ∧ (0 : Int) < (s73.n : Int)) (ob s73.a fun a74 => ob ((M.ld a74).bind Value.slc?) fun s75 => bb (decide ((s75.n : Int) > 0)) (pb (0 ≤ (0 : Int) ∧ (0 : Int) < (rows.length : Int)) (ob As fun a76 => ob ((M.ld a76).bind Value.slc?) fun s77 => pb (0 ≤ (0 : Int) ∧ (0 : Int) < (s77.n : Int)) (ob s77.a fun a78 => ob ((M.ld a78).bind Value.slc?) fun s79 => pb (0 ≤ (0 : Int) ∧ (0 : Int) < (s79.n : Int)) (ob s79.a fun a80 => ob (M.st lo a80 [.int .u16 1]) fun M81 => f kk M81) none) none) none) (g kk M)) none) none) (g kk M)) none) (g kk M)) Q := by
  obtain ⟨row, t, a, ar, cr, ac, cc, h1, h2, h3, rfl, q2, q3, q4, q5, q6, q7, q8⟩ := hw
  have k1 := (List.getElem?_eq_some_iff.1 h1).1
  have k2 := (List.getElem?_eq_some_iff.1 h2).1
  have r1 : (M.ld a).bind Value.slc? = some ⟨some ar, row.length, cr⟩ := by rw [q2]; rfl
  have r2 : (M.ld ar).bind Value.slc? = some ⟨some ac, t.1.length, cc⟩ := by rw [q3]; rfl
  refine Evp.dec (fun _ => Evp.pos (by omega) (Evp.some rfl (Evp.some r1 ?_))) fun h => absurd h (by omega)
  dsimp only
  refine Evp.dec (fun _ => Evp.pos (by omega) (Evp.some rfl (Evp.some r1 ?_))) fun h => absurd h (by omega)
  dsimp only
  refine Evp.pos (by omega) (Evp.some rfl (Evp.some r2 ?_))
  dsimp only
  refine Evp.dec (fun _ => Evp.pos (by omega) (Evp.some rfl (Evp.some r1 ?_))) fun h => absurd h (by omega)
  dsimp only
  refine Evp.pos (by omega) (Evp.some rfl (Evp.some r2 ?_))
  dsimp only
  refine Evp.pos (by omega) (Evp.some rfl ?_)
  obtain ⟨M', g1, g2, g3, g4, g5⟩ := q4.st (lo := lo) (i := 0) (vs := [.int .u16 1]) hpre hlo (by simp; omega)
  rw [plus_zero] at g1
  refine Evp.some g1 (hnext M' ⟨g5, fun x k hx hn => g4 x k hx fun y e => by injection e with e; subst e; omega⟩)
theorem spoil_loop (Mi M0 : Mem) (l l' : Nat) (hlo : lo ≤ Mi.length) (f : FrV) (A B C : Option Addr) (ca cb cc : Nat) (As : Option Addr) (nr cs : Nat) (hn : f.x0.length ≤ 262144) (hA : f.x0.length ≠ 0 → ∀ a, A = some a → l ≤ a.block ∧ a.block < l') {Q : Value × Mem → Prop}
    (hnext : ∀ M', KeepZ l l' M0 M' → Pre Mi M' → Run P T lo F.zoetropelaw26_PoolPlays (zoetropelaw26_PoolPlays.c1042740 A1 n2 c3 x4 p5 p6 p7 p8 x9 (f.x0.length : Int) f.w0 f.h0 A f.x0.length ca f.w1 f.h1 B f.x1.length cb f.w2 f.h2 C f.x2.length cc As nr cs M') Q) :
    ∀ (d k : Nat) (M : Mem) (xs : List Int), f.x0.length - k = d → k ≤ f.x0.length → KeepZ l l' M0 M → Pre Mi M → xs.length = f.x0.length → (f.x0.length ≠ 0 → ∃ a, A = some a ∧ Buf Mi M a (xs.map (Value.int .u8))) →
      Run P T lo F.zoetropelaw26_PoolPlays (zoetropelaw26_PoolPlays.c1042740 A1 n2 c3 x4 p5 p6 p7 p8 x9 (k : Int) f.w0 f.h0 A f.x0.length ca f.w1 f.h1 B f.x1.length cb f.w2 f.h2 C f.x2.length cc As nr cs M) Q := by
  intro d
  induction d with
  | zero =>
    intro k M xs hd hk hz hp hx hb
    obtain rfl : k = f.x0.length := by omega
    exact hnext M hz hp
  | succ d ih =>
    intro k M xs hd hk hz hp hx hb
    obtain ⟨a, rfl, hb1⟩ := hb (by omega)
    have hr := hA (by omega) a rfl
    obtain ⟨a', e, _, hld⟩ := hb1.rdI.ld (i := k) (by omega)
    injection e with e; subst e
    refine Run.cut (Evp.of_eq (fun k => zoetropelaw26_PoolPlays.p1042740 k ..) ?_)
    refine Evp.dec (fun _ => ?_) fun h => absurd h (by omega)
    refine Evp.pos (by omega) (Evp.some rfl ?_)
    simp only [Int.toNat_natCast]
    refine Evp.some (b := xs.getD k 0) (by rw [hld]; simp [Value.int?]) (Evp.pos (by omega) (Evp.some rfl ?_))
    obtain ⟨M', g1, g2, g3, g4, g5⟩ := hb1.st (lo := lo) (i := k) (vs := [.int .u8 (xorI .u8 (xs.getD k 0) 90)]) hp hlo (by simp; omega)
    refine Evp.some g1 ?_
    rw [w64 (x := (k : Int) + 1) (by omega)]
    rw [setL_one, set_map] at g2
    refine Evp.ret (ih (k + 1) M' (xs.set k (xorI .u8 (xs.getD k 0) 90)) (by omega) (by omega) (hz.trans ⟨g5, fun x b hx hn => g4 x b hx fun y e => by injection e with e; subst e; omega⟩) g3 (by simp [hx]) fun _ => ⟨a, rfl, g2⟩)
theorem spoil_loop2 (Mi M0 : Mem) (l l' : Nat) (hlo : lo ≤ Mi.length) (w0 h0 w1 h1 w2 h2 : Int) (A B C : Option Addr) (na ca nb cb nc cc : Nat) (hn : nb ≤ 262144) (hB : nb ≠ 0 → ∀ a, B = some a → l ≤ a.block ∧ a.block < l') {Q : Value × Mem → Prop}
    (hnext : ∀ M', KeepZ l l' M0 M' → Pre Mi M' → Run P T lo F.zoetropelaw26_PoolPlays (zoetropelaw26_PoolPlays.c8342004 A1 n2 c3 x4 p5 p6 p7 p8 x9 (nb : Int) w0 h0 A na ca w1 h1 B nb cb w2 h2 C nc cc M') Q) :
    ∀ (d k : Nat) (M : Mem) (xs : List Int), nb - k = d → k ≤ nb → KeepZ l l' M0 M → Pre Mi M → xs.length = nb → (nb ≠ 0 → ∃ a, B = some a ∧ Buf Mi M a (xs.map (Value.int .u8))) →
      Run P T lo F.zoetropelaw26_PoolPlays (zoetropelaw26_PoolPlays.c8342004 A1 n2 c3 x4 p5 p6 p7 p8 x9 (k : Int) w0 h0 A na ca w1 h1 B nb cb w2 h2 C nc cc M) Q := by
  intro d
  induction d with
  | zero =>
    intro k M xs hd hk hz hp hx hb
    obtain rfl : k = nb := by omega
    exact hnext M hz hp
  | succ d ih =>
    intro k M xs hd hk hz hp hx hb
    obtain ⟨a, rfl, hb1⟩ := hb (by omega)
    have hr := hB (by omega) a rfl
    obtain ⟨a', e, _, hld⟩ := hb1.rdI.ld (i := k) (by omega)
    injection e with e; subst e
    refine Run.cut (Evp.of_eq (fun k => zoetropelaw26_PoolPlays.p8342004 k ..) ?_)
    refine Evp.dec (fun _ => ?_) fun h => absurd h (by omega)
    refine Evp.pos (by omega) (Evp.some rfl ?_)
    simp only [Int.toNat_natCast]
    refine Evp.some (b := xs.getD k 0) (by rw [hld]; simp [Value.int?]) (Evp.pos (by omega) (Evp.some rfl ?_))
    obtain ⟨M', g1, g2, g3, g4, g5⟩ := hb1.st (lo := lo) (i := k) (vs := [.int .u8 (xorI .u8 (xs.getD k 0) 90)]) hp hlo (by simp; omega)
    refine Evp.some g1 ?_
    rw [w64 (x := (k : Int) + 1) (by omega)]
    rw [setL_one, set_map] at g2
    refine Evp.ret (ih (k + 1) M' (xs.set k (xorI .u8 (xs.getD k 0) 90)) (by omega) (by omega) (hz.trans ⟨g5, fun x b hx hn => g4 x b hx fun y e => by injection e with e; subst e; omega⟩) g3 (by simp [hx]) fun _ => ⟨a, rfl, g2⟩)
end
end Go.Zt
