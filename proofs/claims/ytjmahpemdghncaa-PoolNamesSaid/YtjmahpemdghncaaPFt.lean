/- What the law PoolNames needs of the text Ft. -/
import Derived.Test.YtjmahpemdghncaaPFs
set_option linter.unusedVariables false
set_option linter.unusedSimpArgs false
set_option maxRecDepth 100000
namespace Go.Zt
section
variable (lo : Nat) (Mi : Mem) (b b' : Nat) (hlo : lo ≤ Mi.length) (hbb : Mi.length ≤ b ∧ b < b')
structure Both (S : Nat → Prop) (M : Mem) (b b' : Nat) (sl : Nat → Option SlotV) (p7 p8 : Option Addr) (slq : Nat → Option SlotV) : Prop where
  p : PoolIs S M b sl
  m : RefIs S M b' sl
  q : QIs S M b' p7 p8 slq
theorem Both.lt {S : Nat → Prop} {M : Mem} {b b' : Nat} {sl slq : Nat → Option SlotV} {p7 p8 : Option Addr} (h : Both S M b b' sl p7 p8 slq) : Both (fun x => S x ∧ x < M.length) M b b' sl p7 p8 slq := ⟨h.p.lt, h.m.lt, h.q.lt⟩
theorem Both.mono {S S' : Nat → Prop} {M : Mem} {b b' : Nat} {sl slq : Nat → Option SlotV} {p7 p8 : Option Addr} (h : Both S M b b' sl p7 p8 slq) (hs : ∀ x, S x → S' x) : Both S' M b b' sl p7 p8 slq := ⟨h.p.mono hs, h.m.mono hs, h.q.mono hs⟩
theorem Both.keep {S D : Nat → Prop} {M M' : Mem} {b b' : Nat} {sl slq : Nat → Option SlotV} {p7 p8 : Option Addr} (h : Both S M b b' sl p7 p8 slq) (hk : KeepS D M M') (hb : D b) (hb' : D b') (hD : ∀ x, b' < x → x < M.length → D x) (hS : ∀ x, S x → b' < x ∧ x < M.length) : Both S M' b b' sl p7 p8 slq := by
  have kS : KeepS S M M' := hk.mono fun x hx => hD x (hS x hx).1 (hS x hx).2
  exact ⟨h.p.keep (fun k hk' => hk _ _ hb hk') kS, h.m.keep (fun k hk' => hk _ _ hb' hk') kS, h.q.keep hk hD hS⟩
theorem Both.pre {S : Nat → Prop} {M M' : Mem} {b b' : Nat} {sl slq : Nat → Option SlotV} {p7 p8 : Option Addr} (h : Both S M b b' sl p7 p8 slq) (hp : Pre M M') : Both S M' b b' sl p7 p8 slq := by
  refine ⟨h.p.pre hp, h.m.pre hp, ?_⟩
  rcases h.q with q | ⟨bq, bn, h1, h2, h3, h4, h5, h6⟩
  · exact .inl q
  · exact .inr ⟨bq, bn, h1, h2, h3, h4, h5.pre hp, h6.pre hp⟩
include hlo hbb
omit hbb in
theorem plays_end (sl slq : Nat → Option SlotV) (p7 p8 : Option Addr) : ∀ (d : Nat) (s : Int) (M : Mem), (9 - s).toNat = d → -1 ≤ s → s ≤ 9 → Pre Mi M → Both (fun x => b' < x) M b b' sl p7 p8 slq →
    Run P T lo F.zoetropelaw26_PoolPlays (zoetropelaw26_PoolPlays.c4084 (some ⟨b, 0, none⟩) (some ⟨b', 0, none⟩) p7 p8 s M) fun r => r.1 = .bool true := by
  intro d
  induction d with
  | zero =>
    intro s M hd h1 h2 hp h
    have l0 := hp.len
    refine Run.cut (Evp.of_eq (fun k => zoetropelaw26_PoolPlays.p4084 k ..) ?_)
    refine Evp.dec (fun h => absurd h (by omega)) fun _ => ?_
    rcases h.q with ⟨rfl, rfl⟩ | ⟨bq, bn, rfl, rfl, h3, h4, h5, h6⟩
    · refine Evp.tt rfl ?_
      refine Evp.ob (awake_ok lo M (by omega)) ?_
      rintro _ ⟨M', rfl, _⟩
      simp only [ret_int, ret_bool, ret_flt, ret_slc, ret_str, ret_ptr, ret_agg, ret_tup, ob_some, bb_true, bb_false, List.getElem?_cons_zero, List.getElem?_cons_succ, List.length_cons, List.length_nil, Nat.reduceAdd, Nat.reduceLT]
      exact Evp.ret (Run.ret rfl)
    · refine Evp.ff rfl ?_
      refine Evp.ob (psame_ok lo _ _ b bq sl slq M h.p h5 (by omega)) ?_
      rintro _ ⟨M1, rfl, p1⟩
      simp only [ret_int, ret_bool, ret_flt, ret_slc, ret_str, ret_ptr, ret_agg, ret_tup, ob_some, bb_true, bb_false, List.getElem?_cons_zero, List.getElem?_cons_succ, List.length_cons, List.length_nil, Nat.reduceAdd, Nat.reduceLT]
      have l1 := p1.len
      refine Evp.ob (rpsame_ok lo _ b' sl M1 _ bn slq (h.m.pre p1) (h6.pre p1)) ?_
      rintro _ rfl
      simp only [ret_int, ret_bool, ret_flt, ret_slc, ret_str, ret_ptr, ret_agg, ret_tup, ob_some, bb_true, bb_false, List.getElem?_cons_zero, List.getElem?_cons_succ, List.length_cons, List.length_nil, Nat.reduceAdd, Nat.reduceLT]
      refine Evp.tt (by simp) ?_
      refine Evp.ob (awake_ok lo M1 (by omega)) ?_
      rintro _ ⟨M', rfl, _⟩
      simp only [ret_int, ret_bool, ret_flt, ret_slc, ret_str, ret_ptr, ret_agg, ret_tup, ob_some, bb_true, bb_false, List.getElem?_cons_zero, List.getElem?_cons_succ, List.length_cons, List.length_nil, Nat.reduceAdd, Nat.reduceLT]
      exact Evp.ret (Run.ret rfl)
  | succ d ih =>
    intro s M hd h1 h2 hp h
    have l0 := hp.len
    refine Run.cut (Evp.of_eq (fun k => zoetropelaw26_PoolPlays.p4084 k ..) ?_)
    refine Evp.dec (fun _ => ?_) fun h => absurd h (by omega)
    refine Evp.ob (told_ok lo _ b sl M _ b' h.p h.m s (by omega)) ?_
    rintro _ ⟨M1, rfl, p1⟩
    simp only [ret_int, ret_bool, ret_flt, ret_slc, ret_str, ret_ptr, ret_agg, ret_tup, ob_some, bb_true, bb_false, List.getElem?_cons_zero, List.getElem?_cons_succ, List.length_cons, List.length_nil, Nat.reduceAdd, Nat.reduceLT]
    have l1 := p1.len
    refine Evp.ff rfl ?_
    rw [w64 (x := s + 1) (by omega)]
    rcases h.q with ⟨rfl, rfl⟩ | ⟨bq, bn, rfl, rfl, h3, h4, h5, h6⟩
    · exact Evp.ff rfl (Evp.ret (ih (s + 1) M1 (by omega) (by omega) (by omega) (hp.trans p1) (h.pre p1)))
    · refine Evp.tt rfl ?_
      refine Evp.ob (told_ok lo _ bq slq M1 _ bn (h5.pre p1) (h6.pre p1) s (by omega)) ?_
      rintro _ ⟨M2, rfl, p2⟩
      simp only [ret_int, ret_bool, ret_flt, ret_slc, ret_str, ret_ptr, ret_agg, ret_tup, ob_some, bb_true, bb_false, List.getElem?_cons_zero, List.getElem?_cons_succ, List.length_cons, List.length_nil, Nat.reduceAdd, Nat.reduceLT]
      refine Evp.ff rfl (Evp.ret (ih (s + 1) M2 (by omega) (by omega) (by omega) (hp.trans (p1.trans p2)) (h.pre (p1.trans p2))))
section
variable (A1 : Option Addr) (n2 c3 : Nat) (x4 : Int) (hd : DosAt Mi A1 n2) (hA1 : n2 ≠ 0 → ∀ a, A1 = some a → a.block < lo)
include hd hA1
theorem plays_rest (i : Nat) (hi : i < n2) (hi20 : i < 20) (L : Nat) (f : FrV) (A B C As : Option Addr) (ca cb cc cs : Nat) (rows : List (List Tb)) (ls l' : Nat) (M : Mem) (sl slq : Nat → Option SlotV) (p7 p8 : Option Addr) (hp : Pre Mi M) (hsf : SmallF f) (hL : b' < L ∧ L ≤ ls ∧ ls ≤ l' ∧ l' ≤ M.length)
    (hb : f.x0.length ≠ 0 → ∃ a, A = some a ∧ Buf Mi M a (f.x0.map (Value.int .u8)) ∧ L ≤ a.block ∧ a.block < ls) (hw : FirstZ Mi M ls l' As rows) (h : Both (fun x => (b' < x ∧ x < L) ∨ (l' ≤ x ∧ x < M.length)) M b b' sl p7 p8 slq)
    (hq : QIs (fun x => b' < x ∧ x < L) M b' p7 p8 slq) (hqb : ∀ a, (p7 = some a ∨ p8 = some a) → a.block < L)
    (next : ∀ (M' : Mem) (p7 p8 : Option Addr) (slq : Nat → Option SlotV), Pre Mi M' → Both (fun x => b' < x) M' b b' sl p7 p8 slq → Run P T lo F.zoetropelaw26_PoolPlays (zoetropelaw26_PoolPlays.c2036 A1 n2 c3 x4 (some ⟨b, 0, none⟩) (some ⟨b', 0, none⟩) p7 p8 ((i + 1 : Nat) : Int) M') fun r => r.1 = .bool true) :
    Run P T lo F.zoetropelaw26_PoolPlays (zoetropelaw26_PoolPlays.c1042740 A1 n2 c3 x4 (some ⟨b, 0, none⟩) (some ⟨b', 0, none⟩) p7 p8 (i : Int) 0 f.w0 f.h0 A f.x0.length ca f.w1 f.h1 B f.x1.length cb f.w2 f.h2 C f.x2.length cc As rows.length cs M) fun r => r.1 = .bool true := by
  obtain ⟨z1, z2, z3, z4⟩ := hL
  have hdo := hd i hi
  obtain ⟨a0, y0, y1, y2, y3, y4, y5, y6, y7, hA0, _⟩ := hdo
  have ha0 := hA1 (by omega) a0 hA0
  -- whatever a spoiling leaves
  have keepZ : ∀ M', KeepZ L l' M M' → Both (fun x => b' < x) M' b b' sl p7 p8 slq := fun M' hz => by
    have kD : KeepS (fun x => ¬ (L ≤ x ∧ x < l')) M M' := fun x k hx hk => hz.2 x k hk hx
    have kS : KeepS (fun x => (b' < x ∧ x < L) ∨ (l' ≤ x ∧ x < M.length)) M M' := kD.mono fun x hx => by omega
    refine ⟨(h.p.keep (fun k hk => hz.2 _ _ hk (by omega)) kS).mono fun x hx => by omega, (h.m.keep (fun k hk => hz.2 _ _ hk (by omega)) kS).mono fun x hx => by omega, ?_⟩
    rcases hq with q | ⟨bq, bn, h1, h2, h3, h4, h5, h6⟩
    · exact .inl q
    · have g1 := hqb ⟨bq, 0, none⟩ (.inl h1)
      have g2 := hqb ⟨bn, 0, none⟩ (.inr h2)
      have kq : KeepS (fun x => b' < x ∧ x < L) M M' := kD.mono fun x hx => by omega
      exact .inr ⟨bq, bn, h1, h2, h3, h4, (h5.keep (fun k hk => hz.2 _ _ hk (by simp only at g1; omega)) kq).mono fun x hx => hx.1, (h6.keep (fun k hk => hz.2 _ _ hk (by simp only at g2; omega)) kq).mono fun x hx => hx.1⟩
  have hbx : f.x0.length ≠ 0 → ∃ a, A = some a ∧ Buf Mi M a (f.x0.map (Value.int .u8)) := fun h0 => by
    obtain ⟨a, q1, q2, _⟩ := hb h0
    exact ⟨a, q1, q2⟩
  have hbr : f.x0.length ≠ 0 → ∀ a, A = some a → L ≤ a.block ∧ a.block < ls := fun h0 a e => by
    obtain ⟨a', q1, q2, q3, q4⟩ := hb h0
    rw [q1] at e; injection e with e; rw [← e]; exact ⟨q3, q4⟩
  refine spoil_loop lo A1 n2 c3 x4 _ _ p7 p8 (i : Int) Mi M L ls hlo f A B C ca cb cc As rows.length cs hsf.1 hbr (fun M1 hz1 hp1 => ?_) _ 0 M f.x0 rfl (by omega) (KeepZ.refl L ls M) hp rfl hbx
  have hw1 : FirstZ Mi M1 ls l' As rows := hw.keepS fun x k hx hk => hz1.2 x k hk (by omega)
  refine Run.cut (Evp.of_eq (fun k => zoetropelaw26_PoolPlays.p1042740 k ..) ?_)
  refine Evp.dec (fun h => absurd h (by omega)) fun _ => ?_
  refine spoil_set lo Mi M1 L ls l' hlo hp1 As rows cs hw1 z2 (f := fun kk M81 => some (zoetropelaw26_PoolPlays.c260687 A1 n2 c3 x4 (some ⟨b, 0, none⟩) (some ⟨b', 0, none⟩) p7 p8 (i : Int) M81)) (g := fun kk M => some (zoetropelaw26_PoolPlays.c260687 A1 n2 c3 x4 (some ⟨b, 0, none⟩) (some ⟨b', 0, none⟩) p7 p8 (i : Int) M)) fun M2 hz2 => Evp.ret ?_
  have hzz : KeepZ L l' M M2 := ⟨hz2.1.trans hz1.1, fun x k hx hn => hz2.2 x k (hz1.2 x k hx (by omega)) hn⟩
  have hB2 := keepZ M2 hzz
  have hp2 : Pre Mi M2 := fun x k hk => hzz.2 x k (hp x k hk) (by have := lt_of_get hk; omega)
  have l2 := hp2.len
  have hd2 : DosAt M2 A1 n2 := dos_keep hd fun a e k hk => hp2 _ _ hk
  obtain ⟨a1, u0, u1, u2, u3, u4, u5, u6, u7, hA', hld⟩ := hd2 i hi
  have ea : a1 = a0 := by rw [hA0] at hA'; injection hA' with hA'; exact hA'.symm
  subst ea
  have e7 : plus (plus a1 (i * 8)) 7 = plus a1 (i * 8 + 7) := by simp only [plus_eq, Nat.add_assoc]
  have ld7 : ∀ M' : Mem, Pre Mi M' → (M'.ld (plus (plus a1 (i * 8)) 7)).bind (Value.int? .i64) = some u7 := fun M' hp' => by
    have hd' : DosAt M' A1 n2 := dos_keep hd fun a e k hk => hp' _ _ hk
    have h7 : Mi.ld (plus a1 (i * 8 + 7)) = some (.int .i64 u7) := by
      obtain ⟨a2, v0, v1, v2, v3, v4, v5, v6, v7, hA2, hl2⟩ := hd i hi
      have e2 : a2 = a1 := by rw [hA0] at hA2; injection hA2 with hA2; exact hA2.symm
      subst e2
      have q := hl2 7 (by decide)
      have q' : Mi.ld (plus a2 (i * 8 + 7)) = some (.int .i64 v7) := q
      have q2 := ld_keep q' (M' := M2) fun k hk => hp2 _ _ hk
      have q3 := hld 7 (by decide)
      rw [q2] at q3
      rw [q']; exact q3
    rw [e7, ld_keep h7 (M' := M') fun k hk => hp' _ _ hk]
    simp [Value.int?]
  -- behind the frame that is asked for
  have tell : ∀ (M3 : Mem) (w0 h0 w1 h1 w2 h2 : Int) (A B C : Option Addr) (na ca nb cb nc cc : Nat), Pre Mi M3 → Both (fun x => b' < x) M3 b b' sl p7 p8 slq → Run P T lo F.zoetropelaw26_PoolPlays (zoetropelaw26_PoolPlays.c8342004 A1 n2 c3 x4 (some ⟨b, 0, none⟩) (some ⟨b', 0, none⟩) p7 p8 (i : Int) (nb : Int) w0 h0 A na ca w1 h1 B nb cb w2 h2 C nc cc M3) fun r => r.1 = .bool true := fun M3 w0 h0 w1 h1 w2 h2 A B C na ca nb cb nc cc hp3 hB3 => by
    have l3 := hp3.len
    refine Run.cut (Evp.of_eq (fun k => zoetropelaw26_PoolPlays.p8342004 k ..) ?_)
    refine Evp.dec (fun h => absurd h (by omega)) fun _ => ?_
    refine Evp.pos (by omega) (Evp.some hA0 ?_)
    simp only [Int.toNat_natCast]
    refine Evp.some (ld7 M3 hp3) ?_
    refine Evp.ob (told_ok lo _ b sl M3 _ b' hB3.p hB3.m u7 (by omega)) ?_
    rintro _ ⟨M4, rfl, p4⟩
    simp only [ret_int, ret_bool, ret_flt, ret_slc, ret_str, ret_ptr, ret_agg, ret_tup, ob_some, bb_true, bb_false, List.getElem?_cons_zero, List.getElem?_cons_succ, List.length_cons, List.length_nil, Nat.reduceAdd, Nat.reduceLT]
    have hB4 := hB3.pre p4
    have hp4 := hp3.trans p4
    have l4 := hp4.len
    refine Evp.ff rfl (Evp.eqb (fun _ => ?_) fun _ => Evp.ret ?_)
    · refine Evp.ob (pcopy_ok lo _ b sl M4 hB4.p (by omega)) ?_
      rintro _ ⟨M5, rfl, p5, l5, hq5⟩
      simp only [ret_int, ret_bool, ret_flt, ret_slc, ret_str, ret_ptr, ret_agg, ret_tup, ob_some, bb_true, bb_false, List.getElem?_cons_zero, List.getElem?_cons_succ, List.length_cons, List.length_nil, Nat.reduceAdd, Nat.reduceLT]
      refine Evp.ff rfl (Evp.ff rfl ?_)
      have hB5 := hB4.pre p5
      have i5 := hB4.m.in_
      refine Evp.ob (psame_ok lo _ _ M4.length b sl sl M5 hq5 hB5.p (by omega)) ?_
      rintro _ ⟨M6, rfl, p6⟩
      simp only [ret_int, ret_bool, ret_flt, ret_slc, ret_str, ret_ptr, ret_agg, ret_tup, ob_some, bb_true, bb_false, List.getElem?_cons_zero, List.getElem?_cons_succ, List.length_cons, List.length_nil, Nat.reduceAdd, Nat.reduceLT]
      refine Evp.ff (by rw [decide_eq_true (show SameSl sl sl from fun _ _ => rfl)]; rfl) ?_
      have l6 := p6.len
      have hB6 := hB5.pre p6
      refine Evp.ob (rpcopy_ok lo _ b' sl M6 hB6.m.lt (fun x hx => hx.2) (by omega)) ?_
      rintro _ ⟨M7, rfl, p7', hq7⟩
      simp only [ret_int, ret_bool, ret_flt, ret_slc, ret_str, ret_ptr, ret_agg, ret_tup, ob_some, bb_true, bb_false, List.getElem?_cons_zero, List.getElem?_cons_succ, List.length_cons, List.length_nil, Nat.reduceAdd, Nat.reduceLT]
      refine Evp.ret ?_
      refine Run.cut (Evp.of_eq (fun k => zoetropelaw26_PoolPlays.p8147 k ..) ?_)
      rw [w64 (x := (i : Int) + 1) (by omega)]
      refine Evp.ret (next M7 (some ⟨M4.length, 0, none⟩) (some ⟨M6.length, 0, none⟩) sl (hp4.trans ((p5.trans p6).trans p7')) ⟨hB6.p.pre p7', hB6.m.pre p7', .inr ⟨M4.length, M6.length, rfl, rfl, i5, by omega, (hq5.pre (p6.trans p7')), hq7.mono fun x hx => by omega⟩⟩)
    · refine Run.cut (Evp.of_eq (fun k => zoetropelaw26_PoolPlays.p8147 k ..) ?_)
      rw [w64 (x := (i : Int) + 1) (by omega)]
      exact Evp.ret (next M4 p7 p8 slq hp4 hB4)
  refine Run.cut (Evp.of_eq (fun k => zoetropelaw26_PoolPlays.p260687 k ..) ?_)
  refine Evp.pos (by omega) (Evp.some hA0 ?_)
  simp only [Int.toNat_natCast]
  refine Evp.some (ld7 M2 hp2) ?_
  by_cases hx : u7 < 0 ∨ 8 ≤ u7
  · refine Evp.ob (pframe_bad lo _ b sl M2 hB2.p u7 hx) ?_
    rintro _ rfl
    simp only [ret_int, ret_bool, ret_flt, ret_slc, ret_str, ret_ptr, ret_agg, ret_tup, ob_some, bb_true, bb_false, List.getElem?_cons_zero, List.getElem?_cons_succ, List.length_cons, List.length_nil, Nat.reduceAdd, Nat.reduceLT]
    exact Evp.ret (tell M2 _ _ _ _ _ _ _ _ _ _ _ 0 _ _ _ hp2 hB2)
  · obtain ⟨n, en⟩ : ∃ n : Nat, u7 = n := ⟨u7.toNat, by omega⟩
    rw [en]
    have hn : n < 8 := by omega
    cases hv : sl n with
    | none =>
      refine Evp.ob (pframe_none lo _ b sl M2 hB2.p n hn hv) ?_
      rintro _ rfl
      simp only [ret_int, ret_bool, ret_flt, ret_slc, ret_str, ret_ptr, ret_agg, ret_tup, ob_some, bb_true, bb_false, List.getElem?_cons_zero, List.getElem?_cons_succ, List.length_cons, List.length_nil, Nat.reduceAdd, Nat.reduceLT]
      exact Evp.ret (tell M2 _ _ _ _ _ _ _ _ _ _ _ 0 _ _ _ hp2 hB2)
    | some v =>
      obtain ⟨g, grows⟩ := v
      have hgw : WholeF g := by
        obtain ⟨R0, _, hs0⟩ := hB2.p
        have := hs0 n hn
        rw [hv] at this
        exact (show SlotS _ M2 (R0 n) g grows from this).fw
      refine Evp.ob (pframe_some lo _ b sl M2 hB2.p n hn g grows hv (by omega)) ?_
      rintro _ ⟨e0, e1, e2, d0, d1, d2, M3, rfl, p3, g0, g1, g2, _⟩
      simp only [ret_int, ret_bool, ret_flt, ret_slc, ret_str, ret_ptr, ret_agg, ret_tup, ob_some, bb_true, bb_false, List.getElem?_cons_zero, List.getElem?_cons_succ, List.length_cons, List.length_nil, Nat.reduceAdd, Nat.reduceLT]
      have hp3 := hp2.trans p3
      have hB3 := hB2.pre p3
      have n1 := g1.new
      have i1 := g1.in_
      have hm := hB2.m.in_
      refine Evp.ret (spoil_loop2 lo A1 n2 c3 x4 _ _ p7 p8 (i : Int) Mi M3 M2.length M3.length hlo _ _ _ _ _ _ (some e0) (some e1) (some e2) _ _ g.x1.length _ _ _ hgw.small.2.1 (fun _ a e => by injection e with e; subst e; exact ⟨n1, i1⟩) (fun M4 hz4 hp4 => ?_) _ 0 M3 g.x1 rfl (by omega) (KeepZ.refl _ _ M3) hp3 rfl fun _ => ⟨e1, rfl, g1.floor l2⟩)
      have hB2l := hB2.lt
      have hB3l := hB2l.pre p3
      have kD : KeepS (fun x => x < M2.length) M3 M4 := fun x k hx hk => hz4.2 x k hk (by omega)
      have hb2 := hB2.p.in_
      have hB4 : Both (fun x => b' < x) M4 b b' sl p7 p8 slq := by
        have kS : KeepS (fun x => b' < x ∧ x < M2.length) M3 M4 := kD.mono fun x hx => hx.2
        refine ⟨(hB3l.p.keep (fun k hk => kD _ _ hb2 hk) kS).mono fun x hx => hx.1, (hB3l.m.keep (fun k hk => kD _ _ hm hk) kS).mono fun x hx => hx.1, ?_⟩
        rcases hB2l.q with q | ⟨bq, bn, h1, h2, h3, h4, h5, h6⟩
        · exact .inl q
        · exact .inr ⟨bq, bn, h1, h2, h3, h4, ((h5.pre p3).keep (fun k hk => kD _ _ h5.in_ hk) kS).mono fun x hx => hx.1, ((h6.pre p3).keep (fun k hk => kD _ _ h6.in_ hk) kS).mono fun x hx => hx.1⟩
      exact tell M4 _ _ _ _ _ _ _ _ _ _ _ _ _ _ _ hp4 hB4
theorem plays_loop (hn2 : n2 * 64 ≤ 140737488351232) : ∀ (d i : Nat) (M : Mem) (sl slq : Nat → Option SlotV) (p7 p8 : Option Addr), n2 - i = d → i ≤ n2 → i ≤ 20 → Pre Mi M → Both (fun x => b' < x) M b b' sl p7 p8 slq →
    Run P T lo F.zoetropelaw26_PoolPlays (zoetropelaw26_PoolPlays.c2036 A1 n2 c3 x4 (some ⟨b, 0, none⟩) (some ⟨b', 0, none⟩) p7 p8 (i : Int) M) fun r => r.1 = .bool true := by
  intro d
  induction d with
  | zero =>
    intro i M sl slq p7 p8 hdd hi h20 hp h
    refine Run.cut (Evp.of_eq (fun k => zoetropelaw26_PoolPlays.p2036 k ..) ?_)
    exact Evp.dec (fun h => absurd h (by omega)) fun _ => Evp.ret (plays_end lo Mi b b' hlo sl slq p7 p8 _ (-1) M rfl (by omega) (by omega) hp h)
  | succ d ih =>
    intro i M sl slq p7 p8 hdd hi h20 hp h
    have hin : i < n2 := by omega
    have l0 := hp.len
    have ib := h.p.in_
    have ib' := h.m.in_
    have hl := h.lt
    obtain ⟨a, y0, y1, y2, y3, y4, y5, y6, y7, hA, _⟩ := hd i hin
    have ha := hA1 (by omega) a hA
    have dosM : ∀ M', Pre Mi M' → DosAt M' A1 n2 := fun M' hp' => dos_keep hd fun a e k hk => hp' _ _ hk
    obtain ⟨a', x0, x1, x2, x3, x4', x5, x6, x7, hA', hld0⟩ := hd i hin
    have ea : a' = a := by rw [hA] at hA'; injection hA' with hA'; exact hA'.symm
    subst ea
    have hld : ∀ M', Pre Mi M' → ∀ j, j < 8 → M'.ld (plus a' (i * 8 + j)) = ([.int .i64 x0, .int .i64 x1, .int .i64 x2, .int .i64 x3, .int .i64 x4', .int .i64 x5, .int .i64 x6, .int .i64 x7] : List Value)[j]? := fun M' hp' j hj => by
      have h1 := hld0 j hj
      obtain ⟨v, hv⟩ : ∃ v, ([.int .i64 x0, .int .i64 x1, .int .i64 x2, .int .i64 x3, .int .i64 x4', .int .i64 x5, .int .i64 x6, .int .i64 x7] : List Value)[j]? = some v := ⟨_, List.getElem?_eq_getElem (by simpa using hj)⟩
      rw [hv] at h1 ⊢
      exact ld_keep h1 fun k hk => hp' _ _ hk
    have ldR : ∀ M', Pre Mi M' → (M'.ld (plus a' (i * 8))).bind (Value.int? .i64) = some x0 := fun M' hp' => by
      have := hld M' hp' 0 (by decide)
      rw [Nat.add_zero] at this
      rw [this]; simp [Value.int?]
    refine Run.cut (Evp.of_eq (fun k => zoetropelaw26_PoolPlays.p2036 k ..) ?_)
    refine Evp.dec (fun _ => ?_) fun h => absurd h (by omega)
    refine Evp.dec (fun hi20 => ?_) fun _ => Evp.ret (plays_end lo Mi b b' hlo sl slq p7 p8 _ (-1) M rfl (by omega) (by omega) hp h)
    refine Evp.pos (by omega) (Evp.some hA ?_)
    simp only [Int.toNat_natCast]
    refine evp_ld8 (hld M hp) ?_
    refine Evp.ob (mframe_ok lo M (by omega) x0 x1 x2 x3 x4' x5 x6 x7) ?_
    rintro _ ⟨f, A, B, C, ca, cb, cc, M1, rfl, p1, hf, hsm, hbuf⟩
    simp only [ret_int, ret_bool, ret_flt, ret_slc, ret_str, ret_ptr, ret_agg, ret_tup, ob_some, bb_true, bb_false, List.getElem?_cons_zero, List.getElem?_cons_succ, List.length_cons, List.length_nil, Nat.reduceAdd, Nat.reduceLT]
    have l1 := p1.len
    refine Evp.pos (by omega) (Evp.some hA ?_)
    refine evp_ld8r ha (hld M1 (hp.trans p1)) ?_
    refine Evp.ob (mset_ok lo M1 (by omega) x0 x1 x2 x3 x4' x5 x6 x7) ?_
    rintro _ ⟨As, rows, cs, M2, rfl, p2, hset, hsms, hfw⟩
    simp only [ret_int, ret_bool, ret_flt, ret_slc, ret_str, ret_ptr, ret_agg, ret_tup, ob_some, bb_true, bb_false, List.getElem?_cons_zero, List.getElem?_cons_succ, List.length_cons, List.length_nil, Nat.reduceAdd, Nat.reduceLT]
    have l2 := p2.len
    have p12 := p1.trans p2
    have hp2 := hp.trans p12
    refine Evp.pos (by omega) (Evp.some hA (Evp.some (ldR M2 hp2) ?_))
    have hB2 := hl.pre p12
    have hf2 : FrIs (fun x => M.length ≤ x) M2 A B C f := hf.keepS p2.keepS
    have next : ∀ (sl' : Nat → Option SlotV) (M' : Mem) (p7 p8 : Option Addr) (slq : Nat → Option SlotV), Pre Mi M' → Both (fun x => b' < x) M' b b' sl' p7 p8 slq → Run P T lo F.zoetropelaw26_PoolPlays (zoetropelaw26_PoolPlays.c2036 A1 n2 c3 x4 (some ⟨b, 0, none⟩) (some ⟨b', 0, none⟩) p7 p8 ((i + 1 : Nat) : Int) M') fun r => r.1 = .bool true := fun sl' M' p7 p8 slq q1 q2 =>
      ih (i + 1) M' sl' slq p7 p8 (by omega) (by omega) (by omega) q1 q2
    have hqb : ∀ a, (p7 = some a ∨ p8 = some a) → a.block < M.length := fun a e => by
      rcases h.q with ⟨e1, e2⟩ | ⟨bq, bn, e1, e2, _, _, h5, h6⟩
      · rcases e with e | e
        · rw [e1] at e; cases e
        · rw [e2] at e; cases e
      · have i5 := h5.in_
        have i6 := h6.in_
        rcases e with e | e
        · rw [e1] at e; injection e with e; rw [← e]; exact i5
        · rw [e2] at e; injection e with e; rw [← e]; exact i6
    have e50 : (plus a' (i * 8)).block < lo := by rw [plus_block]; exact ha
    by_cases hP : PutP x0 f rows
    · refine Evp.ob (put_ok lo _ b sl M2 A B C As ca cb cc cs f rows x0 _ hB2.p (by omega) _ hf2 hset hP (by omega)) ?_
      rintro _ ⟨M3, rfl, kb, l3, hq3⟩
      simp only [ret_int, ret_bool, ret_flt, ret_slc, ret_str, ret_ptr, ret_agg, ret_tup, ob_some, bb_true, bb_false, List.getElem?_cons_zero, List.getElem?_cons_succ, List.length_cons, List.length_nil, Nat.reduceAdd, Nat.reduceLT]
      have hp3 : Pre Mi M3 := kb.pre hp2 (by omega)
      refine Evp.pos (by omega) (Evp.some hA ?_)
      rw [if_pos e50]
      refine Evp.some (ldR M3 hp3) ?_
      have hm3 : RefIs (fun x => b' < x ∧ x < M.length) M3 b' sl := hB2.m.keep (fun k hk => kb _ _ hk (by omega)) (kb.keepS (by omega))
      have hf3 : FrIs (fun x => M.length ≤ x) M3 A B C f := hf2.keepS (kb.keepS (by omega))
      have hs3 : SetIs (fun x => M1.length ≤ x) M3 As rows := hset.keepS (kb.keepS (by omega))
      refine Evp.ob (rput_ok lo _ b' sl M3 A B C As ca cb cc cs f rows x0 _ _ hf3 hs3 hm3 (by omega) (by omega) (by omega) hP (by omega)) ?_
      rintro _ ⟨M4, rfl, kb', l4, hr4⟩
      simp only [ret_int, ret_bool, ret_flt, ret_slc, ret_str, ret_ptr, ret_agg, ret_tup, ob_some, bb_true, bb_false, List.getElem?_cons_zero, List.getElem?_cons_succ, List.length_cons, List.length_nil, Nat.reduceAdd, Nat.reduceLT]
      have hp4 : Pre Mi M4 := kb'.pre hp3 (by omega)
      refine Evp.ff rfl (Evp.ret ?_)
      have hq4 : QIs (fun x => b' < x ∧ x < M.length) M4 b' p7 p8 slq := hl.q.keep (D := fun x => x ≠ b ∧ x ≠ b') (fun x k hx hk => kb' x k (kb x k (p12 x k hk) hx.1) hx.2) (fun x h1 h2 => by omega) fun x hx => hx
      have kZ : KeepS (fun x => x ≠ b ∧ x ≠ b') M2 M4 := fun x k hx hk => kb' x k (kb x k hk hx.1) hx.2
      refine plays_rest lo Mi b b' hlo hbb A1 n2 c3 x4 hd hA1 i hin (by omega) M.length f A B C As ca cb cc cs rows M1.length M2.length M4 (putS sl x0 (f, rows)) slq p7 p8 hp4 hsm ⟨ib', l1, l2, by omega⟩ (fun h0 => ?_) ?_ ⟨?_, ?_, ?_⟩ hq4 hqb (next _)
      · obtain ⟨a0, q1, q2⟩ := hbuf h0
        have n0 := q2.new
        have i0 := q2.in_
        obtain ⟨k, w1, w2, w3, w4⟩ := (q2.floor (M0 := Mi) l0).pre p2
        exact ⟨a0, q1, ⟨k, w1, w2, kZ _ _ ⟨by omega, by omega⟩ w3, w4⟩, n0, i0⟩
      · exact (hfw.z (M0 := Mi) (by omega)).keepS (kZ.mono fun x hx => ⟨by omega, by omega⟩)
      · have hk : KeepS (fun x => ((b' < x ∧ x < M.length) ∨ M2.length ≤ x) ∧ x < M3.length) M3 M4 := kb'.keepS (by omega)
        exact (hq3.lt.keep (fun k hk => kb' _ _ hk (by omega)) hk).mono fun x hx => by omega
      · exact hr4.lt.mono fun x hx => by omega
      · exact hq4.mono fun x hx => .inl hx
    · have hb1 : ∀ row ∈ rows, row.length ≤ 140737488355328 ∧ ∀ t ∈ row, t.1.length ≤ 140737488355328 := fun row hr => ⟨by have := (hsms row hr).1; omega, fun t ht => by have := (hsms row hr).2 t ht; omega⟩
      refine Evp.ob (put_bad lo _ b sl M2 A B C As ca cb cc cs f rows x0 _ hB2.p hset hb1 hP) ?_
      rintro _ rfl
      simp only [ret_int, ret_bool, ret_flt, ret_slc, ret_str, ret_ptr, ret_agg, ret_tup, ob_some, bb_true, bb_false, List.getElem?_cons_zero, List.getElem?_cons_succ, List.length_cons, List.length_nil, Nat.reduceAdd, Nat.reduceLT]
      refine Evp.pos (by omega) (Evp.some hA ?_)
      rw [if_pos e50]
      refine Evp.some (ldR M2 hp2) ?_
      refine Evp.ob (rput_bad lo b' M2 A B C As ca cb cc cs f rows x0 _ hset (fun row hr => (hb1 row hr).1) hP) ?_
      rintro _ ⟨M4, rfl, p4⟩
      simp only [ret_int, ret_bool, ret_flt, ret_slc, ret_str, ret_ptr, ret_agg, ret_tup, ob_some, bb_true, bb_false, List.getElem?_cons_zero, List.getElem?_cons_succ, List.length_cons, List.length_nil, Nat.reduceAdd, Nat.reduceLT]
      have hp4 := hp2.trans p4
      have l4 := p4.len
      refine Evp.ff rfl (Evp.ret ?_)
      have hB4 := hB2.pre p4
      refine plays_rest lo Mi b b' hlo hbb A1 n2 c3 x4 hd hA1 i hin (by omega) M.length f A B C As ca cb cc cs rows M1.length M2.length M4 sl slq p7 p8 hp4 hsm ⟨ib', l1, l2, by omega⟩ (fun h0 => ?_) ?_ (hB4.mono fun x hx => .inl hx) hB4.q hqb (next _)
      · obtain ⟨a0, q1, q2⟩ := hbuf h0
        exact ⟨a0, q1, ((q2.floor (M0 := Mi) l0).pre p2).pre p4, q2.new, q2.in_⟩
      · exact (hfw.z (M0 := Mi) (by omega)).keepS p4.keepS
end
end
theorem plays_ok (lo : Nat) (M : Mem) (A1 : Option Addr) (n2 c3 : Nat) (x4 : Int) (hlo : lo ≤ M.length) (hd : DosAt M A1 n2) (hA1 : n2 ≠ 0 → ∀ a, A1 = some a → a.block < lo) (hn2 : n2 * 64 ≤ 140737488351232) :
    Ac P T lo F.zoetropelaw26_PoolPlays [.slice A1 n2 c3, .int .i64 x4] M fun r => r.1 = .bool true := by
  refine Ac.of (Evp.of_eq (fun k => zoetropelaw26_PoolPlays.entry k ..) ?_)
  refine Evp.ob (pnew_ok lo (fun x => M.length + 1 < x) M) ?_
  rintro _ ⟨M1, rfl, p1, l1, hp⟩
  simp only [ret_int, ret_bool, ret_flt, ret_slc, ret_str, ret_ptr, ret_agg, ret_tup, ob_some, bb_true, bb_false, List.getElem?_cons_zero, List.getElem?_cons_succ, List.length_cons, List.length_nil, Nat.reduceAdd, Nat.reduceLT]
  refine Evp.ob (rnew_ok lo (fun x => M.length + 1 < x) M1) ?_
  rintro _ ⟨M2, rfl, p2, l2, hm⟩
  simp only [ret_int, ret_bool, ret_flt, ret_slc, ret_str, ret_ptr, ret_agg, ret_tup, ob_some, bb_true, bb_false, List.getElem?_cons_zero, List.getElem?_cons_succ, List.length_cons, List.length_nil, Nat.reduceAdd, Nat.reduceLT]
  rw [l1] at hm ⊢
  refine Evp.ff rfl (Evp.ret ?_)
  exact plays_loop lo M M.length (M.length + 1) hlo ⟨Nat.le_refl _, by omega⟩ A1 n2 c3 x4 hd hA1 hn2 _ 0 M2 (fun _ => none) (fun _ => none) none none rfl (by omega) (by omega) (p1.trans p2) ⟨hp.pre p2, hm, .inl ⟨rfl, rfl⟩⟩
end Go.Zt
