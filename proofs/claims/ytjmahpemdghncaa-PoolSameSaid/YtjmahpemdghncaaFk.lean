/- PoolSame. -/
import Derived.Test.YtjmahpemdghncaaFj
set_option linter.unusedVariables false
set_option linter.unusedSimpArgs false
set_option maxRecDepth 100000
namespace Go.Zt
theorem OnS.lt {S : Nat → Prop} {M : Mem} {k : IntKind} {A : Option Addr} {xs : List Int} (h : OnS S A) (hr : RdI M k A xs) (h0 : xs.length ≠ 0) : OnS (fun b => S b ∧ b < M.length) A := fun a ha => by
  obtain ⟨a', e, hl, _⟩ := hr.ld (i := 0) (by omega)
  rw [ha] at e; injection e with e
  exact ⟨h a ha, by rw [e]; exact hl⟩
theorem PoolIs.lt {S : Nat → Prop} {M : Mem} {b : Nat} {sl : Nat → Option SlotV} (h : PoolIs S M b sl) : PoolIs (fun x => S x ∧ x < M.length) M b sl := by
  obtain ⟨R, h1, h2⟩ := h
  refine ⟨R, h1, fun n hn => ?_⟩
  have h := h2 n hn
  cases ho : sl n with
  | none => rw [ho] at h; exact h
  | some v =>
    obtain ⟨f, rows⟩ := v
    rw [ho] at h
    have h : SlotS S M (R n) f rows := h
    obtain ⟨z0, z1, z2⟩ := h.fw.len
    have hne := h.sp.ne
    exact (show SlotS _ M (R n) f rows from { h with
      fr := ⟨h.fr.o0.lt h.fr.r0 z0.1, h.fr.o1.lt h.fr.r1 z1.1, h.fr.o2.lt h.fr.r2 z2.1, h.fr.r0, h.fr.r1, h.fr.r2⟩
      set := h.set.lt (by omega) fun row hr => ⟨(hne.2 row hr).1, fun t ht => ((hne.2 row hr).2.2 t ht).1⟩ })
theorem bookL_congr {g g' : Nat → Int} (h : ∀ j, j < 8 → g j = g' j) : bookL g = bookL g' := by
  unfold bookL
  apply List.map_congr_left
  intro j hj
  rw [h j (List.mem_range.1 hj)]
def InK (g : Nat → Int) : Prop := ∀ k, 0 ≤ g k ∧ g k ≤ 4
theorem upK_in {g : Nat → Int} (h : InK g) (x : Int) : InK (upK g x) := fun k => by
  have := kind_b x
  have := h k
  unfold upK
  split <;> omega
theorem fr16_inj {v w : Int} (h : fr16 v = fr16 w) : v = w := by
  have := congrArg (fun f => f.x0.getD 0 0) h
  simpa [fr16] using this
theorem slotOfK_inj {g g' : Nat → Int} (h : InK g) (h' : InK g') (k : Nat) (e : slotOfK g k = slotOfK g' k) : g k = g' k := by
  have a1 := h k
  have a2 := h' k
  unfold slotOfK at e
  by_cases h1 : g k > 0
  · by_cases h2 : g' k > 0
    · rw [if_pos h1, if_pos h2] at e
      injection e with e
      injection e with e _
      have := fr16_inj e
      omega
    · rw [if_pos h1, if_neg h2] at e; cases e
  · by_cases h2 : g' k > 0
    · rw [if_neg h1, if_pos h2] at e; cases e
    · omega
def list8 (g : Nat → Int) : List Int := [g 0, g 1, g 2, g 3, g 4, g 5, g 6, g 7]
theorem list8_eq {g g' : Nat → Int} : list8 g = list8 g' ↔ ∀ k, k < 8 → g k = g' k := by
  constructor
  · intro h k hk
    unfold list8 at h
    injection h with h0 h
    injection h with h1 h
    injection h with h2 h
    injection h with h3 h
    injection h with h4 h
    injection h with h5 h
    injection h with h6 h
    injection h with h7 h
    match k, hk with
    | 0, _ => exact h0
    | 1, _ => exact h1
    | 2, _ => exact h2
    | 3, _ => exact h3
    | 4, _ => exact h4
    | 5, _ => exact h5
    | 6, _ => exact h6
    | 7, _ => exact h7
    | k + 8, h => omega
  · intro h
    unfold list8
    rw [h 0 (by decide), h 1 (by decide), h 2 (by decide), h 3 (by decide), h 4 (by decide), h 5 (by decide), h 6 (by decide), h 7 (by decide)]
theorem same_book {g g' : Nat → Int} (h : InK g) (h' : InK g') : decide (SameSl (slotOfK g) (slotOfK g')) = decide (list8 g = list8 g') :=
  decide_eq_decide.2 ⟨fun e => list8_eq.2 fun k hk => slotOfK_inj h h' k (e k hk), fun e k hk => slotOfK_congr (list8_eq.1 e) k hk⟩
theorem same_sym (sl sl' : Nat → Option SlotV) : decide (SameSl sl' sl) = decide (SameSl sl sl') := decide_eq_decide.2 ⟨fun h n hn => (h n hn).symm, fun h n hn => (h n hn).symm⟩
theorem keys8 (g : Nat → Int) (h : InK g) : P.keyLits 9 26 [.int .i64 (g 0), .int .i64 (g 1), .int .i64 (g 2), .int .i64 (g 3), .int .i64 (g 4), .int .i64 (g 5), .int .i64 (g 6), .int .i64 (g 7)] = some ((list8 g).map (Lit.int .i64)) :=
  keyLits_ints (l := list8 g) (d := 7) (e := 3) (n := 8) Go.Proofs.Try.underlying26 Go.Proofs.Try.underlying3 (by kernel_rfl) (by kernel_rfl) rfl fun x hx => by
    have : ∃ k, x = g k := by
      simp only [list8, List.mem_cons, List.not_mem_nil, or_false] at hx
      rcases hx with h | h | h | h | h | h | h | h <;> exact ⟨_, h⟩
    obtain ⟨k, rfl⟩ := this
    have := h k
    simp [Lit.wf, IntKind.min, IntKind.max, IntKind.signed, IntKind.bits]
    omega
section
variable (lo : Nat)
theorem put_okn (S : Nat → Prop) (b : Nat) (sl : Nat → Option SlotV) (M : Mem) (A0 A1 A2 As : Option Addr) (n0 n1 n2 ns c0 c1 c2 cs : Nat) (f : FrV) (rows : List (List Tb)) (r w0 h0 w1 h1 w2 h2 : Int) (S' : Nat → Prop) (h : PoolIs S M b sl) (hSb : ¬ S b) (S2 : Nat → Prop) (hfr : FrIs S2 M A0 A1 A2 f) (hset : SetIs S' M As rows) (hp : PutP r f rows) (hlo : lo ≤ b)
    (e0 : n0 = f.x0.length) (e1 : n1 = f.x1.length) (e2 : n2 = f.x2.length) (es : ns = rows.length) (e3 : w0 = f.w0) (e4 : h0 = f.h0) (e5 : w1 = f.w1) (e6 : h1 = f.h1) (e7 : w2 = f.w2) (e8 : h2 = f.h2) :
    Ac P T lo F.pool_Pool_Put [.pointer (some ⟨b, 0, none⟩), .int .i64 r, .agg ⟨[.int .i64 w0, .int .i64 h0, .slice A0 n0 c0, .int .i64 w1, .int .i64 h1, .slice A1 n1 c1, .int .i64 w2, .int .i64 h2, .slice A2 n2 c2]⟩, .agg ⟨[.slice As ns cs]⟩] M fun q => ∃ M', q = (.int .i64 0, M') ∧ KeepB b M M' ∧ M.length ≤ M'.length ∧ PoolIs (fun x => S x ∨ M.length ≤ x) M' b (putS sl r (f, rows)) := by
  subst e0 e1 e2 es e3 e4 e5 e6 e7 e8
  exact put_ok lo S b sl M A0 A1 A2 As c0 c1 c2 cs f rows r S' h hSb S2 hfr hset hp hlo
/-- Behind both lists. -/
theorem same_tail (M0 : Mem) (bp bq : Nat) (hlo : lo ≤ M0.length) (hbp : M0.length ≤ bp) (hbq : bp < bq) (A1 : Option Addr) (c3 : Nat) (l : List Int) (hx : RdI M0 .i64 A1 l) (hn : l.length * 8 ≤ 140737488351232) (x7 : Int) (gp : Nat → Int) (kp : InK gp) :
    ∀ (d i : Nat) (M : Mem) (gq : Nat → Int), l.length - i = d → i ≤ l.length → i ≤ 12 → Pre M0 M → PoolIs (fun x => bq < x) M bp (slotOfK gp) → PoolIs (fun x => bq < x) M bq (slotOfK gq) → InK gq →
      Run P T lo F.zoetropelaw26_PoolSame (zoetropelaw26_PoolSame.c1012 A1 l.length c3 x7 (some ⟨bp, 0, none⟩) (some ⟨bq, 0, none⟩) (i : Int) (bookL gp) (bookL gq) M) fun r => r.1 = .bool true := by
  intro d
  induction d using Nat.strongRecOn with
  | ind d ih =>
  intro i M gq hd hi hi2 hp hP hQ kq
  have l0 := hp.len
  have inp := hP.in_
  have inq := hQ.in_
  refine Run.cut (Evp.of_eq (fun k => zoetropelaw26_PoolSame.p1012 k ..) ?_)
  refine Evp.dec (fun h1 => Evp.dec (fun h2 => ?step) fun _ => ?t1) fun _ => ?t2
  case step =>
    have hil : i < l.length := by omega
    refine Evp.pos (by omega) ?_
    simp only [Int.toNat_natCast]
    refine Evp.ldI (hx.pre hp) hil fun _ _ => ?_
    have hk3 := kind_b (l.getD i 0)
    rw [kind_eq, wu8 (x := kindS (l.getD i 0)) (by omega)]
    refine Evp.ob (frame16_ok lo _ M (by omega)) ?_
    rintro _ ⟨a0, a1, a2, c0, c1, c2, M1, rfl, p1, b0, b1, b2, _⟩
    simp only [ret_int, ret_bool, ret_flt, ret_slc, ret_str, ret_ptr, ret_agg, ret_tup, ob_some, bb_true, bb_false, List.getElem?_cons_zero, List.getElem?_cons_succ, List.length_cons, List.length_nil, Nat.reduceAdd, Nat.reduceLT]
    refine Evp.pos (by omega) ?_
    obtain ⟨a, hA, hab, hld⟩ := (hx.pre (hp.trans p1)).ld hil
    refine Evp.some hA ?_
    rw [if_pos (by rw [plus_eq]; exact hab), hld]
    refine Evp.some rfl ?_
    have l1 := p1.len
    refine Evp.ob (default_ok _ M1 (Nat.le_refl _)) ?_
    rintro _ ⟨As, cs, M2, rfl, p2, hs⟩
    simp only [ret_int, ret_bool, ret_flt, ret_slc, ret_str, ret_ptr, ret_agg, ret_tup, ob_some, bb_true, bb_false, List.getElem?_cons_zero, List.getElem?_cons_succ, List.length_cons, List.length_nil, Nat.reduceAdd, Nat.reduceLT]
    have l2 := p2.len
    have hr := and_mask (x := l.getD i 0) 8 (by omega)
    rw [show ((2 : Int) ^ 8 - 1) = 255 from rfl, show ((2 : Int) ^ 8) = 256 from rfl] at hr
    rw [hr]
    refine Evp.ob (put_ok lo (fun x => bq < x) bq (slotOfK gq) M2 (some a0) (some a1) (some a2) As c0 c1 c2 cs (fr16 (kindS (l.getD i 0))) defSet (l.getD i 0 % 256) _ (hQ.pre (p1.trans p2)) (by omega) (fun _ => True) (bufs_fr (b0.pre p2) (b1.pre p2) (b2.pre p2) fun _ _ => trivial) hs ⟨by omega, by omega, fr16_whole _, defSet_ok⟩ (by omega)) ?_
    rintro _ ⟨M3, rfl, kb, l3, hp3⟩
    simp only [ret_int, ret_bool, ret_flt, ret_slc, ret_str, ret_ptr, ret_agg, ret_tup, ob_some, bb_true, bb_false, List.getElem?_cons_zero, List.getElem?_cons_succ, List.length_cons, List.length_nil, Nat.reduceAdd, Nat.reduceLT]
    rw [slotOfK_put] at hp3
    have q0 : Pre M0 M3 := kb.pre (hp.trans (p1.trans p2)) (by omega)
    have hP3 : PoolIs (fun x => bq < x) M3 bp (slotOfK gp) := (hP.pre (p1.trans p2)).keep (fun k hk => kb _ _ hk (by omega)) (kb.keepS (by omega))
    refine Evp.ret (sameB_step lo A1 l.length c3 x7 bp bq M0 l rfl hx hlo hbp hbq hn i hil (by omega) gp gq M hp hP hQ (fun M' r1 r2 r3 => ?_) trivial _ ⟨M3, q0, hP3, hp3.mono fun x h => by omega, rfl⟩)
    rw [bookL_congr (g := fun j => if j < 8 ∧ bitS (l.getD i 0 % 256) j = true then 1 + kindS (l.getD i 0) else gq j) (g' := upK gq (l.getD i 0)) fun j hj => by unfold upK; simp only [hj, true_and]]
    exact ih (d - 1) (by omega) (i + 1) M' (upK gq (l.getD i 0)) (by omega) (by omega) (by omega) r1 r2 r3 (upK_in kq _)
  all_goals
    refine Evp.ob (psame_ok lo _ _ _ _ _ _ M hP hQ (by omega)) ?_
    rintro _ ⟨M1, rfl, p1⟩
    simp only [ret_int, ret_bool, ret_flt, ret_slc, ret_str, ret_ptr, ret_agg, ret_tup, ob_some, bb_true, bb_false, List.getElem?_cons_zero, List.getElem?_cons_succ, List.length_cons, List.length_nil, Nat.reduceAdd, Nat.reduceLT]
    have l1 := p1.len
    refine Evp.some rfl (Evp.some rfl (Evp.some rfl (Evp.some rfl (Evp.some rfl (Evp.some rfl (Evp.some rfl (Evp.some rfl ?_)))))))
    refine Evp.some rfl (Evp.some rfl (Evp.some rfl (Evp.some rfl (Evp.some rfl (Evp.some rfl (Evp.some rfl (Evp.some rfl ?_)))))))
    refine Evp.some (keys8 gp kp) (Evp.some (keys8 gq kq) ?_)
    rw [sameLits_ints, same_book kp kq]
    refine Evp.ff (by simp) ?_
    refine Evp.ob (psame_ok lo _ _ _ _ _ _ M1 (hQ.pre p1) (hP.pre p1) (by omega)) ?_
    rintro _ ⟨M2, rfl, p2⟩
    simp only [ret_int, ret_bool, ret_flt, ret_slc, ret_str, ret_ptr, ret_agg, ret_tup, ob_some, bb_true, bb_false, List.getElem?_cons_zero, List.getElem?_cons_succ, List.length_cons, List.length_nil, Nat.reduceAdd, Nat.reduceLT]
    have l2 := p2.len
    refine Evp.some rfl (Evp.some rfl (Evp.some rfl (Evp.some rfl (Evp.some rfl (Evp.some rfl (Evp.some rfl (Evp.some rfl ?_)))))))
    refine Evp.some rfl (Evp.some rfl (Evp.some rfl (Evp.some rfl (Evp.some rfl (Evp.some rfl (Evp.some rfl (Evp.some rfl ?_)))))))
    refine Evp.some (keys8 gp kp) (Evp.some (keys8 gq kq) ?_)
    rw [sameLits_ints, same_sym, same_book kp kq]
    refine Evp.ff (by simp) ?_
    have hP2 := hP.pre (p1.trans p2)
    refine Evp.ob (psame_ok lo _ _ _ _ _ _ M2 hP2 hP2 (by omega)) ?_
    rintro _ ⟨M3, rfl, p3⟩
    simp only [ret_int, ret_bool, ret_flt, ret_slc, ret_str, ret_ptr, ret_agg, ret_tup, ob_some, bb_true, bb_false, List.getElem?_cons_zero, List.getElem?_cons_succ, List.length_cons, List.length_nil, Nat.reduceAdd, Nat.reduceLT]
    have l3 := p3.len
    refine Evp.ff (by rw [decide_eq_true (show SameSl _ _ from fun n _ => rfl)]; rfl) ?_
    refine Evp.ob (bring_ok _ _ _ _ (by omega)) ?_
    rintro _ rfl
    simp only [ret_int, ret_bool, ret_flt, ret_slc, ret_str, ret_ptr, ret_agg, ret_tup, ob_some, bb_true, bb_false, List.getElem?_cons_zero, List.getElem?_cons_succ, List.length_cons, List.length_nil, Nat.reduceAdd, Nat.reduceLT]
    obtain ⟨hb1, hb2⟩ := bringS_lt (i := x7) (n := 8) (by omega)
    obtain ⟨k, hk⟩ : ∃ k : Nat, bringS x7 8 = (k : Int) := ⟨(bringS x7 8).toNat, by omega⟩
    rw [hk] at hb2 ⊢
    have hk8 : k < 8 := by omega
    refine Evp.pos (by omega) ?_
    simp only [Int.toNat_natCast]
    refine Evp.some (bookL_get gp k hk8) ?_
    refine Evp.eqb (fun _ => Evp.ret (Run.ret rfl)) fun hg => ?_
    have hg0 : gp k > 0 := by have := kp k; omega
    have hslot : slotOfK gp k = some (fr16 (gp k - 1), defSet) := by unfold slotOfK; rw [if_pos hg0]
    have hP3 := (hP2.pre p3).lt
    refine Evp.ob (pcopy_ok lo _ bp _ M3 hP3 (by omega)) ?_
    rintro _ ⟨M4, rfl, p4, l4, hC⟩
    simp only [ret_int, ret_bool, ret_flt, ret_slc, ret_str, ret_ptr, ret_agg, ret_tup, ob_some, bb_true, bb_false, List.getElem?_cons_zero, List.getElem?_cons_succ, List.length_cons, List.length_nil, Nat.reduceAdd, Nat.reduceLT]
    have hP4 := hP3.pre p4
    refine Evp.ob (pframe_some lo _ bp _ M4 hP4 k hk8 _ _ hslot (by omega)) ?_
    rintro _ ⟨e0, e1, e2, d0, d1, d2, M5, rfl, p5, b0, b1, b2, ne1, ne2, ne3⟩
    simp only [ret_int, ret_bool, ret_flt, ret_slc, ret_str, ret_ptr, ret_agg, ret_tup, ob_some, bb_true, bb_false, List.getElem?_cons_zero, List.getElem?_cons_succ, List.length_cons, List.length_nil, Nat.reduceAdd, Nat.reduceLT]
    have l5 := p5.len
    refine Evp.ff rfl (Evp.ff rfl ?_)
    have hP5 := hP4.pre p5
    have hC5 := hC.pre p5
    refine Evp.ob (psame_ok lo _ _ _ _ _ _ M5 hC5 hP5 (by omega)) ?_
    rintro _ ⟨M6, rfl, p6⟩
    simp only [ret_int, ret_bool, ret_flt, ret_slc, ret_str, ret_ptr, ret_agg, ret_tup, ob_some, bb_true, bb_false, List.getElem?_cons_zero, List.getElem?_cons_succ, List.length_cons, List.length_nil, Nat.reduceAdd, Nat.reduceLT]
    have l6 := p6.len
    refine Evp.ff (by rw [decide_eq_true (show SameSl _ _ from fun n _ => rfl)]; rfl) ?_
    have hm := and_mask (x := x7) 6 (by omega)
    rw [show ((2 : Int) ^ 6 - 1) = 63 from rfl, show ((2 : Int) ^ 6) = 64 from rfl] at hm
    rw [hm]
    obtain ⟨j, hj⟩ : ∃ j : Nat, x7 % 64 = (j : Int) := ⟨(x7 % 64).toNat, by omega⟩
    have hj64 : j < 64 := by omega
    rw [hj]
    simp only [Int.toNat_natCast]
    have z1 := (fr16_len (gp k - 1)).2.1
    refine Evp.pos (by rw [z1]; omega) ?_
    obtain ⟨a, ha, _, hld⟩ := (b1.rdI.pre p6).ld (i := j) (by rw [z1]; exact hj64)
    refine Evp.some ha (Evp.some (b := (fr16 (gp k - 1)).x1.getD j 0) (by rw [hld]; rfl) ?_)
    refine Evp.pos (by rw [z1]; omega) (Evp.some rfl ?_)
    have n1 := b1.new
    have n0 := b0.new
    have n2 := b2.new
    obtain ⟨M7, g1, g2, g3, g4, g5⟩ := ((b1.floor (M0 := M0) (by omega)).pre p6).st (lo := lo) (i := j) (vs := [.int .u8 (IntKind.u8.wrap ((fr16 (gp k - 1)).x1.getD j 0 + 1))]) (((((hp.trans (p1.trans p2)).trans p3).trans p4).trans p5).trans p6) hlo (by simp [fr16]; omega)
    refine Evp.some g1 (Evp.neg (by omega) ?_)
    rw [setL_one, set_map] at g2
    refine Evp.ob (default_ok lo M7 (by omega)) ?_
    rintro _ ⟨As, cs, M8, rfl, p8, hs⟩
    simp only [ret_int, ret_bool, ret_flt, ret_slc, ret_str, ret_ptr, ret_agg, ret_tup, ob_some, bb_true, bb_false, List.getElem?_cons_zero, List.getElem?_cons_succ, List.length_cons, List.length_nil, Nat.reduceAdd, Nat.reduceLT]
    have l8 := p8.len
    rw [shl_one k (by omega)]
    have hkeep : KeepS (fun x => bq < x ∧ x < M3.length) M6 M7 := g4.keepS fun a0 e h => by injection e with e; subst e; omega
    have hC8 : PoolIs (fun x => bq < x ∧ x < M3.length) M8 M3.length (slotOfK gp) := (((hC.pre (p5.trans p6)).keep (fun k hk => g4 _ _ hk fun a0 e => by injection e with e; subst e; omega) hkeep).pre p8)
    have hP8 : PoolIs (fun x => bq < x ∧ x < M3.length) M8 bp (slotOfK gp) := (((hP4.pre (p5.trans p6)).keep (fun k hk => g4 _ _ hk fun a0 e => by injection e with e; subst e; omega) hkeep).pre p8)
    obtain ⟨f', hf'⟩ : ∃ f' : FrV, f' = { fr16 (gp k - 1) with x1 := (fr16 (gp k - 1)).x1.set j (IntKind.u8.wrap ((fr16 (gp k - 1)).x1.getD j 0 + 1)) } := ⟨_, rfl⟩
    have q1 : f'.x0 = (fr16 (gp k - 1)).x0 := by rw [hf']
    have q2 : f'.x1 = (fr16 (gp k - 1)).x1.set j (IntKind.u8.wrap ((fr16 (gp k - 1)).x1.getD j 0 + 1)) := by rw [hf']
    have q3 : f'.x2 = (fr16 (gp k - 1)).x2 := by rw [hf']
    have hwf : WholeF f' := by
      have := fr16_whole (gp k - 1)
      unfold WholeF at this ⊢
      rw [q1, q2, q3, List.length_set, hf']
      exact this
    have hfr : FrIs (fun _ => True) M8 (some e0) (some e1) (some e2) f' := by
      refine ⟨fun _ _ => trivial, fun _ _ => trivial, fun _ _ => trivial, ?_, ?_, ?_⟩
      · rw [q1]; exact (((b0.pre p6).keep g4 fun a0 e => by injection e with e; subst e; exact fun h => ne1 h.symm).rdI).pre p8
      · rw [q2]; exact (g2.rdI).pre p8
      · rw [q3]; exact (((b2.pre p6).keep g4 fun a0 e => by injection e with e; subst e; exact fun h => ne3 h).rdI).pre p8
    have hpw : (1 : Int) ≤ 2 ^ k ∧ (2 : Int) ^ k ≤ 128 := by
      have h1 : (2 : Nat) ^ k ≤ 2 ^ 7 := Nat.pow_le_pow_right (by decide) (by omega)
      have h2 : ((2 ^ k : Nat) : Int) = (2 : Int) ^ k := by simp
      have h3 : 0 < (2 : Nat) ^ k := Nat.two_pow_pos k
      omega
    refine Evp.ob (put_okn lo _ M3.length (slotOfK gp) M8 (some e0) (some e1) (some e2) As _ _ _ _ d0 d1 d2 cs f' defSet (2 ^ k) _ _ _ _ _ _ _ hC8 (by omega) _ hfr hs ⟨by omega, by omega, hwf, defSet_ok⟩ (by omega) (by rw [q1]) (by rw [q2, List.length_set]) (by rw [q3]) rfl (by rw [hf']) (by rw [hf']) (by rw [hf']) (by rw [hf']) (by rw [hf']) (by rw [hf'])) ?_
    rintro _ ⟨M9, rfl, kb, l9, hC9⟩
    simp only [ret_int, ret_bool, ret_flt, ret_slc, ret_str, ret_ptr, ret_agg, ret_tup, ob_some, bb_true, bb_false, List.getElem?_cons_zero, List.getElem?_cons_succ, List.length_cons, List.length_nil, Nat.reduceAdd, Nat.reduceLT]
    refine Evp.tt rfl ?_
    have hP9 : PoolIs (fun x => bq < x ∧ x < M3.length) M9 bp (slotOfK gp) := hP8.keep (fun k hk => kb _ _ hk (by omega)) (kb.keepS (by omega))
    refine Evp.ob (psame_ok lo _ _ _ _ _ _ M9 hC9 hP9 (by omega)) ?_
    rintro _ ⟨M10, rfl, p10⟩
    simp only [ret_int, ret_bool, ret_flt, ret_slc, ret_str, ret_ptr, ret_agg, ret_tup, ob_some, bb_true, bb_false, List.getElem?_cons_zero, List.getElem?_cons_succ, List.length_cons, List.length_nil, Nat.reduceAdd, Nat.reduceLT]
    refine Evp.ret (Run.ret ?_)
    have : ¬ SameSl (putS (slotOfK gp) (2 ^ k) (f', defSet)) (slotOfK gp) := fun h => by
      have h := h k hk8
      unfold putS at h
      have hbit : bitS (2 ^ k) k = true := by
        unfold bitS
        rw [Int.ediv_self (by omega)]; rfl
      rw [if_pos hbit, hslot] at h
      injection h with h
      injection h with h _
      have h := congrArg (fun f => f.x1.getD j 0) h
      rw [q2, getD_set (by rw [z1]; exact hj64), if_pos rfl] at h
      have hv : (fr16 (gp k - 1)).x1.getD j 0 = gp k - 1 := by
        show (List.replicate 64 (gp k - 1)).getD j 0 = gp k - 1
        rw [List.getD_eq_getElem?_getD, List.getElem?_replicate, if_pos hj64]; rfl
      have := kp k
      rw [hv, wu8 (by omega)] at h
      omega
    rw [decide_eq_false this]; rfl
theorem sameA_loop (M0 : Mem) (bp bq : Nat) (hlo : lo ≤ M0.length) (hbp : M0.length ≤ bp) (hbq : bp < bq) (A1 A4 : Option Addr) (c3 c6 : Nat) (l l' : List Int) (hx : RdI M0 .i64 A1 l) (hx' : RdI M0 .i64 A4 l') (hn : l.length * 8 ≤ 140737488351232) (hn' : l'.length * 8 ≤ 140737488351232) (x7 : Int) (gq : Nat → Int) (kq : InK gq) :
    ∀ (d i : Nat) (M : Mem) (gp : Nat → Int), l.length - i = d → i ≤ l.length → i ≤ 12 → Pre M0 M → PoolIs (fun x => bq < x) M bp (slotOfK gp) → PoolIs (fun x => bq < x) M bq (slotOfK gq) → InK gp →
      Run P T lo F.zoetropelaw26_PoolSame (zoetropelaw26_PoolSame.c500 A1 l.length c3 A4 l'.length c6 x7 (some ⟨bp, 0, none⟩) (some ⟨bq, 0, none⟩) (i : Int) (bookL gp) (bookL gq) M) fun r => r.1 = .bool true := by
  intro d
  induction d using Nat.strongRecOn with
  | ind d ih =>
  intro i M gp hd hi hi2 hp hP hQ kp
  have l0 := hp.len
  have inp := hP.in_
  have inq := hQ.in_
  have tail : Run P T lo F.zoetropelaw26_PoolSame (zoetropelaw26_PoolSame.c1012 A4 l'.length c6 x7 (some ⟨bp, 0, none⟩) (some ⟨bq, 0, none⟩) 0 (bookL gp) (bookL gq) M) fun r => r.1 = .bool true :=
    same_tail lo M0 bp bq hlo hbp hbq A4 c6 l' hx' hn' x7 gp kp _ 0 M gq rfl (by omega) (by omega) hp hP hQ kq
  refine Run.cut (Evp.of_eq (fun k => zoetropelaw26_PoolSame.p500 k ..) ?_)
  refine Evp.dec (fun h1 => Evp.dec (fun h2 => ?_) fun _ => Evp.ret tail) fun _ => Evp.ret tail
  have hil : i < l.length := by omega
  refine Evp.pos (by omega) ?_
  simp only [Int.toNat_natCast]
  refine Evp.ldI (hx.pre hp) hil fun _ _ => ?_
  have hk3 := kind_b (l.getD i 0)
  rw [kind_eq, wu8 (x := kindS (l.getD i 0)) (by omega)]
  refine Evp.ob (frame16_ok lo _ M (by omega)) ?_
  rintro _ ⟨a0, a1, a2, c0, c1, c2, M1, rfl, p1, b0, b1, b2, _⟩
  simp only [ret_int, ret_bool, ret_flt, ret_slc, ret_str, ret_ptr, ret_agg, ret_tup, ob_some, bb_true, bb_false, List.getElem?_cons_zero, List.getElem?_cons_succ, List.length_cons, List.length_nil, Nat.reduceAdd, Nat.reduceLT]
  refine Evp.pos (by omega) ?_
  obtain ⟨a, hA, hab, hld⟩ := (hx.pre (hp.trans p1)).ld hil
  refine Evp.some hA ?_
  rw [if_pos (by rw [plus_eq]; exact hab), hld]
  refine Evp.some rfl ?_
  have l1 := p1.len
  refine Evp.ob (default_ok _ M1 (Nat.le_refl _)) ?_
  rintro _ ⟨As, cs, M2, rfl, p2, hs⟩
  simp only [ret_int, ret_bool, ret_flt, ret_slc, ret_str, ret_ptr, ret_agg, ret_tup, ob_some, bb_true, bb_false, List.getElem?_cons_zero, List.getElem?_cons_succ, List.length_cons, List.length_nil, Nat.reduceAdd, Nat.reduceLT]
  have l2 := p2.len
  have hr := and_mask (x := l.getD i 0) 8 (by omega)
  rw [show ((2 : Int) ^ 8 - 1) = 255 from rfl, show ((2 : Int) ^ 8) = 256 from rfl] at hr
  rw [hr]
  refine Evp.ob (put_ok lo (fun x => bq < x) bp (slotOfK gp) M2 (some a0) (some a1) (some a2) As c0 c1 c2 cs (fr16 (kindS (l.getD i 0))) defSet (l.getD i 0 % 256) _ (hP.pre (p1.trans p2)) (by omega) (fun _ => True) (bufs_fr (b0.pre p2) (b1.pre p2) (b2.pre p2) fun _ _ => trivial) hs ⟨by omega, by omega, fr16_whole _, defSet_ok⟩ (by omega)) ?_
  rintro _ ⟨M3, rfl, kb, l3, hp3⟩
  simp only [ret_int, ret_bool, ret_flt, ret_slc, ret_str, ret_ptr, ret_agg, ret_tup, ob_some, bb_true, bb_false, List.getElem?_cons_zero, List.getElem?_cons_succ, List.length_cons, List.length_nil, Nat.reduceAdd, Nat.reduceLT]
  rw [slotOfK_put] at hp3
  have q0 : Pre M0 M3 := kb.pre (hp.trans (p1.trans p2)) (by omega)
  have hQ3 : PoolIs (fun x => bq < x) M3 bq (slotOfK gq) := (hQ.pre (p1.trans p2)).keep (fun k hk => kb _ _ hk (by omega)) (kb.keepS (by omega))
  refine Evp.ret (sameA_step lo A1 A4 l.length c3 l'.length c6 x7 bp bq M0 l rfl hx hlo hbp hbq hn i hil (by omega) gp gq M hp hP hQ (fun M' r1 r2 r3 => ?_) trivial _ ⟨M3, q0, hp3.mono fun x h => by omega, hQ3, rfl⟩)
  rw [bookL_congr (g := fun j => if j < 8 ∧ bitS (l.getD i 0 % 256) j = true then 1 + kindS (l.getD i 0) else gp j) (g' := upK gp (l.getD i 0)) fun j hj => by unfold upK; simp only [hj, true_and]]
  exact ih (d - 1) (by omega) (i + 1) M' (upK gp (l.getD i 0)) (by omega) (by omega) (by omega) r1 r2 r3 (upK_in kp _)
end
theorem PoolSame_law (M : Mem) (vs : List Value) (hro : AllRo M) (hv : LaysArgs P M [22, 22, 3] vs) : Ac P T M.length F.zoetropelaw26_PoolSame vs M fun r => r.1 = .bool true := by
  obtain ⟨A, c, l, A', c', l', x, rfl, hc, hn, hx, _, hc', hn', hx', _⟩ := Arg.PoolSame hv
  refine Ac.of (Evp.of_eq (fun k => zoetropelaw26_PoolSame.entry k ..) ?_)
  refine Evp.ob (awake_ok _ M (Nat.le_refl _)) ?_
  rintro _ ⟨M1, rfl, p1⟩
  simp only [ret_int, ret_bool, ret_flt, ret_slc, ret_str, ret_ptr, ret_agg, ret_tup, ob_some, bb_true, bb_false, List.getElem?_cons_zero, List.getElem?_cons_succ, List.length_cons, List.length_nil, Nat.reduceAdd, Nat.reduceLT]
  refine Evp.ff rfl ?_
  have l1 := p1.len
  refine Evp.ob (pnew_ok _ (fun x => M1.length + 1 < x) M1) ?_
  rintro _ ⟨M2, rfl, p2, l2, hp⟩
  simp only [ret_int, ret_bool, ret_flt, ret_slc, ret_str, ret_ptr, ret_agg, ret_tup, ob_some, bb_true, bb_false, List.getElem?_cons_zero, List.getElem?_cons_succ, List.length_cons, List.length_nil, Nat.reduceAdd, Nat.reduceLT]
  refine Evp.ob (pnew_ok _ (fun x => M1.length + 1 < x) M2) ?_
  rintro _ ⟨M3, rfl, p3, l3, hq⟩
  simp only [ret_int, ret_bool, ret_flt, ret_slc, ret_str, ret_ptr, ret_agg, ret_tup, ob_some, bb_true, bb_false, List.getElem?_cons_zero, List.getElem?_cons_succ, List.length_cons, List.length_nil, Nat.reduceAdd, Nat.reduceLT]
  rw [l2] at hq ⊢
  have z : InK fun _ => 0 := fun k => ⟨Int.le_refl _, by show (0 : Int) ≤ 4; decide⟩
  exact Evp.ret (sameA_loop _ M M1.length (M1.length + 1) (Nat.le_refl _) l1 (by omega) A A' c c' l l' hx hx' hn hn' x (fun _ => 0) z _ 0 M3 (fun _ => 0) rfl (by omega) (by omega) ((p1.trans p2).trans p3) (hp.pre p3) hq z)
end Go.Zt
