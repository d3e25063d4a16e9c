/- What the law PoolNames needs of the text Fp. -/
import Derived.Test.YtjmahpemdghncaaPFo
set_option linter.unusedVariables false
set_option linter.unusedSimpArgs false
set_option maxRecDepth 100000
namespace Go.Zt
theorem u32_b (x : Int) : 0 ≤ IntKind.u32.wrap x ∧ IntKind.u32.wrap x < 4294967296 := by
  simp [IntKind.wrap, IntKind.bits, IntKind.signed]; omega
theorem wu32 {x : Int} (h : 0 ≤ x ∧ x ≤ 4294967295) : IntKind.u32.wrap x = x := by
  simp [IntKind.wrap, IntKind.bits, IntKind.signed]; omega
def KeE (eb : Nat) (A : Option Addr) (M M' : Mem) : Prop := ∀ (i : Nat) (k : Blk), M[i]? = some k → i ≠ eb → (∀ a, A = some a → a.block ≠ i) → M'[i]? = some k
def Went (A A' : Option Addr) (l : Nat) : Prop := ∀ a', A' = some a' → (∃ a, A = some a ∧ a.block = a'.block) ∨ l ≤ a'.block
theorem KeE.trans {eb : Nat} {A A' : Option Addr} {M M1 M2 : Mem} (h : KeE eb A M M1) (k : KeE eb A' M1 M2) (hw : Went A A' M.length) : KeE eb A M M2 := fun i x hx h1 h2 => k i x (h i x hx h1 h2) h1 fun a' e q => by
  rcases hw a' e with ⟨a, e1, e2⟩ | e1
  · exact h2 a e1 (e2.trans q)
  · have := lt_of_get hx; omega
theorem Went.refl (A : Option Addr) (l : Nat) : Went A A l := fun a' e => .inl ⟨a', e, rfl⟩
theorem Went.trans {A B C : Option Addr} {l l' : Nat} (h : Went A B l) (k : Went B C l') (hl : l ≤ l') : Went A C l := fun a' e => by
  rcases k a' e with ⟨b, e1, e2⟩ | e1
  · rcases h b e1 with ⟨a, e3, e4⟩ | e3
    · exact .inl ⟨a, e3, e4.trans e2⟩
    · exact .inr (by omega)
  · exact .inr (by omega)
structure EncIs (M0 M : Mem) (eb : Nat) (A : Option Addr) (n c : Nat) (low rng : Int) : Prop where
  pre : Pre M0 M
  e0 : M0.length ≤ eb
  cell : M[eb]? = some ⟨.fx, [.slice A n c, .int .u64 low, .int .u64 rng]⟩
  out : ∃ xs : List Int, Grow M0 M 1 A n (xs.map (Value.int .u8))
  ne : ∀ a, A = some a → a.block ≠ eb
section
variable {M0 M M' : Mem} {eb n c : Nat} {A : Option Addr} {low rng : Int}
theorem EncIs.s (h : EncIs M0 M eb A n c low rng) : (M.ld ⟨eb, 0, none⟩).bind Value.slc? = some ⟨A, n, c⟩ := by rw [fx_ld h.cell]; rfl
theorem EncIs.l (h : EncIs M0 M eb A n c low rng) : (M.ld (plus ⟨eb, 0, none⟩ 1)).bind (Value.int? .u64) = some low := by rw [fx_ldp h.cell]; simp [Value.int?]
theorem EncIs.r (h : EncIs M0 M eb A n c low rng) : (M.ld (plus ⟨eb, 0, none⟩ 2)).bind (Value.int? .u64) = some rng := by rw [fx_ldp h.cell]; simp [Value.int?]
theorem EncIs.st {lo : Nat} (h : EncIs M0 M eb A n c low rng) (hlo : lo ≤ M0.length) : (∀ low' : Int, ∃ M', M.st lo (plus ⟨eb, 0, none⟩ 1) [.int .u64 low'] = some M' ∧ EncIs M0 M' eb A n c low' rng ∧ KeE eb A M M' ∧ M'.length = M.length) ∧ ∀ rng' : Int, ∃ M', M.st lo (plus ⟨eb, 0, none⟩ 2) [.int .u64 rng'] = some M' ∧ EncIs M0 M' eb A n c low rng' ∧ KeE eb A M M' ∧ M'.length = M.length := by
  obtain ⟨h1, h2, h3, ⟨xs, h4⟩, h5⟩ := h
  have key : ∀ k : Blk, KeE eb A M (M.set eb k) := fun k i x hx hi _ => by rw [List.getElem?_set_ne (Ne.symm hi)]; exact hx
  have gk : ∀ k : Blk, Grow M0 (M.set eb k) 1 A n (xs.map (Value.int .u8)) := fun k => h4.keep (A' := some ⟨eb, 0, none⟩) (fun b x hx hne => by rw [List.getElem?_set_ne (hne _ rfl)]; exact hx) fun a a' e e' => by injection e' with e'; subst e'; exact fun q => h5 a e q.symm
  refine ⟨fun low' => ⟨_, fx_st h3 (by omega) (by simp), ⟨h1.set h2 _, h2, set_self (lt_of_get h3), ⟨xs, gk _⟩, h5⟩, key _, by simp⟩, fun rng' => ⟨_, fx_st h3 (by omega) (by simp), ⟨h1.set h2 _, h2, set_self (lt_of_get h3), ⟨xs, gk _⟩, h5⟩, key _, by simp⟩⟩
theorem EncIs.byte {lo : Nat} (h : EncIs M0 M eb A n c low rng) (hlo : lo ≤ M0.length) {i : Nat} (hi : i < n) : ∃ a x, A = some a ∧ (M.ld (plus a i)).bind (Value.int? .u8) = some x ∧ ∀ v : Int, ∃ M', M.st lo (plus a i) [.int .u8 v] = some M' ∧ EncIs M0 M' eb A n c low rng ∧ KeE eb A M M' ∧ M'.length = M.length := by
  obtain ⟨h1, h2, h3, ⟨xs, h4⟩, h5⟩ := h
  have hl := h4.len
  rw [List.length_map] at hl
  obtain ⟨a, rfl, hb⟩ := h4.buf (by omega)
  obtain ⟨a', e, _, hld⟩ := (hb.rdI).ld (i := i) (by omega)
  injection e with e; subst e
  refine ⟨a, xs.getD i 0, rfl, by rw [hld]; simp [Value.int?], fun v => ?_⟩
  obtain ⟨M', g1, g2, g3, g4, g5⟩ := hb.st (lo := lo) (i := i) (vs := [.int .u8 v]) h1 hlo (by simp; omega)
  rw [setL_one, set_map] at g2
  refine ⟨M', g1, ⟨g3, h2, g4 eb _ h3 fun a0 e => by injection e with e; subst e; exact h5 _ rfl, ⟨xs.set i v, ⟨by simp; omega, ?_⟩⟩, h5⟩, fun j x hx _ hj => g4 j x hx fun a0 e => by injection e with e; subst e; exact hj _ rfl, g5⟩
  rcases h4.at_ with ⟨e, _⟩ | ⟨b, e, hb1, hb2⟩
  · cases e
  · injection e with e
    subst e
    obtain ⟨k, q1, q2, q3, q4⟩ := g2
    simp only at q3 q4
    rcases q4 with ⟨_, q5⟩ | ⟨z, rfl, q5⟩
    · cases q5
    · refine .inr ⟨b, by simp, hb1, ?_⟩
      rw [q3]
      obtain ⟨k', r1, r2, r3, r4⟩ := hb
      simp only at r3
      rw [hb2] at r3
      have hz : z = 1 := by
        have : M'[b]? = some ⟨.op 1, setL (xs.map (Value.int .u8)) i [.int .u8 v]⟩ := by
          unfold Mem.st at g1
          rw [plus_eq] at g1
          simp only [hb2] at g1
          split at g1
          · injection g1 with g1
            rw [← g1, set_self (lt_of_get hb2)]
            simp
          · cases g1
        rw [q3] at this
        injection this with this
        injection this with this
        injection this
      rw [hz]
end
section
variable (lo : Nat)
theorem goes_end (M0 M : Mem) (eb n c : Nat) (A : Option Addr) (low rng : Int) (hlo : lo ≤ M0.length) (h : EncIs M0 M eb A n c low rng) (hn : n ≤ 1000) :
    Run P T lo F.zoetroperef02_Encoder_goes (zoetroperef02_Encoder_goes.c3 ⟨eb, 0, none⟩ M) fun r => ∃ A' c' low' M', r = (.tuple ⟨[]⟩, M') ∧ EncIs M0 M' eb A' (n + 1) c' low' rng ∧ KeE eb A M M' ∧ Went A A' M.length ∧ M.length ≤ M'.length := by
  obtain ⟨h1, h2, h3, ⟨xs, h4⟩, h5⟩ := h
  have hh : EncIs M0 M eb A n c low rng := ⟨h1, h2, h3, ⟨xs, h4⟩, h5⟩
  refine Run.cut (Evp.of_eq (fun k => zoetroperef02_Encoder_goes.p3 k ..) ?_)
  refine Evp.some hh.s (Evp.some hh.l ?_)
  obtain ⟨s, M1, g1, g2, g3, g4, g5, g6⟩ := h4.app' (lo := lo) (bytes := 1) (c := c) (m := 1) (vs := [.int .u8 (IntKind.u8.wrap (IntKind.u64.wrap (Int.tdiv low 16777216)))]) h1 hlo rfl (by omega) (by omega) (by omega)
  refine Evp.some g1 ?_
  obtain ⟨sa, sn, sc⟩ := s
  simp only at g2 g3 g6
  subst g3
  have l1 : M.length ≤ M1.length := by
    have := g2
    rcases g2.at_ with ⟨_, e⟩ | ⟨b, e, e1, e2⟩
    · omega
    · rcases g6 _ e with ⟨a, e3, e4⟩ | e3
      · have : ∀ i, i < M.length → i < M1.length := fun i hi => by
          by_cases q : i = b
          · rw [q]; exact lt_of_get e2
          · exact lt_of_get (g5 i _ (List.getElem?_eq_getElem hi) fun a0 e5 q2 => by rw [e3] at e5; injection e5 with e5; rw [← e5, e4] at q2; exact q q2.symm)
        rcases Nat.lt_or_ge M1.length M.length with hlt | hge
        · exact absurd (this _ hlt) (Nat.lt_irrefl _)
        · exact hge
      · have := lt_of_get e2
        simp only at e3
        omega
  have eb1 := lt_of_get h3
  have ne1 : ∀ a, sa = some a → a.block ≠ eb := fun a e => by
    rcases g6 a e with ⟨a0, e0, e1⟩ | e1
    · rw [← e1]; exact h5 a0 e0
    · omega
  have c1 : M1[eb]? = _ := g5 eb _ h3 h5
  have ke1 : KeE eb A M M1 := fun i x hx _ hj => g5 i x hx hj
  have w1 : Went A sa M.length := fun a' e => (g6 a' e).imp id fun e => by omega
  have st0 : M1.st lo ⟨eb, 0, none⟩ [.slice sa (n + 1) sc] = some (M1.set eb ⟨.fx, [.slice sa (n + 1) sc, .int .u64 low, .int .u64 rng]⟩) := by
    have := fx_st (lo := lo) (i := 0) (v := .slice sa (n + 1) sc) c1 (by omega) (by simp)
    rw [plus_zero] at this
    exact this
  refine Evp.some st0 ?_
  obtain ⟨M2, e2⟩ : ∃ M2 : Mem, M2 = M1.set eb ⟨.fx, [.slice sa (n + 1) sc, .int .u64 low, .int .u64 rng]⟩ := ⟨_, rfl⟩
  have l2 : M2.length = M1.length := by rw [e2]; simp
  have hE : EncIs M0 M2 eb sa (n + 1) sc low rng := by
    refine ⟨by rw [e2]; exact g4.set h2 _, h2, by rw [e2]; exact set_self (by omega), ⟨xs ++ [IntKind.u8.wrap (IntKind.u64.wrap (Int.tdiv low 16777216))], ?_⟩, ne1⟩
    rw [List.map_append, e2]
    exact g2.keep (A' := some ⟨eb, 0, none⟩) (fun b x hx hne => by rw [List.getElem?_set_ne (hne _ rfl)]; exact hx) fun a a' e e' => by injection e' with e'; subst e'; exact fun q => ne1 a e q.symm
  have ke2 : KeE eb sa M1 M2 := fun i x hx hi _ => by rw [e2, List.getElem?_set_ne (Ne.symm hi)]; exact hx
  rw [← e2]
  refine Evp.some hE.l ?_
  obtain ⟨M3, k1, k2, k3, k4⟩ := (hE.st hlo).1 (IntKind.u64.wrap ((Int.tmod low 16777216) * 256))
  refine Evp.some k1 (Evp.ret (Run.ret ⟨sa, sc, _, M3, rfl, k2, (ke1.trans ke2 w1).trans k3 w1, w1, by omega⟩))
theorem goes_carry (M0 : Mem) (eb n c : Nat) (A : Option Addr) (low rng : Int) (hlo : lo ≤ M0.length) (hn : n ≤ 1000) : ∀ (d : Nat) (M : Mem), d ≤ n → EncIs M0 M eb A n c low rng →
    Run P T lo F.zoetroperef02_Encoder_goes (zoetroperef02_Encoder_goes.c168 ⟨eb, 0, none⟩ ((d : Int) - 1) M) fun r => ∃ A' c' low' M', r = (.tuple ⟨[]⟩, M') ∧ EncIs M0 M' eb A' (n + 1) c' low' rng ∧ KeE eb A M M' ∧ Went A A' M.length ∧ M.length ≤ M'.length := by
  have fin : ∀ M : Mem, EncIs M0 M eb A n c low rng → Run P T lo F.zoetroperef02_Encoder_goes (zoetroperef02_Encoder_goes.c87 ⟨eb, 0, none⟩ M) fun r => ∃ A' c' low' M', r = (.tuple ⟨[]⟩, M') ∧ EncIs M0 M' eb A' (n + 1) c' low' rng ∧ KeE eb A M M' ∧ Went A A' M.length ∧ M.length ≤ M'.length := fun M h => by
    refine Run.cut (Evp.of_eq (fun k => zoetroperef02_Encoder_goes.p87 k ..) ?_)
    refine Evp.some h.l ?_
    obtain ⟨M1, k1, k2, k3, k4⟩ := (h.st hlo).1 (IntKind.u64.wrap (low - 4294967296))
    refine Evp.some k1 (Evp.ret ((goes_end lo M0 M1 eb n c A _ rng hlo k2 hn).mono ?_))
    rintro _ ⟨A', c', low', M', rfl, q1, q2, q3, q4⟩
    exact ⟨A', c', low', M', rfl, q1, k3.trans q2 (Went.refl A _), fun a' e => by rw [← k4]; exact q3 a' e, by omega⟩
  intro d
  induction d with
  | zero =>
    intro M hd h
    refine Run.cut (Evp.of_eq (fun k => zoetroperef02_Encoder_goes.p168 k ..) ?_)
    refine Evp.dec (fun h => absurd h (by omega)) fun _ => Evp.dec (fun h => absurd h (by omega)) fun _ => Evp.ret (fin M h)
  | succ d ih =>
    intro M hd h
    obtain ⟨a, x, rfl, hld, hst⟩ := h.byte hlo (i := d) (by omega)
    refine Run.cut (Evp.of_eq (fun k => zoetroperef02_Encoder_goes.p168 k ..) ?_)
    rw [show ((d + 1 : Nat) : Int) - 1 = (d : Int) by omega]
    refine Evp.dec (fun _ => ?_) fun h => absurd h (by omega)
    refine Evp.some h.s (Evp.pos (by dsimp only; omega) (Evp.some rfl ?_))
    simp only [Int.toNat_natCast]
    refine Evp.some hld (Evp.eqb (fun _ => ?_) fun _ => ?_)
    · refine Evp.some h.s (Evp.pos (by dsimp only; omega) (Evp.some rfl ?_))
      obtain ⟨M1, k1, k2, k3, k4⟩ := hst 0
      refine Evp.some k1 ?_
      rw [w64 (x := (d : Int) - 1) (by omega)]
      refine Evp.ret ((ih M1 (by omega) k2).mono ?_)
      rintro _ ⟨A', c', low', M', rfl, q1, q2, q3, q4⟩
      exact ⟨A', c', low', M', rfl, q1, k3.trans q2 (Went.refl _ _), fun a' e => by rw [← k4]; exact q3 a' e, by omega⟩
    · refine Evp.dec (fun _ => ?_) fun h => absurd h (by omega)
      refine Evp.some h.s (Evp.pos (by dsimp only; omega) (Evp.some rfl (Evp.some hld (Evp.pos (by dsimp only; omega) (Evp.some rfl ?_)))))
      obtain ⟨M1, k1, k2, k3, k4⟩ := hst (IntKind.u8.wrap (x + 1))
      refine Evp.some k1 (Evp.ret ((fin M1 k2).mono ?_))
      rintro _ ⟨A', c', low', M', rfl, q1, q2, q3, q4⟩
      exact ⟨A', c', low', M', rfl, q1, k3.trans q2 (Went.refl _ _), fun a' e => by rw [← k4]; exact q3 a' e, by omega⟩
theorem goes_ok (M0 M : Mem) (eb n c : Nat) (A : Option Addr) (low rng : Int) (hlo : lo ≤ M0.length) (hn : n ≤ 1000) (h : EncIs M0 M eb A n c low rng) :
    Ac P T lo F.zoetroperef02_Encoder_goes [.pointer (some ⟨eb, 0, none⟩)] M fun r => ∃ A' c' low' M', r = (.tuple ⟨[]⟩, M') ∧ EncIs M0 M' eb A' (n + 1) c' low' rng ∧ KeE eb A M M' ∧ Went A A' M.length ∧ M.length ≤ M'.length := by
  refine Ac.of (Evp.of_eq (fun k => zoetroperef02_Encoder_goes.entry k ..) ?_)
  refine Evp.some h.l (Evp.dec (fun _ => Evp.some h.s ?_) fun _ => Evp.ret (goes_end lo M0 M eb n c A low rng hlo h hn))
  dsimp only
  rw [w64 (x := (n : Int) - 1) (by omega)]
  exact Evp.ret (goes_carry lo M0 eb n c A low rng hlo hn n M (Nat.le_refl _) h)
theorem rpart_ok (M : Mem) (rng l h : Int) (hr : 16777216 ≤ rng ∧ rng < 4294967296) (hl : 0 ≤ l ∧ l < h ∧ h ≤ 32768) : Ac P T lo F.zoetroperef02_part [.int .u64 rng, .int .u32 l, .int .u32 h] M fun r => ∃ at_ wide, r = (.tuple ⟨[.int .u64 at_, .int .u64 wide]⟩, M) ∧ 512 ≤ wide ∧ wide < 4294967296 := by
  have e1 : Int.tdiv rng 32768 = rng / 32768 := Int.tdiv_eq_ediv_of_nonneg (by omega)
  have hr1 : 512 ≤ rng / 32768 ∧ rng / 32768 ≤ 131071 := by omega
  obtain ⟨q, hq⟩ : ∃ q, q = rng / 32768 := ⟨_, rfl⟩
  have m1 : 0 ≤ q * l ∧ q * l ≤ q * 32767 := ⟨Int.mul_nonneg (by omega) hl.1, Int.mul_le_mul_of_nonneg_left (by omega) (by omega)⟩
  have m2 : q ≤ q * (h - l) ∧ q * (h - l) ≤ q * 32768 := ⟨by have := Int.mul_le_mul_of_nonneg_left (a := 1) (b := h - l) (c := q) (by omega) (by omega); omega, Int.mul_le_mul_of_nonneg_left (by omega) (by omega)⟩
  refine Ac.of (Evp.of_eq (fun k => zoetroperef02_part.entry k ..) ?_)
  rw [e1, ← hq, wu64 (x := q) (by omega), wu64 (x := l) (by omega), wu64 (x := q * l) (by omega)]
  refine Evp.eqb (fun e => ?_) fun e => ?_
  · rw [wu64 (x := rng - q * l) (by omega)]
    exact Evp.ret (Run.ret ⟨_, _, rfl, by omega, by omega⟩)
  · rw [wu32 (x := h - l) (by omega), wu64 (x := h - l) (by omega), wu64 (x := q * (h - l)) (by omega)]
    exact Evp.ret (Run.ret ⟨_, _, rfl, by omega, by omega⟩)
theorem rput2_loop (M0 : Mem) (eb : Nat) (hlo : lo ≤ M0.length) : ∀ (f : Nat) (M : Mem) (n c : Nat) (A : Option Addr) (low rng : Int), EncIs M0 M eb A n c low rng → n + f ≤ 1000 → rng < 4294967296 → 16777216 ≤ rng * 256 ^ f → 1 ≤ rng →
    Run P T lo F.zoetroperef02_Encoder_Put (zoetroperef02_Encoder_Put.c504 ⟨eb, 0, none⟩ M) fun r => ∃ A' n' c' low' rng' M', r = (.int .i64 0, M') ∧ EncIs M0 M' eb A' n' c' low' rng' ∧ n' ≤ n + f ∧ 16777216 ≤ rng' ∧ rng' < 4294967296 ∧ KeE eb A M M' ∧ Went A A' M.length ∧ M.length ≤ M'.length := by
  intro f
  induction f with
  | zero =>
    intro M n c A low rng h hn h1 h2 h3
    refine Run.cut (Evp.of_eq (fun k => zoetroperef02_Encoder_Put.p504 k ..) ?_)
    refine Evp.some h.r (Evp.dec (fun q => absurd h2 (by simp; omega)) fun q => Evp.ret (Run.ret ⟨A, n, c, low, rng, M, rfl, h, by omega, by omega, h1, fun i x hx _ _ => hx, Went.refl A _, Nat.le_refl _⟩))
  | succ f ih =>
    intro M n c A low rng h hn h1 h2 h3
    refine Run.cut (Evp.of_eq (fun k => zoetroperef02_Encoder_Put.p504 k ..) ?_)
    refine Evp.some h.r (Evp.dec (fun q => ?_) fun q => Evp.ret (Run.ret ⟨A, n, c, low, rng, M, rfl, h, by omega, by omega, h1, fun i x hx _ _ => hx, Went.refl A _, Nat.le_refl _⟩))
    refine Evp.ob (goes_ok lo M0 M eb n c A low rng hlo (by omega) h) ?_
    rintro _ ⟨A1, c1, low1, M1, rfl, k1, k2, k3, k4⟩
    simp only [ret_int, ret_bool, ret_flt, ret_slc, ret_str, ret_ptr, ret_agg, ret_tup, ob_some, bb_true, bb_false, List.getElem?_cons_zero, List.getElem?_cons_succ, List.length_cons, List.length_nil, Nat.reduceAdd, Nat.reduceLT]
    refine Evp.some k1.r ?_
    rw [wu64 (x := rng * 256) (by omega)]
    obtain ⟨M2, q1, q2, q3, q4⟩ := (k1.st hlo).2 (rng * 256)
    refine Evp.some q1 (Evp.ret ((ih M2 (n + 1) c1 A1 low1 (rng * 256) q2 (by omega) (by omega) (by rw [Int.mul_assoc, ← Int.pow_succ']; exact h2) (by omega)).mono ?_))
    rintro _ ⟨A', n', c', low', rng', M', rfl, r1, r2, r3, r4, r5, r6, r7⟩
    exact ⟨A', n', c', low', rng', M', rfl, r1, by omega, r3, r4, (k2.trans q3 k3).trans r5 k3, k3.trans (by rw [← q4]; exact r6) k4, by omega⟩
theorem rput2_ok (M0 M : Mem) (eb n c : Nat) (A : Option Addr) (low rng l h : Int) (hlo : lo ≤ M0.length) (hE : EncIs M0 M eb A n c low rng) (hn : n ≤ 900) (hr : 16777216 ≤ rng ∧ rng < 4294967296) (hl : 0 ≤ l ∧ 0 ≤ h) :
    Ac P T lo F.zoetroperef02_Encoder_Put [.pointer (some ⟨eb, 0, none⟩), .int .u32 l, .int .u32 h] M fun r => ∃ v A' n' c' low' rng' M', r = (.int .i64 v, M') ∧ EncIs M0 M' eb A' n' c' low' rng' ∧ n' ≤ n + 2 ∧ 16777216 ≤ rng' ∧ rng' < 4294967296 ∧ KeE eb A M M' ∧ Went A A' M.length ∧ M.length ≤ M'.length := by
  refine Ac.of (Evp.of_eq (fun k => zoetroperef02_Encoder_Put.entry k ..) ?_)
  refine Evp.dec (fun _ => Evp.ret (Run.ret ⟨_, A, n, c, low, rng, M, rfl, hE, by omega, hr.1, hr.2, fun i x hx _ _ => hx, Went.refl A _, Nat.le_refl _⟩)) fun h1 => ?_
  refine Evp.dec (fun _ => Evp.ret (Run.ret ⟨_, A, n, c, low, rng, M, rfl, hE, by omega, hr.1, hr.2, fun i x hx _ _ => hx, Went.refl A _, Nat.le_refl _⟩)) fun h2 => ?_
  refine Evp.some hE.r ?_
  refine Evp.ob (rpart_ok lo M rng l h hr (by omega)) ?_
  rintro _ ⟨at_, wide, rfl, w1, w2⟩
  simp only [ret_int, ret_bool, ret_flt, ret_slc, ret_str, ret_ptr, ret_agg, ret_tup, ob_some, bb_true, bb_false, List.getElem?_cons_zero, List.getElem?_cons_succ, List.length_cons, List.length_nil, Nat.reduceAdd, Nat.reduceLT]
  refine Evp.some hE.l ?_
  obtain ⟨M1, a1, a2, a3, a4⟩ := (hE.st hlo).1 (IntKind.u64.wrap (low + at_))
  refine Evp.some a1 ?_
  obtain ⟨M2, b1, b2, b3, b4⟩ := (a2.st hlo).2 wide
  refine Evp.some b1 (Evp.ret ((rput2_loop lo M0 eb hlo 2 M2 n c A _ wide b2 (by omega) w2 (by show 16777216 ≤ wide * 65536; omega) (by omega)).mono ?_))
  rintro _ ⟨A', n', c', low', rng', M', rfl, r1, r2, r3, r4, r5, r6, r7⟩
  exact ⟨0, A', n', c', low', rng', M', rfl, r1, r2, r3, r4, (a3.trans b3 (Went.refl A _)).trans r5 (Went.refl A _), fun a' e => by rw [← a4, ← b4]; exact r6 a' e, by omega⟩
theorem rend_ok (M : Mem) (A : Option Addr) (c : Nat) (xs : List Int) (y : Int) (s : Int) (hx : RdI M .u16 A xs) (hs : s < xs.length) : Ac P T lo F.zoetroperef03_end [.agg ⟨[.slice A xs.length c, .int .i64 y]⟩, .int .i64 s] M fun r => ∃ v, r = (.int .i64 v, M) := by
  refine Ac.of (Evp.of_eq (fun k => zoetroperef03_end.entry k ..) ?_)
  refine Evp.dec (fun _ => Evp.ret (Run.ret ⟨_, rfl⟩)) fun h => ?_
  exact Evp.pos (by omega) (Evp.ldI hx (by omega) fun _ _ => Evp.ret (Run.ret ⟨_, rfl⟩))
theorem rbounds_ok (M : Mem) (A : Option Addr) (c : Nat) (t : Tb) (s : Nat) (hx : RdI M .u16 A t.1) (hs : s < t.1.length) (hn : t.1.length ≤ 1000) : Ac P T lo F.zoetroperef03_Bounds [.agg ⟨[.slice A t.1.length c, .int .i64 t.2]⟩, .int .i64 s] M fun r => ∃ l h e, r = (.tuple ⟨[.int .u32 l, .int .u32 h, .int .i64 e]⟩, M) ∧ 0 ≤ l ∧ 0 ≤ h := by
  refine Ac.of (Evp.of_eq (fun k => zoetroperef03_Bounds.entry k ..) ?_)
  refine Evp.ob (rtcheck_ok lo A c t M hx) ?_
  rintro _ rfl
  simp only [ret_int, ret_bool, ret_flt, ret_slc, ret_str, ret_ptr, ret_agg, ret_tup, ob_some, bb_true, bb_false, List.getElem?_cons_zero, List.getElem?_cons_succ, List.length_cons, List.length_nil, Nat.reduceAdd, Nat.reduceLT]
  refine Evp.neb (fun _ => Evp.ret (Run.ret ⟨0, 0, 2, rfl, by omega, by omega⟩)) fun _ => ?_
  refine Evp.dec (fun h => absurd h (by omega)) fun _ => Evp.dec (fun h => absurd h (by omega)) fun _ => ?_
  rw [w64 (x := (s : Int) - 1) (by omega)]
  refine Evp.ob (rend_ok _ M A c t.1 t.2 ((s : Int) - 1) hx (by omega)) ?_
  rintro _ ⟨v1, rfl⟩
  simp only [ret_int, ret_bool, ret_flt, ret_slc, ret_str, ret_ptr, ret_agg, ret_tup, ob_some, bb_true, bb_false, List.getElem?_cons_zero, List.getElem?_cons_succ, List.length_cons, List.length_nil, Nat.reduceAdd, Nat.reduceLT]
  refine Evp.ob (rend_ok _ M A c t.1 t.2 (s : Int) hx (by omega)) ?_
  rintro _ ⟨v2, rfl⟩
  simp only [ret_int, ret_bool, ret_flt, ret_slc, ret_str, ret_ptr, ret_agg, ret_tup, ob_some, bb_true, bb_false, List.getElem?_cons_zero, List.getElem?_cons_succ, List.length_cons, List.length_nil, Nat.reduceAdd, Nat.reduceLT]
  exact Evp.ret (Run.ret ⟨_, _, 0, rfl, (u32_b _).1, (u32_b _).1⟩)
theorem log10_ok (M : Mem) : Ac P T lo F.zoetroperef00_Log [.int .i64 10] M fun r => r = (.int .i64 3, M) := by
  refine Ac.of (Evp.of_eq (fun k => zoetroperef00_Log.entry k ..) ?_)
  refine Evp.ret ?_
  refine Run.cut (Evp.of_eq (fun k => zoetroperef00_Log.p56 k ..) ?_)
  refine Evp.tt rfl ?_
  rw [show IntKind.i64.wrap (Int.tdiv 10 2) = 5 from by decide, show IntKind.i64.wrap (0 + 1) = 1 from by decide]
  refine Evp.ret ?_
  refine Run.cut (Evp.of_eq (fun k => zoetroperef00_Log.p56 k ..) ?_)
  refine Evp.tt rfl ?_
  rw [show IntKind.i64.wrap (Int.tdiv 5 2) = 2 from by decide, show IntKind.i64.wrap (1 + 1) = 2 from by decide]
  refine Evp.ret ?_
  refine Run.cut (Evp.of_eq (fun k => zoetroperef00_Log.p56 k ..) ?_)
  refine Evp.tt rfl ?_
  rw [show IntKind.i64.wrap (Int.tdiv 2 2) = 1 from by decide, show IntKind.i64.wrap (2 + 1) = 3 from by decide]
  refine Evp.ret ?_
  refine Run.cut (Evp.of_eq (fun k => zoetroperef00_Log.p56 k ..) ?_)
  exact Evp.ff rfl (Evp.ret (Run.ret rfl))
def adE (xs : List Int) (s i : Nat) : Int := if i < 9 ∧ s ≤ i then xs.getD i 0 + (32768 - xs.getD i 0) / 32 else if i < 9 then xs.getD i 0 - xs.getD i 0 / 32 else xs.getD i 0
def adT (t : Tb) (s : Nat) : Tb := ((List.range 10).map (adE t.1 s), t.2 + 1)
theorem adapt_loop (M0 : Mem) (A : Option Addr) (c : Nat) (t : Tb) (s : Nat) (hlo : lo ≤ M0.length) (hx : RdI M0 .u16 A t.1) (h10 : t.1.length = 10) (hb : ∀ i, i < 10 → 0 ≤ t.1.getD i 0 ∧ t.1.getD i 0 ≤ 32768) (y : Int) (A9 : Option Addr) (n10 c11 : Nat) (x12 : Int) :
    ∀ (d i : Nat) (M : Mem) (B : Option Addr) (cb : Nat), 10 - i = d → i ≤ 10 → Pre M0 M → Grow M0 M 1 B i (((List.range i).map (adE t.1 s)).map (Value.int .u16)) →
      Run P T lo F.zoetroperef03_Adapt (zoetroperef03_Adapt.c16372 (s : Int) 10 32 (i : Int) A t.1.length c t.2 A9 n10 c11 x12 B i cb y M) fun r => ∃ B cb M', r = (.tuple ⟨[.agg ⟨[.slice B 10 cb, .int .i64 y]⟩, .int .i64 0]⟩, M') ∧ Pre M0 M' ∧ Grow M0 M' 1 B 10 ((adT t s).1.map (Value.int .u16)) := by
  intro d
  induction d with
  | zero =>
    intro i M B cb hd hi hp hg
    obtain rfl : i = 10 := by omega
    refine Run.cut (Evp.of_eq (fun k => zoetroperef03_Adapt.p16372 k ..) ?_)
    exact Evp.dec (fun h => absurd h (by omega)) fun _ => Evp.ret (Run.ret ⟨B, cb, M, rfl, hp, hg⟩)
  | succ d ih =>
    intro i M B cb hd hi hp hg
    have hbi := hb i (by omega)
    have step : Run P T lo F.zoetroperef03_Adapt (zoetroperef03_Adapt.c523923 (s : Int) 10 32 (i : Int) (adE t.1 s i) A t.1.length c t.2 A9 n10 c11 x12 B i cb y M) fun r => ∃ B cb M', r = (.tuple ⟨[.agg ⟨[.slice B 10 cb, .int .i64 y]⟩, .int .i64 0]⟩, M') ∧ Pre M0 M' ∧ Grow M0 M' 1 B 10 ((adT t s).1.map (Value.int .u16)) := by
      have hae : 0 ≤ adE t.1 s i ∧ adE t.1 s i ≤ 32768 := by
        unfold adE
        split
        · omega
        · split <;> omega
      refine Run.cut (Evp.of_eq (fun k => zoetroperef03_Adapt.p523923 k ..) ?_)
      rw [wu16 (by omega)]
      obtain ⟨s', M', g1, g2, g3, g4, _⟩ := hg.app (lo := lo) (bytes := 2) (c := cb) (m := 1) (vs := [.int .u16 (adE t.1 s i)]) hp hlo rfl (by omega) (by omega)
      refine Evp.some g1 ?_
      obtain ⟨sa, sn, sc⟩ := s'
      simp only at g2 g3
      subst g3
      rw [w64 (x := (i : Int) + 1) (by omega)]
      have e : (((List.range i).map (adE t.1 s)).map (Value.int .u16)) ++ [.int .u16 (adE t.1 s i)] = ((List.range (i + 1)).map (adE t.1 s)).map (Value.int .u16) := by
        rw [List.range_succ, List.map_append, List.map_append]; rfl
      rw [e] at g2
      exact Evp.ret (ih (i + 1) M' sa sc (by omega) (by omega) g4 g2)
    refine Run.cut (Evp.of_eq (fun k => zoetroperef03_Adapt.p16372 k ..) ?_)
    refine Evp.dec (fun _ => ?_) fun h => absurd h (by omega)
    refine Evp.pos (by omega) ?_
    simp only [Int.toNat_natCast]
    refine Evp.ldI (hx.pre hp) (by omega) fun _ _ => ?_
    rw [show IntKind.i64.wrap (10 - 1) = 9 from by decide, w64 (x := t.1.getD i 0) (by omega), w64 (x := 32768 - t.1.getD i 0) (by omega)]
    have t1 : Int.tdiv (32768 - t.1.getD i 0) 32 = (32768 - t.1.getD i 0) / 32 := Int.tdiv_eq_ediv_of_nonneg (by omega)
    have t2 : Int.tdiv (t.1.getD i 0) 32 = t.1.getD i 0 / 32 := Int.tdiv_eq_ediv_of_nonneg (by omega)
    rw [t1, t2, w64 (x := (32768 - t.1.getD i 0) / 32) (by omega), w64 (x := t.1.getD i 0 / 32) (by omega), w64 (x := t.1.getD i 0 + (32768 - t.1.getD i 0) / 32) (by omega), w64 (x := t.1.getD i 0 - t.1.getD i 0 / 32) (by omega)]
    unfold adE at step
    refine Evp.dec (fun h9 => ?_) fun h9 => ?_
    · refine Evp.dec (fun hs => ?_) fun hs => ?_
      · rw [if_pos ⟨by omega, by omega⟩] at step
        exact Evp.neg (by decide) (Evp.ret step)
      · rw [if_neg (by omega), if_pos (by omega)] at step
        exact Evp.dec (fun _ => Evp.neg (by decide) (Evp.ret step)) fun h => absurd h9 h
    · rw [if_neg (by omega), if_neg (by omega)] at step
      exact Evp.dec (fun h => absurd h h9) fun _ => Evp.ret step
theorem adapt_ok (M : Mem) (A : Option Addr) (c : Nat) (t : Tb) (s : Nat) (hlo : lo ≤ M.length) (hx : RdI M .u16 A t.1) (h10 : t.1.length = 10) (hP : TabP t) (hc : t.2 ≤ 15) (hs : s < 10) (hb : ∀ i, i < 10 → 0 ≤ t.1.getD i 0 ∧ t.1.getD i 0 ≤ 32768) :
    Ac P T lo F.zoetroperef03_Adapt [.agg ⟨[.slice A t.1.length c, .int .i64 t.2]⟩, .int .i64 s] M fun r => ∃ B cb M', r = (.tuple ⟨[.agg ⟨[.slice B 10 cb, .int .i64 (adT t s).2]⟩, .int .i64 0]⟩, M') ∧ Pre M M' ∧ Grow M M' 1 B 10 ((adT t s).1.map (Value.int .u16)) := by
  have hc0 := hP.2.2.1
  refine Ac.of (Evp.of_eq (fun k => zoetroperef03_Adapt.entry k ..) ?_)
  refine Evp.ob (rtcheck_ok lo A c t M hx) ?_
  rintro _ rfl
  simp only [ret_int, ret_bool, ret_flt, ret_slc, ret_str, ret_ptr, ret_agg, ret_tup, ob_some, bb_true, bb_false, List.getElem?_cons_zero, List.getElem?_cons_succ, List.length_cons, List.length_nil, Nat.reduceAdd, Nat.reduceLT]
  refine Evp.neb (fun h => absurd (by unfold tabS; rw [if_pos hP]) h) fun _ => ?_
  refine Evp.dec (fun h => absurd h (by omega)) fun _ => Evp.dec (fun h => absurd h (by omega)) fun _ => ?_
  rw [show ((t.1.length : Nat) : Int) = 10 by omega]
  refine Evp.ob (log10_ok lo M) ?_
  rintro _ rfl
  simp only [ret_int, ret_bool, ret_flt, ret_slc, ret_str, ret_ptr, ret_agg, ret_tup, ob_some, bb_true, bb_false, List.getElem?_cons_zero, List.getElem?_cons_succ, List.length_cons, List.length_nil, Nat.reduceAdd, Nat.reduceLT]
  rw [show IntKind.i64.wrap (3 + minI 3 2) = 5 from by decide]
  refine Evp.dec (fun h => absurd h (by omega)) fun _ => Evp.ret ?_
  refine Run.cut (Evp.of_eq (fun k => zoetroperef03_Adapt.p63 k ..) ?_)
  refine Evp.dec (fun h => absurd h (by omega)) fun _ => Evp.ret ?_
  refine Run.cut (Evp.of_eq (fun k => zoetroperef03_Adapt.p127 k ..) ?_)
  refine Evp.ret ?_
  refine Run.cut (Evp.of_eq (fun k => zoetroperef03_Adapt.p4084 k ..) ?_)
  refine Evp.tt rfl ?_
  rw [show IntKind.i64.wrap (1 * 2) = 2 from by decide, show IntKind.i64.wrap (0 + 1) = 1 from by decide]
  refine Evp.ret ?_
  refine Run.cut (Evp.of_eq (fun k => zoetroperef03_Adapt.p4084 k ..) ?_)
  refine Evp.tt rfl ?_
  rw [show IntKind.i64.wrap (2 * 2) = 4 from by decide, show IntKind.i64.wrap (1 + 1) = 2 from by decide]
  refine Evp.ret ?_
  refine Run.cut (Evp.of_eq (fun k => zoetroperef03_Adapt.p4084 k ..) ?_)
  refine Evp.tt rfl ?_
  rw [show IntKind.i64.wrap (4 * 2) = 8 from by decide, show IntKind.i64.wrap (2 + 1) = 3 from by decide]
  refine Evp.ret ?_
  refine Run.cut (Evp.of_eq (fun k => zoetroperef03_Adapt.p4084 k ..) ?_)
  refine Evp.tt rfl ?_
  rw [show IntKind.i64.wrap (8 * 2) = 16 from by decide, show IntKind.i64.wrap (3 + 1) = 4 from by decide]
  refine Evp.ret ?_
  refine Run.cut (Evp.of_eq (fun k => zoetroperef03_Adapt.p4084 k ..) ?_)
  refine Evp.tt rfl ?_
  rw [show IntKind.i64.wrap (16 * 2) = 32 from by decide, show IntKind.i64.wrap (4 + 1) = 5 from by decide]
  refine Evp.ret ?_
  refine Run.cut (Evp.of_eq (fun k => zoetroperef03_Adapt.p4084 k ..) ?_)
  refine Evp.ff rfl ?_
  rw [w64 (x := t.2 + 1) (by omega), show minI (t.2 + 1) 32 = t.2 + 1 by unfold minI; rw [if_neg (by omega)]]
  exact Evp.ret (adapt_loop lo M A c t s hlo hx h10 hb _ _ _ _ _ _ 0 M none 0 rfl (by omega) (Pre.refl M) Grow.nil)
end
end Go.Zt
