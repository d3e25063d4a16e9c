/- What the law PoolNames needs of the text Fd. -/
import Derived.Test.YtjmahpemdghncaaPFc
set_option linter.unusedVariables false
set_option linter.unusedSimpArgs false
set_option maxRecDepth 100000
namespace Go.Zt
theorem Grow.app' {M0 M : Mem} {z n : Nat} {A : Option Addr} {cs : List Value} {lo bytes c m : Nat} {vs : List Value} (h : Grow M0 M z A n cs) (hp : Pre M0 M) (hlo : lo ≤ M0.length) (hm : vs.length = m * z) (hz : 0 < z) (hm0 : m ≠ 0) (hroom : (n + m) * bytes ≤ 140737488355328) :
    ∃ s M', M.app lo z bytes ⟨A, n, c⟩ vs m = some (s, M') ∧ Grow M0 M' z s.a s.n (cs ++ vs) ∧ s.n = n + m ∧ Pre M0 M' ∧ Keep A M M' ∧ ∀ a', s.a = some a' → (∃ a, A = some a ∧ a.block = a'.block) ∨ a'.block = M.length := by
  unfold Mem.app
  have hr : room (n + m) bytes := hroom
  have hmz : vs.length ≠ 0 := by rw [hm]; exact Nat.mul_ne_zero hm0 (by omega)
  rw [if_neg hm0]
  simp only
  rw [if_pos hr]
  rcases h.at_ with ⟨rfl, rfl⟩ | ⟨b, rfl, hb1, hb2⟩
  · have := h.len
    rw [Nat.zero_mul] at this
    obtain rfl := List.eq_nil_of_length_eq_zero this
    refine ⟨⟨some ⟨M.length, 0, some vs.length⟩, m, m⟩, M ++ [⟨.op z, vs⟩], by simp, ⟨by simp [hm], .inr ⟨M.length, by simp, hp.len, by simp⟩⟩, by simp, hp.push _, fun b k hb _ => Pre.app _ _ b k hb, fun a' ha => .inr ?_⟩
    injection ha with ha; rw [← ha]
  · refine ⟨⟨some ⟨b, 0, some (cs ++ vs).length⟩, n + m, n + m⟩, M.set b ⟨.op z, cs ++ vs⟩, ?_, ⟨by rw [List.length_append, h.len, hm, Nat.add_mul], .inr ⟨b, rfl, hb1, ?_⟩⟩, rfl, hp.set hb1 _, fun b' k hb' hne => ?_, fun a' ha => .inl ⟨_, rfl, ?_⟩⟩
    · simp only [hb2]
      have hmul : mulN n z = cs.length := by
        rw [h.len]; unfold mulN; split <;> simp
      rw [if_pos ⟨trivial, trivial, trivial, hmul, by omega⟩]
    · rw [List.getElem?_set_self (List.getElem?_eq_some_iff.1 hb2).1]
    · rw [List.getElem?_set_ne (hne _ rfl)]; exact hb'
    · injection ha with ha; rw [← ha]
theorem RowIs.lt {S : Nat → Prop} {M : Mem} {A : Option Addr} {row : List Tb} (h : RowIs S M A row) (h0 : row.length ≠ 0) (ht : ∀ t ∈ row, t.1.length ≠ 0) : RowIs (fun b => S b ∧ b < M.length) M A row := by
  obtain ⟨g0, vs, g1, g2⟩ := h
  refine ⟨fun a ha => ⟨g0 a ha, ?_⟩, vs, g1, fun j t hj => ?_⟩
  · obtain ⟨a', e, hl, _⟩ := g1.get (i := 0) (by omega)
    rw [ha] at e; injection e with e; rw [e]; exact hl
  · obtain ⟨A', c, k1, k2, k3, k4⟩ := g2 j t hj
    refine ⟨A', c, k1, k2, k3, fun a ha => ⟨k4 a ha, ?_⟩⟩
    have := ht t (List.mem_of_getElem? hj)
    obtain ⟨a', e, hl, _⟩ := k3.ld (i := 0) (by omega)
    rw [ha] at e; injection e with e; rw [e]; exact hl
theorem RowAt.lt {S : Nat → Prop} {M : Mem} {vs : List Value} {k : Nat} {row : List Tb} (h : RowAt S M vs k row) (h0 : row.length ≠ 0) (ht : ∀ t ∈ row, t.1.length ≠ 0) : RowAt (fun b => S b ∧ b < M.length) M vs k row := by
  obtain ⟨A, c, h1, h2⟩ := h
  exact ⟨A, c, h1, h2.lt h0 ht⟩
def defT (k : Nat) : Tb := (if shB k then steepS (shV k) else flatS (shV k), 0)
def defRow (k : Nat) : List Tb := List.replicate (shC k) (defT k)
def defSet : List (List Tb) := (List.range 32).map defRow
theorem defT_len (k : Nat) : (defT k).1.length = shV k := by
  unfold defT
  simp only
  split
  · simp [steepS]
  · simp [flatS]
theorem defSet_get {k : Nat} (h : k < 32) : defSet[k]? = some (defRow k) := by
  unfold defSet
  rw [List.getElem?_map, List.getElem?_range h]; rfl
theorem defSet_ok : SetP defSet := by decide +kernel
theorem zerosL_len (us : List Value) (n : Nat) : (zerosL us n).length = n * us.length := by
  unfold zerosL
  rw [List.length_flatten, List.map_replicate, List.sum_replicate_nat]
section
variable (lo : Nat)
theorem def_row (M1 : Mem) (fid : FuncId) (k n : Nat) (a : Addr) (hk : k < 32) (hn : n = shC k) (hlo : lo ≤ M1.length) (A : Option Addr) (c : Nat) (nA : Nat) (y : Int) (bb : Bool)
    (hf : ∀ M : Mem, lo ≤ M.length → Ac P T lo fid [.int .i64 (shV k)] M fun r => ∃ a M', r = (.tuple ⟨[.agg ⟨[.slice (some a) (shV k) (shV k), .int .i64 0]⟩, .int .i64 0]⟩, M') ∧ Pre M M' ∧ Buf M M' a ((defT k).1.map (Value.int .u16)))
    {Q : Value × Mem → Prop} (hnext : ∀ (M' : Mem) (vs : List Value), Pre M1 M' → Buf M1 M' a vs → vs.length = n * 2 → (∀ i, i < n → TabAt (fun b => M1.length ≤ b ∧ b ≠ a.block) M' vs i (defT k)) →
      ∃ s M'', M'.app lo 1 24 ⟨A, nA, c⟩ [.slice (some a) n n] 1 = some (s, M'') ∧ Run P T lo F.syms_Default (syms_Default.c116 8 10 false 4 8 false 3 2 false 3 2 false 4 13 false 8 7 false 1 13 false 1 14 false 1 8 false 2 16 true 1 2 false 3 3 false 3 9 false 1 2 false 3 3 false 1 2 false 3 4 false 1 4 false 2 11 true 2 8 false 1 3 false 1 2 false 4 2 false 2 5 false 2 7 false 2 9 false 2 11 false 2 3 true 10 4 true 14 4 true 6 2 false 3 2 false ((IntKind.i64.wrap ((k : Int) + 1))) none 0 0 s.a s.n s.c M'') Q) :
    ∀ (d j : Nat) (M : Mem) (vs : List Value), n - j = d → j ≤ n → Pre M1 M → Buf M1 M a vs → vs.length = n * 2 → (∀ i, i < j → TabAt (fun b => M1.length ≤ b ∧ b ≠ a.block) M vs i (defT k)) →
      Run P T lo F.syms_Default (syms_Default.c478452 (.func (.func fid) ⟨[]⟩ ⟨[]⟩) (some a) n n 8 10 false 4 8 false 3 2 false 3 2 false 4 13 false 8 7 false 1 13 false 1 14 false 1 8 false 2 16 true 1 2 false 3 3 false 3 9 false 1 2 false 3 3 false 1 2 false 3 4 false 1 4 false 2 11 true 2 8 false 1 3 false 1 2 false 4 2 false 2 5 false 2 7 false 2 9 false 2 11 false 2 3 true 10 4 true 14 4 true 6 2 false 3 2 false (k : Int) (n : Int) (j : Int) none 0 0 A nA c y (shV k : Int) bb M) Q := by
  intro d
  have hsb := sh_bound k hk
  induction d with
  | zero =>
    intro j M vs hd hj hp hb hl ht
    obtain rfl : j = n := by omega
    refine Run.cut (Evp.of_eq (fun k => syms_Default.p478452 k ..) ?_)
    refine Evp.dec (fun h => absurd h (by omega)) fun _ => ?_
    obtain ⟨s, M'', e, hr⟩ := hnext M vs hp hb hl ht
    exact Evp.some e (Evp.ret hr)
  | succ d ih =>
    intro j M vs hd hj hp hb hl ht
    refine Run.cut (Evp.of_eq (fun k => syms_Default.p478452 k ..) ?_)
    refine Evp.dec (fun _ => ?_) fun h => absurd h (by omega)
    refine Evp.some rfl ?_
    refine Evp.ob (hf M (by have := hp.len; omega)) ?_
    rintro _ ⟨a', M2, rfl, p2, b2⟩
    simp only [ret_int, ret_bool, ret_flt, ret_slc, ret_str, ret_ptr, ret_agg, ret_tup, ob_some, bb_true, bb_false, List.getElem?_cons_zero, List.getElem?_cons_succ, List.length_cons, List.length_nil, Nat.reduceAdd, Nat.reduceLT]
    refine Evp.pos (by omega) (Evp.some rfl ?_)
    simp only [Int.toNat_natCast]
    have i1 := hb.in_
    have i2 := b2.new
    have l1 := hp.len
    obtain ⟨M3, g1, g2, g3, g4, g5⟩ := (hb.pre p2).st (lo := lo) (i := j * 2) (vs := [.slice (some a') (shV k) (shV k), .int .i64 0]) (hp.trans p2) hlo (by simp; omega)
    refine Evp.some g1 ?_
    rw [w64 (x := (j : Int) + 1) (by omega)]
    have kp : KeepS (fun b => M1.length ≤ b ∧ b ≠ a.block) M M3 := p2.keepS.trans (g4.keepS fun a0 e h => by injection e with e; subst e; exact h.2 rfl)
    refine Evp.ret (ih (j + 1) M3 _ (by omega) (by omega) g3 g2 (by rw [setL_len]; exact hl) fun i hi => ?_)
    by_cases e : i = j
    · subst e
      refine ⟨some a', shV k, ?_, ?_, ?_, fun a0 e => ?_⟩
      · rw [setL_two, List.getElem?_set_ne (by omega), List.getElem?_set_self (by omega), defT_len]
      · rw [setL_two, List.getElem?_set_self (by rw [List.length_set]; omega)]; rfl
      · exact (b2.rdI).keepS (S := fun b => M1.length ≤ b ∧ b ≠ a.block) (fun a0 e => by injection e with e; subst e; exact ⟨by omega, by omega⟩) (g4.keepS fun a0 e h => by injection e with e; subst e; exact h.2 rfl)
      · injection e with e; subst e; exact ⟨by omega, by omega⟩
    · refine ((ht i (by omega)).keepS kp).cells ?_ ?_
      · rw [setL_two, List.getElem?_set_ne (by omega), List.getElem?_set_ne (by omega)]
      · rw [setL_two, List.getElem?_set_ne (by omega), List.getElem?_set_ne (by omega)]
theorem defRow_get {k j : Nat} {t : Tb} (h : (defRow k)[j]? = some t) : j < shC k ∧ t = defT k := by
  unfold defRow at h
  have := (List.getElem?_eq_some_iff.1 h).1
  rw [List.length_replicate] at this
  rw [List.getElem?_replicate, if_pos this] at h
  injection h with h
  exact ⟨this, h.symm⟩
theorem def_loop (M0 : Mem) (hlo : lo ≤ M0.length) : ∀ (d k : Nat) (M : Mem) (A : Option Addr) (c : Nat) (cs : List Value), 32 - k = d → k ≤ 32 → Pre M0 M → Grow M0 M 1 A k cs →
    (∀ i, i < k → RowAt (fun b => M0.length ≤ b ∧ ∀ a, A = some a → a.block ≠ b) M cs i (defRow i)) →
    Run P T lo F.syms_Default (syms_Default.c116 8 10 false 4 8 false 3 2 false 3 2 false 4 13 false 8 7 false 1 13 false 1 14 false 1 8 false 2 16 true 1 2 false 3 3 false 3 9 false 1 2 false 3 3 false 1 2 false 3 4 false 1 4 false 2 11 true 2 8 false 1 3 false 1 2 false 4 2 false 2 5 false 2 7 false 2 9 false 2 11 false 2 3 true 10 4 true 14 4 true 6 2 false 3 2 false (k : Int) none 0 0 A k c M) fun r => ∃ A c M', r = (.agg ⟨[.slice A 32 c]⟩, M') ∧ Pre M0 M' ∧ SetIs (fun b => M0.length ≤ b) M' A defSet := by
  intro d
  induction d with
  | zero =>
    intro k M A c cs hd hk hp hg hr
    obtain rfl : k = 32 := by omega
    refine Run.cut (Evp.of_eq (fun k => syms_Default.p116 k ..) ?_)
    refine Evp.dec (fun h => absurd h (by omega)) fun _ => Evp.ret (Run.ret ⟨A, c, M, rfl, hp, fun a ha => ?_, cs, hg.rd, fun k row hk => ?_⟩)
    · rcases hg.at_ with ⟨e, _⟩ | ⟨b, e, h1, h2⟩
      · rw [e] at ha; cases ha
      · rw [e] at ha; injection ha with ha; subst ha; exact h1
    · have hl := (List.getElem?_eq_some_iff.1 hk).1
      have hl : k < 32 := hl
      rw [defSet_get hl] at hk
      injection hk with hk; subst hk
      exact (hr k hl).mono fun b h => h.1
  | succ d ih =>
    intro k M A c cs hd hk hp hg hr
    have hk32 : k < 32 := by omega
    have hsb := sh_bound k hk32
    have l0 := hp.len
    have row : ∀ fid : FuncId, (∀ M : Mem, lo ≤ M.length → Ac P T lo fid [.int .i64 (shV k)] M fun r => ∃ a M', r = (.tuple ⟨[.agg ⟨[.slice (some a) (shV k) (shV k), .int .i64 0]⟩, .int .i64 0]⟩, M') ∧ Pre M M' ∧ Buf M M' a ((defT k).1.map (Value.int .u16))) →
        Run P T lo F.syms_Default (syms_Default.c14951 (.func (.func fid) ⟨[]⟩ ⟨[]⟩) 8 10 false 4 8 false 3 2 false 3 2 false 4 13 false 8 7 false 1 13 false 1 14 false 1 8 false 2 16 true 1 2 false 3 3 false 3 9 false 1 2 false 3 3 false 1 2 false 3 4 false 1 4 false 2 11 true 2 8 false 1 3 false 1 2 false 4 2 false 2 5 false 2 7 false 2 9 false 2 11 false 2 3 true 10 4 true 14 4 true 6 2 false 3 2 false (k : Int) none 0 0 A k c (shC k) (shV k) (shB k) M) fun r => ∃ A c M', r = (.agg ⟨[.slice A 32 c]⟩, M') ∧ Pre M0 M' ∧ SetIs (fun b => M0.length ≤ b) M' A defSet := by
      intro fid hf
      refine Run.cut (Evp.of_eq (fun k => syms_Default.p14951 k ..) ?_)
      refine Evp.pos ⟨by omega, by show ((shC k : Nat) : Int).toNat * 32 ≤ 140737488355328; omega⟩ ?_
      simp only [Int.toNat_natCast]
      refine Evp.ret (def_row lo M fid k (shC k) ⟨M.length, 0, none⟩ hk32 rfl (by omega) A c k _ _ hf ?_ _ 0 _ (zerosL [.slice none 0 0, .int .i64 0] (shC k)) rfl (by omega) (Pre.app _ _) (Buf.push (Pre.refl M)) (zerosL_len _ _) fun i hi => absurd hi (by omega))
      intro M' vs p1 b1 hl ht
      have hin := b1.in_
      have hin : M.length < M'.length := hin
      obtain ⟨s, M'', e1, e2, e3, e4, e5, e6⟩ := (hg.pre p1).app' (lo := lo) (bytes := 24) (c := c) (vs := [.slice (some ⟨M.length, 0, none⟩) (shC k) (shC k)]) (m := 1) (hp.trans p1) hlo rfl (by omega) (by omega) (by omega)
      refine ⟨s, M'', e1, ?_⟩
      rw [w64 (x := (k : Int) + 1) (by omega)]
      have hA : ∀ a, A = some a → a.block < M.length := fun a ha => by
        rcases hg.at_ with ⟨e, _⟩ | ⟨b, e, h1, h2⟩
        · rw [e] at ha; cases ha
        · rw [e] at ha; injection ha with ha; subst ha; exact lt_of_get h2
      have kS : KeepS (fun b => (M0.length ≤ b ∧ ∀ a, A = some a → a.block ≠ b) ∧ b < M'.length) M' M'' := e5.keepS fun a ha h => h.1.2 a ha rfl
      have mono : ∀ b, ((M0.length ≤ b ∧ ∀ a, A = some a → a.block ≠ b) ∧ b < M'.length) → (M0.length ≤ b ∧ ∀ a, s.a = some a → a.block ≠ b) := fun b h => ⟨h.1.1, fun a' ha => by
        rcases e6 a' ha with ⟨a, h1, h2⟩ | h1
        · rw [← h2]; exact h.1.2 a h1
        · omega⟩
      have ne : ∀ i, i < 32 → (defRow i).length ≠ 0 ∧ ∀ t ∈ defRow i, t.1.length ≠ 0 := fun i hi => by
        have hsb := sh_bound i hi
        refine ⟨by simp [defRow]; omega, fun t ht => ?_⟩
        rw [List.eq_of_mem_replicate ht, defT_len]; omega
      have hcl := hg.len
      have hnew : RowAt (fun b => M0.length ≤ b ∧ ∀ a, A = some a → a.block ≠ b) M' (cs ++ [.slice (some ⟨M.length, 0, none⟩) (shC k) (shC k)]) k (defRow k) := by
        refine ⟨some ⟨M.length, 0, none⟩, shC k, ?_, fun a ha => ?_, vs, ?_, fun j t hj => ?_⟩
        · rw [List.getElem?_append_right (by omega), show k - cs.length = 0 by omega]; simp [defRow]
        · injection ha with ha; subst ha; exact ⟨by simpa using l0, fun a ha => by have := hA a ha; simp; omega⟩
        · have := b1.rd (n := shC k) (z := 2) hl
          simpa [defRow] using this
        · obtain ⟨h1, rfl⟩ := defRow_get hj
          exact (ht j h1).mono fun b h => ⟨by omega, fun a ha => by have := hA a ha; omega⟩
      have key : ∀ i, i < k + 1 → RowAt (fun b => M0.length ≤ b ∧ ∀ a, s.a = some a → a.block ≠ b) M'' (cs ++ [.slice (some ⟨M.length, 0, none⟩) (shC k) (shC k)]) i (defRow i) := fun i hi => by
        have hn := ne i (by omega)
        by_cases e : i = k
        · subst e
          exact ((hnew.lt hn.1 hn.2).keepS kS).mono mono
        · have h1 := (hr i (by omega)).keepS (p1.keepS)
          exact (((h1.lt hn.1 hn.2).keepS kS).mono mono).cells (by rw [List.getElem?_append_left (by omega)])
      obtain ⟨sa, sn, sc⟩ := s
      simp only at e3 e2 key
      subst e3
      exact ih (k + 1) M'' sa sc _ (by omega) (by omega) e4 e2 key
    refine Run.cut (Evp.of_eq (fun k => syms_Default.p116 k ..) ?_)
    refine Evp.dec (fun _ => ?_) fun h => absurd h (by omega)
    refine Evp.pos (by omega) ?_
    simp only [Int.toNat_natCast]
    refine Evp.some (shC_get k hk32) (Evp.some (shV_get k hk32) (Evp.some (shB_get k hk32) ?_))
    refine Evp.bb (fun hb => Evp.ret (row F.cdf_Steep fun M hM => ?_)) fun hb => Evp.ret (row F.cdf_Flat fun M hM => ?_)
    · have : (defT k).1 = steepS (shV k) := by unfold defT; simp [hb]
      rw [this]
      exact steep_ok lo (shV k) M hsb.2.2 hM
    · have : (defT k).1 = flatS (shV k) := by unfold defT; simp [hb]
      rw [this]
      exact flat_ok lo (shV k) M hsb.2.2 hM
theorem default_ok (M : Mem) (hlo : lo ≤ M.length) : Ac P T lo F.syms_Default [] M fun r => ∃ A c M', r = (.agg ⟨[.slice A 32 c]⟩, M') ∧ Pre M M' ∧ SetIs (fun b => M.length ≤ b) M' A defSet := by
  refine Ac.of (Evp.of_eq (fun k => syms_Default.entry k ..) ?_)
  refine Evp.ob (shapes_ok ..) ?_
  rintro _ rfl
  simp only [ret_int, ret_bool, ret_flt, ret_slc, ret_str, ret_ptr, ret_agg, ret_tup, ob_some, bb_true, bb_false, List.getElem?_cons_zero, List.getElem?_cons_succ, List.length_cons, List.length_nil, Nat.reduceAdd, Nat.reduceLT]
  exact Evp.ret (def_loop lo M hlo _ 0 M none 0 [] rfl (by omega) (Pre.refl M) Grow.nil fun i hi => absurd hi (by omega))
end
end Go.Zt
