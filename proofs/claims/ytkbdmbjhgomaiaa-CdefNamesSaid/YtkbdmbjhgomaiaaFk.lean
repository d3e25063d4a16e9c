/- The document's sample and Block; CdefBlocks. -/
import Derived.Test.YtkbdmbjhgomaiaaFg
set_option linter.unusedVariables false
set_option linter.unusedSimpArgs false
set_option maxRecDepth 100000
namespace Go.Zt
theorem Buf.in_ {M0 M : Mem} {a : Addr} {cs : List Value} (h : Buf M0 M a cs) : a.block < M.length := by
  obtain ⟨k, h1, h2, h3, h4⟩ := h
  exact (List.getElem?_eq_some_iff.1 h3).1
def boxS (w h : Nat) (A : Option Addr) (n c : Nat) (x y : Nat) (s : S3) : List Value := [.int .i64 w, .int .i64 h, .slice A n c, .int .i64 x, .int .i64 y, .int .i64 s.sum, .int .i64 s.low, .int .i64 s.top]
theorem Buf.cell {M0 M : Mem} {a : Addr} {cs : List Value} (h : Buf M0 M a cs) {i : Nat} (hi : i < cs.length) : M.ld (plus a i) = cs[i]? := by
  obtain ⟨a', e, _, h2⟩ := Rd.get (h.rd (n := cs.length) (z := 1) (by omega)) (i := i) (by omega)
  injection e with e; subst e
  exact h2
def bothS (w h : Nat) (xs : List Int) (x y v p : Int) (T : List Int) (t : Nat) (s : S3) : S3 := askS w h xs x y v p T t 1 (askS w h xs x y v p T t (-1) s)
theorem ask_comm (w h : Nat) (xs : List Int) (x y v p : Int) (T : List Int) (t t' : Nat) (u u' : Int) (s : S3) : askS w h xs x y v p T t u (askS w h xs x y v p T t' u' s) = askS w h xs x y v p T t' u' (askS w h xs x y v p T t u s) := by
  have mn : ∀ a b c : Int, minI (minI a b) c = minI (minI a c) b := fun a b c => by
    unfold minI
    repeat' split
    all_goals omega
  have mx : ∀ a b c : Int, maxI (maxI a b) c = maxI (maxI a c) b := fun a b c => by
    unfold maxI
    repeat' split
    all_goals omega
  unfold askS
  by_cases h1 : inP w h (x + u' * tC T t') (y + u' * tR T t')
  · by_cases h2 : inP w h (x + u * tC T t) (y + u * tR T t)
    · simp only [if_pos h1, if_pos h2]
      rw [Int.add_right_comm, mn, mx]
    · simp only [if_pos h1, if_neg h2]
  · simp only [if_neg h1]
theorem both_comm (w h : Nat) (xs : List Int) (x y v p : Int) (T : List Int) (t t' : Nat) (s : S3) : bothS w h xs x y v p T t (bothS w h xs x y v p T t' s) = bothS w h xs x y v p T t' (bothS w h xs x y v p T t s) := by
  unfold bothS
  rw [ask_comm w h xs x y v p T t t' (-1) 1, ask_comm w h xs x y v p T t t' 1 1, ask_comm w h xs x y v p T t t' (-1) (-1), ask_comm w h xs x y v p T t t' 1 (-1)]
theorem fold_doc (w h : Nat) (xs : List Int) (x y v p : Int) (T : List Int) : foldS w h xs x y v p T 6 = bothS w h xs x y v p T 4 (bothS w h xs x y v p T 5 (bothS w h xs x y v p T 3 (bothS w h xs x y v p T 1 (bothS w h xs x y v p T 2 (bothS w h xs x y v p T 0 ⟨0, v, v⟩))))) := by
  have st : ∀ t, foldS w h xs x y v p T (t + 1) = bothS w h xs x y v p T t (foldS w h xs x y v p T t) := fun t => by
    show askS w h xs x y v p T t (-1) (askS w h xs x y v p T t 1 _) = _
    rw [ask_comm]; rfl
  rw [st 5, st 4, st 3, st 2, st 1, st 0, both_comm w h xs x y v p T 5 4, both_comm w h xs x y v p T 2 1]
  rfl
theorem steps_ok (lo d : Nat) (M : Mem) (hd : d ≤ 15) : Ac P T lo F.zoetroperef23_steps [.int .i64 d] M fun r => ∃ M', Pre M M' ∧ r = (.agg ⟨[.int .i64 (alongL.getD (d % 8 * 4) 0), .int .i64 (alongL.getD (d % 8 * 4 + 1) 0), .int .i64 (alongL.getD (d % 8 * 4 + 2) 0), .int .i64 (alongL.getD (d % 8 * 4 + 3) 0)]⟩, M') := by
  have tm : Int.tmod (d : Int) 8 = ((d % 8 : Nat) : Int) := rfl
  have b1 : Buf M (M ++ [⟨.fx, alongL.map (Value.int .i64)⟩] : Mem) ⟨M.length, 0, none⟩ (alongL.map (Value.int .i64)) := Buf.push (Pre.refl _)
  have ld : ∀ i, i < 32 → ((M ++ [⟨.fx, alongL.map (Value.int .i64)⟩] : Mem).ld (plus ⟨M.length, 0, none⟩ i)).bind (Value.int? .i64) = some (alongL.getD i 0) := fun i hi => by
    rw [b1.cell (show i < (alongL.map (Value.int .i64)).length from hi)]
    exact tabI hi
  simp only [alongL, List.map_cons, List.map_nil] at ld
  refine Ac.of (Evp.of_eq (fun k => zoetroperef23_steps.entry k ..) ?_)
  rw [tm]
  refine Evp.pos (by omega) ?_
  simp only [Int.toNat_natCast, plus_plus]
  refine Evp.some (ld (d % 8 * 4) (by omega)) (Evp.some (ld (d % 8 * 4 + 1) (by omega)) (Evp.some (ld (d % 8 * 4 + 2) (by omega)) (Evp.some (ld (d % 8 * 4 + 3) (by omega)) ?_)))
  exact Evp.ret (Run.ret ⟨_, Pre.app _ _, rfl⟩)
section
variable (lo : Nat) (w h : Nat) (A : Option Addr) (cap : Nat) (xs T : List Int) (x y : Nat) (p : Int) (M0 : Mem) (a : Addr)
variable (hlo : lo ≤ M0.length) (hx : RdI M0 .u8 A xs) (bx : Bytes xs) (hT : TapB T) (hw : 1 ≤ w ∧ w ≤ 512) (hh : 1 ≤ h ∧ h ≤ 512) (hl : xs.length = h * w) (hxw : x < w) (hyh : y < h)
include hlo hx bx hT hw hh hl hxw hyh
theorem ask_way (v : Int) (hv : 0 ≤ v ∧ v ≤ 255) (t : Nat) (ht : t < 6) (way : Int) (hway : way = 1 ∨ way = -1) (n : Nat) (hn : n ≤ 12) (s : S3) (hs : S3B v n s) (M : Mem) (hp : Pre M0 M) (hb : Buf M0 M a (boxS w h A xs.length cap x y s)) (Q : Value × Mem → Prop)
    (next : ∀ M', Pre M0 M' → Buf M0 M' a (boxS w h A xs.length cap x y (askS w h xs x y v p T t way s)) → Run P Zt.T lo F.zoetroperef23_around_ask (zoetroperef23_around_ask.c243 a (tS T t) p (tM T t) v way (tR T t) (tC T t) M') Q) :
    Run P Zt.T lo F.zoetroperef23_around_ask (zoetroperef23_around_ask.c60 a (tS T t) p (tM T t) v way (tR T t) (tC T t) M) Q := by
  obtain ⟨⟨r1, r2⟩, ⟨c1, c2⟩, m1, m2⟩ := hT.2 t ht
  obtain ⟨a1, a2, a3, a4, a5, a6⟩ := hs
  have wr : -2 ≤ way * tR T t ∧ way * tR T t ≤ 2 := by rcases hway with rfl | rfl <;> omega
  have wc : -2 ≤ way * tC T t ∧ way * tC T t ≤ 2 := by rcases hway with rfl | rfl <;> omega
  have sm : h * w ≤ 512 * 512 := Nat.mul_le_mul hh.2 hw.2
  have g0 : M.ld a = some (.int .i64 w) := hb.cell (i := 0) (by show 0 < 8; decide)
  have g1 : M.ld (plus a 1) = some (.int .i64 h) := hb.cell (i := 1) (by show 1 < 8; decide)
  have g2 : M.ld (plus a 2) = some (.slice A xs.length cap) := hb.cell (i := 2) (by show 2 < 8; decide)
  have g3 : M.ld (plus a 3) = some (.int .i64 x) := hb.cell (i := 3) (by show 3 < 8; decide)
  have g4 : M.ld (plus a 4) = some (.int .i64 y) := hb.cell (i := 4) (by show 4 < 8; decide)
  have g5 : (if (plus a 5).block < M.length then M.ld (plus a 5) else none) = some (.int .i64 s.sum) := by rw [if_pos (show (plus a 5).block < M.length from hb.in_)]; exact hb.cell (i := 5) (by show 5 < 8; decide)
  refine Run.cut (Evp.of_eq (fun k => zoetroperef23_around_ask.p60 k ..) ?_)
  refine Evp.dec (fun _ => ?_) fun g => absurd g (by omega)
  rw [g0, g1, g2, g3, g4, g5]
  refine Evp.some rfl (Evp.some rfl ?_)
  rw [w64 (x := way * tC T t) (by omega), w64 (x := way * tR T t) (by omega), w64 (x := (x : Int) + way * tC T t) (by omega), w64 (x := (y : Int) + way * tR T t) (by omega)]
  have no : ¬ inP w h ((x : Int) + way * tC T t) ((y : Int) + way * tR T t) → Evp (fun k => some (zoetroperef23_around_ask.c243 a (tS T t) p (tM T t) v way (tR T t) (tC T t) M)) fun out => Run P Zt.T lo F.zoetroperef23_around_ask out Q := fun g => Evp.ret (next M hp (by unfold askS; rw [if_neg g]; exact hb))
  refine Evp.dec (fun g => no fun e => by have := e.1.1; omega) fun k1 => ?_
  refine Evp.dec (fun g => no fun e => by have := e.2.1; omega) fun k2 => ?_
  refine Evp.some rfl (Evp.dec (fun g => no fun e => by have := e.1.2; omega) fun k3 => ?_)
  refine Evp.some rfl (Evp.dec (fun g => no fun e => by have := e.2.2; omega) fun k4 => ?_)
  have hin : inP w h ((x : Int) + way * tC T t) ((y : Int) + way * tR T t) := ⟨⟨by omega, by omega⟩, by omega, by omega⟩
  have nx := fun M' p' b' => next M' p' (by unfold askS; rw [if_pos hin]; exact b')
  unfold atP at nx
  clear no next
  generalize (x : Int) + way * tC T t = cx at *
  generalize (y : Int) + way * tR T t = cy at *
  obtain ⟨X, rfl⟩ := Int.eq_ofNat_of_zero_le (a := cx) (by omega)
  obtain ⟨Y, rfl⟩ := Int.eq_ofNat_of_zero_le (a := cy) (by omega)
  have hlt : Y * w + X < h * w := by
    have : (Y + 1) * w ≤ h * w := Nat.mul_le_mul_right w (by omega)
    rw [Nat.add_mul, Nat.one_mul] at this
    omega
  have ei : IntKind.i64.wrap ((IntKind.i64.wrap ((Y : Int) * w)) + (X : Int)) = ((Y * w + X : Nat) : Int) := by
    rw [← Int.natCast_mul, w64 (x := ((Y * w : Nat) : Int)) (by omega), w64 (by omega)]; omega
  have en : ((Y : Int) * w + X).toNat = Y * w + X := by rw [← Int.natCast_mul]; omega
  rw [en] at nx
  refine Evp.some rfl (Evp.some rfl ?_)
  dsimp only
  rw [ei]
  refine Evp.pos (by omega) ?_
  simp only [Int.toNat_natCast]
  refine Evp.ldI (hx.pre hp) (by omega) fun _ _ => ?_
  refine Evp.some rfl ?_
  have bb := bx.get (Y * w + X)
  rw [w64 (x := xs.getD (Y * w + X) 0) (by omega), w64 (x := xs.getD (Y * w + X) 0 - v) (by omega)]
  refine Evp.ob (rlimit_ok M.length _ _ _ M) ?_
  rintro _ rfl
  simp only [ret_int, ret_bool, ret_flt, ret_slc, ret_str, ret_ptr, ret_agg, ret_tup, ob_some, bb_true, bb_false, List.getElem?_cons_zero, List.getElem?_cons_succ, List.length_cons, List.length_nil, Nat.reduceAdd, Nat.reduceLT]
  have l := limS_le (xs.getD (Y * w + X) 0 - v) (tS T t) p
  have ml := mul_abs (a := tM T t) (b := limS (xs.getD (Y * w + X) 0 - v) (tS T t) p) (A := 4) (B := 1048576) (by omega) (by omega)
  rw [w64 (x := tM T t * limS (xs.getD (Y * w + X) 0 - v) (tS T t) p) (by omega), w64 (x := s.sum + tM T t * limS (xs.getD (Y * w + X) 0 - v) (tS T t) p) (by omega)]
  obtain ⟨M1, h1, b1, p1, _, _⟩ := hb.st (lo := lo) (i := 5) (vs := [.int .i64 (s.sum + tM T t * limS (xs.getD (Y * w + X) 0 - v) (tS T t) p)]) hp hlo (by show 6 ≤ 8; decide)
  refine Evp.some h1 ?_
  rw [setL_one] at b1
  have q6 : M1.ld (plus a 6) = some (.int .i64 s.low) := b1.cell (i := 6) (by show 6 < 8; decide)
  rw [q6]
  refine Evp.some rfl ?_
  obtain ⟨M2, h2, b2, p2, _, _⟩ := b1.st (lo := lo) (i := 6) (vs := [.int .i64 (minI s.low (xs.getD (Y * w + X) 0))]) p1 hlo (by show 7 ≤ 8; decide)
  refine Evp.some h2 ?_
  rw [setL_one] at b2
  have q7 : M2.ld (plus a 7) = some (.int .i64 s.top) := b2.cell (i := 7) (by show 7 < 8; decide)
  rw [q7]
  refine Evp.some rfl ?_
  obtain ⟨M3, h3, b3, p3, _, _⟩ := b2.st (lo := lo) (i := 7) (vs := [.int .i64 (maxI s.top (xs.getD (Y * w + X) 0))]) p2 hlo (by show 8 ≤ 8; decide)
  refine Evp.some h3 ?_
  rw [setL_one] at b3
  exact Evp.ret (nx M3 p3 b3)
theorem ask_ok (v : Int) (ev : v = atP w xs x y) (t : Nat) (ht : t < 6) (n : Nat) (hn : n ≤ 10) (s : S3) (hs : S3B v n s) (M : Mem) (hp : Pre M0 M) (hb : Buf M0 M a (boxS w h A xs.length cap x y s)) : Ac P Zt.T lo F.zoetroperef23_around_ask [.pointer (some a), .agg ⟨[.int .i64 (tR T t), .int .i64 (tC T t)]⟩, .int .i64 (tS T t), .int .i64 p, .int .i64 (tM T t)] M fun r => ∃ M', r = (.tuple ⟨[]⟩, M') ∧ Pre M0 M' ∧ Buf M0 M' a (boxS w h A xs.length cap x y (bothS w h xs x y v p T t s)) := by
  have sm : h * w ≤ 512 * 512 := Nat.mul_le_mul hh.2 hw.2
  have hlt : y * w + x < h * w := by
    have : (y + 1) * w ≤ h * w := Nat.mul_le_mul_right w (by omega)
    rw [Nat.add_mul, Nat.one_mul] at this
    omega
  have ei : IntKind.i64.wrap ((IntKind.i64.wrap ((y : Int) * w)) + (x : Int)) = ((y * w + x : Nat) : Int) := by
    rw [← Int.natCast_mul, w64 (x := ((y * w : Nat) : Int)) (by omega), w64 (by omega)]; omega
  have en : v = xs.getD (y * w + x) 0 := by
    rw [ev]; unfold atP
    rw [show ((y : Int) * w + x).toNat = y * w + x by rw [← Int.natCast_mul]; omega]
  have bb := bx.get (y * w + x)
  have hv : 0 ≤ v ∧ v ≤ 255 := by omega
  have g0 : M.ld a = some (.int .i64 w) := hb.cell (i := 0) (by show 0 < 8; decide)
  have g2 : M.ld (plus a 2) = some (.slice A xs.length cap) := hb.cell (i := 2) (by show 2 < 8; decide)
  have g3 : M.ld (plus a 3) = some (.int .i64 x) := hb.cell (i := 3) (by show 3 < 8; decide)
  have g4 : M.ld (plus a 4) = some (.int .i64 y) := hb.cell (i := 4) (by show 4 < 8; decide)
  refine Ac.of (Evp.of_eq (fun k => zoetroperef23_around_ask.entry k ..) ?_)
  rw [g0, g2, g3, g4]
  refine Evp.some rfl (Evp.some rfl (Evp.some rfl (Evp.some rfl ?_)))
  dsimp only
  rw [ei]
  refine Evp.pos (by omega) ?_
  simp only [Int.toNat_natCast]
  refine Evp.ldI (hx.pre hp) (by omega) fun _ _ => ?_
  rw [w64 (by omega), ← en]
  refine Evp.ret (ask_way lo w h A cap xs T x y p M0 a hlo hx bx hT hw hh hl hxw hyh v hv t ht (-1) (.inr rfl) n (by omega) s hs M hp hb _ fun M1 p1 b1 => ?_)
  refine Run.cut (Evp.of_eq (fun k => zoetroperef23_around_ask.p243 k ..) ?_)
  refine Evp.ret (ask_way lo w h A cap xs T x y p M0 a hlo hx bx hT hw hh hl hxw hyh v hv t ht 1 (.inl rfl) (n + 1) (by omega) _ (ask_b bx hT ht hs) M1 p1 b1 _ fun M2 p2 b2 => ?_)
  refine Run.cut (Evp.of_eq (fun k => zoetroperef23_around_ask.p243 k ..) ?_)
  refine Evp.ret ?_
  refine Run.cut (Evp.of_eq (fun k => zoetroperef23_around_ask.p60 k ..) ?_)
  exact Evp.dec (fun g => absurd g (by decide)) fun _ => Evp.ret (Run.ret ⟨M2, rfl, p2, b2⟩)
end
end Go.Zt
