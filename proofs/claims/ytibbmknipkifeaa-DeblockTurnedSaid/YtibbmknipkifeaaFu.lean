/- DeblockTurned. -/
import Derived.Test.YtibbmknipkifeaaFt
set_option linter.unusedVariables false
set_option linter.unusedSimpArgs false
set_option maxRecDepth 100000
namespace Go.Zt
theorem putL_get {xs : List Int} {b st : Nat} {zs : List Int} (hst : 0 < st) : ∀ {n j : Nat}, j < n → (∀ j, j < n → b + j * st < xs.length) → (putL xs b st zs n).getD (b + j * st) 0 = zs.getD j 0
  | 0, j, h, _ => by omega
  | n + 1, j, h, hin => by
    simp only [putL]
    by_cases e : j = n
    · subst e
      rw [getD_set (by rw [putL_len]; exact hin j (by omega)), if_pos rfl]
    · have : j * st ≠ n * st := fun h => e (Nat.eq_of_mul_eq_mul_right hst h)
      rw [getD_set_ne (by omega)]
      exact putL_get hst (by omega) fun j hj => hin j (by omega)
theorem tapsN_half {r : Int} (col : Bool) (h : 4 ≤ r) : ((tapsN r col / 2 : Nat) : Int) ≤ r / 2 := by
  unfold tapsN
  split
  · omega
  · split
    · omega
    · split <;> omega
theorem split_pos {W a b c d : Nat} (hb : b < W) (hd : d < W) (h : a * W + b = c * W + d) : a = c ∧ b = d := by
  have e1 : (a * W + b) / W = a ∧ (a * W + b) % W = b := by
    rw [Nat.add_comm]
    exact ⟨by rw [Nat.add_mul_div_right b a (by omega), Nat.div_eq_of_lt hb, Nat.zero_add], by rw [Nat.add_mul_mod_self_right, Nat.mod_eq_of_lt hb]⟩
  have e2 : (c * W + d) / W = c ∧ (c * W + d) % W = d := by
    rw [Nat.add_comm]
    exact ⟨by rw [Nat.add_mul_div_right d c (by omega), Nat.div_eq_of_lt hd, Nat.zero_add], by rw [Nat.add_mul_mod_self_right, Nat.mod_eq_of_lt hd]⟩
  rw [h] at e1
  exact ⟨e1.1.symm.trans e2.1, e1.2.symm.trans e2.2⟩
section
variable {m : Cells} {W H mh sz : Nat} (u : Uni m W H mh sz)
include u
theorem Uni.half {i : Nat} (h : i < m.mw * mh) (hs : ¬ m.skip i) : m.taps W H i / 2 ≤ sz / 2 ∧ m.at_ i % sz = 0 ∧ m.at_ i ≠ 0 := by
  obtain ⟨g1, g2, g3, g4⟩ := _root_.Go.Zt.geo m W H mh i u.hW u.hH h (u.txp h) (u.txp (prev_lt h)) hs
  have hh := tapsN_half m.col g4
  have hr : m.reach W H i ≤ sz := by
    have := u.tx h
    unfold Cells.reach; omega
  refine ⟨?_, ?_, fun e => hs (.inl e)⟩
  · unfold Cells.taps; omega
  · by_cases g : (m.at_ i : Int) % m.tx.getD i 0 = 0
    · rw [u.tx h] at g; omega
    · exact absurd (.inr (.inl g)) hs
theorem Uni.disj {i i' : Nat} (h : i < m.mw * mh) (h' : i' < m.mw * mh) (hs : ¬ m.skip i) (hs' : ¬ m.skip i') {k k' j j' : Nat} (hk : k < 4) (hk' : k' < 4) (hj : j < m.taps W H i) (hj' : j' < m.taps W H i') (e : m.first W H i k + j * m.step W = m.first W H i' k' + j' * m.step W) : i = i' ∧ k = k' ∧ j = j' := by
  have p1 := (pos_eq m W H mh i u.hW u.hH h (u.txp h) (u.txp (prev_lt h)) hs k j hk hj).1
  have p2 := (pos_eq m W H mh i' u.hW u.hH h' (u.txp h') (u.txp (prev_lt h')) hs' k' j' hk' hj').1
  rw [p1, p2] at e
  obtain ⟨hf, e1, e2, e3, e4⟩ := u.geo h hs
  obtain ⟨hf', e1', e2', e3', e4'⟩ := u.geo h' hs'
  obtain ⟨f1, f2, f3⟩ := u.half h hs
  obtain ⟨f1', f2', f3'⟩ := u.half h' hs'
  obtain ⟨v1, v2, v3⟩ := divmod_lt h
  obtain ⟨v1', v2', v3'⟩ := divmod_lt h'
  have hW := u.hW
  have ms : sz = 4 ∨ sz = 8 ∨ sz = 16 ∨ sz = 32 ∨ sz = 64 := by
    have := u.hs
    unfold TxP at this; omega
  have apart : ∀ {a a' b b' t t' : Nat}, a % sz = 0 → a' % sz = 0 → b ≤ sz / 2 → b' ≤ sz / 2 → b ≤ a → b' ≤ a' → t < 2 * b → t' < 2 * b' → a - b + t = a' - b' + t' → a = a' := fun {a a' b b' t t'} q1 q2 q3 q4 q5 q6 q7 q8 q9 => by
    rcases ms with rfl | rfl | rfl | rfl | rfl <;> omega
  have key : i / m.mw = i' / m.mw → i % m.mw = i' % m.mw → i = i' := fun q1 q2 => by
    rw [← Nat.div_add_mod i m.mw, ← Nat.div_add_mod i' m.mw, q1, q2]
  have same : i = i' → m.taps W H i = m.taps W H i' := fun q => by rw [q]
  unfold Cells.at_ at e3 e3' f2 f2'
  unfold Cells.at_ Cells.side at e4 e4'
  generalize m.taps W H i = n at *
  generalize m.taps W H i' = n' at *
  cases hu : m.up with
  | true =>
    rw [hu] at e e3 e4 e3' e4' f2 f2'
    simp only [if_true] at e e3 e4 e3' e4' f2 f2'
    obtain ⟨r1, r2⟩ := split_pos (by omega) (by omega) e
    have ax := apart (t := j) (t' := j') f2 f2' f1 f1' (by omega) (by omega) (by omega) (by omega) r2
    have ii := key (by omega) (by omega)
    have := same ii
    exact ⟨ii, by omega, by omega⟩
  | false =>
    rw [hu] at e e3 e4 e3' e4' f2 f2'
    simp only [Bool.false_eq_true, if_false] at e e3 e4 e3' e4' f2 f2'
    obtain ⟨r1, r2⟩ := split_pos (by omega) (by omega) e
    have ax := apart (t := j) (t' := j') f2 f2' f1 f1' (by omega) (by omega) (by omega) (by omega) r1
    have ii := key (by omega) (by omega)
    have := same ii
    exact ⟨ii, by omega, by omega⟩
end
/-- What is done, what is not yet. -/
structure LInv (m : Cells) (W H mh : Nat) (xs : List Int) (K : Nat → Nat → Prop) (zs : List Int) : Prop where
  len : zs.length = xs.length
  inn : ∀ i k j, K i k → i < m.mw * mh → ¬ m.skip i → k < 4 → j < m.taps W H i → zs.getD (m.first W H i k + j * m.step W) 0 = (edgeL (secL xs (m.first W H i k) (m.step W) (m.taps W H i)) m.level m.sharp).getD j 0
  out : ∀ p, (∀ i k j, K i k → i < m.mw * mh → ¬ m.skip i → k < 4 → j < m.taps W H i → p ≠ m.first W H i k + j * m.step W) → zs.getD p 0 = xs.getD p 0
theorem LInv.congr {m : Cells} {W H mh : Nat} {xs zs : List Int} {K K' : Nat → Nat → Prop} (l : LInv m W H mh xs K zs) (h : ∀ i k, i < m.mw * mh → ¬ m.skip i → k < 4 → (K i k ↔ K' i k)) : LInv m W H mh xs K' zs :=
  ⟨l.len, fun i k j a b c d e => l.inn i k j ((h i k b c d).2 a) b c d e, fun p hp => l.out p fun i k j a b c d e => hp i k j ((h i k b c d).1 a) b c d e⟩
section
variable {m : Cells} {W H mh sz : Nat} (u : Uni m W H mh sz) {xs : List Int} (hl : xs.length = H * W)
include u hl
theorem Uni.line {K : Nat → Nat → Prop} {zs : List Int} (l : LInv m W H mh xs K zs) {i k : Nat} (hi : i < m.mw * mh) (hs : ¬ m.skip i) (hk : k < 4) (hno : ¬ K i k) : LInv m W H mh xs (fun a b => K a b ∨ (a = i ∧ b = k)) (lineS zs (m.first W H i k) (m.step W) (m.taps W H i) m.level m.sharp) := by
  have P1 := pos_eq m W H mh i u.hW u.hH hi (u.txp hi) (u.txp (prev_lt hi)) hs
  have st : 0 < m.step W := by
    have := u.w4
    unfold Cells.step; split <;> omega
  have es : secL zs (m.first W H i k) (m.step W) (m.taps W H i) = secL xs (m.first W H i k) (m.step W) (m.taps W H i) := by
    refine ext_getD (by rw [secL_len, secL_len]) fun j hj => ?_
    rw [secL_len] at hj
    unfold secL
    rw [getD_map_range hj, getD_map_range hj]
    refine l.out _ fun i' k' j' a b c d e h => hno ?_
    obtain ⟨rfl, rfl, _⟩ := u.disj hi b hs c hk d hj e h
    exact a
  have hin : ∀ j, j < m.taps W H i → m.first W H i k + j * m.step W < zs.length := fun j hj => by
    rw [l.len, hl]; exact (P1 k j hk hj).2.1
  refine ⟨by rw [lineS_len]; exact l.len, fun a b j hK ha hsa hb hj => ?_, fun p hp => ?_⟩
  · by_cases e : a = i ∧ b = k
    · obtain ⟨rfl, rfl⟩ := e
      unfold lineS
      rw [putL_get st hj hin, es]
    · have hK := hK.resolve_right e
      unfold lineS
      rw [putL_keep fun j' hj' h => ?_]
      · exact l.inn a b j hK ha hsa hb hj
      · obtain ⟨rfl, rfl, _⟩ := u.disj ha hi hsa hs hb hk hj hj' h
        exact absurd ⟨rfl, rfl⟩ e
  · unfold lineS
    rw [putL_keep fun j' hj' h => absurd h (hp i k j' (.inr ⟨rfl, rfl⟩) hi hs hk hj')]
    exact l.out p fun i' k' j' a b c d e => hp i' k' j' (.inl a) b c d e
theorem Uni.inv : ∀ n, n ≤ m.mw * mh → LInv m W H mh xs (fun a _ => a < n) (m.passS W H xs n)
  | 0, _ => ⟨rfl, fun i k j a => absurd a (by omega), fun p _ => rfl⟩
  | n + 1, h => by
    have ih := Uni.inv n (by omega)
    simp only [Cells.passS]
    generalize m.passS W H xs n = zs at *
    unfold Cells.cellS
    split
    · rename_i hs
      exact ih.congr fun i k _ b _ => ⟨fun a => by omega, fun a => by
        by_cases e : i = n
        · subst e; exact absurd hs b
        · omega⟩
    rename_i hs
    have ll : ∀ k, k ≤ 4 → LInv m W H mh xs (fun a b => a < n ∨ (a = n ∧ b < k)) (m.linesS W H zs n k) := fun k => by
      induction k with
      | zero => intro _; exact ih.congr fun i k _ _ _ => ⟨fun a => .inl a, fun a => by omega⟩
      | succ k ih2 =>
        intro hk
        simp only [Cells.linesS]
        exact (u.line hl (ih2 (by omega)) (i := n) (k := k) (by omega) hs (by omega) (by omega)).congr fun i k' _ _ _ => by omega
    exact (ll 4 (by omega)).congr fun i k _ _ _ => by omega
end
def trP (W H p : Nat) : Nat := p % W * H + p / W
theorem tr_eq {W H r c : Nat} (hc : c < W) : trP W H (r * W + c) = c * H + r := by
  unfold trP
  have : (r * W + c) / W = r ∧ (r * W + c) % W = c := by
    rw [Nat.add_comm]
    exact ⟨by rw [Nat.add_mul_div_right c r (by omega), Nat.div_eq_of_lt hc, Nat.zero_add], by rw [Nat.add_mul_mod_self_right, Nat.mod_eq_of_lt hc]⟩
  rw [this.1, this.2]
theorem tr_tr {W H p : Nat} (hW : 0 < W) (hp : p < H * W) : trP H W (trP W H p) = p ∧ trP W H p < W * H := by
  have hr : p / W < H := (Nat.div_lt_iff_lt_mul hW).2 hp
  have hc : p % W < W := Nat.mod_lt _ hW
  have e : trP W H p = p % W * H + p / W := rfl
  rw [e, tr_eq hr]
  exact ⟨by rw [Nat.mul_comm]; exact Nat.div_add_mod p W, row_in hc hr⟩
theorem turn {m m' : Cells} {W H mh mh' sz : Nat} (u : Uni m W H mh sz) (u' : Uni m' H W mh' sz) (hup : m'.up = !m.up) (hcol : m'.col = m.col) (hq : ∀ i, m'.qs.getD i false = false) {i : Nat} (hi : i < m.mw * mh) (hs : ¬ m.skip i) :
    ∃ i', i' < m'.mw * mh' ∧ ¬ m'.skip i' ∧ m'.taps H W i' = m.taps W H i ∧ ∀ k j, k < 4 → j < m.taps W H i → m'.first H W i' k + j * m'.step H = trP W H (m.first W H i k + j * m.step W) := by
  obtain ⟨v1, v2, v3⟩ := divmod_lt hi
  have a1 := u.hW
  have a2 := u.hH
  have a3 := u'.hW
  have a4 := u'.hH
  have e1 : m'.mw = mh := by omega
  have e2 : mh' = m.mw := by omega
  have hi' : i % m.mw * m'.mw + i / m.mw < m'.mw * mh' := by
    rw [Nat.mul_comm m'.mw]; exact row_in (by rw [e2]; exact v2) (by rw [e1]; exact v1)
  obtain ⟨d1, d2⟩ : (i % m.mw * m'.mw + i / m.mw) / m'.mw = i % m.mw ∧ (i % m.mw * m'.mw + i / m.mw) % m'.mw = i / m.mw := by
    rw [Nat.add_comm]
    have v1' : i / m.mw < m'.mw := by rw [e1]; exact v1
    have v0 : 0 < m'.mw := Nat.lt_of_le_of_lt (Nat.zero_le _) v1'
    exact ⟨by rw [Nat.add_mul_div_right _ _ v0, Nat.div_eq_of_lt v1', Nat.zero_add], by rw [Nat.add_mul_mod_self_right, Nat.mod_eq_of_lt v1']⟩
  generalize i % m.mw * m'.mw + i / m.mw = i' at *
  have ea : m'.at_ i' = m.at_ i := by
    unfold Cells.at_
    rw [hup, d1, d2]
    cases m.up <;> rfl
  have es : m'.side H W = m.side W H := by
    unfold Cells.side
    rw [hup]
    cases m.up <;> rfl
  obtain ⟨f1, f2, f3⟩ := u.half hi hs
  have hs' : ¬ m'.skip i' := by
    rintro (e | e | e)
    · exact f3 (ea ▸ e)
    · rw [u'.tx hi', ea] at e; omega
    · rw [hq] at e; cases e.2.1
  have et : m'.taps H W i' = m.taps W H i := by
    unfold Cells.taps Cells.reach
    rw [u'.tx hi', u'.tx (prev_lt hi'), u.tx hi, u.tx (prev_lt hi), ea, es, hcol]
  refine ⟨i', hi', hs', et, fun k j hk hj => ?_⟩
  rw [(pos_eq m W H mh i u.hW u.hH hi (u.txp hi) (u.txp (prev_lt hi)) hs k j hk hj).1, (pos_eq m' H W mh' i' u'.hW u'.hH hi' (u'.txp hi') (u'.txp (prev_lt hi')) hs' k j hk (by rw [et]; exact hj)).1]
  obtain ⟨hf, g1, g2, g3, g4⟩ := u.geo hi hs
  rw [hup, d1, d2, et]
  unfold Cells.at_ at g3
  unfold Cells.at_ Cells.side at g4
  cases hu : m.up with
  | true =>
    rw [hu] at g3 g4
    simp only [if_true, Bool.not_true, Bool.false_eq_true, if_false] at g3 g4 ⊢
    rw [tr_eq (by omega)]
  | false =>
    rw [hu] at g3 g4
    simp only [Bool.false_eq_true, if_false, Bool.not_false, if_true] at g3 g4 ⊢
    rw [tr_eq (by omega)]
/-- Lying edges are upright ones of the plane that is turned over. -/
theorem turned {m m' : Cells} {W H mh mh' sz : Nat} (u : Uni m W H mh sz) (u' : Uni m' H W mh' sz) (hup : m'.up = !m.up) (hcol : m'.col = m.col) (hlv : m'.level = m.level) (hsh : m'.sharp = m.sharp) (hq : ∀ i, m.qs.getD i false = false) (hq' : ∀ i, m'.qs.getD i false = false)
    {xs ys : List Int} (hl : xs.length = H * W) (hl' : ys.length = W * H) (hxy : ∀ p, p < H * W → ys.getD (trP W H p) 0 = xs.getD p 0) {p : Nat} (hp : p < H * W) : (m'.passS H W ys (m'.mw * mh')).getD (trP W H p) 0 = (m.passS W H xs (m.mw * mh)).getD p 0 := by
  have i1 := u.inv hl _ (Nat.le_refl _)
  have i2 := u'.inv hl' _ (Nat.le_refl _)
  have w0 : 0 < W := by have := u.w4; omega
  have h0 : 0 < H := by have := u.h4; omega
  by_cases g : ∃ i k j, i < m.mw * mh ∧ ¬ m.skip i ∧ k < 4 ∧ j < m.taps W H i ∧ p = m.first W H i k + j * m.step W
  · obtain ⟨i, k, j, hi, hs, hk, hj, rfl⟩ := g
    obtain ⟨i', hi', hs', et, ep⟩ := turn u u' hup hcol hq' hi hs
    rw [i1.inn i k j hi hi hs hk hj, ← ep k j hk hj, i2.inn i' k j hi' hi' hs' hk (by rw [et]; exact hj), et, hlv, hsh]
    have es : secL ys (m'.first H W i' k) (m'.step H) (m.taps W H i) = secL xs (m.first W H i k) (m.step W) (m.taps W H i) := by
      refine ext_getD (by rw [secL_len, secL_len]) fun q hq => ?_
      rw [secL_len] at hq
      unfold secL
      rw [getD_map_range hq, getD_map_range hq, ep k q hk hq]
      exact hxy _ (pos_eq m W H mh i u.hW u.hH hi (u.txp hi) (u.txp (prev_lt hi)) hs k q hk hq).2.1
    rw [es]
  · have no1 : (m.passS W H xs (m.mw * mh)).getD p 0 = xs.getD p 0 := i1.out p fun i k j _ b c d e h => g ⟨i, k, j, b, c, d, e, h⟩
    have no2 : (m'.passS H W ys (m'.mw * mh')).getD (trP W H p) 0 = ys.getD (trP W H p) 0 := i2.out _ fun i k j _ b c d e h => by
      obtain ⟨i', hi', hs', et, ep⟩ := turn u' u (by rw [hup]; simp) hcol.symm hq b c
      have := ep k j d e
      rw [← h, (tr_tr w0 hp).1] at this
      exact g ⟨i', k, j, hi', hs', d, by rw [et]; exact e, this.symm⟩
    rw [no1, no2]; exact hxy p hp
section
variable (lo W H : Nat) (A B Z Y : Option Addr) (ca cb cz cy : Nat) (xs ys : List Int) (M : Mem)
variable (hW : 4 ≤ W ∧ W ≤ 64) (hH : 4 ≤ H ∧ H ≤ 64) (h1 : xs.length = H * W) (h2 : ys.length = H * W) (hx : RdI M .u8 Z xs) (hy : RdI M .u8 Y ys) (eqv : ∀ p, p < H * W → ys.getD (trP W H p) 0 = xs.getD p 0)
include hW hH h1 h2 hx hy eqv
theorem turned_loop : ∀ (d i : Nat), H * W - i = d → i ≤ H * W → Run P T lo F.zoetropelaw22_DeblockTurned (zoetropelaw22_DeblockTurned.c32756 i W H A (H * W) ca H W B (H * W) cb W H Z (H * W) cz H W Y (H * W) cy M) fun r => r.1 = .bool true := by
  have sm : H * W ≤ 64 * 64 := Nat.mul_le_mul hH.2 hW.2
  intro d
  induction d with
  | zero =>
    intro i hd hi
    refine Run.cut (Evp.of_eq (fun k => zoetropelaw22_DeblockTurned.p32756 k ..) ?_)
    refine Evp.dec (fun h => absurd h (by omega)) fun _ => Evp.ret (Run.ret rfl)
  | succ d ih =>
    intro i hd hi
    have t := (tr_tr (W := W) (H := H) (p := i) (by omega) (by omega)).2
    have hm : i % W < W := Nat.mod_lt _ (by omega)
    have hdv : i / W < H := (Nat.div_lt_iff_lt_mul (by omega)).2 (by omega)
    have ei : IntKind.i64.wrap ((IntKind.i64.wrap ((Int.tmod (i : Int) (W : Int)) * (H : Int))) + (IntKind.i64.wrap (Int.tdiv (i : Int) (W : Int)))) = ((trP W H i : Nat) : Int) := by
      rw [show Int.tdiv (i : Int) (W : Int) = ((i / W : Nat) : Int) from rfl, show Int.tmod (i : Int) (W : Int) = ((i % W : Nat) : Int) from rfl]
      unfold trP
      have m1 : i % W * H ≤ 64 * 64 := Nat.mul_le_mul (by omega) hH.2
      generalize i % W = r at *
      generalize i / W = q at *
      rw [← Int.natCast_mul, w64 (x := ((r * H : Nat) : Int)) (by omega), w64 (x := (q : Int)) (by omega), w64 (by omega)]; omega
    rw [Nat.mul_comm W H] at t
    refine Run.cut (Evp.of_eq (fun k => zoetropelaw22_DeblockTurned.p32756 k ..) ?_)
    refine Evp.dec (fun _ => ?_) fun h => absurd h (by omega)
    refine Evp.neg (by omega) (Evp.neg (by omega) ?_)
    rw [ei, w64 (x := (i : Int) + 1) (by omega)]
    refine Evp.pos (by omega) ?_
    simp only [Int.toNat_natCast]
    refine Evp.ldI hy (by omega) fun _ _ => ?_
    refine Evp.pos (by omega) (Evp.ldI hx (by omega) fun _ _ => ?_)
    exact Evp.neb (fun e => absurd (eqv i (by omega)) e) fun _ => Evp.ret (ih (i + 1) (by omega) (by omega))
end
theorem DeblockTurned_law (M : Mem) (vs : List Value) (hro : AllRo M) (hv : LaysArgs P M [23, 22, 41] vs) : Ac P T M.length F.zoetropelaw22_DeblockTurned vs M fun r => r.1 = .bool true := by
  obtain ⟨w, h, A, c, ss, up, col, lv, sh, rfl, _, _, hc, hn, hx, wx, _, _⟩ := Arg.DeblockTurned hv
  have bs : Bytes ss := fun x hx => wf_u8 (wx x hx)
  have hlv := bringS_lt (i := lv) (n := 64) (by decide)
  have hsp := bringS_lt (i := sh) (n := 8) (by decide)
  refine Ac.of (Evp.of_eq (fun k => zoetropelaw22_DeblockTurned.entry k ..) ?_)
  refine Evp.ob (awakeP_ok M.length M (Nat.le_refl _)) ?_
  rintro _ ⟨M1, rfl, p1⟩
  simp only [ret_int, ret_bool, ret_flt, ret_slc, ret_str, ret_ptr, ret_agg, ret_tup, ob_some, bb_true, bb_false, List.getElem?_cons_zero, List.getElem?_cons_succ, List.length_cons, List.length_nil, Nat.reduceAdd, Nat.reduceLT]
  refine Evp.ff rfl ?_
  refine Evp.ob (fit_ok M.length A c ss M1 p1.len (hx.pre p1) (by omega) w h) ?_
  rintro _ ⟨B, cb, M2, rfl, p2, hcb, g2⟩
  simp only [ret_int, ret_bool, ret_flt, ret_slc, ret_str, ret_ptr, ret_agg, ret_tup, ob_some, bb_true, bb_false, List.getElem?_cons_zero, List.getElem?_cons_succ, List.length_cons, List.length_nil, Nat.reduceAdd, Nat.reduceLT]
  have q2 := p1.trans p2
  have hW := sideN_le w
  have hH := sideN_le h
  have sm : sideN h * sideN w ≤ 64 * 64 := Nat.mul_le_mul hH.2.1 hW.2.1
  have fl := fitL_len ss (sideN h * sideN w)
  have fb := fitL_bytes bs (sideN h * sideN w)
  have hB := rdI_of g2 fl
  clear g2
  generalize sideN w = W at *
  generalize sideN h = H at *
  generalize fitL ss (H * W) = xs at *
  refine Evp.pos ⟨by omega, by show _ * 1 ≤ _; omega⟩ ?_
  simp only [Int.toNat_natCast]
  have hz : zerosL [.int .u8 0] (H * W) = (List.replicate (H * W) (0 : Int)).map (Value.int .u8) := by rw [zerosL_one, List.map_replicate]
  rw [hz]
  obtain ⟨b, hb⟩ : ∃ b : Addr, b = ⟨M2.length, 0, none⟩ := ⟨_, rfl⟩
  rw [← hb]
  have loop : ∀ (d i : Nat) (ys : List Int) (M3 : Mem), H * W - i = d → i ≤ H * W → ys.length = H * W → Bytes ys → (∀ p, p < i → ys.getD (trP W H p) 0 = xs.getD p 0) → Pre M2 M3 → Buf M2 M3 b (ys.map (Value.int .u8)) →
      Run P T M.length F.zoetropelaw22_DeblockTurned (zoetropelaw22_DeblockTurned.c500 i up col lv sh W H B (H * W) cb H W (some b) (H * W) (H * W) M3) fun r => r.1 = .bool true := by
    intro d
    induction d with
    | zero =>
      intro i ys M3 hd hi hl by_ hq hp hbuf
      obtain rfl : i = H * W := by omega
      refine Run.cut (Evp.of_eq (fun k => zoetropelaw22_DeblockTurned.p500 k ..) ?_)
      refine Evp.dec (fun h => absurd h (by omega)) fun _ => ?_
      refine Evp.ob (bring_ok _ _ _ _ (by decide)) ?_
      rintro _ rfl
      simp only [ret_int, ret_bool, ret_flt, ret_slc, ret_str, ret_ptr, ret_agg, ret_tup, ob_some, bb_true, bb_false, List.getElem?_cons_zero, List.getElem?_cons_succ, List.length_cons, List.length_nil, Nat.reduceAdd, Nat.reduceLT]
      obtain ⟨k, ek, lk⟩ := bring_nat lv 5 (by decide)
      have ek : bringS lv 5 = k := ek
      rw [ek]
      refine Evp.neg (by omega) ?_
      refine Evp.ob (bring_ok _ _ _ _ (by decide)) ?_
      rintro _ rfl
      simp only [ret_int, ret_bool, ret_flt, ret_slc, ret_str, ret_ptr, ret_agg, ret_tup, ob_some, bb_true, bb_false, List.getElem?_cons_zero, List.getElem?_cons_succ, List.length_cons, List.length_nil, Nat.reduceAdd, Nat.reduceLT]
      refine Evp.ob (bring_ok _ _ _ _ (by decide)) ?_
      rintro _ rfl
      simp only [ret_int, ret_bool, ret_flt, ret_slc, ret_str, ret_ptr, ret_agg, ret_tup, ob_some, bb_true, bb_false, List.getElem?_cons_zero, List.getElem?_cons_succ, List.length_cons, List.length_nil, Nat.reduceAdd, Nat.reduceLT]
      obtain ⟨sz, hz, hs⟩ : ∃ sz : Nat, shlI .u8 4 ((k : Int)).toNat = (sz : Int) ∧ TxP sz := by
        have : k = 0 ∨ k = 1 ∨ k = 2 ∨ k = 3 ∨ k = 4 := by omega
        rcases this with rfl | rfl | rfl | rfl | rfl
        · exact ⟨4, by decide, by decide⟩
        · exact ⟨8, by decide, by decide⟩
        · exact ⟨16, by decide, by decide⟩
        · exact ⟨32, by decide, by decide⟩
        · exact ⟨64, by decide, by decide⟩
      rw [hz]
      refine Evp.ob (cells_ok M3.length W H sz false B (H * W) cb M3 (Nat.le_refl _) hW hH hs) ?_
      rintro _ ⟨BT, BI, BQ, dt, di, dq, M4, rfl, p4, _, gt, gi, gq, ct, ci, cq⟩
      simp only [ret_int, ret_bool, ret_flt, ret_slc, ret_str, ret_ptr, ret_agg, ret_tup, ob_some, bb_true, bb_false, List.getElem?_cons_zero, List.getElem?_cons_succ, List.length_cons, List.length_nil, Nat.reduceAdd, Nat.reduceLT]
      have u := uni_of (q := false) (up := true) (col := col) (level := bringS lv 64) (sharp := bringS sh 8) hW hH hs (idsL_len (W / 4) (sz / 4) (W / 4 * (H / 4))) (by omega) (by omega)
      have K := u.pass M3.length B BT BI BQ cb dt di dq xs M4 p4.len ((hB.pre hp).pre p4) fb fl (rdI_of gt List.length_replicate) (rdI_of gi (idsL_len _ _ _)) (rdB_of gq List.length_replicate)
      refine Evp.ob K ?_
      rintro _ ⟨a, cc, M5, rfl, p5, r5⟩
      simp only [ret_int, ret_bool, ret_flt, ret_slc, ret_str, ret_ptr, ret_agg, ret_tup, ob_some, bb_true, bb_false, List.getElem?_cons_zero, List.getElem?_cons_succ, List.length_cons, List.length_nil, Nat.reduceAdd, Nat.reduceLT]
      refine Evp.ob (cells_ok M5.length H W sz false (some b) (H * W) (H * W) M5 (Nat.le_refl _) hH hW hs) ?_
      rintro _ ⟨BT', BI', BQ', dt', di', dq', M6, rfl, p6, _, gt', gi', gq', ct', ci', cq'⟩
      simp only [ret_int, ret_bool, ret_flt, ret_slc, ret_str, ret_ptr, ret_agg, ret_tup, ob_some, bb_true, bb_false, List.getElem?_cons_zero, List.getElem?_cons_succ, List.length_cons, List.length_nil, Nat.reduceAdd, Nat.reduceLT]
      have u' := uni_of (q := false) (up := false) (col := col) (level := bringS lv 64) (sharp := bringS sh 8) hH hW hs (idsL_len (H / 4) (sz / 4) (H / 4 * (W / 4))) (by omega) (by omega)
      have hbY := ((hbuf.pre p4).pre p5).pre p6
      have cm : W * H = H * W := Nat.mul_comm W H
      have K' := u'.pass M5.length (some b) BT' BI' BQ' (H * W) dt' di' dq' ys M6 p6.len hbY.rdI by_ (by rw [cm]; exact hl) (rdI_of gt' List.length_replicate) (rdI_of gi' (idsL_len _ _ _)) (rdB_of gq' List.length_replicate)
      rw [cm] at K'
      refine Evp.ob K' ?_
      rintro _ ⟨a', cc', M7, rfl, p7, r7⟩
      simp only [ret_int, ret_bool, ret_flt, ret_slc, ret_str, ret_ptr, ret_agg, ret_tup, ob_some, bb_true, bb_false, List.getElem?_cons_zero, List.getElem?_cons_succ, List.length_cons, List.length_nil, Nat.reduceAdd, Nat.reduceLT]
      refine Evp.neb (fun e => absurd rfl e) fun _ => Evp.neb (fun e => absurd rfl e) fun _ => Evp.neb (fun e => absurd rfl e) fun _ => Evp.neb (fun e => absurd rfl e) fun _ => ?_
      have noq : ∀ (n i : Nat), (List.replicate n false).getD i false = false := fun n i => by
        rw [List.getD_eq_getElem?_getD, List.getElem?_replicate]; split <;> rfl
      exact Evp.ret (turned_loop M.length W H B (some b) (some a) (some a') cb (H * W) cc cc' _ _ M7 ⟨hW.1, hW.2.1⟩ ⟨hH.1, hH.2.1⟩ (by rw [Cells.passS_len, fl]) (by rw [Cells.passS_len, hl]) ((r5.pre p6).pre p7) r7 (fun p hp => turned u u' rfl rfl rfl rfl (noq _) (noq _) fl (by rw [cm]; exact hl) hq hp) _ 0 rfl (Nat.zero_le _))
    | succ d ih =>
      intro i ys M3 hd hi hl by_ hq hp hbuf
      have t := (tr_tr (W := W) (H := H) (p := i) (by omega) (by omega))
      have hm : i % W < W := Nat.mod_lt _ (by omega)
      have hdv : i / W < H := (Nat.div_lt_iff_lt_mul (by omega)).2 (by omega)
      have ei : IntKind.i64.wrap ((IntKind.i64.wrap ((Int.tmod (i : Int) (W : Int)) * (H : Int))) + (IntKind.i64.wrap (Int.tdiv (i : Int) (W : Int)))) = ((trP W H i : Nat) : Int) := by
        rw [show Int.tdiv (i : Int) (W : Int) = ((i / W : Nat) : Int) from rfl, show Int.tmod (i : Int) (W : Int) = ((i % W : Nat) : Int) from rfl]
        unfold trP
        have m1 : i % W * H ≤ 64 * 64 := Nat.mul_le_mul (by omega) hH.2.1
        generalize i % W = r at *
        generalize i / W = q at *
        rw [← Int.natCast_mul, w64 (x := ((r * H : Nat) : Int)) (by omega), w64 (x := (q : Int)) (by omega), w64 (by omega)]; omega
      have t2 := t.2
      rw [Nat.mul_comm W H] at t2
      refine Run.cut (Evp.of_eq (fun k => zoetropelaw22_DeblockTurned.p500 k ..) ?_)
      refine Evp.dec (fun _ => ?_) fun h => absurd h (by omega)
      refine Evp.neg (by omega) (Evp.neg (by omega) (Evp.pos (by omega) ?_))
      simp only [Int.toNat_natCast]
      refine Evp.ldI (hB.pre hp) (by omega) fun _ _ => ?_
      rw [ei, w64 (x := (i : Int) + 1) (by omega)]
      refine Evp.pos (by omega) (Evp.some rfl ?_)
      simp only [Int.toNat_natCast]
      obtain ⟨M4, h1, h2, h3, h4, h5⟩ := hbuf.st (lo := M.length) (i := trP W H i) (vs := [.int .u8 (xs.getD i 0)]) hp q2.len (by simp; omega)
      refine Evp.some h1 ?_
      rw [setL_one, set_map] at h2
      refine Evp.ret (ih (i + 1) _ M4 (by omega) (by omega) (by simpa using hl) (set_bytes by_ _ (fb.get i)) (fun p hpi => ?_) h3 h2)
      rw [getD_set (by omega)]
      split
      · rename_i e
        have : p = i := by rw [← (tr_tr (W := W) (H := H) (p := p) (by omega) (by omega)).1, e, t.1]
        rw [this]
      · rename_i e
        exact hq p (by
          by_cases g : p = i
          · subst g; exact absurd rfl e
          · omega)
  have hb0 : Buf M2 (M2 ++ [⟨.fx, (List.replicate (H * W) (0 : Int)).map (Value.int .u8)⟩] : Mem) b ((List.replicate (H * W) (0 : Int)).map (Value.int .u8)) := by rw [hb]; exact Buf.push (Pre.refl _)
  exact Evp.ret (loop _ 0 _ _ rfl (Nat.zero_le _) List.length_replicate (fun x hx => by obtain rfl := (List.mem_replicate.1 hx).2; decide) (fun p hp => absurd hp (by omega)) (Pre.app _ _) hb0)
end Go.Zt
