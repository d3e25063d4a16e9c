/- PoolSame: its loops. -/
import Derived.Test.YtjmahpemdghncaaFi
set_option linter.unusedVariables false
set_option linter.unusedSimpArgs false
set_option maxRecDepth 100000
namespace Go.Zt
def kindS (x : Int) : Int := x / 256 % 4
theorem kind_b (x : Int) : 0 ≤ kindS x ∧ kindS x ≤ 3 := by unfold kindS; omega
theorem kind_eq (x : Int) : andI .i64 (shrI .i64 x 8) 3 = kindS x := by
  rw [shr_eq 8 (by omega), show (3 : Int) = 2 ^ 2 - 1 from rfl, and_mask 2 (by omega)]
  unfold kindS
  rfl
theorem bit_and (x : Int) (k : Nat) (hk : k < 8) : bitS (x % 256) k = bitS x k := by
  unfold bitS
  have h2 : (256 : Int) = 2 ^ k * (2 * 2 ^ (7 - k)) := by
    rw [← Int.mul_assoc, ← Int.pow_succ, ← Int.pow_add, show k + 1 + (7 - k) = 8 by omega]; rfl
  congr 1
  have hpos : (0 : Int) < 2 ^ k := Int.pow_pos (by decide)
  have e : x % 256 / 2 ^ k % 2 = x / 2 ^ k % 2 := by
    rw [h2]
    have h3 := Int.emod_add_mul_ediv x (2 ^ k * (2 * 2 ^ (7 - k)))
    have h4 : x / 2 ^ k = x % (2 ^ k * (2 * 2 ^ (7 - k))) / 2 ^ k + 2 * 2 ^ (7 - k) * (x / (2 ^ k * (2 * 2 ^ (7 - k)))) := by
      conv => lhs; rw [← h3, Int.mul_assoc, Int.mul_assoc]
      rw [Int.add_mul_ediv_left _ _ (by omega), Int.mul_assoc 2]
    rw [h4, Int.mul_assoc, Int.add_mul_emod_self_left]
  rw [e]
def slotOfK (g : Nat → Int) : Nat → Option SlotV := fun k => if g k > 0 then some (fr16 (g k - 1), defSet) else none
def upK (g : Nat → Int) (x : Int) : Nat → Int := fun j => if bitS (x % 256) j = true then 1 + kindS x else g j
theorem slotOfK_put (g : Nat → Int) (x : Int) : putS (slotOfK g) (x % 256) (fr16 (kindS x), defSet) = slotOfK (upK g x) := by
  funext k
  have := kind_b x
  unfold putS slotOfK upK
  by_cases h : bitS (x % 256) k = true
  · simp only [h, if_true]
    rw [if_pos (by omega), show 1 + kindS x - 1 = kindS x by omega]
  · simp [h]
theorem slotOfK_congr {g g' : Nat → Int} (h : ∀ j, j < 8 → g j = g' j) : ∀ j, j < 8 → slotOfK g j = slotOfK g' j := fun j hj => by unfold slotOfK; rw [h j hj]
section
variable (lo : Nat)

theorem sameA_inner (A1 A4 : Option Addr) (nl c3 n5 c6 : Nat) (x7 : Int) (p8 p9 : Option Addr) (cs13 : List Value) (M0 : Mem) (l : List Int) (hl : nl = l.length) (hx : RdI M0 .i64 A1 l) (i : Nat) (hi : i < l.length) (hn : l.length * 8 ≤ 140737488351232) (g : Nat → Int) {Q : Value × Mem → Prop} (M : Mem) (hp : Pre M0 M)
    (hnext : Run P T lo F.zoetropelaw26_PoolSame (zoetropelaw26_PoolSame.c500 A1 nl c3 A4 n5 c6 x7 p8 p9 (IntKind.i64.wrap ((i : Int) + 1)) (bookL fun j => if j < 8 ∧ bitS (l.getD i 0 % 256) j = true then 1 + kindS (l.getD i 0) else g j) cs13 M) Q) :
    ∀ (d k : Nat), 8 - k = d → k ≤ 8 →
      Run P T lo F.zoetropelaw26_PoolSame (zoetropelaw26_PoolSame.c128156 A1 nl c3 A4 n5 c6 x7 p8 p9 (i : Int) (k : Int) (bookL fun j => if j < k ∧ bitS (l.getD i 0 % 256) j = true then 1 + kindS (l.getD i 0) else g j) cs13 M) Q := by
  subst hl
  have hk3 := kind_b (l.getD i 0)
  intro d
  induction d with
  | zero =>
    intro k hd hk
    obtain rfl : k = 8 := by omega
    refine Run.cut (Evp.of_eq (fun k => zoetropelaw26_PoolSame.p128156 k ..) ?_)
    exact Evp.dec (fun h => absurd h (by omega)) fun _ => Evp.ret hnext
  | succ d ih =>
    intro k hd hk
    refine Run.cut (Evp.of_eq (fun k => zoetropelaw26_PoolSame.p128156 k ..) ?_)
    refine Evp.dec (fun _ => ?_) fun h => absurd h (by omega)
    refine Evp.pos (by omega) ?_
    simp only [Int.toNat_natCast]
    refine Evp.ldI (hx.pre hp) hi fun _ _ => Evp.neg (by omega) ?_
    rw [bit_eq _ k (by omega), ← bit_and _ k (by omega)]
    refine Evp.bb (fun hbit => ?_) fun hbit => ?_
    · refine Evp.pos (by omega) (Evp.ldI (hx.pre hp) hi fun _ _ => Evp.pos (by omega) (Evp.pos (by rw [bookL_len]; omega) ?_))
      rw [kind_eq, w64 (x := 1 + kindS (l.getD i 0)) (by omega), bookL_set]
      have e : (fun j => if j = k then 1 + kindS (l.getD i 0) else if j < k ∧ bitS (l.getD i 0 % 256) j = true then 1 + kindS (l.getD i 0) else g j) = fun j => if j < k + 1 ∧ bitS (l.getD i 0 % 256) j = true then 1 + kindS (l.getD i 0) else g j := by
        funext j
        by_cases hj : j = k
        · subst hj; rw [if_pos rfl, if_pos ⟨by omega, hbit⟩]
        · rw [if_neg hj]
          by_cases h : j < k ∧ bitS (l.getD i 0 % 256) j = true
          · rw [if_pos h, if_pos ⟨by omega, h.2⟩]
          · rw [if_neg h, if_neg fun e => h ⟨by omega, e.2⟩]
      rw [e]
      refine Evp.ret ?_
      refine Run.cut (Evp.of_eq (fun k => zoetropelaw26_PoolSame.p512627 k ..) ?_)
      rw [w64 (x := (k : Int) + 1) (by omega)]
      exact Evp.ret (ih (k + 1) (by omega) (by omega))
    · have e : (fun j => if j < k ∧ bitS (l.getD i 0 % 256) j = true then 1 + kindS (l.getD i 0) else g j) = fun j => if j < k + 1 ∧ bitS (l.getD i 0 % 256) j = true then 1 + kindS (l.getD i 0) else g j := by
        funext j
        by_cases hj : j = k
        · subst hj; rw [if_neg (by omega), if_neg fun e => by rw [hbit] at e; exact absurd e.2 (by decide)]
        · by_cases h : j < k ∧ bitS (l.getD i 0 % 256) j = true
          · rw [if_pos h, if_pos ⟨by omega, h.2⟩]
          · rw [if_neg h, if_neg fun e => h ⟨by omega, e.2⟩]
      rw [e]
      refine Evp.ret ?_
      refine Run.cut (Evp.of_eq (fun k => zoetropelaw26_PoolSame.p512627 k ..) ?_)
      rw [w64 (x := (k : Int) + 1) (by omega)]
      exact Evp.ret (ih (k + 1) (by omega) (by omega))
theorem sameA_step (A1 A4 : Option Addr) (nl c3 n5 c6 : Nat) (x7 : Int) (bp bq : Nat) (M0 : Mem) (l : List Int) (hl : nl = l.length) (hx : RdI M0 .i64 A1 l) (hlo : lo ≤ M0.length) (hbp : M0.length ≤ bp) (hbq : bp < bq) (hn : l.length * 8 ≤ 140737488351232) (i : Nat) (hi : i < l.length) (hi2 : i < 12) (gp gq : Nat → Int) (M : Mem) (hp : Pre M0 M) (hP : PoolIs (fun x => bq < x) M bp (slotOfK gp)) (hQ : PoolIs (fun x => bq < x) M bq (slotOfK gq)) {Q : Value × Mem → Prop}
    (hnext : ∀ (M' : Mem), Pre M0 M' → PoolIs (fun x => bq < x) M' bp (slotOfK (upK gp (l.getD i 0))) → PoolIs (fun x => bq < x) M' bq (slotOfK gq) → Run P T lo F.zoetropelaw26_PoolSame (zoetropelaw26_PoolSame.c500 A1 nl c3 A4 n5 c6 x7 (some ⟨bp, 0, none⟩) (some ⟨bq, 0, none⟩) ((i + 1 : Nat) : Int) (bookL fun j => if j < 8 ∧ bitS (l.getD i 0 % 256) j = true then 1 + kindS (l.getD i 0) else gp j) (bookL gq) M') Q)
    (hrest : True) :
    ∀ out, (∃ M4, Pre M0 M4 ∧ PoolIs (fun x => bq < x) M4 bp (slotOfK (upK gp (l.getD i 0))) ∧ PoolIs (fun x => bq < x) M4 bq (slotOfK gq) ∧ out = zoetropelaw26_PoolSame.c128156 A1 nl c3 A4 n5 c6 x7 (some ⟨bp, 0, none⟩) (some ⟨bq, 0, none⟩) (i : Int) 0 (bookL gp) (bookL gq) M4) → Run P T lo F.zoetropelaw26_PoolSame out Q := by
  rintro out ⟨M4, h1, h2, h3, rfl⟩
  have hk3 := kind_b (l.getD i 0)
  have e0 : (fun j => if j < 0 ∧ bitS (l.getD i 0 % 256) j = true then 1 + kindS (l.getD i 0) else gp j) = gp := by funext j; rw [if_neg (by omega)]
  have := sameA_inner lo A1 A4 nl c3 n5 c6 x7 (some ⟨bp, 0, none⟩) (some ⟨bq, 0, none⟩) (bookL gq) M0 l hl hx i hi hn gp M4 h1 (Q := Q) (by rw [w64 (by omega)]; exact hnext M4 h1 h2 h3) 8 0 rfl (by omega)
  rw [e0] at this
  exact this


theorem sameB_inner (A1 : Option Addr) (nl c3 : Nat) (x7 : Int) (p8 p9 : Option Addr) (cs13 : List Value) (M0 : Mem) (l : List Int) (hl : nl = l.length) (hx : RdI M0 .i64 A1 l) (i : Nat) (hi : i < l.length) (hn : l.length * 8 ≤ 140737488351232) (g : Nat → Int) {Q : Value × Mem → Prop} (M : Mem) (hp : Pre M0 M)
    (hnext : Run P T lo F.zoetropelaw26_PoolSame (zoetropelaw26_PoolSame.c1012 A1 nl c3 x7 p8 p9 (IntKind.i64.wrap ((i : Int) + 1)) cs13 (bookL fun j => if j < 8 ∧ bitS (l.getD i 0 % 256) j = true then 1 + kindS (l.getD i 0) else g j) M) Q) :
    ∀ (d k : Nat), 8 - k = d → k ≤ 8 →
      Run P T lo F.zoetropelaw26_PoolSame (zoetropelaw26_PoolSame.c259228 A1 nl c3 x7 p8 p9 (i : Int) (k : Int) cs13 (bookL fun j => if j < k ∧ bitS (l.getD i 0 % 256) j = true then 1 + kindS (l.getD i 0) else g j) M) Q := by
  subst hl
  have hk3 := kind_b (l.getD i 0)
  intro d
  induction d with
  | zero =>
    intro k hd hk
    obtain rfl : k = 8 := by omega
    refine Run.cut (Evp.of_eq (fun k => zoetropelaw26_PoolSame.p259228 k ..) ?_)
    exact Evp.dec (fun h => absurd h (by omega)) fun _ => Evp.ret hnext
  | succ d ih =>
    intro k hd hk
    refine Run.cut (Evp.of_eq (fun k => zoetropelaw26_PoolSame.p259228 k ..) ?_)
    refine Evp.dec (fun _ => ?_) fun h => absurd h (by omega)
    refine Evp.pos (by omega) ?_
    simp only [Int.toNat_natCast]
    refine Evp.ldI (hx.pre hp) hi fun _ _ => Evp.neg (by omega) ?_
    rw [bit_eq _ k (by omega), ← bit_and _ k (by omega)]
    refine Evp.bb (fun hbit => ?_) fun hbit => ?_
    · refine Evp.pos (by omega) (Evp.ldI (hx.pre hp) hi fun _ _ => Evp.pos (by omega) (Evp.pos (by rw [bookL_len]; omega) ?_))
      rw [kind_eq, w64 (x := 1 + kindS (l.getD i 0)) (by omega), bookL_set]
      have e : (fun j => if j = k then 1 + kindS (l.getD i 0) else if j < k ∧ bitS (l.getD i 0 % 256) j = true then 1 + kindS (l.getD i 0) else g j) = fun j => if j < k + 1 ∧ bitS (l.getD i 0 % 256) j = true then 1 + kindS (l.getD i 0) else g j := by
        funext j
        by_cases hj : j = k
        · subst hj; rw [if_pos rfl, if_pos ⟨by omega, hbit⟩]
        · rw [if_neg hj]
          by_cases h : j < k ∧ bitS (l.getD i 0 % 256) j = true
          · rw [if_pos h, if_pos ⟨by omega, h.2⟩]
          · rw [if_neg h, if_neg fun e => h ⟨by omega, e.2⟩]
      rw [e]
      refine Evp.ret ?_
      refine Run.cut (Evp.of_eq (fun k => zoetropelaw26_PoolSame.p1036915 k ..) ?_)
      rw [w64 (x := (k : Int) + 1) (by omega)]
      exact Evp.ret (ih (k + 1) (by omega) (by omega))
    · have e : (fun j => if j < k ∧ bitS (l.getD i 0 % 256) j = true then 1 + kindS (l.getD i 0) else g j) = fun j => if j < k + 1 ∧ bitS (l.getD i 0 % 256) j = true then 1 + kindS (l.getD i 0) else g j := by
        funext j
        by_cases hj : j = k
        · subst hj; rw [if_neg (by omega), if_neg fun e => by rw [hbit] at e; exact absurd e.2 (by decide)]
        · by_cases h : j < k ∧ bitS (l.getD i 0 % 256) j = true
          · rw [if_pos h, if_pos ⟨by omega, h.2⟩]
          · rw [if_neg h, if_neg fun e => h ⟨by omega, e.2⟩]
      rw [e]
      refine Evp.ret ?_
      refine Run.cut (Evp.of_eq (fun k => zoetropelaw26_PoolSame.p1036915 k ..) ?_)
      rw [w64 (x := (k : Int) + 1) (by omega)]
      exact Evp.ret (ih (k + 1) (by omega) (by omega))
theorem sameB_step (A1 : Option Addr) (nl c3 : Nat) (x7 : Int) (bp bq : Nat) (M0 : Mem) (l : List Int) (hl : nl = l.length) (hx : RdI M0 .i64 A1 l) (hlo : lo ≤ M0.length) (hbp : M0.length ≤ bp) (hbq : bp < bq) (hn : l.length * 8 ≤ 140737488351232) (i : Nat) (hi : i < l.length) (hi2 : i < 12) (gp gq : Nat → Int) (M : Mem) (hp : Pre M0 M) (hP : PoolIs (fun x => bq < x) M bp (slotOfK gp)) (hQ : PoolIs (fun x => bq < x) M bq (slotOfK gq)) {Q : Value × Mem → Prop}
    (hnext : ∀ (M' : Mem), Pre M0 M' → PoolIs (fun x => bq < x) M' bp (slotOfK gp) → PoolIs (fun x => bq < x) M' bq (slotOfK (upK gq (l.getD i 0))) → Run P T lo F.zoetropelaw26_PoolSame (zoetropelaw26_PoolSame.c1012 A1 nl c3 x7 (some ⟨bp, 0, none⟩) (some ⟨bq, 0, none⟩) ((i + 1 : Nat) : Int) (bookL gp) (bookL fun j => if j < 8 ∧ bitS (l.getD i 0 % 256) j = true then 1 + kindS (l.getD i 0) else gq j) M') Q)
    (hrest : True) :
    ∀ out, (∃ M4, Pre M0 M4 ∧ PoolIs (fun x => bq < x) M4 bp (slotOfK gp) ∧ PoolIs (fun x => bq < x) M4 bq (slotOfK (upK gq (l.getD i 0))) ∧ out = zoetropelaw26_PoolSame.c259228 A1 nl c3 x7 (some ⟨bp, 0, none⟩) (some ⟨bq, 0, none⟩) (i : Int) 0 (bookL gp) (bookL gq) M4) → Run P T lo F.zoetropelaw26_PoolSame out Q := by
  rintro out ⟨M4, h1, h2, h3, rfl⟩
  have hk3 := kind_b (l.getD i 0)
  have e0 : (fun j => if j < 0 ∧ bitS (l.getD i 0 % 256) j = true then 1 + kindS (l.getD i 0) else gq j) = gq := by funext j; rw [if_neg (by omega)]
  have := sameB_inner lo A1 nl c3 x7 (some ⟨bp, 0, none⟩) (some ⟨bq, 0, none⟩) (bookL gp) M0 l hl hx i hi hn gq M4 h1 (Q := Q) (by rw [w64 (by omega)]; exact hnext M4 h1 h2 h3) 8 0 rfl (by omega)
  rw [e0] at this
  exact this

end
end Go.Zt
