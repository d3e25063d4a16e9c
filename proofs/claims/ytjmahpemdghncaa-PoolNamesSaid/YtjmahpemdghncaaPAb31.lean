/- What the law PoolNames needs of the text Ab31. -/
import Derived.Test.YtjmahpemdghncaaPAb30
set_option linter.unusedVariables false
set_option linter.unusedSimpArgs false
namespace Go.Zt
def KeepB (b : Nat) (M M' : Mem) : Prop := ∀ (i : Nat) (k : Blk), M[i]? = some k → i ≠ b → M'[i]? = some k
section
variable {M M' M1 : Mem} {b : Nat} {cs : List Value}
theorem KeepB.refl (b : Nat) (M : Mem) : KeepB b M M := fun _ _ h _ => h
theorem KeepB.trans (h : KeepB b M M1) (k : KeepB b M1 M') : KeepB b M M' := fun i x hx hi => k i x (h i x hx hi) hi
theorem Pre.keepB (h : Pre M M') (b : Nat) : KeepB b M M' := fun i x hx _ => h i x hx
theorem KeepB.set (b : Nat) (M : Mem) (k : Blk) : KeepB b M (M.set b k) := fun i x hx hi => by rw [List.getElem?_set_ne (Ne.symm hi)]; exact hx
theorem KeepB.pre {b : Nat} (h : KeepB b M1 M') (hp : Pre M M1) (hb : M.length ≤ b) : Pre M M' := fun i x hx => h i x (hp i x hx) (by have := (List.getElem?_eq_some_iff.1 hx).1; omega)
theorem lt_of_get {k : Blk} (h : M[b]? = some k) : b < M.length := (List.getElem?_eq_some_iff.1 h).1
theorem fx_ld (h : M[b]? = some ⟨.fx, cs⟩) (i : Nat) : M.ld ⟨b, i, none⟩ = cs[i]? := by
  unfold Mem.ld
  simp only [h]
  rw [if_pos trivial]
theorem fx_ldp (h : M[b]? = some ⟨.fx, cs⟩) (i : Nat) : M.ld (plus ⟨b, 0, none⟩ i) = cs[i]? := by
  rw [plus_eq]; simp only [Nat.zero_add]; exact fx_ld h i
theorem fx_st {lo i : Nat} {v : Value} (h : M[b]? = some ⟨.fx, cs⟩) (hlo : lo ≤ b) (hi : i < cs.length) : M.st lo (plus ⟨b, 0, none⟩ i) [v] = some (M.set b ⟨.fx, cs.set i v⟩) := by
  unfold Mem.st
  rw [plus_eq]
  simp only [h, Nat.zero_add]
  rw [if_pos ⟨trivial, hlo, by simp; omega⟩]
  rfl
theorem fx_sts {lo i : Nat} {vs : List Value} (h : M[b]? = some ⟨.fx, cs⟩) (hlo : lo ≤ b) (hi : i + vs.length ≤ cs.length) : M.st lo (plus ⟨b, 0, none⟩ i) vs = some (M.set b ⟨.fx, setL cs i vs⟩) := by
  unfold Mem.st
  rw [plus_eq]
  simp only [h, Nat.zero_add]
  rw [if_pos ⟨trivial, hlo, hi⟩]
theorem setL_all {α : Type} : ∀ (pre us vs post : List α), us.length = vs.length → setL (pre ++ us ++ post) pre.length vs = pre ++ vs ++ post
  | pre, [], [], post, _ => rfl
  | pre, u :: us, v :: vs, post, h => by
    simp only [setL]
    have e : (pre ++ u :: us ++ post).set pre.length v = (pre ++ [v]) ++ us ++ post := by simp
    have := setL_all (pre ++ [v]) us vs post (by simpa using h)
    rw [List.length_append, List.length_cons, List.length_nil] at this
    rw [e, this]; simp
  | _, [], _ :: _, _, h => by simp at h
  | _, _ :: _, [], _, h => by simp at h
theorem setL_whole {α : Type} (us vs : List α) (h : us.length = vs.length) : setL us 0 vs = vs := by
  have := setL_all [] us vs [] h
  simpa using this
theorem push_st {lo : Nat} {us vs : List Value} (hlo : lo ≤ M.length) (h : us.length = vs.length) : (M ++ [⟨.fx, us⟩] : Mem).st lo ⟨M.length, 0, none⟩ vs = some (M ++ [⟨.fx, vs⟩]) := by
  have h1 : (M ++ [⟨.fx, us⟩] : Mem)[M.length]? = some ⟨.fx, us⟩ := by simp
  have := fx_sts (lo := lo) (i := 0) (vs := vs) h1 hlo (by omega)
  rw [plus_zero] at this
  rw [this, setL_whole us vs h]
  simp
theorem push_self (M : Mem) (k : Blk) : (M ++ [k] : Mem)[M.length]? = some k := by simp
theorem set_self {k : Blk} (h : b < M.length) : (M.set b k)[b]? = some k := List.getElem?_set_self h
end
theorem shr_eq {x : Int} (n : Nat) (hn : n ≤ 64) : shrI .i64 x n = x / 2 ^ n := by
  unfold shrI
  rw [show IntKind.i64.bits = 64 from rfl, Nat.min_eq_left hn]
  exact Int.fdiv_eq_ediv_of_nonneg _ (Int.pow_nonneg (by decide))
theorem and_mask {x : Int} (n : Nat) (hn : n < 63) : andI .i64 x (2 ^ n - 1) = x % 2 ^ n := by
  unfold andI
  rw [show IntKind.i64.bits = 64 from rfl, BitVec.toNat_and, BitVec.toNat_ofInt, BitVec.toNat_ofInt]
  have hp : (2 : Int) ^ n = ((2 ^ n : Nat) : Int) := by simp
  have hlt : (2 : Nat) ^ n ≤ 2 ^ 62 := Nat.pow_le_pow_right (by decide) (by omega)
  have hpos : 0 < (2 : Nat) ^ n := Nat.two_pow_pos n
  have e1 : (((2 : Int) ^ n - 1) % ((2 ^ 64 : Nat) : Int)).toNat = 2 ^ n - 1 := by
    rw [hp, Int.emod_eq_of_lt (by omega) (by omega)]; omega
  rw [e1, Nat.and_two_pow_sub_one_eq_mod]
  have e2 : (((x % ((2 ^ 64 : Nat) : Int)).toNat % 2 ^ n : Nat) : Int) = x % 2 ^ n := by
    rw [Int.natCast_emod, Int.toNat_of_nonneg (Int.emod_nonneg _ (by decide)), hp]
    exact Int.emod_emod_of_dvd _ (by
      have : (2 : Nat) ^ n ∣ 2 ^ 64 := Nat.pow_dvd_pow 2 (by omega)
      exact Int.natCast_dvd_natCast.2 this)
  rw [e2]
  have h1 := Int.emod_nonneg x (b := (2 : Int) ^ n) (by omega)
  have h2 := Int.emod_lt_of_pos x (b := (2 : Int) ^ n) (by omega)
  exact w64 (by omega)
theorem shl_one (n : Nat) (hn : n ≤ 62) : shlI .i64 1 n = 2 ^ n := by
  unfold shlI
  rw [show IntKind.i64.bits = 64 from rfl, Nat.min_eq_left (by omega), Int.one_mul]
  have hp : (2 : Int) ^ n = ((2 ^ n : Nat) : Int) := by simp
  have hlt : (2 : Nat) ^ n ≤ 2 ^ 62 := Nat.pow_le_pow_right (by decide) hn
  have hpos : 0 < (2 : Nat) ^ n := Nat.two_pow_pos n
  exact w64 (by omega)
end Go.Zt
