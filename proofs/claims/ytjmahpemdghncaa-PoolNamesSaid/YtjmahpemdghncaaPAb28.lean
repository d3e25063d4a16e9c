/- What the law PoolNames needs of the text Ab28. -/
import Derived.Test.YtjmahpemdghncaaPAb26
import Derived.Laws.BitsLemmas
set_option linter.unusedVariables false
set_option linter.unusedSimpArgs false
namespace Go.Zt
section
variable {R : Type}
theorem ret_int {k : IntKind} {x : Int} {f : Int → Option R} : ob ((some (Value.int k x)).bind (Value.int? k)) f = f x := by simp [Value.int?]
theorem ret_bool {b : Bool} {f : Bool → Option R} : ob ((some (Value.bool b)).bind Value.bool?) f = f b := rfl
theorem ret_flt {k : FloatKind} {x : Nat} {f : Nat → Option R} : ob ((some (Value.float k x)).bind (Value.flt? k)) f = f x := by simp [Value.flt?]
theorem ret_slc {a : Option Addr} {n c : Nat} {f : Slc → Option R} : ob ((some (Value.slice a n c)).bind Value.slc?) f = f ⟨a, n, c⟩ := rfl
theorem ret_ptr {a : Option Addr} {f : Option Addr → Option R} : ob ((some (Value.pointer a)).bind Value.ptr?) f = f a := rfl
theorem ret_str {s : ByteArray} {f : ByteArray → Option R} : ob ((some (Value.string s)).bind Value.str?) f = f s := rfl
theorem ret_agg {n : Nat} {cs : List Value} {f : List Value → Option R} (h : cs.length = n) : ob ((some (Value.agg ⟨cs⟩)).bind (Value.agg? n)) f = f cs := by simp [Value.agg?, h]
theorem ret_tup {n : Nat} {cs : List Value} {f : List Value → Option R} (h : cs.length = n) : ob (Value.tup? n (Value.tuple ⟨cs⟩)) f = f cs := by simp [Value.tup?, h]
theorem ob_some {α : Type} {a : α} {f : α → Option R} : ob (some a) f = f a := rfl
theorem bb_true {A B : Option R} : bb true A B = A := rfl
theorem bb_false {A B : Option R} : bb false A B = B := rfl
end
section
variable {α : Type} {Q : α → Prop} {g h : Nat → Option α}
theorem Evp.dec {c : Prop} [d : Decidable c] (h1 : c → Evp g Q) (h2 : ¬ c → Evp h Q) : Evp (fun k => Zt.bb (decide c) (g k) (h k)) Q :=
  Evp.bb (fun e => h1 (of_decide_eq_true e)) (fun e => h2 (of_decide_eq_false e))
theorem Evp.eqb {a b : Int} (h1 : a = b → Evp g Q) (h2 : a ≠ b → Evp h Q) : Evp (fun k => Zt.bb (a == b) (g k) (h k)) Q :=
  Evp.bb (fun e => h1 (by simpa using e)) (fun e => h2 (by simpa using e))
theorem Evp.neb {a b : Int} (h1 : a ≠ b → Evp g Q) (h2 : a = b → Evp h Q) : Evp (fun k => Zt.bb (a != b) (g k) (h k)) Q :=
  Evp.bb (fun e => h1 (by simpa using e)) (fun e => h2 (by simpa using e))
theorem Evp.nb {b : Bool} (h1 : b = false → Evp g Q) (h2 : b = true → Evp h Q) : Evp (fun k => Zt.bb (!b) (g k) (h k)) Q :=
  Evp.bb (fun e => h1 (by simpa using e)) (fun e => h2 (by simpa using e))
end
theorem w64 {x : Int} (h : -9223372036854775808 ≤ x ∧ x ≤ 9223372036854775807) : IntKind.i64.wrap x = x := by
  rw [IntKind.wrap_i64]; omega
theorem wu64 {x : Int} (h : 0 ≤ x ∧ x ≤ 18446744073709551615) : IntKind.u64.wrap x = x := by
  simp [IntKind.wrap, IntKind.bits, IntKind.signed]; omega
def Pre (M M' : Mem) : Prop := ∀ (b : Nat) (k : Blk), M[b]? = some k → M'[b]? = some k
theorem Pre.refl (M : Mem) : Pre M M := fun _ _ h => h
theorem Pre.trans {M M1 M2 : Mem} (h : Pre M M1) (k : Pre M1 M2) : Pre M M2 := fun b x hx => k b x (h b x hx)
theorem Pre.app (M N : Mem) : Pre M (M ++ N) := fun b k h => by rw [List.getElem?_append_left (List.getElem?_eq_some_iff.1 h).1]; exact h
theorem Pre.len {M M' : Mem} (h : Pre M M') : M.length ≤ M'.length := by
  cases hM : M.length with
  | zero => omega
  | succ n =>
    have := h n M[n] (List.getElem?_eq_getElem (by omega))
    have := (List.getElem?_eq_some_iff.1 this).1
    omega
theorem Pre.set {M M' : Mem} (h : Pre M M') {b : Nat} (hb : M.length ≤ b) (k : Blk) : Pre M (M'.set b k) := fun c x hx => by
  have := (List.getElem?_eq_some_iff.1 hx).1
  rw [List.getElem?_set_ne (by omega)]; exact h c x hx
theorem Pre.push {M M' : Mem} (h : Pre M M') (N : Mem) : Pre M (M' ++ N) := h.trans (Pre.app _ _)
theorem plus_zero (a : Addr) : plus a 0 = a := rfl
theorem lds_get {M : Mem} {a : Addr} {n i : Nat} {vs : List Value} (h : M.lds a n = some vs) (hi : i < n) : M.ld (plus a i) = vs[i]? := by
  unfold Mem.lds at h
  unfold Mem.ld
  rw [plus_eq]
  split at h
  · rename_i z cs hb
    split at h
    · rename_i hc
      injection h with h; subst h
      simp only [hb, if_pos hc.1]
      rw [List.getElem?_take, if_pos hi, List.getElem?_drop]
    · cases h
  · rename_i bk cs hno hb
    split at h
    · rename_i hc
      injection h with h; subst h
      simp only [hb]
      cases bk with
      | op z => exact absurd rfl (hno z)
      | ro => simp only [if_pos hc.1]; rw [List.getElem?_take, if_pos hi, List.getElem?_drop]
      | fx => simp only [if_pos hc.1]; rw [List.getElem?_take, if_pos hi, List.getElem?_drop]
    · cases h
  · cases h
theorem lds_len {M : Mem} {a : Addr} {n : Nat} {vs : List Value} (h : M.lds a n = some vs) : vs.length = n ∧ a.block < M.length := by
  unfold Mem.lds at h
  split at h
  · rename_i z cs hb
    split at h
    · rename_i hc
      injection h with h; subst h
      exact ⟨by rw [List.length_take, List.length_drop]; omega, (List.getElem?_eq_some_iff.1 hb).1⟩
    · cases h
  · rename_i bk cs hno hb
    split at h
    · rename_i hc
      injection h with h; subst h
      exact ⟨by rw [List.length_take, List.length_drop]; omega, (List.getElem?_eq_some_iff.1 hb).1⟩
    · cases h
  · cases h
theorem lds_pre {M M' : Mem} {a : Addr} {n : Nat} {vs : List Value} (hp : Pre M M') (h : M.lds a n = some vs) : M'.lds a n = some vs := by
  have hb := (lds_len h).2
  have e : M'[a.block]? = M[a.block]? := by rw [List.getElem?_eq_getElem hb]; exact hp _ _ (List.getElem?_eq_getElem hb)
  unfold Mem.lds at h ⊢
  rw [e]; exact h
def Rd (M : Mem) (A : Option Addr) (n z : Nat) (vs : List Value) : Prop := vs.length = n * z ∧ M.src A n (n * z) = some vs
theorem Rd.pre {M M' : Mem} {A : Option Addr} {n z : Nat} {vs : List Value} (h : Rd M A n z vs) (hp : Pre M M') : Rd M' A n z vs := by
  refine ⟨h.1, ?_⟩
  have := h.2
  unfold Mem.src at this ⊢
  split
  · rename_i a
    simp only at this
    split
    · rename_i h0; rw [if_pos h0] at this; exact this
    · rename_i h0; rw [if_neg h0] at this; exact lds_pre hp this
  · exact this
theorem Rd.get {M : Mem} {A : Option Addr} {n z i : Nat} {vs : List Value} (h : Rd M A n z vs) (hi : i < n * z) : ∃ a, A = some a ∧ a.block < M.length ∧ M.ld (plus a i) = vs[i]? := by
  have hn : n ≠ 0 := fun e => by rw [e, Nat.zero_mul] at hi; omega
  have := h.2
  unfold Mem.src at this
  split at this
  · rename_i a
    rw [if_neg hn] at this
    exact ⟨a, rfl, (lds_len this).2, lds_get this hi⟩
  · rw [if_neg hn] at this; cases this
theorem Rd.src {M : Mem} {A : Option Addr} {n z : Nat} {vs : List Value} (h : Rd M A n z vs) : M.src A n (n * z) = some vs := h.2
def RdI (M : Mem) (k : IntKind) (A : Option Addr) (xs : List Int) : Prop := Rd M A xs.length 1 (xs.map (Value.int k))
section
variable {M M' : Mem} {A : Option Addr}
theorem RdI.pre {k : IntKind} {xs : List Int} (h : RdI M k A xs) (hp : Pre M M') : RdI M' k A xs := Rd.pre h hp
theorem RdI.src {k : IntKind} {xs : List Int} (h : RdI M k A xs) : M.src A xs.length xs.length = some (xs.map (Value.int k)) := by have := Rd.src h; rwa [Nat.mul_one] at this
theorem RdI.ld {k : IntKind} {xs : List Int} (h : RdI M k A xs) {i : Nat} (hi : i < xs.length) : ∃ a, A = some a ∧ a.block < M.length ∧ M.ld (plus a i) = some (.int k (xs.getD i 0)) := by
  obtain ⟨a, h1, h2, h3⟩ := Rd.get h (i := i) (by omega)
  exact ⟨a, h1, h2, by rw [h3]; simp [List.getD_eq_getElem?_getD, List.getElem?_eq_getElem hi]⟩
variable {α : Type} {Q : α → Prop}
theorem Evp.ldI {k : IntKind} {xs : List Int} {i : Nat} {f : Nat → Addr → Int → Option α} (h : RdI M k A xs) (hi : i < xs.length) (hf : ∀ a, A = .some a → Evp (fun kk => f kk a (xs.getD i 0)) Q) :
    Evp (fun kk => Zt.ob A fun a => Zt.ob ((M.ld (plus a i)).bind (Value.int? k)) (f kk a)) Q := by
  obtain ⟨a, rfl, _, h2⟩ := h.ld hi
  refine Evp.of_eq (fun kk => ?_) (hf a rfl)
  rw [ob_some, h2, ret_int]
end
structure Grow (M0 M : Mem) (z : Nat) (A : Option Addr) (n : Nat) (cs : List Value) : Prop where
  len : cs.length = n * z
  at_ : (A = none ∧ n = 0) ∨ ∃ b, A = some ⟨b, 0, some cs.length⟩ ∧ M0.length ≤ b ∧ M[b]? = some ⟨.op z, cs⟩
def Keep (A : Option Addr) (M M' : Mem) : Prop := ∀ (b : Nat) (k : Blk), M[b]? = some k → (∀ a, A = some a → a.block ≠ b) → M'[b]? = some k
section
variable {M0 M : Mem} {z n : Nat} {A : Option Addr} {cs : List Value}
theorem Grow.nil : Grow M0 M z none 0 [] := ⟨by simp, .inl ⟨rfl, rfl⟩⟩
theorem Grow.rd (h : Grow M0 M z A n cs) : Rd M A n z cs := by
  refine ⟨h.len, ?_⟩
  rcases h.at_ with ⟨rfl, rfl⟩ | ⟨b, rfl, _, hb⟩
  · have := h.len
    rw [Nat.zero_mul] at this
    obtain rfl := List.eq_nil_of_length_eq_zero this
    rfl
  · unfold Mem.src
    simp only
    split
    · rename_i h0
      have := h.len
      rw [h0, Nat.zero_mul] at this
      rw [List.eq_nil_of_length_eq_zero this]
    · unfold Mem.lds
      simp only [hb]
      rw [if_pos ⟨trivial, by rw [← h.len]; omega⟩, List.drop_zero, ← h.len, List.take_length]
theorem Grow.app {lo bytes c m : Nat} {vs : List Value} (h : Grow M0 M z A n cs) (hp : Pre M0 M) (hlo : lo ≤ M0.length) (hm : vs.length = m * z) (hz : 0 < z) (hroom : (n + m) * bytes ≤ 140737488355328) :
    ∃ s M', M.app lo z bytes ⟨A, n, c⟩ vs m = some (s, M') ∧ Grow M0 M' z s.a s.n (cs ++ vs) ∧ s.n = n + m ∧ Pre M0 M' ∧ Keep A M M' ∧ (n ≤ c → s.n ≤ s.c) := by
  unfold Mem.app
  by_cases h0 : m = 0
  · subst h0
    rw [Nat.zero_mul] at hm
    obtain rfl := List.eq_nil_of_length_eq_zero hm
    exact ⟨⟨A, n, c⟩, M, by simp, by rw [List.append_nil]; exact h, rfl, hp, fun b k hb _ => hb, fun h => h⟩
  · have hr : room (n + m) bytes := hroom
    have hmz : vs.length ≠ 0 := by rw [hm]; exact Nat.mul_ne_zero h0 (by omega)
    rw [if_neg h0]
    simp only
    rw [if_pos hr]
    rcases h.at_ with ⟨rfl, rfl⟩ | ⟨b, rfl, hb1, hb2⟩
    · have := h.len
      rw [Nat.zero_mul] at this
      obtain rfl := List.eq_nil_of_length_eq_zero this
      refine ⟨⟨some ⟨M.length, 0, some vs.length⟩, m, m⟩, M ++ [⟨.op z, vs⟩], by simp, ⟨by simp [hm], .inr ⟨M.length, by simp, hp.len, by simp⟩⟩, by simp, hp.push _, fun b k hb _ => Pre.app _ _ b k hb, fun _ => Nat.le_refl _⟩
    · refine ⟨⟨some ⟨b, 0, some (cs ++ vs).length⟩, n + m, n + m⟩, M.set b ⟨.op z, cs ++ vs⟩, ?_, ⟨by rw [List.length_append, h.len, hm, Nat.add_mul], .inr ⟨b, rfl, hb1, ?_⟩⟩, rfl, hp.set hb1 _, fun b' k hb' hne => ?_, fun _ => Nat.le_refl _⟩
      · simp only [hb2]
        have hmul : mulN n z = cs.length := by
          rw [h.len]; unfold mulN; split <;> simp
        rw [if_pos ⟨trivial, trivial, trivial, hmul, by omega⟩]
      · rw [List.getElem?_set_self (List.getElem?_eq_some_iff.1 hb2).1]
      · rw [List.getElem?_set_ne (hne _ rfl)]; exact hb'
theorem Grow.keep {M' : Mem} {A' : Option Addr} (h : Grow M0 M z A n cs) (hk : Keep A' M M') (hne : ∀ a a', A = some a → A' = some a' → a'.block ≠ a.block) : Grow M0 M' z A n cs := by
  refine ⟨h.len, ?_⟩
  rcases h.at_ with h1 | ⟨b, rfl, hb1, hb2⟩
  · exact .inl h1
  · exact .inr ⟨b, rfl, hb1, hk b _ hb2 (fun a' ha' => hne _ a' rfl ha')⟩
theorem Grow.pre {M' : Mem} (h : Grow M0 M z A n cs) (hp : Pre M M') : Grow M0 M' z A n cs := by
  refine ⟨h.len, ?_⟩
  rcases h.at_ with h1 | ⟨b, rfl, hb1, hb2⟩
  · exact .inl h1
  · exact .inr ⟨b, rfl, hb1, hp b _ hb2⟩
end
def Buf (M0 M : Mem) (a : Addr) (cs : List Value) : Prop := ∃ k, a.off = 0 ∧ M0.length ≤ a.block ∧ M[a.block]? = some ⟨k, cs⟩ ∧ ((k = .fx ∧ a.spot = none) ∨ ∃ z, k = .op z ∧ a.spot = some cs.length)
section
variable {M0 M : Mem} {a : Addr} {cs : List Value}
theorem Grow.buf {z n : Nat} {A : Option Addr} (h : Grow M0 M z A n cs) (hn : n ≠ 0) : ∃ a, A = some a ∧ Buf M0 M a cs := by
  rcases h.at_ with ⟨_, h1⟩ | ⟨b, rfl, hb1, hb2⟩
  · exact absurd h1 hn
  · exact ⟨_, rfl, _, rfl, hb1, hb2, .inr ⟨z, rfl, rfl⟩⟩
theorem Buf.push (hp : Pre M0 M) : Buf M0 (M ++ [⟨.fx, cs⟩]) ⟨M.length, 0, none⟩ cs := ⟨.fx, rfl, hp.len, by simp, .inl ⟨rfl, rfl⟩⟩
theorem setL_len {α : Type} (cs : List α) (i : Nat) (vs : List α) : (setL cs i vs).length = cs.length := setL_length cs i vs
theorem Buf.st {lo i : Nat} {vs : List Value} (h : Buf M0 M a cs) (hp : Pre M0 M) (hlo : lo ≤ M0.length) (hi : i + vs.length ≤ cs.length) :
    ∃ M', M.st lo (plus a i) vs = some M' ∧ Buf M0 M' a (setL cs i vs) ∧ Pre M0 M' ∧ Keep (some a) M M' ∧ M'.length = M.length := by
  obtain ⟨k, h1, h2, h3, h4⟩ := h
  have hl := (List.getElem?_eq_some_iff.1 h3).1
  refine ⟨M.set a.block ⟨k, setL cs i vs⟩, ?_, ⟨k, h1, h2, List.getElem?_set_self hl, ?_⟩, hp.set h2 _, fun b x hb hne => ?_, by simp⟩
  · unfold Mem.st
    rw [plus_eq]
    simp only [h3, h1, Nat.zero_add]
    rcases h4 with ⟨rfl, hs⟩ | ⟨z, rfl, hs⟩
    · simp only
      rw [if_pos ⟨hs, by omega, hi⟩]
    · simp only
      rw [if_pos ⟨hs, by omega, hi⟩]
  · rcases h4 with h4 | ⟨z, h4, hs⟩
    · exact .inl h4
    · exact .inr ⟨z, h4, by rw [setL_len]; exact hs⟩
  · rw [List.getElem?_set_ne (hne _ rfl)]; exact hb
theorem Buf.rd {n z : Nat} (h : Buf M0 M a cs) (hl : cs.length = n * z) : Rd M (some a) n z cs := by
  refine ⟨hl, ?_⟩
  obtain ⟨k, h1, h2, h3, h4⟩ := h
  unfold Mem.src
  simp only
  split
  · rename_i h0
    rw [h0, Nat.zero_mul] at hl
    rw [List.eq_nil_of_length_eq_zero hl]
  · unfold Mem.lds
    rw [h1, Nat.zero_add, ← hl]
    rcases h4 with ⟨rfl, hs⟩ | ⟨z', rfl, hs⟩
    · simp only [h3]; rw [if_pos ⟨hs, Nat.le_refl _⟩, List.drop_zero, List.take_length]
    · simp only [h3]; rw [if_pos ⟨hs, Nat.le_refl _⟩, List.drop_zero, List.take_length]
theorem Buf.pre {M' : Mem} (h : Buf M0 M a cs) (hp : Pre M M') : Buf M0 M' a cs := by
  obtain ⟨k, h1, h2, h3, h4⟩ := h
  exact ⟨k, h1, h2, hp _ _ h3, h4⟩
theorem Buf.keep {M' : Mem} {A : Option Addr} (h : Buf M0 M a cs) (hk : Keep A M M') (hne : ∀ a', A = some a' → a'.block ≠ a.block) : Buf M0 M' a cs := by
  obtain ⟨k, h1, h2, h3, h4⟩ := h
  exact ⟨k, h1, h2, hk _ _ h3 hne, h4⟩
theorem Buf.floor {M1 : Mem} (h : Buf M1 M a cs) (hl : M0.length ≤ M1.length) : Buf M0 M a cs := by
  obtain ⟨k, h1, h2, h3, h4⟩ := h
  exact ⟨k, h1, by omega, h3, h4⟩
theorem Buf.new (h : Buf M0 M a cs) : M0.length ≤ a.block := by obtain ⟨k, h1, h2, h3, h4⟩ := h; exact h2
theorem Rd.keep {M' : Mem} {A A' : Option Addr} {n z : Nat} {vs : List Value} (h : Rd M A n z vs) (hk : Keep A' M M') (hne : ∀ a a', A = some a → A' = some a' → a'.block ≠ a.block) : Rd M' A n z vs := by
  refine ⟨h.1, ?_⟩
  have := h.2
  unfold Mem.src at this ⊢
  split
  · rename_i a
    simp only at this
    split
    · rename_i h0; rw [if_pos h0] at this; exact this
    · rename_i h0
      rw [if_neg h0] at this
      have hb := (lds_len this).2
      have e : M'[a.block]? = M[a.block]? := by rw [List.getElem?_eq_getElem hb]; exact hk _ _ (List.getElem?_eq_getElem hb) (fun a' ha' => hne a a' rfl ha')
      unfold Mem.lds at this ⊢
      rw [e]; exact this
  · exact this
end
theorem lds_part {M : Mem} {a : Addr} {n l m : Nat} {vs : List Value} (h : M.lds a n = some vs) (hl : l + m ≤ n) : M.lds (plus a l) m = some ((vs.drop l).take m) := by
  have key : ∀ cs : List Value, (((cs.drop a.off).take n).drop l).take m = (cs.drop (a.off + l)).take m := fun cs => by
    rw [List.drop_take, List.drop_drop, List.take_take, Nat.min_eq_left (by omega)]
  unfold Mem.lds at h ⊢
  rw [plus_eq]
  split at h
  · rename_i z cs hb
    split at h
    · rename_i hc
      injection h with h; subst h
      simp only [hb]
      rw [if_pos ⟨hc.1, by omega⟩, key]
    · cases h
  · rename_i bk cs hno hb
    split at h
    · rename_i hc
      injection h with h; subst h
      simp only [hb]
      cases bk with
      | op z => exact absurd rfl (hno z)
      | ro => rw [if_pos ⟨hc.1, by omega⟩, key]
      | fx => rw [if_pos ⟨hc.1, by omega⟩, key]
    · cases h
  · cases h
theorem Rd.part {M : Mem} {A : Option Addr} {n z l h : Nat} {vs : List Value} (hr : Rd M A n z vs) (h1 : l ≤ h) (h2 : h ≤ n) :
    Rd M (A.map fun a => plus a (mulN l z)) (h - l) z ((vs.drop (l * z)).take ((h - l) * z)) := by
  have e1 : l * z + (h - l) * z ≤ n * z := by rw [← Nat.add_mul]; exact Nat.mul_le_mul_right z (by omega)
  refine ⟨by rw [List.length_take, List.length_drop, hr.1]; omega, ?_⟩
  unfold Mem.src
  cases A with
  | none =>
    have := hr.2
    unfold Mem.src at this
    simp only at this
    split at this
    · rename_i h0
      subst h0
      simp only [Option.map_none]
      rw [if_pos (by omega), show h - l = 0 by omega, Nat.zero_mul, List.take_zero]
    · cases this
  | some a =>
    simp only [Option.map_some]
    split
    · rename_i h0
      rw [h0, Nat.zero_mul, List.take_zero]
    · rename_i h0
      have := hr.2
      unfold Mem.src at this
      simp only at this
      rw [if_neg (by omega)] at this
      rw [mulN_eq]
      exact lds_part this e1
theorem Rd.zero {M : Mem} {A : Option Addr} {z : Nat} : Rd M A 0 z [] := ⟨by simp, by unfold Mem.src; split <;> simp⟩
theorem Rd.slAddr {M : Mem} {A : Option Addr} {n z l h c : Nat} {vs : List Value} (hr : Rd M A n z vs) (h1 : l ≤ h) (h2 : h ≤ n) (hc : n ≤ c) :
    Rd M (Zt.slAddr z A l c) (h - l) z ((vs.drop (l * z)).take ((h - l) * z)) := by
  unfold Zt.slAddr
  split
  · rename_i e
    have : h - l = 0 := by omega
    rw [this, Nat.zero_mul, List.take_zero]
    exact Rd.zero
  · exact hr.part h1 h2
theorem RdI.slAddr {M : Mem} {A : Option Addr} {k : IntKind} {l h c : Nat} {xs : List Int} (hr : RdI M k A xs) (h1 : l ≤ h) (h2 : h ≤ xs.length) (hc : xs.length ≤ c) :
    RdI M k (Zt.slAddr 1 A l c) ((xs.drop l).take (h - l)) := by
  have := Rd.slAddr hr h1 h2 hc
  unfold RdI
  rw [List.length_take, List.length_drop, Nat.min_eq_left (by omega), List.map_take, List.map_drop]
  simpa using this
theorem Rd.lit {M : Mem} {n z : Nat} {cs : List Value} (h : cs.length = n * z) : Rd (M ++ [⟨.fx, cs⟩]) (some ⟨M.length, 0, none⟩) n z cs := (Buf.push (Pre.refl M)).rd h
theorem RdI.lit {M : Mem} {k : IntKind} (xs : List Int) : RdI (M ++ [⟨.fx, xs.map (Value.int k)⟩]) k (some ⟨M.length, 0, none⟩) xs := Rd.lit (by simp)
theorem RdI.nil {M : Mem} {k : IntKind} {A : Option Addr} : RdI M k A [] := Rd.zero
theorem setL_one {α : Type} (cs : List α) (i : Nat) (v : α) : setL cs i [v] = cs.set i v := rfl
end Go.Zt
