/- What the law PoolNames needs of the text Ab9. -/
import Derived.Test.YtjmahpemdghncaaPAb8
set_option linter.unusedVariables false
set_option linter.unusedSimpArgs false
namespace Go.Zt
open Go.RowKit
section
variable {C : Ctx} {B lo : Nat} {w0 : World} {m0 : Mp} {M0 : Mem} {m : Mp} {ml : Nat → Nat} {s s' : St} {w : World} {ρ : Operand → Value} {e : EV}
theorem copy_sound (hs : Setup C B lo w0 m0 M0 m ml s w ρ) {tys : List TypeId} {ty : TypeId} {x y : Operand} (h : copyA C tys s (opnd s x) (opnd s y) (fun e s' => some (e, s')) = some (e, s')) :
    ∃ cv w', (Builtin.copy_ ⟨tys⟩ ty #[ρ x, ρ y]).run C.P w = .ok cv w' ∧ OpPost B lo w0 m0 M0 m ml s e s' cv w' m ml := by
  unfold copyA at h
  split at h
  case h_2 => cases h
  rename_i t u
  split at h
  case h_2 => cases h
  rename_i el el2 A n c mm hu hu2 hx hm
  split at h
  case h_2 => cases h
  rename_i z hz
  rw [ob_eq] at h
  cases hsrc : srcA C s (z + 1) (Nat.min mm n) (opnd s y) with
  | none => rw [hsrc] at h; cases h
  | some vs =>
    rw [hsrc] at h
    simp only [Option.bind_some, pb_eq, ob_eq] at h
    obtain ⟨Ay, cy, news, hy, hnl, hnlen, hn1, hnA, hncell⟩ := src_sound hs hm (Nat.min_le_left _ _) hsrc
    have hus : ∀ v ∈ news, v.oneCell' = true := hnl.one hn1
    have hfirst : (Builtin.firstCells (z + 1) (Nat.min mm n) (ρ y)).run C.P w = .ok news.toArray w := by
      rw [hy]
      cases Ay with
      | none =>
        have h0 := hnA rfl
        obtain rfl : news = [] := List.eq_nil_of_length_eq_zero (by rw [hnlen, Nat.mul_eq_zero]; exact .inl h0)
        exact run_firstCells_none w _ _ _ _
      | some a => exact run_firstCells_some w (z + 1) _ a mm cy news hnlen (hncell a rfl)
    have hxv := hs.rho x _ hx
    obtain ⟨A', k', hρx, q1, q2, hA⟩ := VR.slc_any hxv
    have run : ∀ w', (match A' with | some a => storeCells a news | none => pure () : Sem Unit).run C.P w = .ok () w' →
        (Builtin.copy_ #[t, u] ty #[ρ x, ρ y]).run C.P w = .ok (goInt (Nat.min mm n)) w' := fun w' hw => by
      have hlen : (Builtin.lenOf (ρ y)).run C.P w = .ok mm w := by rw [hy]; rfl
      rw [hρx]
      cases A' <;> simp_all [Builtin.copy_, run_underlying hu, run_tsize hz]
    split at h
    · rename_i h0
      injection h with h; injection h with e1 e2; subst e1; subst e2
      obtain rfl : news = [] := List.eq_nil_of_length_eq_zero (by rw [hnlen, Nat.mul_eq_zero]; exact .inl h0)
      refine ⟨_, w, run w (by cases A' <;> rfl), hs.pure ?_⟩
      rw [h0]
      exact VR.int _ _
    · rename_i h0
      cases A with
      | none => cases h
      | some a =>
        simp only [Option.bind_some] at h
        rcases hA with ⟨hn, _⟩ | ⟨a1, a', ha1, rfl, hsr⟩
        · cases hn
        injection ha1 with ha1; subst ha1
        cases hst : s.mem.st C.lo a vs with
        | none => rw [hst] at h; cases h
        | some M' =>
          rw [hst] at h
          injection h with h; injection h with e1 e2; subst e1; subst e2
          have hmin : Nat.min mm n ≤ n := Nat.min_le_right _ _
          obtain ⟨w', hw, hmi, he⟩ := hs.mi.st (P := C.P) hs.flo (hsr.ar (by omega)) hst (fun e => by
            have h1 := hnl.1
            rw [e, hnlen] at h1
            have := Nat.mul_ne_zero h0 (Nat.succ_ne_zero z)
            exact this h1.symm) hnl hn1
          exact ⟨_, w', run w' hw, ⟨hmi, VR.int _ _, he, rfl, fun _ _ => rfl⟩⟩
theorem clear_sound (hs : Setup C B lo w0 m0 M0 m ml s w ρ) {tys : List TypeId} {ty : TypeId} {x : Operand} (h : clearA C tys s (opnd s x) (fun e s' => some (e, s')) = some (e, s')) :
    ∃ cv w', (Builtin.clear_ ⟨tys⟩ ty #[ρ x]).run C.P w = .ok cv w' ∧ OpPost B lo w0 m0 M0 m ml s e s' cv w' m ml := by
  unfold clearA at h
  split at h
  case h_2 => cases h
  rename_i t
  split at h
  case h_2 => cases h
  rename_i el A n c hu hx
  split at h
  case h_1 => cases h
  case h_3 => cases h
  rename_i z1 zs hzs
  obtain ⟨i, z0, hi, hz, hc, hl, hp⟩ := zeroL_inv hzs
  rw [pb_eq] at h
  have hxv := hs.rho x _ hx
  obtain ⟨A', k', hρx, q1, q2, hA⟩ := VR.slc_any hxv
  split at h
  · rename_i h0
    subst h0
    injection h with h; injection h with e1 e2; subst e1; subst e2
    refine ⟨.tuple #[], w, ?_, hs.pure (VR.tuple _ _ rfl (fun i x y hx => by simp at hx))⟩
    rw [hρx]
    cases A' <;> simp [Builtin.clear_, run_underlying hu]
  · rename_i h0
    rw [ob_eq] at h
    cases A with
    | none => cases h
    | some a =>
      simp only [Option.bind_some, ob_eq] at h
      rcases hA with ⟨hn, _⟩ | ⟨a1, a', ha1, rfl, hsr⟩
      · cases hn
      injection ha1 with ha1; subst ha1
      cases hst : s.mem.st C.lo a (zerosL (z1 :: zs) n) with
      | none => rw [hst] at h; cases h
      | some M' =>
        rw [hst] at h
        injection h with h; injection h with e1 e2; subst e1; subst e2
        have hpl : allPlain (zerosL (z1 :: zs) n) = true := allPlain_iff.2 fun v hv => allPlain_iff.1 hp v (mem_zerosL hv)
        obtain ⟨w', hw, hmi, he⟩ := hs.mi.st (P := C.P) hs.flo (hsr.ar (by omega)) hst (fun e => h0 ((Nat.mul_eq_zero.1 (show n * (z1 :: zs).length = 0 by rw [← zerosL_length, e]; rfl)).resolve_right (Nat.succ_ne_zero _))) (LR.plain hpl) (allPlain_one hpl)
        refine ⟨.tuple #[], w', ?_, ⟨hmi, VR.tuple _ _ rfl (fun i x y hx => by simp at hx), he, rfl, fun _ _ => rfl⟩⟩
        rw [hρx]
        have hzc : (Builtin.zeroCells z0.cells n).toList = zerosL (z1 :: zs) n := by rw [zeroCells_list, hc, cellsL_eq]
        obtain ⟨n', rfl⟩ : ∃ n', n = n' + 1 := ⟨n - 1, by omega⟩
        simp [Builtin.clear_, run_underlying hu, run_zero hi hz, hzc, hw]
theorem make_sound (hs : Setup C B lo w0 m0 M0 m ml s w ρ) (hconst : ∀ v, ρ (.const v) = v) {t : TypeId} {l c : Operand} (h : makeA C t l c s (fun e s' => some (e, s')) = some (e, s')) :
    ∃ cv w' m', (Instr.makeSlice t (ρ l) (ρ c)).run C.P w = .ok cv w' ∧ OpPost B lo w0 m0 M0 m ml s e s' cv w' m' ml := by
  unfold makeA at h
  split at h
  case h_2 => cases h
  rename_i el n hu hc
  split at h
  case h_2 => cases h
  rename_i zs b z hzs hb hz
  obtain ⟨i, z0, hi, hi0, hi1, hi2, hzc, hzl, hz1, hzp⟩ := info_inv hz hb hzs
  rw [pb_eq] at h
  split at h
  case isFalse => cases h
  rename_i hcond
  obtain ⟨hn0, hroom⟩ := hcond
  have hroom' : n.toNat * (b + 1) ≤ 140737488355328 := hroom
  have hρc := (hs.val hc).int_inv
  obtain ⟨k, rfl⟩ : ∃ k : Nat, n = k := ⟨n.toNat, by omega⟩
  simp only [Int.toNat_natCast] at h hroom'
  have hza : z0.cells.size = z + 1 := by rw [← Array.length_toList, ← hzc, hzl]
  have hb48 : ¬ (281474976710656 < ((b + 1 : Nat) : Int) * (k : Int)) := by
    rw [Int.mul_comm, ← Int.natCast_mul]; omega
  -- the run
  have run : ∀ q : Nat, q ≤ k → ρ l = .int .i64 q → k ≤ 9223372036854775807 → (Instr.makeSlice t (ρ l) (ρ c)).run C.P w = .ok (.slice (some ⟨w.heap.size, 0, none⟩) q k) (w.alloc (.cells ⟨zerosL zs k⟩ el)) := fun q hq hl hk => by
    have hwk : IntKind.i64.wrap (k : Int) = k := by rw [IntKind.wrap_i64]; omega
    have hwq : IntKind.i64.wrap (q : Int) = q := by rw [IntKind.wrap_i64]; omega
    have hcells : ((Array.range (k * (z + 1))).map (fun i => (if k * (z + 1) = 0 then (#[] : Array Value) else z0.cells)[i % (if k * (z + 1) = 0 then (#[] : Array Value) else z0.cells).size]!)) = ⟨zerosL zs k⟩ := by
      apply Array.ext'
      by_cases h0 : k * (z + 1) = 0
      · have : k = 0 := (Nat.mul_eq_zero.1 h0).resolve_right (by omega)
        subst this
        simp [zerosL]
      · simp only [h0, if_false]
        have := zeroArr z0.cells k (by omega)
        rw [hza] at this
        rw [hzc]
        simpa [hza] using this
    have hc1 : ¬ (((k : Int) < 0 ∨ 281474976710656 < ((b + 1 : Nat) : Int) * (k : Int)) ∨ (q : Int) < 0 ∨ (k : Int) < q) := by omega
    rw [hl, hρc]
    by_cases h0 : k * (z + 1) = 0
    · have hk0 : k = 0 := (Nat.mul_eq_zero.1 h0).resolve_right (by omega)
      subst hk0
      have hq0 : q = 0 := by omega
      subst hq0
      have hw0 : IntKind.i64.wrap 0 = 0 := by rw [IntKind.wrap_i64]; rfl
      simp [hw0, Instr.makeSlice, run_underlying hu, asInt, run_asInt, typeInfo, hi, hwk, sizeOf, hi1, newRow, zerosL]
      congr 2
      exact Array.ext' (by simp)
    · simp only [h0, if_false] at hcells
      have e1 : ¬ ((k : Int) < 0) := by omega
      have e2 : ¬ ((q : Int) < 0) := by omega
      have e3 : ¬ ((k : Int) < (q : Int)) := by omega
      have h0' : ¬ (k = 0) := by rintro rfl; simp at h0
      have hb48' : ¬ (281474976710656 < ((b : Int) + 1) * (k : Int)) := by simpa using hb48
      simp [Instr.makeSlice, run_underlying hu, asInt, run_asInt, typeInfo, hi, hwk, hwq, sizeOf, hi1, hi2, zeroValue, hi0, newRow, hb48', e1, e2, e3, h0, h0', hcells]
  have hk63 : k ≤ 9223372036854775807 := by
    have h1 : k * 1 ≤ k * (b + 1) := Nat.mul_le_mul_left k (by omega)
    omega
  split at h
  · rename_i hsame
    have hl : ρ l = .int .i64 k := by
      unfold sameOpnd at hsame
      split at hsame
      · rw [Nat.eq_of_beq_eq_true hsame]; exact hρc
      · rename_i k1 a k2 b2
        rw [hconst] at hρc ⊢
        have hsame' : k1 = k2 ∧ a = b2 := by simpa using hsame
        rw [hsame'.1, hsame'.2]; exact hρc
      · cases hsame
    have hlz : LR m s.mem (zerosL zs k) (zerosL zs k) := LR.plain (allPlain_iff.2 fun v hv => allPlain_iff.1 hzp v (mem_zerosL hv))
    split at h
    case h_2 =>
      rename_i i _
      rw [ob_eq] at h
      obtain ⟨q, hq, h⟩ := Option.bind_eq_some_iff.1 h
      injection h with h; injection h with e1 e2; subst e1; subst e2
      obtain ⟨m', hp, _⟩ := free_sound hs (n := k) hq (by rw [zerosL_length, hzl]) ⟨zerosL zs k⟩ el hlz (fun v hv => hz1 v (mem_zerosL hv))
      exact ⟨_, _, m', run k (Nat.le_refl _) hl hk63, hp⟩
    injection h with h; injection h with e1 e2; subst e1; subst e2
    have hmi := hs.mi.push ⟨.fx, zerosL zs k⟩ (by simp) (zerosL zs k) el (by rw [List.take_length]; exact LR.plain (allPlain_iff.2 fun v hv => allPlain_iff.1 hzp v (mem_zerosL hv))) (Nat.le_refl _) (fun _ => rfl) (fun z hz => by cases hz) (fun v hv => hz1 v (mem_zerosL hv))
    refine ⟨_, _, _, run k (Nat.le_refl _) hl hk63, ⟨hmi, ?_, ext_push lo m s.mem _ _ _, rfl, fun _ _ => rfl⟩⟩
    refine VR.slc _ _ _ _ _ ⟨Nat.le_refl _, Nat.le_refl _, ⟨.fx, zerosL zs k⟩, by simp, ?_⟩
    simp [Mp.put, add_new]
  · rename_i hzero _
    have hl : ρ l = .int .i64 (0 : Nat) := by
      unfold isZero at hzero
      split at hzero
      · rename_i n0 _
        have : n0 = 0 := by simpa using hzero
        rw [hconst, this]; rfl
      · cases hzero
    split at h
    case h_2 => cases h
    injection h with h; injection h with e1 e2; subst e1; subst e2
    have hmi := hs.mi.push ⟨.op (z + 1), []⟩ (by simp) (zerosL zs k) el (by simpa using LR.nil) (by simp) (fun h => by cases h) (fun z' hz' => by cases hz'; omega) (fun v hv => nomatch hv)
    refine ⟨_, _, _, run 0 (Nat.zero_le _) hl hk63, ⟨hmi, ?_, ext_push lo m s.mem _ _ _, rfl, fun _ _ => rfl⟩⟩
    refine VR.slc _ _ _ _ _ ⟨Nat.le_refl _, Nat.zero_le _, ⟨.op (z + 1), []⟩, by simp, ?_⟩
    simp [Mp.put, add_new, zerosL_length, hzl]
  · cases h
end
end Go.Zt
