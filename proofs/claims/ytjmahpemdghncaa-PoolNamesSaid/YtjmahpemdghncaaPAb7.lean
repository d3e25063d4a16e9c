/- What the law PoolNames needs of the text Ab7. -/
import Derived.Test.YtjmahpemdghncaaPAb6
set_option linter.unusedVariables false
set_option linter.unusedSimpArgs false
namespace Go.Zt
open Go.RowKit
section
variable {C : Ctx} {B lo : Nat} {w0 : World} {m0 : Mp} {M0 : Mem} {m : Mp} {ml : Nat → Nat} {s s' : St} {w : World} {ρ : Operand → Value} {e : EV}
theorem run_sliceBound (P : Program) (k : IntKind) (i : Int) (y : Nat) (code : BoundsCode) (w : World) (h0 : 0 ≤ i) (h1 : i ≤ y) : (Instr.sliceBound (.int k i) y code).run P w = .ok i.toNat w := by
  have h : 0 ≤ i ∧ i ≤ (y : Int) := ⟨h0, h1⟩
  simp [Instr.sliceBound, run_asInt, h]
def BoundIs (l : Option Int) (v : Option Value) : Prop :=
  match l, v with
  | none, none => True
  | some i, some (.int _ j) => i = j
  | _, _ => False
theorem bound_sound (hs : Setup C B lo w0 m0 M0 m ml s w ρ) {o : Option Operand} {l : Option Int} (h : bound? s o = some l) : BoundIs l (o.map ρ) := by
  cases o with
  | none => simp [bound?] at h; subst h; trivial
  | some x =>
    simp only [bound?] at h
    split at h
    · rename_i k i hv
      injection h with h; subst h
      simp only [Option.map_some, BoundIs, (hs.val hv).int_inv]
    · cases h
theorem run_sliceBounds (P : Program) (isS : Bool) (n c : Nat) {l h m : Option Int} {vl vh vm : Option Value} (hl : BoundIs l vl) (hh : BoundIs h vh) (hm : BoundIs m vm) (w : World)
    (hx : m.isSome = true → h.isSome = true) (hnc : n ≤ c)
    (hok : 0 ≤ l.getD 0 ∧ l.getD 0 ≤ h.getD (n : Int) ∧ (∀ x, h = some x → x ≤ m.getD (c : Int)) ∧ m.getD (c : Int) ≤ (c : Int)) :
    (Instr.sliceBounds isS n c vl vh vm).run P w = .ok ((l.getD 0).toNat, (h.getD (n : Int)).toNat, (m.getD (c : Int)).toNat) w := by
  obtain ⟨h1, h2, h3, h4⟩ := hok
  have hl0 : ∀ (y : Nat) (code : BoundsCode), l.getD 0 ≤ (y : Int) → (match vl with | some v => Instr.sliceBound v y code | none => pure 0 : Sem Nat).run P w = .ok (l.getD 0).toNat w := fun y code hy => by
    cases vl with
    | none => cases l with
      | none => rfl
      | some _ => exact hl.elim
    | some v => cases l with
      | none => cases v <;> exact hl.elim
      | some i => cases v <;> first | exact hl.elim | (obtain rfl : i = _ := hl; exact run_sliceBound _ _ _ _ _ _ h1 hy)
  cases vm with
  | none =>
    cases m with
    | some _ => exact hm.elim
    | none =>
      cases vh with
      | none =>
        cases h with
        | some _ => exact hh.elim
        | none =>
          have := hl0 n (if (none : Option Value).isSome then BoundsCode.slice3C else BoundsCode.sliceB) (by simpa using h2)
          simp only [Option.isSome_none, Bool.false_eq_true, if_false] at this
          cases vl <;> simp_all [Instr.sliceBounds]
      | some v =>
        cases h with
        | none => cases v <;> exact hh.elim
        | some i =>
          cases v <;> try exact hh.elim
          rename_i k j
          obtain rfl : i = j := hh
          have hij : i ≤ (c : Int) := by simpa using h3 i rfl
          have h0i : 0 ≤ i := by simp at h2; omega
          have hb := run_sliceBound P k i c (if isS then BoundsCode.sliceAcap else BoundsCode.sliceAlen) w h0i hij
          have := hl0 i.toNat BoundsCode.sliceB (by simp at h2; omega)
          cases vl <;> simp_all [Instr.sliceBounds]
  | some u =>
    cases m with
    | none => cases u <;> exact hm.elim
    | some mx =>
      cases u <;> try exact hm.elim
      rename_i ku ju
      obtain rfl : mx = ju := hm
      cases h with
      | none => simp at hx
      | some i =>
        cases vh with
        | none => exact hh.elim
        | some v =>
          cases v <;> try exact hh.elim
          rename_i k j
          obtain rfl : i = j := hh
          have hij : i ≤ mx := by simpa using h3 i rfl
          have h0i : 0 ≤ i := by simp at h2; omega
          have hmc : mx ≤ (c : Int) := by simpa using h4
          have hb1 := run_sliceBound P ku mx c (if isS then BoundsCode.slice3Acap else BoundsCode.slice3Alen) w (by omega) hmc
          have hb2 := run_sliceBound P k i mx.toNat BoundsCode.slice3B w h0i (by omega)
          have := hl0 i.toNat BoundsCode.slice3C (by simp at h2; omega)
          cases vl <;> simp_all [Instr.sliceBounds]
theorem VR.slc_any {M : Mem} {m : Mp} {A : Option Addr} {n k : Nat} {c : Value} (h : VR m M (.slice A n k) c) : ∃ A' k', c = .slice A' n k' ∧ n ≤ k ∧ k ≤ k' ∧ ((A = none ∧ A' = none ∧ n = 0 ∧ k = 0 ∧ k' = 0) ∨ ∃ a a', A = some a ∧ A' = some a' ∧ SR m M a n k a' k') := by
  cases A with
  | none => obtain ⟨rfl, rfl, rfl⟩ := VR.nil_inv h; exact ⟨none, 0, rfl, Nat.le_refl _, Nat.le_refl _, .inl ⟨rfl, rfl, rfl, rfl, rfl⟩⟩
  | some a =>
    obtain ⟨a', k', rfl, hs⟩ := VR.slc_inv h
    refine ⟨some a', k', rfl, hs.1, ?_, .inr ⟨a, a', rfl, rfl, hs⟩⟩
    obtain ⟨h1, h2, b, hb, h3⟩ := hs
    cases hkind : b.kind <;> rw [hkind] at h3 <;> cases hsp : a.spot <;> simp only [hsp] at h3 <;> omega
theorem sliceS_sound {P : Program} {M : Mem} {m : Mp} {t el : TypeId} {z : Nat} (hu : P.underlying t = some (.slice el)) (hz : tsize P el = some z) {A : Option Addr} {n c : Nat} {x : Value} (hvr : VR m M (.slice A n c) x)
    {l h mx : Option Int} {vl vh vm : Option Value} (hl : BoundIs l vl) (hh : BoundIs h vh) (hm : BoundIs mx vm) {R : Type} {K : Value → Option R} {r : R} (hk : sliceS z A n c l h mx K = some r) (w : World) :
    ∃ v cv, K v = some r ∧ VR m M v cv ∧ (Instr.slice t x vl vh vm).run P w = .ok cv w := by
  obtain ⟨A', k', rfl, hnk, hkk, hA⟩ := VR.slc_any hvr
  unfold sliceS at hk
  split at hk
  · rename_i mxv
    split at hk
    · rename_i hv
      rw [pb_eq] at hk
      split at hk
      · rename_i hc
        obtain ⟨c1, c2, c3, c4⟩ := hc
        have hrun := run_sliceBounds P true n k' hl hh hm w (fun _ => rfl) (by omega) ⟨c1, by simpa using c2, fun y hy => by injection hy with hy; subst hy; simpa using c3, by simpa using (by omega : mxv ≤ (k' : Int))⟩
        simp only [Option.getD_some] at hrun
        rcases hA with ⟨rfl, rfl, rfl, rfl, rfl⟩ | ⟨a, a', rfl, rfl, hsr⟩
        · refine ⟨_, .slice none 0 0, hk, ?_, ?_⟩
          · have e1 : mxv.toNat = 0 := by omega
            have e2 : (l.getD 0).toNat = 0 := by omega
            have e3 : hv.toNat = 0 := by omega
            simp [slAddr3, e1, e2, e3]
            exact VR.nilslc
          · have e1 : mxv.toNat = 0 := by omega
            have e2 : (l.getD 0).toNat = 0 := by omega
            have e3 : hv.toNat = 0 := by omega
            simp [Instr.slice, run_underlying hu, hrun, run_tsize hz, e1, e2, e3]
        · obtain ⟨q1, a2, q2, q3⟩ := slAddr3_sound (z := z) hsr (l := (l.getD 0).toNat) (h' := hv.toNat) (mx := mxv.toNat) (by omega) (by omega) (by omega)
          rw [q2] at hk
          refine ⟨_, _, hk, VR.slc _ _ _ _ _ q3, ?_⟩
          simp only [Instr.slice, Sem.run_bind, run_underlying hu, Result.andThen_ok, hrun, run_tsize hz, Sem.run_pure]
          congr 1
          split <;> simp_all
      · cases hk
    · cases hk
  · split at hk
    · rename_i hv
      rw [pb_eq] at hk
      split at hk
      · rename_i hc
        obtain ⟨c1, c2, c3⟩ := hc
        have hrun := run_sliceBounds P true n k' hl hh hm w (fun hx => by cases hx) (by omega) ⟨c1, by simpa using c2, fun y hy => by injection hy with hy; subst hy; simpa using (by omega : hv ≤ (k' : Int)), by simp⟩
        simp only [Option.getD_some, Option.getD_none, Int.toNat_natCast] at hrun
        rcases hA with ⟨rfl, rfl, rfl, rfl, rfl⟩ | ⟨a, a', rfl, rfl, hsr⟩
        · have e2 : (l.getD 0).toNat = 0 := by omega
          have e3 : hv.toNat = 0 := by omega
          refine ⟨_, .slice none 0 0, hk, by simp [slAddr, e2, e3]; exact VR.nilslc, ?_⟩
          simp [Instr.slice, run_underlying hu, hrun, run_tsize hz, e2, e3]
        · obtain ⟨a2, q2, q3⟩ := slAddr_sound (z := z) hsr (l := (l.getD 0).toNat) (h' := hv.toNat) (by omega) (by omega)
          rw [q2] at hk
          refine ⟨_, _, hk, VR.slc _ _ _ _ _ q3, ?_⟩
          simp only [Instr.slice, Sem.run_bind, run_underlying hu, Result.andThen_ok, hrun, run_tsize hz, Sem.run_pure]
          congr 1
          split <;> simp_all
      · cases hk
    · rw [pb_eq] at hk
      split at hk
      · rename_i hc
        obtain ⟨c1, c2⟩ := hc
        have hrun := run_sliceBounds P true n k' hl hh hm w (fun hx => by cases hx) (by omega) ⟨c1, by simpa using c2, (fun y hy => nomatch hy), by simp⟩
        simp only [Option.getD_none, Int.toNat_natCast] at hrun
        rcases hA with ⟨rfl, rfl, rfl, rfl, rfl⟩ | ⟨a, a', rfl, rfl, hsr⟩
        · have e2 : (l.getD 0).toNat = 0 := by omega
          refine ⟨_, .slice none 0 0, hk, by simp [slAddr, e2]; exact VR.nilslc, ?_⟩
          simp [Instr.slice, run_underlying hu, hrun, run_tsize hz, e2]
        · obtain ⟨a2, q2, q3⟩ := slAddr_sound (z := z) hsr (l := (l.getD 0).toNat) (h' := n) (by omega) (by omega)
          rw [q2] at hk
          refine ⟨_, _, hk, VR.slc _ _ _ _ _ q3, ?_⟩
          simp only [Instr.slice, Sem.run_bind, run_underlying hu, Result.andThen_ok, hrun, run_tsize hz, Sem.run_pure]
          congr 1
          split <;> simp_all
      · cases hk
theorem sliceArr_sound {P : Program} {M : Mem} {m : Mp} {t el : TypeId} {z n : Nat} (hu : P.underlying t = some (.array n el)) (hz : tsize P el = some z) {a c : Addr} (ha : AR m M a c) (hsp : a.spot = none)
    {l h mx : Option Int} {vl vh vm : Option Value} (hl : BoundIs l vl) (hh : BoundIs h vh) (hm : BoundIs mx vm) {R : Type} {K : Value → Option R} {r : R} (hk : sliceS z (some a) n n l h mx K = some r) (w : World) :
    ∃ v cv, K v = some r ∧ VR m M v cv ∧ (Instr.sliceAt t (.pointer (some c)) vl vh vm).run P w = .ok cv w := by
  have hsr : SR m M a n n c n := by
    obtain ⟨b, hb, ha⟩ := ha
    refine ⟨Nat.le_refl _, Nat.le_refl _, b, hb, ?_⟩
    cases hkind : b.kind with
    | op y => rw [hkind, hsp] at ha; exact ha.elim
    | ro => rw [hkind, hsp] at ha; simp only [hsp]; exact ⟨trivial, ha⟩
    | fx => rw [hkind, hsp] at ha; simp only [hsp]; exact ⟨trivial, ha⟩
  unfold sliceS at hk
  split at hk
  · rename_i mxv
    split at hk
    · rename_i hv
      rw [pb_eq] at hk
      split at hk
      · rename_i hc
        obtain ⟨c1, c2, c3, c4⟩ := hc
        have hrun := run_sliceBounds P false n n hl hh hm w (fun _ => rfl) (by omega) ⟨c1, by simpa using c2, fun y hy => by injection hy with hy; subst hy; simpa using c3, by simpa using c4⟩
        simp only [Option.getD_some] at hrun
        obtain ⟨q1, a2, q2, q3⟩ := slAddr3_sound (z := z) hsr (l := (l.getD 0).toNat) (h' := hv.toNat) (mx := mxv.toNat) (by omega) (by omega) (by omega)
        rw [q2] at hk
        refine ⟨_, _, hk, VR.slc _ _ _ _ _ q3, ?_⟩
        simp only [Instr.sliceAt, Instr.sureAddr, Sem.run_bind, run_underlying hu, Result.andThen_ok, hrun, run_tsize hz, Sem.run_pure]
      · cases hk
    · cases hk
  · split at hk
    · rename_i hv
      rw [pb_eq] at hk
      split at hk
      · rename_i hc
        obtain ⟨c1, c2, c3⟩ := hc
        have hrun := run_sliceBounds P false n n hl hh hm w (fun hx => by cases hx) (by omega) ⟨c1, by simpa using c2, fun y hy => by injection hy with hy; subst hy; simpa using c3, by simp⟩
        simp only [Option.getD_some, Option.getD_none, Int.toNat_natCast] at hrun
        obtain ⟨a2, q2, q3⟩ := slAddr_sound (z := z) hsr (l := (l.getD 0).toNat) (h' := hv.toNat) (by omega) (by omega)
        rw [q2] at hk
        refine ⟨_, _, hk, VR.slc _ _ _ _ _ q3, ?_⟩
        simp only [Instr.sliceAt, Instr.sureAddr, Sem.run_bind, run_underlying hu, Result.andThen_ok, hrun, run_tsize hz, Sem.run_pure]
      · cases hk
    · rw [pb_eq] at hk
      split at hk
      · rename_i hc
        obtain ⟨c1, c2⟩ := hc
        have hrun := run_sliceBounds P false n n hl hh hm w (fun hx => by cases hx) (by omega) ⟨c1, by simpa using c2, (fun y hy => nomatch hy), by simp⟩
        simp only [Option.getD_none, Int.toNat_natCast] at hrun
        obtain ⟨a2, q2, q3⟩ := slAddr_sound (z := z) hsr (l := (l.getD 0).toNat) (h' := n) (by omega) (by omega)
        rw [q2] at hk
        refine ⟨_, _, hk, VR.slc _ _ _ _ _ q3, ?_⟩
        simp only [Instr.sliceAt, Instr.sureAddr, Sem.run_bind, run_underlying hu, Result.andThen_ok, hrun, run_tsize hz, Sem.run_pure]
      · cases hk
end
end Go.Zt
