/- What the law PoolNames needs of the text Ab6. -/
import Derived.Test.YtjmahpemdghncaaPAb5
import Derived.Deep.AppendSrc
import Derived.Deep.Upon
set_option linter.unusedVariables false
set_option linter.unusedSimpArgs false
namespace Go.Zt
open Go.RowKit
structure Setup (C : Ctx) (B lo : Nat) (w0 : World) (m0 : Mp) (M0 : Mem) (m : Mp) (ml : Nat → Nat) (s : St) (w : World) (ρ : Operand → Value) : Prop where
  call : CallsOk C.P C.call
  flo : lo ≤ C.lo ∨ s.mem.length ≤ C.lo
  top : C.lo ≤ s.mem.length
  mi : MI B lo w0 m0 M0 m ml s.mem s.loc w
  rho : ∀ x ev, opnd s x = some ev → ER m s.mem ml ev (ρ x)
section
variable {C : Ctx} {B lo : Nat} {w0 : World} {m0 : Mp} {M0 : Mem} {m : Mp} {ml : Nat → Nat} {s s' : St} {w : World} {ρ : Operand → Value} {e : EV}
theorem Setup.pure (hs : Setup C B lo w0 m0 M0 m ml s w ρ) {e : EV} {cv : Value} (er : ER m s.mem ml e cv) : OpPost B lo w0 m0 M0 m ml s e s cv w m ml :=
  ⟨hs.mi, er, Ext.refl _ _ _, rfl, fun _ _ => rfl⟩
theorem val_inv {x : Operand} {v : Value} (h : val s x = some v) : opnd s x = some (.v v) := by
  unfold val at h
  split at h
  · injection h with h; subst h; assumption
  · cases h
theorem Setup.val (hs : Setup C B lo w0 m0 M0 m ml s w ρ) {x : Operand} {v : Value} (h : val s x = some v) : VR m s.mem v (ρ x) := hs.rho x _ (val_inv h)
theorem Setup.vals (hs : Setup C B lo w0 m0 M0 m ml s w ρ) : ∀ {l : List Operand} {vs : List Value}, vals s l = some vs → LR m s.mem vs (l.map ρ)
  | [], vs, h => by simp [Zt.vals] at h; subst h; exact LR.nil
  | x :: r, vs, h => by
    simp only [Zt.vals] at h
    split at h
    · rename_i v l hv hl
      injection h with h; subst h
      exact LR.cons (hs.val hv) (hs.vals hl)
    · cases h
theorem VR.int_inv {k : IntKind} {n : Int} {c : Value} {M : Mem} (h : VR m M (.int k n) c) : c = .int k n := by cases h; rfl
theorem VR.bool_inv {b : Bool} {c : Value} {M : Mem} (h : VR m M (.bool b) c) : c = .bool b := by cases h; rfl
theorem VR.ptr_inv {a : Addr} {c : Value} {M : Mem} (h : VR m M (.pointer (some a)) c) : ∃ a', c = .pointer (some a') ∧ AR m M a a' := by
  cases h with
  | ptr a c ha => exact ⟨c, rfl, ha⟩
theorem VR.slc_inv {a : Addr} {n k : Nat} {c : Value} {M : Mem} (h : VR m M (.slice (some a) n k) c) : ∃ a' k', c = .slice (some a') n k' ∧ SR m M a n k a' k' := by
  cases h with
  | slc a n c a' c' hs => exact ⟨a', c', rfl, hs⟩
theorem VR.nil_inv {n k : Nat} {c : Value} {M : Mem} (h : VR m M (.slice none n k) c) : n = 0 ∧ k = 0 ∧ c = .slice none 0 0 := by
  cases h with
  | nilslc => exact ⟨rfl, rfl, rfl⟩
theorem VR.str_inv {b : ByteArray} {c : Value} {M : Mem} (h : VR m M (.string b) c) : c = .string b := by cases h; rfl
theorem fill_inv {M M' : Mem} {lo i z : Nat} {cs : List Value} {a : Addr} (h : M.fill lo i z cs = some (a, M')) : ∃ ds, M[i]? = some (⟨.op 0, ds⟩ : Blk) ∧ lo ≤ i ∧ z ≠ 0 ∧ ((cs = [] ∧ a = ⟨i, 0, none⟩ ∧ M' = M) ∨ (cs ≠ [] ∧ a = ⟨i, 0, some cs.length⟩ ∧ M' = M.set i ⟨.op z, cs⟩)) := by
  unfold Mem.fill at h
  split at h
  · rename_i ds hk
    split at h
    · rename_i hc
      refine ⟨ds, hk, hc.1, hc.2, ?_⟩
      split at h
      · injection h with h; injection h with h1 h2
        exact .inl ⟨rfl, h1.symm, h2.symm⟩
      · injection h with h; injection h with h1 h2
        exact .inr ⟨by simp, h1.symm, h2.symm⟩
    · cases h
  · cases h
theorem free_sound (hs : Setup C B lo w0 m0 M0 m ml s w ρ) {i z n : Nat} {cs : List Value} {a : Addr} {M' : Mem} (hf : s.mem.fill C.lo i z cs = some (a, M')) (hn : cs.length = n * z) (arr : Array Value) (t : TypeId) (hl : LR m s.mem cs arr.toList) (h1 : ∀ v ∈ cs, v.oneCell' = true) :
    ∃ m', OpPost B lo w0 m0 M0 m ml s (.v (.slice (some a) n n)) { s with mem := M' } (.slice (some ⟨w.heap.size, 0, none⟩) n n) (w.alloc (.cells arr t)) m' ml ∧
      (cs ≠ [] → OpPost B lo w0 m0 M0 m ml s (.v (.pointer (some a))) { s with mem := M' } (.pointer (some ⟨w.heap.size, 0, none⟩)) (w.alloc (.cells arr t)) m' ml) := by
  obtain ⟨ds, hk, hlo, hz, hc⟩ := fill_inv hf
  have hi := (List.getElem?_eq_some_iff.1 hk).1
  have hd := hs.mi.rel.hole _ _ hk
  subst hd
  rcases hc with ⟨rfl, rfl, rfl⟩ | ⟨hne, rfl, rfl⟩
  · have hn0 : n = 0 := by
      rcases Nat.mul_eq_zero.1 (show n * z = 0 from hn.symm) with h | h
      · exact h
      · exact absurd h hz
    subst hn0
    refine ⟨m, ⟨hs.mi.beside _, VR.slc _ _ _ _ _ ⟨Nat.le_refl _, Nat.le_refl _, ⟨.op 0, []⟩, hk, ?_⟩, Ext.refl _ _ _, rfl, fun _ _ => rfl⟩, fun h => absurd rfl h⟩
    exact ⟨rfl, rfl, rfl⟩
  · have hlen : 0 < cs.length := Nat.pos_of_ne_zero fun e => hne (List.eq_nil_of_length_eq_zero e)
    obtain ⟨he, hmi⟩ := hs.mi.moved (z := z) (t := t) hk (.inr rfl) (by omega) (by have := hs.flo; omega) (cs := cs) hlen arr.toList (by rw [hl.1, List.take_length]; exact hl) (by simp [hl.1]) h1
    have hat : (m.put i ⟨w.heap.size, 0, none⟩ arr.toList.length).at_ i = ⟨w.heap.size, 0, none⟩ := by simp [Mp.put]
    have hsz : (m.put i ⟨w.heap.size, 0, none⟩ arr.toList.length).sz i = arr.toList.length := by simp [Mp.put]
    have hget : (s.mem.set i ⟨.op z, cs⟩)[i]? = some (⟨.op z, cs⟩ : Blk) := List.getElem?_set_self hi
    refine ⟨m.put i ⟨w.heap.size, 0, none⟩ arr.toList.length, ⟨hmi, VR.slc _ _ _ _ _ ⟨Nat.le_refl _, Nat.le_refl _, ⟨.op z, cs⟩, hget, ?_⟩, he, rfl, fun _ _ => rfl⟩, fun _ => ⟨hmi, VR.ptr _ _ ⟨⟨.op z, cs⟩, hget, ?_⟩, he, rfl, fun _ _ => rfl⟩⟩
    · show cs.length ≤ cs.length ∧ n ≤ n ∧ (cs.length = 0 → 0 = 0 ∧ n = 0) ∧ (cs.length = cs.length → ((0 < n ∨ cs.length = 0) → (⟨w.heap.size, 0, none⟩ : Addr) = ((m.put i ⟨w.heap.size, 0, none⟩ arr.toList.length).at_ i).add 0) ∧ n * z ≤ (m.put i ⟨w.heap.size, 0, none⟩ arr.toList.length).sz i)
      exact ⟨Nat.le_refl _, Nat.le_refl _, fun h => absurd h (by omega), fun _ => ⟨fun _ => by rw [hat, add_zero], by rw [hsz, ← hl.1, hn]; exact Nat.le_refl _⟩⟩
    · show cs.length ≤ cs.length ∧ (cs.length = cs.length → (⟨w.heap.size, 0, none⟩ : Addr) = ((m.put i ⟨w.heap.size, 0, none⟩ arr.toList.length).at_ i).add 0)
      exact ⟨Nat.le_refl _, fun _ => by rw [hat, add_zero]⟩
theorem alloc_sound (hs : Setup C B lo w0 m0 M0 m ml s w ρ) {dst : Option Tmp} {cs : List Value} (h : allocA C dst cs s (fun e s' => some (e, s')) = some (e, s')) (arr : Array Value) (t : TypeId) (hl : LR m s.mem cs arr.toList) (h1 : ∀ v ∈ cs, v.oneCell' = true) :
    ∃ m' ml', OpPost B lo w0 m0 M0 m ml s e s' (.pointer (some ⟨w.heap.size, 0, none⟩)) (w.alloc (.cells arr t)) m' ml' := by
  unfold allocA at h
  split at h
  · cases h
  · rename_i t'
    split at h
    · split at h
      · rename_i hn hr
        injection h with h; injection h with h1' h2'; subst h1'; subst h2'
        refine ⟨m, fun u => if u = t' then w.heap.size else ml u, ⟨hs.mi.pushL t' hn cs arr.toList t hl h1, by simp [ER], Ext.refl _ _ _, rfl, fun u hu => ?_⟩⟩
        have : u ≠ t' := by
          rintro rfl
          rcases hu with hu | hu
          · exact hu hn
          · rw [hr] at hu; cases hu
        simp [this]
      · cases h
    · split at h
      case h_2 =>
        split at h
        · cases h
        · rename_i i _ c r
          rw [ob_eq] at h
          obtain ⟨q, hq, h⟩ := Option.bind_eq_some_iff.1 h
          injection h with h; injection h with h1' h2'; subst h1'; subst h2'
          obtain ⟨m', _, hp⟩ := free_sound hs (n := (c :: r).length) hq (by simp) arr t hl h1
          exact ⟨m', ml, hp (by simp)⟩
      injection h with h; injection h with h1' h2'; subst h1'; subst h2'
      have hmi := hs.mi.push ⟨.fx, cs⟩ (by simp) arr.toList t (by rw [hl.1, List.take_length]; exact hl) (by simp [hl.1]) (fun _ => by simp [hl.1]) (fun z hz => by cases hz) h1
      refine ⟨_, ml, ⟨hmi, ?_, ext_push lo m s.mem _ _ _, rfl, fun _ _ => rfl⟩⟩
      refine VR.ptr _ _ ⟨⟨.fx, cs⟩, by simp, ?_⟩
      simp [Mp.put, add_new]
theorem load_sound (hs : Setup C B lo w0 m0 M0 m ml s w ρ) {t : TypeId} {x : Operand} (h : loadA C t (opnd s x) s (fun e s' => some (e, s')) = some (e, s')) :
    ∃ cv, (Instr.loadAt t (ρ x)).run C.P w = .ok cv w ∧ OpPost B lo w0 m0 M0 m ml s e s' cv w m ml := by
  unfold loadA at h
  split at h
  · rename_i b off hx
    split at h
    · rename_i cs hcs
      have hr := hs.rho x _ hx
      simp only [ER] at hr
      obtain ⟨v, cv, h1, h2, h3⟩ := run_getT (P := C.P) (w := w) h ⟨ml b, off, none⟩ (m := m) (M := s.mem) (fun i v hv => by
        have : (⟨ml b, off, none⟩ : Addr).add i = ⟨ml b, off + i, none⟩ := by unfold Addr.add; split <;> simp_all
        rw [this]
        exact hs.mi.lrel.ld hcs hv)
      injection h1 with h1; injection h1 with e1 e2; subst e1; subst e2
      exact ⟨cv, by rw [hr]; simp [Instr.loadAt, Instr.sureAddr, h3], hs.pure h2⟩
    · cases h
  · rename_i a hx
    have hr := hs.rho x _ hx
    obtain ⟨c, hc, ha⟩ := VR.ptr_inv hr
    · obtain ⟨v, cv, h1, h2, h3⟩ := run_getT (P := C.P) (w := w) h c (m := m) (M := s.mem) (fun i v hv => by
        have hv' : s.mem.ld (plus a i) = some v := by
          unfold ldM at hv
          split at hv
          · exact hv
          · split at hv
            · exact hv
            · cases hv
        exact hs.mi.rel.ld (ha.plus i) hv')
      injection h1 with h1; injection h1 with e1 e2; subst e1; subst e2
      exact ⟨cv, by rw [hc]; simp [Instr.loadAt, Instr.sureAddr, h3], hs.pure h2⟩
  · cases h
theorem store_sound (hs : Setup C B lo w0 m0 M0 m ml s w ρ) {t : TypeId} {x y : Operand} {v : Value} (hv : val s y = some v) (h : storeA C t (opnd s x) v s (fun e s' => some (e, s')) = some (e, s')) :
    ∃ w', (Instr.storeAt t (ρ x) (ρ y)).run C.P w = .ok () w' ∧ e = .u ∧ OpPost B lo w0 m0 M0 m ml s e s' undef w' m ml := by
  unfold storeA at h
  split at h
  · cases h
  · cases h
  · rename_i n hn
    have hcl := (hs.val hv).cells
    split at h
    · rename_i hlen hone
      have hlen' := Nat.eq_of_beq_eq_true hlen
      have hsz : (ρ y).cells.size = n + 1 := by rw [← Array.length_toList, ← hcl.1]; exact hlen'
      have h1 := allOne_iff.1 hone
      have run : ∀ (c : Addr) (w' : World), ρ x = .pointer (some c) → (storeCells c (ρ y).cells.toList).run C.P w = .ok () w' → (Instr.storeAt t (ρ x) (ρ y)).run C.P w = .ok () w' := fun c w' hc hw => by
        rw [hc]
        simp [Instr.storeAt, Instr.sureAddr, storeVar, run_tsize hn, hsz, hw]
      split at h
      · rename_i b off hx
        have hr := hs.rho x _ hx
        simp only [ER] at hr
        split at h
        · rename_i cs hcs
          rw [pb_eq] at h
          split at h
          · rename_i hle
            injection h with h; injection h with e1 e2; subst e1; subst e2
            obtain ⟨w', hw, hmi⟩ := hs.mi.stLoc (P := C.P) hcs (by rw [hlen']; exact hle) hcl h1
            exact ⟨w', run _ _ hr hw, rfl, ⟨hmi, rfl, Ext.refl _ _ _, rfl, fun _ _ => rfl⟩⟩
          · cases h
        · cases h
      · rename_i a hx
        have hr := hs.rho x _ hx
        obtain ⟨c, hc, ha⟩ := VR.ptr_inv hr
        · rw [ob_eq] at h
          cases hst : s.mem.st C.lo a (cellsL v) with
          | none => rw [hst] at h; cases h
          | some M' =>
            rw [hst] at h
            injection h with h; injection h with e1 e2; subst e1; subst e2
            obtain ⟨w', hw, hmi, he⟩ := hs.mi.st (P := C.P) hs.flo ha hst (fun e => by rw [e] at hlen'; simp at hlen') hcl h1
            exact ⟨w', run _ _ hc hw, rfl, ⟨hmi, rfl, he, rfl, fun _ _ => rfl⟩⟩
      · cases h
    · cases h
theorem field_sound (hs : Setup C B lo w0 m0 M0 m ml s w ρ) {t : TypeId} {x : Operand} {i : Nat} {fs : Array Field} {f : Field} {z : Nat} (hu : C.P.underlying t = some (.struct fs)) (hf : fs.toList[i]? = some f) (hz : tsize C.P f.type = some (z + 1)) :
    (∀ b off, opnd s x = some (.l b off) → (Instr.fieldAt t (ρ x) i).run C.P w = .ok (.pointer (some ⟨ml b, off + f.offset, none⟩)) w) ∧
    (∀ a, opnd s x = some (.v (.pointer (some a))) → ∃ c, AR m s.mem (plus a f.offset) c ∧ (Instr.fieldAt t (ρ x) i).run C.P w = .ok (.pointer (some c)) w) := by
  have hf' : fs[i]? = some f := by rw [← Array.getElem?_toList]; exact hf
  have run : ∀ c, ρ x = .pointer (some c) → (Instr.fieldAt t (ρ x) i).run C.P w = .ok (.pointer (some (c.add f.offset))) w := fun c hc => by
    rw [hc]
    simp [Instr.fieldAt, run_underlying hu, hf', Instr.sureAddr, fieldPlace, run_tsize hz]
  refine ⟨fun b off hx => ?_, fun a hx => ?_⟩
  · have hr := hs.rho x _ hx
    simp only [ER] at hr
    rw [run _ hr]
    have : (⟨ml b, off, none⟩ : Addr).add f.offset = ⟨ml b, off + f.offset, none⟩ := by unfold Addr.add; split <;> simp_all
    rw [this]
  · have hr := hs.rho x _ hx
    obtain ⟨c, hc, ha⟩ := VR.ptr_inv hr
    exact ⟨_, ha.plus _, run c hc⟩
theorem run_asInt (P : Program) (k : IntKind) (n : Int) (w : World) : (asIntOf (.int k n)).run P w = .ok (k, n) w := rfl
theorem index_sound (hs : Setup C B lo w0 m0 M0 m ml s w ρ) {t : TypeId} {x i : Operand} {k : IntKind} {n : Int} (hi : val s i = some (.int k n)) (h : indexAddrA C t (opnd s x) n (fun e => some (e, s)) = some (e, s')) :
    s' = s ∧ ∃ cv, (Instr.indexAt t (ρ x) (ρ i)).run C.P w = .ok cv w ∧ ER m s.mem ml e cv := by
  have hin := (hs.val hi).int_inv
  unfold indexAddrA at h
  split at h
  · rename_i len el b off hu hx
    split at h
    · rename_i z hz
      rw [pb_eq] at h
      split at h
      · rename_i hb
        injection h with h; injection h with e1 e2; subst e1; subst e2
        have hr := hs.rho x _ hx
        simp only [ER] at hr
        refine ⟨rfl, _, ?_, rfl⟩
        rw [hin, hr]
        have hb' : (0 : Int) ≤ n ∧ n < (len : Int) := hb
        have : (⟨ml b, off, none⟩ : Addr).add (n.toNat * z) = ⟨ml b, off + mulN n.toNat z, none⟩ := by rw [mulN_eq]; unfold Addr.add; split <;> simp_all
        simp [Instr.indexAt, run_asInt, run_underlying hu, Instr.sureAddr, run_tsize hz, hb', this]
      · cases h
    · cases h
  · rename_i len el a hu hx
    split at h
    · rename_i z hz
      rw [pb_eq] at h
      split at h
      · rename_i hb
        injection h with h; injection h with e1 e2; subst e1; subst e2
        have hr := hs.rho x _ hx
        obtain ⟨c, hc, ha⟩ := VR.ptr_inv hr
        · refine ⟨rfl, _, ?_, VR.ptr _ _ (ha.plus _)⟩
          have hb' : (0 : Int) ≤ n ∧ n < (len : Int) := hb
          rw [hin, hc, mulN_eq]
          simp [Instr.indexAt, run_asInt, run_underlying hu, Instr.sureAddr, run_tsize hz, hb']
      · cases h
    · cases h
  · rename_i el A len cap hu hx
    split at h
    · rename_i z hz
      rw [pb_eq] at h
      split at h
      · rename_i hb
        rw [ob_eq] at h
        cases A with
        | none => cases h
        | some a =>
          injection h with h; injection h with e1 e2; subst e1; subst e2
          have hr := hs.rho x _ hx
          obtain ⟨a', c', hc, hsr⟩ := VR.slc_inv hr
          · have hb' : (0 : Int) ≤ n ∧ n < (len : Int) := hb
            have ha : AR m s.mem a a' := by
              obtain ⟨h1, h2, k', hk', h3⟩ := hsr
              refine ⟨k', hk', ?_⟩
              cases hkind : k'.kind <;> rw [hkind] at h3 <;> cases hsp : a.spot <;> simp only [hsp] at h3 ⊢
              · exact h3.2
              · exact h3.2
              · omega
              · exact ⟨h3.1, fun hv => (h3.2.2.2 hv).1 (.inl (by omega))⟩
            refine ⟨rfl, _, ?_, VR.ptr _ _ (ha.plus _)⟩
            rw [hin, hc, mulN_eq]
            simp [Instr.indexAt, run_asInt, run_underlying hu, Instr.sureAddr, run_tsize hz, hb']
      · cases h
    · cases h
  · cases h
theorem slAddr_sound {M : Mem} {m : Mp} {z : Nat} {a : Addr} {n c : Nat} {a' : Addr} {c' : Nat} (h : SR m M a n c a' c') {l h' : Nat} (hl : l ≤ h') (hh : h' ≤ c) :
    ∃ a2, slAddr z (some a) l c = some a2 ∧ SR m M a2 (h' - l) (c - l) (if c' = l then a' else a'.add (l * z)) (c' - l) := by
  obtain ⟨h1, h2, k, hk, h3⟩ := h
  by_cases hcl : c = l
  · refine ⟨a, by simp [slAddr, hcl], by omega, ?_⟩
    have hn : h' - l = 0 := by omega
    rw [hn]
    cases hkind : k.kind <;> rw [hkind] at h3 <;> cases hsp : a.spot <;> simp only [hsp] at h3
    · obtain ⟨rfl, h4⟩ := h3
      refine ⟨by omega, k, hk, ?_⟩
      simp only [hkind, hsp, if_pos hcl]
      exact ⟨trivial, h4⟩
    · obtain ⟨rfl, h4⟩ := h3
      refine ⟨by omega, k, hk, ?_⟩
      simp only [hkind, hsp, if_pos hcl]
      exact ⟨trivial, h4⟩
    · obtain ⟨r1, r2, r3⟩ := h3
      refine ⟨by omega, k, hk, ?_⟩
      simp only [hkind, hsp]
      exact ⟨trivial, by omega, by omega⟩
    · rename_i z' ver
      obtain ⟨r1, r2, r3, r4⟩ := h3
      refine ⟨by omega, k, hk, ?_⟩
      simp only [hkind, hsp]
      refine ⟨r1, by omega, fun hv => ⟨(r3 hv).1, by omega⟩, fun hv => ⟨fun hc => ?_, ?_⟩⟩
      · have hver : ver = 0 := by omega
        have hc00 := (r3 hver).2
        have hl0 : l = 0 := by omega
        subst hl0
        have := (r4 hv).1 (.inr hver)
        rw [this]
        split <;> simp [add_zero]
      · exact Nat.le_trans (Nat.mul_le_mul_right _ (Nat.sub_le _ _)) (r4 hv).2
  · refine ⟨plus a (mulN l z), by simp [slAddr, hcl], by omega, ?_⟩
    rw [plus_eq, mulN_eq]
    cases hkind : k.kind <;> rw [hkind] at h3 <;> cases hsp : a.spot <;> simp only [hsp] at h3
    · obtain ⟨rfl, h4⟩ := h3
      refine ⟨by omega, k, hk, ?_⟩
      simp only [hkind, if_neg hcl]
      exact ⟨trivial, by rw [h4, add_add]⟩
    · obtain ⟨rfl, h4⟩ := h3
      refine ⟨by omega, k, hk, ?_⟩
      simp only [hkind, if_neg hcl]
      exact ⟨trivial, by rw [h4, add_add]⟩
    · obtain ⟨r1, r2, r3⟩ := h3
      omega
    · rename_i z' ver
      obtain ⟨r1, r2, r3, r4⟩ := h3
      refine ⟨by omega, k, hk, ?_⟩
      simp only [hkind]
      refine ⟨r1, by omega, fun hv => by have := (r3 hv).2; omega, fun hv => ⟨fun hc => ?_, ?_⟩⟩
      · have h5 := (r4 hv).1 (.inl (by omega))
        rw [if_neg (by omega), h5, add_add]
      · exact Nat.le_trans (Nat.mul_le_mul_right _ (Nat.sub_le _ _)) (r4 hv).2
theorem slAddr3_sound {M : Mem} {m : Mp} {z : Nat} {a : Addr} {n c : Nat} {a' : Addr} {c' : Nat} (h : SR m M a n c a' c') {l h' mx : Nat} (hl : l ≤ h') (hh : h' ≤ mx) (hm : mx ≤ c) :
    mx ≤ c' ∧ ∃ a2, slAddr3 z (some a) l mx = some a2 ∧ SR m M a2 (h' - l) (mx - l) (if mx = l then a' else a'.add (l * z)) (mx - l) := by
  obtain ⟨h1, h2, k, hk, h3⟩ := h
  have hcc : c ≤ c' := by
    cases hkind : k.kind <;> rw [hkind] at h3 <;> cases hsp : a.spot <;> simp only [hsp] at h3 <;> omega
  refine ⟨by omega, ?_⟩
  by_cases hcl : mx = l
  · refine ⟨⟨a.block, a.off, none⟩, by simp [slAddr3, hcl], by omega, by omega, k, hk, ?_⟩
    have hn : h' - l = 0 := by omega
    rw [hn]
    cases hkind : k.kind <;> rw [hkind] at h3 <;> cases hsp : a.spot <;> simp only [hsp] at h3 <;> simp only [hkind, if_pos hcl]
    · exact ⟨trivial, h3.2⟩
    · exact ⟨trivial, h3.2⟩
    · exact ⟨trivial, by omega, by omega⟩
    · exact ⟨trivial, by omega, by omega⟩
  · refine ⟨plus a (mulN l z), by simp [slAddr3, hcl], by omega, by omega, ?_⟩
    rw [plus_eq, mulN_eq]
    refine ⟨k, hk, ?_⟩
    cases hkind : k.kind <;> rw [hkind] at h3 <;> cases hsp : a.spot <;> simp only [hsp] at h3 <;> simp only [hkind, if_neg hcl]
    · exact ⟨trivial, by rw [h3.2, add_add]⟩
    · exact ⟨trivial, by rw [h3.2, add_add]⟩
    · exact absurd h3.2.1 (by omega)
    · rename_i z' ver
      obtain ⟨r1, r2, r3, r4⟩ := h3
      refine ⟨r1, Nat.le_refl _, fun hv => by have := (r3 hv).2; omega, fun hv => ⟨fun hc => ?_, ?_⟩⟩
      · rw [(r4 hv).1 (.inl (by omega)), add_add]
      · exact Nat.le_trans (Nat.mul_le_mul_right _ (by omega)) (r4 hv).2
end
end Go.Zt
