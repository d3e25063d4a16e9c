/- What the law PoolNames needs of the text Ab13. -/
import Derived.Test.YtjmahpemdghncaaPAb12
set_option linter.unusedVariables false
set_option linter.unusedSimpArgs false
namespace Go.Zt
open Go.RowKit
section
variable {C : Ctx} {B lo : Nat} {w0 : World} {m0 : Mp} {M0 : Mem} {m : Mp} {ml : Nat → Nat} {s s' : St} {w : World} {ρ : Operand → Value} {e : EV}
def Good (B lo : Nat) (w0 : World) (m0 : Mp) (M0 : Mem) (ml : Nat → Nat) (m : Mp) (s : St) (e : EV) (s' : St) (cv : Value) (w' : World) : Prop := ∃ m' ml', OpPost B lo w0 m0 M0 m ml s e s' cv w' m' ml'
theorem OpWp.congr {P : Program} {a b : Sem Next} {w : World} {K : Value → World → Prop} (h : a.run P w = b.run P w) (hb : OpWp P b w K) : OpWp P a w K := by unfold OpWp at *; rw [h]; exact hb
theorem OpWp.val {P : Program} {a : Sem Next} {w w' : World} {K : Value → World → Prop} {v : Value} (h : a.run P w = .ok (.value v) w') (hK : K v w') : OpWp P a w K := by unfold OpWp; rw [h]; exact hK
theorem OpWp.of {P : Program} {s : Sem Value} {w w' : World} {K : Value → World → Prop} {v : Value} (h : s.run P w = .ok v w') (hK : K v w') : OpWp P (s >>= fun v => pure (Next.value v)) w K := OpWp.val (by rw [Sem.run_bind, h]; rfl) hK
theorem Good.pure (hs : Setup C B lo w0 m0 M0 m ml s w ρ) {e : EV} {cv : Value} (er : ER m s.mem ml e cv) : Good B lo w0 m0 M0 ml m s e s cv w := ⟨m, ml, hs.pure er⟩
theorem Good.run (hs : Setup C B lo w0 m0 M0 m ml s w ρ) {v : Value} {sm : Sem Value} (h : PureRun C.P m s.mem sm w v) : OpWp C.P (sm >>= fun v => Pure.pure (Next.value v)) w (Good B lo w0 m0 M0 ml m s (.v v) s) := by
  obtain ⟨cv, n, h1, h2⟩ := h
  exact OpWp.of h1 ⟨m, ml, hs.mi.drawn n, h2, Ext.refl _ _ _, rfl, fun _ _ => rfl⟩
theorem call_sound (hs : Setup C B lo w0 m0 M0 m ml s w ρ) {t : TypeId} {f : FuncId} {args : List Value} {cargs : List Value} (hl : LR m s.mem args cargs) {l : Nat} (hl1 : (lo ≤ l ∨ s.mem.length ≤ l) ∧ l ≤ s.mem.length) (h : callA C l t f args s (fun e s' => some (e, s')) = some (e, s')) :
    OpWp C.P (callFunc f ⟨cargs⟩) w (Good B lo w0 m0 M0 ml m s e s') := by
  unfold callA at h
  rw [ob_eq] at h
  cases hc : C.call (l) f args s.mem with
  | none => rw [hc] at h; cases h
  | some r =>
    rw [hc] at h
    have h := getRes_inv h
    injection h with h; injection h with e1 e2; subst e1; subst e2
    obtain ⟨h1, h2⟩ := hs.call (l) f args s.mem r.1 r.2 hc hl1.2 B m w cargs hs.mi.rel (Nat.le_trans hs.mi.hB hs.mi.fr.size) hl
    unfold OpWp
    rw [h1]
    refine Calls.mono h2 fun e' w' hp => ?_
    obtain ⟨m', cr, e1, e2, e3, e4, e5, e6⟩ := hp
    refine ⟨cr, e1, m', ml, hs.mi.called hl1.1 hl1.2 e3 e4 e5 e6, e2, ?_, rfl, fun _ _ => rfl⟩
    exact e4.floor hl1.1
theorem builtin_wp {P : Program} {dst : Option Tmp} {b : Builtin} {xs : Array Operand} {ats : Array TypeId} {ty : TypeId} {pos after guard} {K : Value → World → Prop} (h : OpWp P (builtin b ats ty (xs.map fun | .const _ => true | _ => false) (xs.map ρ)) w K) :
    OpWp P (execOp ρ { dst, op := .call { callee := .builtin b, args := xs, argTypes := ats }, type := ty, pos, after, guard }) w K := h
theorem arr1 {α : Type} {xs : Array α} {x : α} (h : xs.toList = [x]) : xs = #[x] := by
  apply Array.ext'; simpa using h
theorem arr2 {α : Type} {xs : Array α} {x y : α} (h : xs.toList = [x, y]) : xs = #[x, y] := by
  apply Array.ext'; simpa using h
theorem builtinA_sound (hs : Setup C B lo w0 m0 M0 m ml s w ρ) {b : Builtin} {ats : Array TypeId} {ty : TypeId} {cs : Array Bool} {xs : Array Operand} (h : builtinA C b ats.toList xs.toList s (fun e s' => some (e, s')) = some (e, s')) :
    OpWp C.P (builtin b ats ty cs (xs.map ρ)) w (Good B lo w0 m0 M0 ml m s e s') := by
  unfold builtinA at h
  split at h
  · split at h
    · rename_i x hx
      rw [arr1 hx]
      obtain ⟨v, h1, h2⟩ := len_sound (ty := ty) hs h
      injection h1 with h1; injection h1 with e1 e2; subst e1; subst e2
      exact Good.run hs (by simpa using h2)
    · cases h
  · split at h
    · rename_i k x r hv
      have hl := hs.vals hv
      obtain ⟨c, cl, hcl, hx, hr⟩ := hl.inv_cons
      rw [hx.int_inv] at hcl
      obtain ⟨y, h1, h2⟩ := max_sound (P := C.P) hr h w
      injection h1 with h1; injection h1 with e1 e2; subst e1; subst e2
      refine Good.run hs (PureRun.of ?_ (.int _ _))
      simp only [Builtin.max_, Array.toList_map, hcl]
      exact h2
    · cases h
  · split at h
    · rename_i k x r hv
      have hl := hs.vals hv
      obtain ⟨c, cl, hcl, hx, hr⟩ := hl.inv_cons
      rw [hx.int_inv] at hcl
      obtain ⟨y, h1, h2⟩ := min_sound (P := C.P) hr h w
      injection h1 with h1; injection h1 with e1 e2; subst e1; subst e2
      refine Good.run hs (PureRun.of ?_ (.int _ _))
      simp only [Builtin.min_, Array.toList_map, hcl]
      exact h2
    · cases h
  · split at h
    · rename_i x y hx
      rw [arr2 hx]
      obtain ⟨cv, w', m', ml', h1, h2⟩ := append_sound (ty := ty) hs h
      exact OpWp.of (by simpa using h1) ⟨m', ml', h2⟩
    · cases h
  · split at h
    · rename_i x y hx
      rw [arr2 hx]
      obtain ⟨cv, w', h1, h2⟩ := copy_sound (ty := ty) hs h
      exact OpWp.of (by simpa using h1) ⟨m, ml, h2⟩
    · cases h
  · split at h
    · rename_i x hx
      rw [arr1 hx]
      obtain ⟨cv, w', h1, h2⟩ := clear_sound (ty := ty) hs h
      exact OpWp.of (by simpa using h1) ⟨m, ml, h2⟩
    · cases h
  · cases h
theorem slice_sound (hs : Setup C B lo w0 m0 M0 m ml s w ρ) {t : TypeId} {x : Operand} {l h mx : Option Operand} (hh : sliceA C t (opnd s x) (bound? s l) (bound? s h) (bound? s mx) (fun e => some (e, s)) = some (e, s')) :
    OpWp C.P (Instr.sliceAt t (ρ x) (l.map ρ) (h.map ρ) (mx.map ρ) >>= fun v => pure (Next.value v)) w (Good B lo w0 m0 M0 ml m s e s') := by
  unfold sliceA at hh
  split at hh
  case h_2 => cases hh
  rename_i l' h' m' e1 e2 e3
  have b1 := bound_sound hs e1
  have b2 := bound_sound hs e2
  have b3 := bound_sound hs e3
  split at hh
  · rename_i el A n c hu hx
    split at hh
    · rename_i z hz
      obtain ⟨v, cv, k1, k2, k3⟩ := sliceS_sound hu hz (hs.rho x _ hx) b1 b2 b3 hh w
      injection k1 with k1; injection k1 with d1 d2; subst d1; subst d2
      refine OpWp.of (v := cv) (w' := w) ?_ (Good.pure hs k2)
      simp only [Instr.sliceAt, Sem.run_bind, run_underlying hu, Result.andThen_ok]
      exact k3
    · cases hh
  · rename_i n el a hu hx
    split at hh
    · rename_i z hz
      rw [pb_eq] at hh
      split at hh
      · rename_i hsp
        obtain ⟨c, hc, har⟩ := (show VR m s.mem (.pointer (some a)) (ρ x) from hs.rho x _ hx).ptr_inv
        obtain ⟨v, cv, k1, k2, k3⟩ := sliceArr_sound hu hz har hsp b1 b2 b3 hh w
        injection k1 with k1; injection k1 with d1 d2; subst d1; subst d2
        rw [hc]
        exact OpWp.of (v := cv) (w' := w) k3 (Good.pure hs k2)
      · cases hh
    · cases hh
  · cases hh
theorem aop_sound (hs : Setup C B lo w0 m0 M0 m ml s w ρ) (hc : ∀ v, ρ (.const v) = v) {o : Oper} (h : aopD C o s = some (e, s')) : OpWp C.P (execOp ρ o) w (Good B lo w0 m0 M0 ml m s e s') := by
  obtain ⟨dst, op, type, pos, after, guard⟩ := o
  unfold aopD at h
  cases op <;> simp only [aop] at h <;> try (cases h; done)
  case move x =>
    split at h
    · rename_i ev hx
      injection h with h; injection h with e1 e2; subst e1; subst e2
      exact OpWp.val (w' := w) rfl (Good.pure hs (hs.rho x _ hx))
    · cases h
  case assign x =>
    split at h
    · rename_i ev hx
      injection h with h; injection h with e1 e2; subst e1; subst e2
      exact OpWp.val (w' := w) rfl (Good.pure hs (hs.rho x _ hx))
    · cases h
  case pick c x y =>
    split at h
    · rename_i b hb
      obtain ⟨ev, h1, h2⟩ := pick_sound hs h
      injection h1 with h1; injection h1 with e1 e2; subst e1; subst e2
      refine OpWp.val (w' := w) (v := if b = true then ρ x else ρ y) ?_ (Good.pure hs h2)
      have := (hs.val hb).bool_inv
      simp only [execOp, this, Sem.run_bind, asBool, Sem.run_pure, Result.andThen_ok]
    · cases h
  case alloc t =>
    split at h
    · rename_i cs hz
      obtain ⟨z0, h1, h2, h3, h4⟩ := zero_cells hz w
      obtain ⟨m', ml', hp⟩ := alloc_sound hs h z0.cells t (by rw [h2]; exact LR.plain h3) (allPlain_one h3)
      refine OpWp.of (s := Instr.alloc t true (.tuple #[])) ?_ ⟨m', ml', hp⟩
      simp [Instr.alloc, h1, newVar, newRow]
    · cases h
  case box t x =>
    split at h
    · rename_i v hv
      split at h
      · rename_i h1
        obtain ⟨m', ml', hp⟩ := alloc_sound hs h (ρ x).cells t (hs.val hv).cells (allOne_iff.1 h1)
        refine OpWp.of (s := Instr.box t (ρ x)) ?_ ⟨m', ml', hp⟩
        simp [Instr.box, newVar, newRow]
      · cases h
    · cases h
  case build t ps =>
    split at h
    · rename_i fs z l hu hz hl
      split at h
      · rename_i pl hp
        split at h
        · rename_i cs hcs
          injection h with h; injection h with e1 e2; subst e1; subst e2
          obtain ⟨cv, h1, h2⟩ := buildStruct_sound hs hu hz hl hp hcs
          exact OpWp.of h1 (Good.pure hs h2)
        · cases h
      · cases h
    · rename_i k el z l hu hz hl
      split at h
      · rename_i n hn
        split at h
        · rename_i cs hcs
          injection h with h; injection h with e1 e2; subst e1; subst e2
          obtain ⟨cv, h1, h2⟩ := buildArr_sound hs hu hz hl hn hcs
          exact OpWp.of h1 (Good.pure hs h2)
        · cases h
      · cases h
    · cases h
  case buildSlice t len ps =>
    split at h
    · rename_i el l hu hl
      split at h
      · rename_i z n hz hn
        split at h
        · rename_i cs hle hcs
          split at h
          · rename_i t' h1
            obtain ⟨arr, g1, g2⟩ := rowLit_sound hs hu hz hl hn (Nat.le_of_ble_eq_true hle) hcs
            split at h
            · split at h
              · rename_i hn hr
                injection h with h; injection h with e1 e2; subst e1; subst e2
                refine OpWp.of g1 ⟨m, fun u => if u = t' then w.heap.size else ml u, hs.mi.pushL t' hn cs arr.toList el g2 (allOne_iff.1 h1), by simp [ER], Ext.refl _ _ _, rfl, fun u hu => ?_⟩
                have : u ≠ t' := by
                  rintro rfl
                  rcases hu with hu | hu
                  · exact hu hn
                  · rw [hr] at hu; cases hu
                simp [this]
              · cases h
            · split at h
              case h_2 =>
                rename_i i _
                split at h
                case h_2 => cases h
                rename_i hbl
                rw [ob_eq] at h
                obtain ⟨q, hq, h⟩ := Option.bind_eq_some_iff.1 h
                injection h with h; injection h with e1 e2; subst e1; subst e2
                obtain ⟨m', hp, _⟩ := free_sound hs (n := len) hq (Nat.eq_of_beq_eq_true hbl) arr el g2 (allOne_iff.1 h1)
                exact OpWp.of g1 ⟨m', ml, hp⟩
              injection h with h; injection h with e1 e2; subst e1; subst e2
              have hmi := hs.mi.push ⟨.fx, cs⟩ (by simp) arr.toList el (by rw [g2.1, List.take_length]; exact g2) (by simp [g2.1]) (fun _ => by simp [g2.1]) (fun z hz => by cases hz) (allOne_iff.1 h1)
              refine OpWp.of g1 ⟨_, ml, hmi, ?_, ext_push lo m s.mem _ _ _, rfl, fun _ _ => rfl⟩
              refine VR.slc _ _ _ _ _ ⟨Nat.le_refl _, Nat.le_refl _, ⟨.fx, cs⟩, by simp, ?_⟩
              simp [Mp.put, add_new]
          · cases h
        · cases h
      · cases h
    · cases h
  case load t x =>
    obtain ⟨cv, h1, h2⟩ := load_sound hs h
    exact OpWp.of h1 ⟨m, ml, h2⟩
  case store t x y =>
    split at h
    · rename_i v hv
      obtain ⟨w', h1, h2, h3⟩ := store_sound hs hv h
      subst h2
      unfold OpWp
      have : (execOp ρ { dst, op := .store t x y, type, pos, after, guard }).run C.P w = .ok .skip w' := by
        simp only [execOp, Sem.run_bind, h1, Result.andThen_ok, Sem.run_pure]
      rw [this]
      exact ⟨m, ml, h3⟩
    · cases h
  case nilCheck x =>
    split at h
    · rename_i a hx
      injection h with h; injection h with e1 e2; subst e1; subst e2
      obtain ⟨c, hcx, ha⟩ := VR.ptr_inv (hs.val hx)
      refine OpWp.val (w' := w) (v := .pointer (some c)) ?_ (Good.pure hs (VR.ptr _ _ ha))
      simp only [execOp, hcx]
      rfl
    · cases h
  case binOp op t x y ae =>
    split at h
    · rename_i a b ha hb
      obtain ⟨v, h1, h2⟩ := binOpA_sound (hs.val ha) (hs.val hb) h x y w
      injection h1 with h1; injection h1 with e1 e2; subst e1; subst e2
      exact Good.run hs h2
    · cases h
  case unOp op t x =>
    split at h
    · rename_i a ha
      obtain ⟨v, h1, h2⟩ := unOpA_sound (P := C.P) (hs.val ha) h w
      injection h1 with h1; injection h1 with e1 e2; subst e1; subst e2
      exact Good.run hs h2
    · cases h
  case convert t u x =>
    split at h
    · rename_i a ha
      obtain ⟨v, h1, h2⟩ := convA_sound (P := C.P) (hs.val ha) h w
      injection h1 with h1; injection h1 with e1 e2; subst e1; subst e2
      exact Good.run hs h2
    · cases h
  case makeFunc fn first captured =>
    split at h
    · rename_i l r hl hr
      injection h with h; injection h with e1 e2; subst e1; subst e2
      have h1 := hs.vals hl
      have h2 := hs.vals hr
      refine OpWp.val (w' := w) (v := .func fn (first.map ρ) (captured.map ρ)) rfl (Good.pure hs ?_)
      refine VR.func _ _ _ _ _ (by simpa using h1.1) (by simpa using h2.1) (fun i x y hx hy => h1.2 i x y (by simpa using hx) (by simpa using hy)) (fun i x y hx hy => h2.2 i x y (by simpa using hx) (by simpa using hy))
    · cases h
  case makeSlice t l c =>
    obtain ⟨cv, w', m', h1, h2⟩ := make_sound hs hc h
    exact OpWp.of h1 ⟨m', ml, h2⟩
  case slice t x l hi mx => exact slice_sound hs h
  case fieldAddr t x i =>
    split at h
    · rename_i fs hu
      split at h
      · rename_i f hf
        split at h
        · rename_i z hz
          obtain ⟨f1, f2⟩ := field_sound hs (x := x) hu hf hz
          split at h
          · rename_i b off hx
            injection h with h; injection h with e1 e2; subst e1; subst e2
            exact OpWp.of (f1 b off hx) (Good.pure hs rfl)
          · rename_i a hx
            injection h with h; injection h with e1 e2; subst e1; subst e2
            obtain ⟨c, g1, g2⟩ := f2 a hx
            exact OpWp.of g2 (Good.pure hs (VR.ptr _ _ g1))
          · cases h
        · cases h
      · cases h
    · cases h
  case field t x i =>
    split at h
    · rename_i fs cs hu hx
      split at h
      · rename_i f hf
        obtain ⟨ds, hd, hl⟩ := (hs.val hx).agg_inv
        obtain ⟨v, cv, k1, k2, k3⟩ := run_part (P := C.P) (w := w) hl h
        injection k1 with k1; injection k1 with e1 e2; subst e1; subst e2
        have hf' : fs[i]? = some f := by rw [← Array.getElem?_toList]; exact hf
        refine OpWp.of (s := Instr.field t (ρ x) i) (v := cv) (w' := w) ?_ (Good.pure hs k2)
        simp only [Instr.field, Sem.run_bind, run_underlying hu, Result.andThen_ok, hf', hd, asAgg, Sem.run_pure]
        exact k3
      · cases h
    · cases h
  case indexAddr t x i =>
    split at h
    · rename_i k n hi
      obtain ⟨rfl, cv, h1, h2⟩ := index_sound hs hi h
      exact OpWp.of h1 (Good.pure hs h2)
    · cases h
  case index t x i =>
    split at h
    · rename_i n el cs k j hu hx hi
      split at h
      · rename_i z hz
        rw [pb_eq] at h
        split at h
        · rename_i hb
          obtain ⟨ds, hd, hl⟩ := (hs.val hx).agg_inv
          obtain ⟨v, cv, k1, k2, k3⟩ := run_part (P := C.P) (w := w) hl h
          injection k1 with k1; injection k1 with e1 e2; subst e1; subst e2
          refine OpWp.of (s := Instr.index t (ρ x) (ρ i)) (v := cv) (w' := w) ?_ (Good.pure hs k2)
          rw [mulN_eq] at k3
          simp only [Instr.index, (hs.val hi).int_inv, Sem.run_bind, run_asInt, run_underlying hu, Result.andThen_ok, hd, if_pos hb, run_tsize hz]
          exact k3
        · cases h
      · cases h
    · rename_i b k j hu hx hi
      rw [pb_eq] at h
      split at h
      · rename_i hb
        injection h with h; injection h with e1 e2; subst e1; subst e2
        have hxs : ρ x = .string b := (hs.val hx).str_inv
        refine OpWp.of (s := Instr.index t (ρ x) (ρ i)) (v := .int .u8 (strAt b j.toNat)) (w' := w) ?_ (Good.pure hs (.int _ _))
        have hlt : j.toNat < b.data.toList.length := by
          have : b.size = b.data.toList.length := rfl
          omega
        have hg : b[j.toNat]? = some (b.data.toList.getD j.toNat 0) := by
          have h1 : j.toNat < b.size := hlt
          rw [getElem?_pos b j.toNat h1]
          congr 1
          rw [List.getD_eq_getElem?_getD, List.getElem?_eq_getElem hlt]
          rfl
        simp only [Instr.index, (hs.val hi).int_inv, hxs, Sem.run_bind, run_asInt, run_underlying hu, Result.andThen_ok, if_pos hb.1, hg, Sem.run_pure]
        rfl
      · cases h
    · cases h
  case extract x i =>
    split at h
    · rename_i vs hx
      split at h
      · rename_i v hv
        injection h with h; injection h with e1 e2; subst e1; subst e2
        obtain ⟨ys, hy, hl⟩ := (hs.val hx).tuple_inv
        obtain ⟨c, g1, g2⟩ := hl.get hv
        refine OpWp.of (s := Instr.extract (ρ x) i) (v := c) (w' := w) ?_ (Good.pure hs g2)
        have : ys[i]? = some c := by rw [← Array.getElem?_toList]; exact g1
        rw [hy]
        simp [Instr.extract, this]
      · cases h
    · cases h
  case call c =>
    obtain ⟨callee, xs, ats⟩ := c
    simp only at h
    split at h
    · exact builtin_wp (builtinA_sound hs h)
    · rename_i f
      split at h
      · rename_i v args hv ha
        rw [ob_eq] at h
        have hvr := hs.val hv
        cases v <;> simp only [Value.fun?, Option.bind_none] at h <;> try (cases h; done)
        rename_i fn first captured
        cases fn <;> simp only [Value.fun?, Option.bind_none] at h <;> try (cases h; done)
        rename_i g
        simp only [Option.bind_some] at h
        cases hvr' : ρ f with
        | func fn' f' c' =>
          rw [hvr'] at hvr
          cases hvr with
          | func _ _ _ _ _ q1 q2 q3 q4 =>
            have hl1 : LR m s.mem first.toList f'.toList := ⟨by simpa using q1, fun i x y hx hy => q3 i x y (by simpa using hx) (by simpa using hy)⟩
            have hl2 : LR m s.mem captured.toList c'.toList := ⟨by simpa using q2, fun i x y hx hy => q4 i x y (by simpa using hx) (by simpa using hy)⟩
            have hl := (hl1.append (hs.vals ha)).append hl2
            have hcl : ∀ f : Operand, (lo ≤ callLo C f s ∨ s.mem.length ≤ callLo C f s) ∧ callLo C f s ≤ s.mem.length := fun f => by
              have h1 := hs.top
              have h2 := hs.flo
              unfold callLo
              split
              · split <;> omega
              · omega
            have := call_sound hs hl (hcl _) h
            refine OpWp.congr ?_ this
            have he : (⟨f'.toList ++ List.map ρ xs.toList ++ c'.toList⟩ : Array Value) = f' ++ xs.map ρ ++ c' := by apply Array.ext'; simp
            rw [he]
            simp only [execOp, resolve, hvr', Deferred.ofValue, Sem.run_bind, Sem.run_pure, Result.andThen_ok, invoke]
        | _ => rw [hvr'] at hvr; cases hvr
      · cases h
    · cases h
end
end Go.Zt
