/- What the law PoolNames needs of the text Ab8. -/
import Derived.Test.YtjmahpemdghncaaPAb7
set_option linter.unusedVariables false
set_option linter.unusedSimpArgs false
namespace Go.Zt
open Go.RowKit
section
variable {C : Ctx} {B lo : Nat} {w0 : World} {m0 : Mp} {M0 : Mem} {m : Mp} {ml : Nat → Nat} {s s' : St} {w : World} {ρ : Operand → Value} {e : EV}
theorem zerosL_length (zs : List Value) (n : Nat) : (zerosL zs n).length = n * zs.length := by
  induction n with
  | zero => simp [zerosL]
  | succ n ih => simp only [zerosL, List.replicate_succ, List.flatten_cons, List.length_append] at *; rw [ih, Nat.succ_mul]; omega
theorem zerosL_get (zs : List Value) (n i : Nat) (h : i < n * zs.length) : (zerosL zs n)[i]? = zs[i % zs.length]? := by
  induction n generalizing i with
  | zero => simp at h
  | succ n ih =>
    have : zerosL zs (n + 1) = zs ++ zerosL zs n := by simp [zerosL, List.replicate_succ]
    rw [this, List.getElem?_append]
    split
    · rename_i hi; rw [Nat.mod_eq_of_lt hi]
    · rename_i hi
      rw [ih _ (by rw [Nat.succ_mul] at h; omega)]
      congr 1
      rw [Nat.mod_eq_sub_mod (by omega : i ≥ zs.length)]
theorem zeroArr (za : Array Value) (n : Nat) (hz : 0 < za.size) : ((Array.range (n * za.size)).map (za[· % za.size]!)).toList = zerosL za.toList n := by
  apply List.ext_getElem?
  intro i
  by_cases hi : i < n * za.size
  · rw [zerosL_get _ _ _ (by simpa using hi)]
    have hm : i % za.size < za.size := Nat.mod_lt _ hz
    simp [hi, hm]
  · rw [List.getElem?_eq_none (by simpa using hi), List.getElem?_eq_none (by rw [zerosL_length]; simpa using hi)]
theorem zeroCells_list (za : Array Value) (n : Nat) : (Builtin.zeroCells za n).toList = zerosL za.toList n := by
  rcases Nat.eq_zero_or_pos za.size with h0 | h0
  · have : za = #[] := Array.size_eq_zero_iff.1 h0
    subst this
    have e1 : (Builtin.zeroCells #[] n).toList = [] := List.eq_nil_of_length_eq_zero (by rw [Array.length_toList, size_zeroCells]; simp)
    have e2 : zerosL (#[] : Array Value).toList n = [] := List.eq_nil_of_length_eq_zero (by rw [zerosL_length]; simp)
    rw [e1, e2]
  · exact zeroArr za n h0
theorem mem_zerosL {zs : List Value} {n : Nat} {v : Value} (h : v ∈ zerosL zs n) : v ∈ zs := by
  unfold zerosL at h
  obtain ⟨l, hl, hv⟩ := List.mem_flatten.1 h
  rw [List.mem_replicate] at hl
  rw [← hl.2]; exact hv
theorem setL_append (arr news : List Value) (off : Nat) (h : off + news.length ≤ arr.length) : (setL arr off news).take (off + news.length) = arr.take off ++ news := by
  induction news generalizing arr off with
  | nil => simp [setL]
  | cons v r ih =>
    simp only [setL, List.length_cons] at *
    rw [show off + (r.length + 1) = off + 1 + r.length by omega, ih _ _ (by simp; omega)]
    rw [List.take_set, List.take_succ_eq_append_getElem (by omega), List.set_append, if_neg (by simp; omega)]
    simp
    rw [Nat.min_eq_left (by omega)]
    simp
theorem lds_one {M : Mem} {w : World} (h : Rel B m M w) {a : Addr} {n : Nat} {vs : List Value} (hv : M.lds a n = some vs) : ∀ v ∈ vs, v.oneCell' = true := by
  intro v hv'
  unfold Mem.lds at hv
  split at hv
  · rename_i z cs hk
    split at hv
    · injection hv with hv; subst hv
      exact h.one _ _ hk v (List.mem_of_mem_drop (List.mem_of_mem_take hv'))
    · cases hv
  · rename_i kd cs _ hk
    split at hv
    · injection hv with hv; subst hv
      exact h.one _ _ hk v (List.mem_of_mem_drop (List.mem_of_mem_take hv'))
    · cases hv
  · cases hv
theorem SR.ar {M : Mem} {m : Mp} {a : Addr} {n c : Nat} {a' : Addr} {c' : Nat} (h : SR m M a n c a' c') (hc : 0 < c) : AR m M a a' := by
  obtain ⟨h1, h2, k', hk', h3⟩ := h
  refine ⟨k', hk', ?_⟩
  cases hkind : k'.kind <;> rw [hkind] at h3 <;> cases hsp : a.spot <;> simp only [hsp] at h3 ⊢
  · exact h3.2
  · exact h3.2
  · omega
  · exact ⟨h3.1, fun hv => (h3.2.2.2 hv).1 (.inl hc)⟩
theorem src_sound (hs : Setup C B lo w0 m0 M0 m ml s w ρ) {y : Operand} {n z : Nat} {vs : List Value} {k : Nat} (hk : lenE (opnd s y) = some k) (hn : n ≤ k) (h : srcA C s z n (opnd s y) = some vs) :
    ∃ (A : Option Addr) (c : Nat) (news : List Value), ρ y = .slice A k c ∧ LR m s.mem vs news ∧ news.length = n * z ∧ (∀ v ∈ vs, v.oneCell' = true) ∧ (A = none → n = 0) ∧ (∀ a, A = some a → ∀ j u, news[j]? = some u → w.cell? (a.add j) = some u) := by
  unfold srcA at h
  split at h
  · rename_i t k' hy
    have hr := hs.rho y _ hy
    simp only [ER] at hr
    rw [hy] at hk
    simp only [lenE, Option.some.injEq] at hk
    subst hk
    split at h
    · rename_i cs hcs
      split at h
      · rename_i hb
        injection h with h; subst h
        have hlen := Nat.eq_of_beq_eq_true hb
        rw [mulN_eq] at hlen
        obtain ⟨arr, ho, hl, _⟩ := hs.mi.lrel.box t cs hcs
        refine ⟨_, _, arr.take (n * z), hr, by rw [mulN_eq]; exact hl.take _, ?_, fun v hv => hs.mi.lrel.one t cs hcs v (List.mem_of_mem_take hv), fun h => (by cases h), fun a ha j u hu => ?_⟩
        · rw [List.length_take, ← hl.1, hlen]
          exact Nat.min_eq_left (Nat.mul_le_mul_right _ hn)
        · injection ha with ha; subst ha
          rw [add_new, ho.cell]
          rw [List.getElem?_take] at hu
          split at hu
          · exact hu
          · cases hu
      · cases h
    · cases h
  · rename_i A n' c' hy
    have hr := hs.rho y _ hy
    rw [hy] at hk
    simp only [lenE, Option.some.injEq] at hk
    subst hk
    obtain ⟨A', k2, hρ, q1, q2, hA⟩ := VR.slc_any hr
    rcases hA with ⟨rfl, rfl, rfl, rfl, rfl⟩ | ⟨a, a', rfl, rfl, hsr⟩
    · have h0 : n = 0 := by omega
      subst h0
      simp [Mem.src] at h
      subst h
      exact ⟨none, 0, [], hρ, LR.nil, by simp, (fun v hv => nomatch hv), (fun _ => rfl), (fun a ha => nomatch ha)⟩
    · simp only [Mem.src] at h
      split at h
      · rename_i h0
        subst h0
        injection h with h; subst h
        exact ⟨some a', k2, [], hρ, LR.nil, by simp, (fun v hv => nomatch hv), (fun _ => rfl), (fun a ha j u hu => by simp at hu)⟩
      · rename_i h0
        obtain ⟨cs, e1, e2, e3⟩ := hs.mi.rel.lds (hsr.ar (by have := hsr.1; omega)) h
        exact ⟨some a', k2, cs, hρ, e2, by rw [e1, mulN_eq], lds_one hs.mi.rel h, (fun h => nomatch h), (fun a ha => by injection ha with ha; subst ha; exact e3)⟩
  · cases h
theorem info_inv {P : Program} {t : TypeId} {z b : Nat} {zs : List Value} (h1 : tsize P t = some z) (h2 : tbytes P t = some b) (h3 : zeroL P t = some zs) :
    ∃ i z0, P.info? t = some i ∧ i.zero = some z0 ∧ i.size = z ∧ i.bytes = b ∧ zs = z0.cells.toList ∧ zs.length = z ∧ (∀ v ∈ zs, v.oneCell' = true) ∧ allPlain zs = true := by
  obtain ⟨i, z0, hi, hz, hc, hl, hp⟩ := zeroL_inv h3
  unfold tsize at h1
  unfold tbytes at h2
  rw [hi] at h1 h2
  simp at h1 h2
  exact ⟨i, z0, hi, hz, h1, h2, by rw [hc, cellsL_eq], by omega, allPlain_one hp, hp⟩
theorem grown_post (hs : Setup C B lo w0 m0 M0 m ml s w ρ) {z need ncap : Nat} {el : TypeId} {vs us : List Value} (hz : 0 < z) (hn : 0 < need) (hnc : need ≤ ncap) (hl : LR m s.mem vs us) (hlen : vs.length = need * z) (h1 : ∀ v ∈ vs, v.oneCell' = true) (za : Array Value) (hza : za.size = z) :
    ∃ m', OpPost B lo w0 m0 M0 m ml s (.v (.slice (some ⟨s.mem.length, 0, some vs.length⟩) need need)) { s with mem := s.mem ++ [⟨.op z, vs⟩] } (.slice (some ⟨w.heap.size, 0, none⟩) need ncap)
      (w.drew.alloc (.cells (us.toArray ++ Builtin.zeroCells za (ncap - need)) el)) m' ml := by
  have hmi := (hs.mi.drawn (w.drawn + 1)).push ⟨.op z, vs⟩ (show z ≠ 0 by omega) (us ++ (Builtin.zeroCells za (ncap - need)).toList) el (by simp [hl.1]; exact hl) (by simp [hl.1]) (fun h => by cases h) (fun z' hz' => by cases hz'; exact hz) h1
  have harr : (⟨us ++ (Builtin.zeroCells za (ncap - need)).toList⟩ : Array Value) = us.toArray ++ Builtin.zeroCells za (ncap - need) := by apply Array.ext'; simp
  have hsz : (us ++ (Builtin.zeroCells za (ncap - need)).toList).length = ncap * z := by
    have e0 : (Builtin.zeroCells za (ncap - need)).toList.length = (ncap - need) * z := by rw [Array.length_toList, size_zeroCells, hza]
    rw [List.length_append, e0, ← hl.1, hlen, ← Nat.add_mul]
    congr 1
    omega
  rw [harr] at hmi
  refine ⟨_, ⟨hmi, ?_, ext_push lo m s.mem _ _ _, rfl, fun _ _ => rfl⟩⟩
  refine VR.slc _ _ _ _ _ ⟨Nat.le_refl _, hnc, ⟨.op z, vs⟩, by simp, ?_⟩
  simp only
  refine ⟨Nat.le_refl _, hnc, fun h0 => ?_, fun _ => ⟨fun _ => by simp [Mp.put, add_new], by simp only [Mp.put, if_true]; rw [hsz]; exact Nat.le_refl _⟩⟩
  rw [hlen] at h0
  have := Nat.mul_pos hn hz
  omega
theorem append_sound (hs : Setup C B lo w0 m0 M0 m ml s w ρ) {tys : List TypeId} {ty : TypeId} {x y : Operand} (h : appendA C tys s (opnd s x) (opnd s y) (fun e s' => some (e, s')) = some (e, s')) :
    ∃ cv w' m' ml', (Builtin.append_ ⟨tys⟩ ty #[ρ x, ρ y]).run C.P w = .ok cv w' ∧ OpPost B lo w0 m0 M0 m ml s e s' cv w' m' ml' := by
  unfold appendA at h
  split at h
  case h_2 => cases h
  rename_i t u
  split at h
  case h_2 => cases h
  rename_i el el2 A n c mm hu hu2 hx hm
  split at h
  case h_2 => cases h
  rename_i z b zs hz hb hzs
  obtain ⟨i, z0, hi, hi0, hi1, hi2, hzc, hzl, hz1, hzp⟩ := info_inv hz hb hzs
  rw [ob_eq] at h
  cases hsrc : srcA C s (z + 1) mm (opnd s y) with
  | none => rw [hsrc] at h; cases h
  | some vs =>
    rw [hsrc] at h
    simp only [Option.bind_some, ob_eq] at h
    obtain ⟨Ay, cy, news, hy, hnl, hnlen, hn1, hnA, hncell⟩ := src_sound hs hm (Nat.le_refl _) hsrc
    have hus : ∀ v ∈ news, v.oneCell' = true := hnl.one hn1
    have hS : ∀ w1 : World, w1 = w → Src C.P (z + 1) u (ρ y) mm news w1 := fun w1 hw1 => by
      subst hw1
      rw [hy]
      cases Ay with
      | none =>
        have h0 := hnA rfl
        subst h0
        obtain rfl : news = [] := List.eq_nil_of_length_eq_zero (by simpa using hnlen)
        exact Src.ofNil w1 hu2 cy
      | some a => exact Src.ofSlice w1 hu2 a mm cy news hnlen (hncell a rfl) hus
    have hSrc : Src C.P i.size u (ρ y) mm news w := by rw [hi1]; exact hS w rfl
    have hxv := hs.rho x _ hx
    obtain ⟨A', k', hρx, q1, q2, hA⟩ := VR.slc_any hxv
    have hnn : n ≤ k' := by omega
    unfold Mem.app at h
    split at h
    · rename_i h0
      subst h0
      simp only [Option.bind_some, Option.some.injEq, Prod.mk.injEq] at h
      obtain ⟨rfl, rfl⟩ := h
      obtain rfl : news = [] := List.eq_nil_of_length_eq_zero (by simpa using hnlen)
      refine ⟨ρ x, w, m, ml, ?_, hs.pure (by simpa using hxv)⟩
      rw [hρx]
      exact run_append_nothing w t u ty el i hu hi A' n k' hnn (ρ y) hSrc
    · rename_i hm0
      split at h
      case isFalse => cases h
      rename_i hroom
      replace hroom : (n + mm) * (b + 1) ≤ 140737488355328 := hroom
      have hle : n + mm ≤ (n + mm) * (b + 1) := Nat.le_mul_of_pos_right _ (by omega)
      have h63 : ((n + mm : Nat) : Int) ≤ 9223372036854775807 := by omega
      -- a new row, out of these cells
      have grow : ∀ (olds vo : List Value), LR m s.mem vo olds → vo.length = n * (z + 1) → (∀ v ∈ vo, v.oneCell' = true) → k' < n + mm → (Builtin.firstCells i.size n (.slice A' n k')).run C.P w.drew = .ok olds.toArray w.drew →
          (Builtin.append_ #[t, u] ty #[ρ x, ρ y]).run C.P w = .ok (.slice (some ⟨w.heap.size, 0, none⟩) (n + mm) (grownCap w (n + mm) k' el)) (w.drew.alloc (.cells ((olds ++ news).toArray ++ Builtin.zeroCells z0.cells (grownCap w (n + mm) k' el - (n + mm))) el)) :=
        fun olds vo hvo hvl hv1 hk hold => by
          rw [hρx]
          exact run_append_grow_src w t u ty el i z0 hu hi hi0 A' n k' olds hold (ρ y) mm news hSrc hk h63 (growslice_fits hk (by rw [hi2]; exact hroom))
      have fresh : ∀ (olds vo : List Value), LR m s.mem vo olds → vo.length = n * (z + 1) → (∀ v ∈ vo, v.oneCell' = true) → k' < n + mm → (Builtin.firstCells i.size n (.slice A' n k')).run C.P w.drew = .ok olds.toArray w.drew →
          ∃ cv w' m' ml', (Builtin.append_ #[t, u] ty #[ρ x, ρ y]).run C.P w = .ok cv w' ∧ OpPost B lo w0 m0 M0 m ml s (.v (.slice (some ⟨s.mem.length, 0, some (vo ++ vs).length⟩) (n + mm) (n + mm))) { s with mem := s.mem ++ [⟨.op (z + 1), vo ++ vs⟩] } cv w' m' ml' :=
        fun olds vo hvo hvl hv1 hk hold => by
          obtain ⟨m', hp⟩ := grown_post hs (el := el) (z := z + 1) (need := n + mm) (ncap := grownCap w (n + mm) k' el) (by omega) (by omega) (grownCap_ge w _ _ _) (hvo.append hnl) (by rw [List.length_append, hvl, hnl.1, hnlen, Nat.add_mul]) (fun v hv => by
            rcases List.mem_append.1 hv with hv | hv
            · exact hv1 v hv
            · exact hn1 v hv) z0.cells (by rw [← Array.length_toList, ← hzc, hzl])
          exact ⟨_, _, m', ml, grow olds vo hvo hvl hv1 hk hold, hp⟩
      split at h
      · rename_i hAn
        simp only at hAn
        split at h
        case isFalse => cases h
        rename_i hn0
        simp only at hn0
        subst hn0
        simp only [Option.bind_some, Option.some.injEq, Prod.mk.injEq] at h
        obtain ⟨rfl, rfl⟩ := h
        rcases hA with ⟨_, rfl, _, _, rfl⟩ | ⟨a, a', ha, _⟩
        · have := fresh [] [] LR.nil (by simp) (fun v hv => nomatch hv) (by omega) (by simp [Builtin.firstCells])
          simpa using this
        · rw [ha] at hAn; cases hAn
      · rename_i a hAs
        simp only at hAs
        rcases hA with ⟨hAn, _⟩ | ⟨a1, a', ha1, rfl, hsr⟩
        · rw [hAn] at hAs; cases hAs
        rw [ha1] at hAs
        injection hAs with hAs
        subst hAs
        split at h
        · rename_i hsp
          split at h
          case isFalse => cases h
          rename_i hnc
          simp only at hnc
          -- the capacity is just this
          have hkk : k' = c := by
            obtain ⟨_, _, bk, hbk, h3⟩ := hsr
            cases hkind : bk.kind <;> rw [hkind, hsp] at h3 <;> simp only at h3 <;> omega
          by_cases hn0 : n = 0
          · subst hn0
            simp only [if_true, Option.bind_some, Option.some.injEq, Prod.mk.injEq] at h
            obtain ⟨rfl, rfl⟩ := h
            have := fresh [] [] LR.nil (by simp) (fun v hv => nomatch hv) (by omega) (by simp [Builtin.firstCells, loadCells, loadCellsFrom])
            simpa using this
          · simp only [hn0, if_false] at h
            cases hld : s.mem.lds a1 (mulN n (z + 1)) with
            | none => rw [hld] at h; cases h
            | some old =>
              rw [hld] at h
              simp only [Option.bind_some, Option.some.injEq, Prod.mk.injEq] at h
              obtain ⟨rfl, rfl⟩ := h
              obtain ⟨cs, e1, e2, e3⟩ := hs.mi.rel.lds (hsr.ar (by omega)) hld
              rw [mulN_eq] at e1
              exact fresh cs old e2 (by rw [e2.1, e1]) (lds_one hs.mi.rel hld) (by omega) (by
                rw [hi1]
                exact run_firstCells_some w.drew (z + 1) n a' n k' cs e1 (fun j v hv => e3 j v hv))
        · rename_i ver hsp
          split at h
          case h_2 => cases h
          rename_i z' cs hblk
          split at h
          case isFalse => cases h
          rename_i hc
          obtain ⟨rfl, hoff, rfl, hlen, hlo'⟩ := hc
          simp only [Option.bind_some, Option.some.injEq, Prod.mk.injEq] at h
          obtain ⟨rfl, rfl⟩ := h
          rw [mulN_eq] at hlen
          replace hlen : n * (z + 1) = cs.length := hlen
          have hbl := (List.getElem?_eq_some_iff.1 hblk).1
          have hlo2 : lo ≤ a1.block := by have := hs.flo; omega
          obtain ⟨r0, r1, bk, hbk, h3⟩ := hsr
          rw [hblk] at hbk
          injection hbk with hbk
          subst hbk
          simp only [hsp] at h3
          obtain ⟨_, hcc, hv0, h4⟩ := h3
          obtain ⟨h5, h6⟩ := h4 trivial
          obtain ⟨g, arr, hg, hBg, ho, hlr, hle2, _, hop⟩ := hs.mi.rel.own _ _ hblk (by simp)
          obtain ⟨hsz, hzp'⟩ := hop _ rfl
          replace hle2 : cs.length ≤ arr.length := hle2
          have ha' : a' = ⟨g, 0, none⟩ := by
            have : 0 < c ∨ cs.length = 0 := by
              rcases Nat.eq_zero_or_pos cs.length with h' | h'
              · exact .inr h'
              · refine .inl ?_
                rcases Nat.eq_zero_or_pos n with h'' | h''
                · rw [h''] at hlen; omega
                · omega
            rw [h5 this, hg, hoff, add_zero]
          subst ha'
          have hone : ∀ v ∈ cs ++ vs, v.oneCell' = true := fun v hv => by
            rcases List.mem_append.1 hv with hv | hv
            · exact hs.mi.rel.one _ _ hblk v hv
            · exact hn1 v hv
          by_cases hfit : n + mm ≤ k'
          · -- in place
            have hfits : n * (z + 1) + news.length ≤ arr.length := by
              rw [hnlen, ← Nat.add_mul, hsz]
              exact Nat.le_trans (Nat.mul_le_mul_right _ hfit) h6
            have hrun := run_append_room_src w t u ty el i hu hi g 0 n k' (ρ y) mm news hSrc hfit (fun j hj => by rw [ho.cell, hi1]; simp; omega) (fun j hj => ho.frozen _)
            rw [hi1, Nat.zero_add] at hrun
            have he : Ext lo m s.mem m (s.mem.set a1.block ⟨.op (z + 1), cs ++ vs⟩) := by
              refine ⟨by simp, fun d x hd => ?_, fun d hd1 hd2 => by rw [List.getElem?_set_ne (by omega)]⟩
              by_cases hdb : a1.block = d
              · subst hdb
                rw [hblk] at hd; injection hd with hd; subst hd
                exact ⟨⟨.op (z + 1), cs ++ vs⟩, by rw [List.getElem?_set_self hbl], .inl rfl, by simp, fun _ => ⟨rfl, rfl⟩, fun h' => absurd rfl (h' (z + 1)), fun h' => by cases h'⟩
              · exact ⟨x, by rw [List.getElem?_set_ne hdb]; exact hd, .inl rfl, Nat.le_refl _, fun _ => ⟨rfl, rfl⟩, fun _ => rfl, fun _ => rfl⟩
            have hmi := hs.mi.setB hblk (by simp) hlo2 (cs ++ vs) (n * (z + 1)) news hg ho he (by
                rw [List.length_append, hnl.1, ← hlen, setL_append _ _ _ hfits, hlen]
                exact hlr.append hnl) (by rw [List.length_append, hnl.1, ← hlen]; exact hfits) (fun h' => by cases h') hone
            refine ⟨_, _, m, ml, by rw [hρx]; exact hrun, ⟨hmi, ?_, he, rfl, fun _ _ => rfl⟩⟩
            refine VR.slc _ _ _ _ _ ⟨Nat.le_refl _, hfit, ⟨.op (z + 1), cs ++ vs⟩, by rw [List.getElem?_set_self hbl], ?_⟩
            simp only
            refine ⟨Nat.le_refl _, hfit, fun h0 => ?_, fun _ => ⟨fun _ => by rw [hg, add_zero], h6⟩⟩
            have : 0 < vs.length := by rw [hnl.1, hnlen]; exact Nat.mul_pos (by omega) (by omega)
            rw [List.length_append] at h0
            omega
          · -- elsewhere
            have hk : k' < n + mm := by omega
            have hrun := grow (arr.take (n * (z + 1))) cs (by rw [hlen]; exact hlr) hlen.symm (hs.mi.rel.one _ _ hblk) hk (by
              rw [hi1]
              refine run_firstCells_some w.drew (z + 1) n _ n k' _ (by rw [List.length_take]; omega) (fun j v hv => ?_)
              rw [add_new]
              show w.cell? _ = _
              rw [ho.cell]
              rw [List.getElem?_take] at hv
              split at hv
              · exact hv
              · cases hv)
            obtain ⟨ncap, hncap⟩ : ∃ q, q = grownCap w (n + mm) k' el := ⟨_, rfl⟩
            have hge : n + mm ≤ ncap := by rw [hncap]; exact grownCap_ge w _ _ _
            rw [← hncap] at hrun
            have hza : z0.cells.size = z + 1 := by rw [← Array.length_toList, ← hzc, hzl]
            obtain ⟨he, hmi⟩ := (hs.mi.drawn (w.drawn + 1)).moved (t := el) hblk (.inl rfl) (Nat.succ_pos z) hlo2 (cs := cs ++ vs) (by
                have : 0 < vs.length := by rw [hnl.1, hnlen]; exact Nat.mul_pos (by omega) (by omega)
                simp; omega) (arr.take (n * (z + 1)) ++ news ++ (Builtin.zeroCells z0.cells (ncap - (n + mm))).toList) (by
                rw [hlen]
                have e1 : (cs ++ vs).length = (arr.take cs.length ++ news).length := by simp [hnl.1]; omega
                rw [e1, List.take_left']
                · exact hlr.append hnl
                · rfl) (by rw [hlen]; simp [hnl.1]; omega) hone
            have harr : (⟨arr.take (n * (z + 1)) ++ news ++ (Builtin.zeroCells z0.cells (ncap - (n + mm))).toList⟩ : Array Value) = (arr.take (n * (z + 1)) ++ news).toArray ++ Builtin.zeroCells z0.cells (ncap - (n + mm)) := by apply Array.ext'; simp
            have hsz2 : (arr.take (n * (z + 1)) ++ news ++ (Builtin.zeroCells z0.cells (ncap - (n + mm))).toList).length = ncap * (z + 1) := by
              have e0 : (Builtin.zeroCells z0.cells (ncap - (n + mm))).toList.length = (ncap - (n + mm)) * (z + 1) := by rw [Array.length_toList, size_zeroCells, hza]
              rw [List.length_append, List.length_append, e0, hnlen, List.length_take, Nat.min_eq_left (by omega), ← Nat.add_mul, ← Nat.add_mul]
              congr 1
              omega
            rw [harr] at hmi
            refine ⟨_, _, _, ml, hrun, ⟨hmi, ?_, he, rfl, fun _ _ => rfl⟩⟩
            refine VR.slc _ _ _ _ _ ⟨Nat.le_refl _, hge, ⟨.op (z + 1), cs ++ vs⟩, by rw [List.getElem?_set_self hbl], ?_⟩
            simp only
            refine ⟨Nat.le_refl _, hge, fun h0 => ?_, fun _ => ⟨fun _ => by simp [Mp.put, add_new], by simp only [Mp.put, if_true]; rw [hsz2]; exact Nat.le_refl _⟩⟩
            have : 0 < vs.length := by rw [hnl.1, hnlen]; exact Nat.mul_pos (by omega) (by omega)
            rw [List.length_append] at h0
            omega
end
end Go.Zt
