/- What the law ChainKnown needs of the text Fb. -/
import Derived.Test.YtbbfdebfhgdciaaPFa
import Derived.Test.YtbbfdebfhgdciaaPEq0
import Derived.KernelRfl
import Derived.Test.YtbbfdebfhgdciaaPEq2
import Derived.Test.YtbbfdebfhgdciaaPEq3
import Derived.Test.YtbbfdebfhgdciaaPEq4
set_option linter.unusedVariables false
set_option linter.unusedSimpArgs false
set_option maxRecDepth 100000
namespace Go.Zt
def OwnM (M0 M : Mem) (A : Option Addr) (xs : List Int) : Prop := xs = [] ∨ ∃ a, A = some a ∧ Buf M0 M a (xs.map (Value.int .u8))
theorem OwnM.rd {M0 M : Mem} {A : Option Addr} {xs : List Int} (h : OwnM M0 M A xs) : RdI M .u8 A xs := by
  rcases h with rfl | ⟨a, rfl, hb⟩
  · exact RdI.nil
  · exact hb.rdI
theorem OwnM.pre {M0 M M' : Mem} {A : Option Addr} {xs : List Int} (h : OwnM M0 M A xs) (hp : Pre M M') : OwnM M0 M' A xs := by
  rcases h with rfl | ⟨a, rfl, hb⟩
  · exact .inl rfl
  · exact .inr ⟨a, rfl, hb.pre hp⟩
theorem OwnM.floor {M0 M1 M : Mem} {A : Option Addr} {xs : List Int} (h : OwnM M1 M A xs) (hl : M0.length ≤ M1.length) : OwnM M0 M A xs := by
  rcases h with rfl | ⟨a, rfl, hb⟩
  · exact .inl rfl
  · exact .inr ⟨a, rfl, hb.floor hl⟩
theorem Grow.own {M0 M : Mem} {A : Option Addr} {xs : List Int} (h : Grow M0 M 1 A xs.length (xs.map (Value.int .u8))) : OwnM M0 M A xs := by
  by_cases h0 : xs = []
  · exact .inl h0
  · obtain ⟨a, h1, h2⟩ := h.buf (fun e => h0 (List.eq_nil_of_length_eq_zero e))
    exact .inr ⟨a, h1, h2⟩
theorem cloneAny_ok (lo : Nat) (A : Option Addr) (c : Nat) (xs : List Int) (M : Mem) (hr : RdI M .u8 A xs) (hn : xs.length ≤ 140737488351232) (hlo : lo ≤ M.length) :
    Ac P T lo F.slices_Clone__uint8_uint8 [.slice A xs.length c] M fun r => ∃ A' cc M', r = (.slice A' xs.length cc, M') ∧ Pre M M' ∧ xs.length ≤ cc ∧ OwnM M M' A' xs := by
  by_cases h0 : xs.length = 0
  · refine Ac.of (Evp.of_eq (fun k => slices_Clone__uint8_uint8.entry k ..) ?_)
    have hx : xs = [] := List.eq_nil_of_length_eq_zero h0
    subst hx
    refine Evp.bb (fun h => Evp.ret (Run.ret ⟨none, 0, M, rfl, Pre.refl _, Nat.le_refl _, .inl rfl⟩)) fun h => ?_
    have e1 : Mem.src (M ++ [⟨.fx, []⟩] : Mem) A ([] : List Int).length ([] : List Int).length = some [] := (RdI.nil (M := (M ++ [⟨.fx, []⟩] : Mem)) (k := .u8) (A := A)).src
    refine Evp.some e1 ?_
    have e2 : (M ++ [⟨.fx, []⟩] : Mem).app lo 1 1 ⟨some ⟨M.length, 0, none⟩, 0, 0⟩ [] 0 = some (⟨some ⟨M.length, 0, none⟩, 0, 0⟩, (M ++ [⟨.fx, []⟩] : Mem)) := by
      unfold Mem.app; rw [if_pos rfl]
    refine Evp.some e2 ?_
    exact Evp.ret (Run.ret ⟨_, _, _, rfl, Pre.app _ _, Nat.le_refl _, .inl rfl⟩)
  · refine Ac.mono (clone_ok lo A c xs M hr h0 hn hlo) ?_
    rintro _ ⟨a, cc, M', rfl, p, hc, hb⟩
    exact ⟨some a, cc, M', rfl, p, hc, .inr ⟨a, rfl, hb⟩⟩
theorem shru {x : Int} (n : Nat) (hn : n ≤ 64) : shrI .u64 x n = x / 2 ^ n := by
  unfold shrI
  rw [show min n IntKind.u64.bits = n from Nat.min_eq_left hn]
  exact Int.fdiv_eq_ediv_of_nonneg _ (by exact_mod_cast Nat.zero_le _)
theorem log2_div {x k : Nat} (h : 2 ^ k ≤ x) : Nat.log2 (x / 2 ^ k) + k = Nat.log2 x := by
  have hp : 0 < 2 ^ k := Nat.two_pow_pos k
  have h0 : x / 2 ^ k ≠ 0 := by
    have := (Nat.le_div_iff_mul_le hp (x := 1) (y := x)).2 (by omega)
    omega
  have hx : x ≠ 0 := by omega
  symm
  rw [Nat.log2_eq_iff hx]
  obtain ⟨a, b⟩ := (Nat.log2_eq_iff h0 (k := Nat.log2 (x / 2 ^ k))).1 rfl
  generalize Nat.log2 (x / 2 ^ k) = a' at *
  rw [Nat.le_div_iff_mul_le hp] at a
  rw [Nat.div_lt_iff_lt_mul hp] at b
  rw [show a' + k + 1 = a' + 1 + k by omega, Nat.pow_add, Nat.pow_add]
  exact ⟨a, b⟩
def lenB (x : Nat) : Nat := if x = 0 then 0 else Nat.log2 x + 1
def lenTable : ByteArray := ⟨((List.range 256).map fun x => UInt8.ofNat (lenB x)).toArray⟩
theorem lenTab_get : ∀ x, x < 256 → strAt lenTable x = (lenB x : Nat) := by decide +kernel
theorem lenTab_size : lenTable.size = 256 := by decide +kernel
theorem lenB_div {x k : Nat} (h : 2 ^ k ≤ x) : lenB (x / 2 ^ k) + k = lenB x := by
  have hp : 0 < 2 ^ k := Nat.two_pow_pos k
  have h0 : x / 2 ^ k ≠ 0 := by
    have := (Nat.le_div_iff_mul_le hp (x := 1) (y := x)).2 (by omega)
    omega
  unfold lenB
  rw [if_neg h0, if_neg (by omega)]
  have := log2_div h
  omega
theorem lenB_le {x : Nat} (h : x < 256) : lenB x ≤ 8 := by
  have : ∀ x, x < 256 → lenB x ≤ 8 := by decide +kernel
  exact this x h
theorem len64_ok (lo : Nat) (x : Nat) (M : Mem) (hx : x ≤ 1048576) : Ac P T lo F.math_bits_Len64 [.int .u64 x] M fun r => r = (.int .i64 (lenB x : Nat), M) := by
  have tab : ∀ (y n : Nat), y < 256 → n ≤ 64 → lenB y + n = lenB x → Run P T lo F.math_bits_Len64 (math_bits_Len64.c31 y n M) fun r => r = (.int .i64 (lenB x : Nat), M) := fun y n hy hn e => by
    have hl := lenB_le hy
    have key : ∀ t : ByteArray, t = lenTable → Evp (fun k => pb (0 ≤ IntKind.u8.wrap (y : Int) ∧ IntKind.u8.wrap (y : Int) < (t.size : Int)) (some (.ret (.int .i64 (IntKind.i64.wrap ((n : Int) + (IntKind.i64.wrap (strAt t (IntKind.u8.wrap (y : Int)).toNat))))) M)) none) fun out => Run P T lo F.math_bits_Len64 out fun r => r = (.int .i64 (lenB x : Nat), M) := fun t ht => by
      subst ht
      rw [lenTab_size, wu8 (x := (y : Int)) (by omega)]
      refine Evp.pos (by omega) (Evp.ret (Run.ret ?_))
      rw [Int.toNat_natCast, lenTab_get y hy, w64 (x := ((lenB y : Nat) : Int)) (by omega), w64 (by omega)]
      congr 2
      omega
    refine Run.cut (Evp.of_eq (fun k => math_bits_Len64.p31 k ..) ?_)
    exact key _ (by kernel_rfl)
  have c16 : shrI .u64 (x : Int) 16 = ((x / 65536 : Nat) : Int) := by rw [shru 16 (by omega)]; rfl
  have c8 : ∀ y : Nat, shrI .u64 (y : Int) 8 = ((y / 256 : Nat) : Int) := fun y => by rw [shru 8 (by omega)]; rfl
  have mid : ∀ (y n : Nat), y < 65536 → n ≤ 16 → lenB y + n = lenB x → Run P T lo F.math_bits_Len64 (math_bits_Len64.c15 y n M) fun r => r = (.int .i64 (lenB x : Nat), M) := fun y n hy hn e => by
    refine Run.cut (Evp.of_eq (fun k => math_bits_Len64.p15 k ..) ?_)
    refine Evp.dec (fun h => ?_) fun h => Evp.ret (tab y n (by omega) (by omega) e)
    rw [c8, w64 (by omega), show (n : Int) + 8 = ((n + 8 : Nat) : Int) by omega]
    exact Evp.ret (tab (y / 256) (n + 8) (by omega) (by omega) (by have := lenB_div (x := y) (k := 8) (by omega); rw [show (2 : Nat) ^ 8 = 256 from rfl] at this; omega))
  refine Ac.of (Evp.of_eq (fun k => math_bits_Len64.entry k ..) ?_)
  refine Evp.dec (fun h => absurd h (by omega)) fun _ => Evp.ret ?_
  refine Run.cut (Evp.of_eq (fun k => math_bits_Len64.p7 k ..) ?_)
  refine Evp.dec (fun h => ?_) fun h => Evp.ret (mid x 0 (by omega) (by omega) (by omega))
  rw [c16, show IntKind.i64.wrap (0 + 16) = ((16 : Nat) : Int) from by decide]
  exact Evp.ret (mid (x / 65536) 16 (by omega) (by omega) (by have := lenB_div (x := x) (k := 16) (by omega); rw [show (2 : Nat) ^ 16 = 65536 from rfl] at this; omega))
theorem len_ok (lo : Nat) (x : Nat) (M : Mem) (hx : x ≤ 1048576) : Ac P T lo F.math_bits_Len [.int .u64 x] M fun r => r = (.int .i64 (lenB x : Nat), M) := by
  refine Ac.of (Evp.of_eq (fun k => math_bits_Len.entry k ..) ?_)
  refine Evp.ob (len64_ok lo x M hx) ?_
  rintro _ rfl
  simp only [ret_int, ret_bool, ret_flt, ret_slc, ret_str, ret_ptr, ret_agg, ret_tup, ob_some, bb_true, bb_false, List.getElem?_cons_zero, List.getElem?_cons_succ, List.length_cons, List.length_nil, Nat.reduceAdd, Nat.reduceLT]
  exact Evp.ret (Run.ret rfl)
theorem log2_le {x : Nat} (h : x ≤ 1048576) : Nat.log2 x ≤ 20 := by
  rcases Nat.eq_zero_or_pos x with rfl | h0
  · decide
  · have := (Nat.log2_lt (n := x) (k := 21) (by omega)).2 (by omega)
    omega
def far20 (v : Int) : Int := clipS v (-1048576) 1048576
theorem far20_le (v : Int) : -1048576 ≤ far20 v ∧ far20 v ≤ 1048576 := clipS_le (by decide)
def shiftS (t p : Int) : Int := clipS (far20 p - (Nat.log2 (far20 t).toNat : Nat)) 0 60
def limS (d t p : Int) : Int :=
  if far20 t ≤ 0 then 0 else
    if far20 d < 0 then -(minI (absS (far20 d)) (maxI 0 (far20 t - absS (far20 d) / 2 ^ (shiftS t p).toNat))) else minI (absS (far20 d)) (maxI 0 (far20 t - absS (far20 d) / 2 ^ (shiftS t p).toNat))
theorem cclip_ok (lo : Nat) (v a b : Int) (M : Mem) (h : a ≤ b) : Ac P T lo F.cdef_clip [.int .i64 v, .int .i64 a, .int .i64 b] M fun r => r = (.int .i64 (clipS v a b), M) := by
  refine Ac.of (Evp.of_eq (fun k => cdef_clip.entry k ..) ?_)
  refine Evp.ret (Run.ret ?_)
  have : minI (maxI v a) b = clipS v a b := by
    unfold minI maxI clipS
    repeat' split
    all_goals omega
  rw [this]
theorem lim_parts (d t p : Int) (h : ¬ far20 t ≤ 0) : 0 ≤ shiftS t p ∧ shiftS t p ≤ 60 ∧ 0 ≤ absS (far20 d) ∧ absS (far20 d) ≤ 1048576 ∧ 0 ≤ absS (far20 d) / 2 ^ (shiftS t p).toNat ∧ absS (far20 d) / 2 ^ (shiftS t p).toNat ≤ 1048576 := by
  have h1 := far20_le d
  have h3 : 0 ≤ shiftS t p ∧ shiftS t p ≤ 60 := clipS_le (by decide)
  have h4 : 0 ≤ absS (far20 d) ∧ absS (far20 d) ≤ 1048576 := by unfold absS; split <;> omega
  have hp : (0 : Int) < 2 ^ (shiftS t p).toNat := by
    have := Nat.two_pow_pos (shiftS t p).toNat
    exact_mod_cast this
  have h5 := Int.ediv_nonneg h4.1 (Int.le_of_lt hp)
  have h6 := Int.ediv_le_self (2 ^ (shiftS t p).toNat) h4.1
  exact ⟨h3.1, h3.2, h4.1, h4.2, h5, by omega⟩
theorem limit_ok (lo : Nat) (d t p : Int) (M : Mem) : Ac P T lo F.cdef_Limit [.int .i64 d, .int .i64 t, .int .i64 p] M fun r => r = (.int .i64 (limS d t p), M) := by
  have h1 := far20_le d
  have h2 := far20_le t
  have h3 := far20_le p
  refine Ac.of (Evp.of_eq (fun k => cdef_Limit.entry k ..) ?_)
  refine Evp.ob (cclip_ok lo d _ _ M (by decide)) ?_
  rintro _ rfl
  simp only [ret_int, ret_bool, ret_flt, ret_slc, ret_str, ret_ptr, ret_agg, ret_tup, ob_some, bb_true, bb_false, List.getElem?_cons_zero, List.getElem?_cons_succ, List.length_cons, List.length_nil, Nat.reduceAdd, Nat.reduceLT]
  refine Evp.ob (cclip_ok lo t _ _ M (by decide)) ?_
  rintro _ rfl
  simp only [ret_int, ret_bool, ret_flt, ret_slc, ret_str, ret_ptr, ret_agg, ret_tup, ob_some, bb_true, bb_false, List.getElem?_cons_zero, List.getElem?_cons_succ, List.length_cons, List.length_nil, Nat.reduceAdd, Nat.reduceLT]
  refine Evp.ob (cclip_ok lo p _ _ M (by decide)) ?_
  rintro _ rfl
  simp only [ret_int, ret_bool, ret_flt, ret_slc, ret_str, ret_ptr, ret_agg, ret_tup, ob_some, bb_true, bb_false, List.getElem?_cons_zero, List.getElem?_cons_succ, List.length_cons, List.length_nil, Nat.reduceAdd, Nat.reduceLT]
  refine Evp.dec (fun h => Evp.ret (Run.ret (by unfold limS; rw [if_pos (show far20 t ≤ 0 from h)]))) fun h => ?_
  have h : ¬ far20 t ≤ 0 := h
  obtain ⟨s0, s1, a0, a1, q0, q1⟩ := lim_parts d t p h
  obtain ⟨n, en⟩ := Int.eq_ofNat_of_zero_le (a := far20 t) (by omega)
  have en' : clipS t (-1048576) 1048576 = (n : Int) := en
  have hn : n ≤ 1048576 ∧ n ≠ 0 := by omega
  rw [en', wu64 (x := (n : Int)) (by omega)]
  refine Evp.ob (len_ok lo n M hn.1) ?_
  rintro _ rfl
  simp only [ret_int, ret_bool, ret_flt, ret_slc, ret_str, ret_ptr, ret_agg, ret_tup, ob_some, bb_true, bb_false, List.getElem?_cons_zero, List.getElem?_cons_succ, List.length_cons, List.length_nil, Nat.reduceAdd, Nat.reduceLT]
  have l20 := log2_le hn.1
  have es : IntKind.i64.wrap ((IntKind.i64.wrap (clipS p (-1048576) 1048576 - ((lenB n : Nat) : Int))) + 1) = far20 p - (Nat.log2 n : Nat) := by
    unfold lenB
    rw [if_neg hn.2]
    show IntKind.i64.wrap ((IntKind.i64.wrap (far20 p - ((Nat.log2 n + 1 : Nat) : Int))) + 1) = _
    rw [w64 (x := far20 p - ((Nat.log2 n + 1 : Nat) : Int)) (by omega), w64 (by omega)]
    omega
  rw [es]
  refine Evp.ob (cclip_ok lo _ _ _ M (by decide)) ?_
  rintro _ rfl
  simp only [ret_int, ret_bool, ret_flt, ret_slc, ret_str, ret_ptr, ret_agg, ret_tup, ob_some, bb_true, bb_false, List.getElem?_cons_zero, List.getElem?_cons_succ, List.length_cons, List.length_nil, Nat.reduceAdd, Nat.reduceLT]
  have e2 : clipS (far20 p - (Nat.log2 n : Nat)) 0 60 = shiftS t p := by unfold shiftS; rw [en, Int.toNat_natCast]
  rw [e2]
  refine Evp.neg (by omega) ?_
  have ed : maxI (clipS d (-1048576) 1048576) (IntKind.i64.wrap (0 - clipS d (-1048576) 1048576)) = absS (far20 d) := by
    show maxI (far20 d) (IntKind.i64.wrap (0 - far20 d)) = _
    rw [w64 (by omega)]
    unfold maxI absS
    split <;> split <;> omega
  have ev : minI (absS (far20 d)) (maxI 0 (IntKind.i64.wrap ((n : Int) - shrI .i64 (absS (far20 d)) (shiftS t p).toNat))) = minI (absS (far20 d)) (maxI 0 (far20 t - absS (far20 d) / 2 ^ (shiftS t p).toNat)) := by
    rw [shr_eq _ (by omega), w64 (by omega), en]
  have vb : 0 ≤ minI (absS (far20 d)) (maxI 0 (far20 t - absS (far20 d) / 2 ^ (shiftS t p).toNat)) ∧ minI (absS (far20 d)) (maxI 0 (far20 t - absS (far20 d) / 2 ^ (shiftS t p).toNat)) ≤ 1048576 := by
    unfold minI maxI
    split <;> split <;> omega
  rw [ed, ev]
  refine Evp.dec (fun g => Evp.ret (Run.ret ?_)) fun g => Evp.ret (Run.ret ?_)
  · unfold limS
    rw [if_neg h, if_pos (show far20 d < 0 from g), w64 (by omega), Int.zero_sub]
  · unfold limS
    rw [if_neg h, if_neg (show ¬ far20 d < 0 from g)]
def numS (d r c : Nat) : Nat :=
  if d = 0 then r + c else if d = 1 then r + c / 2 else if d = 2 then r else if d = 3 then 3 + r - c / 2 else if d = 4 then 7 + r - c else if d = 5 then 3 - r / 2 + c else if d = 6 then c else r / 2 + c
theorem numS_lt {d r c : Nat} (hr : r < 8) (hc : c < 8) : numS d r c < 16 := by
  unfold numS
  repeat' split
  all_goals omega
def linesL (r c : Nat) : List Int := [(numS 0 r c : Nat), (numS 1 r c : Nat), (numS 2 r c : Nat), (numS 3 r c : Nat), (numS 4 r c : Nat), (numS 5 r c : Nat), (numS 6 r c : Nat), (numS 7 r c : Nat)]
theorem linesL_get {r c d : Nat} (hd : d < 8) : (linesL r c).getD d 0 = (numS d r c : Nat) := by
  have : d = 0 ∨ d = 1 ∨ d = 2 ∨ d = 3 ∨ d = 4 ∨ d = 5 ∨ d = 6 ∨ d = 7 := by omega
  rcases this with rfl | rfl | rfl | rfl | rfl | rfl | rfl | rfl <;> rfl
theorem lines_ok (lo r c : Nat) (M : Mem) (hr : r < 8) (hc : c < 8) : Ac P T lo F.cdef_lines [.int .i64 r, .int .i64 c] M fun q => q = (.agg ⟨(linesL r c).map (Value.int .i64)⟩, M) := by
  refine Ac.of (Evp.of_eq (fun k => cdef_lines.entry k ..) ?_)
  have dr : Int.tdiv (r : Int) 2 = ((r / 2 : Nat) : Int) := rfl
  have dc : Int.tdiv (c : Int) 2 = ((c / 2 : Nat) : Int) := rfl
  rw [dr, dc, w64 (x := ((c / 2 : Nat) : Int)) (by omega), w64 (x := ((r / 2 : Nat) : Int)) (by omega), w64 (x := (r : Int) + c) (by omega), w64 (x := (r : Int) + ((c / 2 : Nat) : Int)) (by omega), w64 (x := 3 + (r : Int)) (by omega), w64 (x := 3 + (r : Int) - ((c / 2 : Nat) : Int)) (by omega), w64 (x := 7 + (r : Int)) (by omega), w64 (x := 7 + (r : Int) - c) (by omega), w64 (x := 3 - ((r / 2 : Nat) : Int)) (by omega), w64 (x := 3 - ((r / 2 : Nat) : Int) + c) (by omega), w64 (x := ((r / 2 : Nat) : Int) + c) (by omega)]
  refine Evp.ret (Run.ret ?_)
  have e0 : (r : Int) + c = ((numS 0 r c : Nat) : Int) := by simp [numS]
  have e1 : (r : Int) + ((c / 2 : Nat) : Int) = ((numS 1 r c : Nat) : Int) := by simp [numS]
  have e3 : 3 + (r : Int) - ((c / 2 : Nat) : Int) = ((numS 3 r c : Nat) : Int) := by show _ = ((3 + r - c / 2 : Nat) : Int); omega
  have e4 : 7 + (r : Int) - c = ((numS 4 r c : Nat) : Int) := by show _ = ((7 + r - c : Nat) : Int); omega
  have e5 : 3 - ((r / 2 : Nat) : Int) + c = ((numS 5 r c : Nat) : Int) := by show _ = ((3 - r / 2 + c : Nat) : Int); omega
  have e7 : ((r / 2 : Nat) : Int) + c = ((numS 7 r c : Nat) : Int) := by show _ = ((r / 2 + c : Nat) : Int); omega
  rw [e0, e1, e3, e4, e5, e7]
  rfl
def sumD (b : List Int) (d k : Nat) : Nat → Int
  | 0 => 0
  | i + 1 => sumD b d k i + (if numS d (i / 8) (i % 8) = k then b.getD i 0 - 128 else 0)
def manyD (d k : Nat) : Nat → Int
  | 0 => 0
  | i + 1 => manyD d k i + (if numS d (i / 8) (i % 8) = k then 1 else 0)
theorem sumD_le {b : List Int} (bb : Bytes b) (d k : Nat) : ∀ i : Nat, -(128 * (i : Int)) ≤ sumD b d k i ∧ sumD b d k i ≤ 128 * (i : Int)
  | 0 => by simp [sumD]
  | i + 1 => by
    have ih := sumD_le bb d k i
    have := bb.get i
    simp only [sumD]
    split <;> omega
theorem manyD_le (d k : Nat) : ∀ i : Nat, 0 ≤ manyD d k i ∧ manyD d k i ≤ (i : Int)
  | 0 => by simp [manyD]
  | i + 1 => by
    have ih := manyD_le d k i
    simp only [manyD]
    split <;> omega
def SumI (b : List Int) (i d : Nat) (L : List Int) : Prop := L.length = 128 ∧ ∀ d' k, d' < 8 → k < 16 → L.getD (d' * 16 + k) 0 = sumD b d' k (if d' < d then i + 1 else i)
def ManyI (i d : Nat) (L : List Int) : Prop := L.length = 128 ∧ ∀ d' k, d' < 8 → k < 16 → L.getD (d' * 16 + k) 0 = manyD d' k (if d' < d then i + 1 else i)
theorem SumI.next {b : List Int} {i d : Nat} {L : List Int} (h : SumI b i d L) (hd : d < 8) (hi : i < 64) : SumI b i (d + 1) (L.set (d * 16 + numS d (i / 8) (i % 8)) (L.getD (d * 16 + numS d (i / 8) (i % 8)) 0 + (b.getD i 0 - 128))) := by
  have hn := numS_lt (d := d) (r := i / 8) (c := i % 8) (by omega) (by omega)
  refine ⟨by simpa using h.1, fun d' k hd' hk => ?_⟩
  have h1 := h.1
  rw [getD_set (by omega)]
  by_cases e : d' * 16 + k = d * 16 + numS d (i / 8) (i % 8)
  · have e1 : d' = d := by omega
    have e2 : k = numS d (i / 8) (i % 8) := by omega
    subst e1
    rw [if_pos e, h.2 d' _ hd hn, if_neg (by omega), if_pos (by omega), e2]
    simp only [sumD, if_true]
  · rw [if_neg e, h.2 d' k hd' hk]
    by_cases g : d' < d
    · rw [if_pos g, if_pos (by omega)]
    · by_cases g2 : d' = d
      · subst g2
        have hne : ¬ numS d' (i / 8) (i % 8) = k := fun h => e (by rw [h])
        rw [if_neg g, if_pos (by omega)]
        simp only [sumD]
        rw [if_neg hne, Int.add_zero]
      · rw [if_neg g, if_neg (by omega)]
theorem ManyI.next {i d : Nat} {L : List Int} (h : ManyI i d L) (hd : d < 8) (hi : i < 64) : ManyI i (d + 1) (L.set (d * 16 + numS d (i / 8) (i % 8)) (L.getD (d * 16 + numS d (i / 8) (i % 8)) 0 + 1)) := by
  have hn := numS_lt (d := d) (r := i / 8) (c := i % 8) (by omega) (by omega)
  refine ⟨by simpa using h.1, fun d' k hd' hk => ?_⟩
  have h1 := h.1
  rw [getD_set (by omega)]
  by_cases e : d' * 16 + k = d * 16 + numS d (i / 8) (i % 8)
  · have e1 : d' = d := by omega
    have e2 : k = numS d (i / 8) (i % 8) := by omega
    subst e1
    rw [if_pos e, h.2 d' _ hd hn, if_neg (by omega), if_pos (by omega), e2]
    simp only [manyD, if_true]
  · rw [if_neg e, h.2 d' k hd' hk]
    by_cases g : d' < d
    · rw [if_pos g, if_pos (by omega)]
    · by_cases g2 : d' = d
      · subst g2
        have hne : ¬ numS d' (i / 8) (i % 8) = k := fun h => e (by rw [h])
        rw [if_neg g, if_pos (by omega)]
        simp only [manyD]
        rw [if_neg hne, Int.add_zero]
      · rw [if_neg g, if_neg (by omega)]
theorem SumI.turn {b : List Int} {i : Nat} {L : List Int} (h : SumI b i 8 L) : SumI b (i + 1) 0 L := ⟨h.1, fun d' k hd' hk => by rw [h.2 d' k hd' hk, if_pos hd', if_neg (by omega)]⟩
theorem ManyI.turn {i : Nat} {L : List Int} (h : ManyI i 8 L) : ManyI (i + 1) 0 L := ⟨h.1, fun d' k hd' hk => by rw [h.2 d' k hd' hk, if_pos hd', if_neg (by omega)]⟩
def wgtD (b : List Int) (d : Nat) : Nat → Int
  | 0 => 0
  | k + 1 => wgtD b d k + (if manyD d k 64 = 0 then 0 else sumD b d k 64 * sumD b d k 64 * (840 / manyD d k 64))
theorem sq_le {s : Int} (h : -8192 ≤ s ∧ s ≤ 8192) : 0 ≤ s * s ∧ s * s ≤ 67108864 := by
  have := mul_abs (a := s) (b := s) (A := 8192) (B := 8192) (by omega) (by omega)
  have h0 : 0 ≤ s * s := by
    rcases Int.le_total 0 s with h | h
    · exact Int.mul_nonneg h h
    · rw [← Int.neg_mul_neg]; exact Int.mul_nonneg (by omega) (by omega)
  omega
theorem term_le {b : List Int} (bb : Bytes b) (d k : Nat) : 0 ≤ (if manyD d k 64 = 0 then 0 else sumD b d k 64 * sumD b d k 64 * (840 / manyD d k 64)) ∧ (if manyD d k 64 = 0 then 0 else sumD b d k 64 * sumD b d k 64 * (840 / manyD d k 64)) ≤ 67108864 * 840 := by
  have s := sumD_le bb d k 64
  have q := sq_le (s := sumD b d k 64) (by omega)
  have m := manyD_le d k 64
  split
  · omega
  · have h1 : 0 ≤ 840 / manyD d k 64 := Int.ediv_nonneg (by omega) m.1
    have h2 : 840 / manyD d k 64 ≤ 840 := Int.ediv_le_self _ (by omega)
    exact ⟨Int.mul_nonneg q.1 h1, Int.mul_le_mul q.2 h2 h1 (by omega)⟩
theorem wgtD_le {b : List Int} (bb : Bytes b) (d : Nat) : ∀ k : Nat, 0 ≤ wgtD b d k ∧ wgtD b d k ≤ 67108864 * 840 * (k : Int)
  | 0 => by simp [wgtD]
  | k + 1 => by
    have ih := wgtD_le bb d k
    have := term_le bb d k
    simp only [wgtD]
    omega
def bestD (b : List Int) : Nat → Nat
  | 0 => 0
  | d + 1 => if wgtD b d 16 > wgtD b (bestD b d) 16 then d else bestD b d
theorem bestD_lt (b : List Int) : ∀ n, bestD b n < max n 1
  | 0 => by simp [bestD]
  | n + 1 => by
    have := bestD_lt b n
    simp only [bestD]
    split <;> omega
theorem tabI {L : List Int} {i : Nat} (h : i < L.length) : ((L.map (Value.int .i64))[i]?).bind (Value.int? .i64) = some (L.getD i 0) := tab_get L i h
section
variable (lo : Nat) (A : Option Addr) (c : Nat) (b : List Int) (M : Mem) (hx : RdI M .u8 A b) (bb : Bytes b) (hl : b.length = 64) (Q : Value × Mem → Prop)
include bb
theorem dir_lines (x1 : Int) (i : Nat) (hi : i < 64) (next : ∀ L K, SumI b (i + 1) 0 L → ManyI (i + 1) 0 K → Run P T lo F.cdef_Direction (cdef_Direction.c244 x1 A 64 c 64 ((i + 1 : Nat) : Int) (L.map (Value.int .i64)) (K.map (Value.int .i64)) M) Q) :
    ∀ (e d : Nat) (L K : List Int), 8 - d = e → d ≤ 8 → SumI b i d L → ManyI i d K →
    Run P T lo F.cdef_Direction (cdef_Direction.c62668 x1 (b.getD i 0) A 64 c 64 i (numS 0 (i / 8) (i % 8) : Nat) (numS 1 (i / 8) (i % 8) : Nat) (numS 2 (i / 8) (i % 8) : Nat) (numS 3 (i / 8) (i % 8) : Nat) (numS 4 (i / 8) (i % 8) : Nat) (numS 5 (i / 8) (i % 8) : Nat) (numS 6 (i / 8) (i % 8) : Nat) (numS 7 (i / 8) (i % 8) : Nat) d (L.map (Value.int .i64)) (K.map (Value.int .i64)) M) Q := by
  intro e
  induction e with
  | zero =>
    intro d L K he hd hL hK
    obtain rfl : d = 8 := by omega
    refine Run.cut (Evp.of_eq (fun k => cdef_Direction.p62668 k ..) ?_)
    refine Evp.dec (fun h => absurd h (by omega)) fun _ => ?_
    rw [w64 (by omega)]
    exact Evp.ret (next L K hL.turn hK.turn)
  | succ e ih =>
    intro d L K he hd hL hK
    have hd8 : d < 8 := by omega
    have hn := numS_lt (d := d) (r := i / 8) (c := i % 8) (by omega) (by omega)
    have g0 := hL.2 d (numS d (i / 8) (i % 8)) hd8 hn
    have g1 := hK.2 d (numS d (i / 8) (i % 8)) hd8 hn
    rw [if_neg (by omega)] at g0 g1
    have b0 := sumD_le bb d (numS d (i / 8) (i % 8)) i
    have b1 := manyD_le d (numS d (i / 8) (i % 8)) i
    have bi := bb.get i
    have l1 := hL.1
    have k1 := hK.1
    have hget := linesL_get (r := i / 8) (c := i % 8) hd8
    have hla : ((linesL (i / 8) (i % 8)).map (Value.int .i64))[d]?.bind (Value.int? .i64) = some ((numS d (i / 8) (i % 8) : Nat) : Int) := by rw [tabI (by show d < 8; exact hd8), hget]
    refine Run.cut (Evp.of_eq (fun k => cdef_Direction.p62668 k ..) ?_)
    refine Evp.dec (fun _ => ?_) fun h => absurd h (by omega)
    refine Evp.pos (by omega) ?_
    simp only [Int.toNat_natCast, Nat.add_zero, Nat.zero_add]
    refine Evp.some hla ?_
    generalize hk : numS d (i / 8) (i % 8) = k at *
    simp only [Int.toNat_natCast, Nat.add_zero]
    refine Evp.pos (by omega) (Evp.pos (by omega) (Evp.some (tabI (by omega)) ?_))
    refine Evp.pos (by omega) (Evp.pos (by omega) (Evp.pos (by simp; omega) ?_))
    refine Evp.pos (by omega) (Evp.pos (by omega) (Evp.some (tabI (by omega)) ?_))
    refine Evp.pos (by omega) (Evp.pos (by omega) (Evp.pos (by simp; omega) ?_))
    rw [setL_one, setL_one, set_map, set_map, w64 (x := b.getD i 0) (by omega), w64 (x := b.getD i 0 - 128) (by omega), w64 (x := L.getD (d * 16 + k) 0 + (b.getD i 0 - 128)) (by omega), w64 (x := K.getD (d * 16 + k) 0 + 1) (by omega), w64 (by omega)]
    have nL := hL.next hd8 hi
    have nK := hK.next hd8 hi
    rw [hk] at nL nK
    exact Evp.ret (ih (d + 1) _ _ (by omega) (by omega) nL nK)
include hx hl
theorem dir_samples (x1 : Int) (next : ∀ L K, SumI b 64 0 L → ManyI 64 0 K → Run P T lo F.cdef_Direction (cdef_Direction.c1012 x1 0 (L.map (Value.int .i64)) (K.map (Value.int .i64)) [.int .i64 0, .int .i64 0, .int .i64 0, .int .i64 0, .int .i64 0, .int .i64 0, .int .i64 0, .int .i64 0] M) Q) :
    ∀ (e i : Nat) (L K : List Int), 64 - i = e → i ≤ 64 → SumI b i 0 L → ManyI i 0 K → Run P T lo F.cdef_Direction (cdef_Direction.c244 x1 A 64 c 64 i (L.map (Value.int .i64)) (K.map (Value.int .i64)) M) Q := by
  intro e
  induction e with
  | zero =>
    intro i L K he hi hL hK
    obtain rfl : i = 64 := by omega
    refine Run.cut (Evp.of_eq (fun k => cdef_Direction.p244 k ..) ?_)
    exact Evp.dec (fun h => absurd h (by omega)) fun _ => Evp.ret (next L K hL hK)
  | succ e ih =>
    intro i L K he hi hL hK
    refine Run.cut (Evp.of_eq (fun k => cdef_Direction.p244 k ..) ?_)
    refine Evp.dec (fun _ => ?_) fun h => absurd h (by omega)
    refine Evp.pos (by omega) ?_
    simp only [Int.toNat_natCast]
    refine Evp.ldI hx (by omega) fun _ _ => ?_
    rw [show Int.tdiv (i : Int) 8 = ((i / 8 : Nat) : Int) from rfl, show Int.tmod (i : Int) 8 = ((i % 8 : Nat) : Int) from rfl, w64 (x := ((i / 8 : Nat) : Int)) (by omega)]
    refine Evp.ob (lines_ok lo (i / 8) (i % 8) M (by omega) (by omega)) ?_
    rintro _ rfl
    simp only [linesL, List.map_cons, List.map_nil, ret_int, ret_bool, ret_flt, ret_slc, ret_str, ret_ptr, ret_agg, ret_tup, ob_some, bb_true, bb_false, List.getElem?_cons_zero, List.getElem?_cons_succ, List.length_cons, List.length_nil, Nat.reduceAdd, Nat.reduceLT]
    exact Evp.ret (dir_lines lo A c b M bb Q x1 i (by omega) (fun L K hL hK => ih (i + 1) L K (by omega) (by omega) hL hK) _ 0 L K rfl (by omega) hL hK)
end
def manyL (d : Nat) : List Int := [manyD d 0 64, manyD d 1 64, manyD d 2 64, manyD d 3 64, manyD d 4 64, manyD d 5 64, manyD d 6 64, manyD d 7 64, manyD d 8 64, manyD d 9 64, manyD d 10 64, manyD d 11 64, manyD d 12 64, manyD d 13 64, manyD d 14 64, manyD d 15 64]
theorem manyL_get {d k : Nat} (hk : k < 16) : (manyL d).getD k 0 = manyD d k 64 := by
  have : k = 0 ∨ k = 1 ∨ k = 2 ∨ k = 3 ∨ k = 4 ∨ k = 5 ∨ k = 6 ∨ k = 7 ∨ k = 8 ∨ k = 9 ∨ k = 10 ∨ k = 11 ∨ k = 12 ∨ k = 13 ∨ k = 14 ∨ k = 15 := by omega
  rcases this with rfl | rfl | rfl | rfl | rfl | rfl | rfl | rfl | rfl | rfl | rfl | rfl | rfl | rfl | rfl | rfl <;> rfl
def WgtI (b : List Int) (d k : Nat) (G : List Int) : Prop := G.length = 8 ∧ ∀ d', d' < 8 → G.getD d' 0 = if d' < d then wgtD b d' 16 else if d' = d then wgtD b d k else 0
theorem WgtI.start (b : List Int) : WgtI b 0 0 [0, 0, 0, 0, 0, 0, 0, 0] := ⟨rfl, fun d' h => by
  have : ([0, 0, 0, 0, 0, 0, 0, 0] : List Int).getD d' 0 = 0 := by
    have : d' = 0 ∨ d' = 1 ∨ d' = 2 ∨ d' = 3 ∨ d' = 4 ∨ d' = 5 ∨ d' = 6 ∨ d' = 7 := by omega
    rcases this with rfl | rfl | rfl | rfl | rfl | rfl | rfl | rfl <;> rfl
  rw [this, if_neg (by omega)]
  split <;> rfl⟩
theorem WgtI.turn {b : List Int} {d : Nat} {G : List Int} (h : WgtI b d 16 G) : WgtI b (d + 1) 0 G := ⟨h.1, fun d' hd => by
  rw [h.2 d' hd]
  by_cases g : d' < d
  · rw [if_pos g, if_pos (by omega)]
  · rw [if_neg g]
    by_cases g2 : d' = d
    · subst g2; rw [if_pos rfl, if_pos (by omega)]
    · rw [if_neg g2, if_neg (by omega)]
      split
      · simp [wgtD]
      · rfl⟩
theorem WgtI.next {b : List Int} {d k : Nat} {G : List Int} (h : WgtI b d k G) (hd : d < 8) {v : Int} (hv : v = wgtD b d (k + 1)) : WgtI b d (k + 1) (G.set d v) := ⟨by simpa using h.1, fun d' hd' => by
  have h1 := h.1
  rw [getD_set (by omega), h.2 d' hd']
  by_cases e : d' = d
  · subst e; rw [if_pos rfl, if_neg (by omega), if_pos rfl, hv]
  · rw [if_neg e, if_neg e, if_neg e]⟩
theorem WgtI.skip {b : List Int} {d k : Nat} {G : List Int} (h : WgtI b d k G) (hz : wgtD b d (k + 1) = wgtD b d k) : WgtI b d (k + 1) G := ⟨h.1, fun d' hd' => by rw [h.2 d' hd', hz]⟩
def strD (b : List Int) : Int := (wgtD b (bestD b 8) 16 - wgtD b ((bestD b 8 + 4) % 8) 16) / 1024
section
variable (lo : Nat) (b : List Int) (M : Mem) (bb : Bytes b) (L K : List Int) (hL : SumI b 64 0 L) (hK : ManyI 64 0 K) (Q : Value × Mem → Prop)
include bb hL
theorem dir_weight (x1 : Int) (d : Nat) (hd : d < 8) (next : ∀ G, WgtI b d 16 G → Run P T lo F.cdef_Direction (cdef_Direction.c2074196 x1 d d (manyD d 0 64) (manyD d 1 64) (manyD d 2 64) (manyD d 3 64) (manyD d 4 64) (manyD d 5 64) (manyD d 6 64) (manyD d 7 64) (manyD d 8 64) (manyD d 9 64) (manyD d 10 64) (manyD d 11 64) (manyD d 12 64) (manyD d 13 64) (manyD d 14 64) (manyD d 15 64) 16 (L.map (Value.int .i64)) (K.map (Value.int .i64)) (G.map (Value.int .i64)) M) Q) :
    ∀ (e k : Nat) (G : List Int), 16 - k = e → k ≤ 16 → WgtI b d k G → Run P T lo F.cdef_Direction (cdef_Direction.c2074196 x1 d d (manyD d 0 64) (manyD d 1 64) (manyD d 2 64) (manyD d 3 64) (manyD d 4 64) (manyD d 5 64) (manyD d 6 64) (manyD d 7 64) (manyD d 8 64) (manyD d 9 64) (manyD d 10 64) (manyD d 11 64) (manyD d 12 64) (manyD d 13 64) (manyD d 14 64) (manyD d 15 64) k (L.map (Value.int .i64)) (K.map (Value.int .i64)) (G.map (Value.int .i64)) M) Q := by
  intro e
  induction e with
  | zero =>
    intro k G he hk hG
    obtain rfl : k = 16 := by omega
    exact next G hG
  | succ e ih =>
    intro k G he hk hG
    have hk16 : k < 16 := by omega
    have nx : ∀ G', WgtI b d (k + 1) G' → Run P T lo F.cdef_Direction (cdef_Direction.c16593575 x1 d d (manyD d 0 64) (manyD d 1 64) (manyD d 2 64) (manyD d 3 64) (manyD d 4 64) (manyD d 5 64) (manyD d 6 64) (manyD d 7 64) (manyD d 8 64) (manyD d 9 64) (manyD d 10 64) (manyD d 11 64) (manyD d 12 64) (manyD d 13 64) (manyD d 14 64) (manyD d 15 64) k (L.map (Value.int .i64)) (K.map (Value.int .i64)) (G'.map (Value.int .i64)) M) Q := fun G' hG' => by
      refine Run.cut (Evp.of_eq (fun k => cdef_Direction.p16593575 k ..) ?_)
      rw [w64 (by omega)]
      exact Evp.ret (ih (k + 1) G' (by omega) (by omega) hG')
    have hml : ((manyL d).map (Value.int .i64))[k]?.bind (Value.int? .i64) = some (manyD d k 64) := by rw [tabI (by show k < 16; exact hk16), manyL_get hk16]
    have hs := hL.2 d k hd hk16
    rw [if_neg (by omega)] at hs
    have hg := hG.2 d hd
    rw [if_neg (by omega), if_pos rfl] at hg
    have s := sumD_le bb d k 64
    have q := sq_le (s := sumD b d k 64) (by omega)
    have m := manyD_le d k 64
    have wl := wgtD_le bb d k
    have tl := term_le bb d k
    have l1 := hL.1
    have g1 := hG.1
    refine Run.cut (Evp.of_eq (fun k => cdef_Direction.p2074196 k ..) ?_)
    refine Evp.dec (fun _ => ?_) fun h => absurd h (by omega)
    refine Evp.pos (by omega) ?_
    simp only [Int.toNat_natCast, Nat.add_zero, Nat.zero_add]
    refine Evp.some hml ?_
    refine Evp.eqb (fun h0 => Evp.ret (nx G (hG.skip (by simp only [wgtD]; rw [if_pos h0, Int.add_zero])))) fun h0 => ?_
    rw [if_neg h0] at tl
    refine Evp.pos (by omega) (Evp.some (tabI (by omega)) ?_)
    refine Evp.pos (by omega) (Evp.pos (by omega) (Evp.some (tabI (by omega)) ?_))
    refine Evp.pos (by omega) (Evp.pos (by omega) (Evp.some (tabI (by omega)) ?_))
    refine Evp.neg h0 (Evp.pos (by omega) (Evp.pos (by simp; omega) ?_))
    have dv : Int.tdiv 840 (manyD d k 64) = 840 / manyD d k 64 := Int.tdiv_eq_ediv_of_nonneg (by omega)
    have dl : 0 ≤ 840 / manyD d k 64 ∧ 840 / manyD d k 64 ≤ 840 := ⟨Int.ediv_nonneg (by omega) m.1, Int.ediv_le_self _ (by omega)⟩
    rw [setL_one, set_map, hs, hg, dv, w64 (x := sumD b d k 64 * sumD b d k 64) (by omega), w64 (x := 840 / manyD d k 64) (by omega), w64 (x := sumD b d k 64 * sumD b d k 64 * (840 / manyD d k 64)) (by omega), w64 (by omega)]
    refine Evp.ret (nx _ (hG.next hd ?_))
    simp only [wgtD]
    rw [if_neg h0]
include hK
theorem dir_best (fin : Q (.tuple ⟨[.int .i64 (bestD b 8 : Nat), .int .i64 (strD b), .int .i64 0]⟩, M)) : ∀ (e d : Nat) (G : List Int), 8 - d = e → d ≤ 8 → WgtI b d 0 G →
    Run P T lo F.cdef_Direction (cdef_Direction.c1012 (bestD b d : Nat) d (L.map (Value.int .i64)) (K.map (Value.int .i64)) (G.map (Value.int .i64)) M) Q := by
  intro e
  induction e with
  | zero =>
    intro d G he hd hG
    obtain rfl : d = 8 := by omega
    have bl := bestD_lt b 8
    have g1 := hG.1
    have h1 := hG.2 (bestD b 8) (by omega)
    have h2 := hG.2 ((bestD b 8 + 4) % 8) (by omega)
    rw [if_pos (by omega)] at h1
    rw [if_pos (by omega)] at h2
    have w1 := wgtD_le bb (bestD b 8) 16
    have w2 := wgtD_le bb ((bestD b 8 + 4) % 8) 16
    refine Run.cut (Evp.of_eq (fun k => cdef_Direction.p1012 k ..) ?_)
    refine Evp.dec (fun h => absurd h (by omega)) fun _ => ?_
    have et : Int.tmod (IntKind.i64.wrap (((bestD b 8 : Nat) : Int) + 4)) 8 = (((bestD b 8 + 4) % 8 : Nat) : Int) := by
      rw [w64 (by omega), show ((bestD b 8 : Nat) : Int) + 4 = ((bestD b 8 + 4 : Nat) : Int) by omega]; rfl
    rw [et]
    refine Evp.pos (by omega) ?_
    simp only [Int.toNat_natCast, Nat.add_zero, Nat.zero_add]
    refine Evp.some (tabI (by omega)) (Evp.pos (by omega) (Evp.some (tabI (by omega)) ?_))
    rw [h1, h2, w64 (by omega), shr_eq 10 (by omega)]
    exact Evp.ret (Run.ret fin)
  | succ e ih =>
    intro d G he hd hG
    have hd8 : d < 8 := by omega
    have k1 := hK.1
    have hm : ∀ j, j < 16 → ((K.map (Value.int .i64))[d * 16 + j]?).bind (Value.int? .i64) = some (manyD d j 64) := fun j hj => by
      rw [tabI (by omega), hK.2 d j hd8 hj, if_neg (by omega)]
    refine Run.cut (Evp.of_eq (fun k => cdef_Direction.p1012 k ..) ?_)
    refine Evp.dec (fun _ => ?_) fun h => absurd h (by omega)
    refine Evp.pos (by omega) ?_
    simp only [Int.toNat_natCast, Nat.zero_add]
    refine Evp.some (hm 0 (by omega)) (Evp.some (hm 1 (by omega)) (Evp.some (hm 2 (by omega)) (Evp.some (hm 3 (by omega)) (Evp.some (hm 4 (by omega)) (Evp.some (hm 5 (by omega)) (Evp.some (hm 6 (by omega)) (Evp.some (hm 7 (by omega)) ?_)))))))
    refine Evp.some (hm 8 (by omega)) (Evp.some (hm 9 (by omega)) (Evp.some (hm 10 (by omega)) (Evp.some (hm 11 (by omega)) (Evp.some (hm 12 (by omega)) (Evp.some (hm 13 (by omega)) (Evp.some (hm 14 (by omega)) (Evp.some (hm 15 (by omega)) ?_)))))))
    refine Evp.ret (dir_weight lo b M bb L K hL Q _ d hd8 (fun G' hG' => ?_) 16 0 G rfl (by omega) hG)
    have bl := bestD_lt b d
    have g1 := hG'.1
    have h1 := hG'.2 d hd8
    rw [if_neg (by omega), if_pos rfl] at h1
    have h2 : G'.getD (bestD b d) 0 = wgtD b (bestD b d) 16 := by
      rw [hG'.2 _ (by omega)]
      by_cases g : bestD b d < d
      · rw [if_pos g]
      · have e0 : bestD b d = d := by omega
        rw [if_neg g, if_pos e0, e0]
    refine Run.cut (Evp.of_eq (fun k => cdef_Direction.p2074196 k ..) ?_)
    refine Evp.dec (fun h => absurd h (by decide)) fun _ => ?_
    refine Evp.pos (by omega) ?_
    simp only [Int.toNat_natCast, Nat.add_zero, Nat.zero_add]
    refine Evp.some (tabI (by omega)) (Evp.pos (by omega) ?_)
    refine Evp.some (tabI (by omega)) ?_
    rw [h1, h2]
    have eb : bestD b (d + 1) = if wgtD b d 16 > wgtD b (bestD b d) 16 then d else bestD b d := rfl
    have go : ∀ x : Nat, x = bestD b (d + 1) → Run P T lo F.cdef_Direction (cdef_Direction.c8103 x d (L.map (Value.int .i64)) (K.map (Value.int .i64)) (G'.map (Value.int .i64)) M) Q := fun x hx => by
      subst hx
      refine Run.cut (Evp.of_eq (fun k => cdef_Direction.p8103 k ..) ?_)
      rw [w64 (by omega)]
      exact Evp.ret (ih (d + 1) G' (by omega) (by omega) hG'.turn)
    refine Evp.dec (fun g => Evp.ret (go d (by rw [eb, if_pos g]))) fun g => Evp.ret (go (bestD b d) (by rw [eb, if_neg g]))
end
def DirR (b : List Int) (M : Mem) (r : Value × Mem) : Prop := r = if b.length = 64 then (.tuple ⟨[.int .i64 (bestD b 8 : Nat), .int .i64 (strD b), .int .i64 0]⟩, M) else (.tuple ⟨[.int .i64 0, .int .i64 0, .int .i64 2]⟩, M)
theorem direction_ok (lo : Nat) (A : Option Addr) (c : Nat) (b : List Int) (M : Mem) (hx : RdI M .u8 A b) (bb : Bytes b) : Ac P T lo F.cdef_Direction [.slice A b.length c] M (DirR b M) := by
  refine Ac.of (Evp.of_eq (fun k => cdef_Direction.entry k ..) ?_)
  refine Evp.neb (fun h => Evp.ret (Run.ret (by unfold DirR; rw [if_neg (by omega)]))) fun h => ?_
  have hl : b.length = 64 := by omega
  have z : ∀ i, i < 128 → (List.replicate 128 (0 : Int)).getD i 0 = 0 := fun i hi => by rw [List.getD_eq_getElem?_getD, List.getElem?_replicate, if_pos hi]; rfl
  have sL : SumI b 0 0 (List.replicate 128 0) := ⟨List.length_replicate, fun d' k hd' hk => by rw [z _ (by omega), if_neg (by omega)]; rfl⟩
  have sK : ManyI 0 0 (List.replicate 128 0) := ⟨List.length_replicate, fun d' k hd' hk => by rw [z _ (by omega), if_neg (by omega)]; rfl⟩
  rw [hl]
  exact Evp.ret (dir_samples lo A c b M hx bb hl (DirR b M) 0 (fun L K hL hK => dir_best lo b M bb L K hL hK (DirR b M) (by unfold DirR; rw [if_pos hl]) 8 0 _ rfl (by omega) (WgtI.start b)) 64 0 _ _ rfl (by omega) sL sK)
theorem limS_le (d t p : Int) : -1048576 ≤ limS d t p ∧ limS d t p ≤ 1048576 := by
  have h1 := far20_le d
  have h4 : 0 ≤ absS (far20 d) ∧ absS (far20 d) ≤ 1048576 := by unfold absS; split <;> omega
  unfold limS
  have z0 : 0 ≤ maxI 0 (far20 t - absS (far20 d) / 2 ^ (shiftS t p).toNat) := by unfold maxI; split <;> omega
  generalize maxI 0 (far20 t - absS (far20 d) / 2 ^ (shiftS t p).toNat) = z at *
  have hz : 0 ≤ minI (absS (far20 d)) z ∧ minI (absS (far20 d)) z ≤ absS (far20 d) := by unfold minI; split <;> omega
  repeat' split
  all_goals omega
structure S3 where
  sum : Int
  low : Int
  top : Int
def tR (T : List Int) (t : Nat) : Int := T.getD (t * 4) 0
def tC (T : List Int) (t : Nat) : Int := T.getD (t * 4 + 1) 0
def tS (T : List Int) (t : Nat) : Int := T.getD (t * 4 + 2) 0
def tM (T : List Int) (t : Nat) : Int := T.getD (t * 4 + 3) 0
def inP (w h : Nat) (x y : Int) : Prop := (0 ≤ x ∧ x ≤ (w : Int) - 1) ∧ (0 ≤ y ∧ y ≤ (h : Int) - 1)
instance (w h : Nat) (x y : Int) : Decidable (inP w h x y) := inferInstanceAs (Decidable (_ ∧ _))
def atP (w : Nat) (xs : List Int) (x y : Int) : Int := xs.getD (y * w + x).toNat 0
def askS (w h : Nat) (xs : List Int) (x y v p : Int) (T : List Int) (t : Nat) (way : Int) (s : S3) : S3 :=
  if inP w h (x + way * tC T t) (y + way * tR T t) then
    ⟨s.sum + tM T t * limS (atP w xs (x + way * tC T t) (y + way * tR T t) - v) (tS T t) p, minI s.low (atP w xs (x + way * tC T t) (y + way * tR T t)), maxI s.top (atP w xs (x + way * tC T t) (y + way * tR T t))⟩
  else s
def foldS (w h : Nat) (xs : List Int) (x y v p : Int) (T : List Int) : Nat → S3
  | 0 => ⟨0, v, v⟩
  | t + 1 => askS w h xs x y v p T t (-1) (askS w h xs x y v p T t 1 (foldS w h xs x y v p T t))
def outS (v : Int) (s : S3) : Int := clipS (v + (8 + (if s.sum < 0 then s.sum - 1 else s.sum)) / 16) s.low s.top
def sampS (w h : Nat) (xs : List Int) (x y p : Int) (T : List Int) : Int := outS (atP w xs x y) (foldS w h xs x y (atP w xs x y) p T 6)
def S3B (v : Int) (n : Nat) (s : S3) : Prop := -(4194304 * (n : Int)) ≤ s.sum ∧ s.sum ≤ 4194304 * (n : Int) ∧ 0 ≤ s.low ∧ s.low ≤ v ∧ v ≤ s.top ∧ s.top ≤ 255
def TapB (T : List Int) : Prop := T.length = 24 ∧ ∀ t, t < 6 → (-2 ≤ tR T t ∧ tR T t ≤ 2) ∧ (-2 ≤ tC T t ∧ tC T t ≤ 2) ∧ (0 ≤ tM T t ∧ tM T t ≤ 4)
theorem ask_b {w h : Nat} {xs : List Int} (bx : Bytes xs) {x y v p : Int} {T : List Int} (hT : TapB T) {t : Nat} (ht : t < 6) {way : Int} {n : Nat} {s : S3} (hs : S3B v n s) : S3B v (n + 1) (askS w h xs x y v p T t way s) := by
  obtain ⟨a1, a2, a3, a4, a5, a6⟩ := hs
  unfold askS
  split
  · have l := limS_le (atP w xs (x + way * tC T t) (y + way * tR T t) - v) (tS T t) p
    have b : 0 ≤ atP w xs (x + way * tC T t) (y + way * tR T t) ∧ atP w xs (x + way * tC T t) (y + way * tR T t) ≤ 255 := bx.get _
    have m := (hT.2 t ht).2.2
    have ml := mul_abs (a := tM T t) (b := limS (atP w xs (x + way * tC T t) (y + way * tR T t) - v) (tS T t) p) (A := 4) (B := 1048576) (by omega) (by omega)
    generalize tM T t * limS (atP w xs (x + way * tC T t) (y + way * tR T t) - v) (tS T t) p = z at *
    generalize atP w xs (x + way * tC T t) (y + way * tR T t) = q at *
    refine ⟨by simp only; omega, by simp only; omega, ?_, ?_, ?_, ?_⟩
    · simp only; unfold minI; split <;> omega
    · simp only; unfold minI; split <;> omega
    · simp only; unfold maxI; split <;> omega
    · simp only; unfold maxI; split <;> omega
  · exact ⟨by omega, by omega, a3, a4, a5, a6⟩
theorem fold_b {w h : Nat} {xs : List Int} (bx : Bytes xs) {x y v p : Int} {T : List Int} (hT : TapB T) (hv : 0 ≤ v ∧ v ≤ 255) : ∀ t, t ≤ 6 → S3B v (2 * t) (foldS w h xs x y v p T t)
  | 0, _ => ⟨by simp [foldS], by simp [foldS], hv.1, Int.le_refl _, Int.le_refl _, hv.2⟩
  | t + 1, h' => by
    have := ask_b (w := w) (h := h) bx (x := x) (y := y) (p := p) hT (t := t) (by omega) (way := -1) (ask_b (w := w) (h := h) bx (x := x) (y := y) (p := p) hT (t := t) (by omega) (way := 1) (fold_b (w := w) (h := h) bx (x := x) (y := y) (p := p) hT hv t (by omega)))
    exact this
theorem out_le {v : Int} {n : Nat} {s : S3} (h : S3B v n s) : 0 ≤ outS v s ∧ outS v s ≤ 255 ∧ s.low ≤ outS v s ∧ outS v s ≤ s.top := by
  obtain ⟨_, _, a3, a4, a5, a6⟩ := h
  unfold outS clipS
  repeat' split
  all_goals omega
section
variable (lo : Nat) (w h : Nat) (A R : Option Addr) (cap cr : Nat) (xs T : List Int) (x y : Nat) (p : Int) (M : Mem)
variable (hx : RdI M .u8 A xs) (hR : Rd M R 6 4 (T.map (Value.int .i64))) (bx : Bytes xs) (hT : TapB T) (hw : 1 ≤ w ∧ w ≤ 512) (hh : 1 ≤ h ∧ h ≤ 512) (hl : xs.length = h * w) (hxw : x < w) (hyh : y < h)
include hx bx hT hw hh hl hxw hyh
theorem sample_way (v : Int) (hv : 0 ≤ v ∧ v ≤ 255) (t : Nat) (ht : t < 6) (way : Int) (hway : way = 1 ∨ way = -1) (j : Nat) (hj : j < 2) (hwj : (([.int .i64 1, .int .i64 (-1)] : List Value)[j]?).bind (Value.int? .i64) = some way) (n : Nat) (hn : n ≤ 12) (s : S3) (hs : S3B v n s) (Q : Value × Mem → Prop)
    (next : ∀ s', s' = askS w h xs x y v p T t way s → Run P Zt.T lo F.cdef_sample (cdef_sample.c501351 x y p v s'.sum s'.low s'.top R 6 cr 6 t 1 (-1) j w h A xs.length cap (tR T t) (tC T t) (tS T t) (tM T t) M) Q) :
    Run P Zt.T lo F.cdef_sample (cdef_sample.c62668 x y p v s.sum s.low s.top R 6 cr 6 t 1 (-1) j w h A xs.length cap (tR T t) (tC T t) (tS T t) (tM T t) M) Q := by
  obtain ⟨⟨r1, r2⟩, ⟨c1, c2⟩, m1, m2⟩ := hT.2 t ht
  obtain ⟨a1, a2, a3, a4, a5, a6⟩ := hs
  have wr : -2 ≤ way * tR T t ∧ way * tR T t ≤ 2 := by rcases hway with rfl | rfl <;> omega
  have wc : -2 ≤ way * tC T t ∧ way * tC T t ≤ 2 := by rcases hway with rfl | rfl <;> omega
  have sm : h * w ≤ 512 * 512 := Nat.mul_le_mul hh.2 hw.2
  refine Run.cut (Evp.of_eq (fun k => cdef_sample.p62668 k ..) ?_)
  refine Evp.dec (fun _ => ?_) fun g => absurd g (by omega)
  refine Evp.pos (by omega) ?_
  simp only [Int.toNat_natCast, Nat.add_zero]
  refine Evp.some hwj ?_
  rw [w64 (x := way * tC T t) (by omega), w64 (x := way * tR T t) (by omega), w64 (x := (x : Int) + way * tC T t) (by omega), w64 (x := (y : Int) + way * tR T t) (by omega), w64 (x := (w : Int) - 1) (by omega), w64 (x := (h : Int) - 1) (by omega)]
  have win : ∀ (v a b : Int), Ac P Zt.T lo F.cdef_within [.int .i64 v, .int .i64 a, .int .i64 b] M fun r => r = (.bool (decide (a ≤ v ∧ v ≤ b)), M) := fun v a b => by
    refine Ac.of (Evp.of_eq (fun k => cdef_within.entry k ..) ?_)
    refine Evp.dec (fun h => Evp.ret (Run.ret ?_)) fun h => Evp.ret (Run.ret (by rw [decide_eq_false (fun e => h e.1)]))
    congr 2
    exact decide_eq_decide.2 ⟨fun e => ⟨h, e⟩, fun e => e.2⟩
  refine Evp.ob (win _ _ _) ?_
  rintro _ rfl
  simp only [ret_int, ret_bool, ret_flt, ret_slc, ret_str, ret_ptr, ret_agg, ret_tup, ob_some, bb_true, bb_false, List.getElem?_cons_zero, List.getElem?_cons_succ, List.length_cons, List.length_nil, Nat.reduceAdd, Nat.reduceLT]
  refine Evp.nb (fun g => Evp.ret (next s (by unfold askS; rw [if_neg (fun e => of_decide_eq_false g e.1)]))) fun g1 => ?_
  have g1 := of_decide_eq_true g1
  refine Evp.ob (win _ _ _) ?_
  rintro _ rfl
  simp only [ret_int, ret_bool, ret_flt, ret_slc, ret_str, ret_ptr, ret_agg, ret_tup, ob_some, bb_true, bb_false, List.getElem?_cons_zero, List.getElem?_cons_succ, List.length_cons, List.length_nil, Nat.reduceAdd, Nat.reduceLT]
  refine Evp.nb (fun g => Evp.ret (next s (by unfold askS; rw [if_neg (fun e => of_decide_eq_false g e.2)]))) fun g2 => ?_
  have g2 := of_decide_eq_true g2
  have hin : inP w h ((x : Int) + way * tC T t) ((y : Int) + way * tR T t) := ⟨g1, g2⟩
  have nx := next ⟨s.sum + tM T t * limS (atP w xs ((x : Int) + way * tC T t) ((y : Int) + way * tR T t) - v) (tS T t) p, minI s.low (atP w xs ((x : Int) + way * tC T t) ((y : Int) + way * tR T t)), maxI s.top (atP w xs ((x : Int) + way * tC T t) ((y : Int) + way * tR T t))⟩ (by unfold askS; rw [if_pos hin])
  unfold atP at nx
  generalize (x : Int) + way * tC T t = cx at *
  generalize (y : Int) + way * tR T t = cy at *
  obtain ⟨X, rfl⟩ := Int.eq_ofNat_of_zero_le g1.1
  obtain ⟨Y, rfl⟩ := Int.eq_ofNat_of_zero_le g2.1
  have hlt : Y * w + X < h * w := by
    have : (Y + 1) * w ≤ h * w := Nat.mul_le_mul_right w (by omega)
    rw [Nat.add_mul, Nat.one_mul] at this
    omega
  have ei : IntKind.i64.wrap ((IntKind.i64.wrap ((Y : Int) * w)) + (X : Int)) = ((Y * w + X : Nat) : Int) := by
    rw [← Int.natCast_mul, w64 (x := ((Y * w : Nat) : Int)) (by omega), w64 (by omega)]; omega
  have en : ((Y : Int) * w + X).toNat = Y * w + X := by rw [← Int.natCast_mul]; omega
  rw [en] at nx
  rw [ei]
  refine Evp.pos (by omega) ?_
  simp only [Int.toNat_natCast]
  refine Evp.ldI hx (by omega) fun _ _ => ?_
  have bb := bx.get (Y * w + X)
  rw [w64 (x := xs.getD (Y * w + X) 0) (by omega), w64 (x := xs.getD (Y * w + X) 0 - v) (by omega)]
  refine Evp.ob (limit_ok M.length _ _ _ M) ?_
  rintro _ rfl
  simp only [ret_int, ret_bool, ret_flt, ret_slc, ret_str, ret_ptr, ret_agg, ret_tup, ob_some, bb_true, bb_false, List.getElem?_cons_zero, List.getElem?_cons_succ, List.length_cons, List.length_nil, Nat.reduceAdd, Nat.reduceLT]
  have l := limS_le (xs.getD (Y * w + X) 0 - v) (tS T t) p
  have ml := mul_abs (a := tM T t) (b := limS (xs.getD (Y * w + X) 0 - v) (tS T t) p) (A := 4) (B := 1048576) (by omega) (by omega)
  rw [w64 (x := tM T t * limS (xs.getD (Y * w + X) 0 - v) (tS T t) p) (by omega), w64 (x := s.sum + tM T t * limS (xs.getD (Y * w + X) 0 - v) (tS T t) p) (by omega)]
  exact Evp.ret nx
include hR
theorem sample_taps (v : Int) (hv : 0 ≤ v ∧ v ≤ 255) (Q : Value × Mem → Prop) (fin : Q (.int .u8 (outS v (foldS w h xs x y v p T 6)), M)) : ∀ (d t : Nat) (s : S3), 6 - t = d → t ≤ 6 → s = foldS w h xs x y v p T t →
    Run P Zt.T lo F.cdef_sample (cdef_sample.c244 x y p v s.sum s.low s.top R 6 cr 6 t w h A xs.length cap M) Q := by
  intro d
  induction d with
  | zero =>
    intro t s hd ht hs
    obtain rfl : t = 6 := by omega
    have sb := fold_b (w := w) (h := h) bx (x := x) (y := y) (v := v) (p := p) hT hv 6 (by omega)
    rw [← hs] at fin sb
    obtain ⟨a1, a2, a3, a4, a5, a6⟩ := sb
    have ol := out_le (v := v) ⟨a1, a2, a3, a4, a5, a6⟩
    have last : ∀ z : Int, z = (if s.sum < 0 then s.sum - 1 else s.sum) → Run P Zt.T lo F.cdef_sample (cdef_sample.c63 v z s.low s.top M) Q := fun z hz => by
      have zb : -60000000 ≤ z ∧ z ≤ 60000000 := by rw [hz]; split <;> omega
      refine Run.cut (Evp.of_eq (fun k => cdef_sample.p63 k ..) ?_)
      rw [w64 (x := 8 + z) (by omega), shr_eq 4 (by omega), show ((2 : Int) ^ 4) = 16 from rfl, w64 (by omega)]
      refine Evp.ob (cclip_ok lo _ _ _ M (by omega)) ?_
      rintro _ rfl
      simp only [ret_int, ret_bool, ret_flt, ret_slc, ret_str, ret_ptr, ret_agg, ret_tup, ob_some, bb_true, bb_false, List.getElem?_cons_zero, List.getElem?_cons_succ, List.length_cons, List.length_nil, Nat.reduceAdd, Nat.reduceLT]
      refine Evp.ret (Run.ret ?_)
      have : clipS (v + (8 + z) / 16) s.low s.top = outS v s := by unfold outS; rw [hz]
      rw [this, wu8 (by omega)]
      exact fin
    refine Run.cut (Evp.of_eq (fun k => cdef_sample.p244 k ..) ?_)
    refine Evp.dec (fun g => absurd g (by omega)) fun _ => ?_
    refine Evp.dec (fun g => ?_) fun g => Evp.ret (last _ (by rw [if_neg g]))
    rw [w64 (by omega)]
    exact Evp.ret (last _ (by rw [if_pos g]))
  | succ d ih =>
    intro t s hd ht hs
    have ht6 : t < 6 := by omega
    have tl := hT.1
    have hm : ∀ k, k < 4 → ∃ a, R = some a ∧ (M.ld (plus a (t * 4 + k))).bind (Value.int? .i64) = some (T.getD (t * 4 + k) 0) := fun k hk => by
      obtain ⟨a, ea, _, hld⟩ := Rd.get hR (i := t * 4 + k) (by omega)
      refine ⟨a, ea, ?_⟩
      rw [hld]
      exact tab_get T (t * 4 + k) (by omega)
    obtain ⟨a, rfl, h0⟩ := hm 0 (by omega)
    obtain ⟨_, e, h1⟩ := hm 1 (by omega); injection e with e; subst e
    obtain ⟨_, e, h2⟩ := hm 2 (by omega); injection e with e; subst e
    obtain ⟨_, e, h3⟩ := hm 3 (by omega); injection e with e; subst e
    have sb := fold_b (w := w) (h := h) bx (x := x) (y := y) (v := v) (p := p) hT hv t (by omega)
    rw [← hs] at sb
    refine Run.cut (Evp.of_eq (fun k => cdef_sample.p244 k ..) ?_)
    refine Evp.dec (fun _ => ?_) fun g => absurd g (by omega)
    refine Evp.pos (by omega) ?_
    simp only [Int.toNat_natCast, plus_plus]
    refine Evp.some rfl (Evp.some h0 (Evp.some h1 (Evp.some h2 (Evp.some h3 ?_))))
    have turn : ∀ (j : Nat) (s' : S3), j < 2 → Run P Zt.T lo F.cdef_sample (cdef_sample.c62668 x y p v s'.sum s'.low s'.top (some a) 6 cr 6 t 1 (-1) ((j + 1 : Nat) : Int) w h A xs.length cap (tR T t) (tC T t) (tS T t) (tM T t) M) Q → Run P Zt.T lo F.cdef_sample (cdef_sample.c501351 x y p v s'.sum s'.low s'.top (some a) 6 cr 6 t 1 (-1) j w h A xs.length cap (tR T t) (tC T t) (tS T t) (tM T t) M) Q := fun j s' hj hr => by
      refine Run.cut (Evp.of_eq (fun k => cdef_sample.p501351 k ..) ?_)
      rw [w64 (by omega)]
      exact Evp.ret hr
    refine Evp.ret (sample_way lo w h A (some a) cap cr xs T x y p M hx bx hT hw hh hl hxw hyh v hv t ht6 1 (.inl rfl) 0 (by omega) rfl (2 * t) (by omega) s sb Q fun s1 hs1 => turn 0 s1 (by omega) ?_)
    have sb1 : S3B v (2 * t + 1) s1 := by rw [hs1]; exact ask_b bx hT ht6 sb
    refine sample_way lo w h A (some a) cap cr xs T x y p M hx bx hT hw hh hl hxw hyh v hv t ht6 (-1) (.inr rfl) 1 (by omega) rfl (2 * t + 1) (by omega) s1 sb1 Q fun s2 hs2 => turn 1 s2 (by omega) ?_
    refine Run.cut (Evp.of_eq (fun k => cdef_sample.p62668 k ..) ?_)
    refine Evp.dec (fun g => absurd g (by decide)) fun _ => ?_
    rw [w64 (by omega)]
    refine Evp.ret (ih (t + 1) s2 (by omega) (by omega) ?_)
    rw [hs2, hs1, hs]
    rfl
theorem sample_ok : Ac P Zt.T lo F.cdef_sample [.agg ⟨[.int .i64 w, .int .i64 h, .slice A xs.length cap]⟩, .int .i64 x, .int .i64 y, .slice R 6 cr, .int .i64 p] M fun r => r = (.int .u8 (sampS w h xs x y p T), M) := by
  have sm : h * w ≤ 512 * 512 := Nat.mul_le_mul hh.2 hw.2
  have hlt : y * w + x < h * w := by
    have : (y + 1) * w ≤ h * w := Nat.mul_le_mul_right w (by omega)
    rw [Nat.add_mul, Nat.one_mul] at this
    omega
  have ei : IntKind.i64.wrap ((IntKind.i64.wrap ((y : Int) * w)) + (x : Int)) = ((y * w + x : Nat) : Int) := by
    rw [← Int.natCast_mul, w64 (x := ((y * w : Nat) : Int)) (by omega), w64 (by omega)]; omega
  have en : atP w xs x y = xs.getD (y * w + x) 0 := by
    unfold atP
    rw [show ((y : Int) * w + x).toNat = y * w + x by rw [← Int.natCast_mul]; omega]
  have bb := bx.get (y * w + x)
  refine Ac.of (Evp.of_eq (fun k => cdef_sample.entry k ..) ?_)
  rw [ei]
  refine Evp.pos (by omega) ?_
  simp only [Int.toNat_natCast]
  refine Evp.ldI hx (by omega) fun _ _ => ?_
  rw [w64 (by omega)]
  refine Evp.ret (sample_taps lo w h A R cap cr xs T x y p M hx hR bx hT hw hh hl hxw hyh (xs.getD (y * w + x) 0) bb _ ?_ 6 0 ⟨0, xs.getD (y * w + x) 0, xs.getD (y * w + x) 0⟩ rfl (by omega) rfl)
  unfold sampS
  rw [en]
end
def alongL : List Int := [-1, 1, -2, 2, 0, 1, -1, 2, 0, 1, 0, 2, 0, 1, 1, 2, 1, 1, 2, 2, 1, 0, 2, 1, 1, 0, 2, 0, 1, 0, 2, -1]
def timesN (pri : Nat) (k : Nat) : Int := if pri % 2 = 1 then 3 else if k = 0 then 4 else 2
def tapHalf (dir pri sec k : Nat) : List Int :=
  [alongL.getD (dir * 4 + k * 2) 0, alongL.getD (dir * 4 + k * 2 + 1) 0, pri, timesN pri k,
   alongL.getD ((dir + 2) % 8 * 4 + k * 2) 0, alongL.getD ((dir + 2) % 8 * 4 + k * 2 + 1) 0, sec, 2 - k,
   alongL.getD ((dir + 6) % 8 * 4 + k * 2) 0, alongL.getD ((dir + 6) % 8 * 4 + k * 2 + 1) 0, sec, 2 - k]
def tapsS (dir pri sec : Nat) : List Int := tapHalf dir pri sec 0 ++ tapHalf dir pri sec 1
theorem along_le : ∀ i, i < 32 → -2 ≤ alongL.getD i 0 ∧ alongL.getD i 0 ≤ 2 := by decide
theorem timesN_le (pri k : Nat) : 0 ≤ timesN pri k ∧ timesN pri k ≤ 4 := by
  unfold timesN
  repeat' split
  all_goals omega
theorem tapsS_b {dir pri sec : Nat} (hd : dir < 8) : TapB (tapsS dir pri sec) := by
  have al := fun (i : Nat) (h : i < 32) => along_le i h
  have t0 := timesN_le pri 0
  have t1 := timesN_le pri 1
  refine ⟨rfl, fun t ht => ?_⟩
  have : t = 0 ∨ t = 1 ∨ t = 2 ∨ t = 3 ∨ t = 4 ∨ t = 5 := by omega
  rcases this with rfl | rfl | rfl | rfl | rfl | rfl
  · exact ⟨al _ (by omega), al _ (by omega), t0⟩
  · exact ⟨al _ (by omega), al _ (by omega), by show (0 : Int) ≤ 2 - ((0 : Nat) : Int) ∧ 2 - ((0 : Nat) : Int) ≤ 4; omega⟩
  · exact ⟨al _ (by omega), al _ (by omega), by show (0 : Int) ≤ 2 - ((0 : Nat) : Int) ∧ 2 - ((0 : Nat) : Int) ≤ 4; omega⟩
  · exact ⟨al _ (by omega), al _ (by omega), t1⟩
  · exact ⟨al _ (by omega), al _ (by omega), by show (0 : Int) ≤ 2 - ((1 : Nat) : Int) ∧ 2 - ((1 : Nat) : Int) ≤ 4; omega⟩
  · exact ⟨al _ (by omega), al _ (by omega), by show (0 : Int) ≤ 2 - ((1 : Nat) : Int) ∧ 2 - ((1 : Nat) : Int) ≤ 4; omega⟩
theorem along_ok (lo : Nat) (M : Mem) : Ac P T lo F.cdef_along [] M fun r => r = (.agg ⟨alongL.map (Value.int .i64)⟩, M) := by
  refine Ac.of (Evp.of_eq (fun k => cdef_along.entry k ..) ?_)
  exact Evp.ret (Run.ret rfl)
theorem taps_ok (lo dir pri sec : Nat) (M : Mem) (hlo : lo ≤ M.length) (hd : dir < 8) (hp : pri ≤ 15) (hs : sec ≤ 4) : Ac P T lo F.cdef_taps [.int .i64 dir, .int .i64 pri, .int .i64 sec] M fun r => ∃ R cr M', r = (.slice R 6 cr, M') ∧ Pre M M' ∧ Rd M' R 6 4 ((tapsS dir pri sec).map (Value.int .i64)) := by
  have ag : ∀ i, i < 32 → ((alongL.map (Value.int .i64))[i]?).bind (Value.int? .i64) = some (alongL.getD i 0) := fun i hi => tabI hi
  have d2 : Int.tmod (IntKind.i64.wrap ((dir : Int) + 2)) 8 = (((dir + 2) % 8 : Nat) : Int) := by
    rw [w64 (by omega), show (dir : Int) + 2 = ((dir + 2 : Nat) : Int) by omega]; rfl
  have d6 : Int.tmod (IntKind.i64.wrap ((IntKind.i64.wrap ((dir : Int) + 8)) - 2)) 8 = (((dir + 6) % 8 : Nat) : Int) := by
    rw [w64 (x := (dir : Int) + 8) (by omega), w64 (by omega), show (dir : Int) + 8 - 2 = ((dir + 6 : Nat) : Int) by omega]; rfl
  have half : ∀ (t0 t1 : Int) (k : Nat) (A : Option Addr) (c : Nat) (cs : List Value) (M1 : Mem), t0 = timesN pri 0 → t1 = timesN pri 1 → k < 2 → Pre M M1 → Grow M M1 4 A (3 * k) cs →
      (∀ A' c' M2, Pre M M2 → Grow M M2 4 A' (3 * (k + 1)) (cs ++ (tapHalf dir pri sec k).map (Value.int .i64)) → Run P T lo F.cdef_taps (cdef_taps.c1012 dir pri sec A' (3 * (k + 1)) c' ((k + 1 : Nat) : Int) (-1) 1 (-2) 2 0 1 (-1) 2 0 1 0 2 0 1 1 2 1 1 2 2 1 0 2 1 1 0 2 0 1 0 2 (-1) t0 t1 M2) fun r => ∃ R cr M', r = (.slice R 6 cr, M') ∧ Pre M M' ∧ Rd M' R 6 4 ((tapsS dir pri sec).map (Value.int .i64))) →
      Run P T lo F.cdef_taps (cdef_taps.c1012 dir pri sec A (3 * k) c k (-1) 1 (-2) 2 0 1 (-1) 2 0 1 0 2 0 1 1 2 1 1 2 2 1 0 2 1 1 0 2 0 1 0 2 (-1) t0 t1 M1) fun r => ∃ R cr M', r = (.slice R 6 cr, M') ∧ Pre M M' ∧ Rd M' R 6 4 ((tapsS dir pri sec).map (Value.int .i64)) := by
    intro t0 t1 k A c cs M1 e0 e1 hk hpM hg next
    have tk : (([.int .i64 t0, .int .i64 t1] : List Value)[k]?).bind (Value.int? .i64) = some (timesN pri k) := by
      have : k = 0 ∨ k = 1 := by omega
      rcases this with rfl | rfl
      · rw [e0]; rfl
      · rw [e1]; rfl
    refine Run.cut (Evp.of_eq (fun k => cdef_taps.p1012 k ..) ?_)
    rw [d2, d6]
    refine Evp.dec (fun _ => ?_) fun g => absurd g (by omega)
    refine Evp.pos (by omega) (Evp.pos (by omega) ?_)
    simp only [Int.toNat_natCast, Nat.add_zero, Nat.zero_add]
    refine Evp.some (ag (dir * 4 + k * 2) (by omega)) (Evp.some (ag (dir * 4 + k * 2 + 1) (by omega)) ?_)
    refine Evp.pos (by omega) (Evp.some tk ?_)
    refine Evp.pos (by omega) (Evp.pos (by omega) ?_)
    refine Evp.some (ag ((dir + 2) % 8 * 4 + k * 2) (by omega)) (Evp.some (ag ((dir + 2) % 8 * 4 + k * 2 + 1) (by omega)) ?_)
    refine Evp.pos (by omega) (Evp.pos (by omega) ?_)
    refine Evp.some (ag ((dir + 6) % 8 * 4 + k * 2) (by omega)) (Evp.some (ag ((dir + 6) % 8 * 4 + k * 2 + 1) (by omega)) ?_)
    rw [w64 (x := 2 - (k : Int)) (by omega), w64 (x := (k : Int) + 1) (by omega)]
    obtain ⟨⟨sa, sn, sc⟩, M3, e3, g3, hsn, p3, _, _⟩ := hg.app (lo := lo) (bytes := 32) (c := c) (m := 3) (vs := (tapHalf dir pri sec k).map (Value.int .i64)) hpM hlo rfl (by omega) (by omega)
    refine Evp.some e3 ?_
    simp only at hsn g3
    subst hsn
    exact Evp.ret (next sa sc M3 p3 g3)
  have all : ∀ (t0 t1 : Int), t0 = timesN pri 0 → t1 = timesN pri 1 → Run P T lo F.cdef_taps (cdef_taps.c31 dir pri sec (-1) 1 (-2) 2 0 1 (-1) 2 0 1 0 2 0 1 1 2 1 1 2 2 1 0 2 1 1 0 2 0 1 0 2 (-1) t0 t1 M) fun r => ∃ R cr M', r = (.slice R 6 cr, M') ∧ Pre M M' ∧ Rd M' R 6 4 ((tapsS dir pri sec).map (Value.int .i64)) := fun t0 t1 e0 e1 => by
    refine Run.cut (Evp.of_eq (fun k => cdef_taps.p31 k ..) ?_)
    refine Evp.ret (half t0 t1 0 none 0 [] M e0 e1 (by omega) (Pre.refl _) Grow.nil fun A1 c1 M1 p1 g1 => half t0 t1 1 A1 c1 _ M1 e0 e1 (by omega) p1 g1 fun A2 c2 M2 p2 g2 => ?_)
    refine Run.cut (Evp.of_eq (fun k => cdef_taps.p1012 k ..) ?_)
    refine Evp.dec (fun g => absurd g (by decide)) fun _ => Evp.ret (Run.ret ⟨A2, c2, M2, rfl, p2, ?_⟩)
    have := g2.rd
    unfold tapsS
    rw [List.map_append]
    exact this
  have tm : Int.tmod (pri : Int) 2 = ((pri % 2 : Nat) : Int) := rfl
  refine Ac.of (Evp.of_eq (fun k => cdef_taps.entry k ..) ?_)
  refine Evp.ob (along_ok lo M) ?_
  rintro _ rfl
  simp only [alongL, List.map_cons, List.map_nil, ret_int, ret_bool, ret_flt, ret_slc, ret_str, ret_ptr, ret_agg, ret_tup, ob_some, bb_true, bb_false, List.getElem?_cons_zero, List.getElem?_cons_succ, List.length_cons, List.length_nil, Nat.reduceAdd, Nat.reduceLT]
  rw [tm]
  refine Evp.eqb (fun g => Evp.ret (all 3 3 (by unfold timesN; rw [if_pos (by omega)]) (by unfold timesN; rw [if_pos (by omega)]))) fun g => Evp.ret (all 4 2 (by unfold timesN; rw [if_neg (by omega), if_pos rfl]) (by unfold timesN; rw [if_neg (by omega), if_neg (by omega)]))
def blockS (w h : Nat) (xs : List Int) (X Y W : Nat) (p : Int) (T : List Int) (n : Nat) : List Int := (List.range n).map fun i => sampS w h xs ((X + i % W : Nat) : Int) ((Y + i / W : Nat) : Int) p T
theorem blockS_succ (w h : Nat) (xs : List Int) (X Y W : Nat) (p : Int) (T : List Int) (n : Nat) : blockS w h xs X Y W p T (n + 1) = blockS w h xs X Y W p T n ++ [sampS w h xs ((X + n % W : Nat) : Int) ((Y + n / W : Nat) : Int) p T] := by
  unfold blockS; rw [List.range_succ, List.map_append]; rfl
def BlockOk (w h n x y rw rh dir pri sec p : Int) : Prop := checkS w h n = 0 ∧ (1 ≤ rw ∧ rw ≤ 64) ∧ (1 ≤ rh ∧ rh ≤ 64) ∧ (0 ≤ x ∧ x ≤ w - rw) ∧ (0 ≤ y ∧ y ≤ h - rh) ∧ (0 ≤ dir ∧ dir ≤ 7) ∧ (0 ≤ pri ∧ pri ≤ 15) ∧ (0 ≤ sec ∧ sec ≤ 4) ∧ (0 ≤ p ∧ p ≤ 6)
instance (w h n x y rw rh dir pri sec p : Int) : Decidable (BlockOk w h n x y rw rh dir pri sec p) := inferInstanceAs (Decidable (_ ∧ _))
theorem cwithin_ok (lo : Nat) (v a b : Int) (M : Mem) : Ac P T lo F.cdef_within [.int .i64 v, .int .i64 a, .int .i64 b] M fun r => r = (.bool (decide (a ≤ v ∧ v ≤ b)), M) := by
  refine Ac.of (Evp.of_eq (fun k => cdef_within.entry k ..) ?_)
  refine Evp.dec (fun h => Evp.ret (Run.ret ?_)) fun h => Evp.ret (Run.ret (by rw [decide_eq_false (fun e => h e.1)]))
  congr 2
  exact decide_eq_decide.2 ⟨fun e => ⟨h, e⟩, fun e => e.2⟩
def BlockR (M : Mem) (w h : Int) (xs : List Int) (x y rw rh dir pri sec p : Int) (r : Value × Mem) : Prop :=
  Pre M r.2 ∧ if BlockOk w h xs.length x y rw rh dir pri sec p then ∃ A c, r.1 = .tuple ⟨[.slice A (rw.toNat * rh.toNat) c, .int .i64 0]⟩ ∧ rw.toNat * rh.toNat ≤ c ∧ Grow M r.2 1 A (rw.toNat * rh.toNat) ((blockS w.toNat h.toNat xs x.toNat y.toNat rw.toNat p (tapsS dir.toNat pri.toNat sec.toNat) (rw.toNat * rh.toNat)).map (Value.int .u8))
    else r.1 = .tuple ⟨[.slice none 0 0, .int .i64 2]⟩
section
variable (lo : Nat) (A : Option Addr) (c : Nat) (xs : List Int) (w h : Int) (x y rw' rh dir pri sec p : Int) (M : Mem) (hlo : lo ≤ M.length) (hx : RdI M .u8 A xs) (bx : Bytes xs)
include hlo hx bx
theorem block_ok : Ac P T lo F.cdef_Block [.agg ⟨[.int .i64 w, .int .i64 h, .slice A xs.length c]⟩, .agg ⟨[.int .i64 x, .int .i64 y, .int .i64 rw', .int .i64 rh]⟩, .int .i64 dir, .int .i64 pri, .int .i64 sec, .int .i64 p] M (BlockR M w h xs x y rw' rh dir pri sec p) := by
  have bad : ¬ BlockOk w h xs.length x y rw' rh dir pri sec p → Run P T lo F.cdef_Block (.ret (.tuple ⟨[.slice none 0 0, .int .i64 2]⟩) M) (BlockR M w h xs x y rw' rh dir pri sec p) := fun hno => Run.ret ⟨Pre.refl _, by rw [if_neg hno]⟩
  refine Ac.of (Evp.of_eq (fun k => cdef_Block.entry k ..) ?_)
  refine Evp.ob (check_ok ..) ?_
  rintro _ rfl
  simp only [ret_int, ret_bool, ret_flt, ret_slc, ret_str, ret_ptr, ret_agg, ret_tup, ob_some, bb_true, bb_false, List.getElem?_cons_zero, List.getElem?_cons_succ, List.length_cons, List.length_nil, Nat.reduceAdd, Nat.reduceLT]
  refine Evp.eqb (fun k1 => ?_) fun g => Evp.ret (bad fun e => g e.1)
  have s1 := checkS_len' k1
  refine Evp.ob (cwithin_ok ..) ?_
  rintro _ rfl
  simp only [ret_int, ret_bool, ret_flt, ret_slc, ret_str, ret_ptr, ret_agg, ret_tup, ob_some, bb_true, bb_false, List.getElem?_cons_zero, List.getElem?_cons_succ, List.length_cons, List.length_nil, Nat.reduceAdd, Nat.reduceLT]
  refine Evp.dec (fun k2 => ?_) fun g => Evp.ret (bad fun e => g e.2.1)
  refine Evp.ob (cwithin_ok ..) ?_
  rintro _ rfl
  simp only [ret_int, ret_bool, ret_flt, ret_slc, ret_str, ret_ptr, ret_agg, ret_tup, ob_some, bb_true, bb_false, List.getElem?_cons_zero, List.getElem?_cons_succ, List.length_cons, List.length_nil, Nat.reduceAdd, Nat.reduceLT]
  refine Evp.dec (fun k3 => ?_) fun g => Evp.ret (bad fun e => g e.2.2.1)
  rw [w64 (x := w - rw') (by omega), w64 (x := h - rh) (by omega)]
  refine Evp.ob (cwithin_ok ..) ?_
  rintro _ rfl
  simp only [ret_int, ret_bool, ret_flt, ret_slc, ret_str, ret_ptr, ret_agg, ret_tup, ob_some, bb_true, bb_false, List.getElem?_cons_zero, List.getElem?_cons_succ, List.length_cons, List.length_nil, Nat.reduceAdd, Nat.reduceLT]
  refine Evp.dec (fun k4 => ?_) fun g => Evp.ret (bad fun e => g e.2.2.2.1)
  refine Evp.ob (cwithin_ok ..) ?_
  rintro _ rfl
  simp only [ret_int, ret_bool, ret_flt, ret_slc, ret_str, ret_ptr, ret_agg, ret_tup, ob_some, bb_true, bb_false, List.getElem?_cons_zero, List.getElem?_cons_succ, List.length_cons, List.length_nil, Nat.reduceAdd, Nat.reduceLT]
  refine Evp.nb (fun g => Evp.ret (bad fun e => of_decide_eq_false g e.2.2.2.2.1)) fun k5 => ?_
  have k5 := of_decide_eq_true k5
  refine Evp.ob (cwithin_ok ..) ?_
  rintro _ rfl
  simp only [ret_int, ret_bool, ret_flt, ret_slc, ret_str, ret_ptr, ret_agg, ret_tup, ob_some, bb_true, bb_false, List.getElem?_cons_zero, List.getElem?_cons_succ, List.length_cons, List.length_nil, Nat.reduceAdd, Nat.reduceLT]
  refine Evp.nb (fun g => Evp.ret (bad fun e => of_decide_eq_false g e.2.2.2.2.2.1)) fun k6 => ?_
  have k6 := of_decide_eq_true k6
  refine Evp.ob (cwithin_ok ..) ?_
  rintro _ rfl
  simp only [ret_int, ret_bool, ret_flt, ret_slc, ret_str, ret_ptr, ret_agg, ret_tup, ob_some, bb_true, bb_false, List.getElem?_cons_zero, List.getElem?_cons_succ, List.length_cons, List.length_nil, Nat.reduceAdd, Nat.reduceLT]
  refine Evp.nb (fun g => Evp.ret (bad fun e => of_decide_eq_false g e.2.2.2.2.2.2.1)) fun k7 => ?_
  have k7 := of_decide_eq_true k7
  refine Evp.ob (cwithin_ok ..) ?_
  rintro _ rfl
  simp only [ret_int, ret_bool, ret_flt, ret_slc, ret_str, ret_ptr, ret_agg, ret_tup, ob_some, bb_true, bb_false, List.getElem?_cons_zero, List.getElem?_cons_succ, List.length_cons, List.length_nil, Nat.reduceAdd, Nat.reduceLT]
  refine Evp.nb (fun g => Evp.ret (bad fun e => of_decide_eq_false g e.2.2.2.2.2.2.2.1)) fun k8 => ?_
  have k8 := of_decide_eq_true k8
  refine Evp.ob (cwithin_ok ..) ?_
  rintro _ rfl
  simp only [ret_int, ret_bool, ret_flt, ret_slc, ret_str, ret_ptr, ret_agg, ret_tup, ob_some, bb_true, bb_false, List.getElem?_cons_zero, List.getElem?_cons_succ, List.length_cons, List.length_nil, Nat.reduceAdd, Nat.reduceLT]
  refine Evp.nb (fun g => Evp.ret (bad fun e => of_decide_eq_false g e.2.2.2.2.2.2.2.2)) fun k9 => ?_
  have k9 := of_decide_eq_true k9
  have ok : BlockOk w h xs.length x y rw' rh dir pri sec p := ⟨k1, k2, k3, k4, k5, k6, k7, k8, k9⟩
  obtain ⟨w, rfl⟩ := Int.eq_ofNat_of_zero_le (a := w) (by omega)
  obtain ⟨h, rfl⟩ := Int.eq_ofNat_of_zero_le (a := h) (by omega)
  obtain ⟨X, rfl⟩ := Int.eq_ofNat_of_zero_le k4.1
  obtain ⟨Y, rfl⟩ := Int.eq_ofNat_of_zero_le k5.1
  obtain ⟨W, rfl⟩ := Int.eq_ofNat_of_zero_le (a := rw') (by omega)
  obtain ⟨H, rfl⟩ := Int.eq_ofNat_of_zero_le (a := rh) (by omega)
  obtain ⟨dir, rfl⟩ := Int.eq_ofNat_of_zero_le k6.1
  obtain ⟨pri, rfl⟩ := Int.eq_ofNat_of_zero_le k7.1
  obtain ⟨sec, rfl⟩ := Int.eq_ofNat_of_zero_le k8.1
  have n1 : xs.length = h * w := by have := s1.2.2.2.2; rw [← Int.natCast_mul, Nat.mul_comm] at this; omega
  have sm : W * H ≤ 64 * 64 := Nat.mul_le_mul (by omega) (by omega)
  refine Evp.ob (taps_ok lo dir pri sec M hlo (by omega) (by omega) (by omega)) ?_
  rintro _ ⟨R, cr, M1, rfl, p1, hR⟩
  simp only [ret_int, ret_bool, ret_flt, ret_slc, ret_str, ret_ptr, ret_agg, ret_tup, ob_some, bb_true, bb_false, List.getElem?_cons_zero, List.getElem?_cons_succ, List.length_cons, List.length_nil, Nat.reduceAdd, Nat.reduceLT]
  rw [← Int.natCast_mul, w64 (x := ((W * H : Nat) : Int)) (by omega)]
  refine Evp.pos ⟨by omega, by show _ * 1 ≤ _; omega⟩ ?_
  have tb := tapsS_b (dir := dir) (pri := pri) (sec := sec) (by omega)
  obtain ⟨T', hT'⟩ : ∃ T', T' = tapsS dir pri sec := ⟨_, rfl⟩
  rw [← hT'] at hR tb
  have rows : ∀ (d j : Nat) (B : Option Addr) (cb : Nat) (M2 : Mem), H - j = d → j ≤ H → Pre M1 M2 → j * W ≤ cb → Grow M1 M2 1 B (j * W) ((blockS w h xs X Y W p T' (j * W)).map (Value.int .u8)) →
      Run P T lo F.cdef_Block (cdef_Block.c1012 p R 6 cr B (j * W) cb ((Y + j : Nat) : Int) w h A xs.length c X Y W H M2) fun r => Pre M r.2 ∧ ∃ A c, r.1 = .tuple ⟨[.slice A (W * H) c, .int .i64 0]⟩ ∧ W * H ≤ c ∧ Grow M r.2 1 A (W * H) ((blockS w h xs X Y W p T' (W * H)).map (Value.int .u8)) := by
    intro d
    induction d with
    | zero =>
      intro j B cb M2 hd hj hp hc hg
      obtain rfl : H = j := by omega
      rw [Nat.mul_comm H W] at hg hc ⊢
      refine Run.cut (Evp.of_eq (fun k => cdef_Block.p1012 k ..) ?_)
      rw [w64 (x := (Y : Int) + H) (by omega)]
      refine Evp.dec (fun g => absurd g (by omega)) fun _ => Evp.ret (Run.ret ⟨p1.trans hp, B, cb, rfl, hc, ⟨hg.len, ?_⟩⟩)
      rcases hg.at_ with g | ⟨b, g1, g2, g3⟩
      · exact .inl g
      · exact .inr ⟨b, g1, Nat.le_trans p1.len g2, g3⟩
    | succ d ih =>
      intro j B cb M2 hd hj hp hc hg
      have hjH : j < H := by omega
      have cols : ∀ (e i : Nat) (B : Option Addr) (cb : Nat) (M2 : Mem), W - i = e → i ≤ W → Pre M1 M2 → j * W + i ≤ cb → Grow M1 M2 1 B (j * W + i) ((blockS w h xs X Y W p T' (j * W + i)).map (Value.int .u8)) →
          Run P T lo F.cdef_Block (cdef_Block.c64804 p R 6 cr B (j * W + i) cb ((Y + j : Nat) : Int) ((X + i : Nat) : Int) w h A xs.length c X Y W H M2) fun r => Pre M r.2 ∧ ∃ A c, r.1 = .tuple ⟨[.slice A (W * H) c, .int .i64 0]⟩ ∧ W * H ≤ c ∧ Grow M r.2 1 A (W * H) ((blockS w h xs X Y W p T' (W * H)).map (Value.int .u8)) := by
        intro e
        induction e with
        | zero =>
          intro i B cb M2 he hi hp hc hg
          obtain rfl : W = i := by omega
          refine Run.cut (Evp.of_eq (fun k => cdef_Block.p64804 k ..) ?_)
          rw [w64 (x := (X : Int) + W) (by omega)]
          refine Evp.dec (fun g => absurd g (by omega)) fun _ => ?_
          rw [w64 (by omega), show ((Y + j : Nat) : Int) + 1 = ((Y + (j + 1) : Nat) : Int) by omega]
          rw [show j * W + W = (j + 1) * W by rw [Nat.add_mul, Nat.one_mul]] at hg hc ⊢
          exact Evp.ret (ih (j + 1) B cb M2 (by omega) (by omega) hp hc hg)
        | succ e ih2 =>
          intro i B cb M2 he hi hp hc hg
          have hiW : i < W := by omega
          have q := p1.trans hp
          have jl : j * W + i < W * H := by
            have : (j + 1) * W ≤ H * W := Nat.mul_le_mul_right W (by omega)
            rw [Nat.add_mul, Nat.one_mul, Nat.mul_comm H W] at this
            omega
          have dm : (j * W + i) / W = j ∧ (j * W + i) % W = i := by
            rw [Nat.add_comm]
            exact ⟨by rw [Nat.add_mul_div_right i j (by omega), Nat.div_eq_of_lt hiW, Nat.zero_add], by rw [Nat.add_mul_mod_self_right, Nat.mod_eq_of_lt hiW]⟩
          refine Run.cut (Evp.of_eq (fun k => cdef_Block.p64804 k ..) ?_)
          rw [w64 (x := (X : Int) + W) (by omega)]
          refine Evp.dec (fun _ => ?_) fun g => absurd g (by omega)
          refine Evp.ob (sample_ok lo w h A R c cr xs T' (X + i) (Y + j) p M2 (hx.pre q) (hR.pre hp) bx tb (by omega) (by omega) n1 (by omega) (by omega)) ?_
          rintro _ rfl
          simp only [ret_int, ret_bool, ret_flt, ret_slc, ret_str, ret_ptr, ret_agg, ret_tup, ob_some, bb_true, bb_false, List.getElem?_cons_zero, List.getElem?_cons_succ, List.length_cons, List.length_nil, Nat.reduceAdd, Nat.reduceLT]
          obtain ⟨⟨sa, sn, sc⟩, M3, e3, g3, hsn, p3, _, k3⟩ := hg.app (lo := lo) (bytes := 1) (c := cb) (m := 1) (vs := [.int .u8 (sampS w h xs ((X + i : Nat) : Int) ((Y + j : Nat) : Int) p T')]) hp (Nat.le_trans hlo p1.len) rfl (by omega) (by omega)
          refine Evp.some e3 ?_
          simp only at hsn g3 k3
          subst hsn
          rw [w64 (by omega), show ((X + i : Nat) : Int) + 1 = ((X + (i + 1) : Nat) : Int) by omega]
          refine Evp.ret (ih2 (i + 1) sa sc M3 (by omega) (by omega) p3 (k3 hc) ?_)
          rw [show j * W + (i + 1) = j * W + i + 1 by omega, blockS_succ, dm.1, dm.2, List.map_append]
          exact g3
      refine Run.cut (Evp.of_eq (fun k => cdef_Block.p1012 k ..) ?_)
      rw [w64 (x := (Y : Int) + H) (by omega)]
      refine Evp.dec (fun _ => ?_) fun g => absurd g (by omega)
      exact Evp.ret (cols _ 0 B cb M2 rfl (by omega) hp hc hg)
  have g0 : Grow M1 (M1 ++ [⟨.op 1, []⟩] : Mem) 1 (some ⟨M1.length, 0, some 0⟩) 0 [] := ⟨rfl, .inr ⟨M1.length, rfl, Nat.le_refl _, by simp⟩⟩
  have R0 := rows H 0 (some ⟨M1.length, 0, some 0⟩) 0 (M1 ++ [⟨.op 1, []⟩] : Mem) rfl (by omega) (Pre.app _ _) (by omega) (by rw [Nat.zero_mul]; exact g0)
  rw [Nat.zero_mul, Nat.add_zero] at R0
  refine Evp.ret (R0.mono ?_)
  rintro r ⟨pr, A', c', e, hc, hg⟩
  refine ⟨pr, ?_⟩
  rw [if_pos ok]
  simp only [Int.toNat_natCast]
  rw [← hT']
  exact ⟨A', c', e, hc, hg⟩
end
theorem Buf.cell {M0 M : Mem} {a : Addr} {cs : List Value} (h : Buf M0 M a cs) {i : Nat} (hi : i < cs.length) : M.ld (plus a i) = cs[i]? := by
  obtain ⟨a', e, _, h2⟩ := Rd.get (h.rd (n := cs.length) (z := 1) (by omega)) (i := i) (by omega)
  injection e with e; subst e
  exact h2
theorem blockS_len (w h : Nat) (xs : List Int) (X Y W : Nat) (p : Int) (T : List Int) (n : Nat) : (blockS w h xs X Y W p T n).length = n := by simp [blockS]
theorem dm {W r s : Nat} (hs : s < W) : (r * W + s) / W = r ∧ (r * W + s) % W = s := by
  rw [Nat.mul_comm, Nat.mul_add_div (by omega), Nat.mul_add_mod, Nat.div_eq_of_lt hs, Nat.mod_eq_of_lt hs]
  exact ⟨by omega, rfl⟩
theorem dm_lt {W h q : Nat} (hq : q < h * W) : 0 < W ∧ q / W < h ∧ q % W < W ∧ q = (q / W) * W + q % W := by
  have hW : 0 < W := by
    rcases Nat.eq_zero_or_pos W with e | e
    · rw [e] at hq; simp at hq
    · exact e
  refine ⟨hW, Nat.div_lt_of_lt_mul (by rwa [Nat.mul_comm] at hq), Nat.mod_lt _ hW, ?_⟩
  have := Nat.div_add_mod q W
  rw [Nat.mul_comm] at this
  exact this.symm
theorem dm_in {W h r s : Nat} (hr : r < h) (hs : s < W) : r * W + s < h * W := by
  have : (r + 1) * W ≤ h * W := Nat.mul_le_mul_right _ hr
  rw [Nat.succ_mul] at this
  omega
theorem getD_dt {xs : List Int} {o n i : Nat} (hi : i < n) : ((xs.drop o).take n).getD i 0 = xs.getD (o + i) 0 := by
  simp only [List.getD_eq_getElem?_getD, List.getElem?_take, if_pos hi, List.getElem?_drop]
theorem getD_app1 {xs ys : List Int} {i : Nat} (h : i < xs.length) : (xs ++ ys).getD i 0 = xs.getD i 0 := by
  simp only [List.getD_eq_getElem?_getD, List.getElem?_append_left h]
theorem getD_app2 {xs ys : List Int} {i : Nat} (h : xs.length ≤ i) : (xs ++ ys).getD i 0 = ys.getD (i - xs.length) 0 := by
  simp only [List.getD_eq_getElem?_getD, List.getElem?_append_right h]
def WithinP (w h x y rw rh : Int) : Prop := 1 ≤ rw ∧ 1 ≤ rh ∧ 0 ≤ x ∧ 0 ≤ y ∧ x + rw ≤ w ∧ y + rh ≤ h
instance (w h x y rw rh : Int) : Decidable (WithinP w h x y rw rh) := inferInstanceAs (Decidable (_ ∧ _))
section
variable (lo : Nat) (w h : Int) (A : Option Addr) (n c : Nat) (x y rw rh : Int) (M : Mem)
theorem cd_within_ok : Ac P T lo F.plane_within [.agg ⟨[.int .i64 w, .int .i64 h, .slice A n c]⟩, .agg ⟨[.int .i64 x, .int .i64 y, .int .i64 rw, .int .i64 rh]⟩] M fun r => r = (.bool (decide (checkS w h n = 0 ∧ WithinP w h x y rw rh)), M) := by
  have no : ¬ (checkS w h n = 0 ∧ WithinP w h x y rw rh) → Run P T lo F.plane_within (.ret (.bool false) M) fun r => r = (.bool (decide (checkS w h n = 0 ∧ WithinP w h x y rw rh)), M) := fun hn => Run.ret (by rw [decide_eq_false hn])
  refine Ac.of (Evp.of_eq (fun k => plane_within.entry k ..) ?_)
  refine Evp.ob (check_ok ..) ?_
  rintro _ rfl
  simp only [ret_int, ret_bool, ret_flt, ret_slc, ret_str, ret_ptr, ret_agg, ret_tup, ob_some, bb_true, bb_false, List.getElem?_cons_zero, List.getElem?_cons_succ, List.length_cons, List.length_nil, Nat.reduceAdd, Nat.reduceLT]
  refine Evp.eqb (fun h0 => ?_) fun h0 => Evp.ret (no fun e => h0 e.1)
  have hs := checkS_len' h0
  refine Evp.dec (fun h1 => ?_) fun h1 => Evp.ret (no fun e => by have := e.2; unfold WithinP at this; omega)
  refine Evp.dec (fun h2 => ?_) fun h2 => Evp.ret (no fun e => by have := e.2; unfold WithinP at this; omega)
  refine Evp.dec (fun h3 => ?_) fun h3 => Evp.ret (no fun e => by have := e.2; unfold WithinP at this; omega)
  refine Evp.dec (fun h4 => ?_) fun h4 => Evp.ret (no fun e => by have := e.2; unfold WithinP at this; omega)
  refine Evp.dec (fun h5 => ?_) fun h5 => Evp.ret (no fun e => by have := e.2; unfold WithinP at this; omega)
  refine Evp.dec (fun h6 => ?_) fun h6 => Evp.ret (no fun e => by have := e.2; unfold WithinP at this; omega)
  rw [w64 (x := w - rw) (by omega), w64 (x := h - rh) (by omega)]
  refine Evp.dec (fun h7 => ?_) fun h7 => Evp.ret (no fun e => by have := e.2; unfold WithinP at this; omega)
  refine Evp.ret (Run.ret ?_)
  congr 2
  exact decide_eq_decide.2 (by unfold WithinP; omega)
end
section
variable {w h x y rw rh : Nat} {xs : List Int} {A : Option Addr} {c : Nat}
theorem row_ok (lo i : Nat) (M : Mem) (hw : w ≤ 512) (hh : h ≤ 512) (hn : xs.length = w * h) (hc : xs.length ≤ c) (hr1 : 1 ≤ rw) (hx : x + rw ≤ w) (hy : y + rh ≤ h) (hi : i < rh) :
    Ac P T lo F.plane_row [.agg ⟨[.int .i64 w, .int .i64 h, .slice A xs.length c]⟩, .agg ⟨[.int .i64 x, .int .i64 y, .int .i64 rw, .int .i64 rh]⟩, .int .i64 i] M fun r => r = (.slice (A.map fun a => plus a ((y + i) * w + x)) rw rw, M) := by
  refine Ac.of (Evp.of_eq (fun k => plane_row.entry k ..) ?_)
  have hin : (y + i) * w + x + rw ≤ w * h := by
    have : (y + i + 1) * w ≤ h * w := Nat.mul_le_mul_right _ (by omega)
    rw [Nat.succ_mul, Nat.mul_comm h w] at this
    omega
  have hmax : w * h ≤ 512 * 512 := Nat.mul_le_mul hw hh
  have e0 : ((y : Int) + i) * w = (((y + i) * w : Nat) : Int) := by simp
  rw [w64 (x := (y : Int) + i) (by omega), e0]
  generalize hg : (y + i) * w = g at *
  rw [w64 (x := (g : Int)) (by omega), w64 (x := (g : Int) + x) (by omega), w64 (x := (g : Int) + x + rw) (by omega)]
  refine Evp.pos (by omega) ?_
  rw [show ((g : Int) + x).toNat = g + x by omega, show ((g : Int) + x + rw).toNat = g + x + rw by omega]
  refine Evp.ret (Run.ret ?_)
  unfold slAddr3
  rw [if_neg (by omega), show g + x + rw - (g + x) = rw by omega]
  rfl
theorem row_rd {M : Mem} {i : Nat} (hr : RdI M .u8 A xs) (hin : (y + i) * w + x + rw ≤ xs.length) : RdI M .u8 (A.map fun a => plus a ((y + i) * w + x)) ((xs.drop ((y + i) * w + x)).take rw) := by
  have := hr.slAddr (l := (y + i) * w + x) (h := (y + i) * w + x + rw) (c := xs.length + 1) (by omega) hin (by omega)
  unfold slAddr at this
  rw [if_neg (by omega), show (y + i) * w + x + rw - ((y + i) * w + x) = rw by omega] at this
  exact this
def cutS (w : Nat) (xs : List Int) (x y rw n : Nat) : List Int := (List.range n).map fun q => xs.getD ((y + q / rw) * w + (x + q % rw)) 0
theorem cutS_len (w : Nat) (xs : List Int) (x y rw n : Nat) : (cutS w xs x y rw n).length = n := by simp [cutS]
theorem cutS_row (hr1 : 1 ≤ rw) (i : Nat) (hin : (y + i) * w + x + rw ≤ xs.length) : cutS w xs x y rw (i * rw) ++ (xs.drop ((y + i) * w + x)).take rw = cutS w xs x y rw ((i + 1) * rw) := by
  apply ext_getD
  · rw [List.length_append, cutS_len, cutS_len, List.length_take, List.length_drop, Nat.succ_mul]; omega
  · intro q hq
    rw [List.length_append, cutS_len, List.length_take, List.length_drop] at hq
    have hq2 : q < (i + 1) * rw := by rw [Nat.succ_mul]; omega
    unfold cutS
    rw [getD_map_range hq2]
    by_cases h : q < i * rw
    · rw [getD_app1 (by simpa using h), getD_map_range h]
    · obtain ⟨s, hs⟩ : ∃ s, q = i * rw + s := ⟨q - i * rw, by omega⟩
      subst hs
      obtain ⟨d1, d2⟩ := dm (W := rw) (r := i) (s := s) (by omega)
      rw [getD_app2 (by simp), d1, d2]
      simp only [List.length_map, List.length_range]
      rw [show i * rw + s - i * rw = s by omega, getD_dt (by omega)]
      congr 1; omega
theorem cut_loop (lo : Nat) (M0 : Mem) (hlo : lo ≤ M0.length) (hr : RdI M0 .u8 A xs) (hw : w ≤ 512) (hh : h ≤ 512) (hn : xs.length = w * h) (hc : xs.length ≤ c) (hr1 : 1 ≤ rw) (hx : x + rw ≤ w) (hy : y + rh ≤ h) :
    ∀ (d i : Nat) (M : Mem) (B : Option Addr) (cc : Nat), rh - i = d → i ≤ rh → Pre M0 M → (i * rw ≤ cc ∨ i = 0) → Grow M0 M 1 B (i * rw) ((cutS w xs x y rw (i * rw)).map (Value.int .u8)) →
    Run P T lo F.plane_Cut (plane_Cut.c244 B (i * rw) cc rh i w h A xs.length c x y rw rh M) fun r => ∃ B' cc' M', r = (.tuple ⟨[.slice B' (cutS w xs x y rw (rh * rw)).length cc', .int .i64 0]⟩, M') ∧ Pre M0 M' ∧ Grow M0 M' 1 B' (cutS w xs x y rw (rh * rw)).length ((cutS w xs x y rw (rh * rw)).map (Value.int .u8)) ∧ (cutS w xs x y rw (rh * rw)).length ≤ cc' := by
  have hmax : w * h ≤ 512 * 512 := Nat.mul_le_mul hw hh
  intro d
  induction d with
  | zero =>
    intro i M B cc hd hi hp hcc hg
    obtain rfl : i = rh := by omega
    refine Run.cut (Evp.of_eq (fun k => plane_Cut.p244 k ..) ?_)
    refine Evp.dec (fun h => absurd h (by omega)) fun _ => Evp.ret (Run.ret ⟨B, cc, M, ?_, hp, ?_, ?_⟩)
    · rw [cutS_len]
    · rw [cutS_len]; exact hg
    · rw [cutS_len]
      rcases hcc with h | h
      · exact h
      · rw [h, Nat.zero_mul]; exact Nat.zero_le _
  | succ d ih =>
    intro i M B cc hd hi hp hcc hg
    refine Run.cut (Evp.of_eq (fun k => plane_Cut.p244 k ..) ?_)
    refine Evp.dec (fun _ => ?_) fun h => absurd h (by omega)
    refine Evp.ob (row_ok lo i M hw hh hn hc hr1 hx hy (by omega)) ?_
    rintro _ rfl
    simp only [ret_int, ret_bool, ret_flt, ret_slc, ret_str, ret_ptr, ret_agg, ret_tup, ob_some, bb_true, bb_false, List.getElem?_cons_zero, List.getElem?_cons_succ, List.length_cons, List.length_nil, Nat.reduceAdd, Nat.reduceLT]
    have hin : (y + i) * w + x + rw ≤ xs.length := by
      have : (y + i + 1) * w ≤ h * w := Nat.mul_le_mul_right _ (by omega)
      rw [Nat.succ_mul, Nat.mul_comm h w] at this
      omega
    have hrow := (row_rd (hr.pre hp) hin).src
    rw [List.length_take, List.length_drop, Nat.min_eq_left (by omega)] at hrow
    refine Evp.some hrow ?_
    have hb1 : (i + 1) * rw ≤ rh * w := Nat.mul_le_mul (by omega) (by omega)
    have hb2 : rh * w ≤ 512 * 512 := Nat.mul_le_mul (by omega) hw
    have hsm : (i + 1) * rw = i * rw + rw := Nat.succ_mul _ _
    obtain ⟨s, M', h1, h2, h3, h4, _, h5⟩ := hg.app (lo := lo) (bytes := 1) (c := cc) (m := rw) (vs := ((xs.drop ((y + i) * w + x)).take rw).map (Value.int .u8)) hp hlo (by simp; omega) (by omega) (by omega)
    rw [← List.map_append, cutS_row hr1 i hin, h3, ← hsm] at h2
    refine Evp.some h1 ?_
    rw [h3, ← hsm, w64 (by omega)]
    exact Evp.ret (ih (i + 1) M' s.a s.c (by omega) (by omega) h4 (.inl (by
      rcases hcc with hcc | hcc
      · rw [hsm, ← h3]; exact h5 hcc
      · rw [hsm, ← h3]; exact h5 (by rw [hcc, Nat.zero_mul]; exact Nat.zero_le _))) h2)
end
def CutR (M : Mem) (w h : Int) (xs : List Int) (x y rw rh : Int) (r : Value × Mem) : Prop :=
  Pre M r.2 ∧ if checkS w h xs.length = 0 ∧ WithinP w h x y rw rh then ∃ B cc, r.1 = .tuple ⟨[.slice B (cutS w.toNat xs x.toNat y.toNat rw.toNat (rh.toNat * rw.toNat)).length cc, .int .i64 0]⟩ ∧ Grow M r.2 1 B (cutS w.toNat xs x.toNat y.toNat rw.toNat (rh.toNat * rw.toNat)).length ((cutS w.toNat xs x.toNat y.toNat rw.toNat (rh.toNat * rw.toNat)).map (Value.int .u8)) ∧ (cutS w.toNat xs x.toNat y.toNat rw.toNat (rh.toNat * rw.toNat)).length ≤ cc
    else r.1 = .tuple ⟨[.slice none 0 0, .int .i64 2]⟩
theorem pcut_ok (lo : Nat) (w h : Int) (A : Option Addr) (c : Nat) (xs : List Int) (x y rw rh : Int) (M : Mem) (hr : RdI M .u8 A xs) (hc : xs.length ≤ c) (hlo : lo ≤ M.length) :
    Ac P T lo F.plane_Cut [.agg ⟨[.int .i64 w, .int .i64 h, .slice A xs.length c]⟩, .agg ⟨[.int .i64 x, .int .i64 y, .int .i64 rw, .int .i64 rh]⟩] M (CutR M w h xs x y rw rh) := by
  refine Ac.of (Evp.of_eq (fun k => plane_Cut.entry k ..) ?_)
  refine Evp.ob (cd_within_ok ..) ?_
  rintro _ rfl
  simp only [ret_int, ret_bool, ret_flt, ret_slc, ret_str, ret_ptr, ret_agg, ret_tup, ob_some, bb_true, bb_false, List.getElem?_cons_zero, List.getElem?_cons_succ, List.length_cons, List.length_nil, Nat.reduceAdd, Nat.reduceLT]
  refine Evp.nb (fun h1 => ?_) fun h1 => ?_
  · have := of_decide_eq_false h1
    exact Evp.ret (Run.ret ⟨Pre.refl _, by rw [if_neg this]⟩)
  · obtain ⟨hk, hwi⟩ := of_decide_eq_true h1
    have hs := checkS_len' hk
    obtain ⟨h1, h2, h3, h4, h5, h6⟩ := hwi
    have hwi : WithinP w h x y rw rh := ⟨h1, h2, h3, h4, h5, h6⟩
    obtain ⟨w, rfl⟩ := Int.eq_ofNat_of_zero_le (a := w) (by omega)
    obtain ⟨h, rfl⟩ := Int.eq_ofNat_of_zero_le (a := h) (by omega)
    obtain ⟨x, rfl⟩ := Int.eq_ofNat_of_zero_le h3
    obtain ⟨y, rfl⟩ := Int.eq_ofNat_of_zero_le h4
    obtain ⟨rw', rfl⟩ := Int.eq_ofNat_of_zero_le (a := rw) (by omega)
    obtain ⟨rh, rfl⟩ := Int.eq_ofNat_of_zero_le (a := rh) (by omega)
    have hm : rw' * rh ≤ 512 * 512 := Nat.mul_le_mul (by omega) (by omega)
    have e : (rw' : Int) * (rh : Int) = ((rw' * rh : Nat) : Int) := by simp
    have hnn : xs.length = w * h := by have := hs.2.2.2.2; rw [← Int.natCast_mul] at this; omega
    rw [e, w64 (by omega)]
    refine Evp.pos ⟨by omega, by show ((rw' * rh : Nat) : Int).toNat * 1 ≤ 140737488355328; omega⟩ ?_
    have fin := cut_loop (w := w) (h := h) (x := x) (y := y) (rw := rw') (rh := rh) (xs := xs) (A := A) (c := c) lo M hlo hr (by omega) (by omega) hnn hc (by omega) (by omega) (by omega) rh 0 (M ++ [⟨.op 1, []⟩]) (some ⟨M.length, 0, some 0⟩) 0 rfl (by omega) (Pre.app _ _) (.inr rfl) (by
      rw [Nat.zero_mul]; exact ⟨by simp [cutS], .inr ⟨M.length, rfl, Nat.le_refl _, by simp [cutS]⟩⟩)
    rw [Nat.zero_mul] at fin
    refine Evp.ret (fin.mono ?_)
    rintro _ ⟨B, cc, M', rfl, p, g, gc⟩
    refine ⟨p, ?_⟩
    rw [if_pos ⟨hk, hwi⟩]
    exact ⟨B, cc, rfl, g, gc⟩
section
variable {w h x y rw rh : Nat} {xs bs : List Int}
def layE (w : Nat) (xs bs : List Int) (x y rw rh i : Nat) : List Int := (List.range xs.length).map fun q => if (y ≤ q / w ∧ q / w < y + rh ∧ x ≤ q % w ∧ q % w < x + rw) ∧ (q / w - y) * rw + (q % w - x) < i then bs.getD ((q / w - y) * rw + (q % w - x)) 0 else xs.getD q 0
theorem layE_len (w : Nat) (xs bs : List Int) (x y rw rh i : Nat) : (layE w xs bs x y rw rh i).length = xs.length := by simp [layE]
theorem layE_zero (w : Nat) (xs bs : List Int) (x y rw rh : Nat) : layE w xs bs x y rw rh 0 = xs := by
  apply ext_getD (layE_len ..)
  intro q hq
  rw [layE_len] at hq
  unfold layE
  rw [getD_map_range hq, if_neg (fun e => absurd e.2 (Nat.not_lt_zero _))]
theorem layE_set (hn : xs.length = w * h) (hr1 : 1 ≤ rw) (hx : x + rw ≤ w) (hy : y + rh ≤ h) (i : Nat) (hi : i < rh * rw) :
    (layE w xs bs x y rw rh i).set ((y + i / rw) * w + (x + i % rw)) (bs.getD i 0) = layE w xs bs x y rw rh (i + 1) := by
  obtain ⟨i0, i1, i2, i3⟩ := dm_lt hi
  have hin : (y + i / rw) * w + (x + i % rw) < xs.length := by
    rw [hn, Nat.mul_comm w h]
    exact dm_in (by generalize i / rw = u at *; omega) (by generalize i % rw = u at *; omega)
  obtain ⟨d1, d2⟩ := dm (W := w) (r := y + i / rw) (s := x + i % rw) (by generalize i % rw = u at *; omega)
  apply ext_getD (by rw [List.length_set, layE_len, layE_len])
  intro q hq
  rw [List.length_set, layE_len] at hq
  rw [getD_set (by rw [layE_len]; exact hin)]
  have hq2 : q < h * w := by rw [Nat.mul_comm]; omega
  obtain ⟨q0, q1, q2, q3⟩ := dm_lt hq2
  unfold layE
  rw [getD_map_range hq, getD_map_range hq]
  by_cases e : q = (y + i / rw) * w + (x + i % rw)
  · subst e
    rw [if_pos rfl, d1, d2, Nat.add_sub_cancel_left, Nat.add_sub_cancel_left, ← i3, if_pos ⟨by generalize i / rw = u at *; generalize i % rw = v at *; omega, by omega⟩]
  · rw [if_neg e]
    have hne : (y ≤ q / w ∧ q / w < y + rh ∧ x ≤ q % w ∧ q % w < x + rw) → (q / w - y) * rw + (q % w - x) ≠ i := fun h1 h2 => e (by
      have h3 : q % w - x < rw := by generalize q % w = u at *; omega
      obtain ⟨g1, g2⟩ := dm (W := rw) (r := q / w - y) (s := q % w - x) h3
      rw [h2] at g1 g2
      rw [g1, g2]
      rw [Nat.add_sub_cancel' h1.1, Nat.add_sub_cancel' h1.2.2.1]
      exact q3)
    by_cases h1 : y ≤ q / w ∧ q / w < y + rh ∧ x ≤ q % w ∧ q % w < x + rw
    · have := hne h1
      generalize (q / w - y) * rw + (q % w - x) = t at *
      by_cases h2 : t < i
      · rw [if_pos ⟨h1, h2⟩, if_pos ⟨h1, by omega⟩]
      · rw [if_neg (fun e => h2 e.2), if_neg (fun e => by have := e.2; omega)]
    · rw [if_neg (fun e => h1 e.1), if_neg (fun e => h1 e.1)]
end
def sideP (n : Int) : Prop := n % 2 = 0 ∧ 16 ≤ n ∧ n ≤ 256
instance (n : Int) : Decidable (sideP n) := inferInstanceAs (Decidable (_ ∧ _))
theorem sides_ok (lo : Nat) (w h : Int) (M : Mem) : Ac P T lo F.plane_sides [.int .i64 w, .int .i64 h] M fun r => r = (.bool (decide (sideP w ∧ sideP h)), M) := by
  have a1 : ∀ z : Int, andI .i64 z 1 = z % 2 := fun z => and_mask (x := z) 1 (by omega)
  have hmin : minI w h ≤ w ∧ minI w h ≤ h ∧ (minI w h = w ∨ minI w h = h) := by unfold minI; split <;> omega
  have hmax : w ≤ maxI w h ∧ h ≤ maxI w h ∧ (maxI w h = w ∨ maxI w h = h) := by unfold maxI; split <;> omega
  refine Ac.of (Evp.of_eq (fun k => plane_sides.entry k ..) ?_)
  rw [a1, a1]
  refine Evp.eqb (fun h1 => ?_) fun h1 => Evp.ret (Run.ret (by rw [decide_eq_false (fun e => h1 e.1.1)]))
  refine Evp.eqb (fun h2 => ?_) fun h2 => Evp.ret (Run.ret (by rw [decide_eq_false (fun e => h2 e.2.1)]))
  refine Evp.dec (fun h3 => ?_) fun h3 => Evp.ret (Run.ret (by rw [decide_eq_false (fun e => by unfold sideP at e; omega)]))
  refine Evp.ret (Run.ret ?_)
  congr 2
  exact decide_eq_decide.2 (by unfold sideP; omega)
def WholeP (w0 h0 n0 w1 h1 n1 w2 h2 n2 : Int) : Prop := checkS w0 h0 n0 = 0 ∧ sideP w0 ∧ sideP h0 ∧ checkS w1 h1 n1 = 0 ∧ w1 = w0 / 2 ∧ h1 = h0 / 2 ∧ checkS w2 h2 n2 = 0 ∧ w2 = w0 / 2 ∧ h2 = h0 / 2
instance (w0 h0 n0 w1 h1 n1 w2 h2 n2 : Int) : Decidable (WholeP w0 h0 n0 w1 h1 n1 w2 h2 n2) := inferInstanceAs (Decidable (_ ∧ _))
def wholeS (w0 h0 n0 w1 h1 n1 w2 h2 n2 : Int) : Int := if WholeP w0 h0 n0 w1 h1 n1 w2 h2 n2 then 0 else 2
section
variable (lo : Nat) (w0 h0 w1 h1 w2 h2 : Int) (A0 A1 A2 : Option Addr) (n0 c0 n1 c1 n2 c2 : Nat) (M : Mem)
theorem whole_ok : Ac P T lo F.plane_Whole [.agg ⟨[.int .i64 w0, .int .i64 h0, .slice A0 n0 c0, .int .i64 w1, .int .i64 h1, .slice A1 n1 c1, .int .i64 w2, .int .i64 h2, .slice A2 n2 c2]⟩] M fun r => r = (.int .i64 (wholeS w0 h0 n0 w1 h1 n1 w2 h2 n2), M) := by
  have bad : ¬ WholeP w0 h0 n0 w1 h1 n1 w2 h2 n2 → Run P T lo F.plane_Whole (.ret (.int .i64 2) M) fun r => r = (.int .i64 (wholeS w0 h0 n0 w1 h1 n1 w2 h2 n2), M) := fun h => Run.ret (by unfold wholeS; rw [if_neg h])
  have s0 : ∀ z : Int, shrI .i64 z (minI 0 1).toNat = z := fun z => by rw [show (minI 0 1).toNat = 0 from rfl, shr_eq 0 (by omega)]; simp
  have s1 : ∀ z : Int, shrI .i64 z (minI 1 1).toNat = z / 2 := fun z => by rw [show (minI 1 1).toNat = 1 from rfl, shr_eq 1 (by omega)]; rfl
  have s2 : ∀ z : Int, shrI .i64 z (minI 2 1).toNat = z / 2 := fun z => by rw [show (minI 2 1).toNat = 1 from rfl, shr_eq 1 (by omega)]; rfl
  refine Ac.of (Evp.of_eq (fun k => plane_Whole.entry k ..) ?_)
  refine Evp.ret ?_
  refine Run.cut (Evp.of_eq (fun k => plane_Whole.p116 k ..) ?_)
  refine Evp.tt rfl (Evp.pos (by decide) (Evp.some rfl (Evp.some rfl (Evp.some rfl ?_))))
  refine Evp.ob (check_ok ..) ?_
  rintro _ rfl
  simp only [ret_int, ret_bool, ret_flt, ret_slc, ret_str, ret_ptr, ret_agg, ret_tup, ob_some, bb_true, bb_false, List.getElem?_cons_zero, List.getElem?_cons_succ, List.length_cons, List.length_nil, Nat.reduceAdd, Nat.reduceLT]
  refine Evp.neb (fun h => Evp.ret (bad fun e => h e.1)) fun k0 => ?_
  refine Evp.ob (sides_ok ..) ?_
  rintro _ rfl
  simp only [ret_int, ret_bool, ret_flt, ret_slc, ret_str, ret_ptr, ret_agg, ret_tup, ob_some, bb_true, bb_false, List.getElem?_cons_zero, List.getElem?_cons_succ, List.length_cons, List.length_nil, Nat.reduceAdd, Nat.reduceLT]
  refine Evp.nb (fun h => Evp.ret (bad fun e => of_decide_eq_false h ⟨e.2.1, e.2.2.1⟩)) fun hs => ?_
  have hs := of_decide_eq_true hs
  refine Evp.neg (by decide) ?_
  rw [s0, s0]
  refine Evp.neb (fun h => absurd rfl h) fun _ => ?_
  refine Evp.neg (by decide) ?_
  refine Evp.neb (fun h => absurd rfl h) fun _ => ?_
  rw [show IntKind.i64.wrap (0 + 1) = 1 from by decide]
  refine Evp.ret ?_
  refine Run.cut (Evp.of_eq (fun k => plane_Whole.p116 k ..) ?_)
  refine Evp.tt rfl (Evp.pos (by decide) (Evp.some rfl (Evp.some rfl (Evp.some rfl ?_))))
  refine Evp.ob (check_ok ..) ?_
  rintro _ rfl
  simp only [ret_int, ret_bool, ret_flt, ret_slc, ret_str, ret_ptr, ret_agg, ret_tup, ob_some, bb_true, bb_false, List.getElem?_cons_zero, List.getElem?_cons_succ, List.length_cons, List.length_nil, Nat.reduceAdd, Nat.reduceLT]
  refine Evp.neb (fun h => Evp.ret (bad fun e => h e.2.2.2.1)) fun k1 => ?_
  refine Evp.ob (sides_ok ..) ?_
  rintro _ rfl
  simp only [ret_int, ret_bool, ret_flt, ret_slc, ret_str, ret_ptr, ret_agg, ret_tup, ob_some, bb_true, bb_false, List.getElem?_cons_zero, List.getElem?_cons_succ, List.length_cons, List.length_nil, Nat.reduceAdd, Nat.reduceLT]
  refine Evp.ff (by rw [decide_eq_true hs]; rfl) ?_
  refine Evp.neg (by decide) ?_
  rw [s1, s1]
  refine Evp.neb (fun h => Evp.ret (bad fun e => h e.2.2.2.2.1)) fun e1 => ?_
  refine Evp.neg (by decide) ?_
  refine Evp.neb (fun h => Evp.ret (bad fun e => h e.2.2.2.2.2.1)) fun e2 => ?_
  rw [show IntKind.i64.wrap (1 + 1) = 2 from by decide]
  refine Evp.ret ?_
  refine Run.cut (Evp.of_eq (fun k => plane_Whole.p116 k ..) ?_)
  refine Evp.tt rfl (Evp.pos (by decide) (Evp.some rfl (Evp.some rfl (Evp.some rfl ?_))))
  refine Evp.ob (check_ok ..) ?_
  rintro _ rfl
  simp only [ret_int, ret_bool, ret_flt, ret_slc, ret_str, ret_ptr, ret_agg, ret_tup, ob_some, bb_true, bb_false, List.getElem?_cons_zero, List.getElem?_cons_succ, List.length_cons, List.length_nil, Nat.reduceAdd, Nat.reduceLT]
  refine Evp.neb (fun h => Evp.ret (bad fun e => h e.2.2.2.2.2.2.1)) fun k2 => ?_
  refine Evp.ob (sides_ok ..) ?_
  rintro _ rfl
  simp only [ret_int, ret_bool, ret_flt, ret_slc, ret_str, ret_ptr, ret_agg, ret_tup, ob_some, bb_true, bb_false, List.getElem?_cons_zero, List.getElem?_cons_succ, List.length_cons, List.length_nil, Nat.reduceAdd, Nat.reduceLT]
  refine Evp.ff (by rw [decide_eq_true hs]; rfl) ?_
  refine Evp.neg (by decide) ?_
  rw [s2, s2]
  refine Evp.neb (fun h => Evp.ret (bad fun e => h e.2.2.2.2.2.2.2.1)) fun e3 => ?_
  refine Evp.neg (by decide) ?_
  refine Evp.neb (fun h => Evp.ret (bad fun e => h e.2.2.2.2.2.2.2.2)) fun e4 => ?_
  rw [show IntKind.i64.wrap (2 + 1) = 3 from by decide]
  refine Evp.ret ?_
  refine Run.cut (Evp.of_eq (fun k => plane_Whole.p116 k ..) ?_)
  refine Evp.ff rfl (Evp.ret (Run.ret ?_))
  unfold wholeS
  rw [if_pos ⟨k0, hs.1, hs.2, k1, e1, e2, k2, e3, e4⟩]
end
def msum (d : Nat) : Nat → Int
  | 0 => 0
  | k + 1 => msum d k + manyD d k 64
theorem msum_all : ∀ d, d < 8 → msum d 16 = 64 := by decide +kernel
theorem sum_many {b : List Int} (bb : Bytes b) (d k : Nat) : ∀ i : Nat, -(128 * manyD d k i) ≤ sumD b d k i ∧ sumD b d k i ≤ 128 * manyD d k i
  | 0 => by simp [sumD, manyD]
  | i + 1 => by
    have ih := sum_many bb d k i
    have := bb.get i
    simp only [sumD, manyD]
    split <;> omega
theorem term_many {s m : Int} (h0 : 0 < m) (h : -(128 * m) ≤ s ∧ s ≤ 128 * m) : s * s * (840 / m) ≤ 13762560 * m := by
  have e1 := mul_abs (a := s) (b := s) h h
  have q0 : 0 ≤ 840 / m := Int.ediv_nonneg (by omega) (by omega)
  have q1 : m * (840 / m) ≤ 840 := Int.mul_ediv_self_le (by omega)
  have e2 : s * s * (840 / m) ≤ 128 * m * (128 * m) * (840 / m) := Int.mul_le_mul_of_nonneg_right e1.2 q0
  have e3 : 128 * m * (128 * m) * (840 / m) = 16384 * m * (m * (840 / m)) := by
    rw [show 128 * m * (128 * m) = 16384 * m * m by rw [Int.mul_assoc, Int.mul_left_comm m 128 m, ← Int.mul_assoc 128 128, Int.mul_assoc 16384]; rfl, Int.mul_assoc (16384 * m)]
  have e4 : 16384 * m * (m * (840 / m)) ≤ 16384 * m * 840 := Int.mul_le_mul_of_nonneg_left q1 (by omega)
  omega
theorem wgt_many {b : List Int} (bb : Bytes b) (d : Nat) : ∀ k : Nat, 0 ≤ wgtD b d k ∧ wgtD b d k ≤ 13762560 * msum d k
  | 0 => by simp [wgtD, msum]
  | k + 1 => by
    have ih := wgt_many bb d k
    have t := (term_le bb d k).1
    have m0 := (manyD_le d k 64).1
    simp only [wgtD, msum]
    by_cases h : manyD d k 64 = 0
    · rw [if_pos h]; omega
    · rw [if_neg h] at t ⊢
      have := term_many (m := manyD d k 64) (by omega) (sum_many bb d k 64)
      omega
theorem best_max (b : List Int) : ∀ n d, d < n → wgtD b d 16 ≤ wgtD b (bestD b n) 16
  | 0, d, h => absurd h (Nat.not_lt_zero _)
  | n + 1, d, h => by
    have ih := best_max b n d
    simp only [bestD]
    by_cases e : d = n
    · subst e; split <;> omega
    · have := ih (by omega)
      split <;> omega
theorem strD_le {b : List Int} (bb : Bytes b) : 0 ≤ strD b ∧ strD b ≤ 860160 := by
  have hb := bestD_lt b 8
  have h1 := wgt_many bb (bestD b 8) 16
  have h2 := wgt_many bb ((bestD b 8 + 4) % 8) 16
  rw [msum_all _ (by omega)] at h1 h2
  have h3 := best_max b 8 ((bestD b 8 + 4) % 8) (by omega)
  unfold strD
  omega
def secS (n : Int) : Int := if n = 3 then 4 else n
def primS (n t : Int) : Int := if t = 0 then 0 else if t / 64 = 0 then (4 * n + 8) / 16 else (n * (4 + minI (Nat.log2 (t / 64).toNat : Nat) 12) + 8) / 16
theorem primS_mul {n t : Int} (hn : 0 ≤ n ∧ n ≤ 15) : 0 ≤ n * (4 + minI (Nat.log2 (t / 64).toNat : Nat) 12) ∧ n * (4 + minI (Nat.log2 (t / 64).toNat : Nat) 12) ≤ 240 := by
  have hm : 0 ≤ minI (Nat.log2 (t / 64).toNat : Nat) 12 ∧ minI (Nat.log2 (t / 64).toNat : Nat) 12 ≤ 12 := by unfold minI; split <;> omega
  generalize minI (Nat.log2 (t / 64).toNat : Nat) 12 = m at *
  have a := Int.mul_nonneg hn.1 (show (0 : Int) ≤ 4 + m by omega)
  have b := (mul_abs (a := n) (b := 4 + m) (A := 15) (B := 16) (by omega) (by omega)).2
  omega
theorem primS_le {n t : Int} (hn : 0 ≤ n ∧ n ≤ 15) : 0 ≤ primS n t ∧ primS n t ≤ 15 := by
  have := primS_mul (t := t) hn
  unfold primS
  repeat' split
  all_goals omega
theorem second_ok (lo : Nat) (n : Int) (M : Mem) : Ac P T lo F.cdef_second [.int .i64 n] M fun r => r = (.int .i64 (secS n), M) := by
  refine Ac.of (Evp.of_eq (fun k => cdef_second.entry k ..) ?_)
  exact Evp.eqb (fun h => Evp.ret (Run.ret (by unfold secS; rw [if_pos h]))) fun h => Evp.ret (Run.ret (by unfold secS; rw [if_neg h]))
theorem primary_ok (lo : Nat) (n t : Int) (M : Mem) (hn : 0 ≤ n ∧ n ≤ 15) (ht : 0 ≤ t ∧ t ≤ 860160) : Ac P T lo F.cdef_primary [.int .i64 n, .int .i64 t] M fun r => r = (.int .i64 (primS n t), M) := by
  have pm := primS_mul (t := t) hn
  refine Ac.of (Evp.of_eq (fun k => cdef_primary.entry k ..) ?_)
  rw [shr_eq 6 (by omega), show ((2 : Int) ^ 6) = 64 from rfl]
  refine Evp.eqb (fun h => Evp.ret (Run.ret (by unfold primS; rw [if_pos h]))) fun h => ?_
  refine Evp.eqb (fun h2 => ?_) fun h2 => ?_
  · rw [w64 (x := 4 * n) (by omega), w64 (x := 4 * n + 8) (by omega), shr_eq 4 (by omega)]
    exact Evp.ret (Run.ret (by unfold primS; rw [if_neg h, if_pos h2]; rfl))
  · obtain ⟨x, hx⟩ := Int.eq_ofNat_of_zero_le (a := t / 64) (by omega)
    have hp : primS n t = (n * (4 + minI (Nat.log2 x : Nat) 12) + 8) / 16 := by unfold primS; rw [if_neg h, if_neg h2, hx]; rfl
    rw [hp]
    rw [hx] at h2 pm ⊢
    simp only [Int.toNat_natCast] at pm
    rw [wu64 (by omega)]
    refine Evp.ob (len_ok lo x M (by omega)) ?_
    rintro _ rfl
    simp only [ret_int, ret_bool, ret_flt, ret_slc, ret_str, ret_ptr, ret_agg, ret_tup, ob_some, bb_true, bb_false, List.getElem?_cons_zero, List.getElem?_cons_succ, List.length_cons, List.length_nil, Nat.reduceAdd, Nat.reduceLT]
    have l20 := log2_le (x := x) (by omega)
    have e1 : IntKind.i64.wrap (((lenB x : Nat) : Int) - 1) = (Nat.log2 x : Nat) := by
      unfold lenB
      rw [if_neg (by omega), w64 (by omega)]; omega
    have hm : 0 ≤ minI (Nat.log2 x : Nat) 12 ∧ minI (Nat.log2 x : Nat) 12 ≤ 12 := by unfold minI; split <;> omega
    rw [e1, w64 (x := 4 + minI (Nat.log2 x : Nat) 12) (by omega), w64 (x := n * (4 + minI (Nat.log2 x : Nat) 12)) (by omega), w64 (by omega), shr_eq 4 (by omega)]
    exact Evp.ret (Run.ret rfl)
structure Plv where
  w : Int
  h : Int
  A : Option Addr
  c : Nat
  xs : List Int
structure Fr3 where
  p0 : Plv
  p1 : Plv
  p2 : Plv
structure Hd where
  h0 : Bool
  h1 : Int
  h2 : Bool
  h3 : Bool
  h4 : Int
  h5 : Int
  h6 : Int
  h7 : Int
  h8 : Int
  h9 : Int
  h10 : Int
  h11 : Int
  h12 : Int
  h13 : Int
  h14 : Int
  h15 : Int
  h16 : Int
  h17 : Bool
  h18 : Int
  h19 : Int
  h20 : Int
  h21 : Int
  h22 : Int
  cdef : Bool
  damp : Int
  h25 : Int
  A : Option Addr
  n : Nat
  c : Nat
  h27 : Bool
  h28 : Bool
  h29 : Bool
abbrev Fr3.cells (f : Fr3) : List Value := [.int .i64 f.p0.w, .int .i64 f.p0.h, .slice f.p0.A f.p0.xs.length f.p0.c, .int .i64 f.p1.w, .int .i64 f.p1.h, .slice f.p1.A f.p1.xs.length f.p1.c, .int .i64 f.p2.w, .int .i64 f.p2.h, .slice f.p2.A f.p2.xs.length f.p2.c]
abbrev Hd.cells (hd : Hd) : List Value := [.bool hd.h0, .int .i64 hd.h1, .bool hd.h2, .bool hd.h3, .int .i64 hd.h4, .int .i64 hd.h5, .int .i64 hd.h6, .int .i64 hd.h7, .int .i64 hd.h8, .int .i64 hd.h9, .int .i64 hd.h10, .int .i64 hd.h11, .int .i64 hd.h12, .int .i64 hd.h13, .int .i64 hd.h14, .int .i64 hd.h15, .int .i64 hd.h16, .bool hd.h17, .int .i64 hd.h18, .int .i64 hd.h19, .int .i64 hd.h20, .int .i64 hd.h21, .int .i64 hd.h22, .bool hd.cdef, .int .i64 hd.damp, .int .i64 hd.h25, .slice hd.A hd.n hd.c, .bool hd.h27, .bool hd.h28, .bool hd.h29]
def StrOk (L : List Int) (i : Nat) : Prop := (0 ≤ L.getD (i * 4) 0 ∧ L.getD (i * 4) 0 ≤ 15) ∧ (0 ≤ L.getD (i * 4 + 2) 0 ∧ L.getD (i * 4 + 2) 0 ≤ 15) ∧ (0 ≤ L.getD (i * 4 + 1) 0 ∧ L.getD (i * 4 + 1) 0 ≤ 3) ∧ (0 ≤ L.getD (i * 4 + 3) 0 ∧ L.getD (i * 4 + 3) 0 ≤ 3)
def WholeF (f : Fr3) : Prop := WholeP f.p0.w f.p0.h f.p0.xs.length f.p1.w f.p1.h f.p1.xs.length f.p2.w f.p2.h f.p2.xs.length
def CdefP (hd : Hd) (ws L : List Int) : Prop := (3 ≤ hd.damp ∧ hd.damp ≤ 6) ∧ (1 ≤ hd.n ∧ hd.n ≤ 8) ∧ (∀ i, i < hd.n → StrOk L i) ∧ ∀ i, i < ws.length → 0 ≤ ws.getD i 0 ∧ ws.getD i 0 ≤ (hd.n : Int) - 1
def cd_MayP (f : Fr3) (qn : Nat) (ws : List Int) (hd : Hd) (L : List Int) : Prop :=
  WholeF f ∧ f.p0.w % 8 = 0 ∧ f.p0.h % 8 = 0 ∧ (qn : Int) = f.p0.w / 8 * (f.p0.h / 8) ∧ (ws.length : Int) = (f.p0.w + 63) / 64 * ((f.p0.h + 63) / 64) ∧ (hd.cdef = true → CdefP hd ws L)
theorem ldS {M : Mem} {A : Option Addr} {n : Nat} {L : List Int} (h : Rd M A n 4 (L.map (Value.int .i64))) {i : Nat} (hi : i < n) : ∃ a, A = some a ∧ (M.ld (plus a (i * 4))).bind (Value.int? .i64) = some (L.getD (i * 4) 0) ∧
    (M.ld (plus (plus a (i * 4)) 1)).bind (Value.int? .i64) = some (L.getD (i * 4 + 1) 0) ∧ (M.ld (plus (plus a (i * 4)) 2)).bind (Value.int? .i64) = some (L.getD (i * 4 + 2) 0) ∧ (M.ld (plus (plus a (i * 4)) 3)).bind (Value.int? .i64) = some (L.getD (i * 4 + 3) 0) := by
  have hl : L.length = n * 4 := by have := h.1; simpa using this
  have hm : ∀ k, k < 4 → ∃ a, A = some a ∧ (M.ld (plus a (i * 4 + k))).bind (Value.int? .i64) = some (L.getD (i * 4 + k) 0) := fun k hk => by
    obtain ⟨a, ea, _, hld⟩ := Rd.get h (i := i * 4 + k) (by omega)
    refine ⟨a, ea, ?_⟩
    rw [hld]
    exact tab_get L (i * 4 + k) (by omega)
  obtain ⟨a, rfl, h0⟩ := hm 0 (by omega)
  obtain ⟨_, e, h1⟩ := hm 1 (by omega); injection e with e; subst e
  obtain ⟨_, e, h2⟩ := hm 2 (by omega); injection e with e; subst e
  obtain ⟨_, e, h3⟩ := hm 3 (by omega); injection e with e; subst e
  refine ⟨a, rfl, h0, ?_, ?_, ?_⟩
  · rw [plus_plus]; exact h1
  · rw [plus_plus]; exact h2
  · rw [plus_plus]; exact h3
theorem squares_ok (lo : Nat) (n : Int) (M : Mem) (hn : 0 ≤ n ∧ n ≤ 1024) : Ac P T lo F.cdef_may_1 [.int .i64 n] M fun r => r = (.int .i64 ((n + 63) / 64), M) := by
  obtain ⟨x, rfl⟩ := Int.eq_ofNat_of_zero_le hn.1
  refine Ac.of (Evp.of_eq (fun k => cdef_may_1.entry k ..) ?_)
  rw [w64 (x := (x : Int) + 64) (by omega), w64 (x := (x : Int) + 64 - 1) (by omega), show (x : Int) + 64 - 1 = ((x + 63 : Nat) : Int) by omega, show Int.tdiv ((x + 63 : Nat) : Int) 64 = (((x + 63) / 64 : Nat) : Int) from rfl, w64 (by omega)]
  refine Evp.ret (Run.ret ?_)
  congr 2
section
variable (lo : Nat) (f : Fr3) (Q V : Option Addr) (qn qc vc : Nat) (ws : List Int) (hd : Hd) (L : List Int) (M : Mem)
variable (hV : RdI M .i64 V ws) (hn : ws.length ≤ 17592186043904) (hL : Rd M hd.A hd.n 4 (L.map (Value.int .i64)))
include hV hn hL
omit hL in
theorem has_idx (B : Addr) (hB : M.ld (plus B 26) = some (.slice hd.A hd.n hd.c)) : ∀ (d i : Nat), ws.length - i = d → i ≤ ws.length → (∀ j, j < i → 0 ≤ ws.getD j 0 ∧ ws.getD j 0 ≤ (hd.n : Int) - 1) → hd.n ≤ 8 →
    Run P T lo F.slices_IndexFunc__int_int (slices_IndexFunc__int_int.c52 V ws.length vc (.func (.func F.cdef_may_2) ⟨[]⟩ ⟨[.pointer (some B)]⟩) ws.length i M) fun r => ∃ z : Int, r = (.int .i64 z, M) ∧ (¬ z ≥ 0 ↔ ∀ i, i < ws.length → 0 ≤ ws.getD i 0 ∧ ws.getD i 0 ≤ (hd.n : Int) - 1) := by
  intro d
  induction d with
  | zero =>
    intro i hd' hi hj h8
    refine Run.cut (Evp.of_eq (fun k => slices_IndexFunc__int_int.p52 k ..) ?_)
    exact Evp.dec (fun g => absurd g (by omega)) fun _ => Evp.ret (Run.ret ⟨-1, rfl, fun _ j h => hj j (by omega), fun _ => by omega⟩)
  | succ d ih =>
    intro i hd' hi hj h8
    refine Run.cut (Evp.of_eq (fun k => slices_IndexFunc__int_int.p52 k ..) ?_)
    refine Evp.dec (fun _ => ?_) fun g => absurd g (by omega)
    refine Evp.pos (by omega) ?_
    simp only [Int.toNat_natCast]
    refine Evp.ldI hV (by omega) fun _ _ => Evp.some rfl ?_
    have one : Ac P T lo F.cdef_may_2 [.int .i64 (ws.getD i 0), .pointer (some B)] M fun r => r = (.bool (!decide (0 ≤ ws.getD i 0 ∧ ws.getD i 0 ≤ (hd.n : Int) - 1)), M) := by
      refine Ac.of (Evp.of_eq (fun k => cdef_may_2.entry k ..) ?_)
      rw [hB]
      refine Evp.some rfl ?_
      rw [w64 (by show _ ∧ _; dsimp only; omega)]
      refine Evp.ob (cwithin_ok ..) ?_
      rintro _ rfl
      simp only [ret_int, ret_bool, ret_flt, ret_slc, ret_str, ret_ptr, ret_agg, ret_tup, ob_some, bb_true, bb_false, List.getElem?_cons_zero, List.getElem?_cons_succ, List.length_cons, List.length_nil, Nat.reduceAdd, Nat.reduceLT]
      exact Evp.ret (Run.ret rfl)
    refine Evp.ob one ?_
    rintro _ rfl
    simp only [ret_int, ret_bool, ret_flt, ret_slc, ret_str, ret_ptr, ret_agg, ret_tup, ob_some, bb_true, bb_false, List.getElem?_cons_zero, List.getElem?_cons_succ, List.length_cons, List.length_nil, Nat.reduceAdd, Nat.reduceLT]
    refine Evp.nb (fun g => ?_) fun g => ?_
    · have g := of_decide_eq_false g
      exact Evp.ret (Run.ret ⟨i, rfl, fun e => absurd (Int.natCast_nonneg i) e, fun e => absurd (e i (by omega)) g⟩)
    · have g := of_decide_eq_true g
      rw [w64 (by omega)]
      exact Evp.ret (ih (i + 1) (by omega) (by omega) (fun j h => by
        by_cases e : j = i
        · subst e; exact g
        · exact hj j (by omega)) h8)
theorem cd_may_ok : Ac P T lo F.cdef_may [.agg ⟨f.cells⟩, .slice Q qn qc, .slice V ws.length vc, .agg ⟨hd.cells⟩] M fun r => ∃ b M', r = (.bool b, M') ∧ Pre M M' ∧ (b = true ↔ cd_MayP f qn ws hd L) := by
  obtain ⟨M1, hM1⟩ : ∃ M1 : Mem, M1 = M ++ [⟨.fx, [.bool hd.h0, .int .i64 hd.h1, .bool hd.h2, .bool hd.h3, .int .i64 hd.h4, .int .i64 hd.h5, .int .i64 hd.h6, .int .i64 hd.h7, .int .i64 hd.h8, .int .i64 hd.h9, .int .i64 hd.h10, .int .i64 hd.h11, .int .i64 hd.h12, .int .i64 hd.h13, .int .i64 hd.h14, .int .i64 hd.h15, .int .i64 hd.h16, .bool hd.h17, .int .i64 hd.h18, .int .i64 hd.h19, .int .i64 hd.h20, .int .i64 hd.h21, .int .i64 hd.h22, .bool hd.cdef, .int .i64 hd.damp, .int .i64 hd.h25, .slice hd.A hd.n hd.c, .bool hd.h27, .bool hd.h28, .bool hd.h29]⟩] := ⟨_, rfl⟩
  have b1 : Buf M M1 ⟨M.length, 0, none⟩ hd.cells := by rw [hM1]; exact Buf.push (Pre.refl _)
  have p1 : Pre M M1 := by rw [hM1]; exact Pre.app _ _
  have g23 : M1.ld (plus ⟨M.length, 0, none⟩ 23) = some (.bool hd.cdef) := b1.cell (i := 23) (by show 23 < 30; decide)
  have g24 : M1.ld (plus ⟨M.length, 0, none⟩ 24) = some (.int .i64 hd.damp) := b1.cell (i := 24) (by show 24 < 30; decide)
  have g26 : M1.ld (plus ⟨M.length, 0, none⟩ 26) = some (.slice hd.A hd.n hd.c) := b1.cell (i := 26) (by show 26 < 30; decide)
  have no : ¬ cd_MayP f qn ws hd L → Evp (fun k => some (.ret (.bool false) M1)) fun out => Run P T lo F.cdef_may out fun r => ∃ b M', r = (.bool b, M') ∧ Pre M M' ∧ (b = true ↔ cd_MayP f qn ws hd L) := fun g => Evp.ret (Run.ret ⟨false, M1, rfl, p1, fun e => absurd e (by decide), fun e => absurd e g⟩)
  have hV1 := hV.pre p1
  have hL1 := hL.pre p1
  refine Ac.of (Evp.of_eq (fun k => cdef_may.entry k ..) ?_)
  rw [← hM1]
  refine Evp.ob (whole_ok ..) ?_
  rintro _ rfl
  simp only [ret_int, ret_bool, ret_flt, ret_slc, ret_str, ret_ptr, ret_agg, ret_tup, ob_some, bb_true, bb_false, List.getElem?_cons_zero, List.getElem?_cons_succ, List.length_cons, List.length_nil, Nat.reduceAdd, Nat.reduceLT]
  refine Evp.neb (fun g => no fun e => g (by unfold wholeS; rw [if_pos (show WholeP _ _ _ _ _ _ _ _ _ from e.1)])) fun k1 => ?_
  have hw : WholeF f := by
    by_cases h : WholeF f
    · exact h
    · exfalso
      unfold wholeS at k1
      rw [if_neg (show ¬ WholeP _ _ _ _ _ _ _ _ _ from h)] at k1
      omega
  have sw : sideP f.p0.w := hw.2.1
  have sh : sideP f.p0.h := hw.2.2.1
  unfold sideP at sw sh
  rw [Int.tmod_eq_emod_of_nonneg (show 0 ≤ f.p0.w by omega), Int.tmod_eq_emod_of_nonneg (show 0 ≤ f.p0.h by omega), Int.tdiv_eq_ediv_of_nonneg (show 0 ≤ f.p0.w by omega), Int.tdiv_eq_ediv_of_nonneg (show 0 ≤ f.p0.h by omega)]
  have m1 := mul_abs (a := f.p0.w / 8) (b := f.p0.h / 8) (A := 32) (B := 32) (by omega) (by omega)
  have m2 := mul_abs (a := (f.p0.w + 63) / 64) (b := (f.p0.h + 63) / 64) (A := 5) (B := 5) (by omega) (by omega)
  rw [w64 (x := f.p0.w / 8) (by omega), w64 (x := f.p0.h / 8) (by omega), w64 (x := f.p0.w / 8 * (f.p0.h / 8)) (by omega)]
  refine Evp.neb (fun g => no fun e => g e.2.1) fun k2 => ?_
  refine Evp.neb (fun g => no fun e => g e.2.2.1) fun k3 => ?_
  refine Evp.neb (fun g => no fun e => g e.2.2.2.1) fun k4 => ?_
  refine Evp.ob (squares_ok lo f.p0.w M1 (by omega)) ?_
  rintro _ rfl
  simp only [ret_int, ret_bool, ret_flt, ret_slc, ret_str, ret_ptr, ret_agg, ret_tup, ob_some, bb_true, bb_false, List.getElem?_cons_zero, List.getElem?_cons_succ, List.length_cons, List.length_nil, Nat.reduceAdd, Nat.reduceLT]
  refine Evp.ob (squares_ok lo f.p0.h M1 (by omega)) ?_
  rintro _ rfl
  simp only [ret_int, ret_bool, ret_flt, ret_slc, ret_str, ret_ptr, ret_agg, ret_tup, ob_some, bb_true, bb_false, List.getElem?_cons_zero, List.getElem?_cons_succ, List.length_cons, List.length_nil, Nat.reduceAdd, Nat.reduceLT]
  rw [w64 (x := (f.p0.w + 63) / 64 * ((f.p0.h + 63) / 64)) (by omega)]
  refine Evp.neb (fun g => no fun e => g e.2.2.2.2.1) fun k5 => ?_
  rw [g23]
  refine Evp.some rfl ?_
  refine Evp.nb (fun g => ?_) fun kc => ?_
  · exact Evp.ret (Run.ret ⟨true, M1, rfl, p1, fun _ => ⟨hw, k2, k3, k4, k5, fun e => by rw [e] at g; cases g⟩, fun _ => rfl⟩)
  rw [g24]
  refine Evp.some rfl ?_
  refine Evp.ob (cwithin_ok ..) ?_
  rintro _ rfl
  simp only [ret_int, ret_bool, ret_flt, ret_slc, ret_str, ret_ptr, ret_agg, ret_tup, ob_some, bb_true, bb_false, List.getElem?_cons_zero, List.getElem?_cons_succ, List.length_cons, List.length_nil, Nat.reduceAdd, Nat.reduceLT]
  refine Evp.nb (fun g => no fun e => of_decide_eq_false g (e.2.2.2.2.2 kc).1) fun k6 => ?_
  have k6 := of_decide_eq_true k6
  rw [g26]
  refine Evp.some rfl ?_
  refine Evp.ob (cwithin_ok ..) ?_
  rintro _ rfl
  simp only [ret_int, ret_bool, ret_flt, ret_slc, ret_str, ret_ptr, ret_agg, ret_tup, ob_some, bb_true, bb_false, List.getElem?_cons_zero, List.getElem?_cons_succ, List.length_cons, List.length_nil, Nat.reduceAdd, Nat.reduceLT]
  refine Evp.nb (fun g => no fun e => of_decide_eq_false g (by have := (e.2.2.2.2.2 kc).2.1; omega)) fun k7 => ?_
  have k7 := of_decide_eq_true k7
  rw [g26]
  refine Evp.some rfl (Evp.ret ?_)
  have loop : ∀ (d i : Nat), hd.n - i = d → i ≤ hd.n → (∀ j, j < i → StrOk L j) → Run P T lo F.cdef_may (cdef_may.c500 V ws.length vc ⟨M.length, 0, none⟩ hd.A hd.n hd.c (hd.n : Int) i M1) fun r => ∃ b M', r = (.bool b, M') ∧ Pre M M' ∧ (b = true ↔ cd_MayP f qn ws hd L) := by
    intro d
    induction d with
    | zero =>
      intro i hd' hi hj
      refine Run.cut (Evp.of_eq (fun k => cdef_may.p500 k ..) ?_)
      refine Evp.dec (fun g => absurd g (by omega)) fun _ => ?_
      have hc : Ac P T lo F.slices_ContainsFunc__int_int [.slice V ws.length vc, .func (.func F.cdef_may_2) ⟨[]⟩ ⟨[.pointer (some ⟨M.length, 0, none⟩)]⟩] M1 fun r => ∃ b, r = (.bool b, M1) ∧ (b = false ↔ ∀ i, i < ws.length → 0 ≤ ws.getD i 0 ∧ ws.getD i 0 ≤ (hd.n : Int) - 1) := by
        have hi0 : Ac P T lo F.slices_IndexFunc__int_int [.slice V ws.length vc, .func (.func F.cdef_may_2) ⟨[]⟩ ⟨[.pointer (some ⟨M.length, 0, none⟩)]⟩] M1 fun r => ∃ z : Int, r = (.int .i64 z, M1) ∧ (¬ z ≥ 0 ↔ ∀ i, i < ws.length → 0 ≤ ws.getD i 0 ∧ ws.getD i 0 ≤ (hd.n : Int) - 1) := by
          refine Ac.of (Evp.of_eq (fun k => slices_IndexFunc__int_int.entry k ..) ?_)
          exact Evp.ret (has_idx lo V vc ws hd M1 hV1 hn ⟨M.length, 0, none⟩ g26 _ 0 rfl (by omega) (fun j h => by omega) (by omega))
        refine Ac.of (Evp.of_eq (fun k => slices_ContainsFunc__int_int.entry k ..) ?_)
        refine Evp.ob hi0 ?_
        rintro _ ⟨z, rfl, hz⟩
        simp only [ret_int, ret_bool, ret_flt, ret_slc, ret_str, ret_ptr, ret_agg, ret_tup, ob_some, bb_true, bb_false, List.getElem?_cons_zero, List.getElem?_cons_succ, List.length_cons, List.length_nil, Nat.reduceAdd, Nat.reduceLT]
        exact Evp.ret (Run.ret ⟨_, rfl, by rw [← hz]; exact decide_eq_false_iff_not⟩)
      refine Evp.ob hc ?_
      rintro _ ⟨b, rfl, hb⟩
      simp only [ret_int, ret_bool, ret_flt, ret_slc, ret_str, ret_ptr, ret_agg, ret_tup, ob_some, bb_true, bb_false, List.getElem?_cons_zero, List.getElem?_cons_succ, List.length_cons, List.length_nil, Nat.reduceAdd, Nat.reduceLT]
      refine Evp.ret (Run.ret ⟨_, _, rfl, p1, fun e => ⟨hw, k2, k3, k4, k5, fun _ => ⟨k6, by omega, fun j h => hj j (by omega), hb.1 (by simpa using e)⟩⟩, fun e => ?_⟩)
      have := hb.2 (e.2.2.2.2.2 kc).2.2.2
      rw [this]; rfl
    | succ d ih =>
      intro i hd' hi hj
      obtain ⟨a, ea, l0, l1, l2, l3⟩ := ldS hL1 (i := i) (by omega)
      refine Run.cut (Evp.of_eq (fun k => cdef_may.p500 k ..) ?_)
      refine Evp.dec (fun _ => ?_) fun g => absurd g (by omega)
      refine Evp.pos (by omega) ?_
      simp only [Int.toNat_natCast]
      refine Evp.some ea (Evp.some l0 (Evp.some l1 (Evp.some l2 (Evp.some l3 ?_))))
      refine Evp.ob (cwithin_ok ..) ?_
      rintro _ rfl
      simp only [ret_int, ret_bool, ret_flt, ret_slc, ret_str, ret_ptr, ret_agg, ret_tup, ob_some, bb_true, bb_false, List.getElem?_cons_zero, List.getElem?_cons_succ, List.length_cons, List.length_nil, Nat.reduceAdd, Nat.reduceLT]
      refine Evp.nb (fun g => no fun e => of_decide_eq_false g ((e.2.2.2.2.2 kc).2.2.1 i (by omega)).1) fun q1 => ?_
      refine Evp.ob (cwithin_ok ..) ?_
      rintro _ rfl
      simp only [ret_int, ret_bool, ret_flt, ret_slc, ret_str, ret_ptr, ret_agg, ret_tup, ob_some, bb_true, bb_false, List.getElem?_cons_zero, List.getElem?_cons_succ, List.length_cons, List.length_nil, Nat.reduceAdd, Nat.reduceLT]
      refine Evp.nb (fun g => no fun e => of_decide_eq_false g ((e.2.2.2.2.2 kc).2.2.1 i (by omega)).2.1) fun q2 => ?_
      refine Evp.ob (cwithin_ok ..) ?_
      rintro _ rfl
      simp only [ret_int, ret_bool, ret_flt, ret_slc, ret_str, ret_ptr, ret_agg, ret_tup, ob_some, bb_true, bb_false, List.getElem?_cons_zero, List.getElem?_cons_succ, List.length_cons, List.length_nil, Nat.reduceAdd, Nat.reduceLT]
      refine Evp.nb (fun g => no fun e => of_decide_eq_false g ((e.2.2.2.2.2 kc).2.2.1 i (by omega)).2.2.1) fun q3 => ?_
      refine Evp.ob (cwithin_ok ..) ?_
      rintro _ rfl
      simp only [ret_int, ret_bool, ret_flt, ret_slc, ret_str, ret_ptr, ret_agg, ret_tup, ob_some, bb_true, bb_false, List.getElem?_cons_zero, List.getElem?_cons_succ, List.length_cons, List.length_nil, Nat.reduceAdd, Nat.reduceLT]
      refine Evp.nb (fun g => no fun e => of_decide_eq_false g ((e.2.2.2.2.2 kc).2.2.1 i (by omega)).2.2.2) fun q4 => ?_
      rw [w64 (by omega)]
      exact Evp.ret (ih (i + 1) (by omega) (by omega) fun j h => by
        by_cases e : j = i
        · subst e; exact ⟨of_decide_eq_true q1, of_decide_eq_true q2, of_decide_eq_true q3, of_decide_eq_true q4⟩
        · exact hj j (by omega))
  exact loop _ 0 rfl (by omega) fun j h => by omega
end
def Fr3.at (f : Fr3) (n : Nat) : Plv := match n with | 0 => f.p0 | 1 => f.p1 | _ => f.p2
abbrev csL (f : Fr3) (ad : Nat → Addr) (cc : Nat → Nat) : List Value := [.int .i64 f.p0.w, .int .i64 f.p0.h, .slice (some (ad 0)) f.p0.xs.length (cc 0), .int .i64 f.p1.w, .int .i64 f.p1.h, .slice (some (ad 1)) f.p1.xs.length (cc 1), .int .i64 f.p2.w, .int .i64 f.p2.h, .slice (some (ad 2)) f.p2.xs.length (cc 2)]
structure Bufs (M0 M : Mem) (f : Fr3) (ad : Nat → Addr) (os : Nat → List Int) : Prop where
  buf : ∀ n, n < 3 → Buf M0 M (ad n) ((os n).map (Value.int .u8))
  len : ∀ n, n < 3 → (os n).length = (f.at n).xs.length
  ne : ∀ m n, m < 3 → n < 3 → m ≠ n → (ad m).block ≠ (ad n).block
def upd (os : Nat → List Int) (n : Nat) (v : List Int) : Nat → List Int := fun m => if m = n then v else os m
theorem Bufs.pre {M0 M M' : Mem} {f : Fr3} {ad : Nat → Addr} {os : Nat → List Int} (h : Bufs M0 M f ad os) (hp : Pre M M') : Bufs M0 M' f ad os := ⟨fun n hn => (h.buf n hn).pre hp, h.len, h.ne⟩
theorem Bufs.congr {M0 M : Mem} {f : Fr3} {ad : Nat → Addr} {os os' : Nat → List Int} (h : Bufs M0 M f ad os) (he : ∀ n, n < 3 → os n = os' n) : Bufs M0 M f ad os' :=
  ⟨fun n hn => by rw [← he n hn]; exact h.buf n hn, fun n hn => by rw [← he n hn]; exact h.len n hn, h.ne⟩
theorem Bufs.st {M0 M : Mem} {f : Fr3} {ad : Nat → Addr} {os : Nat → List Int} (h : Bufs M0 M f ad os) {n : Nat} (hn : n < 3) (hp : Pre M0 M) {lo i : Nat} (hlo : lo ≤ M0.length) {vs : List Int} (hi : i + vs.length ≤ (os n).length) :
    ∃ M', M.st lo (plus (ad n) i) (vs.map (Value.int .u8)) = some M' ∧ Bufs M0 M' f ad (upd os n (setL (os n) i vs)) ∧ Pre M0 M' ∧ Keep (some (ad n)) M M' := by
  have smap : ∀ (cs : List Int) (i : Nat) (vs : List Int), setL (cs.map (Value.int .u8)) i (vs.map (Value.int .u8)) = (setL cs i vs).map (Value.int .u8) := fun cs i vs => by
    induction vs generalizing cs i with
    | nil => rfl
    | cons v r ih => simp only [List.map_cons, setL, set_map, ih]
  obtain ⟨M', h1, h2, h3, h4, _⟩ := (h.buf n hn).st (lo := lo) (i := i) (vs := vs.map (Value.int .u8)) hp hlo (by simpa using hi)
  rw [smap] at h2
  refine ⟨M', h1, ⟨fun m hm => ?_, fun m hm => ?_, h.ne⟩, h3, h4⟩
  · unfold upd
    by_cases e : m = n
    · subst e; rw [if_pos rfl]; exact h2
    · rw [if_neg e]
      exact (h.buf m hm).keep h4 fun a' ha => by injection ha with ha; subst ha; exact h.ne n m hn hm (Ne.symm e)
  · unfold upd
    by_cases e : m = n
    · subst e; rw [if_pos rfl, setL_len]; exact h.len m hm
    · rw [if_neg e]; exact h.len m hm
theorem upd_upd (os : Nat → List Int) (n : Nat) (u v : List Int) : upd (upd os n u) n v = upd os n v := by
  funext m; unfold upd; split <;> rfl
theorem upd_self (os : Nat → List Int) (n : Nat) (v : List Int) : upd os n v n = v := by unfold upd; rw [if_pos rfl]
theorem upd_same (os : Nat → List Int) (n : Nat) : upd os n (os n) = os := by
  funext m; unfold upd; split
  · rename_i h; rw [h]
  · rfl
theorem layE_row {w h x y rw rh : Nat} {xs bs : List Int} (hn : xs.length = w * h) (hr1 : 1 ≤ rw) (hx : x + rw ≤ w) (hy : y + rh ≤ h) (hb : bs.length = rh * rw) (k : Nat) (hk : k < rh) :
    setL (layE w xs bs x y rw rh (k * rw)) ((y + k) * w + x) ((bs.drop (k * rw)).take rw) = layE w xs bs x y rw rh ((k + 1) * rw) := by
  have key : ∀ d j, rw - j = d → j ≤ rw → setL (layE w xs bs x y rw rh (k * rw + j)) ((y + k) * w + x + j) ((bs.drop (k * rw + j)).take (rw - j)) = layE w xs bs x y rw rh (k * rw + rw) := by
    intro d
    induction d with
    | zero =>
      intro j hd hj
      obtain rfl : j = rw := by omega
      rw [Nat.sub_self, List.take_zero]; rfl
    | succ d ih =>
      intro j hd hj
      have lt : k * rw + j < bs.length := by
        have : (k + 1) * rw ≤ rh * rw := Nat.mul_le_mul_right _ (by omega)
        rw [Nat.succ_mul] at this
        omega
      obtain ⟨d1, d2⟩ := dm (W := rw) (r := k) (s := j) (by omega)
      have hs := layE_set (bs := bs) hn hr1 hx hy (k * rw + j) (by omega)
      rw [d1, d2] at hs
      rw [List.drop_eq_getElem_cons lt, show rw - j = (rw - j - 1) + 1 by omega, List.take_succ_cons]
      have eg : bs[k * rw + j] = bs.getD (k * rw + j) 0 := by rw [List.getD_eq_getElem?_getD, List.getElem?_eq_getElem lt]; rfl
      simp only [setL]
      rw [eg, show (y + k) * w + x + j = (y + k) * w + (x + j) by omega, hs]
      have := ih (j + 1) (by omega) (by omega)
      rw [show rw - j - 1 = rw - (j + 1) by omega, show k * rw + j + 1 = k * rw + (j + 1) by omega, show (y + k) * w + (x + j) + 1 = (y + k) * w + x + (j + 1) by omega]
      exact this
  have := key rw 0 (by omega) (by omega)
  rw [Nat.add_zero, Nat.sub_zero] at this
  rw [Nat.succ_mul]
  exact this
def cut8 (f : Fr3) (X Y : Nat) : List Int := cutS f.p0.w.toNat f.p0.xs X Y 8 64
def newS (p : Plv) (o : List Int) (X Y S d pri sec : Nat) (damp : Int) : List Int := layE p.w.toNat o (blockS p.w.toNat p.h.toNat p.xs X Y S damp (tapsS d pri sec) (S * S)) X Y S S (S * S)
def newN (f : Fr3) (damp : Int) (X Y : Nat) (a b c d : Int) (n : Nat) (o : List Int) : List Int :=
  if n = 0 then newS f.p0 o X Y 8 (if a = 0 then 0 else bestD (cut8 f X Y) 8) (primS a (strD (cut8 f X Y))).toNat (secS b).toNat damp
  else newS (f.at n) o (X / 2) (Y / 2) 4 (if c = 0 then 0 else bestD (cut8 f X Y) 8) c.toNat (secS d).toNat (damp - 1)
def foldF (f : Fr3) (qs : List Bool) (ws L : List Int) (damp : Int) : Nat → Nat → List Int
  | 0 => fun n => (f.at n).xs
  | i + 1 =>
    if qs.getD i false = true then foldF f qs ws L damp i
    else fun n => newN f damp (8 * (i % (f.p0.w.toNat / 8))) (8 * (i / (f.p0.w.toNat / 8)))
      (L.getD ((ws.getD (8 * (i / (f.p0.w.toNat / 8)) / 64 * ((f.p0.w.toNat + 63) / 64) + 8 * (i % (f.p0.w.toNat / 8)) / 64) 0).toNat * 4) 0)
      (L.getD ((ws.getD (8 * (i / (f.p0.w.toNat / 8)) / 64 * ((f.p0.w.toNat + 63) / 64) + 8 * (i % (f.p0.w.toNat / 8)) / 64) 0).toNat * 4 + 1) 0)
      (L.getD ((ws.getD (8 * (i / (f.p0.w.toNat / 8)) / 64 * ((f.p0.w.toNat + 63) / 64) + 8 * (i % (f.p0.w.toNat / 8)) / 64) 0).toNat * 4 + 2) 0)
      (L.getD ((ws.getD (8 * (i / (f.p0.w.toNat / 8)) / 64 * ((f.p0.w.toNat + 63) / 64) + 8 * (i % (f.p0.w.toNat / 8)) / 64) 0).toNat * 4 + 3) 0) n (foldF f qs ws L damp i n)
structure FrOk (M : Mem) (f : Fr3) : Prop where
  rd : ∀ n, n < 3 → RdI M .u8 (f.at n).A (f.at n).xs
  by_ : ∀ n, n < 3 → Bytes (f.at n).xs
  cap : ∀ n, n < 3 → (f.at n).xs.length ≤ (f.at n).c
  chk : ∀ n, n < 3 → checkS (f.at n).w (f.at n).h (f.at n).xs.length = 0
theorem lt3 {n : Nat} (h : n < 3) : n = 0 ∨ n = 1 ∨ n = 2 := by omega
theorem fr_w {f : Fr3} {n : Nat} (hn : n < 3) : ((f.cells)[0 + n * 3 + 0]?).bind (Value.int? .i64) = some (f.at n).w := by
  rcases lt3 hn with rfl | rfl | rfl <;> rfl
theorem fr_h {f : Fr3} {n : Nat} (hn : n < 3) : ((f.cells)[0 + n * 3 + 1]?).bind (Value.int? .i64) = some (f.at n).h := by
  rcases lt3 hn with rfl | rfl | rfl <;> rfl
theorem fr_p {f : Fr3} {n : Nat} (hn : n < 3) : ((f.cells)[0 + n * 3 + 2]?).bind Value.slc? = some ⟨(f.at n).A, (f.at n).xs.length, (f.at n).c⟩ := by
  rcases lt3 hn with rfl | rfl | rfl <;> rfl
theorem cs_w {f : Fr3} {ad : Nat → Addr} {cc : Nat → Nat} {n : Nat} (hn : n < 3) : ((csL f ad cc)[0 + n * 3 + 0 + 0]?).bind (Value.int? .i64) = some (f.at n).w := by
  rcases lt3 hn with rfl | rfl | rfl <;> rfl
theorem cs_p {f : Fr3} {ad : Nat → Addr} {cc : Nat → Nat} {n : Nat} (hn : n < 3) : ((csL f ad cc)[0 + n * 3 + 2 + 0]?).bind Value.slc? = some ⟨some (ad n), (f.at n).xs.length, cc n⟩ := by
  rcases lt3 hn with rfl | rfl | rfl <;> rfl
abbrev kN (V : Option Addr) (vn vc : Nat) (ac X Y dir str : Int) (Q : Option Addr) (qn qc : Nat) (len i n : Int) (f : Fr3) (hd : Hd) (cs : List Value) (a b c d : Int) (M : Mem) : Out := cdef_Frame.c33371132 V vn vc ac X Y dir str Q qn qc len i n f.p0.w f.p0.h f.p0.A f.p0.xs.length f.p0.c f.p1.w f.p1.h f.p1.A f.p1.xs.length f.p1.c f.p2.w f.p2.h f.p2.A f.p2.xs.length f.p2.c hd.h0 hd.h1 hd.h2 hd.h3 hd.h4 hd.h5 hd.h6 hd.h7 hd.h8 hd.h9 hd.h10 hd.h11 hd.h12 hd.h13 hd.h14 hd.h15 hd.h16 hd.h17 hd.h18 hd.h19 hd.h20 hd.h21 hd.h22 hd.cdef hd.damp hd.h25 hd.A hd.n hd.c hd.h27 hd.h28 hd.h29 0 0 none 0 0 0 0 none 0 0 0 0 none 0 0 cs a b c d M
abbrev kD (V : Option Addr) (vn vc : Nat) (ac X Y dir str n pri named sec damp : Int) (Q : Option Addr) (qn qc : Nat) (len i : Int) (f : Fr3) (hd : Hd) (cs : List Value) (a b c d rx ry rw rh : Int) (M : Mem) : Out := cdef_Frame.c4271504999 V vn vc ac X Y dir str n pri named sec damp Q qn qc len i n f.p0.w f.p0.h f.p0.A f.p0.xs.length f.p0.c f.p1.w f.p1.h f.p1.A f.p1.xs.length f.p1.c f.p2.w f.p2.h f.p2.A f.p2.xs.length f.p2.c hd.h0 hd.h1 hd.h2 hd.h3 hd.h4 hd.h5 hd.h6 hd.h7 hd.h8 hd.h9 hd.h10 hd.h11 hd.h12 hd.h13 hd.h14 hd.h15 hd.h16 hd.h17 hd.h18 hd.h19 hd.h20 hd.h21 hd.h22 hd.cdef hd.damp hd.h25 hd.A hd.n hd.c hd.h27 hd.h28 hd.h29 0 0 none 0 0 0 0 none 0 0 0 0 none 0 0 cs a b c d rx ry rw rh M
abbrev kR (V : Option Addr) (vn vc : Nat) (ac X Y dir str n : Int) (B : Option Addr) (bn bc : Nat) (Q : Option Addr) (qn qc : Nat) (len i k : Int) (f : Fr3) (hd : Hd) (cs : List Value) (a b c d rx ry rw rh : Int) (M : Mem) : Out := cdef_Frame.c546752639996 V vn vc ac X Y dir str n B bn bc Q qn qc len i n rh k f.p0.w f.p0.h f.p0.A f.p0.xs.length f.p0.c f.p1.w f.p1.h f.p1.A f.p1.xs.length f.p1.c f.p2.w f.p2.h f.p2.A f.p2.xs.length f.p2.c hd.h0 hd.h1 hd.h2 hd.h3 hd.h4 hd.h5 hd.h6 hd.h7 hd.h8 hd.h9 hd.h10 hd.h11 hd.h12 hd.h13 hd.h14 hd.h15 hd.h16 hd.h17 hd.h18 hd.h19 hd.h20 hd.h21 hd.h22 hd.cdef hd.damp hd.h25 hd.A hd.n hd.c hd.h27 hd.h28 hd.h29 0 0 none 0 0 0 0 none 0 0 0 0 none 0 0 cs a b c d rx ry rw rh M
abbrev kI (V : Option Addr) (vn vc : Nat) (ac : Int) (Q : Option Addr) (qn qc : Nat) (len i : Int) (f : Fr3) (hd : Hd) (cs : List Value) (M : Mem) : Out := cdef_Frame.c2036 V vn vc ac Q qn qc len i f.p0.w f.p0.h f.p0.A f.p0.xs.length f.p0.c f.p1.w f.p1.h f.p1.A f.p1.xs.length f.p1.c f.p2.w f.p2.h f.p2.A f.p2.xs.length f.p2.c hd.h0 hd.h1 hd.h2 hd.h3 hd.h4 hd.h5 hd.h6 hd.h7 hd.h8 hd.h9 hd.h10 hd.h11 hd.h12 hd.h13 hd.h14 hd.h15 hd.h16 hd.h17 hd.h18 hd.h19 hd.h20 hd.h21 hd.h22 hd.cdef hd.damp hd.h25 hd.A hd.n hd.c hd.h27 hd.h28 hd.h29 0 0 none 0 0 0 0 none 0 0 0 0 none 0 0 cs M
section
variable (lo : Nat) (f : Fr3) (V Q : Option Addr) (vn vc qn qc : Nat) (hd : Hd) (ac X Y str len i : Int) (dir : Nat) (a b c d : Int) (M0 : Mem) (ad : Nat → Addr) (cc : Nat → Nat) (R : Value × Mem → Prop)
variable (hlo : lo ≤ M0.length) (hf : FrOk M0 f) (hcc : ∀ n, n < 3 → (f.at n).xs.length ≤ cc n)
include hlo hf hcc
theorem plane_rows (n : Nat) (hn : n < 3) (S RX RY : Nat) (hS : S = 8 ∨ S = 4) (hx : RX + S ≤ (f.at n).w.toNat) (hy : RY + S ≤ (f.at n).h.toNat) (B : Option Addr) (cb : Nat) (bs : List Int) (hb : bs.length = S * S) (hcb : S * S ≤ cb) (os : Nat → List Int)
    (next : ∀ M', Pre M0 M' → Bufs M0 M' f ad (upd os n (layE (f.at n).w.toNat (os n) bs RX RY S S (S * S))) → Run P T lo F.cdef_Frame (kN V vn vc ac X Y dir str Q qn qc len i ((n + 1 : Nat) : Int) f hd (csL f ad cc) a b c d M') R) :
    ∀ (e k : Nat) (M : Mem), S - k = e → k ≤ S → Pre M0 M → Bufs M0 M f ad (upd os n (layE (f.at n).w.toNat (os n) bs RX RY S S (k * S))) → (∀ n', n' < 3 → ∀ x, B = some x → (ad n').block ≠ x.block) → RdI M .u8 B bs →
      Run P T lo F.cdef_Frame (kR V vn vc ac X Y dir str n B (S * S) cb Q qn qc len i k f hd (csL f ad cc) a b c d RX RY S S M) R := by
  have ck := checkS_len' (hf.chk n hn)
  obtain ⟨W, hW⟩ := Int.eq_ofNat_of_zero_le (a := (f.at n).w) (by omega)
  obtain ⟨H, hH⟩ := Int.eq_ofNat_of_zero_le (a := (f.at n).h) (by omega)
  have eW : (f.at n).w.toNat = W := by omega
  have eH : (f.at n).h.toNat = H := by omega
  have hl : (f.at n).xs.length = W * H := by have := ck.2.2.2.2; rw [hW, hH, ← Int.natCast_mul] at this; omega
  have hm : W * H ≤ 512 * 512 := Nat.mul_le_mul (by omega) (by omega)
  simp only [eW] at hx next ⊢
  simp only [eH] at hy
  intro e
  induction e with
  | zero =>
    intro k M he hk hp hB hne hr
    obtain rfl : k = S := by omega
    refine Run.cut (Evp.of_eq (fun k => cdef_Frame.p546752639996 k ..) ?_)
    refine Evp.dec (fun g => absurd g (by omega)) fun _ => ?_
    rw [w64 (by omega)]
    exact Evp.ret (next M hp hB)
  | succ e ih =>
    intro k M he hk hp hB hne hr
    have hkS : k < S := by omega
    have oin : (RY + k) * W + RX + S ≤ W * H := by
      have : (RY + k + 1) * W ≤ H * W := Nat.mul_le_mul_right _ (by omega)
      rw [Nat.succ_mul, Nat.mul_comm H W] at this
      omega
    have kS : k * S + S ≤ S * S := by
      have : (k + 1) * S ≤ S * S := Nat.mul_le_mul_right _ (by omega)
      rwa [Nat.succ_mul] at this
    have sm : S * S ≤ 64 := by rcases hS with rfl | rfl <;> omega
    have hol : (upd os n (layE W (os n) bs RX RY S S (k * S)) n).length = W * H := by rw [hB.len n hn, hl]
    rw [upd_self] at hol
    have hol' : (os n).length = W * H := by rw [layE_len] at hol; exact hol
    refine Run.cut (Evp.of_eq (fun k => cdef_Frame.p546752639996 k ..) ?_)
    refine Evp.dec (fun _ => ?_) fun g => absurd g (by omega)
    refine Evp.pos (by omega) ?_
    simp only [Int.toNat_natCast]
    refine Evp.some (cs_p hn) (Evp.pos (by omega) (Evp.some (cs_w hn) ?_))
    have e0 : IntKind.i64.wrap ((IntKind.i64.wrap ((IntKind.i64.wrap ((RY : Int) + k)) * (f.at n).w)) + (RX : Int)) = (((RY + k) * W + RX : Nat) : Int) := by
      have e1 : ((RY : Int) + k) * (W : Int) = (((RY + k) * W : Nat) : Int) := by simp
      rw [hW, w64 (x := (RY : Int) + k) (by omega), e1]
      generalize (RY + k) * W = g at *
      rw [w64 (x := (g : Int)) (by omega), w64 (by omega)]; omega
    have e2 : IntKind.i64.wrap ((k : Int) * S) = ((k * S : Nat) : Int) := by rw [← Int.natCast_mul, w64 (by omega)]
    have e3 : IntKind.i64.wrap ((IntKind.i64.wrap ((k : Int) + 1)) * S) = ((k * S + S : Nat) : Int) := by
      rw [w64 (x := (k : Int) + 1) (by omega), show (k : Int) + 1 = ((k + 1 : Nat) : Int) by omega, ← Int.natCast_mul, Nat.succ_mul, w64 (by omega)]
    have hcn := hcc n hn
    dsimp only
    rw [e0, e2, e3]
    refine Evp.pos (by omega) (Evp.pos (by omega) ?_)
    simp only [Int.toNat_natCast]
    have emin : Nat.min (k * S + S - k * S) ((f.at n).xs.length - ((RY + k) * W + RX)) = S := by rw [show k * S + S - k * S = S by omega]; exact Nat.min_eq_left (by omega)
    simp only [emin]
    have hsrc := (hr.slAddr (l := k * S) (h := k * S + S) (c := cb) (by omega) (by omega) (by omega)).src
    rw [List.length_take, List.length_drop, show min (k * S + S - k * S) (bs.length - k * S) = S by omega, show k * S + S - k * S = S by omega] at hsrc
    refine Evp.some hsrc (Evp.neg (by omega) ?_)
    have esl : slAddr 1 (some (ad n)) ((RY + k) * W + RX) (cc n) = some (plus (ad n) ((RY + k) * W + RX)) := by
      unfold slAddr
      rw [if_neg (by omega)]; rfl
    refine Evp.some esl ?_
    have hrow := layE_row (bs := bs) hol' (by omega) hx hy hb k hkS
    obtain ⟨M', h1, h2, h3, h4⟩ := hB.st (n := n) hn hp (lo := lo) (i := (RY + k) * W + RX) hlo (vs := (bs.drop (k * S)).take S) (by rw [upd_self, hol, List.length_take, List.length_drop]; omega)
    rw [upd_self, upd_upd, hrow] at h2
    refine Evp.some h1 ?_
    rw [w64 (x := (k : Int) + 1) (by omega)]
    exact Evp.ret (ih (k + 1) M' (by omega) (by omega) h3 h2 hne (Rd.keep hr h4 fun x x' hx hx' => by injection hx' with hx'; subst hx'; exact hne n hn x hx))
theorem prog_block (n : Nat) (hn : n < 3) (S RX RY : Nat) (hS : S = 8 ∨ S = 4) (hx : RX + S ≤ (f.at n).w.toNat) (hy : RY + S ≤ (f.at n).h.toNat) (pri named sec damp : Int) (hdir : dir < 8) (hpri : 0 ≤ pri ∧ pri ≤ 15) (hsec : 0 ≤ sec ∧ sec ≤ 3) (hdamp : 0 ≤ damp ∧ damp ≤ 6) (os : Nat → List Int) (M : Mem) (hp : Pre M0 M) (hB : Bufs M0 M f ad os)
    (next : ∀ M', Pre M0 M' → Bufs M0 M' f ad (upd os n (newS (f.at n) (os n) RX RY S (if named = 0 then 0 else dir) pri.toNat (secS sec).toNat damp)) → Run P T lo F.cdef_Frame (kN V vn vc ac X Y dir str Q qn qc len i ((n + 1 : Nat) : Int) f hd (csL f ad cc) a b c d M') R) :
    Run P T lo F.cdef_Frame (kD V vn vc ac X Y dir str n pri named sec damp Q qn qc len i f hd (csL f ad cc) a b c d RX RY S S M) R := by
  have ck := checkS_len' (hf.chk n hn)
  have hsec4 : 0 ≤ secS sec ∧ secS sec ≤ 4 := by unfold secS; split <;> omega
  have key : ∀ d' : Nat, d' < 8 → (∀ M', Pre M0 M' → Bufs M0 M' f ad (upd os n (newS (f.at n) (os n) RX RY S d' pri.toNat (secS sec).toNat damp)) → Run P T lo F.cdef_Frame (kN V vn vc ac X Y dir str Q qn qc len i ((n + 1 : Nat) : Int) f hd (csL f ad cc) a b c d M') R) →
      Run P T lo F.cdef_Frame (cdef_Frame.c17086019999 V vn vc ac X Y dir str n pri sec damp d' Q qn qc len i n f.p0.w f.p0.h f.p0.A f.p0.xs.length f.p0.c f.p1.w f.p1.h f.p1.A f.p1.xs.length f.p1.c f.p2.w f.p2.h f.p2.A f.p2.xs.length f.p2.c hd.h0 hd.h1 hd.h2 hd.h3 hd.h4 hd.h5 hd.h6 hd.h7 hd.h8 hd.h9 hd.h10 hd.h11 hd.h12 hd.h13 hd.h14 hd.h15 hd.h16 hd.h17 hd.h18 hd.h19 hd.h20 hd.h21 hd.h22 hd.cdef hd.damp hd.h25 hd.A hd.n hd.c hd.h27 hd.h28 hd.h29 0 0 none 0 0 0 0 none 0 0 0 0 none 0 0 (csL f ad cc) a b c d RX RY S S M) R := fun d' hd' nx => by
    have ok : BlockOk (f.at n).w (f.at n).h (f.at n).xs.length RX RY S S d' pri (secS sec) damp := ⟨hf.chk n hn, by rcases hS with rfl | rfl <;> omega, by rcases hS with rfl | rfl <;> omega, by omega, by omega, by omega, hpri, hsec4, hdamp⟩
    refine Run.cut (Evp.of_eq (fun k => cdef_Frame.p17086019999 k ..) ?_)
    refine Evp.pos (by omega) ?_
    simp only [Int.toNat_natCast]
    refine Evp.some (fr_w hn) (Evp.some (fr_h hn) (Evp.some (fr_p hn) ?_))
    refine Evp.ob (second_ok M.length sec M) ?_
    rintro _ rfl
    simp only [ret_int, ret_bool, ret_flt, ret_slc, ret_str, ret_ptr, ret_agg, ret_tup, ob_some, bb_true, bb_false, List.getElem?_cons_zero, List.getElem?_cons_succ, List.length_cons, List.length_nil, Nat.reduceAdd, Nat.reduceLT]
    refine Evp.ob (block_ok _ (f.at n).A (f.at n).c (f.at n).xs (f.at n).w (f.at n).h RX RY S S d' pri (secS sec) damp M (by have := hp.len; omega) ((hf.rd n hn).pre hp) (hf.by_ n hn)) ?_
    rintro ⟨v, M2⟩ ⟨p2, hb⟩
    rw [if_pos ok] at hb
    obtain ⟨B, cb, e, hcb, gB⟩ := hb
    simp only [Int.toNat_natCast] at e gB p2 hcb
    subst e
    simp only [ret_int, ret_bool, ret_flt, ret_slc, ret_str, ret_ptr, ret_agg, ret_tup, ob_some, bb_true, bb_false, List.getElem?_cons_zero, List.getElem?_cons_succ, List.length_cons, List.length_nil, Nat.reduceAdd, Nat.reduceLT]
    refine Evp.neb (fun g => absurd rfl g) fun _ => Evp.ret ?_
    unfold newS at nx
    obtain ⟨bs, hbs⟩ : ∃ bs, bs = blockS (f.at n).w.toNat (f.at n).h.toNat (f.at n).xs RX RY S damp (tapsS d' pri.toNat (secS sec).toNat) (S * S) := ⟨_, rfl⟩
    have hbl : bs.length = S * S := by rw [hbs, blockS_len]
    rw [← hbs] at nx gB
    have rB : RdI M2 .u8 B bs := by
      have := gB.rd
      rw [← hbl] at this
      exact this
    have hBn : ∀ n', n' < 3 → ∀ x, B = some x → (ad n').block ≠ x.block := fun n' hn' x hx => by
      have i1 := (hB.buf n' hn').in_
      rcases gB.at_ with ⟨e, _⟩ | ⟨q, e, q2, _⟩
      · rw [e] at hx; cases hx
      · rw [e] at hx; injection hx with hx; subst hx
        show (ad n').block ≠ q
        omega
    refine plane_rows lo f V Q vn vc qn qc hd ac X Y str len i dir a b c d M0 ad cc R hlo hf hcc n hn S RX RY hS hx hy B cb bs hbl hcb os nx S 0 M2 rfl (by omega) (hp.trans p2) ?_ hBn rB
    rw [Nat.zero_mul, layE_zero, upd_same]
    exact hB.pre p2
  refine Run.cut (Evp.of_eq (fun k => cdef_Frame.p4271504999 k ..) ?_)
  refine Evp.eqb (fun g => Evp.ret (key 0 (by omega) fun M' q1 q2 => next M' q1 (by rw [if_pos g]; exact q2))) fun g => Evp.ret (key dir hdir fun M' q1 q2 => next M' q1 (by rw [if_neg g]; exact q2))
end
theorem cut8_len (f : Fr3) (X Y : Nat) : (cut8 f X Y).length = 64 := cutS_len ..
theorem cut8_bytes {f : Fr3} (h : Bytes f.p0.xs) (X Y : Nat) : Bytes (cut8 f X Y) := fun z hz => by
  unfold cut8 cutS at hz
  obtain ⟨i, _, rfl⟩ := List.mem_map.1 hz
  exact h.get _
structure FrIn (M : Mem) (f : Fr3) : Prop where
  rd : ∀ n, n < 3 → RdI M .u8 (f.at n).A (f.at n).xs
  by_ : ∀ n, n < 3 → Bytes (f.at n).xs
  cap : ∀ n, n < 3 → (f.at n).xs.length ≤ (f.at n).c
theorem FrIn.ok {M : Mem} {f : Fr3} (h : FrIn M f) (hw : WholeF f) : FrOk M f := ⟨h.rd, h.by_, h.cap, fun n hn => by
  rcases lt3 hn with rfl | rfl | rfl
  · exact hw.1
  · exact hw.2.2.2.1
  · exact hw.2.2.2.2.2.2.1⟩
theorem FrIn.pre {M M' : Mem} {f : Fr3} (h : FrIn M f) (hp : Pre M M') : FrIn M' f := ⟨fun n hn => (h.rd n hn).pre hp, h.by_, h.cap⟩
theorem FrOk.pre {M M' : Mem} {f : Fr3} (h : FrOk M f) (hp : Pre M M') : FrOk M' f := ⟨fun n hn => (h.rd n hn).pre hp, h.by_, h.cap, h.chk⟩
theorem blk_in {f : Fr3} (hw : WholeF f) (h8 : f.p0.w % 8 = 0) (v8 : f.p0.h % 8 = 0) {X Y : Nat} (hX : X % 8 = 0 ∧ X + 8 ≤ f.p0.w.toNat) (hY : Y % 8 = 0 ∧ Y + 8 ≤ f.p0.h.toNat) :
    ∀ n, n < 3 → n ≠ 0 → X / 2 + 4 ≤ (f.at n).w.toNat ∧ Y / 2 + 4 ≤ (f.at n).h.toNat := fun n hn h0 => by
  obtain ⟨_, s1, s2, _, e1, e2, _, e3, e4⟩ := hw
  unfold sideP at s1 s2
  rcases lt3 hn with rfl | rfl | rfl
  · exact absurd rfl h0
  · show X / 2 + 4 ≤ f.p1.w.toNat ∧ Y / 2 + 4 ≤ f.p1.h.toNat
    omega
  · show X / 2 + 4 ≤ f.p2.w.toNat ∧ Y / 2 + 4 ≤ f.p2.h.toNat
    omega
section
variable (lo : Nat) (f : Fr3) (V Q : Option Addr) (vn vc qn qc : Nat) (hd : Hd) (M0 : Mem) (ad : Nat → Addr) (cc : Nat → Nat) (R : Value × Mem → Prop)
variable (hlo : lo ≤ M0.length) (hf : FrOk M0 f) (hcc : ∀ n, n < 3 → (f.at n).xs.length ≤ cc n) (hw : WholeF f) (h8 : f.p0.w % 8 = 0) (v8 : f.p0.h % 8 = 0)
include hlo hf hcc hw h8 v8
theorem prog_planes (ac len i : Int) (X Y : Nat) (hX : X % 8 = 0 ∧ X + 8 ≤ f.p0.w.toNat) (hY : Y % 8 = 0 ∧ Y + 8 ≤ f.p0.h.toNat) (a b c d : Int) (hs : (0 ≤ a ∧ a ≤ 15) ∧ (0 ≤ c ∧ c ≤ 15) ∧ (0 ≤ b ∧ b ≤ 3) ∧ (0 ≤ d ∧ d ≤ 3)) (hdamp : 3 ≤ hd.damp ∧ hd.damp ≤ 6) (os : Nat → List Int) (M : Mem) (hp : Pre M0 M) (hB : Bufs M0 M f ad os)
    (next : ∀ M', Pre M0 M' → Bufs M0 M' f ad (fun n => newN f hd.damp X Y a b c d n (os n)) → Run P T lo F.cdef_Frame (cdef_Frame.c16295 V vn vc ac Q qn qc len i f.p0.w f.p0.h f.p0.A f.p0.xs.length f.p0.c f.p1.w f.p1.h f.p1.A f.p1.xs.length f.p1.c f.p2.w f.p2.h f.p2.A f.p2.xs.length f.p2.c hd.h0 hd.h1 hd.h2 hd.h3 hd.h4 hd.h5 hd.h6 hd.h7 hd.h8 hd.h9 hd.h10 hd.h11 hd.h12 hd.h13 hd.h14 hd.h15 hd.h16 hd.h17 hd.h18 hd.h19 hd.h20 hd.h21 hd.h22 hd.cdef hd.damp hd.h25 hd.A hd.n hd.c hd.h27 hd.h28 hd.h29 0 0 none 0 0 0 0 none 0 0 0 0 none 0 0 (csL f ad cc) M') R) :
    Run P T lo F.cdef_Frame (kN V vn vc ac X Y (bestD (cut8 f X Y) 8 : Nat) (strD (cut8 f X Y)) Q qn qc len i 0 f hd (csL f ad cc) a b c d M) R := by
  obtain ⟨s1, s2, s3, s4⟩ := hs
  have hb8 : bestD (cut8 f X Y) 8 < 8 := by have := bestD_lt (cut8 f X Y) 8; omega
  have hst := strD_le (cut8_bytes (hf.by_ 0 (by omega)) X Y)
  have sz := blk_in hw h8 v8 hX hY
  have sw : sideP f.p0.w := hw.2.1
  have sh : sideP f.p0.h := hw.2.2.1
  unfold sideP at sw sh
  have hpr := primS_le (n := a) (t := strD (cut8 f X Y)) s1
  have stepN : ∀ n, n < 3 → ∀ (os : Nat → List Int) (M : Mem), Pre M0 M → Bufs M0 M f ad os → (∀ M', Pre M0 M' → Bufs M0 M' f ad (upd os n (newN f hd.damp X Y a b c d n (os n))) → Run P T lo F.cdef_Frame (kN V vn vc ac X Y (bestD (cut8 f X Y) 8 : Nat) (strD (cut8 f X Y)) Q qn qc len i ((n + 1 : Nat) : Int) f hd (csL f ad cc) a b c d M') R) →
      Run P T lo F.cdef_Frame (kN V vn vc ac X Y (bestD (cut8 f X Y) 8 : Nat) (strD (cut8 f X Y)) Q qn qc len i (n : Int) f hd (csL f ad cc) a b c d M) R := fun n hn os M hp hB nx => by
    refine Run.cut (Evp.of_eq (fun k => cdef_Frame.p33371132 k ..) ?_)
    refine Evp.dec (fun _ => ?_) fun g => absurd g (by omega)
    refine Evp.ob (primary_ok M.length a (strD (cut8 f X Y)) M s1 hst) ?_
    rintro _ rfl
    simp only [ret_int, ret_bool, ret_flt, ret_slc, ret_str, ret_ptr, ret_agg, ret_tup, ob_some, bb_true, bb_false, List.getElem?_cons_zero, List.getElem?_cons_succ, List.length_cons, List.length_nil, Nat.reduceAdd, Nat.reduceLT]
    by_cases h0 : n = 0
    · subst h0
      refine Evp.dec (fun g => absurd g (by omega)) fun _ => Evp.ret ?_
      refine prog_block lo f V Q vn vc qn qc hd ac X Y (strD (cut8 f X Y)) len i (bestD (cut8 f X Y) 8) a b c d M0 ad cc R hlo hf hcc 0 (by omega) 8 X Y (.inl rfl) hX.2 hY.2 _ a b hd.damp hb8 hpr s3 (by omega) os M hp hB fun M' q1 q2 => nx M' q1 ?_
      unfold newN
      rw [if_pos rfl]
      exact q2
    · refine Evp.dec (fun _ => Evp.ret ?_) fun g => absurd g (by omega)
      rw [show Int.tdiv (X : Int) 2 = ((X / 2 : Nat) : Int) from rfl, show Int.tdiv (Y : Int) 2 = ((Y / 2 : Nat) : Int) from rfl, w64 (x := ((X / 2 : Nat) : Int)) (by omega), w64 (x := ((Y / 2 : Nat) : Int)) (by omega), w64 (x := hd.damp - 1) (by omega)]
      obtain ⟨z1, z2⟩ := sz n hn h0
      refine prog_block lo f V Q vn vc qn qc hd ac X Y (strD (cut8 f X Y)) len i (bestD (cut8 f X Y) 8) a b c d M0 ad cc R hlo hf hcc n hn 4 (X / 2) (Y / 2) (.inr rfl) z1 z2 c c d (hd.damp - 1) hb8 s2 s4 (by omega) os M hp hB fun M' q1 q2 => nx M' q1 ?_
      unfold newN
      rw [if_neg h0]
      exact q2
  refine stepN 0 (by omega) os M hp hB fun M1 p1 b1 => ?_
  refine stepN 1 (by omega) _ M1 p1 b1 fun M2 p2 b2 => ?_
  refine stepN 2 (by omega) _ M2 p2 b2 fun M3 p3 b3 => ?_
  refine Run.cut (Evp.of_eq (fun k => cdef_Frame.p33371132 k ..) ?_)
  refine Evp.dec (fun g => absurd g (by decide)) fun _ => Evp.ret (next M3 p3 (b3.congr fun n hn => ?_))
  rcases lt3 hn with rfl | rfl | rfl <;> rfl
theorem prog_blocks (qs : List Bool) (ws L : List Int) (hq : qs.length = f.p0.w.toNat / 8 * (f.p0.h.toNat / 8)) (hws : (ws.length : Int) = (f.p0.w + 63) / 64 * ((f.p0.h + 63) / 64)) (hC : CdefP hd ws L) (hQ : RdB M0 Q qs) (hV : RdI M0 .i64 V ws) (hL : Rd M0 hd.A hd.n 4 (L.map (Value.int .i64)))
    (fin : ∀ M', Pre M0 M' → Bufs M0 M' f ad (foldF f qs ws L hd.damp qs.length) → R (.tuple ⟨[.agg ⟨csL f ad cc⟩, .int .i64 0]⟩, M')) :
    ∀ (e i : Nat) (M : Mem), qs.length - i = e → i ≤ qs.length → Pre M0 M → Bufs M0 M f ad (foldF f qs ws L hd.damp i) →
      Run P T lo F.cdef_Frame (kI V ws.length vc ((f.p0.w.toNat / 8 : Nat) : Int) Q qs.length qc (qs.length : Int) i f hd (csL f ad cc) M) R := by
  have sw : sideP f.p0.w := hw.2.1
  have sh : sideP f.p0.h := hw.2.2.1
  unfold sideP at sw sh
  obtain ⟨W, hW⟩ := Int.eq_ofNat_of_zero_le (a := f.p0.w) (by omega)
  obtain ⟨H, hH⟩ := Int.eq_ofNat_of_zero_le (a := f.p0.h) (by omega)
  have eW : f.p0.w.toNat = W := by omega
  have eH : f.p0.h.toNat = H := by omega
  have hqm : qs.length ≤ 32 * 32 := by rw [hq]; exact Nat.mul_le_mul (by omega) (by omega)
  have hwl : ws.length = (W + 63) / 64 * ((H + 63) / 64) := by
    rw [hW, hH, show ((W : Int) + 63) / 64 = (((W + 63) / 64 : Nat) : Int) by omega, show ((H : Int) + 63) / 64 = (((H + 63) / 64 : Nat) : Int) by omega, ← Int.natCast_mul] at hws
    omega
  have hwm : ws.length ≤ 5 * 5 := by rw [hwl]; exact Nat.mul_le_mul (by omega) (by omega)
  intro e
  induction e with
  | zero =>
    intro i M he hi hp hB
    obtain rfl : i = qs.length := by omega
    refine Run.cut (Evp.of_eq (fun k => cdef_Frame.p2036 k ..) ?_)
    refine Evp.dec (fun g => absurd g (by omega)) fun _ => ?_
    refine Evp.some rfl (Evp.some rfl (Evp.some rfl (Evp.some rfl (Evp.some rfl (Evp.some rfl (Evp.some rfl (Evp.some rfl (Evp.some rfl ?_))))))))
    exact Evp.ret (Run.ret (fin M hp hB))
  | succ e ih =>
    intro i M he hi hp hB
    have on : ∀ M', Pre M0 M' → Bufs M0 M' f ad (foldF f qs ws L hd.damp (i + 1)) → Run P T lo F.cdef_Frame (cdef_Frame.c16295 V ws.length vc ((f.p0.w.toNat / 8 : Nat) : Int) Q qs.length qc (qs.length : Int) i f.p0.w f.p0.h f.p0.A f.p0.xs.length f.p0.c f.p1.w f.p1.h f.p1.A f.p1.xs.length f.p1.c f.p2.w f.p2.h f.p2.A f.p2.xs.length f.p2.c hd.h0 hd.h1 hd.h2 hd.h3 hd.h4 hd.h5 hd.h6 hd.h7 hd.h8 hd.h9 hd.h10 hd.h11 hd.h12 hd.h13 hd.h14 hd.h15 hd.h16 hd.h17 hd.h18 hd.h19 hd.h20 hd.h21 hd.h22 hd.cdef hd.damp hd.h25 hd.A hd.n hd.c hd.h27 hd.h28 hd.h29 0 0 none 0 0 0 0 none 0 0 0 0 none 0 0 (csL f ad cc) M') R := fun M' q1 q2 => by
      refine Run.cut (Evp.of_eq (fun k => cdef_Frame.p16295 k ..) ?_)
      rw [w64 (by omega)]
      exact Evp.ret (ih (i + 1) M' (by omega) (by omega) q1 q2)
    have hiq : i < f.p0.w.toNat / 8 * (f.p0.h.toNat / 8) := by omega
    rw [Nat.mul_comm] at hiq
    obtain ⟨i0, i1, i2, i3⟩ := dm_lt hiq
    refine Run.cut (Evp.of_eq (fun k => cdef_Frame.p2036 k ..) ?_)
    refine Evp.dec (fun _ => ?_) fun g => absurd g (by omega)
    refine Evp.pos (by omega) ?_
    simp only [Int.toNat_natCast]
    refine Evp.ldB (hQ.pre hp) (by omega) fun _ _ => ?_
    refine Evp.bb (fun g => Evp.ret (on M hp ?_)) fun g => ?_
    · show Bufs M0 M f ad (if qs.getD i false = true then foldF f qs ws L hd.damp i else _)
      rw [if_pos g]
      exact hB
    have on2 := fun M' q1 q2 => on M' q1 (show Bufs M0 M' f ad (if qs.getD i false = true then foldF f qs ws L hd.damp i else _) from by rw [if_neg (by rw [g]; decide)]; exact q2)
    clear on
    refine Evp.neg (by omega) (Evp.neg (by omega) ?_)
    have tm : Int.tmod (i : Int) ((f.p0.w.toNat / 8 : Nat) : Int) = ((i % (f.p0.w.toNat / 8) : Nat) : Int) := rfl
    have td : Int.tdiv (i : Int) ((f.p0.w.toNat / 8 : Nat) : Int) = ((i / (f.p0.w.toNat / 8) : Nat) : Int) := rfl
    rw [tm, td]
    rw [eW] at *
    obtain ⟨X, hX⟩ : ∃ X, X = 8 * (i % (W / 8)) := ⟨_, rfl⟩
    obtain ⟨Y, hY⟩ : ∃ Y, Y = 8 * (i / (W / 8)) := ⟨_, rfl⟩
    rw [← hX, ← hY] at on2
    have eX : IntKind.i64.wrap (8 * ((i % (W / 8) : Nat) : Int)) = (X : Int) := by
      rw [w64 (by generalize i % (W / 8) = u at *; omega)]; rw [hX]; generalize i % (W / 8) = u at *; omega
    have eY : IntKind.i64.wrap (8 * (IntKind.i64.wrap ((i / (W / 8) : Nat) : Int))) = (Y : Int) := by
      rw [w64 (x := ((i / (W / 8) : Nat) : Int)) (by generalize i / (W / 8) = u at *; omega), w64 (by generalize i / (W / 8) = u at *; omega)]; rw [hY]; generalize i / (W / 8) = u at *; omega
    rw [eX, eY]
    have bX : X % 8 = 0 ∧ X + 8 ≤ W := by generalize i % (W / 8) = u at *; omega
    have bY : Y % 8 = 0 ∧ Y + 8 ≤ H := by generalize i / (W / 8) = u at *; omega
    clear eX eY tm td
    have bY64 : Y / 64 < (H + 63) / 64 := by omega
    have bX64 : X / 64 < (W + 63) / 64 := by omega
    have hJ : Y / 64 * ((W + 63) / 64) + X / 64 < ws.length := by
      rw [hwl, Nat.mul_comm ((W + 63) / 64)]
      exact dm_in bY64 bX64
    have eJ : IntKind.i64.wrap ((IntKind.i64.wrap ((IntKind.i64.wrap (Int.tdiv (Y : Int) 64)) * (IntKind.i64.wrap (Int.tdiv (IntKind.i64.wrap ((IntKind.i64.wrap (f.p0.w + 64)) - 1)) 64)))) + (IntKind.i64.wrap (Int.tdiv (X : Int) 64))) = ((Y / 64 * ((W + 63) / 64) + X / 64 : Nat) : Int) := by
      rw [hW, w64 (x := (W : Int) + 64) (by omega), w64 (x := (W : Int) + 64 - 1) (by omega), show (W : Int) + 64 - 1 = ((W + 63 : Nat) : Int) by omega, show Int.tdiv ((W + 63 : Nat) : Int) 64 = (((W + 63) / 64 : Nat) : Int) from rfl,
        show Int.tdiv (Y : Int) 64 = ((Y / 64 : Nat) : Int) from rfl, show Int.tdiv (X : Int) 64 = ((X / 64 : Nat) : Int) from rfl, w64 (x := (((W + 63) / 64 : Nat) : Int)) (by omega), w64 (x := ((Y / 64 : Nat) : Int)) (by omega), w64 (x := ((X / 64 : Nat) : Int)) (by omega), ← Int.natCast_mul]
      generalize Y / 64 * ((W + 63) / 64) = u at *
      rw [w64 (x := (u : Int)) (by omega), w64 (by omega)]; omega
    rw [eJ]
    generalize Y / 64 * ((W + 63) / 64) + X / 64 = J at *
    refine Evp.pos (by omega) ?_
    simp only [Int.toNat_natCast]
    refine Evp.ldI (hV.pre hp) hJ fun _ _ => ?_
    have hJ4 := hC.2.2.2 J hJ
    refine Evp.pos (by omega) ?_
    obtain ⟨q, hq'⟩ : ∃ q, q = (ws.getD J 0).toNat := ⟨_, rfl⟩
    rw [← hq'] at on2 ⊢
    have hqn : q < hd.n := by omega
    obtain ⟨a, ea, l0, l1, l2, l3⟩ := ldS (hL.pre hp) (i := q) hqn
    have sq := hC.2.2.1 q hqn
    refine Evp.some ea (Evp.some l0 (Evp.some l1 (Evp.some l2 (Evp.some l3 ?_))))
    refine Evp.ob (pcut_ok lo f.p0.w f.p0.h f.p0.A f.p0.c f.p0.xs X Y 8 8 M ((hf.rd 0 (by omega)).pre hp) (hf.cap 0 (by omega)) (Nat.le_trans hlo hp.len)) ?_
    rintro ⟨v, M2⟩ ⟨p2, hb⟩
    rw [if_pos ⟨hf.chk 0 (by omega), show WithinP f.p0.w f.p0.h X Y 8 8 from ⟨by decide, by decide, by omega, by omega, by omega, by omega⟩⟩] at hb
    obtain ⟨B, cb, e', gB, _⟩ := hb
    have e8 : cutS f.p0.w.toNat f.p0.xs (X : Int).toNat (Y : Int).toNat (8 : Int).toNat ((8 : Int).toNat * (8 : Int).toNat) = cut8 f X Y := rfl
    rw [e8] at e' gB
    simp only at e' gB p2
    subst e'
    simp only [ret_int, ret_bool, ret_flt, ret_slc, ret_str, ret_ptr, ret_agg, ret_tup, ob_some, bb_true, bb_false, List.getElem?_cons_zero, List.getElem?_cons_succ, List.length_cons, List.length_nil, Nat.reduceAdd, Nat.reduceLT]
    refine Evp.neb (fun g => absurd rfl g) fun _ => ?_
    have rB : RdI M2 .u8 B (cut8 f X Y) := gB.rd
    refine Evp.ob (direction_ok lo B cb (cut8 f X Y) M2 rB (cut8_bytes (hf.by_ 0 (by omega)) X Y)) ?_
    rintro _ rfl
    rw [if_pos (cut8_len f X Y)]
    simp only [ret_int, ret_bool, ret_flt, ret_slc, ret_str, ret_ptr, ret_agg, ret_tup, ob_some, bb_true, bb_false, List.getElem?_cons_zero, List.getElem?_cons_succ, List.length_cons, List.length_nil, Nat.reduceAdd, Nat.reduceLT]
    refine Evp.ret ?_
    exact prog_planes lo f V Q ws.length vc qs.length qc hd M0 ad cc R hlo hf hcc hw h8 v8 _ _ _ X Y ⟨bX.1, by omega⟩ ⟨bY.1, by omega⟩ _ _ _ _ sq hC.1 _ M2 (hp.trans p2) (hB.pre p2) on2
end
abbrev zeroF : List Value := [.int .i64 0, .int .i64 0, .slice none 0 0, .int .i64 0, .int .i64 0, .slice none 0 0, .int .i64 0, .int .i64 0, .slice none 0 0]
def outF (f : Fr3) (qs : List Bool) (ws : List Int) (hd : Hd) (L : List Int) : Nat → List Int := if hd.cdef = true then foldF f qs ws L hd.damp qs.length else fun n => (f.at n).xs
def FrameR (f : Fr3) (qs : List Bool) (ws : List Int) (hd : Hd) (L : List Int) (M : Mem) (r : Value × Mem) : Prop :=
  Pre M r.2 ∧ ((cd_MayP f qs.length ws hd L ∧ ∃ ad cc, r.1 = .tuple ⟨[.agg ⟨csL f ad cc⟩, .int .i64 0]⟩ ∧ (∀ n, n < 3 → (f.at n).xs.length ≤ cc n) ∧ Bufs M r.2 f ad (outF f qs ws hd L)) ∨ (¬ cd_MayP f qs.length ws hd L ∧ r.1 = .tuple ⟨[.agg ⟨zeroF⟩, .int .i64 2]⟩))
def pick3 {α : Type} (a b c : α) : Nat → α
  | 0 => a
  | 1 => b
  | _ => c
theorem bufs_of {M0 M1 M2 M3 : Mem} {f : Fr3} (hf : FrOk M0 f) {A0 A1 A2 : Option Addr} (p1 : Pre M0 M1) (p2 : Pre M1 M2) (p3 : Pre M2 M3) (o0 : OwnM M0 M1 A0 f.p0.xs) (o1 : OwnM M1 M2 A1 f.p1.xs) (o2 : OwnM M2 M3 A2 f.p2.xs) :
    ∃ a0 a1 a2, A0 = some a0 ∧ A1 = some a1 ∧ A2 = some a2 ∧ Bufs M0 M3 f (pick3 a0 a1 a2) fun n => (f.at n).xs := by
  have pos : ∀ n, n < 3 → (f.at n).xs ≠ [] := fun n hn e => by
    have := checkS_len' (hf.chk n hn)
    have a := area ⟨this.1, this.2.1, this.2.2.1, this.2.2.2.1⟩
    have h := this.2.2.2.2
    rw [e] at h
    simp only [List.length_nil] at h
    omega
  rcases o0 with e | ⟨a0, e0, b0⟩
  · exact absurd e (pos 0 (by omega))
  rcases o1 with e | ⟨a1, e1, b1⟩
  · exact absurd e (pos 1 (by omega))
  rcases o2 with e | ⟨a2, e2, b2⟩
  · exact absurd e (pos 2 (by omega))
  have i0 := b0.in_
  have i1 := b1.in_
  have n1 := b1.new
  have n2 := b2.new
  have l1 := p1.len
  have l2 := p2.len
  have ne : a0.block ≠ a1.block ∧ a0.block ≠ a2.block ∧ a1.block ≠ a2.block := ⟨by omega, by omega, by omega⟩
  refine ⟨a0, a1, a2, e0, e1, e2, fun n hn => ?_, fun _ _ => rfl, fun m n hm hn hmn => ?_⟩
  · rcases lt3 hn with rfl | rfl | rfl
    · exact b0.pre (p2.trans p3)
    · exact (b1.floor l1).pre p3
    · exact b2.floor (by omega)
  · rcases lt3 hm with rfl | rfl | rfl <;> rcases lt3 hn with rfl | rfl | rfl
    · exact absurd rfl hmn
    · exact ne.1
    · exact ne.2.1
    · exact ne.1.symm
    · exact absurd rfl hmn
    · exact ne.2.2
    · exact ne.2.1.symm
    · exact ne.2.2.symm
    · exact absurd rfl hmn
section
variable (lo : Nat) (f : Fr3) (Q V : Option Addr) (qc vc : Nat) (qs : List Bool) (ws : List Int) (hd : Hd) (L : List Int) (M : Mem)
variable (hlo : lo ≤ M.length) (hf : FrIn M f) (hQ : RdB M Q qs) (hV : RdI M .i64 V ws) (hn : ws.length ≤ 17592186043904) (hL : Rd M hd.A hd.n 4 (L.map (Value.int .i64)))
include hlo hf hQ hV hn hL
theorem cframe_ok : Ac P T lo F.cdef_Frame [.agg ⟨f.cells⟩, .slice Q qs.length qc, .slice V ws.length vc, .agg ⟨hd.cells⟩] M (FrameR f qs ws hd L M) := by
  refine Ac.of (Evp.of_eq (fun k => cdef_Frame.entry k ..) ?_)
  refine Evp.ob (cd_may_ok lo f Q V qs.length qc vc ws hd L M hV hn hL) ?_
  rintro _ ⟨b, M0, rfl, p0, hb⟩
  simp only [ret_int, ret_bool, ret_flt, ret_slc, ret_str, ret_ptr, ret_agg, ret_tup, ob_some, bb_true, bb_false, List.getElem?_cons_zero, List.getElem?_cons_succ, List.length_cons, List.length_nil, Nat.reduceAdd, Nat.reduceLT]
  refine Evp.nb (fun g => ?_) fun g => ?_
  · have hm : ¬ cd_MayP f qs.length ws hd L := fun e => by rw [hb.2 e] at g; cases g
    exact Evp.ret (Run.ret ⟨p0, .inr ⟨hm, rfl⟩⟩)
  have hm := hb.1 g
  have hw := hm.1
  have hf0 := (hf.ok hw).pre p0
  have sm : ∀ n, n < 3 → (f.at n).xs.length ≤ 140737488351232 := fun n hn => by
    have := checkS_len' (hf0.chk n hn)
    have a := area ⟨this.1, this.2.1, this.2.2.1, this.2.2.2.1⟩
    have h := this.2.2.2.2
    omega
  have hlo0 := Nat.le_trans hlo p0.len
  refine Evp.ret ?_
  refine Run.cut (Evp.of_eq (fun k => cdef_Frame.p244 k ..) ?_)
  refine Evp.tt rfl (Evp.pos (by decide) (Evp.some rfl ?_))
  refine Evp.ob (cloneAny_ok lo f.p0.A f.p0.c f.p0.xs M0 (hf0.rd 0 (by omega)) (sm 0 (by omega)) hlo0) ?_
  rintro _ ⟨A0, c0, M1, rfl, p1, k0, o0⟩
  simp only [ret_int, ret_bool, ret_flt, ret_slc, ret_str, ret_ptr, ret_agg, ret_tup, ob_some, bb_true, bb_false, List.getElem?_cons_zero, List.getElem?_cons_succ, List.length_cons, List.length_nil, Nat.reduceAdd, Nat.reduceLT]
  refine Evp.pos (by decide) (Evp.pos (Nat.le_of_ble_eq_true rfl) ?_)
  rw [show IntKind.i64.wrap (0 + 1) = 1 from by decide]
  refine Evp.ret ?_
  refine Run.cut (Evp.of_eq (fun k => cdef_Frame.p244 k ..) ?_)
  refine Evp.tt rfl (Evp.pos (by decide) (Evp.some rfl ?_))
  refine Evp.ob (cloneAny_ok lo f.p1.A f.p1.c f.p1.xs M1 ((hf0.rd 1 (by omega)).pre p1) (sm 1 (by omega)) (Nat.le_trans hlo0 p1.len)) ?_
  rintro _ ⟨A1, c1, M2, rfl, p2, k1, o1⟩
  simp only [ret_int, ret_bool, ret_flt, ret_slc, ret_str, ret_ptr, ret_agg, ret_tup, ob_some, bb_true, bb_false, List.getElem?_cons_zero, List.getElem?_cons_succ, List.length_cons, List.length_nil, Nat.reduceAdd, Nat.reduceLT]
  refine Evp.pos (by decide) (Evp.pos (Nat.le_of_ble_eq_true rfl) ?_)
  rw [show IntKind.i64.wrap (1 + 1) = 2 from by decide]
  refine Evp.ret ?_
  refine Run.cut (Evp.of_eq (fun k => cdef_Frame.p244 k ..) ?_)
  refine Evp.tt rfl (Evp.pos (by decide) (Evp.some rfl ?_))
  refine Evp.ob (cloneAny_ok lo f.p2.A f.p2.c f.p2.xs M2 ((hf0.rd 2 (by omega)).pre (p1.trans p2)) (sm 2 (by omega)) (Nat.le_trans hlo0 (p1.trans p2).len)) ?_
  rintro _ ⟨A2, c2, M3, rfl, p3, k2, o2⟩
  simp only [ret_int, ret_bool, ret_flt, ret_slc, ret_str, ret_ptr, ret_agg, ret_tup, ob_some, bb_true, bb_false, List.getElem?_cons_zero, List.getElem?_cons_succ, List.length_cons, List.length_nil, Nat.reduceAdd, Nat.reduceLT]
  refine Evp.pos (by decide) (Evp.pos (Nat.le_of_ble_eq_true rfl) ?_)
  rw [show IntKind.i64.wrap (2 + 1) = 3 from by decide]
  obtain ⟨a0, a1, a2, rfl, rfl, rfl, hB⟩ := bufs_of hf0 p1 p2 p3 o0 o1 o2
  have p03 := (p1.trans p2).trans p3
  have hcc : ∀ n, n < 3 → (f.at n).xs.length ≤ pick3 c0 c1 c2 n := fun n hn => by
    rcases lt3 hn with rfl | rfl | rfl
    · exact k0
    · exact k1
    · exact k2
  refine Evp.ret ?_
  refine Run.cut (Evp.of_eq (fun k => cdef_Frame.p244 k ..) ?_)
  refine Evp.ff rfl ?_
  refine Evp.nb (fun gc => ?_) fun gc => ?_
  · refine Evp.some rfl (Evp.some rfl (Evp.some rfl (Evp.some rfl (Evp.some rfl (Evp.some rfl (Evp.some rfl (Evp.some rfl (Evp.some rfl ?_))))))))
    refine Evp.ret (Run.ret ⟨p0.trans p03, .inl ⟨hm, pick3 a0 a1 a2, pick3 c0 c1 c2, rfl, hcc, ?_⟩⟩)
    unfold outF
    rw [if_neg (by rw [gc]; decide)]
    exact ⟨fun n hn => (hB.buf n hn).floor p0.len, hB.len, hB.ne⟩
  · have hC := hm.2.2.2.2.2 gc
    have sw : sideP f.p0.w := hw.2.1
    have sh : sideP f.p0.h := hw.2.2.1
    unfold sideP at sw sh
    have hq : qs.length = f.p0.w.toNat / 8 * (f.p0.h.toNat / 8) := by
      have := hm.2.2.2.1
      obtain ⟨W, hW⟩ := Int.eq_ofNat_of_zero_le (a := f.p0.w) (by omega)
      obtain ⟨H, hH⟩ := Int.eq_ofNat_of_zero_le (a := f.p0.h) (by omega)
      rw [hW, hH, show (W : Int) / 8 = ((W / 8 : Nat) : Int) by omega, show (H : Int) / 8 = ((H / 8 : Nat) : Int) by omega, ← Int.natCast_mul] at this
      rw [hW, hH]
      simp only [Int.toNat_natCast]
      omega
    have eac : IntKind.i64.wrap (Int.tdiv f.p0.w 8) = ((f.p0.w.toNat / 8 : Nat) : Int) := by
      rw [Int.tdiv_eq_ediv_of_nonneg (by omega), w64 (by omega)]; omega
    rw [eac]
    refine Evp.ret ?_
    refine prog_blocks lo f V Q vc qc hd M0 (pick3 a0 a1 a2) (pick3 c0 c1 c2) (FrameR f qs ws hd L M) hlo0 hf0 hcc hw hm.2.1 hm.2.2.1 qs ws L hq hm.2.2.2.2.1 hC (hQ.pre p0) (hV.pre p0) (hL.pre p0) (fun M' q1 q2 => ⟨p0.trans q1, .inl ⟨hm, pick3 a0 a1 a2, pick3 c0 c1 c2, rfl, hcc, ?_⟩⟩) qs.length 0 M3 rfl (Nat.zero_le _) p03 hB
    unfold outF
    rw [if_pos gc]
    exact ⟨fun n hn => (q2.buf n hn).floor p0.len, q2.len, q2.ne⟩
end
abbrev Plv.with (p : Plv) (A : Option Addr) (c : Nat) : Plv := ⟨p.w, p.h, A, c, p.xs⟩
def Fr3.to (f : Fr3) (A : Nat → Option Addr) (c : Nat → Nat) : Fr3 := ⟨f.p0.with (A 0) (c 0), f.p1.with (A 1) (c 1), f.p2.with (A 2) (c 2)⟩
theorem foldF_to (f : Fr3) (A : Nat → Option Addr) (c : Nat → Nat) (qs : List Bool) (ws L : List Int) (damp : Int) : ∀ i n, n < 3 → foldF (f.to A c) qs ws L damp i n = foldF f qs ws L damp i n
  | 0, n, hn => by rcases lt3 hn with rfl | rfl | rfl <;> rfl
  | i + 1, n, hn => by
    have ih := foldF_to f A c qs ws L damp i n hn
    have e : ∀ X Y a b c' d o, newN (f.to A c) damp X Y a b c' d n o = newN f damp X Y a b c' d n o := fun X Y a b c' d o => by rcases lt3 hn with rfl | rfl | rfl <;> rfl
    simp only [foldF]
    split
    · exact ih
    · show newN (f.to A c) damp _ _ _ _ _ _ n (foldF (f.to A c) qs ws L damp i n) = _
      rw [e, ih]
      rfl
theorem outF_to (f : Fr3) (A : Nat → Option Addr) (c : Nat → Nat) (qs : List Bool) (ws : List Int) (hd : Hd) (L : List Int) (n : Nat) (hn : n < 3) : outF (f.to A c) qs ws hd L n = outF f qs ws hd L n := by
  unfold outF
  split
  · exact foldF_to f A c qs ws L hd.damp _ n hn
  · rcases lt3 hn with rfl | rfl | rfl <;> rfl
end Go.Zt
