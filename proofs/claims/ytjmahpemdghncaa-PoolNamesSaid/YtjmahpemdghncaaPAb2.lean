/- What the law PoolNames needs of the text Ab2. -/
import Derived.Test.YtjmahpemdghncaaPAb1
import Derived.WalkKit
import Derived.Below
import Derived.Laws.IdiomCopy
import Derived.Laws.Cells
import Derived.Laws.OwnMore
import Derived.Lib.SliceRun
set_option linter.unusedVariables false
set_option linter.unusedSimpArgs false
namespace Go.Zt
structure Mp where
  at_ : Nat → Addr
  sz : Nat → Nat
def fnanB (k : FloatKind) (x : Nat) : Bool := (k.format.read x).isNaN
def FE (k : FloatKind) (x y : Nat) : Prop := x = y ∨ (fnanB k x = true ∧ fnanB k y = true)
def AR (m : Mp) (M : Mem) (a c : Addr) : Prop :=
  ∃ blk, M[a.block]? = some blk ∧
    match blk.kind, a.spot with
    | .op _, some ver => ver ≤ blk.cells.length ∧ (ver = blk.cells.length → c = (m.at_ a.block).add a.off)
    | .op _, none => False
    | _, none => c = (m.at_ a.block).add a.off
    | _, some _ => True
def SR (m : Mp) (M : Mem) (a : Addr) (n c : Nat) (a' : Addr) (c' : Nat) : Prop :=
  n ≤ c ∧ n ≤ c' ∧ ∃ blk, M[a.block]? = some blk ∧
    match blk.kind, a.spot with
    | .op z, some ver => ver ≤ blk.cells.length ∧ c ≤ c' ∧ (ver = 0 → a.off = 0 ∧ c = 0) ∧
        (ver = blk.cells.length → ((0 < c ∨ ver = 0) → a' = (m.at_ a.block).add a.off) ∧ c' * z ≤ m.sz a.block)
    | .op _, none => n = 0 ∧ c = 0 ∧ c' = 0
    | _, none => c = c' ∧ a' = (m.at_ a.block).add a.off
    | _, some _ => False
inductive VR (m : Mp) (M : Mem) : Value → Value → Prop
  | bool (b : Bool) : VR m M (.bool b) (.bool b)
  | int (k : IntKind) (n : Int) : VR m M (.int k n) (.int k n)
  | flt (k : FloatKind) (x y : Nat) (h : FE k x y) : VR m M (.float k x) (.float k y)
  | cpx (k : FloatKind) (x y : Nat) : VR m M (.complex k x y) (.complex k x y)
  | str (s : ByteArray) : VR m M (.string s) (.string s)
  | nilptr : VR m M (.pointer none) (.pointer none)
  | ptr (a c : Addr) (h : AR m M a c) : VR m M (.pointer (some a)) (.pointer (some c))
  | nilslc : VR m M (.slice none 0 0) (.slice none 0 0)
  | slc (a : Addr) (n c : Nat) (a' : Addr) (c' : Nat) (h : SR m M a n c a' c') : VR m M (.slice (some a) n c) (.slice (some a') n c')
  | nilmap : VR m M (.map none) (.map none)
  | nilchan : VR m M (.chan none) (.chan none)
  | nilFunc : VR m M .nilFunc .nilFunc
  | nilIface : VR m M .nilIface .nilIface
  | func (fn : Fn) (f f' c c' : Array Value) (h1 : f.size = f'.size) (h2 : c.size = c'.size)
      (hf : ∀ (i : Nat) (x y : Value), f[i]? = some x → f'[i]? = some y → VR m M x y) (hc : ∀ (i : Nat) (x y : Value), c[i]? = some x → c'[i]? = some y → VR m M x y) : VR m M (.func fn f c) (.func fn f' c')
  | agg (xs ys : Array Value) (h : xs.size = ys.size) (hx : ∀ (i : Nat) (x y : Value), xs[i]? = some x → ys[i]? = some y → VR m M x y) : VR m M (.agg xs) (.agg ys)
  | tuple (xs ys : Array Value) (h : xs.size = ys.size) (hx : ∀ (i : Nat) (x y : Value), xs[i]? = some x → ys[i]? = some y → VR m M x y) : VR m M (.tuple xs) (.tuple ys)
def LR (m : Mp) (M : Mem) (xs ys : List Value) : Prop := xs.length = ys.length ∧ ∀ (i : Nat) (x y : Value), xs[i]? = some x → ys[i]? = some y → VR m M x y
section
variable {m : Mp} {M : Mem}
theorem LR.nil : LR m M [] [] := ⟨rfl, fun i x y h => by simp at h⟩
theorem LR.cons {x y : Value} {xs ys : List Value} (h : VR m M x y) (hr : LR m M xs ys) : LR m M (x :: xs) (y :: ys) :=
  ⟨by simp [hr.1], fun i u v hu hv => by
    cases i with
    | zero => simp at hu hv; subst hu; subst hv; exact h
    | succ i => simp at hu hv; exact hr.2 i u v hu hv⟩
theorem LR.head {x y : Value} {xs ys : List Value} (h : LR m M (x :: xs) (y :: ys)) : VR m M x y := h.2 0 x y rfl rfl
theorem LR.tail {x y : Value} {xs ys : List Value} (h : LR m M (x :: xs) (y :: ys)) : LR m M xs ys :=
  ⟨by have := h.1; simpa using this, fun i u v hu hv => h.2 (i + 1) u v (by simpa using hu) (by simpa using hv)⟩
theorem LR.inv_cons {x : Value} {xs ys : List Value} (h : LR m M (x :: xs) ys) : ∃ y ys', ys = y :: ys' ∧ VR m M x y ∧ LR m M xs ys' := by
  cases ys with
  | nil => have := h.1; simp at this
  | cons y ys => exact ⟨y, ys, rfl, h.head, h.tail⟩
theorem LR.inv_nil {ys : List Value} (h : LR m M [] ys) : ys = [] := by
  have := h.1
  cases ys with
  | nil => rfl
  | cons y ys => simp at this
theorem LR.append {xs ys us vs : List Value} (h : LR m M xs ys) (k : LR m M us vs) : LR m M (xs ++ us) (ys ++ vs) := by
  refine ⟨by simp [h.1, k.1], fun i u v hu hv => ?_⟩
  rw [List.getElem?_append] at hu hv
  rw [h.1] at hu
  split at hu
  · rename_i hi
    rw [if_pos hi] at hv
    exact h.2 i u v hu hv
  · rename_i hi
    rw [if_neg hi] at hv
    exact k.2 _ u v hu hv
theorem LR.take {xs ys : List Value} (h : LR m M xs ys) (n : Nat) : LR m M (xs.take n) (ys.take n) := by
  refine ⟨by simp [h.1], fun i u v hu hv => ?_⟩
  rw [List.getElem?_take] at hu hv
  split at hu
  · rename_i hi
    rw [if_pos hi] at hv
    exact h.2 i u v hu hv
  · cases hu
theorem LR.drop {xs ys : List Value} (h : LR m M xs ys) (n : Nat) : LR m M (xs.drop n) (ys.drop n) := by
  refine ⟨by simp [h.1], fun i u v hu hv => ?_⟩
  rw [List.getElem?_drop] at hu hv
  exact h.2 _ u v hu hv
theorem LR.set {xs ys : List Value} (h : LR m M xs ys) (i : Nat) {x y : Value} (hx : VR m M x y) : LR m M (xs.set i x) (ys.set i y) := by
  refine ⟨by simp [h.1], fun j u v hu hv => ?_⟩
  rw [List.getElem?_set] at hu hv
  by_cases hij : i = j
  · subst hij
    simp only [if_true] at hu hv
    split at hu
    · rename_i hl
      rw [if_pos (by rw [← h.1]; exact hl)] at hv
      injection hu with hu; injection hv with hv
      subst hu; subst hv; exact hx
    · cases hu
  · rw [if_neg hij] at hu hv
    exact h.2 j u v hu hv
theorem LR.get {xs ys : List Value} (h : LR m M xs ys) {i : Nat} {x : Value} (hx : xs[i]? = some x) : ∃ y, ys[i]? = some y ∧ VR m M x y := by
  have hi : i < ys.length := by rw [← h.1]; exact (List.getElem?_eq_some_iff.1 hx).1
  exact ⟨ys[i], List.getElem?_eq_getElem hi, h.2 i x _ hx (List.getElem?_eq_getElem hi)⟩
theorem LR.replicate {x y : Value} (h : VR m M x y) (n : Nat) : LR m M (List.replicate n x) (List.replicate n y) := by
  refine ⟨by simp, fun i u v hu hv => ?_⟩
  rw [List.getElem?_replicate] at hu hv
  split at hu
  · rename_i hi
    rw [if_pos hi] at hv
    injection hu with hu; injection hv with hv
    subst hu; subst hv; exact h
  · cases hu
theorem LR.flatten {xs ys : List Value} (h : LR m M xs ys) (n : Nat) : LR m M (List.replicate n xs).flatten (List.replicate n ys).flatten := by
  induction n with
  | zero => simpa using LR.nil
  | succ n ih => simp only [List.replicate_succ, List.flatten_cons]; exact h.append ih
theorem LR.setL {xs ys us vs : List Value} (off : Nat) (h : LR m M xs ys) (k : LR m M us vs) : LR m M (setL xs off us) (Zt.setL ys off vs) := by
  induction us generalizing xs ys vs off with
  | nil => obtain rfl := k.inv_nil; exact h
  | cons u us ih =>
    obtain ⟨v, vs', rfl, hv, hr⟩ := k.inv_cons
    simp only [Zt.setL]
    exact ih _ (h.set off hv) hr
theorem setL_length {α : Type} (cs : List α) (off : Nat) (vs : List α) : (setL cs off vs).length = cs.length := by
  induction vs generalizing cs off with
  | nil => rfl
  | cons v vs ih => simp [setL, ih]
theorem VR.plain {v : Value} (h : plainV v = true) : VR m M v v := by
  unfold plainV at h
  split at h <;> first | constructor | (cases h)
  exact Or.inl rfl
theorem allPlain_iff {l : List Value} : allPlain l = true ↔ ∀ v ∈ l, plainV v = true := by
  induction l with
  | nil => simp [allPlain]
  | cons v l ih =>
    cases hv : plainV v <;> simp [allPlain, hv, ih]
theorem LR.plain {l : List Value} (h : allPlain l = true) : LR m M l l := by
  refine ⟨rfl, fun i x y hx hy => ?_⟩
  rw [hx] at hy; injection hy with hy; subst hy
  exact VR.plain (allPlain_iff.1 h x (List.mem_of_getElem? hx))
theorem VR.const {v : Value} (h : allPlain (cellsL v) = true) : VR m M v v := by
  cases v with
  | agg cs =>
    refine VR.agg _ _ rfl fun i x y hx hy => ?_
    rw [hx] at hy; injection hy with hy; subst hy
    refine VR.plain (allPlain_iff.1 h x ?_)
    exact Array.mem_toList_iff.2 (Array.mem_of_getElem? hx)
  | _ => exact VR.plain (by simpa [cellsL, allPlain] using allPlain_iff.1 h _ (by simp [cellsL]))
theorem VR.oneCell {v c : Value} (h : VR m M v c) : c.oneCell' = v.oneCell' := by cases h <;> rfl
theorem VR.cells {v c : Value} (h : VR m M v c) : LR m M (cellsL v) c.cells.toList := by
  cases h with
  | agg xs ys hs hx =>
    refine ⟨by simpa [cellsL, Value.cells] using hs, fun i x y h1 h2 => hx i x y ?_ ?_⟩
    · simpa [cellsL] using h1
    · simpa [Value.cells] using h2
  | _ =>
    refine ⟨by simp [cellsL, Value.cells], fun i x y h1 h2 => ?_⟩
    cases i with
    | zero =>
      simp [cellsL, Value.cells] at h1 h2
      subst h1; subst h2
      first
        | exact VR.bool _ | exact VR.int _ _ | exact VR.flt _ _ _ (by assumption) | exact VR.cpx _ _ _ | exact VR.str _ | exact VR.nilptr
        | exact VR.ptr _ _ (by assumption) | exact VR.nilslc | exact VR.slc _ _ _ _ _ (by assumption) | exact VR.nilmap | exact VR.nilchan | exact VR.nilFunc | exact VR.nilIface
        | exact VR.func _ _ _ _ _ (by assumption) (by assumption) (by assumption) (by assumption)
        | exact VR.tuple _ _ (by assumption) (by assumption)
    | succ i => simp [cellsL, Value.cells] at h1
theorem VR.agg_of {xs ys : List Value} (h : LR m M xs ys) : VR m M (.agg ⟨xs⟩) (.agg ⟨ys⟩) :=
  VR.agg _ _ (by simpa using h.1) fun i x y hx hy => h.2 i x y (by simpa using hx) (by simpa using hy)
theorem VR.tuple_of {xs ys : List Value} (h : LR m M xs ys) : VR m M (.tuple ⟨xs⟩) (.tuple ⟨ys⟩) :=
  VR.tuple _ _ (by simpa using h.1) fun i x y hx hy => h.2 i x y (by simpa using hx) (by simpa using hy)
theorem VR.agg_inv {xs : Array Value} {c : Value} (h : VR m M (.agg xs) c) : ∃ ys : Array Value, c = .agg ys ∧ LR m M xs.toList ys.toList := by
  cases h with
  | agg _ ys hs hx => exact ⟨ys, rfl, by simpa using hs, fun i x y h1 h2 => hx i x y (by simpa using h1) (by simpa using h2)⟩
theorem VR.tuple_inv {xs : Array Value} {c : Value} (h : VR m M (.tuple xs) c) : ∃ ys : Array Value, c = .tuple ys ∧ LR m M xs.toList ys.toList := by
  cases h with
  | tuple _ ys hs hx => exact ⟨ys, rfl, by simpa using hs, fun i x y h1 h2 => hx i x y (by simpa using h1) (by simpa using h2)⟩
end
def BK.Own : BK → Prop
  | .ro => False
  | .fx => True
  | .op z => z ≠ 0
@[simp] theorem own_fx : BK.Own .fx := trivial
@[simp] theorem own_op (z : Nat) : BK.Own (.op (z + 1)) := Nat.succ_ne_zero z
theorem own_ro {k : BK} (h : k.Own) (e : k = .ro) : False := by subst e; exact h
theorem own_op0 {k : BK} (h : k.Own) (e : k = .op 0) : False := by subst e; exact h rfl
def KE (k k' : Blk) : Prop := k'.kind = k.kind ∨ (k.kind = .op 0 ∧ (∃ z, k'.kind = .op z) ∧ k.cells.length < k'.cells.length)
structure Ext (lo : Nat) (m : Mp) (M : Mem) (m' : Mp) (M' : Mem) : Prop where
  len : M.length ≤ M'.length
  blk : ∀ (b : Nat) (k : Blk), M[b]? = some k → ∃ k' : Blk, M'[b]? = some k' ∧ KE k k' ∧ k.cells.length ≤ k'.cells.length ∧
    (k'.cells.length = k.cells.length → m'.at_ b = m.at_ b ∧ m'.sz b = m.sz b) ∧ ((∀ z, k.kind ≠ .op z) → k'.cells.length = k.cells.length) ∧ (k.kind = .ro → k' = k)
  low : ∀ b, b < lo → b < M.length → M'[b]? = M[b]?
theorem Ext.refl (lo : Nat) (m : Mp) (M : Mem) : Ext lo m M m M := ⟨Nat.le_refl _, fun b k h => ⟨k, h, .inl rfl, Nat.le_refl _, fun _ => ⟨rfl, rfl⟩, fun _ => rfl, fun _ => rfl⟩, fun _ _ _ => rfl⟩
theorem Ext.trans {lo : Nat} {m m1 m2 : Mp} {M M1 M2 : Mem} (h : Ext lo m M m1 M1) (k : Ext lo m1 M1 m2 M2) : Ext lo m M m2 M2 := by
  refine ⟨Nat.le_trans h.len k.len, fun b x hb => ?_, fun b h1 h2 => (k.low b h1 (Nat.lt_of_lt_of_le h2 h.len)).trans (h.low b h1 h2)⟩
  obtain ⟨y, hy, e1, e2, e3, e4, e5⟩ := h.blk b x hb
  obtain ⟨u, hu, d1, d2, d3, d4, d5⟩ := k.blk b y hy
  have ke : KE x u := by
    rcases e1 with e1 | ⟨e1, ⟨z, e1'⟩, el⟩
    · rcases d1 with d1 | ⟨d1, d1', dl⟩
      · exact .inl (d1.trans e1)
      · exact .inr ⟨by rw [← e1]; exact d1, d1', by omega⟩
    · rcases d1 with d1 | ⟨d1, d1', dl⟩
      · exact .inr ⟨e1, ⟨z, d1.trans e1'⟩, by omega⟩
      · exact .inr ⟨e1, d1', by omega⟩
  refine ⟨u, hu, ke, Nat.le_trans e2 d2, fun hl => ?_, fun hz => ?_, fun hr => ?_⟩
  · obtain ⟨a1, a2⟩ := d3 (by omega)
    obtain ⟨b1, b2⟩ := e3 (by omega)
    exact ⟨a1.trans b1, a2.trans b2⟩
  · have e1' : y.kind = x.kind := by
      rcases e1 with e1 | ⟨e1, _, _⟩
      · exact e1
      · exact absurd e1 (hz 0)
    rw [d4 (by rw [e1']; exact hz), e4 hz]
  · have e1' : y.kind = x.kind := by
      rcases e1 with e1 | ⟨e1, _, _⟩
      · exact e1
      · rw [hr] at e1; cases e1
    rw [d5 (by rw [e1']; exact hr), e5 hr]
theorem Ext.floor {lo lo' : Nat} {m m' : Mp} {M M' : Mem} (h : Ext lo' m M m' M') (hl : lo ≤ lo' ∨ M.length ≤ lo') : Ext lo m M m' M' :=
  ⟨h.len, h.blk, fun b h1 h2 => h.low b (by omega) h2⟩
section
variable {lo : Nat} {m m' : Mp} {M M' : Mem}
theorem AR.ext (he : Ext lo m M m' M') {a c : Addr} (h : AR m M a c) : AR m' M' a c := by
  obtain ⟨k, hk, h⟩ := h
  obtain ⟨k', hk', e1, e2, e3, e4, _⟩ := he.blk _ _ hk
  refine ⟨k', hk', ?_⟩
  rcases e1 with e1 | ⟨e1, ⟨z', e1'⟩, el⟩
  case inr =>
    rw [e1] at h
    rw [e1']
    cases hs : a.spot with
    | none => simp only [hs] at h
    | some ver =>
      simp only [hs] at h ⊢
      exact ⟨by omega, fun hv => by have := h.1; omega⟩
  rw [e1]
  cases hkind : k.kind with
  | op z =>
    rw [hkind] at h
    cases hs : a.spot with
    | none => simp only [hs] at h
    | some ver =>
      simp only [hs] at h ⊢
      exact ⟨by omega, fun hv => by rw [(e3 (by omega)).1]; exact h.2 (by omega)⟩
  | ro =>
    have := e3 (e4 (by simp [hkind]))
    rw [hkind] at h
    cases hs : a.spot with
    | none => simp only [hs] at h ⊢; rw [this.1]; exact h
    | some _ => trivial
  | fx =>
    have := e3 (e4 (by simp [hkind]))
    rw [hkind] at h
    cases hs : a.spot with
    | none => simp only [hs] at h ⊢; rw [this.1]; exact h
    | some _ => trivial
theorem SR.ext (he : Ext lo m M m' M') {a : Addr} {n c : Nat} {a' : Addr} {c' : Nat} (h : SR m M a n c a' c') : SR m' M' a n c a' c' := by
  obtain ⟨h1, h2, k, hk, h⟩ := h
  obtain ⟨k', hk', e1, e2, e3, e4, _⟩ := he.blk _ _ hk
  refine ⟨h1, h2, k', hk', ?_⟩
  rcases e1 with e1 | ⟨e1, ⟨z', e1'⟩, el⟩
  case inr =>
    rw [e1] at h
    rw [e1']
    cases hs : a.spot with
    | none => simp only [hs] at h ⊢; exact h
    | some ver =>
      simp only [hs] at h ⊢
      exact ⟨by omega, h.2.1, h.2.2.1, fun hv => by have := h.1; omega⟩
  rw [e1]
  cases hkind : k.kind with
  | op z =>
    rw [hkind] at h
    cases hs : a.spot with
    | none => simp only [hs] at h ⊢; exact h
    | some ver =>
      simp only [hs] at h ⊢
      refine ⟨by omega, h.2.1, h.2.2.1, fun hv => ?_⟩
      obtain ⟨f1, f2⟩ := e3 (by omega)
      rw [f1, f2]
      exact h.2.2.2 (by omega)
  | ro =>
    have := e3 (e4 (by simp [hkind]))
    rw [hkind] at h
    cases hs : a.spot with
    | none => simp only [hs] at h ⊢; rw [this.1]; exact h
    | some _ => simp only [hs] at h
  | fx =>
    have := e3 (e4 (by simp [hkind]))
    rw [hkind] at h
    cases hs : a.spot with
    | none => simp only [hs] at h ⊢; rw [this.1]; exact h
    | some _ => simp only [hs] at h
theorem VR.ext (he : Ext lo m M m' M') {v c : Value} (h : VR m M v c) : VR m' M' v c := by
  induction h with
  | ptr a c h => exact .ptr _ _ (h.ext he)
  | slc a n c a' c' h => exact .slc _ _ _ _ _ (h.ext he)
  | func fn f f' c c' h1 h2 _ _ i1 i2 => exact .func _ _ _ _ _ h1 h2 i1 i2
  | agg xs ys h _ ih => exact .agg _ _ h ih
  | tuple xs ys h _ ih => exact .tuple _ _ h ih
  | bool => exact .bool _
  | int => exact .int _ _
  | flt _ _ _ h => exact .flt _ _ _ h
  | cpx => exact .cpx _ _ _
  | str => exact .str _
  | nilptr => exact .nilptr
  | nilslc => exact .nilslc
  | nilmap => exact .nilmap
  | nilchan => exact .nilchan
  | nilFunc => exact .nilFunc
  | nilIface => exact .nilIface
theorem LR.ext (he : Ext lo m M m' M') {xs ys : List Value} (h : LR m M xs ys) : LR m' M' xs ys := ⟨h.1, fun i x y hx hy => (h.2 i x y hx hy).ext he⟩
end
def Own (w : World) (g : Nat) (arr : List Value) : Prop := ∃ t, w.heap[g]? = some (.cells ⟨arr⟩ t (0, 0))
theorem Own.lt {w : World} {g : Nat} {arr : List Value} (h : Own w g arr) : g < w.heap.size := by
  obtain ⟨t, h⟩ := h
  exact (Array.getElem?_eq_some_iff.1 h).1
theorem Own.cell {w : World} {g : Nat} {arr : List Value} (h : Own w g arr) (i : Nat) : w.cell? ⟨g, i, none⟩ = arr[i]? := by
  obtain ⟨t, h⟩ := h
  simp [World.cell?, h]
theorem Own.frozen {w : World} {g : Nat} {arr : List Value} (h : Own w g arr) (i : Nat) : w.frozen? ⟨g, i, none⟩ = false := by
  obtain ⟨t, h⟩ := h
  simp [World.frozen?, h]
structure Rel (B : Nat) (m : Mp) (M : Mem) (w : World) : Prop where
  ro : ∀ b cs, M[b]? = some ⟨.ro, cs⟩ → ∀ i v, cs[i]? = some v → ∃ v', w.cell? ((m.at_ b).add i) = some v' ∧ VR m M v v'
  rob : ∀ b cs, M[b]? = some ⟨.ro, cs⟩ → 0 < cs.length → (m.at_ b).block < B
  own : ∀ b k, M[b]? = some k → k.kind.Own → ∃ g arr, m.at_ b = ⟨g, 0, none⟩ ∧ B ≤ g ∧ Own w g arr ∧ LR m M k.cells (arr.take k.cells.length) ∧ k.cells.length ≤ arr.length ∧
    (k.kind = .fx → arr.length = k.cells.length) ∧ (∀ z, k.kind = .op z → arr.length = m.sz b ∧ 0 < z)
  inj : ∀ b b' k k', M[b]? = some k → M[b']? = some k' → k.kind.Own → k'.kind.Own → (m.at_ b).block = (m.at_ b').block → b = b'
  one : ∀ (b : Nat) (k : Blk), M[b]? = some k → ∀ v ∈ k.cells, v.oneCell' = true
  hole : ∀ (b : Nat) (cs : List Value), M[b]? = some (⟨.op 0, cs⟩ : Blk) → cs = []
structure LRel (B : Nat) (m : Mp) (M : Mem) (ml : Nat → Nat) (loc : List (Nat × List Value)) (w : World) : Prop where
  box : ∀ t cs, lk loc t = some cs → ∃ arr, Own w (ml t) arr ∧ LR m M cs arr ∧ B ≤ ml t
  apart : ∀ t cs b k, lk loc t = some cs → M[b]? = some k → k.kind.Own → (m.at_ b).block ≠ ml t
  inj : ∀ t t' cs cs', lk loc t = some cs → lk loc t' = some cs' → ml t = ml t' → t = t'
  one : ∀ t cs, lk loc t = some cs → ∀ v ∈ cs, v.oneCell' = true
structure Fr (S : Nat → Prop) (w w' : World) : Prop where
  os : w'.os = w.os
  tape : w'.tape = w.tape
  output : w'.output = w.output
  size : w.heap.size ≤ w'.heap.size
  block : ∀ g, g < w.heap.size → ¬ S g → w'.heap[g]? = w.heap[g]?
theorem Fr.refl (S : Nat → Prop) (w : World) : Fr S w w := ⟨rfl, rfl, rfl, Nat.le_refl _, fun _ _ _ => rfl⟩
theorem Fr.trans {S S' : Nat → Prop} {w w1 w2 : World} (h : Fr S w w1) (k : Fr S' w1 w2) (hs : ∀ g, S' g → g < w.heap.size → S g) : Fr S w w2 :=
  ⟨k.os.trans h.os, k.tape.trans h.tape, k.output.trans h.output, Nat.le_trans h.size k.size, fun g hg hn =>
    (k.block g (Nat.lt_of_lt_of_le hg h.size) (fun h' => hn (hs g h' hg))).trans (h.block g hg hn)⟩
def OwnS (lo : Nat) (m : Mp) (M : Mem) (g : Nat) : Prop := ∃ b k, M[b]? = some k ∧ k.kind.Own ∧ lo ≤ b ∧ (m.at_ b).block = g
structure MI (B lo : Nat) (w0 : World) (m0 : Mp) (M0 : Mem) (m : Mp) (ml : Nat → Nat) (M : Mem) (loc : List (Nat × List Value)) (w : World) : Prop where
  rel : Rel B m M w
  lrel : LRel B m M ml loc w
  ext : Ext lo m0 M0 m M
  fr : Fr (OwnS lo m0 M0) w0 w
  k3 : ∀ b k, M[b]? = some k → k.kind.Own → lo ≤ b → OwnS lo m0 M0 (m.at_ b).block ∨ w0.heap.size ≤ (m.at_ b).block
  locNew : ∀ t cs, lk loc t = some cs → w0.heap.size ≤ ml t
  hB : B ≤ w0.heap.size
def ER (m : Mp) (M : Mem) (ml : Nat → Nat) : EV → Value → Prop
  | .u, c => c = undef
  | .v x, c => VR m M x c
  | .l t off, c => c = .pointer (some ⟨ml t, off, none⟩)
  | .s t n, c => c = .slice (some ⟨ml t, 0, none⟩) n n
end Go.Zt
