/- What the law ChainBrightness needs of the text Fq. -/
import Derived.Test.YtbbfdebfhgdciaaPFp
set_option linter.unusedVariables false
set_option linter.unusedSimpArgs false
set_option maxRecDepth 100000
set_option maxHeartbeats 4000000
namespace Go.Zt
def In (A : Option Addr) (n p q : Nat) : Prop := n ≠ 0 → ∀ a, A = some a → p ≤ a.block ∧ a.block < q
theorem Rd.keepI {M M' : Mem} {A : Option Addr} {n z X p q : Nat} {vs : List Value} (h : Rd M A n z vs) (hi : In A n p q) (hX : X < p ∨ q ≤ X) (hk : KeepB X M M') : Rd M' A n z vs := by
  by_cases h0 : n = 0
  · subst h0
    have := h.1
    rw [Nat.zero_mul] at this
    rw [List.eq_nil_of_length_eq_zero this]
    exact Rd.zero
  · exact Rd.keepB h (fun a ha => by have := hi h0 a ha; omega) hk
theorem Grow.in_ {M0 M : Mem} {z n : Nat} {A : Option Addr} {cs : List Value} (h : Grow M0 M z A n cs) : In A n M0.length M.length := fun h0 a ha => by
  rcases h.at_ with ⟨_, e⟩ | ⟨b, e, h1, h2⟩
  · exact absurd e h0
  · rw [e] at ha; injection ha with ha; subst ha
    exact ⟨h1, lt_of_get h2⟩
def OwnB (M0 M : Mem) (A : Option Addr) (n : Nat) (cs : List Value) : Prop := n = 0 ∨ ∃ a, A = some a ∧ Buf M0 M a cs
theorem Grow.ownB {M0 M : Mem} {z n : Nat} {A : Option Addr} {cs : List Value} (h : Grow M0 M z A n cs) : OwnB M0 M A n cs := by
  by_cases h0 : n = 0
  · exact .inl h0
  · exact .inr (h.buf h0)
theorem OwnB.pre {M0 M M' : Mem} {A : Option Addr} {n : Nat} {cs : List Value} (h : OwnB M0 M A n cs) (hp : Pre M M') : OwnB M0 M' A n cs := by
  rcases h with h | ⟨a, e, hb⟩
  · exact .inl h
  · exact .inr ⟨a, e, hb.pre hp⟩
theorem OwnB.floor {M0 M1 M : Mem} {A : Option Addr} {n : Nat} {cs : List Value} (h : OwnB M1 M A n cs) (hl : M0.length ≤ M1.length) : OwnB M0 M A n cs := by
  rcases h with h | ⟨a, e, hb⟩
  · exact .inl h
  · exact .inr ⟨a, e, hb.floor hl⟩
theorem OwnB.keepI {M0 M M' : Mem} {A : Option Addr} {n X p q : Nat} {cs : List Value} (h : OwnB M0 M A n cs) (hi : In A n p q) (hX : X < p ∨ q ≤ X) (hk : KeepB X M M') : OwnB M0 M' A n cs := by
  rcases h with h | ⟨a, e, hb⟩
  · exact .inl h
  · by_cases h0 : n = 0
    · exact .inl h0
    · have := hi h0 a e
      exact .inr ⟨a, e, hb.keep (A := some ⟨X, 0, none⟩) (fun i x hx hne => hk i x hx fun e => hne _ rfl e.symm) fun z ez => by injection ez with ez; subst ez; show X ≠ _; omega⟩
abbrev cur (s : SideV) (q1 : List Bool) (w1 : List Un) (q2 : List Bool) (w2 : List Un) : SideV := { s with m1 := { s.m1 with qs := q1 }, m2 := { s.m2 with qs := q2 }, u1 := { s.u1 with us := w1 }, u2 := { s.u2 with us := w2 } }
structure CurOk (s : SideV) (q1 : List Bool) (w1 : List Un) (q2 : List Bool) (w2 : List Un) : Prop where
  eq1 : q1.length = s.m1.qs.length
  ew1 : w1.length = s.u1.us.length
  eq2 : q2.length = s.m2.qs.length
  ew2 : w2.length = s.u2.us.length
  f1 : ∀ u ∈ w1, u.wf
  f2 : ∀ u ∈ w2, u.wf
theorem cur_cells {s : SideV} {q1 q2 : List Bool} {w1 w2 : List Un} (h : CurOk s q1 w1 q2 w2) : (cur s q1 w1 q2 w2).cells = s.cells := by
  show [_, _, _, _, _, _, _, _, _, Value.slice s.m1.AQ q1.length s.m1.cq, _, _, _, _, Value.slice s.m2.AQ q2.length s.m2.cq, _, _, _, Value.slice s.u1.A w1.length s.u1.c, Value.slice s.u2.A w2.length s.u2.c] = _
  rw [h.eq1, h.ew1, h.eq2, h.ew2]
def RdAt (s : SideV) (M : Mem) (i : Nat) : Prop := match i with
  | 0 => RdI M .u8 s.m0.AT s.m0.tx | 1 => RdI M .i64 s.m0.AI s.m0.ids | 2 => RdB M s.m0.AQ s.m0.qs | 3 => RdU M s.u0.A s.u0.us
  | 4 => RdI M .u8 s.m1.AT s.m1.tx | 5 => RdI M .i64 s.m1.AI s.m1.ids | 6 => RdB M s.m1.AQ s.m1.qs | 7 => RdU M s.u1.A s.u1.us
  | 8 => RdI M .u8 s.m2.AT s.m2.tx | 9 => RdI M .i64 s.m2.AI s.m2.ids | 10 => RdB M s.m2.AQ s.m2.qs | 11 => RdU M s.u2.A s.u2.us
  | 12 => RdB M s.Q s.qs | 13 => RdI M .i64 s.V s.ws | _ => True
def InAt (s : SideV) (p q : Nat) (i : Nat) : Prop := match i with
  | 0 => In s.m0.AT s.m0.tx.length p q | 1 => In s.m0.AI s.m0.ids.length p q | 2 => In s.m0.AQ s.m0.qs.length p q | 3 => In s.u0.A s.u0.us.length p q
  | 4 => In s.m1.AT s.m1.tx.length p q | 5 => In s.m1.AI s.m1.ids.length p q | 6 => In s.m1.AQ s.m1.qs.length p q | 7 => In s.u1.A s.u1.us.length p q
  | 8 => In s.m2.AT s.m2.tx.length p q | 9 => In s.m2.AI s.m2.ids.length p q | 10 => In s.m2.AQ s.m2.qs.length p q | 11 => In s.u2.A s.u2.us.length p q
  | 12 => In s.Q s.qs.length p q | 13 => In s.V s.ws.length p q | _ => True
theorem RdAt.keep {s : SideV} {M M' : Mem} {X p q : Nat} (hX : X < p ∨ q ≤ X) (hk : KeepB X M M') : ∀ i, RdAt s M i → InAt s p q i → RdAt s M' i
  | 0, h, hi => Rd.keepI h hi hX hk | 1, h, hi => Rd.keepI h hi hX hk | 2, h, hi => Rd.keepI h hi hX hk | 3, h, hi => Rd.keepI h hi hX hk
  | 4, h, hi => Rd.keepI h hi hX hk | 5, h, hi => Rd.keepI h hi hX hk | 6, h, hi => Rd.keepI h hi hX hk | 7, h, hi => Rd.keepI h hi hX hk
  | 8, h, hi => Rd.keepI h hi hX hk | 9, h, hi => Rd.keepI h hi hX hk | 10, h, hi => Rd.keepI h hi hX hk | 11, h, hi => Rd.keepI h hi hX hk
  | 12, h, hi => Rd.keepI h hi hX hk | 13, h, hi => Rd.keepI h hi hX hk | i + 14, _, _ => trivial
theorem RdAt.pre {s : SideV} {M M' : Mem} (hp : Pre M M') : ∀ i, RdAt s M i → RdAt s M' i
  | 0, h => Rd.pre h hp | 1, h => Rd.pre h hp | 2, h => Rd.pre h hp | 3, h => Rd.pre h hp
  | 4, h => Rd.pre h hp | 5, h => Rd.pre h hp | 6, h => Rd.pre h hp | 7, h => Rd.pre h hp
  | 8, h => Rd.pre h hp | 9, h => Rd.pre h hp | 10, h => Rd.pre h hp | 11, h => Rd.pre h hp
  | 12, h => Rd.pre h hp | 13, h => Rd.pre h hp | i + 14, _ => trivial
theorem InAt.cur {s : SideV} {q1 q2 : List Bool} {w1 w2 : List Un} (h : CurOk s q1 w1 q2 w2) {p q : Nat} : ∀ i, InAt s p q i → InAt (cur s q1 w1 q2 w2) p q i
  | 0, h => h | 1, h => h | 2, h => h | 3, h => h | 4, h => h | 5, h => h
  | 6, hi => by show In _ q1.length _ _; rw [h.eq1]; exact hi
  | 7, hi => by show In _ w1.length _ _; rw [h.ew1]; exact hi
  | 8, h => h | 9, h => h
  | 10, hi => by show In _ q2.length _ _; rw [h.eq2]; exact hi
  | 11, hi => by show In _ w2.length _ _; rw [h.ew2]; exact hi
  | 12, h => h | 13, h => h | i + 14, _ => trivial
theorem side_ok {s : SideV} {q1 q2 : List Bool} {w1 w2 : List Un} {M : Mem} (h : ∀ i, i < 14 → RdAt (cur s q1 w1 q2 w2) M i) (hc : CurOk s q1 w1 q2 w2) {M' : Mem} (h0 : SideOk M' s) : SideOk M (cur s q1 w1 q2 w2) := by
  refine ⟨fun n => ?_, h 12 (by omega), h 13 (by omega), h0.nv, fun n => ?_⟩
  · match n with
    | 0 => exact ⟨h 0 (by omega), h 1 (by omega), h 2 (by omega), (h0.m 0).nt⟩
    | 1 => exact ⟨h 4 (by omega), h 5 (by omega), h 6 (by omega), (h0.m 1).nt⟩
    | n + 2 => exact ⟨h 8 (by omega), h 9 (by omega), h 10 (by omega), (h0.m 2).nt⟩
  · match n with
    | 0 => exact ⟨h 3 (by omega), (h0.u 0).wf, (h0.u 0).n⟩
    | 1 => exact ⟨h 7 (by omega), hc.f1, by show w1.length ≤ _; rw [hc.ew1]; exact (h0.u 1).n⟩
    | n + 2 => exact ⟨h 11 (by omega), hc.f2, by show w2.length ≤ _; rw [hc.ew2]; exact (h0.u 2).n⟩
theorem Lad.apart {l : Nat → Nat} (mono : ∀ i j, i ≤ j → l i ≤ l j) {i j X : Nat} (hij : i ≠ j) (hX : l j ≤ X ∧ X < l (j + 1)) : X < l i ∨ l (i + 1) ≤ X := by
  rcases Nat.lt_or_ge i j with h | h
  · have := mono (i + 1) j h; omega
  · have := mono (j + 1) i (by omega); omega
end Go.Zt
