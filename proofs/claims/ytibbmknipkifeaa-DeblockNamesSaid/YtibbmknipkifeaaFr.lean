/- A plane that fits, its cells. -/
import Derived.Test.YtibbmknipkifeaaFq
set_option linter.unusedVariables false
set_option linter.unusedSimpArgs false
set_option maxRecDepth 100000
namespace Go.Zt
def sideN (w : Int) : Nat := 4 + 4 * (bringS w 16).toNat
theorem sideN_le (w : Int) : 4 ≤ sideN w ∧ sideN w ≤ 64 ∧ sideN w % 4 = 0 := by
  have := bringS_lt (i := w) (n := 16) (by decide)
  unfold sideN; omega
def fitL (ss : List Int) (n : Nat) : List Int := (List.range n).map fun i => if 0 < ss.length then ss.getD (i % ss.length) 0 else 0
theorem fitL_len (ss : List Int) (n : Nat) : (fitL ss n).length = n := by simp [fitL]
theorem fitL_bytes {ss : List Int} (b : Bytes ss) (n : Nat) : Bytes (fitL ss n) := fun z hz => by
  unfold fitL at hz
  obtain ⟨i, _, rfl⟩ := List.mem_map.1 hz
  split
  · exact b.get _
  · decide
theorem fitL_flat {ss : List Int} (b : Bytes ss) (h : ss.length ≤ 1) (n : Nat) : ∃ v, 0 ≤ v ∧ v ≤ 255 ∧ fitL ss n = List.replicate n v := by
  have g := b.get 0
  refine ⟨if 0 < ss.length then ss.getD 0 0 else 0, by split <;> omega, by split <;> omega, ?_⟩
  refine ext_getD (by simp [fitL]) fun i hi => ?_
  rw [fitL_len] at hi
  unfold fitL
  rw [getD_map_range hi, List.getD_eq_getElem?_getD (l := List.replicate _ _), List.getElem?_replicate, if_pos hi]
  split
  · rename_i h0
    rw [show ss.length = 1 by omega, Nat.mod_one]; rfl
  · rfl
section
variable (lo : Nat) (A : Option Addr) (c : Nat) (ss : List Int) (M0 : Mem) (hlo : lo ≤ M0.length) (hs : RdI M0 .u8 A ss) (hn : ss.length ≤ 140737488351232)
include hlo hs hn
theorem fit_ok (w h : Int) : Ac P T lo F.zoetropelaw22_fit [.int .i64 w, .int .i64 h, .slice A ss.length c] M0 fun r => ∃ B cb M', r = (.agg ⟨[.int .i64 (sideN w), .int .i64 (sideN h), .slice B (sideN h * sideN w) cb]⟩, M') ∧ Pre M0 M' ∧ sideN h * sideN w ≤ cb ∧ Grow M0 M' 1 B (sideN h * sideN w) ((fitL ss (sideN h * sideN w)).map (Value.int .u8)) := by
  have w1 := sideN_le w
  have h1 := sideN_le h
  have sm : sideN h * sideN w ≤ 64 * 64 := Nat.mul_le_mul h1.2.1 w1.2.1
  have loop : ∀ (d i : Nat) (B : Option Addr) (cb : Nat) (M : Mem), sideN h * sideN w - i = d → i ≤ sideN h * sideN w → i ≤ cb → Pre M0 M → Grow M0 M 1 B i ((fitL ss i).map (Value.int .u8)) →
      Run P T lo F.zoetropelaw22_fit (zoetropelaw22_fit.c116 A ss.length c i 0 0 none 0 0 (sideN w : Nat) (sideN h : Nat) B i cb M) fun r => ∃ B cb M', r = (.agg ⟨[.int .i64 (sideN w), .int .i64 (sideN h), .slice B (sideN h * sideN w) cb]⟩, M') ∧ Pre M0 M' ∧ sideN h * sideN w ≤ cb ∧ Grow M0 M' 1 B (sideN h * sideN w) ((fitL ss (sideN h * sideN w)).map (Value.int .u8)) := by
    have em : IntKind.i64.wrap (((sideN w : Nat) : Int) * ((sideN h : Nat) : Int)) = ((sideN h * sideN w : Nat) : Int) := by
      rw [← Int.natCast_mul, Nat.mul_comm]
      exact w64 (by omega)
    intro d
    induction d with
    | zero =>
      intro i B cb M hd hi hc hp hg
      obtain rfl : i = sideN h * sideN w := by omega
      refine Run.cut (Evp.of_eq (fun k => zoetropelaw22_fit.p116 k ..) ?_)
      rw [em]
      refine Evp.dec (fun h => absurd h (by omega)) fun _ => Evp.ret (Run.ret ⟨B, cb, M, rfl, hp, hc, hg⟩)
    | succ d ih =>
      intro i B cb M hd hi hc hp hg
      have put : ∀ v : Int, v = (if 0 < ss.length then ss.getD (i % ss.length) 0 else 0) → Run P T lo F.zoetropelaw22_fit (zoetropelaw22_fit.c3731 A ss.length c i v 0 0 none 0 0 (sideN w : Nat) (sideN h : Nat) B i cb M) fun r => ∃ B cb M', r = (.agg ⟨[.int .i64 (sideN w), .int .i64 (sideN h), .slice B (sideN h * sideN w) cb]⟩, M') ∧ Pre M0 M' ∧ sideN h * sideN w ≤ cb ∧ Grow M0 M' 1 B (sideN h * sideN w) ((fitL ss (sideN h * sideN w)).map (Value.int .u8)) := fun v hv => by
        refine Run.cut (Evp.of_eq (fun k => zoetropelaw22_fit.p3731 k ..) ?_)
        obtain ⟨⟨sa, sn, sc⟩, M3, e3, g3, hsn, p3, _, k3⟩ := hg.app (lo := lo) (bytes := 1) (c := cb) (m := 1) (vs := [.int .u8 v]) hp hlo rfl (by omega) (by omega)
        refine Evp.some e3 ?_
        simp only at hsn g3 k3
        subst hsn
        rw [w64 (by omega)]
        refine Evp.ret (ih (i + 1) sa sc M3 (by omega) (by omega) (k3 hc) p3 ?_)
        have : fitL ss (i + 1) = fitL ss i ++ [v] := by unfold fitL; rw [List.range_succ, List.map_append, hv]; rfl
        rw [this, List.map_append]
        exact g3
      refine Run.cut (Evp.of_eq (fun k => zoetropelaw22_fit.p116 k ..) ?_)
      rw [em]
      refine Evp.dec (fun _ => ?_) fun h => absurd h (by omega)
      refine Evp.dec (fun h0 => ?_) fun h0 => Evp.ret (put 0 (by rw [if_neg (by omega)]))
      have h0 : 0 < ss.length := by omega
      have hm := Nat.mod_lt i h0
      refine Evp.neg (by omega) ?_
      rw [show Int.tmod (i : Int) (ss.length : Int) = ((i % ss.length : Nat) : Int) from rfl]
      refine Evp.pos (by omega) ?_
      simp only [Int.toNat_natCast]
      refine Evp.ldI (hs.pre hp) hm fun _ _ => Evp.ret (put _ (by rw [if_pos h0]))
  have b1 := bringS_lt (i := w) (n := 16) (by decide)
  have b2 := bringS_lt (i := h) (n := 16) (by decide)
  refine Ac.of (Evp.of_eq (fun k => zoetropelaw22_fit.entry k ..) ?_)
  refine Evp.ob (bring_ok _ _ _ _ (by decide)) ?_
  rintro _ rfl
  simp only [ret_int, ret_bool, ret_flt, ret_slc, ret_str, ret_ptr, ret_agg, ret_tup, ob_some, bb_true, bb_false, List.getElem?_cons_zero, List.getElem?_cons_succ, List.length_cons, List.length_nil, Nat.reduceAdd, Nat.reduceLT]
  refine Evp.ob (bring_ok _ _ _ _ (by decide)) ?_
  rintro _ rfl
  simp only [ret_int, ret_bool, ret_flt, ret_slc, ret_str, ret_ptr, ret_agg, ret_tup, ob_some, bb_true, bb_false, List.getElem?_cons_zero, List.getElem?_cons_succ, List.length_cons, List.length_nil, Nat.reduceAdd, Nat.reduceLT]
  rw [w64 (x := 4 * bringS w 16) (by omega), w64 (x := 4 * bringS h 16) (by omega), w64 (x := 4 + 4 * bringS w 16) (by omega), w64 (x := 4 + 4 * bringS h 16) (by omega)]
  have e1 : 4 + 4 * bringS w 16 = ((sideN w : Nat) : Int) := by unfold sideN; omega
  have e2 : 4 + 4 * bringS h 16 = ((sideN h : Nat) : Int) := by unfold sideN; omega
  rw [e1, e2]
  exact Evp.ret (loop _ 0 none 0 M0 rfl (Nat.zero_le _) (Nat.zero_le _) (Pre.refl _) Grow.nil)
end
theorem Grow.ne {M0 M : Mem} {z n n' : Nat} {A A' : Option Addr} {cs cs' : List Value} (h : Grow M0 M z A n cs) (h' : Grow M0 M z A' n' cs') (hd : cs ≠ cs') : ∀ a a', A = some a → A' = some a' → a'.block ≠ a.block := by
  rintro a a' rfl rfl e
  rcases h.at_ with ⟨h1, _⟩ | ⟨b, h1, _, h2⟩
  · cases h1
  · rcases h'.at_ with ⟨g1, _⟩ | ⟨b', g1, _, g2⟩
    · cases g1
    · injection h1 with h1; injection g1 with g1
      subst h1; subst g1
      simp only at e
      subst e
      rw [h2] at g2
      injection g2 with g2; injection g2 with _ g2
      exact hd g2
def idN (mw s4 i : Nat) : Int := ((i / mw / s4 * 1000 + i % mw / s4 : Nat) : Int)
def idsL (mw s4 n : Nat) : List Int := (List.range n).map (idN mw s4)
theorem idsL_len (mw s4 n : Nat) : (idsL mw s4 n).length = n := by simp [idsL]
def CellsI (M0 M : Mem) (w sz : Nat) (q : Bool) (i : Nat) (BT BI BQ : Option Addr) (dt di dq : Nat) : Prop :=
  Pre M0 M ∧ (i = 0 → BT = none ∧ BI = none ∧ BQ = none) ∧ Grow M0 M 1 BT i ((List.replicate i (sz : Int)).map (Value.int .u8)) ∧ Grow M0 M 1 BI i ((idsL w (sz / 4) i).map (Value.int .i64)) ∧ Grow M0 M 1 BQ i ((List.replicate i q).map Value.bool) ∧ i ≤ dt ∧ i ≤ di ∧ i ≤ dq
section
variable (lo w h sz : Nat) (q : Bool) (M0 : Mem) (hlo : lo ≤ M0.length) (mw : 1 ≤ w ∧ w ≤ 16) (mh : 1 ≤ h ∧ h ≤ 16) (hs : TxP sz) (Q : Value × Mem → Prop)
include hlo mw mh hs
theorem cells_cols (y : Nat) (hy : y < h) (next : ∀ BT BI BQ dt di dq M, CellsI M0 M w sz q ((y + 1) * w) BT BI BQ dt di dq → Run P T lo F.zoetropelaw22_cells (zoetropelaw22_cells.c116 sz q ((y + 1 : Nat) : Int) 0 0 none 0 0 none 0 0 none 0 0 w h BT ((y + 1) * w) dt BI ((y + 1) * w) di BQ ((y + 1) * w) dq M) Q) :
    ∀ (e x : Nat) (BT BI BQ : Option Addr) (dt di dq : Nat) (M : Mem), w - x = e → x ≤ w → CellsI M0 M w sz q (y * w + x) BT BI BQ dt di dq →
    Run P T lo F.zoetropelaw22_cells (zoetropelaw22_cells.c7460 sz q y x 0 0 none 0 0 none 0 0 none 0 0 w h BT (y * w + x) dt BI (y * w + x) di BQ (y * w + x) dq M) Q := by
  have s1 : (sz : Int) = 4 ∨ (sz : Int) = 8 ∨ (sz : Int) = 16 ∨ (sz : Int) = 32 ∨ (sz : Int) = 64 := hs
  have sm : w * h ≤ 16 * 16 := Nat.mul_le_mul mw.2 mh.2
  intro e
  induction e with
  | zero =>
    intro x BT BI BQ dt di dq M he hx hI
    obtain rfl : w = x := by omega
    refine Run.cut (Evp.of_eq (fun k => zoetropelaw22_cells.p7460 k ..) ?_)
    refine Evp.dec (fun h => absurd h (by omega)) fun _ => ?_
    rw [w64 (by omega), show (y : Int) + 1 = ((y + 1 : Nat) : Int) by omega]
    rw [show y * w + w = (y + 1) * w by rw [Nat.add_mul, Nat.one_mul]] at hI ⊢
    exact Evp.ret (next BT BI BQ dt di dq M hI)
  | succ e ih =>
    intro x BT BI BQ dt di dq M he hx ⟨hp, h0, gt, gi, gq, ct, ci, cq⟩
    have hxw : x < w := by omega
    have hlt : y * w + x < w * h := by rw [Nat.mul_comm w]; exact row_in hy hxw
    have hd : IntKind.i64.wrap (Int.tdiv (IntKind.i64.wrap (sz : Int)) 4) = ((sz / 4 : Nat) : Int) := by
      rw [w64 (x := (sz : Int)) (by omega), show Int.tdiv (sz : Int) 4 = ((sz / 4 : Nat) : Int) from rfl, w64 (by omega)]
    have d1 : (y * w + x) / w = y ∧ (y * w + x) % w = x := by
      rw [Nat.add_comm]
      exact ⟨by rw [Nat.add_mul_div_right x y (by omega), Nat.div_eq_of_lt hxw, Nat.zero_add], by rw [Nat.add_mul_mod_self_right, Nat.mod_eq_of_lt hxw]⟩
    have hid : IntKind.i64.wrap ((IntKind.i64.wrap ((IntKind.i64.wrap (Int.tdiv (y : Int) ((sz / 4 : Nat) : Int))) * 1000)) + (IntKind.i64.wrap (Int.tdiv (x : Int) ((sz / 4 : Nat) : Int)))) = idN w (sz / 4) (y * w + x) := by
      unfold idN
      rw [d1.1, d1.2, show Int.tdiv (y : Int) ((sz / 4 : Nat) : Int) = ((y / (sz / 4) : Nat) : Int) from rfl, show Int.tdiv (x : Int) ((sz / 4 : Nat) : Int) = ((x / (sz / 4) : Nat) : Int) from rfl]
      have a1 : y / (sz / 4) ≤ 16 := Nat.le_trans (Nat.div_le_self _ _) (by omega)
      have a2 : x / (sz / 4) ≤ 16 := Nat.le_trans (Nat.div_le_self _ _) (by omega)
      generalize y / (sz / 4) = p at *
      generalize x / (sz / 4) = p' at *
      rw [w64 (x := (p : Int)) (by omega), w64 (x := (p : Int) * 1000) (by omega), w64 (x := (p' : Int)) (by omega), w64 (by omega)]
      omega
    generalize hI : y * w + x = i at *
    have ne : ∀ {a b : List Value}, (i = 0 ∨ a ≠ b) → i ≠ 0 → a ≠ b := fun h1 h2 => h1.resolve_left h2
    have n1 : i ≠ 0 → (List.replicate i (sz : Int)).map (Value.int .u8) ≠ (idsL w (sz / 4) i).map (Value.int .i64) := fun h e => by
      have := congrArg (fun l => l[0]?) e
      have h' : 0 < i := by omega
      simp [idsL, h', List.getElem?_replicate] at this
    have n2 : i ≠ 0 → (List.replicate i (sz : Int)).map (Value.int .u8) ≠ (List.replicate i q).map Value.bool := fun h e => by
      have := congrArg (fun l => l[0]?) e
      have h' : 0 < i := by omega
      simp [h', List.getElem?_replicate] at this
    have n1' : i ≠ 0 → (List.replicate (i + 1) (sz : Int)).map (Value.int .u8) ≠ (idsL w (sz / 4) i).map (Value.int .i64) := fun h e => by
      have := congrArg (fun l => l.length) e
      simp [idsL] at this
    have n3 : i ≠ 0 → (List.replicate i q).map Value.bool ≠ (idsL w (sz / 4) i).map (Value.int .i64) := fun h e => by
      have := congrArg (fun l => l[0]?) e
      have h' : 0 < i := by omega
      simp [idsL, h', List.getElem?_replicate] at this
    have n4 : (List.replicate (i + 1) (sz : Int)).map (Value.int .u8) ≠ (List.replicate i q).map Value.bool := fun e => by
      have := congrArg (fun l => l.length) e
      simp at this
    have n5 : (idsL w (sz / 4) (i + 1)).map (Value.int .i64) ≠ (List.replicate i q).map Value.bool := fun e => by
      have := congrArg (fun l => l.length) e
      simp [idsL] at this
    refine Run.cut (Evp.of_eq (fun k => zoetropelaw22_cells.p7460 k ..) ?_)
    refine Evp.dec (fun _ => ?_) fun h => absurd h (by omega)
    obtain ⟨⟨ta, tn, tc⟩, M1, e1, gt1, htn, p1, k1, kt⟩ := gt.app (lo := lo) (bytes := 1) (c := dt) (m := 1) (vs := [.int .u8 (sz : Int)]) hp hlo rfl (by omega) (by omega)
    refine Evp.some e1 ?_
    simp only at htn gt1 kt
    subst htn
    rw [hd]
    refine Evp.neg (by omega) (Evp.neg (by omega) ?_)
    rw [hid]
    have hz : ∀ {A A' : Option Addr} {cs cs' : List Value} {M : Mem}, Grow M0 M 1 A i cs → (i = 0 → A' = none) → (i ≠ 0 → ∀ a a', A = some a → A' = some a' → a'.block ≠ a.block) → ∀ a a', A = some a → A' = some a' → a'.block ≠ a.block := fun _ h1 h2 a a' ea ea' => by
      by_cases hz : i = 0
      · rw [h1 hz] at ea'; cases ea'
      · exact h2 hz a a' ea ea'
    have gi1 := gi.keep k1 (fun a a' ea ea' => by
      by_cases hz : i = 0
      · rw [(h0 hz).1] at ea'; cases ea'
      · exact gi.ne gt (fun e => n1 hz e.symm) a a' ea ea')
    have gq1 := gq.keep k1 (fun a a' ea ea' => by
      by_cases hz : i = 0
      · rw [(h0 hz).1] at ea'; cases ea'
      · exact gq.ne gt (fun e => n2 hz e.symm) a a' ea ea')
    obtain ⟨⟨ia, inn, ic⟩, M2, e2, gi2, hin, p2, k2, ki⟩ := gi1.app (lo := lo) (bytes := 8) (c := di) (m := 1) (vs := [.int .i64 (idN w (sz / 4) i)]) p1 hlo rfl (by omega) (by omega)
    refine Evp.some e2 ?_
    simp only at hin gi2 ki
    subst hin
    have rep1 : (List.replicate i (sz : Int)).map (Value.int .u8) ++ [.int .u8 (sz : Int)] = (List.replicate (i + 1) (sz : Int)).map (Value.int .u8) := by rw [List.replicate_succ', List.map_append]; rfl
    have rep2 : (idsL w (sz / 4) i).map (Value.int .i64) ++ [.int .i64 (idN w (sz / 4) i)] = (idsL w (sz / 4) (i + 1)).map (Value.int .i64) := by unfold idsL; rw [List.range_succ, List.map_append, List.map_append]; rfl
    have rep3 : (List.replicate i q).map Value.bool ++ [.bool q] = (List.replicate (i + 1) q).map Value.bool := by rw [List.replicate_succ', List.map_append]; rfl
    rw [rep1] at gt1
    rw [rep2] at gi2
    have gt2 := gt1.keep k2 (fun a a' ea ea' => by
      by_cases hz : i = 0
      · rw [(h0 hz).2.1] at ea'; cases ea'
      · exact gt1.ne gi1 (n1' hz) a a' ea ea')
    have gq2 := gq1.keep k2 (fun a a' ea ea' => by
      by_cases hz : i = 0
      · rw [(h0 hz).2.1] at ea'; cases ea'
      · exact gq1.ne gi1 (n3 hz) a a' ea ea')
    obtain ⟨⟨qa, qn, qc⟩, M3, e3, gq3, hqn, p3, k3, kq⟩ := gq2.app (lo := lo) (bytes := 1) (c := dq) (m := 1) (vs := [.bool q]) p2 hlo rfl (by omega) (by omega)
    refine Evp.some e3 ?_
    simp only at hqn gq3 kq
    subst hqn
    rw [rep3] at gq3
    have gt3 := gt2.keep k3 (fun a a' ea ea' => gt2.ne gq2 n4 a a' ea ea')
    have gi3 := gi2.keep k3 (fun a a' ea ea' => gi2.ne gq2 n5 a a' ea ea')
    rw [w64 (x := (x : Int) + 1) (by omega), show (x : Int) + 1 = ((x + 1 : Nat) : Int) by omega]
    have ei : i + 1 = y * w + (x + 1) := by omega
    have hi' : i < w * h := by omega
    rw [ei] at gt3 gi3 gq3 kt ki kq ⊢
    exact Evp.ret (ih (x + 1) ta ia qa tc ic qc M3 (by omega) (by omega) ⟨p3, fun hz => by omega, gt3, gi3, gq3, kt ct, ki ci, kq cq⟩)
theorem cells_rows (fin : ∀ BT BI BQ dt di dq M, CellsI M0 M w sz q (w * h) BT BI BQ dt di dq → Q (.agg ⟨[.int .i64 w, .int .i64 h, .slice BT (w * h) dt, .slice BI (w * h) di, .slice BQ (w * h) dq]⟩, M)) :
    ∀ (e y : Nat) (BT BI BQ : Option Addr) (dt di dq : Nat) (M : Mem), h - y = e → y ≤ h → CellsI M0 M w sz q (y * w) BT BI BQ dt di dq →
    Run P T lo F.zoetropelaw22_cells (zoetropelaw22_cells.c116 sz q y 0 0 none 0 0 none 0 0 none 0 0 w h BT (y * w) dt BI (y * w) di BQ (y * w) dq M) Q := by
  intro e
  induction e with
  | zero =>
    intro y BT BI BQ dt di dq M he hy hI
    obtain rfl : h = y := by omega
    rw [Nat.mul_comm h w] at hI ⊢
    refine Run.cut (Evp.of_eq (fun k => zoetropelaw22_cells.p116 k ..) ?_)
    refine Evp.dec (fun h => absurd h (by omega)) fun _ => Evp.ret (Run.ret (fin BT BI BQ dt di dq M hI))
  | succ e ih =>
    intro y BT BI BQ dt di dq M he hy hI
    refine Run.cut (Evp.of_eq (fun k => zoetropelaw22_cells.p116 k ..) ?_)
    refine Evp.dec (fun _ => ?_) fun h => absurd h (by omega)
    exact Evp.ret (cells_cols lo w h sz q M0 hlo mw mh hs Q y (by omega) (fun BT BI BQ dt di dq M hI => ih (y + 1) BT BI BQ dt di dq M (by omega) (by omega) hI) _ 0 BT BI BQ dt di dq M rfl (Nat.zero_le _) hI)
end
theorem cells_ok (lo W H sz : Nat) (q : Bool) (A : Option Addr) (n c : Nat) (M0 : Mem) (hlo : lo ≤ M0.length) (hW : 4 ≤ W ∧ W ≤ 64 ∧ W % 4 = 0) (hH : 4 ≤ H ∧ H ≤ 64 ∧ H % 4 = 0) (hs : TxP sz) :
    Ac P T lo F.zoetropelaw22_cells [.agg ⟨[.int .i64 W, .int .i64 H, .slice A n c]⟩, .int .u8 sz, .bool q] M0 fun r => ∃ BT BI BQ dt di dq M', r = (.agg ⟨[.int .i64 (W / 4 : Nat), .int .i64 (H / 4 : Nat), .slice BT (W / 4 * (H / 4)) dt, .slice BI (W / 4 * (H / 4)) di, .slice BQ (W / 4 * (H / 4)) dq]⟩, M') ∧ CellsI M0 M' (W / 4) sz q (W / 4 * (H / 4)) BT BI BQ dt di dq := by
  have mw : 1 ≤ W / 4 ∧ W / 4 ≤ 16 := by omega
  have mh : 1 ≤ H / 4 ∧ H / 4 ≤ 16 := by omega
  refine Ac.of (Evp.of_eq (fun k => zoetropelaw22_cells.entry k ..) ?_)
  rw [show Int.tdiv (W : Int) 4 = ((W / 4 : Nat) : Int) from rfl, show Int.tdiv (H : Int) 4 = ((H / 4 : Nat) : Int) from rfl]
  generalize W / 4 = w at *
  generalize H / 4 = h at *
  rw [w64 (by omega), w64 (by omega)]
  have := cells_rows lo w h sz q M0 hlo mw mh hs (fun r => ∃ BT BI BQ dt di dq M', r = (.agg ⟨[.int .i64 w, .int .i64 h, .slice BT (w * h) dt, .slice BI (w * h) di, .slice BQ (w * h) dq]⟩, M') ∧ CellsI M0 M' w sz q (w * h) BT BI BQ dt di dq) (fun BT BI BQ dt di dq M hI => ⟨BT, BI, BQ, dt, di, dq, M, rfl, hI⟩) h 0 none none none 0 0 0 M0 rfl (Nat.zero_le _) (by rw [Nat.zero_mul]; exact ⟨Pre.refl _, fun _ => ⟨rfl, rfl, rfl⟩, Grow.nil, Grow.nil, Grow.nil, Nat.le_refl _, Nat.le_refl _, Nat.le_refl _⟩)
  rw [Nat.zero_mul] at this
  exact Evp.ret this
end Go.Zt
