/- What a plane becomes: the spec; the document's loops. -/
import Derived.Test.YtfghnhhhlckafaaFc
set_option linter.unusedVariables false
set_option linter.unusedSimpArgs false
set_option maxRecDepth 100000
namespace Go.Zt
def wideN (w side : Nat) : Nat := (w + side - 1) / side
noncomputable def tgtW (us : List Un) (xs bs : List Int) (w h side p : Nat) : Int :=
  if (us.getD (p / w / side * wideN w side + p % w / side) u0).on = true then sampU (us.getD (p / w / side * wideN w side + p % w / side) u0) xs bs w h side (p / w) (p % w) else xs.getD p 0
noncomputable def outW (us : List Un) (xs bs : List Int) (w h side : Nat) : List Int := (List.range (h * w)).map fun p => tgtW us xs bs w h side p
def PlaneOk (us : List Un) (w h n w' h' n' side : Int) : Prop := checkS w h n = 0 ∧ checkS w' h' n' = 0 ∧ w = w' ∧ h = h' ∧ (side = 64 ∨ side = 32) ∧ us.length = wideN w.toNat side.toNat * wideN h.toNat side.toNat ∧ ∀ u ∈ us, UnitP u
noncomputable instance (us : List Un) (w h n w' h' n' side : Int) : Decidable (PlaneOk us w h n w' h' n' side) := Classical.propDecidable _
/-- What Plane hands back. -/
def PlaneR (M : Mem) (us : List Un) (w h w' h' side : Int) (xs bs : List Int) (r : Value × Mem) : Prop :=
  Pre M r.2 ∧ if PlaneOk us w h xs.length w' h' bs.length side then ∃ a cc, r.1 = .tuple ⟨[.agg ⟨[.int .i64 w, .int .i64 h, .slice (some a) xs.length cc]⟩, .int .i64 0]⟩ ∧ xs.length ≤ cc ∧ Buf M r.2 a ((outW us xs bs w.toNat h.toNat side.toNat).map (Value.int .u8))
    else r.1 = .tuple ⟨[.agg ⟨[.int .i64 0, .int .i64 0, .slice none 0 0]⟩, .int .i64 2]⟩
theorem tgtW_le {us : List Un} {xs bs : List Int} {w h side p : Nat} (bx : Bytes xs) : 0 ≤ tgtW us xs bs w h side p ∧ tgtW us xs bs w h side p ≤ 255 := by
  unfold tgtW; split
  · exact sampW_le ..
  · exact bx.get p
theorem outW_len (us : List Un) (xs bs : List Int) (w h side : Nat) : (outW us xs bs w h side).length = h * w := by simp [outW]
theorem outW_bytes {us : List Un} {xs bs : List Int} {w h side : Nat} (bx : Bytes xs) : Bytes (outW us xs bs w h side) := fun z hz => by
  unfold outW at hz
  obtain ⟨p, _, rfl⟩ := List.mem_map.1 hz
  exact tgtW_le bx
/-- So far done. -/
def InvW (us : List Un) (xs bs : List Int) (w h side m : Nat) (zs : List Int) : Prop := zs.length = h * w ∧ ∀ p, p < h * w → zs.getD p 0 = if p < m then tgtW us xs bs w h side p else xs.getD p 0
section
variable {us : List Un} {xs bs : List Int} {w h side m : Nat} {zs : List Int}
theorem InvW.skip (hi : InvW us xs bs w h side m zs) {m' : Nat} (h1 : m ≤ m') (h2 : ∀ p, m ≤ p → p < m' → p < h * w → tgtW us xs bs w h side p = xs.getD p 0) : InvW us xs bs w h side m' zs := by
  refine ⟨hi.1, fun p hp => ?_⟩
  rw [hi.2 p hp]
  by_cases g : p < m
  · rw [if_pos g, if_pos (by omega)]
  · rw [if_neg g]
    by_cases g' : p < m'
    · rw [if_pos g', h2 p (by omega) g' hp]
    · rw [if_neg g']
theorem InvW.set (hi : InvW us xs bs w h side m zs) (hm : m < h * w) : InvW us xs bs w h side (m + 1) (zs.set m (tgtW us xs bs w h side m)) := by
  refine ⟨by simpa using hi.1, fun p hp => ?_⟩
  rw [getD_set (by rw [hi.1]; exact hm)]
  by_cases e : p = m
  · rw [if_pos e, e, if_pos (by omega)]
  · rw [if_neg e, hi.2 p hp]
    by_cases g : p < m
    · rw [if_pos g, if_pos (by omega)]
    · rw [if_neg g, if_neg (by omega)]
theorem InvW.full (hi : InvW us xs bs w h side m zs) (hm : h * w ≤ m) : zs = outW us xs bs w h side := ext_getD (by rw [hi.1, outW_len]) fun p hp => by
  rw [hi.1] at hp
  rw [hi.2 p hp, if_pos (by omega)]
  unfold outW
  exact (getD_map_range hp).symm
theorem InvW.start (hl : xs.length = h * w) : InvW us xs bs w h side 0 xs := ⟨hl, fun p _ => by rw [if_neg (by omega)]⟩
end
theorem dmw {q r W : Nat} (h : r < W) : (q * W + r) / W = q ∧ (q * W + r) % W = r := by
  rw [Nat.add_comm]
  exact ⟨by rw [Nat.add_mul_div_right r q (by omega), Nat.div_eq_of_lt h, Nat.zero_add], by rw [Nat.add_mul_mod_self_right, Nat.mod_eq_of_lt h]⟩
theorem tgt_at {us : List Un} {xs bs : List Int} {w h side y x : Nat} (hx : x < w) : tgtW us xs bs w h side (y * w + x) = if (us.getD (y / side * wideN w side + x / side) u0).on = true then sampU (us.getD (y / side * wideN w side + x / side) u0) xs bs w h side y x else xs.getD (y * w + x) 0 := by
  obtain ⟨d1, d2⟩ := dmw (q := y) hx
  unfold tgtW
  rw [d1, d2]
theorem div_wide {x w side : Nat} (hs : SideP side) (hx : x < w) : x / side < wideN w side := by
  unfold wideN
  rcases hs with rfl | rfl <;> omega
theorem unit_lt {w h side y x : Nat} (hs : SideP side) (hy : y < h) (hx : x < w) : y / side * wideN w side + x / side < wideN w side * wideN h side := by
  have := row_lt (h := wideN h side) (w := wideN w side) (y := y / side) (c := x / side) (div_wide hs hy) (div_wide hs hx)
  rwa [Nat.mul_comm (wideN h side)] at this
theorem wide_eq {n side : Nat} (hs : SideP side) (hn : 1 ≤ n ∧ n ≤ 512) : IntKind.i64.wrap (Int.tdiv (IntKind.i64.wrap ((IntKind.i64.wrap ((n : Int) + side)) - 1)) (side : Int)) = ((wideN n side : Nat) : Int) ∧ 1 ≤ wideN n side ∧ wideN n side ≤ 16 := by
  have hs' : side = 64 ∨ side = 32 := hs
  rw [w64 (x := (n : Int) + side) (by omega), w64 (x := (n : Int) + side - 1) (by omega), show (n : Int) + side - 1 = ((n + side - 1 : Nat) : Int) by omega, show Int.tdiv ((n + side - 1 : Nat) : Int) (side : Int) = (((n + side - 1) / side : Nat) : Int) from rfl]
  have : 1 ≤ (n + side - 1) / side ∧ (n + side - 1) / side ≤ 16 := by rcases hs' with rfl | rfl <;> omega
  unfold wideN
  generalize (n + side - 1) / side = q at *
  exact ⟨w64 (by omega), this⟩
section
variable (lo : Nat) (AU A B : Option Addr) (cu cap capb : Nat) (us : List Un) (xs bs : List Int) (w h side : Nat) (M0 : Mem)
variable (hlo : lo ≤ M0.length) (hU : RdU M0 AU us) (hx : RdI M0 .u8 A xs) (hb : RdI M0 .u8 B bs) (bx : Bytes xs) (bb' : Bytes bs) (hw : 1 ≤ w ∧ w ≤ 512) (hh : 1 ≤ h ∧ h ≤ 512) (hn : xs.length = h * w) (hnb : bs.length = h * w) (hs : SideP side) (hul : us.length = wideN w side * wideN h side)
include hlo hU hx hb bx bb' hw hh hn hnb hs hul
theorem rcols_loop (ao : Addr) (co y : Nat) (hy : y < h) (hnext : ∀ zs M, Pre M0 M → Buf M0 M ao (zs.map (Value.int .u8)) → InvW us xs bs w h side ((y + 1) * w) zs → Run P T lo F.zoetroperef24_Plane (zoetroperef24_Plane.c2036 AU us.length cu side (wideN w side : Nat) ((y + 1 : Nat) : Int) w h A xs.length cap w h B bs.length capb 0 0 none 0 0 w h (some ao) xs.length co M) (PlaneR M0 us w h w h side xs bs)) :
    ∀ (q x : Nat) (zs : List Int) (M : Mem), w - x = q → x ≤ w → Pre M0 M → Buf M0 M ao (zs.map (Value.int .u8)) → InvW us xs bs w h side (y * w + x) zs →
      Run P T lo F.zoetroperef24_Plane (zoetroperef24_Plane.c130340 AU us.length cu side (wideN w side : Nat) y x w h A xs.length cap w h B bs.length capb 0 0 none 0 0 w h (some ao) xs.length co M) (PlaneR M0 us w h w h side xs bs) := by
  have hs' : side = 64 ∨ side = 32 := hs
  intro q
  induction q with
  | zero =>
    intro x zs M hq hi hp hbuf hinv
    refine Run.cut (Evp.of_eq (fun k => zoetroperef24_Plane.p130340 k ..) ?_)
    refine Evp.dec (fun h => absurd h (by omega)) fun _ => ?_
    rw [w64 (by omega)]
    refine Evp.ret (hnext zs M hp hbuf ?_)
    have : y * w + x = (y + 1) * w := by rw [Nat.add_mul, Nat.one_mul]; omega
    rw [← this]; exact hinv
  | succ q ih =>
    intro x zs M hq hi hp hbuf hinv
    have hxw : x < w := by omega
    have hlt := row_lt hy hxw
    have sm : h * w ≤ 512 * 512 := Nat.mul_le_mul hh.2 hw.2
    have next : ∀ zs M, Pre M0 M → Buf M0 M ao (zs.map (Value.int .u8)) → InvW us xs bs w h side (y * w + x + 1) zs → Run P T lo F.zoetroperef24_Plane (zoetroperef24_Plane.c521363 AU us.length cu side (wideN w side : Nat) y x w h A xs.length cap w h B bs.length capb 0 0 none 0 0 w h (some ao) xs.length co M) (PlaneR M0 us w h w h side xs bs) := fun zs M hp hbuf hinv => by
      refine Run.cut (Evp.of_eq (fun k => zoetroperef24_Plane.p521363 k ..) ?_)
      rw [w64 (by omega)]
      exact Evp.ret (ih (x + 1) zs M (by omega) (by omega) hp hbuf hinv)
    obtain ⟨_, w1, w2⟩ := wide_eq hs hw
    have ul := unit_lt hs hy hxw
    have ta := tgt_at (us := us) (xs := xs) (bs := bs) (h := h) (side := side) (y := y) hxw
    refine Run.cut (Evp.of_eq (fun k => zoetroperef24_Plane.p130340 k ..) ?_)
    refine Evp.dec (fun _ => ?_) fun h => absurd h (by omega)
    refine Evp.neg (by omega) (Evp.neg (by omega) ?_)
    have e1 : Int.tdiv (y : Int) (side : Int) = ((y / side : Nat) : Int) := rfl
    have e2 : Int.tdiv (x : Int) (side : Int) = ((x / side : Nat) : Int) := rfl
    have l1 : y / side ≤ 512 := Nat.le_trans (Nat.div_le_self _ _) (by omega)
    have l2 : x / side ≤ 512 := Nat.le_trans (Nat.div_le_self _ _) (by omega)
    have ei : IntKind.i64.wrap ((IntKind.i64.wrap ((IntKind.i64.wrap (Int.tdiv (y : Int) (side : Int))) * ((wideN w side : Nat) : Int))) + (IntKind.i64.wrap (Int.tdiv (x : Int) (side : Int)))) = ((y / side * wideN w side + x / side : Nat) : Int) := by
      rw [e1, e2]
      have l3 : y / side * wideN w side ≤ 512 * 16 := Nat.mul_le_mul l1 w2
      generalize y / side = p at *
      generalize x / side = s at *
      rw [w64 (x := ((p : Nat) : Int)) (by omega), w64 (x := ((s : Nat) : Int)) (by omega), ← Int.natCast_mul, w64 (x := ((p * wideN w side : Nat) : Int)) (by omega), w64 (by omega)]
      omega
    rw [ei]
    refine Evp.pos (pos_iN (by rw [hul]; exact ul)) ?_
    simp only [Int.toNat_natCast]
    refine Evp.ldU (hU.pre hp) (by rw [hul]; exact ul) fun _ _ => ?_
    refine Evp.bb (fun hon => ?_) fun hon => ?_
    · refine Evp.ob (rsample_ok M.length A B cap capb xs bs w h side y x (us.getD (y / side * wideN w side + x / side) u0) M (hx.pre hp) (hb.pre hp) bx bb' hw hh.2 hn hnb hy hxw hs) ?_
      rintro _ rfl
      simp only [ret_int, ret_bool, ret_flt, ret_slc, ret_str, ret_ptr, ret_agg, ret_tup, ob_some, bb_true, bb_false, List.getElem?_cons_zero, List.getElem?_cons_succ, List.length_cons, List.length_nil, Nat.reduceAdd, Nat.reduceLT]
      have ep : IntKind.i64.wrap ((IntKind.i64.wrap ((y : Int) * w)) + (x : Int)) = ((y * w + x : Nat) : Int) := by
        rw [← Int.natCast_mul, w64 (x := ((y * w : Nat) : Int)) (by omega), w64 (by omega)]; omega
      rw [ep]
      refine Evp.pos (pos_iN (by omega)) (Evp.some rfl ?_)
      simp only [Int.toNat_natCast]
      rw [if_pos hon] at ta
      obtain ⟨M', h1, h2, h3, h4, h5⟩ := hbuf.st (lo := lo) (i := y * w + x) (vs := [.int .u8 (sampU (us.getD (y / side * wideN w side + x / side) u0) xs bs w h side y x)]) hp hlo (by simp [hinv.1]; omega)
      refine Evp.some h1 ?_
      rw [setL_one, set_map, ← ta] at h2
      exact Evp.ret (next _ M' h3 h2 (hinv.set hlt))
    · refine Evp.ret (next zs M hp hbuf (hinv.skip (by omega) fun p g1 g2 g3 => ?_))
      obtain rfl : p = y * w + x := by omega
      rw [ta, if_neg (by rw [hon]; simp)]
theorem rrows_loop (ao : Addr) (co : Nat) (hco : xs.length ≤ co) (hok : PlaneOk us w h xs.length w h bs.length side) : ∀ (q y : Nat) (zs : List Int) (M : Mem), h - y = q → y ≤ h → Pre M0 M → Buf M0 M ao (zs.map (Value.int .u8)) → InvW us xs bs w h side (y * w) zs →
    Run P T lo F.zoetroperef24_Plane (zoetroperef24_Plane.c2036 AU us.length cu side (wideN w side : Nat) y w h A xs.length cap w h B bs.length capb 0 0 none 0 0 w h (some ao) xs.length co M) (PlaneR M0 us w h w h side xs bs) := by
  intro q
  induction q with
  | zero =>
    intro y zs M hq hi hp hbuf hinv
    obtain rfl : y = h := by omega
    refine Run.cut (Evp.of_eq (fun k => zoetroperef24_Plane.p2036 k ..) ?_)
    refine Evp.dec (fun h => absurd h (by omega)) fun _ => ?_
    refine Evp.ret (Run.ret ⟨hp, ?_⟩)
    rw [if_pos hok]
    refine ⟨ao, co, rfl, hco, ?_⟩
    simp only [Int.toNat_natCast]
    rw [← hinv.full (Nat.le_refl _)]; exact hbuf
  | succ q ih =>
    intro y zs M hq hi hp hbuf hinv
    refine Run.cut (Evp.of_eq (fun k => zoetroperef24_Plane.p2036 k ..) ?_)
    refine Evp.dec (fun _ => ?_) fun h => absurd h (by omega)
    exact Evp.ret (rcols_loop lo AU A B cu cap capb us xs bs w h side M0 hlo hU hx hb bx bb' hw hh hn hnb hs hul ao co y (by omega) (fun zs M hp hbuf hinv => ih (y + 1) zs M (by omega) (by omega) hp hbuf hinv) _ 0 zs M rfl (by omega) hp hbuf hinv)
end
end Go.Zt
