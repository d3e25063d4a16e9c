/- The program's Plane: its loops. -/
import Derived.Test.YtfghnhhhlckafaaFe
set_option linter.unusedVariables false
set_option linter.unusedSimpArgs false
set_option maxRecDepth 100000
namespace Go.Zt
structure Wc where
  (AU A B : Option Addr) (cu cap capb : Nat) (us : List Un) (xs bs : List Int) (w h side : Nat) (ar ao : Addr) (co : Nat)
def Wc.wide (c : Wc) : Nat := wideN c.w c.side
structure Wok (c : Wc) (lo : Nat) (M0 : Mem) : Prop where
  hlo : lo ≤ M0.length
  hU : RdU M0 c.AU c.us
  hx : RdI M0 .u8 c.A c.xs
  hb : RdI M0 .u8 c.B c.bs
  bx : Bytes c.xs
  bb : Bytes c.bs
  hw : 1 ≤ c.w ∧ c.w ≤ 512
  hh : 1 ≤ c.h ∧ c.h ≤ 512
  hn : c.xs.length = c.h * c.w
  hnb : c.bs.length = c.h * c.w
  hs : SideP c.side
  hul : c.us.length = wideN c.w c.side * wideN c.h c.side
  hcap : c.xs.length ≤ c.cap
  hcapb : c.bs.length ≤ c.capb
  hco : c.xs.length ≤ c.co
  hne : c.ao.block ≠ c.ar.block
abbrev cRow (c : Wc) (y : Nat) (M : Mem) : Out := wiener_Plane.c7156 c.AU c.us.length c.cu c.side (c.wide : Nat) (some c.ar) c.side c.side c.h y c.w c.h c.A c.xs.length c.cap c.w c.h c.B c.bs.length c.capb 0 0 none 0 0 c.w c.h (some c.ao) c.xs.length c.co M
abbrev cEnd (c : Wc) (y : Nat) (M : Mem) : Out := wiener_Plane.c57255 c.AU c.us.length c.cu c.side (c.wide : Nat) (some c.ar) c.side c.side c.h y c.w c.h c.A c.xs.length c.cap c.w c.h c.B c.bs.length c.capb 0 0 none 0 0 c.w c.h (some c.ao) c.xs.length c.co M
abbrev cUnit (c : Wc) (y k : Nat) (M : Mem) : Out := wiener_Plane.c3664284 c.AU c.us.length c.cu c.side (c.wide : Nat) (some c.ar) c.side c.side y c.h y (c.wide : Nat) k c.w c.h c.A c.xs.length c.cap c.w c.h c.B c.bs.length c.capb 0 0 none 0 0 c.w c.h (some c.ao) c.xs.length c.co (fstS c.side y) (fstS c.side y + c.side) M
abbrev cNext (c : Wc) (y k : Nat) (M : Mem) : Out := wiener_Plane.c29314279 c.AU c.us.length c.cu c.side (c.wide : Nat) (some c.ar) c.side c.side y c.h y (c.wide : Nat) k c.w c.h c.A c.xs.length c.cap c.w c.h c.B c.bs.length c.capb 0 0 none 0 0 c.w c.h (some c.ao) c.xs.length c.co (fstS c.side y) (fstS c.side y + c.side) M
abbrev cTap (c : Wc) (y k f t : Nat) (v0 v1 v2 v3 v4 v5 v6 h0 h1 h2 h3 h4 h5 h6 : Int) (i : Nat) (M : Mem) : Out :=
  wiener_Plane.c240142569460 c.AU c.us.length c.cu c.side (c.wide : Nat) (some c.ar) c.side c.side y f t (some c.ar) (t - f) c.side c.h y (c.wide : Nat) k v0 v1 v2 v3 v4 v5 v6 i c.w c.h c.A c.xs.length c.cap c.w c.h c.B c.bs.length c.capb 0 0 none 0 0 c.w c.h (some c.ao) c.xs.length c.co (fstS c.side y) (fstS c.side y + c.side) h0 h1 h2 h3 h4 h5 h6 M
abbrev cAdd (c : Wc) (y k f t : Nat) (vi : Int) (v0 v1 v2 v3 v4 v5 v6 h0 h1 h2 h3 h4 h5 h6 : Int) (i : Nat) (S : Option Addr) (cs j : Nat) (M : Mem) : Out :=
  wiener_Plane.c245905991127868 c.AU c.us.length c.cu c.side (c.wide : Nat) (some c.ar) c.side c.side y f t (some c.ar) (t - f) c.side vi c.h y (c.wide : Nat) k v0 v1 v2 v3 v4 v5 v6 i S (t - f) cs ((t - f : Nat) : Int) j c.w c.h c.A c.xs.length c.cap c.w c.h c.B c.bs.length c.capb 0 0 none 0 0 c.w c.h (some c.ao) c.xs.length c.co (fstS c.side y) (fstS c.side y + c.side) h0 h1 h2 h3 h4 h5 h6 M
abbrev cPut (c : Wc) (y k f t j : Nat) (M : Mem) : Out :=
  wiener_Plane.c240142569468 c.AU c.us.length c.cu c.side (c.wide : Nat) (some c.ar) c.side c.side y f c.h y (c.wide : Nat) k (some c.ar) (t - f) c.side ((t - f : Nat) : Int) j c.w c.h c.A c.xs.length c.cap c.w c.h c.B c.bs.length c.capb 0 0 none 0 0 c.w c.h (some c.ao) c.xs.length c.co (fstS c.side y) (fstS c.side y + c.side) M
section
variable {c : Wc} {lo : Nat} {M0 : Mem} (o : Wok c lo M0) {Q : Value × Mem → Prop}
include o
/-- What is known of memory. -/
structure St2 (c : Wc) (M0 M : Mem) (zs rs : List Int) : Prop where
  pre : Pre M0 M
  out : Buf M0 M c.ao (zs.map (Value.int .u8))
  room : Buf M0 M c.ar (rs.map (Value.int .i64))
  len : rs.length = c.side
theorem add_loop (y k f t : Nat) (ht : t - f ≤ c.side) (vi : Int) (v0 v1 v2 v3 v4 v5 v6 h0 h1 h2 h3 h4 h5 h6 : Int) (i : Nat) (S : Option Addr) (cs : Nat) (av : List Int) (hal : av.length = t - f) (zs : List Int) (G : Nat → Int)
    (hb : ∀ j, j < t - f → -100000000 ≤ G j ∧ G j ≤ 100000000 ∧ -2097152 ≤ vi * av.getD j 0 ∧ vi * av.getD j 0 ≤ 2097152)
    (hnext : ∀ rs M, St2 c M0 M zs rs → (∀ j, j < t - f → rs.getD j 0 = G j + vi * av.getD j 0) → Run P T lo F.wiener_Plane (cTap c y k f t v0 v1 v2 v3 v4 v5 v6 h0 h1 h2 h3 h4 h5 h6 (i + 1) M) Q) (hi7 : i < 7) (M1 : Mem) (hS : RdI M1 .i64 S av) (hp1 : Pre M0 M1) (hSb : ∀ a, S = some a → av ≠ [] → a.block ≠ c.ar.block) :
    ∀ (q j : Nat) (rs : List Int) (M : Mem), t - f - j = q → j ≤ t - f → St2 c M0 M zs rs → (∀ p, p < t - f → rs.getD p 0 = if p < j then G p + vi * av.getD p 0 else G p) → (∀ (b : Nat) (x : Blk), M1[b]? = some x → b ≠ c.ar.block → M[b]? = some x) →
      Run P T lo F.wiener_Plane (cAdd c y k f t vi v0 v1 v2 v3 v4 v5 v6 h0 h1 h2 h3 h4 h5 h6 i S cs j M) Q := by
  have hs' : c.side = 64 ∨ c.side = 32 := o.hs
  intro q
  induction q with
  | zero =>
    intro j rs M hq hj st hr hk
    obtain rfl : j = t - f := by omega
    refine Run.cut (Evp.of_eq (fun k => wiener_Plane.p245905991127868 k ..) ?_)
    refine Evp.dec (fun h => absurd h (by omega)) fun _ => ?_
    rw [w64 (by omega)]
    exact Evp.ret (hnext rs M st fun p hp => by rw [hr p hp, if_pos hp])
  | succ q ih =>
    intro j rs M hq hj st hr hk
    have hS' : RdI M .i64 S av := by
      by_cases he : av = []
      · rw [he] at hal; simp at hal; omega
      · refine Rd.keep (A' := some c.ar) hS (fun b x hx hne => hk b x hx fun e => hne c.ar rfl e.symm) fun a a' ha ha' => ?_
        injection ha' with ha'; subst ha'
        exact fun e => hSb a ha he e.symm
    have hg := hb j (by omega)
    have er := hr j (by omega)
    rw [if_neg (by omega)] at er
    have ln := st.len
    refine Run.cut (Evp.of_eq (fun k => wiener_Plane.p245905991127868 k ..) ?_)
    refine Evp.dec (fun _ => ?_) fun h => absurd h (by omega)
    refine Evp.pos (by omega) ?_
    simp only [Int.toNat_natCast]
    refine Evp.ldI hS' (by omega) fun _ _ => ?_
    refine Evp.pos (by omega) (Evp.ldI st.room.rdI (by omega) fun _ _ => ?_)
    refine Evp.pos (by omega) (Evp.some rfl ?_)
    rw [er, w64 (x := vi * av.getD j 0) (by omega), w64 (x := G j + vi * av.getD j 0) (by omega)]
    obtain ⟨M', g1, g2, g3, g4, g5⟩ := st.room.st (lo := lo) (i := j) (vs := [.int .i64 (G j + vi * av.getD j 0)]) st.pre o.hlo (by simp; omega)
    refine Evp.some g1 ?_
    rw [setL_one, set_map] at g2
    rw [w64 (by omega)]
    refine Evp.ret (ih (j + 1) _ M' (by omega) (by omega) ⟨g3, st.out.keep g4 (fun a ha => by injection ha with ha; subst ha; exact fun e => o.hne e.symm), g2, by simpa using ln⟩ (fun p hp => ?_) fun b x hx hne => g4 b x (hk b x hx hne) fun a ha => by injection ha with ha; subst ha; exact fun e => hne e.symm)
    rw [getD_set (by omega)]
    by_cases e : p = j
    · rw [if_pos e, e, if_pos (by omega)]
    · rw [if_neg e, hr p hp]
      by_cases g : p < j
      · rw [if_pos g, if_pos (by omega)]
      · rw [if_neg g, if_neg (by omega)]
/-- The last loop of a unit: its samples are put. -/
theorem put_loop (y k f t : Nat) (hy : y < c.h) (hft : f ≤ t) (ht2 : t - f ≤ c.side) (htw : t ≤ c.w) (rs : List Int) (hv : ∀ j, j < t - f → -100000000 ≤ rs.getD j 0 ∧ rs.getD j 0 ≤ 100000000 ∧ clipS ((rs.getD j 0 + 1024) / 2048) 0 255 = tgtW c.us c.xs c.bs c.w c.h c.side (y * c.w + (f + j)))
    (hnext : ∀ zs rs M, St2 c M0 M zs rs → InvW c.us c.xs c.bs c.w c.h c.side (y * c.w + t) zs → Run P T lo F.wiener_Plane (cNext c y k M) Q) :
    ∀ (q j : Nat) (zs : List Int) (M : Mem), t - f - j = q → j ≤ t - f → St2 c M0 M zs rs → InvW c.us c.xs c.bs c.w c.h c.side (y * c.w + (f + j)) zs → Run P T lo F.wiener_Plane (cPut c y k f t j M) Q := by
  have hs' : c.side = 64 ∨ c.side = 32 := o.hs
  have sm : c.h * c.w ≤ 512 * 512 := Nat.mul_le_mul o.hh.2 o.hw.2
  intro q
  induction q with
  | zero =>
    intro j zs M hq hj st hinv
    obtain rfl : j = t - f := by omega
    refine Run.cut (Evp.of_eq (fun k => wiener_Plane.p240142569468 k ..) ?_)
    refine Evp.dec (fun h => absurd h (by omega)) fun _ => ?_
    refine Evp.ret (hnext zs rs M st ?_)
    rwa [show f + (t - f) = t by omega] at hinv
  | succ q ih =>
    intro j zs M hq hj st hinv
    have ln := st.len
    have hlt := row_lt (c := f + j) hy (show f + j < c.w by omega)
    obtain ⟨b1, b2, b3⟩ := hv j (by omega)
    have tl := tgtW_le (us := c.us) (bs := c.bs) (w := c.w) (h := c.h) (side := c.side) (p := y * c.w + (f + j)) o.bx
    refine Run.cut (Evp.of_eq (fun k => wiener_Plane.p240142569468 k ..) ?_)
    refine Evp.dec (fun _ => ?_) fun h => absurd h (by omega)
    refine Evp.pos (by omega) ?_
    simp only [Int.toNat_natCast]
    refine Evp.ldI st.room.rdI (by omega) fun _ _ => ?_
    refine Evp.ob (round11 _ _ _ (by omega)) ?_
    rintro _ rfl
    simp only [ret_int, ret_bool, ret_flt, ret_slc, ret_str, ret_ptr, ret_agg, ret_tup, ob_some, bb_true, bb_false, List.getElem?_cons_zero, List.getElem?_cons_succ, List.length_cons, List.length_nil, Nat.reduceAdd, Nat.reduceLT]
    refine Evp.ob (wclip_ok _ _ _ _ _ (by omega)) ?_
    rintro _ rfl
    simp only [ret_int, ret_bool, ret_flt, ret_slc, ret_str, ret_ptr, ret_agg, ret_tup, ob_some, bb_true, bb_false, List.getElem?_cons_zero, List.getElem?_cons_succ, List.length_cons, List.length_nil, Nat.reduceAdd, Nat.reduceLT]
    have ep : IntKind.i64.wrap ((IntKind.i64.wrap ((IntKind.i64.wrap ((y : Int) * c.w)) + (f : Int))) + (j : Int)) = ((y * c.w + (f + j) : Nat) : Int) := by
      rw [← Int.natCast_mul, w64 (x := ((y * c.w : Nat) : Int)) (by omega), w64 (x := ((y * c.w : Nat) : Int) + (f : Int)) (by omega), w64 (by omega)]; omega
    rw [ep, b3, wu8 (by omega)]
    refine Evp.pos (pos_iN (by have := o.hn; omega)) (Evp.some rfl ?_)
    simp only [Int.toNat_natCast]
    obtain ⟨M', h1, h2, h3, h4, h5⟩ := st.out.st (lo := lo) (i := y * c.w + (f + j)) (vs := [.int .u8 (tgtW c.us c.xs c.bs c.w c.h c.side (y * c.w + (f + j)))]) st.pre o.hlo (by simp [hinv.1]; omega)
    refine Evp.some h1 ?_
    rw [setL_one, set_map] at h2
    rw [w64 (by omega)]
    exact Evp.ret (ih (j + 1) _ M' (by omega) (by omega) ⟨h3, h2, st.room.keep h4 (fun a ha => by injection ha with ha; subst ha; exact o.hne), ln⟩ (hinv.set hlt))
end
end Go.Zt
