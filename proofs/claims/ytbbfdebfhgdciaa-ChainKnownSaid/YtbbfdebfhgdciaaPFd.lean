/- What the law ChainKnown needs of the text Fd. -/
import Derived.Test.YtbbfdebfhgdciaaPFc
set_option linter.unusedVariables false
set_option linter.unusedSimpArgs false
set_option maxRecDepth 100000
namespace Go.Zt
theorem samp_byte {w h : Nat} {xs T : List Int} {x y p : Int} (bx : Bytes xs) (hT : TapB T) : 0 ≤ sampS w h xs x y p T ∧ sampS w h xs x y p T ≤ 255 := by
  have b : 0 ≤ atP w xs x y ∧ atP w xs x y ≤ 255 := bx.get _
  have o := out_le (v := atP w xs x y) (fold_b (w := w) (h := h) bx (x := x) (y := y) (p := p) hT b 6 (by omega))
  unfold sampS
  omega
theorem layE_bytes {w x y rw rh i : Nat} {xs bs : List Int} (bx : Bytes xs) (bb : Bytes bs) : Bytes (layE w xs bs x y rw rh i) := fun z hz => by
  unfold layE at hz
  obtain ⟨q, _, rfl⟩ := List.mem_map.1 hz
  split
  · exact bb.get _
  · exact bx.get _
theorem newS_bytes {p : Plv} {o : List Int} (bp : Bytes p.xs) (bo : Bytes o) {X Y S d pri sec : Nat} {damp : Int} (hd : d < 8) : Bytes (newS p o X Y S d pri sec damp) :=
  layE_bytes bo fun z hz => by
    unfold blockS at hz
    obtain ⟨i, _, rfl⟩ := List.mem_map.1 hz
    exact samp_byte bp (tapsS_b hd)
theorem newN_bytes {f : Fr3} (hb : ∀ n, n < 3 → Bytes (f.at n).xs) {damp : Int} {X Y : Nat} {a b c d : Int} {n : Nat} (hn : n < 3) {o : List Int} (bo : Bytes o) : Bytes (newN f damp X Y a b c d n o) := by
  have h8 : bestD (cut8 f X Y) 8 < 8 := by have := bestD_lt (cut8 f X Y) 8; omega
  unfold newN
  split
  · exact newS_bytes (hb 0 (by omega)) bo (by split <;> omega)
  · exact newS_bytes (hb n hn) bo (by split <;> omega)
theorem foldF_bytes {f : Fr3} (hb : ∀ n, n < 3 → Bytes (f.at n).xs) (qs : List Bool) (ws L : List Int) (damp : Int) {n : Nat} (hn : n < 3) : ∀ i, Bytes (foldF f qs ws L damp i n)
  | 0 => hb n hn
  | i + 1 => by
    rw [foldF]
    split
    · exact foldF_bytes hb qs ws L damp hn i
    · exact newN_bytes hb hn (foldF_bytes hb qs ws L damp hn i)
theorem outF_bytes {f : Fr3} (hb : ∀ n, n < 3 → Bytes (f.at n).xs) (qs : List Bool) (ws : List Int) (hd : Hd) (L : List Int) {n : Nat} (hn : n < 3) : Bytes (outF f qs ws hd L n) := by
  unfold outF
  split
  · exact foldF_bytes hb qs ws L hd.damp hn _
  · exact hb n hn
structure MapV where
  w : Int
  h : Int
  AT : Option Addr
  tx : List Int
  ct : Nat
  AI : Option Addr
  ids : List Int
  ci : Nat
  AQ : Option Addr
  qs : List Bool
  cq : Nat
abbrev MapV.cells (m : MapV) : List Value := [.int .i64 m.w, .int .i64 m.h, .slice m.AT m.tx.length m.ct, .slice m.AI m.ids.length m.ci, .slice m.AQ m.qs.length m.cq]
structure MapOk (M : Mem) (m : MapV) : Prop where
  rt : RdI M .u8 m.AT m.tx
  ri : RdI M .i64 m.AI m.ids
  rq : RdB M m.AQ m.qs
  nt : m.tx.length ≤ 140737488351232
theorem MapOk.pre {M M' : Mem} {m : MapV} (h : MapOk M m) (hp : Pre M M') : MapOk M' m := ⟨h.rt.pre hp, h.ri.pre hp, h.rq.pre hp, h.nt⟩
structure UnV where
  A : Option Addr
  us : List Un
  c : Nat
structure UnOk (M : Mem) (u : UnV) : Prop where
  rd : RdU M u.A u.us
  wf : ∀ x ∈ u.us, x.wf
  n : u.us.length ≤ 140737488351232
theorem UnOk.pre {M M' : Mem} {u : UnV} (h : UnOk M u) (hp : Pre M M') : UnOk M' u := ⟨h.rd.pre hp, h.wf, h.n⟩
structure SideV where
  m0 : MapV
  m1 : MapV
  m2 : MapV
  Q : Option Addr
  qs : List Bool
  qc : Nat
  V : Option Addr
  ws : List Int
  vc : Nat
  u0 : UnV
  u1 : UnV
  u2 : UnV
abbrev SideV.cells (s : SideV) : List Value := [.int .i64 s.m0.w, .int .i64 s.m0.h, .slice s.m0.AT s.m0.tx.length s.m0.ct, .slice s.m0.AI s.m0.ids.length s.m0.ci, .slice s.m0.AQ s.m0.qs.length s.m0.cq, .int .i64 s.m1.w, .int .i64 s.m1.h, .slice s.m1.AT s.m1.tx.length s.m1.ct, .slice s.m1.AI s.m1.ids.length s.m1.ci, .slice s.m1.AQ s.m1.qs.length s.m1.cq, .int .i64 s.m2.w, .int .i64 s.m2.h, .slice s.m2.AT s.m2.tx.length s.m2.ct, .slice s.m2.AI s.m2.ids.length s.m2.ci, .slice s.m2.AQ s.m2.qs.length s.m2.cq, .slice s.Q s.qs.length s.qc, .slice s.V s.ws.length s.vc, .slice s.u0.A s.u0.us.length s.u0.c, .slice s.u1.A s.u1.us.length s.u1.c, .slice s.u2.A s.u2.us.length s.u2.c]
def SideV.map (s : SideV) (n : Nat) : MapV := match n with | 0 => s.m0 | 1 => s.m1 | _ => s.m2
def SideV.un (s : SideV) (n : Nat) : UnV := match n with | 0 => s.u0 | 1 => s.u1 | _ => s.u2
structure SideOk (M : Mem) (s : SideV) : Prop where
  m : ∀ n, MapOk M (s.map n)
  q : RdB M s.Q s.qs
  v : RdI M .i64 s.V s.ws
  nv : s.ws.length ≤ 17592186043904
  u : ∀ n, UnOk M (s.un n)
theorem SideOk.pre {M M' : Mem} {s : SideV} (h : SideOk M s) (hp : Pre M M') : SideOk M' s := ⟨fun n => (h.m n).pre hp, h.q.pre hp, h.v.pre hp, h.nv, fun n => (h.u n).pre hp⟩
def lv1 (hd : Hd) (n : Nat) : Int := match n with | 0 => hd.h18 | 1 => hd.h20 | _ => hd.h21
def lv2 (hd : Hd) (n : Nat) : Int := match n with | 0 => hd.h19 | 1 => hd.h20 | _ => hd.h21
def colB (n : Nat) : Bool := match n with | 0 => false | _ => true
def rest (hd : Hd) (n : Nat) : Bool := match n with | 0 => hd.h27 | 1 => hd.h28 | _ => hd.h29
def sideN (n : Nat) : Nat := match n with | 0 => 64 | _ => 32
abbrev mOf (m : MapV) (up : Bool) (n : Nat) (level sharp : Int) : Cells := ⟨m.w.toNat, up, colB n, m.tx, m.ids, m.qs, level, sharp⟩
def PassP (p : Plv) (m : MapV) (level sharp : Int) : Prop := PassOk p.w p.h p.xs.length m.w m.h m.tx m.ids.length m.qs.length level sharp
def up1 (p : Plv) (m : MapV) (n : Nat) (hd : Hd) : List Int := (mOf m true n (lv1 hd n) hd.h22).passS p.w.toNat p.h.toNat p.xs m.tx.length
def ly2 (p : Plv) (m : MapV) (n : Nat) (hd : Hd) : List Int := (mOf m false n (lv2 hd n) hd.h22).passS p.w.toNat p.h.toNat (up1 p m n hd) m.tx.length
theorem up1_len (p : Plv) (m : MapV) (n : Nat) (hd : Hd) : (up1 p m n hd).length = p.xs.length := Cells.passS_len ..
theorem ly2_len (p : Plv) (m : MapV) (n : Nat) (hd : Hd) : (ly2 p m n hd).length = p.xs.length := (Cells.passS_len ..).trans (up1_len ..)
theorem up1_bytes {p : Plv} (b : Bytes p.xs) (m : MapV) (n : Nat) (hd : Hd) : Bytes (up1 p m n hd) := Cells.passS_bytes _ _ _ b _
theorem ly2_bytes {p : Plv} (b : Bytes p.xs) (m : MapV) (n : Nat) (hd : Hd) : Bytes (ly2 p m n hd) := Cells.passS_bytes _ _ _ (up1_bytes b m n hd) _
abbrev frD (f : Fr3) (g : Nat → List Int) : Fr3 := ⟨⟨f.p0.w, f.p0.h, none, 0, g 0⟩, ⟨f.p1.w, f.p1.h, none, 0, g 1⟩, ⟨f.p2.w, f.p2.h, none, 0, g 2⟩⟩
def g1 (f : Fr3) (s : SideV) (hd : Hd) (n : Nat) : List Int := ly2 (f.at n) (s.map n) n hd
def g2 (f : Fr3) (s : SideV) (hd : Hd) (L : List Int) (n : Nat) : List Int := outF (frD f (g1 f s hd)) s.qs s.ws hd L n
noncomputable def g3 (f : Fr3) (s : SideV) (hd : Hd) (L : List Int) (n : Nat) : List Int := if rest hd n = true then outW (s.un n).us (g2 f s hd L n) (g1 f s hd n) (f.at n).w.toNat (f.at n).h.toNat (sideN n) else g2 f s hd L n
def PassesP (f : Fr3) (s : SideV) (hd : Hd) : Prop := ∀ n, n < 3 → PassP (f.at n) (s.map n) (lv1 hd n) hd.h22 ∧ PassP (f.at n) (s.map n) (lv2 hd n) hd.h22
def RestP (f : Fr3) (s : SideV) (hd : Hd) : Prop := ∀ n, n < 3 → rest hd n = true → PlaneOk (s.un n).us (f.at n).w (f.at n).h (f.at n).xs.length (f.at n).w (f.at n).h (f.at n).xs.length (sideN n)
def DirP (f : Fr3) (s : SideV) (hd : Hd) (L : List Int) : Prop := cd_MayP f s.qs.length s.ws hd L
abbrev boxL (f e : Fr3) (hd : Hd) (s : SideV) : List Value := f.cells ++ (e.cells ++ (hd.cells ++ s.cells))
section
variable {M : Mem} {b : Nat} {l : List Value}
theorem ldk (h : M[b]? = some ⟨.fx, l⟩) {a : Addr} (i : Nat) (ha : a = ⟨b, i, none⟩) : M.ld a = l[i]? := by rw [ha]; exact fx_ld h i
theorem ld_int {k : IntKind} {a : Addr} {i : Nat} {x : Int} (h : M[b]? = some ⟨.fx, l⟩) (ha : a = ⟨b, i, none⟩) (hl : l[i]? = some (.int k x)) : (M.ld a).bind (Value.int? k) = some x := by rw [ldk h i ha, hl]; simp [Value.int?]
theorem ld_bool {a : Addr} {i : Nat} {x : Bool} (h : M[b]? = some ⟨.fx, l⟩) (ha : a = ⟨b, i, none⟩) (hl : l[i]? = some (.bool x)) : (M.ld a).bind Value.bool? = some x := by rw [ldk h i ha, hl]; rfl
theorem ld_slc {a : Addr} {i : Nat} {A : Option Addr} {n c : Nat} (h : M[b]? = some ⟨.fx, l⟩) (ha : a = ⟨b, i, none⟩) (hl : l[i]? = some (.slice A n c)) : (M.ld a).bind Value.slc? = some ⟨A, n, c⟩ := by rw [ldk h i ha, hl]; rfl
end
structure PlS (M : Mem) (b : Nat) (p : Plv) : Prop where
  rd : RdI M .u8 p.A p.xs
  by_ : Bytes p.xs
  cap : p.xs.length ≤ p.c
  ne : ∀ a, p.A = some a → a.block ≠ b
theorem Rd.keepB {M M' : Mem} {A : Option Addr} {n z b : Nat} {vs : List Value} (h : Rd M A n z vs) (hne : ∀ a, A = some a → a.block ≠ b) (hk : KeepB b M M') : Rd M' A n z vs := by
  refine ⟨h.1, ?_⟩
  have := h.2
  unfold Mem.src at this ⊢
  split
  · rename_i a
    simp only at this
    split
    · rename_i h0; rw [if_pos h0] at this; exact this
    · rename_i h0
      rw [if_neg h0] at this
      have hb := (lds_len this).2
      have e : M'[a.block]? = M[a.block]? := by rw [List.getElem?_eq_getElem hb]; exact hk _ _ (List.getElem?_eq_getElem hb) (hne a rfl)
      unfold Mem.lds at this ⊢
      rw [e]; exact this
  · exact this
theorem PlS.keepB {M M' : Mem} {b : Nat} {p : Plv} (h : PlS M b p) (hk : KeepB b M M') : PlS M' b p := ⟨Rd.keepB h.rd h.ne hk, h.by_, h.cap, h.ne⟩
def FrS (M : Mem) (b : Nat) (f : Fr3) : Prop := ∀ n, n < 3 → PlS M b (f.at n)
theorem FrS.keepB {M M' : Mem} {b : Nat} {f : Fr3} (h : FrS M b f) (hk : KeepB b M M') : FrS M' b f := fun n hn => (h n hn).keepB hk
theorem FrS.in_ {M : Mem} {b : Nat} {f : Fr3} (h : FrS M b f) : FrIn M f := ⟨fun n hn => (h n hn).rd, fun n hn => (h n hn).by_, fun n hn => (h n hn).cap⟩
def Fr3.set (f : Fr3) (n : Nat) (p : Plv) : Fr3 := match n with | 0 => ⟨p, f.p1, f.p2⟩ | 1 => ⟨f.p0, p, f.p2⟩ | _ => ⟨f.p0, f.p1, p⟩
theorem pass_okn (lo : Nat) (w h mw mh : Int) (m : Cells) (A AT AI AQ : Option Addr) (c ct ci cq n : Nat) (xs : List Int) (M : Mem) (hlo : lo ≤ M.length) (hx : RdI M .u8 A xs) (bx : Bytes xs) (hn : xs.length ≤ 140737488351232)
    (rt : RdI M .u8 AT m.tx) (ri : RdI M .i64 AI m.ids) (rq : RdB M AQ m.qs) (hnt : m.tx.length ≤ 140737488351232) (hm : m.mw = mw.toNat) (e : n = xs.length) :
    Ac P T lo F.deblock_Pass [.agg ⟨[.int .i64 w, .int .i64 h, .slice A n c]⟩, .agg ⟨[.int .i64 mw, .int .i64 mh, .slice AT m.tx.length ct, .slice AI m.ids.length ci, .slice AQ m.qs.length cq]⟩, .bool m.up, .bool m.col, .int .i64 m.level, .int .i64 m.sharp] M (PassR M w h xs m mw mh) := by
  subst e
  exact pass_ok lo w h mw mh m A AT AI AQ c ct ci cq xs M hlo hx bx hn rt ri rq hnt hm
section
variable (lo : Nat) (b : Nat) (f e : Fr3) (hd : Hd) (s : SideV) (Mi : Mem)
variable (hlo : lo ≤ Mi.length) (hb : Mi.length ≤ b) (hs : SideOk Mi s)
include hlo hb hs
theorem two_passes (G : Fr3) (n : Nat) (hn : n < 3) (M : Mem) (hp : Pre Mi M) (hbox : M[b]? = some ⟨.fx, boxL f e hd s⟩) (hG : PlS M b (G.at n)) (hx : (G.at n).xs.length ≤ 262144) {Q : Value × Mem → Prop}
    (hbad : ∀ M', KeepB b M M' → M'[b]? = some ⟨.fx, boxL f e hd s⟩ → ¬ (PassP (G.at n) (s.map n) (lv1 hd n) hd.h22 ∧ PassP (G.at n) (s.map n) (lv2 hd n) hd.h22) → Q (.int .i64 2, M'))
    (hok : ∀ M' a cc, PassP (G.at n) (s.map n) (lv1 hd n) hd.h22 → PassP (G.at n) (s.map n) (lv2 hd n) hd.h22 → KeepB b M M' → M.length ≤ M'.length → Buf M M' a ((ly2 (G.at n) (s.map n) n hd).map (Value.int .u8)) → (G.at n).xs.length ≤ cc →
      M'[b]? = some ⟨.fx, boxL (f.set n ⟨(G.at n).w, (G.at n).h, some a, cc, ly2 (G.at n) (s.map n) n hd⟩) e hd s⟩ →
      Run P T lo F.chain_run_passes (chain_run_passes.c244 ⟨b, 0, none⟩ G.p0.w G.p0.h G.p0.A G.p0.xs.length G.p0.c G.p1.w G.p1.h G.p1.A G.p1.xs.length G.p1.c G.p2.w G.p2.h G.p2.A G.p2.xs.length G.p2.c (IntKind.i64.wrap ((n : Int) + 1)) hd.h18 hd.h19 hd.h20 hd.h20 hd.h21 hd.h21 M') Q) :
    Run P T lo F.chain_run_passes (chain_run_passes.c244 ⟨b, 0, none⟩ G.p0.w G.p0.h G.p0.A G.p0.xs.length G.p0.c G.p1.w G.p1.h G.p1.A G.p1.xs.length G.p1.c G.p2.w G.p2.h G.p2.A G.p2.xs.length G.p2.c (n : Int) hd.h18 hd.h19 hd.h20 hd.h20 hd.h21 hd.h21 M) Q := by
  have hin := lt_of_get hbox
  have l0 := hp.len
  have p1 : Pre M (M ++ [⟨.fx, [.bool true, .bool false]⟩] : Mem) := Pre.app _ _
  have l1 : (M ++ [⟨.fx, [.bool true, .bool false]⟩] : Mem).length = M.length + 1 := by simp
  have hbox1 := p1 _ _ hbox
  have hbb := push_self M ⟨.fx, [.bool true, .bool false]⟩
  obtain ⟨M1, hM1⟩ : ∃ M1 : Mem, M1 = (M ++ [⟨.fx, [.bool true, .bool false]⟩] : Mem) := ⟨_, rfl⟩
  have hm := (hs.m n).pre (hp.trans p1)
  have hG1 := hG.keepB (p1.keepB b)
  rcases lt3 hn with rfl | rfl | rfl
  · refine Run.cut (Evp.of_eq (fun k => chain_run_passes.p244 k ..) ?_)
    refine Evp.dec (fun _ => ?_) fun h => absurd h (by decide)
    refine Evp.pos (by decide) (Evp.some rfl (Evp.some rfl (Evp.some rfl (Evp.ret ?_))))
    rw [← hM1] at hbox1 hbb hm hG1 p1 l1 ⊢
    refine Run.cut (Evp.of_eq (fun k => chain_run_passes.p125332 k ..) ?_)
    refine Evp.dec (fun _ => ?_) fun h => absurd h (by decide)
    refine Evp.pos (by decide) (Evp.some rfl (Evp.some (ld_bool hbb rfl rfl) (Evp.pos (by decide) ?_)))
    refine Evp.some (ld_int hbox1 rfl rfl) (Evp.some (ld_int hbox1 rfl rfl) (Evp.some (ld_slc hbox1 rfl rfl) (Evp.some (ld_slc hbox1 rfl rfl) (Evp.some (ld_slc hbox1 rfl rfl) ?_))))
    refine Evp.pos (by decide) (Evp.pos (by decide) (Evp.some rfl (Evp.some (ld_int hbox1 rfl rfl) ?_)))
    refine Evp.ob (pass_okn lo (G.at 0).w (G.at 0).h (s.map 0).w (s.map 0).h (mOf (s.map 0) true 0 (lv1 hd 0) hd.h22) (G.at 0).A (s.map 0).AT (s.map 0).AI (s.map 0).AQ (G.at 0).c (s.map 0).ct (s.map 0).ci (s.map 0).cq _ (G.at 0).xs M1 (by omega) hG1.rd hG1.by_ (by omega) hm.rt hm.ri hm.rq hm.nt rfl rfl) ?_
    rintro ⟨v, M2⟩ hr
    by_cases k1 : PassP (G.at 0) (s.map 0) (lv1 hd 0) hd.h22
    · obtain ⟨a, cc, rfl, p2, hcc, b2⟩ := hr.got k1
      simp only [ret_int, ret_bool, ret_flt, ret_slc, ret_str, ret_ptr, ret_agg, ret_tup, ob_some, bb_true, bb_false, List.getElem?_cons_zero, List.getElem?_cons_succ, List.length_cons, List.length_nil, Nat.reduceAdd, Nat.reduceLT]
      refine Evp.ff rfl (Evp.ret ?_)
      rw [show IntKind.i64.wrap (0 + 1) = 1 from by decide]
      have l2 := p2.len
      have hbox2 := p2 _ _ hbox1
      have hbb2 := p2 _ _ hbb
      refine Run.cut (Evp.of_eq (fun k => chain_run_passes.p125332 k ..) ?_)
      refine Evp.dec (fun _ => ?_) fun h => absurd h (by decide)
      refine Evp.pos (by decide) (Evp.some rfl (Evp.some (ld_bool hbb2 rfl rfl) (Evp.pos (by decide) ?_)))
      refine Evp.some (ld_int hbox2 rfl rfl) (Evp.some (ld_int hbox2 rfl rfl) (Evp.some (ld_slc hbox2 rfl rfl) (Evp.some (ld_slc hbox2 rfl rfl) (Evp.some (ld_slc hbox2 rfl rfl) ?_))))
      refine Evp.pos (by decide) (Evp.pos (by decide) (Evp.some rfl (Evp.some (ld_int hbox2 rfl rfl) ?_)))
      have hm2 := hm.pre p2
      refine Evp.ob (pass_okn lo (G.at 0).w (G.at 0).h (s.map 0).w (s.map 0).h (mOf (s.map 0) false 0 (lv2 hd 0) hd.h22) (some a) (s.map 0).AT (s.map 0).AI (s.map 0).AQ cc (s.map 0).ct (s.map 0).ci (s.map 0).cq _ (up1 (G.at 0) (s.map 0) 0 hd) M2 (by omega) b2.rdI (up1_bytes hG.by_ _ _ _) (by rw [up1_len]; omega) hm2.rt hm2.ri hm2.rq hm2.nt rfl (up1_len ..).symm) ?_
      rintro ⟨v, M3⟩ hr
      by_cases k2 : PassP (G.at 0) (s.map 0) (lv2 hd 0) hd.h22
      · obtain ⟨a', cc', rfl, p3, hcc', b3⟩ := hr.got (by rw [up1_len]; exact k2)
        simp only [ret_int, ret_bool, ret_flt, ret_slc, ret_str, ret_ptr, ret_agg, ret_tup, ob_some, bb_true, bb_false, List.getElem?_cons_zero, List.getElem?_cons_succ, List.length_cons, List.length_nil, Nat.reduceAdd, Nat.reduceLT]
        refine Evp.ff rfl (Evp.ret ?_)
        rw [show IntKind.i64.wrap (1 + 1) = 2 from by decide]
        have l3 := p3.len
        have hbox3 := p3 _ _ hbox2
        refine Run.cut (Evp.of_eq (fun k => chain_run_passes.p125332 k ..) ?_)
        refine Evp.dec (fun h => absurd h (by decide)) fun _ => ?_
        refine Evp.pos (by decide) (Evp.some (fx_sts hbox3 (by omega) (Nat.le_of_ble_eq_true rfl)) (Evp.ret ?_))
        have n2 := b2.new
        have n3 := b3.new
        rw [show (up1 (G.at 0) (s.map 0) 0 hd).length = (ly2 (G.at 0) (s.map 0) 0 hd).length from (up1_len ..).trans (ly2_len ..).symm]
        refine hok _ a' cc' k1 k2 ((((p1.trans p2).trans p3).keepB b).trans (KeepB.set _ _ _)) (by simp; omega) ?_ (by rw [up1_len] at hcc'; exact hcc') (set_self (by omega))
        refine (b3.floor (M0 := M) (by omega)).keep (A := some ⟨b, 0, none⟩) (fun i x hx hne => by rw [List.getElem?_set_ne (hne _ rfl)]; exact hx) fun a0 e => by injection e with e; subst e; show b ≠ _; omega
      · obtain ⟨rfl, p3⟩ := hr.not (by rw [up1_len]; exact k2)
        simp only [ret_int, ret_bool, ret_flt, ret_slc, ret_str, ret_ptr, ret_agg, ret_tup, ob_some, bb_true, bb_false, List.getElem?_cons_zero, List.getElem?_cons_succ, List.length_cons, List.length_nil, Nat.reduceAdd, Nat.reduceLT]
        exact Evp.tt rfl (Evp.ret (Run.ret (hbad _ (((p1.trans p2).trans p3).keepB b) (p3 _ _ hbox2) fun e => k2 e.2)))
    · obtain ⟨rfl, p2⟩ := hr.not k1
      simp only [ret_int, ret_bool, ret_flt, ret_slc, ret_str, ret_ptr, ret_agg, ret_tup, ob_some, bb_true, bb_false, List.getElem?_cons_zero, List.getElem?_cons_succ, List.length_cons, List.length_nil, Nat.reduceAdd, Nat.reduceLT]
      exact Evp.tt rfl (Evp.ret (Run.ret (hbad _ ((p1.trans p2).keepB b) (p2 _ _ hbox1) fun e => k1 e.1)))
  · refine Run.cut (Evp.of_eq (fun k => chain_run_passes.p244 k ..) ?_)
    refine Evp.dec (fun _ => ?_) fun h => absurd h (by decide)
    refine Evp.pos (by decide) (Evp.some rfl (Evp.some rfl (Evp.some rfl (Evp.ret ?_))))
    rw [← hM1] at hbox1 hbb hm hG1 p1 l1 ⊢
    refine Run.cut (Evp.of_eq (fun k => chain_run_passes.p125332 k ..) ?_)
    refine Evp.dec (fun _ => ?_) fun h => absurd h (by decide)
    refine Evp.pos (by decide) (Evp.some rfl (Evp.some (ld_bool hbb rfl rfl) (Evp.pos (by decide) ?_)))
    refine Evp.some (ld_int hbox1 rfl rfl) (Evp.some (ld_int hbox1 rfl rfl) (Evp.some (ld_slc hbox1 rfl rfl) (Evp.some (ld_slc hbox1 rfl rfl) (Evp.some (ld_slc hbox1 rfl rfl) ?_))))
    refine Evp.pos (by decide) (Evp.pos (by decide) (Evp.some rfl (Evp.some (ld_int hbox1 rfl rfl) ?_)))
    refine Evp.ob (pass_okn lo (G.at 1).w (G.at 1).h (s.map 1).w (s.map 1).h (mOf (s.map 1) true 1 (lv1 hd 1) hd.h22) (G.at 1).A (s.map 1).AT (s.map 1).AI (s.map 1).AQ (G.at 1).c (s.map 1).ct (s.map 1).ci (s.map 1).cq _ (G.at 1).xs M1 (by omega) hG1.rd hG1.by_ (by omega) hm.rt hm.ri hm.rq hm.nt rfl rfl) ?_
    rintro ⟨v, M2⟩ hr
    by_cases k1 : PassP (G.at 1) (s.map 1) (lv1 hd 1) hd.h22
    · obtain ⟨a, cc, rfl, p2, hcc, b2⟩ := hr.got k1
      simp only [ret_int, ret_bool, ret_flt, ret_slc, ret_str, ret_ptr, ret_agg, ret_tup, ob_some, bb_true, bb_false, List.getElem?_cons_zero, List.getElem?_cons_succ, List.length_cons, List.length_nil, Nat.reduceAdd, Nat.reduceLT]
      refine Evp.ff rfl (Evp.ret ?_)
      rw [show IntKind.i64.wrap (0 + 1) = 1 from by decide]
      have l2 := p2.len
      have hbox2 := p2 _ _ hbox1
      have hbb2 := p2 _ _ hbb
      refine Run.cut (Evp.of_eq (fun k => chain_run_passes.p125332 k ..) ?_)
      refine Evp.dec (fun _ => ?_) fun h => absurd h (by decide)
      refine Evp.pos (by decide) (Evp.some rfl (Evp.some (ld_bool hbb2 rfl rfl) (Evp.pos (by decide) ?_)))
      refine Evp.some (ld_int hbox2 rfl rfl) (Evp.some (ld_int hbox2 rfl rfl) (Evp.some (ld_slc hbox2 rfl rfl) (Evp.some (ld_slc hbox2 rfl rfl) (Evp.some (ld_slc hbox2 rfl rfl) ?_))))
      refine Evp.pos (by decide) (Evp.pos (by decide) (Evp.some rfl (Evp.some (ld_int hbox2 rfl rfl) ?_)))
      have hm2 := hm.pre p2
      refine Evp.ob (pass_okn lo (G.at 1).w (G.at 1).h (s.map 1).w (s.map 1).h (mOf (s.map 1) false 1 (lv2 hd 1) hd.h22) (some a) (s.map 1).AT (s.map 1).AI (s.map 1).AQ cc (s.map 1).ct (s.map 1).ci (s.map 1).cq _ (up1 (G.at 1) (s.map 1) 1 hd) M2 (by omega) b2.rdI (up1_bytes hG.by_ _ _ _) (by rw [up1_len]; omega) hm2.rt hm2.ri hm2.rq hm2.nt rfl (up1_len ..).symm) ?_
      rintro ⟨v, M3⟩ hr
      by_cases k2 : PassP (G.at 1) (s.map 1) (lv2 hd 1) hd.h22
      · obtain ⟨a', cc', rfl, p3, hcc', b3⟩ := hr.got (by rw [up1_len]; exact k2)
        simp only [ret_int, ret_bool, ret_flt, ret_slc, ret_str, ret_ptr, ret_agg, ret_tup, ob_some, bb_true, bb_false, List.getElem?_cons_zero, List.getElem?_cons_succ, List.length_cons, List.length_nil, Nat.reduceAdd, Nat.reduceLT]
        refine Evp.ff rfl (Evp.ret ?_)
        rw [show IntKind.i64.wrap (1 + 1) = 2 from by decide]
        have l3 := p3.len
        have hbox3 := p3 _ _ hbox2
        refine Run.cut (Evp.of_eq (fun k => chain_run_passes.p125332 k ..) ?_)
        refine Evp.dec (fun h => absurd h (by decide)) fun _ => ?_
        refine Evp.pos (by decide) (Evp.some (fx_sts hbox3 (by omega) (Nat.le_of_ble_eq_true rfl)) (Evp.ret ?_))
        have n2 := b2.new
        have n3 := b3.new
        rw [show (up1 (G.at 1) (s.map 1) 1 hd).length = (ly2 (G.at 1) (s.map 1) 1 hd).length from (up1_len ..).trans (ly2_len ..).symm]
        refine hok _ a' cc' k1 k2 ((((p1.trans p2).trans p3).keepB b).trans (KeepB.set _ _ _)) (by simp; omega) ?_ (by rw [up1_len] at hcc'; exact hcc') (set_self (by omega))
        refine (b3.floor (M0 := M) (by omega)).keep (A := some ⟨b, 0, none⟩) (fun i x hx hne => by rw [List.getElem?_set_ne (hne _ rfl)]; exact hx) fun a0 e => by injection e with e; subst e; show b ≠ _; omega
      · obtain ⟨rfl, p3⟩ := hr.not (by rw [up1_len]; exact k2)
        simp only [ret_int, ret_bool, ret_flt, ret_slc, ret_str, ret_ptr, ret_agg, ret_tup, ob_some, bb_true, bb_false, List.getElem?_cons_zero, List.getElem?_cons_succ, List.length_cons, List.length_nil, Nat.reduceAdd, Nat.reduceLT]
        exact Evp.tt rfl (Evp.ret (Run.ret (hbad _ (((p1.trans p2).trans p3).keepB b) (p3 _ _ hbox2) fun e => k2 e.2)))
    · obtain ⟨rfl, p2⟩ := hr.not k1
      simp only [ret_int, ret_bool, ret_flt, ret_slc, ret_str, ret_ptr, ret_agg, ret_tup, ob_some, bb_true, bb_false, List.getElem?_cons_zero, List.getElem?_cons_succ, List.length_cons, List.length_nil, Nat.reduceAdd, Nat.reduceLT]
      exact Evp.tt rfl (Evp.ret (Run.ret (hbad _ ((p1.trans p2).keepB b) (p2 _ _ hbox1) fun e => k1 e.1)))
  · refine Run.cut (Evp.of_eq (fun k => chain_run_passes.p244 k ..) ?_)
    refine Evp.dec (fun _ => ?_) fun h => absurd h (by decide)
    refine Evp.pos (by decide) (Evp.some rfl (Evp.some rfl (Evp.some rfl (Evp.ret ?_))))
    rw [← hM1] at hbox1 hbb hm hG1 p1 l1 ⊢
    refine Run.cut (Evp.of_eq (fun k => chain_run_passes.p125332 k ..) ?_)
    refine Evp.dec (fun _ => ?_) fun h => absurd h (by decide)
    refine Evp.pos (by decide) (Evp.some rfl (Evp.some (ld_bool hbb rfl rfl) (Evp.pos (by decide) ?_)))
    refine Evp.some (ld_int hbox1 rfl rfl) (Evp.some (ld_int hbox1 rfl rfl) (Evp.some (ld_slc hbox1 rfl rfl) (Evp.some (ld_slc hbox1 rfl rfl) (Evp.some (ld_slc hbox1 rfl rfl) ?_))))
    refine Evp.pos (by decide) (Evp.pos (by decide) (Evp.some rfl (Evp.some (ld_int hbox1 rfl rfl) ?_)))
    refine Evp.ob (pass_okn lo (G.at 2).w (G.at 2).h (s.map 2).w (s.map 2).h (mOf (s.map 2) true 2 (lv1 hd 2) hd.h22) (G.at 2).A (s.map 2).AT (s.map 2).AI (s.map 2).AQ (G.at 2).c (s.map 2).ct (s.map 2).ci (s.map 2).cq _ (G.at 2).xs M1 (by omega) hG1.rd hG1.by_ (by omega) hm.rt hm.ri hm.rq hm.nt rfl rfl) ?_
    rintro ⟨v, M2⟩ hr
    by_cases k1 : PassP (G.at 2) (s.map 2) (lv1 hd 2) hd.h22
    · obtain ⟨a, cc, rfl, p2, hcc, b2⟩ := hr.got k1
      simp only [ret_int, ret_bool, ret_flt, ret_slc, ret_str, ret_ptr, ret_agg, ret_tup, ob_some, bb_true, bb_false, List.getElem?_cons_zero, List.getElem?_cons_succ, List.length_cons, List.length_nil, Nat.reduceAdd, Nat.reduceLT]
      refine Evp.ff rfl (Evp.ret ?_)
      rw [show IntKind.i64.wrap (0 + 1) = 1 from by decide]
      have l2 := p2.len
      have hbox2 := p2 _ _ hbox1
      have hbb2 := p2 _ _ hbb
      refine Run.cut (Evp.of_eq (fun k => chain_run_passes.p125332 k ..) ?_)
      refine Evp.dec (fun _ => ?_) fun h => absurd h (by decide)
      refine Evp.pos (by decide) (Evp.some rfl (Evp.some (ld_bool hbb2 rfl rfl) (Evp.pos (by decide) ?_)))
      refine Evp.some (ld_int hbox2 rfl rfl) (Evp.some (ld_int hbox2 rfl rfl) (Evp.some (ld_slc hbox2 rfl rfl) (Evp.some (ld_slc hbox2 rfl rfl) (Evp.some (ld_slc hbox2 rfl rfl) ?_))))
      refine Evp.pos (by decide) (Evp.pos (by decide) (Evp.some rfl (Evp.some (ld_int hbox2 rfl rfl) ?_)))
      have hm2 := hm.pre p2
      refine Evp.ob (pass_okn lo (G.at 2).w (G.at 2).h (s.map 2).w (s.map 2).h (mOf (s.map 2) false 2 (lv2 hd 2) hd.h22) (some a) (s.map 2).AT (s.map 2).AI (s.map 2).AQ cc (s.map 2).ct (s.map 2).ci (s.map 2).cq _ (up1 (G.at 2) (s.map 2) 2 hd) M2 (by omega) b2.rdI (up1_bytes hG.by_ _ _ _) (by rw [up1_len]; omega) hm2.rt hm2.ri hm2.rq hm2.nt rfl (up1_len ..).symm) ?_
      rintro ⟨v, M3⟩ hr
      by_cases k2 : PassP (G.at 2) (s.map 2) (lv2 hd 2) hd.h22
      · obtain ⟨a', cc', rfl, p3, hcc', b3⟩ := hr.got (by rw [up1_len]; exact k2)
        simp only [ret_int, ret_bool, ret_flt, ret_slc, ret_str, ret_ptr, ret_agg, ret_tup, ob_some, bb_true, bb_false, List.getElem?_cons_zero, List.getElem?_cons_succ, List.length_cons, List.length_nil, Nat.reduceAdd, Nat.reduceLT]
        refine Evp.ff rfl (Evp.ret ?_)
        rw [show IntKind.i64.wrap (1 + 1) = 2 from by decide]
        have l3 := p3.len
        have hbox3 := p3 _ _ hbox2
        refine Run.cut (Evp.of_eq (fun k => chain_run_passes.p125332 k ..) ?_)
        refine Evp.dec (fun h => absurd h (by decide)) fun _ => ?_
        refine Evp.pos (by decide) (Evp.some (fx_sts hbox3 (by omega) (Nat.le_of_ble_eq_true rfl)) (Evp.ret ?_))
        have n2 := b2.new
        have n3 := b3.new
        rw [show (up1 (G.at 2) (s.map 2) 2 hd).length = (ly2 (G.at 2) (s.map 2) 2 hd).length from (up1_len ..).trans (ly2_len ..).symm]
        refine hok _ a' cc' k1 k2 ((((p1.trans p2).trans p3).keepB b).trans (KeepB.set _ _ _)) (by simp; omega) ?_ (by rw [up1_len] at hcc'; exact hcc') (set_self (by omega))
        refine (b3.floor (M0 := M) (by omega)).keep (A := some ⟨b, 0, none⟩) (fun i x hx hne => by rw [List.getElem?_set_ne (hne _ rfl)]; exact hx) fun a0 e => by injection e with e; subst e; show b ≠ _; omega
      · obtain ⟨rfl, p3⟩ := hr.not (by rw [up1_len]; exact k2)
        simp only [ret_int, ret_bool, ret_flt, ret_slc, ret_str, ret_ptr, ret_agg, ret_tup, ob_some, bb_true, bb_false, List.getElem?_cons_zero, List.getElem?_cons_succ, List.length_cons, List.length_nil, Nat.reduceAdd, Nat.reduceLT]
        exact Evp.tt rfl (Evp.ret (Run.ret (hbad _ (((p1.trans p2).trans p3).keepB b) (p3 _ _ hbox2) fun e => k2 e.2)))
    · obtain ⟨rfl, p2⟩ := hr.not k1
      simp only [ret_int, ret_bool, ret_flt, ret_slc, ret_str, ret_ptr, ret_agg, ret_tup, ob_some, bb_true, bb_false, List.getElem?_cons_zero, List.getElem?_cons_succ, List.length_cons, List.length_nil, Nat.reduceAdd, Nat.reduceLT]
      exact Evp.tt rfl (Evp.ret (Run.ret (hbad _ ((p1.trans p2).keepB b) (p2 _ _ hbox1) fun e => k1 e.1)))
end
end Go.Zt
