/- CdefFrames. -/
import Derived.Test.YtkbdmbjhgomaiaaFq
set_option linter.unusedVariables false
set_option linter.unusedSimpArgs false
set_option maxRecDepth 100000
namespace Go.Zt
abbrev Plv.with (p : Plv) (A : Option Addr) (c : Nat) : Plv := ⟨p.w, p.h, A, c, p.xs⟩
/-- The same frame elsewhere. -/
def Fr3.to (f : Fr3) (A : Nat → Option Addr) (c : Nat → Nat) : Fr3 := ⟨f.p0.with (A 0) (c 0), f.p1.with (A 1) (c 1), f.p2.with (A 2) (c 2)⟩
theorem foldF_to (f : Fr3) (A : Nat → Option Addr) (c : Nat → Nat) (qs : List Bool) (ws L : List Int) (damp : Int) : ∀ i n, n < 3 → foldF (f.to A c) qs ws L damp i n = foldF f qs ws L damp i n
  | 0, n, hn => by rcases lt3 hn with rfl | rfl | rfl <;> rfl
  | i + 1, n, hn => by
    have ih := foldF_to f A c qs ws L damp i n hn
    have e : ∀ X Y a b c' d o, newN (f.to A c) damp X Y a b c' d n o = newN f damp X Y a b c' d n o := fun X Y a b c' d o => by rcases lt3 hn with rfl | rfl | rfl <;> rfl
    simp only [foldF]
    split
    · exact ih
    · show newN (f.to A c) damp _ _ _ _ _ _ n (foldF (f.to A c) qs ws L damp i n) = _
      rw [e, ih]
      rfl
theorem outF_to (f : Fr3) (A : Nat → Option Addr) (c : Nat → Nat) (qs : List Bool) (ws : List Int) (hd : Hd) (L : List Int) (n : Nat) (hn : n < 3) : outF (f.to A c) qs ws hd L n = outF f qs ws hd L n := by
  unfold outF
  split
  · exact foldF_to f A c qs ws L hd.damp _ n hn
  · rcases lt3 hn with rfl | rfl | rfl <;> rfl
theorem MayP_to (f : Fr3) (A : Nat → Option Addr) (c : Nat → Nat) (qn : Nat) (ws : List Int) (hd hd' : Hd) (L : List Int) (h1 : hd'.cdef = hd.cdef) (h2 : hd'.damp = hd.damp) (h3 : hd'.n = hd.n) : MayP (f.to A c) qn ws hd' L ↔ MayP f qn ws hd L := by
  unfold MayP CdefP
  rw [h1, h2, h3]
  exact Iff.rfl
section
variable (lo : Nat) (f g : Fr3) (M0 M1 : Mem)
variable (hlo : lo ≤ M0.length) (p01 : Pre M0 M1) (hf : FrIn M0 f) (hg : ∀ n, n < 3 → RdI M1 .u8 (g.at n).A (g.at n).xs ∧ (g.at n).xs = (f.at n).xs) (hn : ∀ n, n < 3 → (f.at n).xs.length ≤ 140737488351232)
include hlo p01 hf hg hn
theorem frames_end (w0 h0 w1 h1 w2 h2 : Int) (B0 B1 B2 : Option Addr) (n0 n1 n2 c0 c1 c2 i : Nat) (M : Mem) (hp : Pre M1 M) (hi : n0 ≤ i) : Run P T lo F.zoetropelaw23_CdefFrames (zoetropelaw23_CdefFrames.c4084 i f.p0.w f.p0.h f.p0.A f.p0.xs.length f.p0.c f.p1.w f.p1.h f.p1.A f.p1.xs.length f.p1.c f.p2.w f.p2.h f.p2.A f.p2.xs.length f.p2.c g.p0.w g.p0.h g.p0.A g.p0.xs.length g.p0.c g.p1.w g.p1.h g.p1.A g.p1.xs.length g.p1.c g.p2.w g.p2.h g.p2.A g.p2.xs.length g.p2.c w0 h0 B0 n0 c0 w1 h1 B1 n1 c1 w2 h2 B2 n2 c2 M) fun r => ∃ M', r = (.bool true, M') ∧ Pre M0 M' := by
  have q := p01.trans hp
  have one : ∀ n, n < 3 → Ac P T lo F.zoetroperef00_EqBytes [.slice (g.at n).A (g.at n).xs.length (g.at n).c, .slice (f.at n).A (f.at n).xs.length (f.at n).c] M fun r => r = (.bool true, M) := fun n h => by
    refine Ac.mono (eqBytes_ok _ _ _ _ _ _ _ M ((hg n h).1.pre hp) ((hf.rd n h).pre q) (by rw [(hg n h).2]; exact hn n h)) ?_
    rintro _ rfl
    rw [(hg n h).2]
    simp
  refine Run.cut (Evp.of_eq (fun k => zoetropelaw23_CdefFrames.p4084 k ..) ?_)
  refine Evp.dec (fun e => absurd e (by omega)) fun _ => ?_
  refine Evp.ob (one 0 (by omega)) ?_
  rintro _ rfl
  simp only [ret_int, ret_bool, ret_flt, ret_slc, ret_str, ret_ptr, ret_agg, ret_tup, ob_some, bb_true, bb_false, List.getElem?_cons_zero, List.getElem?_cons_succ, List.length_cons, List.length_nil, Nat.reduceAdd, Nat.reduceLT]
  refine Evp.tt rfl ?_
  refine Evp.ob (one 2 (by omega)) ?_
  rintro _ rfl
  simp only [ret_int, ret_bool, ret_flt, ret_slc, ret_str, ret_ptr, ret_agg, ret_tup, ob_some, bb_true, bb_false, List.getElem?_cons_zero, List.getElem?_cons_succ, List.length_cons, List.length_nil, Nat.reduceAdd, Nat.reduceLT]
  refine Evp.tt rfl ?_
  refine Evp.ob (awake_ok lo M (Nat.le_trans hlo q.len)) ?_
  rintro _ ⟨M', rfl, p'⟩
  simp only [ret_int, ret_bool, ret_flt, ret_slc, ret_str, ret_ptr, ret_agg, ret_tup, ob_some, bb_true, bb_false, List.getElem?_cons_zero, List.getElem?_cons_succ, List.length_cons, List.length_nil, Nat.reduceAdd, Nat.reduceLT]
  exact Evp.ret (Run.ret ⟨M', rfl, q.trans p'⟩)
theorem frames_loop (w0 h0 w1 h1 w2 h2 : Int) (a : Addr) (B1 B2 : Option Addr) (n1 n2 c0 c1 c2 : Nat) : ∀ (d i : Nat) (zs : List Int) (M : Mem), zs.length - i = d → i ≤ zs.length → zs.length ≤ 1048576 → Pre M1 M → Buf M1 M a (zs.map (Value.int .u8)) →
    Run P T lo F.zoetropelaw23_CdefFrames (zoetropelaw23_CdefFrames.c4084 i f.p0.w f.p0.h f.p0.A f.p0.xs.length f.p0.c f.p1.w f.p1.h f.p1.A f.p1.xs.length f.p1.c f.p2.w f.p2.h f.p2.A f.p2.xs.length f.p2.c g.p0.w g.p0.h g.p0.A g.p0.xs.length g.p0.c g.p1.w g.p1.h g.p1.A g.p1.xs.length g.p1.c g.p2.w g.p2.h g.p2.A g.p2.xs.length g.p2.c w0 h0 (some a) zs.length c0 w1 h1 B1 n1 c1 w2 h2 B2 n2 c2 M) fun r => ∃ M', r = (.bool true, M') ∧ Pre M0 M' := by
  intro d
  induction d with
  | zero =>
    intro i zs M hd hi hz hpM hbuf
    exact frames_end lo f g M0 M1 hlo p01 hf hg hn w0 h0 w1 h1 w2 h2 (some a) B1 B2 zs.length n1 n2 c0 c1 c2 i M hpM (by omega)
  | succ d ih =>
    intro i zs M hd hi hz hpM hbuf
    refine Run.cut (Evp.of_eq (fun k => zoetropelaw23_CdefFrames.p4084 k ..) ?_)
    refine Evp.dec (fun _ => ?_) fun e => absurd e (by omega)
    refine Evp.pos (by omega) ?_
    simp only [Int.toNat_natCast]
    refine Evp.ldI hbuf.rdI (by omega) fun _ _ => ?_
    refine Evp.pos (by omega) (Evp.some rfl ?_)
    obtain ⟨M3, h1, h2, h3, h4, h5⟩ := hbuf.st (lo := lo) (i := i) (vs := [.int .u8 (xorI .u8 (zs.getD i 0) 90)]) hpM (Nat.le_trans hlo p01.len) (by simp; omega)
    refine Evp.some h1 ?_
    rw [setL_one, set_map] at h2
    rw [w64 (by omega)]
    have := ih (i + 1) (zs.set i (xorI .u8 (zs.getD i 0) 90)) M3 (by simp; omega) (by simp; omega) (by simpa using hz) h3 h2
    rw [List.length_set] at this
    exact Evp.ret this
end
section
variable (lo : Nat) (f : Fr3) (Q V : Option Addr) (qc vc : Nat) (qs : List Bool) (ws : List Int) (hd : Hd) (L : List Int) (M : Mem)
variable (hlo : lo ≤ M.length) (hf : FrIn M f) (hQ : RdB M Q qs) (hV : RdI M .i64 V ws) (hqn : qs.length ≤ 140737488351232) (hn : ws.length ≤ 17592186043904) (hL : Rd M hd.A hd.n 4 (L.map (Value.int .i64))) (hfn : ∀ n, n < 3 → (f.at n).xs.length ≤ 140737488351232)
include hlo hf hQ hV hqn hn hL hfn
theorem frames_ok : Ac P T lo F.zoetropelaw23_CdefFrames [.agg ⟨f.cells⟩, .agg ⟨[.slice Q qs.length qc, .slice V ws.length vc]⟩, .agg ⟨hd.cells⟩] M fun r => ∃ M', r = (.bool true, M') ∧ Pre M M' := by
  refine Ac.of (Evp.of_eq (fun k => zoetropelaw23_CdefFrames.entry k ..) ?_)
  refine Evp.ob (copyFrame_ok lo f.p0.w f.p0.h f.p1.w f.p1.h f.p2.w f.p2.h f.p0.A f.p1.A f.p2.A f.p0.c f.p1.c f.p2.c f.p0.xs f.p1.xs f.p2.xs M (hf.rd 0 (by omega)) (hf.rd 1 (by omega)) (hf.rd 2 (by omega)) (hfn 0 (by omega)) (hfn 1 (by omega)) (hfn 2 (by omega))) ?_
  rintro _ ⟨B0, B1, B2, d0, d1, d2, M1, rfl, p1, r0, r1, r2, k0, k1, k2⟩
  simp only [ret_int, ret_bool, ret_flt, ret_slc, ret_str, ret_ptr, ret_agg, ret_tup, ob_some, bb_true, bb_false, List.getElem?_cons_zero, List.getElem?_cons_succ, List.length_cons, List.length_nil, Nat.reduceAdd, Nat.reduceLT]
  obtain ⟨g, hgdef⟩ : ∃ g, g = f.to (pick3 B0 B1 B2) (pick3 d0 d1 d2) := ⟨_, rfl⟩
  have hx : ∀ n, n < 3 → (g.at n).xs = (f.at n).xs := fun n h => by rw [hgdef]; rcases lt3 h with rfl | rfl | rfl <;> rfl
  have hgin : FrIn M1 g := by
    rw [hgdef]
    refine ⟨fun n h => ?_, fun n h => ?_, fun n h => ?_⟩
    · rcases lt3 h with rfl | rfl | rfl
      · exact r0
      · exact r1
      · exact r2
    · rcases lt3 h with rfl | rfl | rfl
      · exact hf.by_ 0 h
      · exact hf.by_ 1 h
      · exact hf.by_ 2 h
    · rcases lt3 h with rfl | rfl | rfl
      · exact k0
      · exact k1
      · exact k2
  refine Evp.some ((hQ.pre p1).src) ?_
  obtain ⟨⟨sa, sn, sc⟩, M2, e2, g2, hsn, p2, _, _⟩ := (Grow.nil (M0 := M1) (M := M1) (z := 1)).app (lo := lo) (bytes := 1) (c := 0) (m := qs.length) (vs := qs.map Value.bool) (Pre.refl M1) (Nat.le_trans hlo p1.len) (by simp) (by omega) (by omega)
  refine Evp.some e2 ?_
  simp only [Nat.zero_add] at hsn
  subst hsn
  have hQ2 : RdB M2 sa qs := g2.rd
  have q2 := p1.trans p2
  refine Evp.ob (copyInts_ok M2.length V vc ws M2 (hV.pre q2) (by omega) (Nat.le_refl _)) ?_
  rintro _ ⟨V', vc', M3, rfl, p3, _, g3⟩
  simp only [ret_int, ret_bool, ret_flt, ret_slc, ret_str, ret_ptr, ret_agg, ret_tup, ob_some, bb_true, bb_false, List.getElem?_cons_zero, List.getElem?_cons_succ, List.length_cons, List.length_nil, Nat.reduceAdd, Nat.reduceLT]
  have q3 := q2.trans p3
  have hV3 : RdI M3 .i64 V' ws := g3.rd
  have hgin3 := (hgin.pre p2).pre p3
  have C1 := cframe_ok M2.length g sa V' sc vc' qs ws hd L M3 p3.len hgin3 (hQ2.pre p3) hV3 hn (hL.pre q3)
  rw [hgdef] at C1
  refine Evp.ob C1 ?_
  rw [← hgdef]
  rintro ⟨v, M4⟩ ⟨p4, h4⟩
  have q4 := q3.trans p4
  have C2 := rframe_ok lo f Q V qc vc qs ws hd L M4 (Nat.le_trans hlo q4.len) (hf.pre q4) (hQ.pre q4) (hV.pre q4) hn (hL.pre q4)
  have meq : MayP g qs.length ws hd L ↔ MayP f qs.length ws hd L := by rw [hgdef]; exact MayP_to f _ _ _ _ hd hd L rfl rfl rfl
  have hgg : ∀ n, n < 3 → RdI M1 .u8 (g.at n).A (g.at n).xs ∧ (g.at n).xs = (f.at n).xs := fun n h => ⟨hgin.rd n h, hx n h⟩
  have gp : ∀ n, n < 3 → (g.at n).xs.length = (f.at n).xs.length := fun n h => by rw [hx n h]
  subst hgdef
  have p13 := p2.trans p3
  rcases h4 with ⟨m4, ad, cc, e4, _, b4⟩ | ⟨m4, e4⟩
  · simp only at e4 b4 p4 q4
    subst e4
    simp only [ret_int, ret_bool, ret_flt, ret_slc, ret_str, ret_ptr, ret_agg, ret_tup, ob_some, bb_true, bb_false, List.getElem?_cons_zero, List.getElem?_cons_succ, List.length_cons, List.length_nil, Nat.reduceAdd, Nat.reduceLT]
    refine Evp.ob C2 ?_
    rintro ⟨v, M5⟩ ⟨p5, h5⟩
    rcases h5 with ⟨m5, ad', cc', e5, _, b5⟩ | ⟨m5, e5⟩
    · simp only at e5 b5 p5
      subst e5
      simp only [ret_int, ret_bool, ret_flt, ret_slc, ret_str, ret_ptr, ret_agg, ret_tup, ob_some, bb_true, bb_false, List.getElem?_cons_zero, List.getElem?_cons_succ, List.length_cons, List.length_nil, Nat.reduceAdd, Nat.reduceLT]
      have b4 := b4.congr fun n h => outF_to f _ _ qs ws hd L n h
      have len : ∀ n, n < 3 → (outF f qs ws hd L n).length = (f.at n).xs.length := b5.len
      have rd4 : ∀ n, n < 3 → RdI M5 .u8 (some (ad n)) (outF f qs ws hd L n) := fun n h => (b4.buf n h).rdI.pre p5
      have rd5 : ∀ n, n < 3 → RdI M5 .u8 (some (ad' n)) (outF f qs ws hd L n) := fun n h => (b5.buf n h).rdI
      have bufa : Buf M1 M5 (ad 0) ((outF f qs ws hd L 0).map (Value.int .u8)) := ((b4.buf 0 (by omega)).floor p13.len).pre p5
      have sm : (f.at 0).xs.length ≤ 1048576 := by
        have := checkS_len' m5.1.1
        have a := area ⟨this.1, this.2.1, this.2.2.1, this.2.2.2.1⟩
        have h := this.2.2.2.2
        show f.p0.xs.length ≤ _
        omega
      generalize outF f qs ws hd L = o at *
      refine Evp.neb (fun e => absurd rfl e) fun _ => ?_
      have S := sameFrame_eq lo f.p0.w f.p0.h f.p1.w f.p1.h f.p2.w f.p2.h (some (ad 0)) (some (ad 1)) (some (ad 2)) (cc 0) (cc 1) (cc 2) (o 0) (o 1) (o 2) M5 (some (ad' 0)) (some (ad' 1)) (some (ad' 2)) (cc' 0) (cc' 1) (cc' 2) (rd4 0 (by omega)) (rd4 1 (by omega)) (rd4 2 (by omega)) (rd5 0 (by omega)) (rd5 1 (by omega)) (rd5 2 (by omega))
        (by rw [len 0 (by omega)]; exact hfn 0 (by omega)) (by rw [len 1 (by omega)]; exact hfn 1 (by omega)) (by rw [len 2 (by omega)]; exact hfn 2 (by omega))
      rw [len 0 (by omega), len 1 (by omega), len 2 (by omega)] at S
      refine Evp.ob S ?_
      rintro _ rfl
      simp only [ret_int, ret_bool, ret_flt, ret_slc, ret_str, ret_ptr, ret_agg, ret_tup, ob_some, bb_true, bb_false, List.getElem?_cons_zero, List.getElem?_cons_succ, List.length_cons, List.length_nil, Nat.reduceAdd, Nat.reduceLT]
      refine Evp.ff rfl (Evp.ret ?_)
      have FL := frames_loop lo f (f.to (pick3 B0 B1 B2) (pick3 d0 d1 d2)) M M1 hlo p1 hf hgg hfn f.p0.w f.p0.h f.p1.w f.p1.h f.p2.w f.p2.h (ad 0) (some (ad 1)) (some (ad 2)) f.p1.xs.length f.p2.xs.length (cc 0) (cc 1) (cc 2) _ 0 (o 0) M5 rfl (Nat.zero_le _) (by rw [len 0 (by omega)]; exact sm) ((p13.trans p4).trans p5) bufa
      rw [len 0 (by omega)] at FL
      exact FL
    · exact absurd (meq.1 m4) m5
  · simp only at e4 p4 q4
    subst e4
    simp only [ret_int, ret_bool, ret_flt, ret_slc, ret_str, ret_ptr, ret_agg, ret_tup, ob_some, bb_true, bb_false, List.getElem?_cons_zero, List.getElem?_cons_succ, List.length_cons, List.length_nil, Nat.reduceAdd, Nat.reduceLT]
    refine Evp.ob C2 ?_
    rintro ⟨v, M5⟩ ⟨p5, h5⟩
    rcases h5 with ⟨m5, ad', cc', e5, _, b5⟩ | ⟨m5, e5⟩
    · exact absurd (meq.2 m5) m4
    · simp only at e5 p5
      subst e5
      simp only [ret_int, ret_bool, ret_flt, ret_slc, ret_str, ret_ptr, ret_agg, ret_tup, ob_some, bb_true, bb_false, List.getElem?_cons_zero, List.getElem?_cons_succ, List.length_cons, List.length_nil, Nat.reduceAdd, Nat.reduceLT]
      refine Evp.neb (fun e => absurd rfl e) fun _ => ?_
      refine Evp.ob (sameFrame_eq lo 0 0 0 0 0 0 none none none 0 0 0 [] [] [] M5 none none none 0 0 0 RdI.nil RdI.nil RdI.nil RdI.nil RdI.nil RdI.nil (by decide) (by decide) (by decide)) ?_
      rintro _ rfl
      simp only [ret_int, ret_bool, ret_flt, ret_slc, ret_str, ret_ptr, ret_agg, ret_tup, ob_some, bb_true, bb_false, List.getElem?_cons_zero, List.getElem?_cons_succ, List.length_cons, List.length_nil, Nat.reduceAdd, Nat.reduceLT]
      refine Evp.ff rfl (Evp.ret ?_)
      exact frames_end lo f (f.to (pick3 B0 B1 B2) (pick3 d0 d1 d2)) M M1 hlo p1 hf hgg hfn 0 0 0 0 0 0 none none none 0 0 0 0 0 0 0 M5 ((p13.trans p4).trans p5) (Nat.le_refl _)
end
/-- Lists of strengths among the arguments. -/
theorem strs_of {M : Mem} {n d : Nat} {cs : List Value} (hl : cs.length = n * 4) (h : ∀ i, i < n → Lays P M (d + 2) 71 ((cs.drop (i * 4)).take 4)) : ∃ L : List Int, cs = L.map (Value.int .i64) := by
  induction n generalizing cs with
  | zero =>
    rw [Nat.zero_mul] at hl
    exact ⟨[], List.eq_nil_of_length_eq_zero hl⟩
  | succ n ih =>
    obtain ⟨a, b, c, e, he, _⟩ := Y71 (d := d) (h 0 (by omega))
    rw [Nat.zero_mul, List.drop_zero] at he
    obtain ⟨L, hL⟩ := ih (cs := cs.drop 4) (by rw [List.length_drop, hl]; omega) fun i hi => by
      have := h (i + 1) (by omega)
      rwa [List.drop_drop, show 4 + i * 4 = (i + 1) * 4 by omega]
    refine ⟨a :: b :: c :: e :: L, ?_⟩
    have : cs = cs.take 4 ++ cs.drop 4 := (List.take_append_drop 4 cs).symm
    rw [this, he, hL]
    rfl
theorem CdefFrames_law (M : Mem) (vs : List Value) (hro : AllRo M) (hv : LaysArgs P M [48, 52, 57] vs) : Ac P T M.length F.zoetropelaw23_CdefFrames vs M fun r => r.1 = .bool true := by
  obtain ⟨w0, h0, A0, c0, xs, w1, h1, A1, c1, ys, w2, h2, A2, c2, zs, Q, qc, qs, V, vc, ws, g0, g1, g2, g3, g4, g5, g6, g7, g8, g9, g10, g11, g12, g13, g14, g15, g16, g17, g18, g19, g20, g21, g22, g23, g24, g25, S, sn, sc, sv, g27, g28, g29, rfl,
    _, _, k0, n0, rx, bx, _, _, k1, n1, ry, by', _, _, k2, n2, rz, bz, kq, nq, rq, kv, nv, rv, bv, hrest⟩ := Arg.CdefFrames hv
  obtain ⟨_, _, _, _, _, _, _, _, _, _, _, _, _, _, _, _, _, _, _, _, _, ks, ns, rs, hs⟩ := hrest
  obtain ⟨L, rfl⟩ := strs_of (d := 4) rs.1 hs
  refine Ac.mono (frames_ok M.length ⟨⟨w0, h0, A0, c0, xs⟩, ⟨w1, h1, A1, c1, ys⟩, ⟨w2, h2, A2, c2, zs⟩⟩ Q V qc vc qs ws ⟨g0, g1, g2, g3, g4, g5, g6, g7, g8, g9, g10, g11, g12, g13, g14, g15, g16, g17, g18, g19, g20, g21, g22, g23, g24, g25, S, sn, sc, g27, g28, g29⟩ L M (Nat.le_refl _) ⟨fun n hn => ?_, fun n hn => ?_, fun n hn => ?_⟩ rq rv (by omega) (by omega) rs fun n hn => ?_) ?_
  · rcases lt3 hn with rfl | rfl | rfl
    · exact rx
    · exact ry
    · exact rz
  · rcases lt3 hn with rfl | rfl | rfl
    · exact fun x hx => wf_u8 (bx x hx)
    · exact fun x hx => wf_u8 (by' x hx)
    · exact fun x hx => wf_u8 (bz x hx)
  · rcases lt3 hn with rfl | rfl | rfl
    · exact k0
    · exact k1
    · exact k2
  · rcases lt3 hn with rfl | rfl | rfl
    · show xs.length ≤ _; omega
    · show ys.length ≤ _; omega
    · show zs.length ≤ _; omega
  · rintro _ ⟨M', rfl, _⟩
    rfl
end Go.Zt
