/- What the law ChainKnown needs of the text Fn. -/
import Derived.Test.YtbbfdebfhgdciaaPFm
set_option linter.unusedVariables false
set_option linter.unusedSimpArgs false
set_option maxRecDepth 100000
namespace Go.Zt
def NearP (w h X Y : Nat) (xs : List Int) (l m : Int) : Prop := ∀ cx cy : Int, inP w h cx cy → (-2 ≤ cx - X ∧ cx - X ≤ 2) → (-2 ≤ cy - Y ∧ cy - Y ≤ 2) → l ≤ atP w xs cx cy ∧ atP w xs cx cy ≤ m
theorem ask_near {w h X Y : Nat} {xs T : List Int} {l m v p : Int} (hN : NearP w h X Y xs l m) (hT : TapB T) {t : Nat} (ht : t < 6) {way : Int} (hway : way = 1 ∨ way = -1) {s : S3} (hs : l ≤ s.low ∧ s.top ≤ m) : l ≤ (askS w h xs X Y v p T t way s).low ∧ (askS w h xs X Y v p T t way s).top ≤ m := by
  obtain ⟨⟨r1, r2⟩, ⟨c1, c2⟩, _⟩ := hT.2 t ht
  unfold askS
  split
  · rename_i hin
    have := hN _ _ hin (by rcases hway with rfl | rfl <;> omega) (by rcases hway with rfl | rfl <;> omega)
    generalize atP w xs ((X : Int) + way * tC T t) ((Y : Int) + way * tR T t) = q at *
    refine ⟨?_, ?_⟩
    · simp only; unfold minI; split <;> omega
    · simp only; unfold maxI; split <;> omega
  · exact hs
theorem fold_near {w h X Y : Nat} {xs T : List Int} {l m v p : Int} (hN : NearP w h X Y xs l m) (hT : TapB T) (hv : l ≤ v ∧ v ≤ m) : ∀ t, t ≤ 6 → l ≤ (foldS w h xs X Y v p T t).low ∧ (foldS w h xs X Y v p T t).top ≤ m
  | 0, _ => hv
  | t + 1, h' => by
    have a := ask_near (v := v) (p := p) hN hT (t := t) (by omega) (way := 1) (.inl rfl) (fold_near (p := p) hN hT hv t (by omega))
    exact ask_near (v := v) (p := p) hN hT (t := t) (by omega) (way := -1) (.inr rfl) a
theorem samp_near {w h X Y : Nat} {xs T : List Int} {l m p : Int} (bx : Bytes xs) (hN : NearP w h X Y xs l m) (hT : TapB T) (hX : X < w) (hY : Y < h) : l ≤ sampS w h xs X Y p T ∧ sampS w h xs X Y p T ≤ m := by
  have hv := hN X Y ⟨by omega, by omega⟩ (by omega) (by omega)
  have b : 0 ≤ atP w xs X Y ∧ atP w xs X Y ≤ 255 := bx.get _
  have f := fold_near (p := p) hN hT hv 6 (by omega)
  have o := out_le (v := atP w xs X Y) (fold_b (w := w) (h := h) bx (x := X) (y := Y) (p := p) hT b 6 (by omega))
  unfold sampS
  omega
end Go.Zt
