/-
  PLAIN: blocks that stand in a text, bytes between them: a scan finds just them.
-/
import Derived.Test.YtfeicdflkpgbnaaPf
namespace Go.Proofs.Ytfeicdflkpgbnaa
open Go.RowKit

/-- One block and nothing behind it. -/
def fitB (b : List UInt8) : Prop := openB b = true ∧ (b.length : Int) = 36 + (hdOf b).size

theorem byN_app {b r : List UInt8} {k : Nat} (hk : k < b.length) : byN (b ++ r) k = byN b k := by
  unfold byN
  rw [List.getD_eq_getElem?_getD, List.getD_eq_getElem?_getD, List.getElem?_append_left hk]
theorem at4_app {b r : List UInt8} {k : Nat} (hk : k + 4 ≤ b.length) : at4 (b ++ r) k = at4 b k := by
  unfold at4
  rw [List.drop_append_of_le_length (by omega), List.take_append_of_le_length (by rw [List.length_drop]; omega)]
theorem hdOf_app {b r : List UInt8} (h : 32 ≤ b.length) : hdOf (b ++ r) = hdOf b := by
  unfold hdOf
  rw [byN_app (by omega), byN_app (by omega), at4_app (by omega), at4_app (by omega), at4_app (by omega), at4_app (by omega), at4_app (by omega), at4_app (by omega)]
theorem fitB_len {b : List UInt8} (h : fitB b) : 36 ≤ b.length := by
  have := openB_right h.1
  omega
theorem startB_app {b r : List UInt8} (h : 2 ≤ b.length) : startB (b ++ r) = startB b := by
  unfold startB
  rw [byN_app (by omega), byN_app (by omega), decide_eq_true (show 0 < (b ++ r).length by rw [List.length_append]; omega), decide_eq_true (show 1 < (b ++ r).length by rw [List.length_append]; omega), decide_eq_true (show 0 < b.length by omega), decide_eq_true (show 1 < b.length by omega)]
theorem getB_app {b r : List UInt8} (h : 32 ≤ b.length) : getB (b ++ r) = getB b := by
  unfold getB
  rw [startB_app (by omega), hdOf_app h, byN_app (by omega), at4_app (by omega), List.take_append_of_le_length (by omega), decide_eq_true (show 32 ≤ (b ++ r).length by rw [List.length_append]; omega), decide_eq_true h]
theorem openB_app {b r : List UInt8} (h : fitB b) : openB (b ++ r) = true := by
  have hl := fitB_len h
  obtain ⟨_, hz, _⟩ := openB_right h.1
  have h1 := h.1
  have h2 := h.2
  unfold openB at h1 ⊢
  rw [getB_app (by omega), hdOf_app (by omega), List.take_append_of_le_length (by omega), at4_app (by omega), decide_eq_true (show 36 + (hdOf b).size ≤ ((b ++ r).length : Int) by rw [List.length_append]; omega)]
  rwa [decide_eq_true (show 36 + (hdOf b).size ≤ (b.length : Int) by omega)] at h1
theorem openB_gap {x : UInt8} {l : List UInt8} (h : x ≠ 222) : openB (x :: l) = false := by
  have hx : ¬ x.toNat = 222 := fun e => h (UInt8.toNat_inj.1 (by simpa using e))
  have hs : startB (x :: l) = false := by
    unfold startB byN
    simp [hx]
  unfold openB getB
  rw [hs]
  rfl

theorem scan_gap (bs : List UInt8) : ∀ (g rest : List UInt8) (k : Nat), bs.drop k = g ++ rest → (∀ x ∈ g, x ≠ 222) → scan bs k = scan bs (k + g.length) ∧ bs.drop (k + g.length) = rest
  | [], rest, k, h, _ => ⟨rfl, h⟩
  | x :: g, rest, k, h, hg => by
    have hk : k < bs.length := by
      have := congrArg List.length h
      rw [List.length_drop] at this
      simp at this
      omega
    have h1 : bs.drop (k + 1) = g ++ rest := by
      rw [← List.drop_drop, h]
      rfl
    obtain ⟨h2, h3⟩ := scan_gap bs g rest (k + 1) h1 fun y hy => hg y (List.mem_cons_of_mem _ hy)
    refine ⟨?_, ?_⟩
    · rw [scan_miss hk (by rw [h]; exact openB_gap (hg x (by simp))), h2, List.length_cons]
      congr 1
      omega
    · rw [List.length_cons, show k + (g.length + 1) = k + 1 + g.length by omega]
      exact h3
theorem scan_block (bs b rest : List UInt8) (k : Nat) (h : bs.drop k = b ++ rest) (hb : fitB b) : (scan bs k).map (·.at_) = (k : Int) :: (scan bs (k + b.length)).map (·.at_) ∧ bs.drop (k + b.length) = rest := by
  have hl := fitB_len hb
  have hz := openB_right hb.1
  have h2 := hb.2
  have hk : k < bs.length := by
    have := congrArg List.length h
    rw [List.length_drop, List.length_append] at this
    omega
  refine ⟨?_, ?_⟩
  · rw [scan_hit hk (by rw [h]; exact openB_app hb), h, hdOf_app (by omega), show k + 36 + (hdOf b).size.toNat = k + b.length by omega]
    rfl
  · rw [← List.drop_drop, h, List.drop_left]

/-- The bytes ahead of block i. -/
def gapL (bw : List (List UInt8)) (i : Nat) : List UInt8 := (bw.getD i []).filter (· != 222)
/-- The text so far; where its blocks lie. -/
def textN (bl bw : List (List UInt8)) : Nat → List UInt8
  | 0 => []
  | i + 1 => textN bl bw i ++ gapL bw i ++ bl.getD i []
def placesN (bl bw : List (List UInt8)) : Nat → List Int
  | 0 => []
  | i + 1 => placesN bl bw i ++ [((textN bl bw i ++ gapL bw i).length : Int)]
theorem placesN_len (bl bw : List (List UInt8)) : ∀ i, (placesN bl bw i).length = i
  | 0 => rfl
  | i + 1 => by simp [placesN, placesN_len bl bw i]
theorem gapL_ne (bw : List (List UInt8)) (i : Nat) : ∀ x ∈ gapL bw i, x ≠ 222 := by
  intro x hx
  have := (List.mem_filter.1 hx).2
  simpa using this
theorem scan_text (bl bw : List (List UInt8)) : ∀ (i : Nat) (rest : List UInt8), (∀ j, j < i → fitB (bl.getD j [])) →
    (scan (textN bl bw i ++ rest) 0).map (·.at_) = placesN bl bw i ++ (scan (textN bl bw i ++ rest) (textN bl bw i).length).map (·.at_)
  | 0, rest, _ => rfl
  | i + 1, rest, h => by
    have ih := scan_text bl bw i (gapL bw i ++ (bl.getD i [] ++ rest)) fun j hj => h j (by omega)
    have e : textN bl bw (i + 1) ++ rest = textN bl bw i ++ (gapL bw i ++ (bl.getD i [] ++ rest)) := by simp [textN]
    rw [e]
    generalize hbs : textN bl bw i ++ (gapL bw i ++ (bl.getD i [] ++ rest)) = bs at *
    have hd : bs.drop (textN bl bw i).length = gapL bw i ++ (bl.getD i [] ++ rest) := by rw [← hbs, List.drop_left]
    obtain ⟨g1, g2⟩ := scan_gap bs _ _ _ hd (gapL_ne bw i)
    obtain ⟨b1, b2⟩ := scan_block bs _ _ _ g2 (h i (by omega))
    rw [ih, g1, b1]
    simp [placesN, textN, Nat.add_assoc]
/-- A scan of the text finds its blocks, each where it lies. -/
theorem scan_places {bl bw : List (List UInt8)} {n : Nat} (h : ∀ j, j < n → fitB (bl.getD j [])) : (scan (textN bl bw n) 0).map (·.at_) = placesN bl bw n := by
  have := scan_text bl bw n [] h
  rw [List.append_nil, scan_end (Nat.le_refl _)] at this
  simpa using this

/-- Few: at most twelve rows, none longer than 300 bytes. -/
def fewB (l : List (List UInt8)) : Bool := decide (l.length ≤ 12) && l.all fun b => decide (b.length ≤ 300)
theorem fewB_true {l : List (List UInt8)} : fewB l = true ↔ l.length ≤ 12 ∧ ∀ b ∈ l, b.length ≤ 300 := by
  unfold fewB
  simp [List.all_eq_true]
theorem few_getD {l : List (List UInt8)} (h : fewB l = true) (i : Nat) : (l.getD i []).length ≤ 300 := by
  rw [List.getD_eq_getElem?_getD]
  rcases Nat.lt_or_ge i l.length with hi | hi
  · rw [List.getElem?_eq_getElem hi]
    exact (fewB_true.1 h).2 _ (List.getElem_mem hi)
  · rw [List.getElem?_eq_none hi]
    exact Nat.zero_le _
theorem textN_len {bl bw : List (List UInt8)} (h1 : fewB bl = true) (h2 : fewB bw = true) : ∀ i, (textN bl bw i).length ≤ 600 * i
  | 0 => Nat.le_refl _
  | i + 1 => by
    have h3 := textN_len h1 h2 i
    have h4 := few_getD h1 i
    have h5 : (gapL bw i).length ≤ 300 := Nat.le_trans (List.length_filter_le _ _) (few_getD h2 i)
    simp only [textN, List.length_append]
    omega
end Go.Proofs.Ytfeicdflkpgbnaa
