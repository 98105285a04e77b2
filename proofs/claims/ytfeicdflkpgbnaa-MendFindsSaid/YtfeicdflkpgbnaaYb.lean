/-
  Proved: how the two arguments of a row, slices of byte slices, read in memory. Conditions: those that each theorem lists ahead of its colon, and no others.
-/
import Derived.Test.YtfeicdflkpgbnaaYa
import Derived.Test.YtfeicdflkpgbnaaSs
import Derived.Deep.Slices
namespace Go.Proofs.Ytfeicdflkpgbnaa
open Go.ChangeShapes Go.WideShapes Go.ChangeAt Go.RowKit Go.Deep

theorem Try.cells22 : Try.prog.cellsOf 22 = 1 := by kernel_rfl

theorem byte_row {H : Type} {enc : TypeId × Value → H} {W : World} {fuel : Nat} {v : Value} {x : DataW H × List MemPlace} {sp : Nat → Bool} {hd : Bool} (h : DataW.trod enc Try.prog W 0 sp hd fuel 22 [v] = some x) :
    ∃ A c, ∃ bs : List UInt8, v = .slice A bs.length c ∧ bs.length ≤ c ∧ Bs W W.heap.size A bs := by
  rcases DataW.trod_slice Try.underlying22 h with ⟨hcs, _⟩ | ⟨a, len, cap, elems, rest, n, _, hcs, _⟩
  · simp only [List.cons.injEq, and_true] at hcs
    subst hcs
    exact ⟨none, 0, [], rfl, Nat.le_refl _, Bs.nil⟩
  · simp only [List.cons.injEq, and_true] at hcs
    subst hcs
    obtain ⟨bs, h1, h2, h3⟩ := open_bytes (enc := enc) (d := x.1) (p := x.2) (sp := sp) (hd := hd) (A := some a) (n := len) (c := cap) ⟨fuel, by simpa [Value.cells] using h⟩
    exact ⟨some a, cap, bs, by rw [h1], by rw [← h1]; exact h2, h3⟩

/-- A slice of byte slices that came in. -/
theorem open_rows {H : Type} {enc : TypeId × Value → H} {W : World} {A : Option Addr} {n c : Nat} {d : DataW H} {p : List MemPlace} {sp : Nat → Bool} {hd : Bool} (h0 : DataW.Trod enc Try.prog W 0 sp hd 35 (.slice A n c) d p) :
    ∃ bl : List (List UInt8), n = bl.length ∧ Ss W W.heap.size A c bl := by
  obtain ⟨fuel, hf⟩ := h0
  rcases open_slice1 Try.underlying35 Try.cells22 hf with ⟨hcs, hx⟩ | ⟨a, len, cap, m, k, V, D, Pl, hcs, _, hl, hm, hmm, hx, hV⟩
  · simp [Value.cells] at hcs
    obtain ⟨rfl, rfl, rfl⟩ := hcs
    exact ⟨[], rfl, Nat.le_refl _, fun i hi => absurd hi (Nat.not_lt_zero _)⟩
  · simp [Value.cells] at hcs
    obtain ⟨rfl, rfl, rfl⟩ := hcs
    have hnm : n ≤ m := by split at hmm <;> omega
    obtain ⟨F, hF⟩ := choose_lt (α := List UInt8) (p := fun i bs => ∃ A' c', V i = .slice A' bs.length c' ∧ bs.length ≤ c' ∧ Bs W W.heap.size A' bs) (n := n) (fun i hi => by
      obtain ⟨A', c', bs, h1, h2, h3⟩ := byte_row (hV i (by omega)).2
      exact ⟨bs, A', c', h1, h2, h3⟩)
    refine ⟨(List.range n).map F, by simp, by simpa using hl, fun i hi => ?_⟩
    have hi' : i < n := by simpa using hi
    obtain ⟨b, off, spot⟩ := a
    have hc := (hV i (by omega)).1
    have hspot : spot = none := by
      have := World.cell?_spot (hV 0 (by omega)).1
      simpa [Addr.add] using this
    subst hspot
    rw [add_plain] at hc
    have hb : b < W.heap.size := by
      have := hc
      unfold World.cell? at this
      rcases Nat.lt_or_ge b W.heap.size with h | h
      · exact h
      · simp [Array.getElem?_eq_none h] at this
    obtain ⟨A', c', h1, h2, h3⟩ := hF i hi'
    rw [h1] at hc
    exact ⟨b, off, A', c', rfl, hb, by simpa using hc, by simpa using h2, by simpa using h3⟩
end Go.Proofs.Ytfeicdflkpgbnaa
