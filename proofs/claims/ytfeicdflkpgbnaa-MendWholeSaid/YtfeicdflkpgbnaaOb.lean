/-
  THE QUEUE IN MEMORY: found blocks as rows of eleven cells; two rows change places.
-/
import Derived.Test.YtfeicdflkpgbnaaOa
import Derived.Test.YtfeicdflkpgbnaaV3
import Derived.Deep.MidRow
import Derived.WalkSmall
namespace Go.Proofs.Ytfeicdflkpgbnaa
open Go.RowKit

def El.cells (e : El) : List Value := fdCells e.f e.A e.c
def cellsE : List El → List Value
  | [] => []
  | e :: l => e.cells ++ cellsE l
theorem El.cells_length (e : El) : e.cells.length = 11 := rfl
theorem El.cells_one (e : El) : ∀ u ∈ e.cells, u.oneCell' = true := fdCells_one _ _ _
theorem cellsE_length : ∀ es : List El, (cellsE es).length = es.length * 11
  | [] => rfl
  | e :: l => by simp only [cellsE, List.length_append, El.cells_length, cellsE_length l, List.length_cons]; omega
theorem cellsE_append : ∀ es fs : List El, cellsE (es ++ fs) = cellsE es ++ cellsE fs
  | [], _ => rfl
  | e :: l, fs => by simp only [List.cons_append, cellsE, cellsE_append l fs, List.append_assoc]
theorem cellsE_one (e : El) : cellsE [e] = e.cells := by simp [cellsE]
theorem cellsE_get : ∀ (es : List El) (i j : Nat), j < 11 → (cellsE es)[i * 11 + j]? = (es[i]?).bind fun e => e.cells[j]?
  | [], i, j, _ => by simp [cellsE]
  | e :: l, 0, j, hj => by
    rw [cellsE, Nat.zero_mul, Nat.zero_add, List.getElem?_append_left (by rw [El.cells_length]; exact hj)]
    rfl
  | e :: l, i + 1, j, hj => by
    rw [cellsE, List.getElem?_append_right (by rw [El.cells_length]; omega), El.cells_length, show (i + 1) * 11 + j - 11 = i * 11 + j by omega, cellsE_get l i j hj]
    rfl

def setL : List Value → Nat → List Value → List Value
  | xs, _, [] => xs
  | xs, o, v :: r => setL (xs.set o v) (o + 1) r
theorem setL_length : ∀ (vs xs : List Value) (o : Nat), (setL xs o vs).length = xs.length
  | [], _, _ => rfl
  | v :: r, xs, o => by rw [setL, setL_length r]; simp
theorem setL_get : ∀ (vs xs : List Value) (o k : Nat), (setL xs o vs)[k]? = if o ≤ k ∧ k < o + vs.length ∧ k < xs.length then vs[k - o]? else xs[k]?
  | [], xs, o, k => by
    rw [if_neg (by simp only [List.length_nil]; omega)]
    rfl
  | v :: r, xs, o, k => by
    rw [setL, setL_get r, List.length_set, List.length_cons, List.getElem?_set]
    by_cases h1 : o = k
    · subst h1
      rw [if_neg (by omega), if_pos rfl]
      by_cases h2 : o < xs.length
      · rw [if_pos h2, if_pos (by omega), Nat.sub_self]; rfl
      · rw [if_neg h2, if_neg (by omega), List.getElem?_eq_none (by omega)]
    · rw [if_neg h1]
      by_cases h2 : o + 1 ≤ k ∧ k < o + 1 + r.length ∧ k < xs.length
      · rw [if_pos h2, if_pos (by omega), show k - o = (k - (o + 1)) + 1 by omega]
        rfl
      · rw [if_neg h2, if_neg (by omega)]
theorem setL_cellsE {es : List El} {i : Nat} (hi : i < es.length) (x : El) : setL (cellsE es) (i * 11) x.cells = cellsE (es.set i x) := by
  apply List.ext_getElem?
  intro k
  rw [setL_get, El.cells_length, cellsE_length]
  have hd : k = k / 11 * 11 + k % 11 := by omega
  have hr : k % 11 < 11 := Nat.mod_lt _ (by decide)
  by_cases h : i * 11 ≤ k ∧ k < i * 11 + 11 ∧ k < es.length * 11
  · rw [if_pos h]
    have hq : k / 11 = i := by omega
    rw [hd, hq, cellsE_get _ i _ hr, List.getElem?_set, if_pos rfl, if_pos hi]
    rw [show i * 11 + k % 11 - i * 11 = k % 11 by omega]
    rfl
  · rw [if_neg h, hd, cellsE_get _ _ _ hr, cellsE_get _ _ _ hr, List.getElem?_set]
    by_cases hq : i = k / 11
    · omega
    · rw [if_neg hq]

section
variable {w w' : World} {B : Nat} {es : List El}
theorem ownsRow_setCells {base : Nat} {e : TypeId} {size g n cap : Nat} : ∀ (vs xs : List Value) (o : Nat) (w : World), w.ownsRow base e size (.slice (some ⟨g, 0, none⟩) n cap) n xs →
    (w.setCells g o vs).ownsRow base e size (.slice (some ⟨g, 0, none⟩) n cap) n (setL xs o vs) ∧ w.grownBy (w.setCells g o vs) (some g)
  | [], xs, o, w, h => ⟨h, gr_refl _ _⟩
  | v :: r, xs, o, w, h => by
    obtain ⟨h1, g1⟩ := h.stored o v
    obtain ⟨h2, g2⟩ := ownsRow_setCells r (xs.set o v) (o + 1) (w.setCell ⟨g, o, none⟩ v) h1
    exact ⟨h2, gr_trans g1 g2⟩
theorem own_head {base : Nat} {e : TypeId} {size n : Nat} {v : Value} {xs : List Value} (h : w.ownsRow base e size v n xs) (hn : 0 < n) : ∃ g cap, v = .slice (some ⟨g, 0, none⟩) n cap ∧ n ≤ cap := by
  rcases h.2 with ⟨_, h0⟩ | ⟨g, cap, cur, hv, _, _, hc, _⟩
  · omega
  · exact ⟨g, cap, hv, hc⟩
/-- A row: where element i lies. -/
theorem own_range {g cap n i : Nat} (h : w.ownsRow B 45 11 (.slice (some ⟨g, 0, none⟩) n cap) n (cellsE es)) (hi : i < es.length) : w.rangeAt g (i * 11) es[i].cells := by
  intro j u hu
  have hj : j < 11 := by have := (List.getElem?_eq_some_iff.1 hu).1; rwa [El.cells_length] at this
  have hl := h.1
  rw [cellsE_length] at hl
  rw [h.cellAt _ (by omega), cellsE_get _ _ _ hj, List.getElem?_eq_getElem hi]
  exact hu
theorem own_there {g cap n i : Nat} (h : w.ownsRow B 45 11 (.slice (some ⟨g, 0, none⟩) n cap) n (cellsE es)) (hi : i < es.length) : w.there g (i * 11) 11 := fun j hj => by
  have h1 := own_range h hi
  exact ⟨h1.isSome j (by rw [El.cells_length]; exact hj), h.frozenAt _⟩
theorem own_cell {g cap n i : Nat} (h : w.ownsRow B 45 11 (.slice (some ⟨g, 0, none⟩) n cap) n (cellsE es)) (hi : i < es.length) :
    w.cell? ⟨g, i * 11, none⟩ = some (.int .i64 es[i].f.at_) ∧ w.cell? ⟨g, i * 11 + 1, none⟩ = some (.int .i64 es[i].f.hd.kind) ∧ w.cell? ⟨g, i * 11 + 1 + 1, none⟩ = some (.int .i64 es[i].f.hd.index) := by
  have h1 := own_range h hi
  exact ⟨h1 0 _ rfl, h1 1 _ rfl, h1 2 _ rfl⟩
theorem own_put {g cap n i : Nat} (h : w.ownsRow B 45 11 (.slice (some ⟨g, 0, none⟩) n cap) n (cellsE es)) (hi : i < es.length) (x : El) :
    (w.setCells g (i * 11) x.cells).ownsRow B 45 11 (.slice (some ⟨g, 0, none⟩) n cap) n (cellsE (es.set i x)) ∧ w.grownBy (w.setCells g (i * 11) x.cells) (some g) := by
  have := ownsRow_setCells x.cells (cellsE es) (i * 11) w h
  rwa [setL_cellsE hi] at this
/-- Two rows change places. -/
theorem own_swap {g cap n i j : Nat} (h : w.ownsRow B 45 11 (.slice (some ⟨g, 0, none⟩) n cap) n (cellsE es)) (hi : i < es.length) (hj : j < es.length) :
    ((w.setCells g (i * 11) es[j].cells).setCells g (j * 11) es[i].cells).ownsRow B 45 11 (.slice (some ⟨g, 0, none⟩) n cap) n (cellsE (swapL es i j hi hj)) ∧
      w.grownBy ((w.setCells g (i * 11) es[j].cells).setCells g (j * 11) es[i].cells) (some g) := by
  obtain ⟨h1, g1⟩ := own_put h hi es[j]
  obtain ⟨h2, g2⟩ := own_put h1 (i := j) (by simpa using hj) es[i]
  exact ⟨h2, gr_trans g1 g2⟩
end

/-- The queue: its variable in block q, its elements in a row of the call's own. -/
structure QS (w : World) (B q : Nat) (v : Value) (es : List El) : Prop where
  var : Bk w q 82 #[v]
  own : w.ownsRow B 45 11 v es.length (cellsE es)
  apart : v.ownBlock ≠ some q

section
variable {w w' : World} {B q : Nat} {v : Value} {es : List El}
theorem QS.grown {row : Option Nat} (h : QS w B q v es) (hg : w.grownBy w' row) (h1 : row ≠ some q) (h2 : row = none ∨ row ≠ v.ownBlock) : QS w' B q v es :=
  ⟨h.var.grown hg (Ne.symm h1), h.own.kept hg (by
    rcases h2 with h2 | h2
    · subst h2; cases v.ownBlock <;> simp
    · exact .inr (Ne.symm h2)), h.apart⟩
theorem QS.below (h : QS w B q v es) (hb : Below w.heap.size w w') : QS w' B q v es := h.grown (gr_of_below hb none) (by simp) (.inl rfl)
theorem QS.alloc (h : QS w B q v es) (o : Obj) : QS (w.alloc o) B q v es := h.below ((Below.refl _ _).alloc (Nat.le_refl _) o)
theorem QS.drewN (h : QS w B q v es) (n : Nat) : QS (w.drewN n) B q v es := ⟨h.var, h.own, h.apart⟩
theorem QS.lt (h : QS w B q v es) : q < w.heap.size := h.var.lt
theorem QS.cell (h : QS w B q v es) : w.cell? ⟨q, 0, none⟩ = some v := h.var.cell 0
end
end Go.Proofs.Ytfeicdflkpgbnaa
