/-
  THE DOCUMENT'S ORDER: plain: where one goes; in memory: rows of any element type.
-/
import Derived.Test.YtfeicdflkpgbnaaOm
namespace Go.Proofs.Ytfeicdflkpgbnaa
open Go.RowKit

/-- Where a block goes: behind all of a lower number. -/
theorem insR_at : ∀ {out : List Fd} {x : Fd} {j : Nat}, (∀ i (h : i < out.length), i < j → idx out[i] < idx x) → (hj : j ≤ out.length) → (hs : ∀ h : j < out.length, ¬ idx out[j] < idx x) →
    insR out x = if h : j < out.length then (if idx out[j] = idx x then (if x.at_ < out[j].at_ then out.set j x else out) else out.take j ++ x :: out.drop j) else out ++ [x]
  | [], x, j, _, hj, _ => by
    obtain rfl : j = 0 := by simpa using hj
    simp [insR]
  | g :: l, x, 0, _, _, hs => by
    have h0 := hs (by simp)
    unfold insR
    simp only [List.getElem_cons_zero] at h0
    rw [if_neg h0]
    simp
  | g :: l, x, j + 1, hl, hj, hs => by
    have h0 := hl 0 (by simp) (by omega)
    simp only [List.getElem_cons_zero] at h0
    have ih := insR_at (out := l) (x := x) (j := j) (fun i h hi => by have := hl (i + 1) (by simpa using h) (by omega); simpa using this) (by simpa using hj) (fun h => by have := hs (by simpa using h); simpa using this)
    unfold insR
    rw [if_pos h0, ih]
    by_cases hjl : j < l.length
    · rw [dif_pos hjl, dif_pos (by simpa using hjl)]
      simp only [List.getElem_cons_succ]
      by_cases he : idx l[j] = idx x
      · rw [if_pos he, if_pos he]
        by_cases ha : x.at_ < l[j].at_
        · rw [if_pos ha, if_pos ha]; rfl
        · rw [if_neg ha, if_neg ha]
      · rw [if_neg he, if_neg he]; rfl
    · rw [dif_neg hjl, dif_neg (by simpa using hjl)]
      rfl
theorem ins_map {os : List El} {x : El} {j : Nat} (hj : j ≤ os.length) (hall : ∀ i (h : i < os.length), i < j → idx os[i].f < idx x.f) (hs : ∀ h : j < os.length, ¬ idx os[j].f < idx x.f) :
    insR (os.map (·.f)) x.f = if h : j < os.length then (if idx os[j].f = idx x.f then (if x.f.at_ < os[j].f.at_ then (os.set j x).map (·.f) else os.map (·.f)) else (os.take j ++ x :: os.drop j).map (·.f)) else (os ++ [x]).map (·.f) := by
  rw [insR_at (out := os.map (·.f)) (x := x.f) (j := j) (fun i h hi => by simpa using hall i (by simpa using h) hi) (by simpa using hj) (fun h => by simpa using hs (by simpa using h))]
  by_cases hjl : j < os.length
  · rw [dif_pos hjl, dif_pos (by simpa using hjl)]
    simp only [List.getElem_map, List.map_set, List.map_append, List.map_cons, List.map_take, List.map_drop]
  · rw [dif_neg hjl, dif_neg (by simpa using hjl)]
    simp
theorem own_form {w : World} {base e size n c : Nat} {A : Option Addr} {xs : List Value} (h : w.ownsRow base e size (.slice A n c) n xs) : (A = none ∧ n = 0 ∧ c = 0) ∨ ∃ g, A = some ⟨g, 0, none⟩ := by
  rcases h.2 with ⟨h1, h2⟩ | ⟨g, cap, cur, h1, _⟩
  · injection h1 with a b c'
    exact .inl ⟨a, h2, c'⟩
  · injection h1 with a
    exact .inr ⟨g, a⟩
theorem ordP_succ {kind : Int} {fs : List Fd} {k : Nat} (hk : k < fs.length) : ordP kind [] (fs.take (k + 1)) = if fs[k].hd.kind = kind then insR (ordP kind [] (fs.take k)) fs[k] else ordP kind [] (fs.take k) := by
  rw [List.take_add_one, List.getElem?_eq_getElem hk, ordP_append]
  rfl

section
variable {w w' : World} {B t : Nat} {es : List El}
theorem ownt_range {g cap n i : Nat} (h : w.ownsRow B t 11 (.slice (some ⟨g, 0, none⟩) n cap) n (cellsE es)) (hi : i < es.length) : w.rangeAt g (i * 11) es[i].cells := by
  intro j u hu
  have hj : j < 11 := by have := (List.getElem?_eq_some_iff.1 hu).1; rwa [El.cells_length] at this
  have hl := h.1
  rw [cellsE_length] at hl
  rw [h.cellAt _ (by omega), cellsE_get _ _ _ hj, List.getElem?_eq_getElem hi]
  exact hu
theorem ownt_eleven {g cap n i : Nat} (h : w.ownsRow B t 11 (.slice (some ⟨g, 0, none⟩) n cap) n (cellsE es)) (hi : i < es.length) :
    w.cell? ⟨g, i * 11, none⟩ = some (.int .i64 es[i].f.at_) ∧ w.cell? ⟨g, i * 11 + 1, none⟩ = some (.int .i64 es[i].f.hd.kind) ∧ w.cell? ⟨g, i * 11 + 2, none⟩ = some (.int .i64 es[i].f.hd.index) ∧
      w.cell? ⟨g, i * 11 + 3, none⟩ = some (.int .i64 es[i].f.hd.length) ∧ w.cell? ⟨g, i * 11 + 4, none⟩ = some (.int .i64 es[i].f.hd.step) ∧ w.cell? ⟨g, i * 11 + 5, none⟩ = some (.int .i64 es[i].f.hd.bound) ∧
      w.cell? ⟨g, i * 11 + 6, none⟩ = some (.bool es[i].f.hd.last) ∧ w.cell? ⟨g, i * 11 + 7, none⟩ = some (.int .u32 es[i].f.hd.link) ∧ w.cell? ⟨g, i * 11 + 8, none⟩ = some (.int .i64 es[i].f.hd.size) ∧
      w.cell? ⟨g, i * 11 + 9, none⟩ = some (.slice es[i].A es[i].f.pay.length es[i].c) ∧ w.cell? ⟨g, i * 11 + 10, none⟩ = some (.int .u32 es[i].f.sum) := by
  have h1 := ownt_range h hi
  exact ⟨h1 0 _ rfl, h1 1 _ rfl, h1 2 _ rfl, h1 3 _ rfl, h1 4 _ rfl, h1 5 _ rfl, h1 6 _ rfl, h1 7 _ rfl, h1 8 _ rfl, h1 9 _ rfl, h1 10 _ rfl⟩
theorem ownt_put {g cap n i : Nat} (h : w.ownsRow B t 11 (.slice (some ⟨g, 0, none⟩) n cap) n (cellsE es)) (hi : i < es.length) (x : El) :
    (w.setCells g (i * 11) x.cells).ownsRow B t 11 (.slice (some ⟨g, 0, none⟩) n cap) n (cellsE (es.set i x)) ∧ w.grownBy (w.setCells g (i * 11) x.cells) (some g) := by
  have := ownsRow_setCells x.cells (cellsE es) (i * 11) w h
  rwa [setL_cellsE hi] at this
theorem own_base {base base' n : Nat} {e size : Nat} {v : Value} {xs : List Value} (h : w.ownsRow base e size v n xs) (hb : base' ≤ base) : w.ownsRow base' e size v n xs := by
  rcases h.2 with ⟨a, b⟩ | ⟨g, cap, cur, hv, hg, rest⟩
  · exact ⟨h.1, .inl ⟨a, b⟩⟩
  · exact ⟨h.1, .inr ⟨g, cap, cur, hv, Nat.le_trans hb hg, rest⟩⟩
theorem cellsE_take : ∀ (es : List El) (j : Nat), cellsE (es.take j) = (cellsE es).take (j * 11)
  | [], j => by simp [cellsE]
  | e :: l, 0 => by simp [cellsE]
  | e :: l, j + 1 => by
    rw [List.take_succ_cons, cellsE, cellsE, cellsE_take l j, show (j + 1) * 11 = e.cells.length + j * 11 by rw [El.cells_length]; omega, List.take_length_add_append]
theorem cellsE_drop : ∀ (es : List El) (j : Nat), cellsE (es.drop j) = (cellsE es).drop (j * 11)
  | [], j => by simp [cellsE]
  | e :: l, 0 => by simp [cellsE]
  | e :: l, j + 1 => by
    rw [List.drop_succ_cons, cellsE, cellsE_drop l j, show (j + 1) * 11 = e.cells.length + j * 11 by rw [El.cells_length]; omega, List.drop_length_add_append]

theorem setCells_eleven (w : World) (g o : Nat) (a0 a1 a2 a3 a4 a5 a6 a7 a8 a9 a10 : Value) : w.setCells g o [a0, a1, a2, a3, a4, a5, a6, a7, a8, a9, a10] = ((((((((((w.setCell ⟨g, o, none⟩ a0).setCell ⟨g, o + 1, none⟩ a1).setCell ⟨g, o + 2, none⟩ a2).setCell ⟨g, o + 3, none⟩ a3).setCell ⟨g, o + 4, none⟩ a4).setCell ⟨g, o + 5, none⟩ a5).setCell ⟨g, o + 6, none⟩ a6).setCell ⟨g, o + 7, none⟩ a7).setCell ⟨g, o + 8, none⟩ a8).setCell ⟨g, o + 9, none⟩ a9).setCell ⟨g, o + 10, none⟩ a10 := rfl

/-- What the loop over the blocks holds: the document's order of those ahead of place k. -/
def Ref1 (w : World) (kind : Int) (l : List El) (k : Nat) (v : Value) (wr : World) (os : List El) : Prop :=
  os.map (·.f) = ordP kind [] ((l.map (·.f)).take k) ∧ os.length ≤ k ∧ (∀ e ∈ os, e ∈ l) ∧ wr.ownsRow w.heap.size 48 11 v os.length (cellsE os) ∧ Below w.heap.size w wr
end
theorem row27' : RowT 27 48 11 := rowT_of (z := .agg #[.int .i64 0, .int .i64 0, .int .i64 0, .int .i64 0, .int .i64 0, .int .i64 0, .bool false, .int .u32 0, .int .i64 0, .slice none 0 0, .int .u32 0]) (bytes := 96) (by decide) Try.underlying27 (by kernel_rfl) rfl (by decide)
section
variable {w wr w' : World} {kind : Int} {l os : List El} {k : Nat} {v v' : Value}
theorem Ref1.below (h : Ref1 w kind l k v wr os) (hb : Below wr.heap.size wr w') : Ref1 w kind l k v w' os := by
  obtain ⟨a, b, c, d, e⟩ := h
  exact ⟨a, b, c, d.kept (gr_of_below hb none) (by cases v.ownBlock <;> simp), e.trans (hb.mono e.size)⟩
theorem Ref1.other (h : Ref1 w kind l k v wr os) (hk : k < l.length) (hx : l[k].f.hd.kind ≠ kind) : Ref1 w kind l (k + 1) v wr os := by
  obtain ⟨a, b, c, d, e⟩ := h
  refine ⟨?_, Nat.le_succ_of_le b, c, d, e⟩
  rw [ordP_succ (by simpa using hk), a]
  simp [hx]
theorem Ref1.done (h : Ref1 w kind l k v wr os) (hk : l.length ≤ k) (hp : ∀ e ∈ l, PayE w (fun _ => False) e) : FsP w (ordP kind [] (l.map (·.f))) (.returned v) wr := by
  obtain ⟨a, b, c, d, e⟩ := h
  rw [List.take_of_length_le (by simpa using hk)] at a
  obtain ⟨A, c', rfl, hc', hr, _⟩ := own_slice d
  rw [← a]
  exact ⟨A, c', cellsE os, by rw [List.length_map], by rw [List.length_map]; exact hc', hr, of_els fun x hx => (hp x (c x hx)).below e, e⟩
/-- In its place, or at its own. -/
theorem Ref1.step {os' : List El} (h : Ref1 w kind l k v wr os) (hk : k < l.length) (hx : l[k].f.hd.kind = kind) (ho : os'.map (·.f) = insR (os.map (·.f)) l[k].f) (hl : os'.length ≤ os.length + 1) (hm : ∀ e ∈ os', e ∈ os ∨ e = l[k])
    (own : w'.ownsRow w.heap.size 48 11 v' os'.length (cellsE os')) (hb : Below w.heap.size w w') : Ref1 w kind l (k + 1) v' w' os' := by
  obtain ⟨a, b, c, d, e⟩ := h
  refine ⟨?_, by omega, fun x hx => ?_, own, hb⟩
  · rw [ordP_succ (by simpa using hk), ho, a]
    simp [hx]
  · rcases hm x hx with h | h
    · exact c x h
    · rw [h]; exact List.getElem_mem hk
end
end Go.Proofs.Ytfeicdflkpgbnaa
