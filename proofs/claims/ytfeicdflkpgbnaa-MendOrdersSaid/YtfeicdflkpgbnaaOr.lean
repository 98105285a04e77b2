/-
  ONE BLOCK GOES INTO A NEW ROW: what three appends leave.
-/
import Derived.Test.YtfeicdflkpgbnaaOp
namespace Go.Proofs.Ytfeicdflkpgbnaa
open Go.RowKit

/-- A row that is being made, above the world w0. -/
def InsS (w0 w : World) (v : Value) (n : Nat) (ys : List Value) : Prop := w.ownsRow w0.heap.size 48 11 v n ys ∧ Below w0.heap.size w0 w
/-- One element in a block of its own, that the row does not lie in. -/
def XS (w0 w : World) (gx : Nat) (v : Value) (xc : Array Value) : Prop := Bk w gx 48 xc ∧ v.ownBlock ≠ some gx ∧ w0.heap.size ≤ gx

section
variable {w0 w w' : World} {v v' : Value} {n m gx gf : Nat} {ys news : List Value} {xc : Array Value}
theorem InsS.app (h : InsS w0 w v n ys) (own : w'.ownsRow w0.heap.size 48 11 v' (n + m) (ys ++ news)) (gr : w.grownBy w' v.ownBlock) : InsS w0 w' v' (n + m) (ys ++ news) := ⟨own, below_app h.1 gr h.2 h.2.size⟩
theorem InsS.alloc (h : InsS w0 w v n ys) (o : Obj) : InsS w0 (w.alloc o) v n ys := ⟨h.1.alloc o, h.2.alloc h.2.size o⟩
theorem InsS.keep (h : InsS w0 w v n ys) (k : Bk w0 gf 48 xc) : Bk w gf 48 xc := k.below h.2 k.lt
theorem XS.app (h : XS w0 w gx v xc) (gr : w.grownBy w' v.ownBlock) (hX : v'.ownBlock = v.ownBlock ∨ v'.ownBlock = some w.heap.size) : XS w0 w' gx v' xc :=
  ⟨h.1.grown gr (Ne.symm h.2.1), by
    rcases hX with e | e
    · rw [e]; exact h.2.1
    · have := h.1.lt
      rw [e]
      simp only [ne_eq, Option.some.injEq]
      omega, h.2.2⟩
theorem Bk.rd (h : Bk w gx 48 xc) : Rd w w.heap.size (some ⟨gx, 0, none⟩) xc.toList := fun _ =>
  ⟨gx, 0, rfl, h.lt, fun j u hu => by
    rw [Nat.zero_add, h.cell]
    simpa using hu⟩
/-- A row that is read, in whatever comes later. -/
theorem rd_take {A : Option Addr} {c base : Nat} {es : List El} (h : w0.ownsRow base 48 11 (.slice A es.length c) es.length (cellsE es)) (j : Nat) (hb : Below w0.heap.size w0 w) : Rd w w0.heap.size A (cellsE (es.take j)) := by
  rw [cellsE_take]
  exact (Rd.below (Rd.of_own h) hb).take _
theorem rd_drop {g c base : Nat} {es : List El} (h : w0.ownsRow base 48 11 (.slice (some ⟨g, 0, none⟩) es.length c) es.length (cellsE es)) (j : Nat) (hb : Below w0.heap.size w0 w) : Rd w w0.heap.size (some ⟨g, j * 11, none⟩) (cellsE (es.drop j)) := by
  rw [cellsE_drop]
  refine (Rd.below (Rd.of_own h) hb).cut fun b o e _ => ?_
  injection e with e
  cases e
  simp
theorem cellsE_ones (es : List El) : ∀ u ∈ cellsE es, u.oneCell' = true := by
  induction es with
  | nil => intro u hu; cases hu
  | cons e l ih =>
    intro u hu
    rcases List.mem_append.1 hu with h | h
    · exact El.cells_one e u h
    · exact ih u h
theorem InsS.first (w0 : World) (xc : Array Value) :
    InsS w0 (w0.alloc (.cells #[] 48)).drew (.slice (some ⟨w0.heap.size, 0, none⟩) 0 0) 0 [] ∧
    InsS w0 ((w0.alloc (.cells #[] 48)).alloc (.cells xc 48)).drew (.slice (some ⟨w0.heap.size, 0, none⟩) 0 0) 0 [] ∧
    InsS w0 ((w0.alloc (.cells xc 48)).alloc (.cells #[] 48)).drew (.slice (some ⟨w0.heap.size + 1, 0, none⟩) 0 0) 0 [] ∧
    XS w0 ((w0.alloc (.cells #[] 48)).alloc (.cells xc 48)).drew (w0.heap.size + 1) (.slice (some ⟨w0.heap.size, 0, none⟩) 0 0) xc ∧
    XS w0 ((w0.alloc (.cells xc 48)).alloc (.cells #[] 48)).drew w0.heap.size (.slice (some ⟨w0.heap.size + 1, 0, none⟩) 0 0) xc := by
  have b1 : Below w0.heap.size w0 (w0.alloc (.cells #[] 48)) := (Below.refl _ w0).alloc (Nat.le_refl _) _
  have b2 : Below w0.heap.size w0 (w0.alloc (.cells xc 48)) := (Below.refl _ w0).alloc (Nat.le_refl _) _
  have o1 := World.ownsRow_made (e := 48) (size := 11) w0 #[] 0 (Nat.le_refl _) (by decide) rfl
  have o2 := World.ownsRow_made (e := 48) (size := 11) (base := w0.heap.size) (w0.alloc (.cells xc 48)) #[] 0 (by simp) (by decide) rfl
  have hz : (w0.alloc (.cells xc 48)).heap.size = w0.heap.size + 1 := by simp
  have hz1 : (w0.alloc (.cells #[] 48)).heap.size = w0.heap.size + 1 := by simp
  refine ⟨⟨o1, b1.drew⟩, ⟨o1.alloc _, (b1.alloc b1.size _).drew⟩, ⟨by rw [hz] at o2; exact o2, (b2.alloc b2.size _).drew⟩, ⟨?_, ?_, Nat.le_succ _⟩, ⟨(Bk.new w0 48 xc).alloc _, ?_, Nat.le_refl _⟩⟩
  · have := Bk.new (w0.alloc (.cells #[] 48)) 48 xc
    rw [hz1] at this
    exact this
  · simp [Value.ownBlock]
  · simp [Value.ownBlock]
end
end Go.Proofs.Ytfeicdflkpgbnaa
