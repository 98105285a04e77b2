/-
  Proved: queue.Less tells whether one block stands ahead of another one, by its number and then by its place. Conditions: those that each theorem lists ahead of its colon, and no others.
-/
import Derived.Test.YtfeicdflkpgbnaaOc
import Derived.Deep.RegionHeld3
namespace Go.Proofs.Ytfeicdflkpgbnaa
open Go.RowKit

set_option maxHeartbeats 1000000 in
theorem less97 (g n cap i j : Nat) (B : Nat) (es : List El) (w : World) (h : w.ownsRow B 45 11 (.slice (some ⟨g, 0, none⟩) n cap) n (cellsE es)) (hn : n = es.length) (hi : i < es.length) (hj : j < es.length) :
    Calls Try.prog 97 #[.slice (some ⟨g, 0, none⟩) n cap, .int .i64 i, .int .i64 j] w fun e w' => e = .returned (.bool (lessE es[i] es[j])) ∧ Below w.heap.size w w' := by
  obtain ⟨a0, a1, a2⟩ := own_cell h hi
  obtain ⟨b0, b1, b2⟩ := own_cell h hj
  have hL := Lib.hid (less_or es[i].f es[j].f)
  have hi' : (i : Int) < (n : Int) := by omega
  have hj' : (j : Int) < (n : Int) := by omega
  have lg := World.block_lt_of_cell? w _ a0
  unfold lessE
  clear h a1 b1
  generalize es[i].f.hd.index = x at *
  generalize es[j].f.hd.index = y at *
  generalize es[i].f.at_ = p at *
  generalize es[j].f.at_ = q at *
  generalize lessF es[i].f es[j].f = r at *
  clear hn hi hj
  go_enter Try.func97, Try.ntmps97
  go_wp2_with fail
  go_region_held3 (fun w' => w'.cell? ⟨g, i * 11, none⟩ = some (.int .i64 p) ∧ w'.cell? ⟨g, j * 11, none⟩ = some (.int .i64 q) ∧ w'.cell? ⟨g, i * 11 + 1 + 1, none⟩ = some (.int .i64 x) ∧ w'.cell? ⟨g, j * 11 + 1 + 1, none⟩ = some (.int .i64 y))
    (first | go_keep | (go_split_ands; refine ⟨?_, ?_, ?_, ?_⟩ <;> assumption))
    (first | (go_at_call 102; refine (cmp102 _ _ _).mono ?_; rintro e w' ⟨rfl, rfl⟩) | (go_at_call 101; refine (or101 (cmpI x y) (cmpI p q) w.heap.size _ ?_ ?_).mono ?_; exact (Bk.new w 3 #[.int .i64 (cmpI x y), .int .i64 (cmpI p q)]).cell 0; exact (Bk.new w 3 #[.int .i64 (cmpI x y), .int .i64 (cmpI p q)]).cell 1; rintro e w' ⟨rfl, rfl⟩))
  go_wp2_with fail
  go_ret
  refine ⟨by rw [hL.out]; rfl, ?_⟩
  exact (((Below.refl _ w).alloc (Nat.le_refl _) _).drew)
end Go.Proofs.Ytfeicdflkpgbnaa
