/-
  Proved: head.Right and descantref22.Right tell whether a head may be. Conditions: those that each theorem lists ahead of its colon, and no others.
-/
import Derived.Test.YtfeicdflkpgbnaaT6
namespace Go.Proofs.Ytfeicdflkpgbnaa
open Go.RowKit

theorem wB_yes {x lo hi : Int} (h1 : lo ≤ x) (h2 : x ≤ hi) : wB x lo hi = true := decide_eq_true ⟨h1, h2⟩
theorem wB_no1 {x lo hi : Int} (h1 : x < lo) : wB x lo hi = false := decide_eq_false fun h => by omega
theorem wB_no2 {x lo hi : Int} (h1 : hi < x) : wB x lo hi = false := decide_eq_false fun h => by omega

set_option maxHeartbeats 400000 in
theorem within68 (x lo hi : Int) (w : World) :
    Calls Try.prog 68 #[.int .i64 x, .int .i64 lo, .int .i64 hi] w fun e w' => e = .returned (.bool (wB x lo hi)) ∧ w = w' := by
  by_cases h1 : lo ≤ x
  · by_cases h2 : x ≤ hi
    · go_enter Try.func68, Try.ntmps68
      go_wp2
      go_ret
      exact ⟨ret_eq (congrArg Value.bool (wB_yes h1 h2).symm), rfl⟩
    · go_enter Try.func68, Try.ntmps68
      go_wp2
      go_ret
      exact ⟨ret_eq (congrArg Value.bool (wB_no2 (by omega)).symm), rfl⟩
  · go_enter Try.func68, Try.ntmps68
    go_wp2
    go_ret
    exact ⟨ret_eq (congrArg Value.bool (wB_no1 (by omega)).symm), rfl⟩

set_option maxHeartbeats 1600000 in
set_option maxRecDepth 20000 in
theorem right49 (k i l s b : Int) (t : Bool) (n z : Int) (w : World) :
    Calls Try.prog 49 #[.agg (Hd.mk k i l s b t n z).cells.toArray] w fun e w' => e = .returned (.bool (rightB (Hd.mk k i l s b t n z))) ∧ Below w.heap.size w w' := by
  unfold Hd.cells
  dsimp only
  go_enter Try.func49, Try.ntmps49
  go_wp2_with (go_at_call 68; refine (within68 _ _ _ _).mono ?_; rintro e w' ⟨rfl, rfl⟩)
  all_goals
    go_ret
    refine ⟨ret_eq (congrArg Value.bool ?_), (Below.refl _ _).alloc (Nat.le_refl _) _⟩
    unfold rightB
    dsimp only
    simp_all

theorem wrap_half {s : Int} (h1 : 1 ≤ s) (h2 : s ≤ 2147483648) : wrap64 (s.tdiv 2) = s / 2 := by
  rw [Int.tdiv_eq_ediv_of_nonneg (by omega)]
  exact IntWalk.wrap64_in _ ⟨by omega, by omega⟩
theorem rightB_true {h : Hd} : rightB h = true ↔ (1 ≤ h.kind ∧ h.kind ≤ 3) ∧ (0 ≤ h.index ∧ h.index ≤ 4294967295) ∧ (1 ≤ h.length ∧ h.length ≤ 65536) ∧ (1 ≤ h.step ∧ h.step ≤ 2147483648) ∧
    (0 ≤ h.bound ∧ h.bound ≤ h.step / 2) ∧ (0 ≤ h.size ∧ h.size ≤ 16777216) ∧ (h.last = true → h.kind = 1) ∧ (h.link = 0 ∨ h.kind = 2) ∧ (h.step = 1 ∨ ¬ h.kind = 3) := by
  by_cases hs : 1 ≤ h.step ∧ h.step ≤ 2147483648
  · unfold rightB wB
    rw [wrap_half hs.1 hs.2]
    simp only [Bool.and_eq_true, decide_eq_true_eq, Bool.not_eq_true', Bool.and_eq_false_iff, bne_eq_false_iff_eq, beq_eq_false_iff_ne, ne_eq]
    cases h.last <;> simp [and_assoc]
  · constructor
    · intro hr
      unfold rightB wB at hr
      simp only [Bool.and_eq_true, decide_eq_true_eq] at hr
      exact absurd hr.1.1.1.1.1.2 hs
    · intro hr
      exact absurd hr.2.2.2.1 hs
theorem rightB_last {k i l s b n z : Int} : rightB (Hd.mk k i l s b true n z) = true ↔ (1 ≤ k ∧ k ≤ 3) ∧ (0 ≤ i ∧ i ≤ 4294967295) ∧ (1 ≤ l ∧ l ≤ 65536) ∧ (1 ≤ s ∧ s ≤ 2147483648) ∧
    (0 ≤ b ∧ b ≤ s / 2) ∧ (0 ≤ z ∧ z ≤ 16777216) ∧ k = 1 ∧ (n = 0 ∨ k = 2) ∧ (s = 1 ∨ ¬ k = 3) := by rw [rightB_true]; simp
theorem rightB_more {k i l s b n z : Int} : rightB (Hd.mk k i l s b false n z) = true ↔ (1 ≤ k ∧ k ≤ 3) ∧ (0 ≤ i ∧ i ≤ 4294967295) ∧ (1 ≤ l ∧ l ≤ 65536) ∧ (1 ≤ s ∧ s ≤ 2147483648) ∧
    (0 ≤ b ∧ b ≤ s / 2) ∧ (0 ≤ z ∧ z ≤ 16777216) ∧ (n = 0 ∨ k = 2) ∧ (s = 1 ∨ ¬ k = 3) := by rw [rightB_true]; simp
theorem bool_no {b : Bool} (h : ¬ b = true) : false = b := by cases b <;> simp_all
theorem bool_dec {b : Bool} {p : Prop} [Decidable p] (h : b = true ↔ p) : decide p = b := by cases b <;> simp_all

set_option maxHeartbeats 1600000 in
set_option maxRecDepth 20000 in
theorem right41 (k i l s b : Int) (t : Bool) (n z : Int) (w : World) :
    Calls Try.prog 41 #[.agg (Hd.mk k i l s b t n z).cells.toArray] w fun e w' => e = .returned (.bool (rightB (Hd.mk k i l s b t n z))) ∧ Below w.heap.size w w' := by
  unfold Hd.cells
  dsimp only
  cases t
  · go_enter Try.func41, Try.ntmps41
    go_wp2
    all_goals
      go_ret
      refine ⟨ret_eq (congrArg Value.bool ?_), (Below.refl _ _).alloc (Nat.le_refl _) _⟩
      first
        | (refine (rightB_more.2 ?_).symm; omega)
        | (refine bool_no (fun hr => ?_); have := rightB_more.1 hr; omega)
        | (refine bool_dec (rightB_more.trans ?_); omega)
        | (rw [Bool.eq_iff_iff, rightB_more]; simp; omega)
  · go_enter Try.func41, Try.ntmps41
    go_wp2
    all_goals
      go_ret
      refine ⟨ret_eq (congrArg Value.bool ?_), (Below.refl _ _).alloc (Nat.le_refl _) _⟩
      first
        | (refine (rightB_last.2 ?_).symm; omega)
        | (refine bool_no (fun hr => ?_); have := rightB_last.1 hr; omega)
        | (refine bool_dec (rightB_last.trans ?_); omega)
        | (rw [Bool.eq_iff_iff, rightB_last]; simp; omega)

end Go.Proofs.Ytfeicdflkpgbnaa
