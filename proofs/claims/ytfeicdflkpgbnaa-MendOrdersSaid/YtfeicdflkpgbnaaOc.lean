/-
  Proved: cmp.Compare over whole numbers tells -1, 0 or 1 as the numbers lie, and cmp.Or tells the first of two that is not 0. Conditions: those that each theorem lists ahead of its colon, and no others.
-/
import Derived.Test.YtfeicdflkpgbnaaOb
import Derived.Deep.QuietTactic
import Derived.BigQuiet
namespace Go.Proofs.Ytfeicdflkpgbnaa
open Go.RowKit

def cmpI (a b : Int) : Int := if a < b then -1 else if b < a then 1 else 0
theorem isnan103 (x : Int) (w : World) : Calls Try.prog 103 #[.int .i64 x] w fun e w' => e = .returned (.bool false) ∧ w = w' := by
  go_enter Try.func103, Try.ntmps103
  go_wp2_with fail
  go_ret
  exact ⟨by simp, rfl⟩
theorem cmp102 (a b : Int) (w : World) : Calls Try.prog 102 #[.int .i64 a, .int .i64 b] w fun e w' => e = .returned (.int .i64 (cmpI a b)) ∧ w = w' := by
  by_cases h1 : a < b
  · go_enter Try.func102, Try.ntmps102
    go_wp2_with fail
    refine (isnan103 _ _).mono ?_
    rintro e w' ⟨rfl, rfl⟩
    go_wp2_with fail
    refine (isnan103 _ _).mono ?_
    rintro e w' ⟨rfl, rfl⟩
    go_wp2_with fail
    go_ret
    exact ⟨by simp [cmpI, h1], rfl⟩
  · by_cases h2 : b < a
    · go_enter Try.func102, Try.ntmps102
      go_wp2_with fail
      refine (isnan103 _ _).mono ?_
      rintro e w' ⟨rfl, rfl⟩
      go_wp2_with fail
      refine (isnan103 _ _).mono ?_
      rintro e w' ⟨rfl, rfl⟩
      go_wp2_with fail
      go_ret
      exact ⟨by simp [cmpI, h1, h2], rfl⟩
    · go_enter Try.func102, Try.ntmps102
      go_wp2_with fail
      refine (isnan103 _ _).mono ?_
      rintro e w' ⟨rfl, rfl⟩
      go_wp2_with fail
      refine (isnan103 _ _).mono ?_
      rintro e w' ⟨rfl, rfl⟩
      go_wp2_with fail
      go_ret
      exact ⟨by unfold cmpI; rw [if_neg (by omega), if_neg (by omega)]; rfl, rfl⟩
def orI (a b : Int) : Int := if a = 0 then b else a
theorem or101 (a b : Int) (g : Nat) (w : World) (h0 : w.cell? ⟨g, 0, none⟩ = some (.int .i64 a)) (h1 : w.cell? ⟨g, 1, none⟩ = some (.int .i64 b)) :
    Calls Try.prog 101 #[.slice (some ⟨g, 0, none⟩) 2 2] w fun e w' => e = .returned (.int .i64 (orI a b)) ∧ w = w' := by
  have H0 := Lib.hid h0
  have H1 := Lib.hid h1
  clear h0 h1
  go_enter Try.func101, Try.ntmps101
  go_wp2_with fail
  go_loop [5, 8] (fun _ i => ∃ k : Nat, k ≤ 2 ∧ i = .int .i64 k ∧ (1 ≤ k → a = 0) ∧ (2 ≤ k → b = 0)) (fun _ i => 2 - (intOf i).toNat)
  case atStart => exact ⟨0, by omega, rfl, fun h => absurd h (by omega), fun h => absurd h (by omega)⟩
  case round =>
    obtain ⟨k, hk, rfl, hz⟩ := hrel
    have HZ := Lib.hid hz
    clear hz
    rcases (show k = 0 ∨ k = 1 ∨ k = 2 by omega) with rfl | rfl | rfl
    · have c0 := H0.out
      by_cases ha : a = 0
      · have hd : (a != 0) = false := by rw [bne_eq_false_iff_eq]; exact ha
        have HA := Lib.hid ha
        clear ha
        go_wp2_with fail
        go_round
        case rel => exact ⟨1, by omega, rfl, fun _ => HA.out, fun h => absurd h (by omega)⟩
        case measure => simp [intOf]
      · have hd : (a != 0) = true := by rw [bne_iff_ne]; exact ha
        have HA := Lib.hid ha
        clear ha
        go_wp2_with fail
        go_ret
        exact ⟨by unfold orI; rw [if_neg HA.out]; rfl, rfl⟩
    · have c1 := H1.out
      have HA := Lib.hid (HZ.out.1 (by omega))
      by_cases hb : b = 0
      · have hd : (b != 0) = false := by rw [bne_eq_false_iff_eq]; exact hb
        have HB := Lib.hid hb
        clear hb
        go_wp2_with fail
        go_round
        case rel => exact ⟨2, by omega, rfl, fun _ => HA.out, fun _ => HB.out⟩
        case measure => simp [intOf]
      · have hd : (b != 0) = true := by rw [bne_iff_ne]; exact hb
        clear hb
        go_wp2_with fail
        go_ret
        exact ⟨by unfold orI; rw [if_pos HA.out]; rfl, rfl⟩
    · have HA := Lib.hid (HZ.out.1 (by omega))
      have HB := Lib.hid (HZ.out.2 (by omega))
      go_wp2_with fail
      go_ret
      exact ⟨by unfold orI; rw [if_pos HA.out, HB.out]; rfl, rfl⟩
theorem less_or (a b : Fd) : decide (orI (cmpI a.hd.index b.hd.index) (cmpI a.at_ b.at_) < 0) = lessF a b := by
  unfold orI cmpI lessF
  by_cases h1 : a.hd.index < b.hd.index
  · simp [h1]
  · by_cases h2 : b.hd.index < a.hd.index
    · have : ¬ a.hd.index = b.hd.index := by omega
      simp [h1, h2, this]
    · have : a.hd.index = b.hd.index := by omega
      by_cases h3 : a.at_ < b.at_
      · simp [this, h3]
      · by_cases h4 : b.at_ < a.at_ <;> simp [this, h3, h4]
end Go.Proofs.Ytfeicdflkpgbnaa
