/-
  Proved: crc.Step, descantref03.Step and descantref03.Eight turn a sum by one bit, or by eight, as the plain functions do. Conditions: those that each theorem lists ahead of its colon, and no others.
-/
import Derived.Test.YtfeicdflkpgbnaaProg
import Derived.Test.YtfeicdflkpgbnaaPb
import Derived.WalkKit
import Derived.WalkSpells
import Derived.WalkLawsBesides
import Derived.Handy
import Derived.Lib.Hide
import Derived.Outline
namespace Go.Proofs.Ytfeicdflkpgbnaa
open Go.RowKit




theorem stepN_odd {x : Nat} (h1 : x < 4294967296) (h : x % 2 = 1) : ((stepN x : Nat) : Int) = bits .xor .u32 ((x : Int) / 2) 3988292384 := by
  unfold stepN; rw [if_pos h]; exact (u32_xor_nat (x / 2) 3988292384 (by omega) (by decide)).symm
theorem stepN_evn {x : Nat} (h : x % 2 = 0) : ((stepN x : Nat) : Int) = (x : Int) / 2 := by unfold stepN; rw [if_neg (by omega)]; rfl
theorem and1 {n : Nat} (h1 : n < 4294967296) : bits .and .u32 (n : Int) 1 = ((n % 2 : Nat) : Int) := (u32_and_nat n 1 (by omega) (by decide)).trans (by rw [Nat.and_one_is_mod])
theorem odd_of {n : Nat} (h1 : n < 4294967296) (h : (bits .and .u32 (n : Int) 1 == 1) = true) : n % 2 = 1 := by
  rw [and1 h1] at h; have := of_decide_eq_true h; omega
theorem evn_of {n : Nat} (h1 : n < 4294967296) (h : (bits .and .u32 (n : Int) 1 == 1) = false) : n % 2 = 0 := by
  rw [and1 h1] at h; have := of_decide_eq_false h; omega

set_option maxHeartbeats 400000 in
theorem step26 (x : Int) (w : World) (h0 : 0 ≤ x) (h1 : x < 4294967296) :
    Calls Try.prog 26 #[.int .u32 x] w fun e w' => e = .returned (.int .u32 (stepN x.toNat : Nat)) ∧ w = w' := by
  obtain ⟨n, rfl⟩ := Int.eq_ofNat_of_zero_le h0
  rw [Int.toNat_natCast]; replace h1 : n < 4294967296 := by omega
  clear h0
  go_enter Try.func26, Try.ntmps26
  go_wp2
  · go_ret
    exact ⟨ret_eq (int_eq (stepN_odd (by omega) (odd_of (by omega) ‹_›)).symm), rfl⟩
  · go_ret
    exact ⟨ret_eq (int_eq (stepN_evn (evn_of (by omega) ‹_›)).symm), rfl⟩

set_option maxHeartbeats 400000 in
theorem step77 (x : Int) (w : World) (h0 : 0 ≤ x) (h1 : x < 4294967296) :
    Calls Try.prog 77 #[.int .u32 x] w fun e w' => e = .returned (.int .u32 (stepN x.toNat : Nat)) ∧ w = w' := by
  obtain ⟨n, rfl⟩ := Int.eq_ofNat_of_zero_le h0
  rw [Int.toNat_natCast]; replace h1 : n < 4294967296 := by omega
  clear h0
  go_enter Try.func77, Try.ntmps77
  go_wp2
  · have h : ((n : Int) % 2 == 1) = true := by assumption
    have h' := of_decide_eq_true h
    go_ret
    exact ⟨ret_eq (int_eq (stepN_odd (by omega) (by omega)).symm), rfl⟩
  · have h : ((n : Int) % 2 == 1) = false := by assumption
    have h' := of_decide_eq_false h
    go_ret
    exact ⟨ret_eq (int_eq (stepN_evn (by omega)).symm), rfl⟩

set_option maxHeartbeats 400000 in
theorem eight69 (x : Int) (w : World) (h0 : 0 ≤ x) (h1 : x < 4294967296) :
    Calls Try.prog 69 #[.int .u32 x] w fun e w' => e = .returned (.int .u32 (eightN x.toNat : Nat)) ∧ w = w' := by
  obtain ⟨n, rfl⟩ := Int.eq_ofNat_of_zero_le h0
  rw [Int.toNat_natCast]; replace h1 : n < 4294967296 := by omega
  clear h0
  go_enter Try.func69, Try.ntmps69
  go_wp2
  go_loop [0, 3] (fun x i => ∃ k : Nat, k ≤ 8 ∧ i = .int .i64 k ∧ x = .int .u32 (stepsN k n : Nat)) (fun _ i => 8 - (intOf i).toNat)
  case atStart => exact ⟨0, by omega, rfl, rfl⟩
  case round =>
    obtain ⟨k, hk, rfl, rfl⟩ := hrel
    have hb := stepsN_lt (x := n) (by omega) k
    by_cases hlt : k < 8
    · go_wp2_with (go_at_call 77; refine (step77 _ _ (by omega) (by omega)).mono ?_; rintro e w' ⟨rfl, rfl⟩)
      go_round
      case rel => exact ⟨k + 1, by omega, by go_num, by simp [stepsN]⟩
      case measure => simp [intOf]; omega
    · obtain rfl : k = 8 := by omega
      go_wp2
      go_ret
      exact ⟨rfl, rfl⟩
end Go.Proofs.Ytfeicdflkpgbnaa
