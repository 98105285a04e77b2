/-
  Proved: descantref03.Next from the sum 0, and descantref03.Sum, of bytes are the plain sum of 32 bits. Conditions: those that each theorem lists ahead of its colon, and no others.
-/
import Derived.Test.YtfeicdflkpgbnaaT1
import Derived.Test.YtfeicdflkpgbnaaPb
namespace Go.Proofs.Ytfeicdflkpgbnaa
open Go.RowKit

theorem feed_next (x : Nat) (bs : List UInt8) {k : Nat} (hk : k < bs.length) : feedN x (bs.take (k + 1)) = eightN (feedN x (bs.take k) ^^^ bs[k].toNat) := by
  rw [List.take_succ_eq_append_getElem hk, feedN_snoc]
theorem xor32 {a b : Nat} (ha : a < 4294967296) (hb : b < 4294967296) : bits .xor .u32 (a : Int) (b : Int) = ((a ^^^ b : Nat) : Int) := u32_xor_nat a b ha hb
theorem xorM {a : Nat} (ha : a < 4294967296) : bits .xor .u32 (a : Int) 4294967295 = ((a ^^^ 4294967295 : Nat) : Int) := u32_xor_nat a 4294967295 ha (by decide)
theorem xor0 : bits .xor .u32 0 4294967295 = ((4294967295 : Nat) : Int) := by decide

set_option maxHeartbeats 400000 in
theorem next50 (n c : Nat) (A : Option Addr) (bs : List UInt8) (w : World) (B : Nat) (hb : Bs w B A bs) (hn : n = bs.length) (hm : n ≤ 65536) :
    Calls Try.prog 50 #[.int .u32 0, .slice A n c] w fun e w' => e = .returned (.int .u32 (sumN bs : Nat)) ∧ w = w' := by
  subst hn
  go_enter Try.func50, Try.ntmps50
  go_wp2
  go_loop [5, 6] (fun x i => ∃ k : Nat, k ≤ bs.length ∧ i = .int .i64 k ∧ x = .int .u32 (feedN 4294967295 (bs.take k) : Nat)) (fun _ i => bs.length - (intOf i).toNat)
  case atStart => exact ⟨0, by omega, rfl, by rw [xor0]; rfl⟩
  case round =>
    obtain ⟨k, hk, rfl, rfl⟩ := hrel
    have hf := feedN_lt (bs.take k) (x := 4294967295) (by decide)
    by_cases hlt : k < bs.length
    · obtain ⟨b, o, rfl, _, hc⟩ := hb.mem hlt
      have hck := hc k hlt
      have Hn := Lib.hid (feed_next 4294967295 bs hlt)
      have hb8 := bs[k].toNat_lt
      clear hc
      generalize feedN 4294967295 (bs.take k) = y at *
      generalize bs[k] = v at *
      go_wp2_with fail
      rw [xor32 hf (byte32 v)]
      have hx := xor_lt32 hf (byte32 v)
      refine (eight69 _ _ (by omega) (by omega)).mono ?_
      rintro e w' ⟨rfl, rfl⟩
      rw [Int.toNat_natCast, ← Hn.out]
      go_wp2_with fail
      go_round
      case rel => exact ⟨k + 1, by omega, by go_num, rfl⟩
      case measure => simp [intOf]; omega
    · obtain rfl : k = bs.length := by omega
      go_wp2
      go_ret
      exact ⟨ret_eq (int_eq (by rw [xorM (by rwa [List.take_length] at hf)]; rfl)), rfl⟩

set_option maxHeartbeats 400000 in
theorem sum30 (n c : Nat) (A : Option Addr) (bs : List UInt8) (w : World) (B : Nat) (hb : Bs w B A bs) (hn : n = bs.length) (hm : n ≤ 65536) :
    Calls Try.prog 30 #[.slice A n c] w fun e w' => e = .returned (.int .u32 (sumN bs : Nat)) ∧ w = w' := by
  have Hn := Lib.hid hn
  clear hn
  go_enter Try.func30, Try.ntmps30
  go_wp2_with (go_at_call 50; refine (next50 n c A bs _ B hb Hn.out hm).mono ?_; rintro e w' ⟨rfl, rfl⟩)
  go_ret
  exact ⟨rfl, rfl⟩
end Go.Proofs.Ytfeicdflkpgbnaa
