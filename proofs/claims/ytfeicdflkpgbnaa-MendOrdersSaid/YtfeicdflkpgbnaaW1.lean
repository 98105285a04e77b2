/-
  Proved: descantref04.Bytes lays a number into so many bytes. Conditions: those that each theorem lists ahead of its colon, and no others.
-/
import Derived.Test.YtfeicdflkpgbnaaV6
namespace Go.Proofs.Ytfeicdflkpgbnaa
open Go.RowKit

/-- A number's four lowest bytes. -/
def le4 (x : Nat) : List UInt8 := [UInt8.ofNat x, UInt8.ofNat (x / 256), UInt8.ofNat (x / 65536), UInt8.ofNat (x / 16777216)]
def byA (k x : Nat) : Array Value := #[.int .u8 (if 0 < k then ((x % 256 : Nat) : Int) else 0), .int .u8 (if 1 < k then ((x / 256 % 256 : Nat) : Int) else 0), .int .u8 (if 2 < k then ((x / 65536 % 256 : Nat) : Int) else 0), .int .u8 (if 3 < k then ((x / 16777216 % 256 : Nat) : Int) else 0)]
theorem byA_end (x : Nat) : (byA 4 x).toList = (le4 x).map B8 := by simp [byA, le4, B8]
theorem byA_next {k x : Nat} (hk : k < 4) : (byA k x).setIfInBounds k (.int .u8 ((x / 256 ^ k % 256 : Nat) : Int)) = byA (k + 1) x := by
  have : k = 0 ∨ k = 1 ∨ k = 2 ∨ k = 3 := by omega
  rcases this with rfl | rfl | rfl | rfl <;> simp [byA]

theorem Rd.of_bk {w : World} {g : Nat} {t : TypeId} {cs : Array Value} (h : Bk w g t cs) : Rd w w.heap.size (some ⟨g, 0, none⟩) cs.toList := fun _ =>
  ⟨g, 0, rfl, h.lt, fun j u hu => by rw [Nat.zero_add, h.cell]; simpa using hu⟩

set_option maxHeartbeats 1000000 in
set_option maxRecDepth 20000 in
theorem bytes43 (x : Nat) (w : World) (hx : x < 18446744073709551616) :
    Calls Try.prog 43 #[.int .u64 x, .int .i64 4] w (NewBytes w (le4 x)) := by
  have hmk : ∀ w : World, (Instr.makeSlice 22 (.int .i64 4) (.int .i64 4)).run Try.prog w = .ok (.slice (some ⟨w.heap.size, 0, none⟩) 4 4) (w.alloc (.cells #[.int .u8 0, .int .u8 0, .int .u8 0, .int .u8 0] 5)) := fun _ => by kernel_rfl
  go_enter Try.func43, Try.ntmps43
  go_wp2_with fail
  go_loopw [0, 6] (fun v i wr => ∃ k : Nat, k ≤ 4 ∧ i = .int .i64 k ∧ v = .int .u64 (x / 256 ^ k : Nat) ∧ Bk wr w.heap.size 5 (byA k x) ∧ Below w.heap.size w wr) (fun _ i _ => 4 - (intOf i).toNat)
  case atStart => exact ⟨0, by omega, rfl, by simp, Bk.new w 5 _, (Below.refl _ w).alloc (Nat.le_refl _) _⟩
  case round =>
    obtain ⟨k, hk, rfl, rfl, hB, hbl⟩ := hrel
    have HB := Lib.hid hB
    have HW := Lib.hid hbl
    have hs := hB.lt
    have hq : x / 256 ^ k ≤ x := Nat.div_le_self _ _
    by_cases hlt : k < 4
    · have H2 := Lib.hid (show Bk (wr.setCell ⟨w.heap.size, k, none⟩ (.int .u8 ((x / 256 ^ k % 256 : Nat) : Int))) w.heap.size 5 (byA (k + 1) x) by rw [← byA_next hlt]; exact hB.set_ k _)
      have W2 := Lib.hid (hbl.setCell (p := ⟨w.heap.size, k, none⟩) (Nat.le_refl _) (.int .u8 ((x / 256 ^ k % 256 : Nat) : Int)))
      have hf := hB.frozen k
      have hc : ∃ u, wr.cell? ⟨w.heap.size, k, none⟩ = some u := by
        rw [hB.cell k]
        exact ⟨_, Array.getElem?_eq_getElem (by simpa [byA] using hlt)⟩
      obtain ⟨u, hu⟩ := hc
      have hnx : x / 256 ^ (k + 1) = x / 256 ^ k / 256 := by rw [Nat.pow_succ, Nat.div_div_eq_div_mul]
      have HN := Lib.hid hnx
      clear hB hbl hnx
      generalize x / 256 ^ k = y at *
      go_wp2_with fail
      go_roundw
      case rel => exact ⟨k + 1, by omega, by go_num, by rw [HN.out]; rfl, H2.out, W2.out⟩
      case measure => simp [intOf]; omega
    · obtain rfl : k = 4 := by omega
      go_wp2_with fail
      go_ret
      exact ⟨some ⟨w.heap.size, 0, none⟩, 4, rfl, Nat.le_refl _, (by
        have h := Rd.of_bk HB.out
        rwa [byA_end] at h), HW.out, fun a e => by injection e with e; subst e; exact Nat.le_refl _⟩
end Go.Proofs.Ytfeicdflkpgbnaa
