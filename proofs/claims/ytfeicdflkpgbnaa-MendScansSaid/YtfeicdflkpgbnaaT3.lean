/-
  Proved: crc.Make makes the table of the plain sum; Table.feed, Table.Next from the sum 0, and Table.Sum are that sum by the table. Conditions: those that each theorem lists ahead of its colon, and no others.
-/
import Derived.Test.YtfeicdflkpgbnaaT2
namespace Go.Proofs.Ytfeicdflkpgbnaa
open Go.RowKit

/-- The table after k rounds. -/
def tabN (k : Nat) : Array Value := ((List.range 256).map fun i => Value.int .u32 (if i < k then ((eightN i : Nat) : Int) else 0)).toArray
/-- The table that crc.Make makes lies in block g. -/
def Tb (w : World) (g : Nat) : Prop := Bk w g 73 (tabN 256)

theorem tabN_get {k i : Nat} (hi : i < 256) : (tabN k)[i]? = some (.int .u32 (if i < k then ((eightN i : Nat) : Int) else 0)) := by
  unfold tabN
  simp [hi]
theorem Tb.cell {w : World} {g i : Nat} (h : Tb w g) (hi : i < 256) : w.cell? ⟨g, i, none⟩ = some (.int .u32 ((eightN i : Nat) : Int)) := by
  rw [Bk.cell h, tabN_get hi, if_pos hi]

theorem xor8 {a b : Nat} (ha : a < 256) (hb : b < 256) : bits .xor .u8 (a : Int) (b : Int) = ((a ^^^ b : Nat) : Int) := u8_xor_nat a b ha hb
theorem feed_eq {x c : Nat} (hx : x < 4294967296) (hc : c < 256) : bits .xor .u32 ((x : Int) / 256) ((eightN (x % 256 ^^^ c) : Nat) : Int) = ((eightN (x ^^^ c) : Nat) : Int) := by
  rw [eightN_table x c]
  exact xor32 (a := x / 256) (b := eightN (x % 256 ^^^ c)) (by omega) (eightN_lt (Nat.lt_trans (table_small hc) (by decide)))

set_option maxHeartbeats 400000 in
set_option maxRecDepth 20000 in
theorem feed75 (x c : Nat) (g : Nat) (w : World) (h : Tb w g) (hx : x < 4294967296) (hc : c < 256) :
    Calls Try.prog 75 #[.pointer (some ⟨g, 0, none⟩), .int .u32 x, .int .u8 c] w fun e w' => e = .returned (.int .u32 (eightN (x ^^^ c) : Nat)) ∧ w = w' := by
  have hsm := table_small hc (x := x)
  have hcell := h.cell hsm
  have hx8 : bits .xor .u8 ((x : Int) % 256) (c : Int) = ((x % 256 ^^^ c : Nat) : Int) := xor8 (a := x % 256) (by omega) hc
  have Hf := Lib.hid (feed_eq hx hc)
  clear hx
  generalize x % 256 ^^^ c = i at *
  go_enter Try.func75, Try.ntmps75
  go_wp2
  go_ret
  exact ⟨ret_eq (int_eq Hf.out), rfl⟩

set_option maxHeartbeats 400000 in
set_option maxRecDepth 20000 in
theorem next63 (n c : Nat) (A : Option Addr) (bs : List UInt8) (g : Nat) (w : World) (B : Nat) (h : Tb w g) (hb : Bs w B A bs) (hn : n = bs.length) (hm : n ≤ 65536) :
    Calls Try.prog 63 #[.pointer (some ⟨g, 0, none⟩), .int .u32 0, .slice A n c] w fun e w' => e = .returned (.int .u32 (sumN bs : Nat)) ∧ w = w' := by
  subst hn
  go_enter Try.func63, Try.ntmps63
  go_wp2
  go_loop [7, 16] (fun x i => ∃ k : Nat, k ≤ bs.length ∧ i = .int .i64 k ∧ x = .int .u32 (feedN 4294967295 (bs.take k) : Nat)) (fun _ i => bs.length - (intOf i).toNat)
  case atStart => exact ⟨0, by omega, rfl, by rw [xor0]; rfl⟩
  case round =>
    obtain ⟨k, hk, rfl, rfl⟩ := hrel
    have hf := feedN_lt (bs.take k) (x := 4294967295) (by decide)
    by_cases hlt : k < bs.length
    · obtain ⟨b, o, rfl, _, hc⟩ := hb.mem hlt
      have hck := hc k hlt
      have Hn := Lib.hid (feed_next 4294967295 bs hlt)
      have hb8 := bs[k].toNat_lt
      clear hc
      generalize feedN 4294967295 (bs.take k) = y at *
      generalize bs[k] = v at *
      go_wp2_with fail
      refine (feed75 _ _ _ _ h hf hb8).mono ?_
      rintro e w' ⟨rfl, rfl⟩
      rw [← Hn.out]
      go_wp2_with fail
      go_round
      case rel => exact ⟨k + 1, by omega, by go_num, rfl⟩
      case measure => simp [intOf]; omega
    · obtain rfl : k = bs.length := by omega
      go_wp2
      go_ret
      exact ⟨ret_eq (int_eq (by rw [xorM (by rwa [List.take_length] at hf)]; rfl)), rfl⟩

set_option maxHeartbeats 400000 in
theorem sum45 (n c : Nat) (A : Option Addr) (bs : List UInt8) (g : Nat) (w : World) (B : Nat) (h : Tb w g) (hb : Bs w B A bs) (hn : n = bs.length) (hm : n ≤ 65536) :
    Calls Try.prog 45 #[.pointer (some ⟨g, 0, none⟩), .slice A n c] w fun e w' => e = .returned (.int .u32 (sumN bs : Nat)) ∧ w = w' := by
  have Hn := Lib.hid hn
  clear hn
  go_enter Try.func45, Try.ntmps45
  go_wp2_with (go_at_call 63; refine (next63 n c A bs g _ B h hb Hn.out hm).mono ?_; rintro e w' ⟨rfl, rfl⟩)
  go_ret
  exact ⟨rfl, rfl⟩

theorem tabN_size (k : Nat) : (tabN k).size = 256 := by simp [tabN]
theorem tabN_zero : Try.zeroCells73 = tabN 0 := by kernel_rfl
theorem tabN_next {k : Nat} (hk : k < 256) : (tabN k).setIfInBounds k (.int .u32 ((eightN k : Nat) : Int)) = tabN (k + 1) := by
  apply Array.ext_getElem?
  intro i
  rw [Array.getElem?_setIfInBounds, tabN_size]
  by_cases hi : i < 256
  · rw [tabN_get hi, tabN_get hi]
    by_cases hki : k = i
    · subst hki; simp [hk]
    · rw [if_neg hki]
      by_cases h1 : i < k
      · rw [if_pos h1, if_pos (by omega)]
      · rw [if_neg h1, if_neg (by omega)]
  · rw [if_neg (by omega), Array.getElem?_eq_none (by rw [tabN_size]; omega), Array.getElem?_eq_none (by rw [tabN_size]; omega)]

set_option maxHeartbeats 1000000 in
set_option maxRecDepth 20000 in
theorem make8 (w : World) :
    Calls Try.prog 8 #[] w fun e w' => e = .returned (.pointer (some ⟨w.heap.size, 0, none⟩)) ∧ Tb w' w.heap.size ∧ Below w.heap.size w w' := by
  go_enter Try.func8, Try.ntmps8
  go_wp2
  go_loopw [6] (fun i wr => ∃ k : Nat, k ≤ 256 ∧ i = .int .i64 k ∧ Bk wr w.heap.size 73 (tabN k) ∧ Below w.heap.size w wr) (fun i _ => 256 - (intOf i).toNat)
  case atStart => exact ⟨0, by omega, rfl, by rw [tabN_zero]; exact Bk.new w _ _, (Below.refl _ _).alloc (Nat.le_refl _) _⟩
  case round =>
    obtain ⟨k, hk, rfl, hB, hbl⟩ := hrel
    by_cases hlt : k < 256
    · have hd : decide ((k : Int) < 256) = true := by simp; omega
      go_wp2_with fail
      obtain ⟨wo, rfl⟩ : ∃ wo : World, wo = wr := ⟨_, rfl⟩
      go_loop [3, 11] (fun x j => ∃ i : Nat, i ≤ 8 ∧ j = .int .i64 i ∧ x = .int .u32 (stepsN i k : Nat)) (fun _ j => 8 - (intOf j).toNat)
      case atStart => exact ⟨0, by omega, rfl, rfl⟩
      case round =>
        obtain ⟨i, hi, rfl, rfl⟩ := hrel
        have hs := stepsN_lt (x := k) (by omega) i
        by_cases hi8 : i < 8
        · go_wp2_with (go_at_call 26; refine (step26 _ _ (by omega) (by omega)).mono ?_; rintro e w' ⟨rfl, rfl⟩)
          go_round
          case rel => exact ⟨i + 1, by omega, by go_num, by simp [stepsN]⟩
          case measure => simp [intOf]; omega
        · obtain rfl : i = 8 := by omega
          have hc := hB.cell k
          rw [tabN_get hlt] at hc
          have hz := hB.frozen k
          have HB := Lib.hid (hB.set_ k (.int .u32 ((stepsN 8 k : Nat) : Int)))
          clear hB
          go_wp2
          go_roundw
          case rel => exact ⟨k + 1, by omega, by go_num, by rw [← tabN_next hlt]; exact HB.out, hbl.setCell (Nat.le_refl _) _⟩
          case measure => simp [intOf]; omega
    · obtain rfl : k = 256 := by omega
      go_wp2
      go_ret
      exact ⟨rfl, hB, hbl⟩
end Go.Proofs.Ytfeicdflkpgbnaa
