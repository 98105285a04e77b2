/-
  Proved: descantref22.Get refuses bytes that are no head, as the plain function does. Conditions: those that each theorem lists ahead of its colon, and no others.
-/
import Derived.Test.YtfeicdflkpgbnaaU1
namespace Go.Proofs.Ytfeicdflkpgbnaa
open Go.RowKit

theorem startB_iff (bs : List UInt8) : startB bs = false ↔ (0 < bs.length ∧ byN bs 0 ≠ 222) ∨ (1 < bs.length ∧ byN bs 1 ≠ 92) := by
  unfold startB
  simp only [Bool.and_eq_false_iff, Bool.not_eq_false', Bool.and_eq_true, decide_eq_true_eq, bne_iff_ne]
theorem start0 {bs : List UInt8} (h : startB bs = true) (h0 : 0 < bs.length) : byN bs 0 = 222 := by
  have := mt (startB_iff bs).2 (by rw [h]; decide)
  omega
theorem start1 {bs : List UInt8} (h : startB bs = true) (h0 : 1 < bs.length) : byN bs 1 = 92 := by
  have := mt (startB_iff bs).2 (by rw [h]; decide)
  omega

set_option maxHeartbeats 1000000 in
set_option maxRecDepth 20000 in
theorem get29a (n c : Nat) (A : Option Addr) (bs : List UInt8) (w : World) (B : Nat) (hb : Bs w B A bs) (hB : B ≤ w.heap.size) (hn : n = bs.length) (hm : n ≤ 65536) (hs : startB bs = false) :
    Calls Try.prog 29 #[.slice A n c] w fun e w' => e = .returned (.tuple #[.agg noHd, .int .i64 30]) ∧ Below w.heap.size w w' := by
  subst hn
  have hpos : 0 < bs.length := by rcases (startB_iff bs).1 hs with h | h <;> omega
  obtain ⟨b, o, rfl, hbB, hc⟩ := (hb.alloc hB (.cells #[.int .i64 0, .int .i64 0, .int .i64 0, .int .i64 0, .int .i64 0, .bool false, .int .u32 0, .int .i64 0] 40)).at_ hpos
  have c0 := hc 0 hpos
  rw [Nat.add_zero] at c0
  by_cases h0 : byN bs 0 = 222
  · have h1 : 1 < bs.length ∧ byN bs 1 ≠ 92 := by
      rcases (startB_iff bs).1 hs with h | h
      · exact absurd h0 h.2
      · exact h
    have c1 := hc 1 h1.1
    clear hc hs
    rw [h0] at c0
    obtain ⟨h1, h2⟩ := h1
    generalize byN bs 1 = y at *
    have hd : (((y : Nat) : Int) != 92) = true := by rw [bne_iff_ne]; omega
    go_enter Try.func29, Try.ntmps29
    go_wp2_with fail
    exact bodyPost_ret (v := .tuple #[.agg noHd, .int .i64 30]) (by unfold noHd; simp [results, Try.results29, go_sem]) rfl ⟨rfl, (Below.refl _ w).alloc (Nat.le_refl _) _⟩
  · clear hc hs
    generalize byN bs 0 = y at *
    have hd : (((y : Nat) : Int) != 222) = true := by rw [bne_iff_ne]; omega
    go_enter Try.func29, Try.ntmps29
    go_wp2_with fail
    exact bodyPost_ret (v := .tuple #[.agg noHd, .int .i64 30]) (by unfold noHd; simp [results, Try.results29, go_sem]) rfl ⟨rfl, (Below.refl _ w).alloc (Nat.le_refl _) _⟩

set_option maxHeartbeats 1000000 in
set_option maxRecDepth 20000 in
theorem get29b (n c : Nat) (A : Option Addr) (bs : List UInt8) (w : World) (B : Nat) (hb : Bs w B A bs) (hB : B ≤ w.heap.size) (hn : n = bs.length) (hm : n ≤ 65536) (hs : startB bs = true) (hl : bs.length < 32) :
    Calls Try.prog 29 #[.slice A n c] w fun e w' => e = .returned (.tuple #[.agg noHd, .int .i64 10]) ∧ Below w.heap.size w w' := by
  subst hn
  have HS := Lib.hid hs
  clear hs
  rcases Nat.eq_zero_or_pos bs.length with h0 | hpos
  · clear hb hm hl HS
    rw [h0]
    clear h0
    go_enter Try.func29, Try.ntmps29
    go_wp2_with fail
    exact bodyPost_ret (v := .tuple #[.agg noHd, .int .i64 10]) (by unfold noHd; simp [results, Try.results29, go_sem]) rfl ⟨rfl, (Below.refl _ w).alloc (Nat.le_refl _) _⟩
  · obtain ⟨b, o, rfl, hbB, hc⟩ := (hb.alloc hB (.cells #[.int .i64 0, .int .i64 0, .int .i64 0, .int .i64 0, .int .i64 0, .bool false, .int .u32 0, .int .i64 0] 40)).at_ hpos
    have c0 := hc 0 hpos
    rw [Nat.add_zero, start0 HS.out hpos] at c0
    by_cases h1 : 1 < bs.length
    · have c1 := hc 1 h1
      rw [start1 HS.out h1] at c1
      clear hc
      go_enter Try.func29, Try.ntmps29
      go_wp2_with fail
      exact bodyPost_ret (v := .tuple #[.agg noHd, .int .i64 10]) (by unfold noHd; simp [results, Try.results29, go_sem]) rfl ⟨rfl, (Below.refl _ w).alloc (Nat.le_refl _) _⟩
    · clear hc
      go_enter Try.func29, Try.ntmps29
      go_wp2_with fail
      exact bodyPost_ret (v := .tuple #[.agg noHd, .int .i64 10]) (by unfold noHd; simp [results, Try.results29, go_sem]) rfl ⟨rfl, (Below.refl _ w).alloc (Nat.le_refl _) _⟩

set_option maxHeartbeats 1000000 in
set_option maxRecDepth 20000 in
theorem get29c (n c : Nat) (A : Option Addr) (bs : List UInt8) (w : World) (B : Nat) (hb : Bs w B A bs) (hB : B ≤ w.heap.size) (hn : n = bs.length) (hc : n ≤ c) (hm : n ≤ 65536) (hs : startB bs = true) (h32 : 32 ≤ bs.length) (hsum : sumN (bs.take 28) ≠ at4 bs 28) :
    Calls Try.prog 29 #[.slice A n c] w fun e w' => e = .returned (.tuple #[.agg noHd, .int .i64 33]) ∧ Below w.heap.size w w' := by
  subst hn
  have HS := Lib.hid hs
  clear hs
  have HA := hb.alloc hB (.cells #[.int .i64 0, .int .i64 0, .int .i64 0, .int .i64 0, .int .i64 0, .bool false, .int .u32 0, .int .i64 0] 40)
  obtain ⟨b, o, rfl, hbB, hcc⟩ := HA.at_ (by omega)
  have c0 := hcc 0 (by omega)
  rw [Nat.add_zero, start0 HS.out (by omega)] at c0
  have c1 := hcc 1 (by omega)
  rw [start1 HS.out (by omega)] at c1
  clear hcc
  have hv := sumN_lt (bs.take 28)
  have hd : (((sumN (bs.take 28) : Nat) : Int) != ((at4 bs 28 : Nat) : Int)) = true := by rw [bne_iff_ne]; omega
  clear hsum
  go_enter Try.func29, Try.ntmps29
  go_wp2_with fail
  refine (sum30 28 c _ (bs.take 28) _ B (Bs.take HA 28) (by simp; omega) (by omega)).mono ?_
  rintro e w1 ⟨rfl, rfl⟩
  go_wp2_with fail
  refine (at31 _ c 28 _ bs _ B HA rfl hc (by omega) hm).mono ?_
  rintro e w1 ⟨rfl, rfl⟩
  go_wp2_with fail
  exact bodyPost_ret (v := .tuple #[.agg noHd, .int .i64 33]) (by unfold noHd; simp [results, Try.results29, go_sem]) rfl ⟨rfl, (Below.refl _ w).alloc (Nat.le_refl _) _⟩
end Go.Proofs.Ytfeicdflkpgbnaa
