/-
  Proved: Taker.Raw hands out the next bytes, and descantref04.Value and descantref22.At tell the number that bytes spell. Conditions: those that each theorem lists ahead of its colon, and no others.
-/
import Derived.Test.YtfeicdflkpgbnaaT5
namespace Go.Proofs.Ytfeicdflkpgbnaa
open Go.RowKit

set_option maxHeartbeats 400000 in
set_option maxRecDepth 20000 in
theorem raw48 (g n at_ : Nat) (bs : List UInt8) (w : World) (h : Tk w g bs at_) (hn : at_ + n ≤ bs.length) (hm : bs.length ≤ 65536) :
    Calls Try.prog 48 #[.pointer (some ⟨g, 0, none⟩), .int .i64 n] w fun e w' => ∃ A c, e = .returned (.slice A n c) ∧ n ≤ c ∧ Bs w' w'.heap.size A ((bs.drop at_).take n) ∧ Tk w' g bs (at_ + n) ∧ w.grownBy w' (some g) ∧ ∀ a, A = some a → w.heap.size ≤ a.block := by
  obtain ⟨A, c, hk, _⟩ := id h
  have hc0 := hk.cell 0
  have hgs := hk.lt
  simp only [List.getElem?_toArray, List.getElem?_cons_zero] at hc0
  clear hk
  have hlen : ((bs.drop at_).take n).length = n := by simp; omega
  generalize hxs : (bs.drop at_).take n = xs at *
  have HX := Lib.hid hxs
  clear hxs
  have HL := Lib.hid hlen
  clear hlen
  go_enter Try.func48, Try.ntmps48
  go_wp2_with (go_at_call 64; refine (ready64 g _ hc0).mono ?_; rintro e w' ⟨rfl, rfl⟩)
  refine (next66 g n at_ bs _ h hn hm).mono ?_
  rintro e w1 ⟨A1, c1, rfl, hc1, hb1, hk1, hg1⟩
  rw [HX.out] at hb1
  have HK := Lib.hid hk1
  clear hk1
  have hsz := hg1.size
  go_wp2_with fail
  refine (clone54 n c1 A1 xs _ g hb1 (by omega) HL.out.symm (by omega)).mono ?_
  rintro e w2 ⟨A2, c2, rfl, hc2, hb2, hbl, ha⟩
  go_wp2_with fail
  go_ret
  refine ⟨A2, c2, ?_, ?_, hb2, HK.out.below hbl HK.out.lt, gr_below hg1 hbl, fun a e => Nat.le_trans hsz (ha a e)⟩
  · rw [HL.out]; rfl
  · rw [← HL.out]; exact hc2

theorem leV_drop (bs : List UInt8) {k : Nat} (hk : k < bs.length) : leV (bs.drop k) = bs[k].toNat + 256 * leV (bs.drop (k + 1)) := by
  rw [List.drop_eq_getElem_cons hk]; rfl
theorem leV_lt5 {bs : List UInt8} (h : bs.length ≤ 5) : leV bs < 1099511627776 := Nat.lt_of_lt_of_le (leV_lt bs) (Nat.pow_le_pow_right (n := 256) (by decide) h)
theorem val_next (bs : List UInt8) {k : Nat} (hk : k < bs.length) (h5 : bs.length ≤ 5) :
    IntKind.u64.wrap (IntKind.u64.wrap (256 * ((leV (bs.drop (k + 1)) : Nat) : Int)) + IntKind.u64.wrap ((bs[k].toNat : Nat) : Int)) = ((leV (bs.drop k) : Nat) : Int) := by
  have hb := bs[k].toNat_lt
  have h1 := leV_lt5 (bs := bs.drop (k + 1)) (by rw [List.length_drop]; omega)
  rw [leV_drop bs hk]
  generalize leV (bs.drop (k + 1)) = y at *
  generalize bs[k] = b at *
  rw [IntWalk.u64_in (256 * (y : Int)) ⟨by omega, by omega⟩, IntWalk.u64_in ((b.toNat : Nat) : Int) ⟨by omega, by omega⟩, IntWalk.u64_in _ ⟨by omega, by omega⟩]
  omega

set_option maxHeartbeats 400000 in
set_option maxRecDepth 20000 in
theorem value51 (n c : Nat) (A : Option Addr) (bs : List UInt8) (w : World) (B : Nat) (hb : Bs w B A bs) (hn : n = bs.length) (hm : n ≤ 5) :
    Calls Try.prog 51 #[.slice A n c] w fun e w' => e = .returned (.int .u64 (leV bs : Nat)) ∧ w = w' := by
  subst hn
  go_enter Try.func51, Try.ntmps51
  go_wp2
  go_loop [3, 4] (fun v i => ∃ k : Nat, k ≤ bs.length ∧ i = .int .i64 ((k : Int) - 1) ∧ v = .int .u64 (leV (bs.drop k) : Nat)) (fun _ i => (intOf i + 1).toNat)
  case atStart => exact ⟨bs.length, by omega, rfl, by simp [leV]⟩
  case round =>
    obtain ⟨k, hk, rfl, rfl⟩ := hrel
    by_cases hlt : 1 ≤ k
    · obtain ⟨j, rfl⟩ : ∃ j, k = j + 1 := ⟨k - 1, by omega⟩
      obtain ⟨b, o, rfl, _, hc⟩ := hb.mem (k := j) (by omega)
      have hck := hc j (by omega)
      have HE := Lib.hid (val_next bs (k := j) (by omega) hm)
      clear hc
      go_wp2_with fail
      exact ⟨⟨j, by omega, rfl, by rw [HE.out]⟩, by simp [intOf]⟩
    · obtain rfl : k = 0 := by omega
      go_wp2
      go_ret
      exact ⟨rfl, rfl⟩

theorem leV_lt4 {bs : List UInt8} (h : bs.length ≤ 4) : leV bs < 4294967296 := Nat.lt_of_lt_of_le (leV_lt bs) (Nat.pow_le_pow_right (n := 256) (by decide) h)
theorem at4_lt (bs : List UInt8) (k : Nat) : at4 bs k < 4294967296 := leV_lt4 (by rw [List.length_take]; omega)

set_option maxHeartbeats 400000 in
set_option maxRecDepth 20000 in
theorem at31 (n c k : Nat) (A : Option Addr) (bs : List UInt8) (w : World) (B : Nat) (hb : Bs w B A bs) (hn : n = bs.length) (hnc : n ≤ c) (hk : k + 4 ≤ n) (hm : n ≤ 65536) :
    Calls Try.prog 31 #[.slice A n c, .int .i64 k] w fun e w' => e = .returned (.int .i64 (at4 bs k : Nat)) ∧ w = w' := by
  subst hn
  have hv := at4_lt bs k
  have HV := Lib.hid (show at4 bs k = leV ((bs.drop k).take 4) from rfl)
  generalize at4 bs k = v at *
  go_enter Try.func31, Try.ntmps31
  go_wp2_with fail
  refine (value51 4 _ _ ((bs.drop k).take 4) _ B ((hb.cutm k).take 4) (by rw [List.length_take, List.length_drop]; omega) (by decide)).mono ?_
  rintro e w1 ⟨rfl, rfl⟩
  rw [← HV.out]
  go_wp2_with fail
  go_ret
  exact ⟨rfl, rfl⟩
end Go.Proofs.Ytfeicdflkpgbnaa
