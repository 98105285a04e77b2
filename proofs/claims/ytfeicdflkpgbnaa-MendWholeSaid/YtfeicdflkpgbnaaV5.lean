/-
  Proved: descantref30.Lost tells how many bytes stand in no block. Conditions: those that each theorem lists ahead of its colon, and no others.
-/
import Derived.Test.YtfeicdflkpgbnaaV4
namespace Go.Proofs.Ytfeicdflkpgbnaa
open Go.RowKit

set_option maxHeartbeats 1000000 in
set_option maxRecDepth 20000 in
theorem lost14 (n c : Nat) (A : Option Addr) (bs : List UInt8) (w : World) (B : Nat) (hb : Bs w B A bs) (hB : B ≤ w.heap.size) (hn : n = bs.length) (hc : n ≤ c) (hm : n ≤ 65536) :
    Calls Try.prog 14 #[.slice A n c] w fun e w' => e = .returned (.int .i64 ((n : Int) - lossI (scan bs 0))) ∧ Below w.heap.size w w' := by
  have HA := Lib.hid hb
  have HN := Lib.hid hn
  clear hb hn
  go_enter Try.func14, Try.ntmps14
  go_wp2_with fail
  refine (scan12 n c A bs _ B HA.out hB HN.out hc hm).mono ?_
  rintro e w1 ⟨A1, c1, xs, rfl, hc1, hr1, hf1, hb1⟩
  have HF := Lib.hid (show Fs w1 A1 c1 (scan bs 0) xs from ⟨hc1, hr1, hf1⟩)
  have W1 := Lib.hid hb1
  have hz := hb1.size
  have HG := Lib.hid (scan_good bs)
  have HS := Lib.hid (scan_sizes bs)
  have hlo := scan_loss bs
  have hct := scan_count bs
  rw [← HN.out] at hlo hct
  clear hr1 hf1 hb1 HA HN
  generalize hq : scan bs 0 = fs at *
  have HQ := Lib.hid hq
  clear hq
  go_wp2_with fail
  go_loopw [3, 5] (fun v i wr => ∃ k : Nat, k ≤ fs.length ∧ i = .int .i64 k ∧ v = .int .i64 ((n : Int) - lossI (fs.take k)) ∧ Below w1.heap.size w1 wr) (fun _ i _ => fs.length - (intOf i).toNat)
  case atStart => exact ⟨0, Nat.zero_le _, rfl, by simp [lossI], Below.refl _ _⟩
  case round =>
    obtain ⟨k, hk, rfl, rfl, hbel⟩ := hrel
    have HB := Lib.hid hbel
    have hsz := hbel.size
    clear hbel
    have hlk := lossI_le HS.out k
    by_cases hlt : k < fs.length
    · have hlk1 := lossI_le HS.out (k + 1)
      have hgd := HG.out _ (List.getElem_mem hlt)
      rw [lossI_succ hlt] at hlk1
      have HL := Lib.hid (lossI_succ hlt)
      obtain ⟨b, o, rfl, hb, hcl⟩ := HF.out.lies hlt
      obtain ⟨Ap, cp, hp, htk, c0, c1', c2, c3, c4, c5, c6, c7, c8, c9, c10⟩ := HF.out.2.2.eleven (wr := wr) (fun j u hu => (HB.out.cell (p := ⟨b, o + j, none⟩) hb).trans (hcl j u hu)) k hlt
      clear hcl hp htk
      generalize hf : fs[k] = f at *
      clear hf
      obtain ⟨f0, ⟨f1, f2, f3, f4, f5, f6, f7, f8⟩, f9, f10⟩ := f
      dsimp only at c0 c1' c2 c3 c4 c5 c6 c7 c8 c9 c10 hlk1 HL hgd
      have h8 := right_size hgd
      dsimp only at h8
      have HR := Lib.hid hgd
      clear hgd
      generalize f9.length = pl at *
      generalize lossI (fs.take k) = lk at *
      have hu : (IntKind.i64).wrap ((n : Int) - lk - 36) = (n : Int) - lk - 36 := IntWalk.i64_in _ ⟨by omega, by omega⟩
      have hu2 : (IntKind.i64).wrap ((n : Int) - lk - 36 - f8) = (n : Int) - lk - 36 - f8 := IntWalk.i64_in _ ⟨by omega, by omega⟩
      go_wp2_with fail
      go_roundw
      case rel => exact ⟨k + 1, by omega, by go_num, by rw [HL.out]; exact int_eq (by omega), HB.out⟩
      case measure => simp [intOf]; omega
    · obtain rfl : k = fs.length := by omega
      rw [List.take_length]
      go_wp2_with fail
      go_ret
      exact ⟨by rw [HQ.out]; rfl, W1.out.trans (HB.out.mono hz)⟩
end Go.Proofs.Ytfeicdflkpgbnaa
