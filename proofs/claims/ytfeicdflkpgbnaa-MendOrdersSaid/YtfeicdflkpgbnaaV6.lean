/-
  Proved: descantref30.Same tells true of two lists of blocks that read alike. Conditions: those that each theorem lists ahead of its colon, and no others.
-/
import Derived.Test.YtfeicdflkpgbnaaV5
import Derived.Laws.BytesArg
import Derived.BigQuiet
namespace Go.Proofs.Ytfeicdflkpgbnaa
open Go.RowKit

theorem nums_back (p : List UInt8) : strOfNums (p.map fun x => ((x.toNat : Nat) : Int)) = ⟨p.toArray⟩ := by
  have e : (p.map fun x => ((x.toNat : Nat) : Int)).map (fun n => UInt8.ofNat n.toNat) = p := by
    rw [List.map_map]
    conv => rhs; rw [← List.map_id p]
    apply List.map_congr_left
    intro x _
    simp
  unfold strOfNums
  rw [e]

/-- string(b). -/
theorem bytes_conv {w : World} {B : Nat} {A : Option Addr} {p : List UInt8} (h : Bs w B A p) (c : Nat) : ∃ S, ∀ n : Nat, (convert 22 9 (.slice A p.length c)).run Try.prog (w.drewN n) = .ok (.string S) (w.drewN n) ∧ S = ⟨p.toArray⟩ := by
  refine ⟨⟨p.toArray⟩, fun n => ⟨?_, rfl⟩⟩
  rcases Nat.eq_zero_or_pos p.length with h0 | h0
  · have : p = [] := List.eq_nil_of_length_eq_zero h0
    subst this
    rw [run_convert_bytes_string _ 22 9 5 A _ c Try.underlying22 Try.underlying5 Try.underlying9]
    cases A <;> simp [Conv.bytesToString, loadCells]
    all_goals rfl
  · obtain ⟨b, o, rfl, hb, hc⟩ := h.mem h0
    have := run_convert_bytes_arg (P := Try.prog) (w.drewN n) 22 5 Try.underlying22 Try.underlying5 b o p.length c (p.map fun x => ((x.toNat : Nat) : Int)) (by simp) (fun i hi => by
      have := hc i hi
      simpa [List.getD, List.getElem?_map, List.getElem?_eq_getElem hi] using this) 9 Try.underlying9
    rw [this, nums_back]

set_option maxHeartbeats 1000000 in
set_option maxRecDepth 20000 in
theorem same9 (n c c' : Nat) (A A' : Option Addr) (fs : List Fd) (xs xs' : List Value) (w : World) (h : Fs w A c fs xs) (h' : Fs w A' c' fs xs') (hn : n = fs.length) (hm : n ≤ 65536) :
    Calls Try.prog 9 #[.slice A n c, .slice A' n c'] w fun e w' => e = .returned (.bool true) ∧ Below w.heap.size w w' := by
  have HF := Lib.hid h
  have HF' := Lib.hid h'
  have HN := Lib.hid hn
  have hc : n ≤ c := by rw [hn]; exact h.1
  have hc' : n ≤ c' := by rw [hn]; exact h'.1
  clear h h' hn
  go_enter Try.func9, Try.ntmps9
  go_wp2_with fail
  go_loopw [5] (fun i wr => ∃ k : Nat, k ≤ n ∧ i = .int .i64 k ∧ Below w.heap.size w wr) (fun i _ => n - (intOf i).toNat)
  case atStart => exact ⟨0, Nat.zero_le _, rfl, Below.refl _ _⟩
  case round =>
    obtain ⟨k, hk, rfl, hbel⟩ := hrel
    have HB := Lib.hid hbel
    have hsz := hbel.size
    clear hbel
    by_cases hlt : k < n
    · have hk' : k < fs.length := by rw [← HN.out]; exact hlt
      obtain ⟨b, o, rfl, hb, hcl⟩ := HF.out.lies hk'
      obtain ⟨Ap, cp, hp, _, c0, c1, c2, c3, c4, c5, c6, c7, c8, c9, c10⟩ := HF.out.2.2.eleven (wr := wr) (fun j u hu => (HB.out.cell (p := ⟨b, o + j, none⟩) hb).trans (hcl j u hu)) k hk'
      obtain ⟨b', o', rfl, hb', hcl'⟩ := HF'.out.lies hk'
      obtain ⟨Ap', cp', hp', _, d0, d1, d2, d3, d4, d5, d6, d7, d8, d9, d10⟩ := HF'.out.2.2.eleven (wr := wr) (fun j u hu => (HB.out.cell (p := ⟨b', o' + j, none⟩) hb').trans (hcl' j u hu)) k hk'
      obtain ⟨S, hS⟩ := bytes_conv (hp.below HB.out).2.1 cp
      obtain ⟨S', hS'⟩ := bytes_conv (hp'.below HB.out).2.1 cp'
      obtain rfl : S = S' := (hS 0).2.trans (hS' 0).2.symm
      have hS1 := fun n => (hS n).1
      have hS2 := fun n => (hS' n).1
      clear hcl hp hcl' hp' hS hS'
      generalize hf : fs[k] = f at *
      clear hf
      obtain ⟨f0, ⟨f1, f2, f3, f4, f5, f6, f7, f8⟩, f9, f10⟩ := f
      dsimp only at c0 c1 c2 c3 c4 c5 c6 c7 c8 c9 c10 d0 d1 d2 d3 d4 d5 d6 d7 d8 d9 d10 hS1 hS2
      generalize f9.length = pl at *
      go_upto_region 6 with (fail)
      go_quiet (fail)
      go_wp2_with fail
      go_roundw
      case rel => exact ⟨k + 1, by omega, by go_num, below_drewN HB.out _⟩
      case measure => simp [intOf]; omega
    · obtain rfl : k = n := by omega
      go_wp2_with fail
      go_ret
      exact ⟨rfl, HB.out⟩
end Go.Proofs.Ytfeicdflkpgbnaa
