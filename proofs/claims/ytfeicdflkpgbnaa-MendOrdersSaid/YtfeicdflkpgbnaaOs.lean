/-
  Proved: descantlaw30.few tells whether blocks are few and short. Conditions: those that each theorem lists ahead of its colon, and no others.
-/
import Derived.Test.YtfeicdflkpgbnaaOp
import Derived.Test.YtfeicdflkpgbnaaV6
namespace Go.Proofs.Ytfeicdflkpgbnaa
open Go.RowKit

/-- few. -/
def fewF (fs : List Fd) : Bool := decide (fs.length ≤ 40) && fs.all fun f => decide (f.pay.length ≤ 200) && decide (f.hd.length ≤ 400)
theorem fewF_true {fs : List Fd} : fewF fs = true ↔ fs.length ≤ 40 ∧ ∀ f ∈ fs, f.pay.length ≤ 200 ∧ f.hd.length ≤ 400 := by
  unfold fewF
  simp [List.all_eq_true]
theorem fewF_of {fs : List Fd} {n : Nat} (hn : n = fs.length) (h : ∀ j (hj : j < fs.length), fs[j].pay.length ≤ 200 ∧ fs[j].hd.length ≤ 400) : fewF fs = decide ((n : Int) ≤ 40) := by
  have ha : fs.all (fun f => decide (f.pay.length ≤ 200) && decide (f.hd.length ≤ 400)) = true := by
    rw [List.all_eq_true]
    intro f hf
    obtain ⟨j, hj, rfl⟩ := List.mem_iff_getElem.1 hf
    have := h j hj
    simpa using this
  unfold fewF
  rw [ha, Bool.and_true, ← hn]
  simp only [decide_eq_decide]
  omega

set_option maxHeartbeats 1000000 in
set_option maxRecDepth 20000 in
theorem few17 (n c : Nat) (A : Option Addr) (fs : List Fd) (xs : List Value) (w : World) (h : Fs w A c fs xs) (hn : n = fs.length) :
    Calls Try.prog 17 #[.slice A n c] w fun e w' => e = .returned (.bool (fewF fs)) ∧ w = w' := by
  have HF := Lib.hid h
  have HN := Lib.hid hn
  have hc : n ≤ c := by rw [hn]; exact h.1
  clear h hn
  go_enter Try.func17, Try.ntmps17
  go_wp2_with fail
  go_loop [3] (fun i => ∃ k : Nat, k ≤ n ∧ k ≤ 50 ∧ i = .int .i64 k ∧ ∀ j (hj : j < fs.length), j < k → fs[j].pay.length ≤ 200 ∧ fs[j].hd.length ≤ 400) (fun i => 50 - (intOf i).toNat)
  case atStart => exact ⟨0, Nat.zero_le _, Nat.zero_le _, rfl, fun j _ hj => absurd hj (Nat.not_lt_zero _)⟩
  case round =>
    obtain ⟨k, hk, hk50, rfl, hall⟩ := hrel
    have HL := Lib.hid hall
    clear hall
    by_cases hlt : k < n
    · by_cases hlt2 : k < 50
      · have hkl : k < fs.length := by rw [← HN.out]; exact hlt
        obtain ⟨b, o, rfl, hb, hcl⟩ := HF.out.lies hkl
        obtain ⟨Ap, cp, _, _, c0, c1, c2, c3, c4, c5, c6, c7, c8, c9, c10⟩ := HF.out.2.2.eleven (wr := w) hcl k hkl
        clear hcl
        have HK := Lib.hid (List.getElem_mem hkl)
        have HY := Lib.hid (rfl : fs[k] = fs[k])
        generalize hf : fs[k] = f at *
        have HX := Lib.hid hf
        clear hf HY
        generalize hpl : f.pay.length = pl at *
        have HP := Lib.hid hpl
        clear hpl
        generalize hll : f.hd.length = hl at *
        have HH := Lib.hid hll
        clear hll
        have bad : (200 < pl ∨ 400 < hl) → fewF fs = false := fun hbad => by
          cases hf : fewF fs with
          | false => rfl
          | true =>
            have := (fewF_true.1 hf).2 f HK.out
            rw [HP.out, HH.out] at this
            omega
        have BAD := Lib.hid bad
        clear bad
        by_cases h1 : 200 < pl
        · have h1' : (200 : Int) < (pl : Int) := by omega
          go_wp2_with fail
          go_ret
          exact ⟨by rw [BAD.out (.inl h1)]; rfl, rfl⟩
        · have h1' : ¬ (200 : Int) < (pl : Int) := by omega
          by_cases h2 : 400 < hl
          · go_wp2_with fail
            go_ret
            exact ⟨by rw [BAD.out (.inr h2)]; rfl, rfl⟩
          · go_wp2_with fail
            go_round
            case rel =>
              refine ⟨k + 1, by omega, by omega, by go_num, fun j hj hjk => ?_⟩
              rcases Nat.lt_or_ge j k with h | h
              · exact HL.out j hj h
              · obtain rfl : j = k := by omega
                rw [HX.out, HP.out, HH.out]
                omega
            case measure => simp [intOf]; omega
      · have hf : fewF fs = false := by
          cases hf : fewF fs with
          | false => rfl
          | true =>
            have := (fewF_true.1 hf).1
            rw [← HN.out] at this
            omega
        have HZ := Lib.hid hf
        clear hf
        go_wp2_with fail
        go_ret
        refine ⟨?_, rfl⟩
        rw [HZ.out]
        simp
        omega
    · obtain rfl : k = n := by omega
      go_wp2_with fail
      go_ret
      refine ⟨?_, rfl⟩
      rw [fewF_of HN.out fun j hj => HL.out j hj (by rw [HN.out]; exact hj)]
      rfl
end Go.Proofs.Ytfeicdflkpgbnaa
