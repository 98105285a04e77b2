/-
  Proved: what reffile.Few says of slices of byte slices, and how these read in memory. Conditions: those that each theorem lists ahead of its colon, and no others.
-/
import Derived.Test.YtfeicdflkpgbnaaPg
import Derived.Test.YtfeicdflkpgbnaaW5
namespace Go.Proofs.Ytfeicdflkpgbnaa
open Go.RowKit

/-- A slice of byte slices. -/
def Ss (w : World) (B : Nat) (A : Option Addr) (c : Nat) (bl : List (List UInt8)) : Prop :=
  bl.length ≤ c ∧ ∀ (i : Nat) (hi : i < bl.length), ∃ b o A' c', A = some ⟨b, o, none⟩ ∧ b < B ∧ w.cell? ⟨b, o + i, none⟩ = some (.slice A' bl[i].length c') ∧ bl[i].length ≤ c' ∧ Bs w B A' bl[i]
theorem Ss.below {w w' : World} {B : Nat} {A : Option Addr} {c : Nat} {bl : List (List UInt8)} (h : Ss w B A c bl) (hb : Below B w w') : Ss w' B A c bl :=
  ⟨h.1, fun i hi => by
    obtain ⟨b, o, A', c', e, hlt, hc, hl, hbs⟩ := h.2 i hi
    exact ⟨b, o, A', c', e, hlt, (hb.cell (p := ⟨b, o + i, none⟩) hlt).trans hc, hl, hbs.below hb⟩⟩
theorem Ss.at_ {w : World} {B : Nat} {A : Option Addr} {c : Nat} {bl : List (List UInt8)} (h : Ss w B A c bl) {i : Nat} (hi : i < bl.length) :
    ∃ b o A' c', A = some ⟨b, o, none⟩ ∧ b < B ∧ w.cell? ⟨b, o + i, none⟩ = some (.slice A' (bl.getD i []).length c') ∧ (bl.getD i []).length ≤ c' ∧ Bs w B A' (bl.getD i []) := by
  have := h.2 i hi
  rw [List.getD_eq_getElem?_getD, List.getElem?_eq_getElem hi]
  exact this

theorem few_of {bl : List (List UInt8)} {n : Nat} (hn : n = bl.length) (h : ∀ j, j < n → (bl.getD j []).length ≤ 300) : fewB bl = decide ((n : Int) ≤ 12) := by
  have ha : bl.all (fun b => decide (b.length ≤ 300)) = true := by
    rw [List.all_eq_true]
    intro b hb
    obtain ⟨j, hj, rfl⟩ := List.mem_iff_getElem.1 hb
    have := h j (by omega)
    rw [List.getD_eq_getElem?_getD, List.getElem?_eq_getElem hj] at this
    simpa using this
  unfold fewB
  rw [ha, Bool.and_true, ← hn]
  simp only [decide_eq_decide]
  omega

set_option maxHeartbeats 1000000 in
set_option maxRecDepth 20000 in
theorem few15 (n c : Nat) (A : Option Addr) (bl : List (List UInt8)) (w : World) (B : Nat) (h : Ss w B A c bl) (hn : n = bl.length) :
    Calls Try.prog 15 #[.slice A n c] w fun e w' => e = .returned (.bool (fewB bl)) ∧ w = w' := by
  have HS := Lib.hid h
  have HN := Lib.hid hn
  have hc : n ≤ c := by rw [hn]; exact h.1
  clear h hn
  go_enter Try.func15, Try.ntmps15
  go_wp2_with fail
  go_loop [3] (fun i => ∃ k : Nat, k ≤ n ∧ k ≤ 20 ∧ i = .int .i64 k ∧ ∀ j, j < k → (bl.getD j []).length ≤ 300) (fun i => 20 - (intOf i).toNat)
  case atStart => exact ⟨0, Nat.zero_le _, Nat.zero_le _, rfl, fun j hj => absurd hj (Nat.not_lt_zero _)⟩
  case round =>
    obtain ⟨k, hk, hk20, rfl, hall⟩ := hrel
    have HL := Lib.hid hall
    clear hall
    by_cases hlt : k < n
    · by_cases hlt2 : k < 20
      · obtain ⟨b, o, A', c', rfl, hb, hcell, hl, hbs⟩ := HS.out.at_ (i := k) (by rw [← HN.out]; exact hlt)
        clear hbs
        have HK := Lib.hid (show ∃ r ∈ bl, r.length = (bl.getD k []).length from ⟨bl.getD k [], by
          have hk' : k < bl.length := by rw [← HN.out]; exact hlt
          rw [List.getD_eq_getElem?_getD, List.getElem?_eq_getElem hk']
          exact List.getElem_mem hk', rfl⟩)
        have HY := Lib.hid (rfl : (bl.getD k []).length = (bl.getD k []).length)
        generalize hy : (bl.getD k []).length = y at *
        have HX := Lib.hid hy
        clear hy HY
        by_cases h300 : 300 < y
        · go_wp2_with fail
          go_ret
          refine ⟨?_, rfl⟩
          have : fewB bl = false := by
            cases hf : fewB bl with
            | false => rfl
            | true =>
              obtain ⟨r, hr, e⟩ := HK.out
              have := (fewB_true.1 hf).2 r hr
              omega
          rw [this]
          rfl
        · go_wp2_with fail
          go_round
          case rel =>
            refine ⟨k + 1, by omega, by omega, by go_num, fun j hj => ?_⟩
            rcases Nat.lt_or_ge j k with h | h
            · exact HL.out j h
            · obtain rfl : j = k := by omega
              rw [HX.out]
              omega
          case measure => simp [intOf]; omega
      · have hf : fewB bl = false := by
          cases hf : fewB bl with
          | false => rfl
          | true =>
            have := (fewB_true.1 hf).1
            rw [← HN.out] at this
            omega
        have HF := Lib.hid hf
        clear hf
        go_wp2_with fail
        go_ret
        refine ⟨?_, rfl⟩
        rw [HF.out]
        simp
        omega
    · obtain rfl : k = n := by omega
      go_wp2_with fail
      go_ret
      refine ⟨?_, rfl⟩
      rw [few_of HN.out HL.out]
      rfl
end Go.Proofs.Ytfeicdflkpgbnaa
