/-
  Proved: heap.down leaves a heap of the same blocks. Conditions: those that each theorem lists ahead of its colon, and no others.
-/
import Derived.Test.YtfeicdflkpgbnaaOi
namespace Go.Proofs.Ytfeicdflkpgbnaa
open Go.RowKit

theorem swapL_snoc {fr : List El} {x : El} {i j : Nat} (hi : i < fr.length) (hj : j < fr.length) : swapL (fr ++ [x]) i j (by simp; omega) (by simp; omega) = swapL fr i j hi hj ++ [x] := by
  unfold swapL
  rw [List.getElem_append_left hi, List.getElem_append_left hj, List.set_append_left _ _ hi, List.set_append_left _ _ (by simpa using hj)]
theorem child_ok {fr : List El} {i a b j : Nat} (ha : a = 2 * i + 1) (hb : b = a + 1) (h : ∀ k, (k = a ∨ k = b) → k ≠ j → Ok fr j k) : ∀ k, 0 < k → (k - 1) / 2 = i → k ≠ j → Ok fr j k :=
  fun k hk hp hne => h k (by omega) hne

set_option maxHeartbeats 2000000 in
set_option maxRecDepth 20000 in
theorem down53 (q B g n1 cap n : Nat) (fr0 : List El) (x : El) (w : World) (h : QS w B q (.slice (some ⟨g, 0, none⟩) n1 cap) (fr0 ++ [x])) (hn : fr0.length = n) (hn1 : n1 = n + 1) (hd : DownI fr0 0) (hm : n ≤ 65536) :
    Calls Try.prog 53 #[.iface 81 (.pointer (some ⟨q, 0, none⟩)), .int .i64 0, .int .i64 n] w fun r w' => ∃ b fr, r = .returned (.bool b) ∧ QS w' B q (.slice (some ⟨g, 0, none⟩) n1 cap) (fr ++ [x]) ∧ fr.Perm fr0 ∧ HeapE fr ∧ w.grownBy w' (some g) := by
  have HQ := Lib.hid h
  have HN := Lib.hid hn
  have HN1 := Lib.hid hn1
  have HD := Lib.hid hd
  clear h hn hd hn1
  go_enter Try.func53, Try.ntmps53
  go_wp2_with fail
  go_loopw [7, 8, 9, 10] (fun s7 _ _ _ wr => ∃ (i : Nat) (fr : List El), s7 = .int .i64 i ∧ i ≤ n ∧ fr.Perm fr0 ∧ DownI fr i ∧ QS wr B q (.slice (some ⟨g, 0, none⟩) n1 cap) (fr ++ [x]) ∧ w.grownBy wr (some g)) (fun s7 _ _ _ _ => n - (intOf s7).toNat)
  case atStart => exact ⟨0, fr0, rfl, Nat.zero_le _, List.Perm.refl _, HD.out, HQ.out, gr_refl _ _⟩
  case round =>
    obtain ⟨i, fr, rfl, hin, hp, hdn, hq, hg⟩ := hrel
    have HP := Lib.hid hp
    have HD1 := Lib.hid hdn
    have Q1 := Lib.hid hq
    have G1 := Lib.hid hg
    have hcell := hq.cell
    have HL := Lib.hid (show fr.length = n by rw [hp.length_eq]; exact HN.out)
    have HL1 := Lib.hid (show (fr ++ [x]).length = n1 by rw [List.length_append, HL.out, HN1.out]; rfl)
    clear hp hdn hq hg
    have ml := mLess hcell
    have hu2 : (IntKind.i64).wrap (2 * (i : Int)) = 2 * (i : Int) := IntWalk.i64_in _ ⟨by omega, by omega⟩
    have e1 : 2 * (i : Int) + 1 = ((2 * i + 1 : Nat) : Int) := by omega
    have HA0 := Lib.hid (rfl : 2 * i + 1 = 2 * i + 1)
    generalize ha : 2 * i + 1 = a at *
    have HA := Lib.hid ha
    have hia : i < a := by omega
    clear ha HA0
    have e2 : (a : Int) + 1 = ((a + 1 : Nat) : Int) := by omega
    generalize hb : a + 1 = b at *
    have HB := Lib.hid hb
    have hab : a < b := by omega
    clear hb
    by_cases h1 : a < n
    · have hal : a < (fr ++ [x]).length := by rw [HL1.out, HN1.out]; omega
      have hil : i < (fr ++ [x]).length := by omega
      have hif : i < fr.length := by rw [HL.out]; omega
      have haf : a < fr.length := by rw [HL.out]; omega
      by_cases h2 : b < n
      · have hbl : b < (fr ++ [x]).length := by rw [HL1.out, HN1.out]; omega
        have hbf : b < fr.length := by rw [HL.out]; omega
        go_wp2_with fail
        refine (less97 g n1 cap b a B (fr ++ [x]) wr (by have h := Q1.out.own; rw [HL1.out] at h; exact h) HL1.out.symm hbl hal).mono ?_
        rintro e w1 ⟨rfl, hb⟩
        have Q2 := Lib.hid (Q1.out.below hb)
        have G2 := Lib.hid (gr_below G1.out hb)
        have hcell2 := Q2.out.cell
        clear hb ml hcell Q1 G1
        have ml := mLess hcell2
        cases hl : lessE (fr ++ [x])[b] (fr ++ [x])[a] with
        | false =>
          have HC := Lib.hid (child_ok (fr := fr) (j := a) HA.out.symm HB.out.symm fun k hk hne u v hu hv => by
            obtain rfl : k = b := by omega
            rw [List.getElem?_eq_getElem haf] at hu
            rw [List.getElem?_eq_getElem hbf] at hv
            cases hu; cases hv
            rwa [List.getElem_append_left hbf, List.getElem_append_left haf] at hl)
          clear hl
          go_wp2_with fail
          refine (less97 g n1 cap a i B (fr ++ [x]) w1 (by have h := Q2.out.own; rw [HL1.out] at h; exact h) HL1.out.symm hal hil).mono ?_
          rintro e w2 ⟨rfl, hb⟩
          have Q3 := Lib.hid (Q2.out.below hb)
          have G3 := Lib.hid (gr_below G2.out hb)
          have hcell3 := Q3.out.cell
          clear hb Q2 G2
          have ms := mSwap hcell3
          cases hl : lessE (fr ++ [x])[a] (fr ++ [x])[i] with
          | false =>
            have HO := Lib.hid hl
            clear hl
            go_wp2_with fail
            go_ret
            refine ⟨_, fr, rfl, Q3.out, HP.out, down_done HD1.out fun k hk hp u v hu hv => ?_, G3.out⟩
            have ho := HO.out
            rw [List.getElem_append_left haf, List.getElem_append_left hif] at ho
            rw [List.getElem?_eq_getElem hif] at hu
            cases hu
            by_cases hkj : k = a
            · subst hkj
              rw [List.getElem?_eq_getElem haf] at hv
              cases hv
              exact ho
            · exact lessE_trans (HC.out k hk hp hkj _ v (List.getElem?_eq_getElem haf) hv) ho
          | true =>
            have HO := Lib.hid hl
            clear hl
            go_wp2_with fail
            refine (swap100 g n1 cap i a B (fr ++ [x]) w2 (by have h := Q3.out.own; rw [HL1.out] at h; exact h) HL1.out.symm hil hal).mono ?_
            rintro e w3 ⟨rfl, ho3, hg3⟩
            rw [swapL_snoc hif haf] at ho3
            have Q4 := Lib.hid (show QS w3 B q (.slice (some ⟨g, 0, none⟩) n1 cap) (swapL fr i a hif haf ++ [x]) from ⟨Q3.out.var.grown hg3 (Ne.symm Q3.out.apart), by rw [List.length_append, swapL_length, HL.out, show n + [x].length = n1 from HN1.out.symm]; exact ho3, Q3.out.apart⟩)
            have G4 := Lib.hid (gr_trans G3.out hg3)
            have HP4 := Lib.hid ((swapL_perm hif haf).trans HP.out)
            have HD4 := Lib.hid (down_step HD1.out (by omega) (by have := HA.out; have := HB.out; omega) (List.getElem?_eq_getElem hif) (List.getElem?_eq_getElem haf) (by have h := HO.out; rwa [List.getElem_append_left haf, List.getElem_append_left hif] at h) HC.out (swapL_swp hif haf))
            clear ho3 hg3 ms hcell3 Q3 G3
            generalize swapL fr i a hif haf = fr' at *
            go_wp2_with fail
            go_roundw
            case rel => exact ⟨a, fr', rfl, by omega, HP4.out, HD4.out, Q4.out, G4.out⟩
            case measure => simp [intOf]; omega
        | true =>
          have HC := Lib.hid (child_ok (fr := fr) (j := b) HA.out.symm HB.out.symm fun k hk hne u v hu hv => by
            obtain rfl : k = a := by omega
            rw [List.getElem?_eq_getElem hbf] at hu
            rw [List.getElem?_eq_getElem haf] at hv
            cases hu; cases hv
            rw [List.getElem_append_left hbf, List.getElem_append_left haf] at hl
            exact lessE_asymm hl)
          clear hl
          go_wp2_with fail
          refine (less97 g n1 cap b i B (fr ++ [x]) w1 (by have h := Q2.out.own; rw [HL1.out] at h; exact h) HL1.out.symm hbl hil).mono ?_
          rintro e w2 ⟨rfl, hb⟩
          have Q3 := Lib.hid (Q2.out.below hb)
          have G3 := Lib.hid (gr_below G2.out hb)
          have hcell3 := Q3.out.cell
          clear hb Q2 G2
          have ms := mSwap hcell3
          cases hl : lessE (fr ++ [x])[b] (fr ++ [x])[i] with
          | false =>
            have HO := Lib.hid hl
            clear hl
            go_wp2_with fail
            go_ret
            refine ⟨_, fr, rfl, Q3.out, HP.out, down_done HD1.out fun k hk hp u v hu hv => ?_, G3.out⟩
            have ho := HO.out
            rw [List.getElem_append_left hbf, List.getElem_append_left hif] at ho
            rw [List.getElem?_eq_getElem hif] at hu
            cases hu
            by_cases hkj : k = b
            · subst hkj
              rw [List.getElem?_eq_getElem hbf] at hv
              cases hv
              exact ho
            · exact lessE_trans (HC.out k hk hp hkj _ v (List.getElem?_eq_getElem hbf) hv) ho
          | true =>
            have HO := Lib.hid hl
            clear hl
            go_wp2_with fail
            refine (swap100 g n1 cap i b B (fr ++ [x]) w2 (by have h := Q3.out.own; rw [HL1.out] at h; exact h) HL1.out.symm hil hbl).mono ?_
            rintro e w3 ⟨rfl, ho3, hg3⟩
            rw [swapL_snoc hif hbf] at ho3
            have Q4 := Lib.hid (show QS w3 B q (.slice (some ⟨g, 0, none⟩) n1 cap) (swapL fr i b hif hbf ++ [x]) from ⟨Q3.out.var.grown hg3 (Ne.symm Q3.out.apart), by rw [List.length_append, swapL_length, HL.out, show n + [x].length = n1 from HN1.out.symm]; exact ho3, Q3.out.apart⟩)
            have G4 := Lib.hid (gr_trans G3.out hg3)
            have HP4 := Lib.hid ((swapL_perm hif hbf).trans HP.out)
            have HD4 := Lib.hid (down_step HD1.out (by omega) (by have := HA.out; have := HB.out; omega) (List.getElem?_eq_getElem hif) (List.getElem?_eq_getElem hbf) (by have h := HO.out; rwa [List.getElem_append_left hbf, List.getElem_append_left hif] at h) HC.out (swapL_swp hif hbf))
            clear ho3 hg3 ms hcell3 Q3 G3
            generalize swapL fr i b hif hbf = fr' at *
            go_wp2_with fail
            go_roundw
            case rel => exact ⟨b, fr', rfl, by omega, HP4.out, HD4.out, Q4.out, G4.out⟩
            case measure => simp [intOf]; omega
      · have HC := Lib.hid (child_ok (fr := fr) (j := a) HA.out.symm HB.out.symm fun k hk hne u v hu hv => by
          obtain rfl : k = b := by omega
          have := (List.getElem?_eq_some_iff.1 hv).1
          rw [HL.out] at this
          omega)
        have Q2 := Lib.hid Q1.out
        have G2 := Lib.hid G1.out
        clear Q1 G1
        go_wp2_with fail
        refine (less97 g n1 cap a i B (fr ++ [x]) wr (by have h := Q2.out.own; rw [HL1.out] at h; exact h) HL1.out.symm hal hil).mono ?_
        rintro e w2 ⟨rfl, hb⟩
        have Q3 := Lib.hid (Q2.out.below hb)
        have G3 := Lib.hid (gr_below G2.out hb)
        have hcell3 := Q3.out.cell
        clear hb Q2 G2
        have ms := mSwap hcell3
        cases hl : lessE (fr ++ [x])[a] (fr ++ [x])[i] with
        | false =>
          have HO := Lib.hid hl
          clear hl
          go_wp2_with fail
          go_ret
          refine ⟨_, fr, rfl, Q3.out, HP.out, down_done HD1.out fun k hk hp u v hu hv => ?_, G3.out⟩
          have ho := HO.out
          rw [List.getElem_append_left haf, List.getElem_append_left hif] at ho
          rw [List.getElem?_eq_getElem hif] at hu
          cases hu
          by_cases hkj : k = a
          · subst hkj
            rw [List.getElem?_eq_getElem haf] at hv
            cases hv
            exact ho
          · exact lessE_trans (HC.out k hk hp hkj _ v (List.getElem?_eq_getElem haf) hv) ho
        | true =>
          have HO := Lib.hid hl
          clear hl
          go_wp2_with fail
          refine (swap100 g n1 cap i a B (fr ++ [x]) w2 (by have h := Q3.out.own; rw [HL1.out] at h; exact h) HL1.out.symm hil hal).mono ?_
          rintro e w3 ⟨rfl, ho3, hg3⟩
          rw [swapL_snoc hif haf] at ho3
          have Q4 := Lib.hid (show QS w3 B q (.slice (some ⟨g, 0, none⟩) n1 cap) (swapL fr i a hif haf ++ [x]) from ⟨Q3.out.var.grown hg3 (Ne.symm Q3.out.apart), by rw [List.length_append, swapL_length, HL.out, show n + [x].length = n1 from HN1.out.symm]; exact ho3, Q3.out.apart⟩)
          have G4 := Lib.hid (gr_trans G3.out hg3)
          have HP4 := Lib.hid ((swapL_perm hif haf).trans HP.out)
          have HD4 := Lib.hid (down_step HD1.out (by omega) (by have := HA.out; have := HB.out; omega) (List.getElem?_eq_getElem hif) (List.getElem?_eq_getElem haf) (by have h := HO.out; rwa [List.getElem_append_left haf, List.getElem_append_left hif] at h) HC.out (swapL_swp hif haf))
          clear ho3 hg3 ms hcell3 Q3 G3
          generalize swapL fr i a hif haf = fr' at *
          go_wp2_with fail
          go_roundw
          case rel => exact ⟨a, fr', rfl, by omega, HP4.out, HD4.out, Q4.out, G4.out⟩
          case measure => simp [intOf]; omega
    · go_wp2_with fail
      go_ret
      refine ⟨_, fr, rfl, Q1.out, HP.out, down_done HD1.out fun k hk hp u v hu hv => ?_, G1.out⟩
      have := (List.getElem?_eq_some_iff.1 hv).1
      rw [HL.out] at this
      have := HA.out
      omega
end Go.Proofs.Ytfeicdflkpgbnaa
