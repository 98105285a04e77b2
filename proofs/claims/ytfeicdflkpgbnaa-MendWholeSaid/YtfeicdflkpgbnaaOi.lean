/-
  Proved: heap.up and heap.Push leave a heap of the same blocks and the new one. Conditions: those that each theorem lists ahead of its colon, and no others.
-/
import Derived.Test.YtfeicdflkpgbnaaOh
namespace Go.Proofs.Ytfeicdflkpgbnaa
open Go.RowKit

set_option maxHeartbeats 1000000 in
set_option maxRecDepth 20000 in
theorem up52 (q B g n cap j0 : Nat) (es0 : List El) (w : World) (h : QS w B q (.slice (some ⟨g, 0, none⟩) n cap) es0) (hn : es0.length = n) (hu : UpI es0 j0) (hj : j0 < n) (hm : n ≤ 65536) :
    Calls Try.prog 52 #[.iface 81 (.pointer (some ⟨q, 0, none⟩)), .int .i64 j0] w fun r w' => r = .returned (.tuple #[]) ∧ ∃ es, QS w' B q (.slice (some ⟨g, 0, none⟩) n cap) es ∧ es.Perm es0 ∧ HeapE es ∧ w.grownBy w' (some g) := by
  have HQ := Lib.hid h
  have HN := Lib.hid hn
  have HU := Lib.hid hu
  clear h hn hu
  go_enter Try.func52, Try.ntmps52
  go_wp2_with fail
  go_loopw [1, 4] (fun s1 _ wr => ∃ (j : Nat) (es : List El), s1 = .int .i64 j ∧ j < n ∧ es.Perm es0 ∧ UpI es j ∧ QS wr B q (.slice (some ⟨g, 0, none⟩) n cap) es ∧ w.grownBy wr (some g)) (fun s1 _ _ => (intOf s1).toNat)
  case atStart => exact ⟨j0, es0, rfl, hj, List.Perm.refl _, HU.out, HQ.out, gr_refl _ _⟩
  case round =>
    obtain ⟨j, es, rfl, hjn, hp, hup, hq, hg⟩ := hrel
    have HP := Lib.hid hp
    have HUP := Lib.hid hup
    have Q1 := Lib.hid hq
    have G1 := Lib.hid hg
    have hcell := hq.cell
    have HL := Lib.hid (show es.length = n by rw [hp.length_eq]; exact HN.out)
    clear hp hup hq hg
    have ml := mLess hcell
    have ms := mSwap hcell
    by_cases h0 : j = 0
    · subst h0
      go_wp2_with fail
      go_end0
      exact ⟨rfl, es, Q1.out, HP.out, up_done0 HUP.out, G1.out⟩
    · have hij : (j - 1) / 2 < j := by omega
      have e1 : ((j : Int) - 1) / 2 = (((j - 1) / 2 : Nat) : Int) := by omega
      have hd : ((((j - 1) / 2 : Nat) : Int) == (j : Int)) = false := beq_eq_false_iff_ne.2 (by omega)
      generalize hi : (j - 1) / 2 = i at *
      have HI := Lib.hid hi
      clear hi
      go_wp2_with fail
      have hjl : j < es.length := by rw [HL.out]; exact hjn
      have hil : i < es.length := by rw [HL.out]; omega
      have HA := Lib.hid (show es[(j - 1) / 2]? = some es[i] by rw [HI.out]; exact List.getElem?_eq_getElem hil)
      have HB := Lib.hid (show es[j]? = some es[j] from List.getElem?_eq_getElem hjl)
      refine (less97 g n cap j i B es wr (by have h := Q1.out.own; rw [HL.out] at h; exact h) HL.out.symm hjl hil).mono ?_
      rintro e w1 ⟨rfl, hb⟩
      have Q2 := Lib.hid (Q1.out.below hb)
      have G2 := Lib.hid (gr_below G1.out hb)
      have hcell2 := Q2.out.cell
      clear hb ml ms hcell Q1 G1
      have ms := mSwap hcell2
      cases hl : lessE es[j] es[i] with
      | false =>
        have HO := Lib.hid hl
        clear hl
        go_wp2_with fail
        go_end0
        refine ⟨rfl, es, Q2.out, HP.out, up_done HUP.out fun a b ha hb => ?_, G2.out⟩
        rw [HA.out] at ha
        rw [HB.out] at hb
        cases ha; cases hb
        exact HO.out
      | true =>
        have HO := Lib.hid hl
        clear hl
        go_wp2_with fail
        refine (swap100 g n cap i j B es w1 (by have h := Q2.out.own; rw [HL.out] at h; exact h) HL.out.symm hil hjl).mono ?_
        rintro e w2 ⟨rfl, ho2, hg2⟩
        have Q3 := Lib.hid (show QS w2 B q (.slice (some ⟨g, 0, none⟩) n cap) (swapL es i j hil hjl) from ⟨Q2.out.var.grown hg2 (Ne.symm Q2.out.apart), by rw [swapL_length, HL.out]; exact ho2, Q2.out.apart⟩)
        have G3 := Lib.hid (gr_trans G2.out hg2)
        have HS := Lib.hid (show Swp es (swapL es i j hil hjl) ((j - 1) / 2) j by rw [HI.out]; exact swapL_swp hil hjl)
        have HP3 := Lib.hid ((swapL_perm hil hjl).trans HP.out)
        have HU3 := Lib.hid (show UpI (swapL es i j hil hjl) i by have h := up_step HUP.out (by omega) HA.out HB.out HO.out HS.out; rw [HI.out] at h; exact h)
        clear ho2 hg2 ms hcell2 Q2 G2 HS
        generalize swapL es i j hil hjl = es' at *
        go_wp2_with fail
        go_roundw
        case rel => exact ⟨i, es', rfl, by omega, HP3.out, HU3.out, Q3.out, G3.out⟩
        case measure => simp [intOf]; omega

set_option maxHeartbeats 1000000 in
set_option maxRecDepth 20000 in
theorem push32 (q B : Nat) (v : Value) (es : List El) (e : El) (w : World) (h : QS w B q v es) (hh : HeapE es) (hq : B ≤ q) (hB : B ≤ w.heap.size) (hm : es.length ≤ 65000) :
    Calls Try.prog 32 #[.iface 81 (.pointer (some ⟨q, 0, none⟩)), .iface 45 (.agg e.cells.toArray)] w fun r w' => r = .returned (.tuple #[]) ∧ ∃ v' es', QS w' B q v' es' ∧ es'.Perm (es ++ [e]) ∧ HeapE es' ∧ Below B w w' := by
  have HQ := Lib.hid h
  have HH := Lib.hid hh
  clear h hh
  go_enter Try.func32, Try.ntmps32
  go_wp2_with fail
  refine (push99 q B v es e w HQ.out hq hB (by omega)).mono ?_
  rintro r w1 ⟨rfl, v', q1, hb1⟩
  have hlen : (es ++ [e]).length = es.length + 1 := by simp
  obtain ⟨g, cap, rfl, hcap⟩ := own_head q1.own (by omega)
  rw [hlen] at q1 hcap
  have Q1 := Lib.hid q1
  have B1 := Lib.hid hb1
  have ml := mLen q1.cell
  have hs1 := hb1.size
  clear q1 hb1 HQ hlen
  generalize e.cells.toArray = ec at *
  go_wp2_with fail
  refine (len33 _ _ _ _).mono ?_
  rintro r w2 ⟨rfl, rfl⟩
  go_wp2_with fail
  refine (up52 q B g (es.length + 1) cap es.length (es ++ [e]) w1 Q1.out (by simp) (up_start HH.out e) (by omega) (by omega)).mono ?_
  rintro r w2 ⟨rfl, es', q2, hp2, hh2, hg2⟩
  have Q2 := Lib.hid q2
  have P2 := Lib.hid hp2
  have H2 := Lib.hid hh2
  have B2 := Lib.hid (below_gr B1.out hg2 (Q1.out.own.lt g rfl).1 (by omega))
  clear q2 hp2 hh2 hg2 ml
  go_wp2_with fail
  go_end0
  exact ⟨rfl, _, es', by have h := Q2.out; rw [show es.length + 1 = es'.length by rw [P2.out.length_eq]; simp] at h; exact h, P2.out, H2.out, B2.out⟩
end Go.Proofs.Ytfeicdflkpgbnaa
