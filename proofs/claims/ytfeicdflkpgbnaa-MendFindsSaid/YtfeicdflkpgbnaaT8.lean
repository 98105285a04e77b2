/-
  Proved: head.Long tells how many bytes a block has, and head.starts whether bytes begin as a block does. Conditions: those that each theorem lists ahead of its colon, and no others.
-/
import Derived.Test.YtfeicdflkpgbnaaT7
namespace Go.Proofs.Ytfeicdflkpgbnaa
open Go.RowKit

set_option maxHeartbeats 400000 in
set_option maxRecDepth 20000 in
theorem long28 (k i l s b : Int) (t : Bool) (n z : Int) (w : World) (hr : rightB (Hd.mk k i l s b t n z) = true) :
    Calls Try.prog 28 #[.agg (Hd.mk k i l s b t n z).cells.toArray] w fun e w' => e = .returned (.int .i64 (36 + z)) ∧ Below w.heap.size w w' := by
  have hz := (rightB_true.1 hr).2.2.2.2.2.1
  dsimp only at hz
  have HR := Lib.hid hr
  clear hr
  unfold Hd.cells
  dsimp only
  go_enter Try.func28, Try.ntmps28
  go_wp2_with fail
  refine (right49 k i l s b t n z _).mono ?_
  rintro e w1 ⟨rfl, hb1⟩
  rw [HR.out]
  have hc7 := hb1.cell (p := ⟨w.heap.size, 7, none⟩) (by simp)
  simp only [World.cell?_alloc_new] at hc7
  have HB := Lib.hid hb1
  clear hb1
  go_wp2_with fail
  go_ret
  exact ⟨ret_eq (int_eq (by omega)), ((Below.refl _ w).alloc (Nat.le_refl _) _).trans (HB.out.mono (by simp))⟩

theorem byN_get {bs : List UInt8} {k : Nat} (hk : k < bs.length) : byN bs k = bs[k].toNat := by
  unfold byN; rw [List.getD_eq_getElem?_getD, List.getElem?_eq_getElem hk]; rfl
theorem byN_lt (bs : List UInt8) (k : Nat) : byN bs k < 256 := (bs.getD k 0).toNat_lt
/-- The bytes' cells, by number. -/
theorem Bs.at_ {w : World} {B : Nat} {A : Option Addr} {bs : List UInt8} (h : Bs w B A bs) (hn : 0 < bs.length) :
    ∃ b o, A = some ⟨b, o, none⟩ ∧ b < B ∧ ∀ (j : Nat), j < bs.length → w.cell? ⟨b, o + j, none⟩ = some (.int .u8 ((byN bs j : Nat) : Int)) := by
  obtain ⟨b, o, e, hb, hc⟩ := h.mem hn
  exact ⟨b, o, e, hb, fun j hj => by rw [byN_get hj]; exact hc j hj⟩

set_option maxHeartbeats 400000 in
set_option maxRecDepth 20000 in
theorem starts61 (n c : Nat) (A : Option Addr) (bs : List UInt8) (w : World) (B : Nat) (hb : Bs w B A bs) (hn : n = bs.length) (hm : n ≤ 65536) :
    Calls Try.prog 61 #[.slice A n c] w fun e w' => e = .returned (.bool (startB bs)) ∧ w = w' := by
  have i0 : ∀ w, (Instr.index 141 (.agg #[.int .u8 222, .int .u8 92]) (.int .i64 0)).run Try.prog w = .ok (.int .u8 222) w := fun _ => by kernel_rfl
  have i1 : ∀ w, (Instr.index 141 (.agg #[.int .u8 222, .int .u8 92]) (.int .i64 1)).run Try.prog w = .ok (.int .u8 92) w := fun _ => by kernel_rfl
  subst hn
  by_cases h1 : 0 < bs.length
  · obtain ⟨b, o, rfl, _, hc⟩ := hb.at_ h1
    have c0 := hc 0 h1
    rw [Nat.add_zero] at c0
    by_cases h2 : 1 < bs.length
    · have c1 := hc 1 h2
      clear hc
      have HS := Lib.hid (show startB bs = (!(byN bs 0 != 222) && !(byN bs 1 != 92)) by unfold startB; simp [h1, h2])
      generalize byN bs 0 = x at *
      generalize byN bs 1 = y at *
      go_enter Try.func61, Try.ntmps61
      go_wp2
      refine wp_loop_rounds 3 ?_
      rw [rounds_succ]
      go_wp2
      · go_ret
        exact ⟨ret_eq (congrArg Value.bool (by rw [HS.out]; simp_all; omega)), rfl⟩
      · rw [rounds_succ]
        go_wp2
        · go_ret
          exact ⟨ret_eq (congrArg Value.bool (by rw [HS.out]; simp_all; omega)), rfl⟩
        · rw [rounds_succ]
          go_wp2
          go_ret
          exact ⟨ret_eq (congrArg Value.bool (by rw [HS.out]; simp_all; omega)), rfl⟩
    · clear hc
      have HS := Lib.hid (show startB bs = !(byN bs 0 != 222) by unfold startB; simp [h1, h2])
      generalize byN bs 0 = x at *
      go_enter Try.func61, Try.ntmps61
      go_wp2
      refine wp_loop_rounds 3 ?_
      rw [rounds_succ]
      go_wp2
      · go_ret
        exact ⟨ret_eq (congrArg Value.bool (by rw [HS.out]; simp_all; omega)), rfl⟩
      · rw [rounds_succ]
        go_wp2
        rw [rounds_succ]
        go_wp2
        go_ret
        exact ⟨ret_eq (congrArg Value.bool (by rw [HS.out]; simp_all; omega)), rfl⟩
  · have HS := Lib.hid (show startB bs = true by unfold startB; simp [h1]; omega)
    go_enter Try.func61, Try.ntmps61
    go_wp2
    refine wp_loop_rounds 3 ?_
    rw [rounds_succ]
    go_wp2
    rw [rounds_succ]
    go_wp2
    rw [rounds_succ]
    go_wp2
    go_ret
    exact ⟨ret_eq (congrArg Value.bool HS.out.symm), rfl⟩
end Go.Proofs.Ytfeicdflkpgbnaa
