/-
  Proved: descantref22.Seal makes the one known block. Conditions: those that each theorem lists ahead of its colon, and no others.
-/
import Derived.Test.YtfeicdflkpgbnaaW2
namespace Go.Proofs.Ytfeicdflkpgbnaa
open Go.RowKit

theorem own_le {w : World} {base base' size n : Nat} {e : TypeId} {v : Value} {xs : List Value} (h : w.ownsRow base e size v n xs) (hb : base' ≤ base) : w.ownsRow base' e size v n xs := by
  refine ⟨h.1, ?_⟩
  rcases h.2 with h2 | ⟨g, cap, cur, e1, e2, h3⟩
  · exact .inl h2
  · exact .inr ⟨g, cap, cur, e1, Nat.le_trans hb e2, h3⟩

def kBody : List UInt8 := kPut ++ [9]
/-- The known block. -/
def kSeal : List UInt8 := kBody ++ le4 (sumN kBody)

set_option maxHeartbeats 1000000 in
set_option maxRecDepth 20000 in
theorem seal25 (w : World) (B c : Nat) (A : Option Addr) (hb : Bs w B A [9]) (hB : B ≤ w.heap.size) :
    Calls Try.prog 25 #[.agg #[.int .i64 3, .int .i64 0, .int .i64 1, .int .i64 1, .int .i64 0, .bool false, .int .u32 0, .int .i64 0], .slice A 1 c] w fun e w' =>
      ∃ A' c' s, e = .returned (.tuple #[.slice A' 37 c', .int .u32 s, .int .i64 0]) ∧ 37 ≤ c' ∧ Bs w' w'.heap.size A' kSeal ∧ Below w.heap.size w w' := by
  have HA := Lib.hid hb
  clear hb
  go_enter Try.func25, Try.ntmps25
  go_upto_region 4 with (fail)
  have W1 := Lib.hid ((Below.refl _ w).alloc (Nat.le_refl _) (.cells #[.int .i64 3, .int .i64 0, .int .i64 1, .int .i64 1, .int .i64 0, .bool false, .int .u32 0, .int .i64 1] 40))
  have A1 := Lib.hid (HA.out.alloc hB (.cells #[.int .i64 3, .int .i64 0, .int .i64 1, .int .i64 1, .int .i64 0, .bool false, .int .u32 0, .int .i64 1] 40))
  have K1 := Lib.hid (Bk.new w 40 #[.int .i64 3, .int .i64 0, .int .i64 1, .int .i64 1, .int .i64 0, .bool false, .int .u32 0, .int .i64 1])
  clear HA
  generalize w.alloc (.cells #[.int .i64 3, .int .i64 0, .int .i64 1, .int .i64 1, .int .i64 0, .bool false, .int .u32 0, .int .i64 1] 40) = w1 at *
  obtain ⟨q0, q1, q2, q3, q4, q5, q6, q7⟩ := Bk.eight K1.out
  go_wp2_with fail
  refine (right41 3 0 1 1 0 false 0 1 _).mono ?_
  rintro e w2 ⟨rfl, hb2⟩
  rw [show rightB ⟨3, 0, 1, 1, 0, false, 0, 1⟩ = true by kernel_rfl]
  have hs1 := W1.out.size
  have W2 := Lib.hid (W1.out.trans (hb2.mono hs1))
  have A2 := Lib.hid (A1.out.below (hb2.mono (by omega)))
  have K2 := Lib.hid (K1.out.below hb2 K1.out.lt)
  clear W1 A1 K1 hb2 q0 q1 q2 q3 q4 q5 q6 q7
  obtain ⟨q0, q1, q2, q3, q4, q5, q6, q7⟩ := Bk.eight K2.out
  go_wp2_with fail
  refine (put42 w2).mono ?_
  rintro e w3 ⟨v, rfl, own, hb3⟩
  have O3 := Lib.hid (own_le own W2.out.size)
  have hs2 := W2.out.size
  have W3 := Lib.hid (W2.out.trans (hb3.mono hs2))
  have A3 := Lib.hid (A2.out.below (hb3.mono (by omega)))
  have hs3 := W3.out.size
  clear W2 A2 K2 hb3 own q0 q1 q2 q3 q4 q5 q6 q7
  go_wp2_with (at_builtin; refine wpl_app _ row22 rfl (.tmp 19) (.tmp 20) rfl w.heap.size v 32 (kPut.map B8) rfl O3.out B A 1 c ([9].map B8) rfl A3.out rfl (one8 _) (by omega) hs3 ?go)
  case go =>
    intro v' w4 own gr hX
    have W4 := Lib.hid (below_app O3.out gr W3.out hs3)
    have O4 := Lib.hid (show w4.ownsRow w.heap.size 5 1 v' 33 (kBody.map B8) from own)
    clear own gr hX O3 W3 A3
    obtain ⟨A4, c4, rfl, hc4, hr4, ha4⟩ := own_slice O4.out
    have R4 := Lib.hid hr4
    have hs4 := W4.out.size
    clear hr4
    go_wp2_with fail
    refine (sum30 33 c4 A4 kBody w4 _ R4.out rfl (by omega)).mono ?_
    rintro e w5 ⟨rfl, rfl⟩
    have hv := sumN_lt kBody
    have HP := Lib.hid (show kSeal = kBody ++ le4 (sumN kBody) from rfl)
    generalize sumN kBody = sv at *
    go_wp2_with fail
    refine (bytes43 sv w4 (by omega)).mono ?_
    rintro e w5 ⟨A5, c5, rfl, hc5, hb5, hbl5, ha5⟩
    have W5 := Lib.hid (W4.out.trans (hbl5.mono hs4))
    have O5 := Lib.hid (O4.out.kept (gr_of_below hbl5 none) (by cases hv : (Value.slice A4 33 c4).ownBlock <;> simp))
    have B5 := Lib.hid hb5
    have hs5 := W5.out.size
    clear W4 O4 R4 hb5 hbl5 ha5
    go_wp2_with (at_builtin; refine wpl_app _ row22 rfl (.tmp 24) (.tmp 27) rfl w.heap.size (.slice A4 33 c4) 33 (kBody.map B8) rfl O5.out w5.heap.size A5 4 c5 ((le4 sv).map B8) rfl B5.out rfl (one8 _) (by omega) hs5 ?fin)
    case fin =>
      intro v' w6 own gr hX
      have W6 := Lib.hid (below_app O5.out gr W5.out hs5)
      rw [← List.map_append, ← HP.out] at own
      obtain ⟨A6, c6, rfl, hc6, hr6, ha6⟩ := own_slice own
      have R6 := Lib.hid hr6
      clear own gr hX O5 W5 B5 hr6
      go_wp2_with fail
      exact bodyPost_ret (v := .tuple #[.slice A6 37 c6, .int .u32 sv, .int .i64 0]) (by simp [results, Try.results25, go_sem]) rfl ⟨A6, c6, sv, rfl, hc6, R6.out, W6.out⟩
end Go.Proofs.Ytfeicdflkpgbnaa
