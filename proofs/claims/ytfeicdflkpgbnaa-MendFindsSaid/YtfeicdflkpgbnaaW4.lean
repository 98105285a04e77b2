/-
  Proved: descantlaw30.known returns true. Conditions: those that each theorem lists ahead of its colon, and no others.
-/
import Derived.Test.YtfeicdflkpgbnaaW3
import Derived.Test.YtfeicdflkpgbnaaT3
namespace Go.Proofs.Ytfeicdflkpgbnaa
open Go.RowKit

/-- The known text: one byte, a block, one byte. -/
def kText : List UInt8 := [120] ++ kSeal ++ [121]
theorem kText_scan : ((scan kText 0).map (·.at_), lossI (scan kText 0)) = ([1], 37) := by kernel_rfl

set_option maxHeartbeats 1000000 in
set_option maxRecDepth 20000 in
theorem known7 (w : World) : Calls Try.prog 7 #[] w fun e w' => e = .returned (.bool true) ∧ Below w.heap.size w w' := by
  go_enter Try.func7, Try.ntmps7
  go_wp2_with fail
  refine (seal25 _ (w.heap.size + 1) 1 (some ⟨w.heap.size, 0, none⟩) (Rd.fresh w #[.int .u8 9] 5 (Nat.lt_succ_self _)) (by simp)).mono ?_
  rintro e w1 ⟨A1, c1, s1, rfl, hc1, hb1, hbl1⟩
  have W1 := Lib.hid (((Below.refl _ w).alloc (Nat.le_refl _) _).trans (hbl1.mono (by simp)))
  have B1 := Lib.hid hb1
  have hs1 := W1.out.size
  clear hb1 hbl1
  go_wp2_with (at_builtin; refine wpl_app _ row22 rfl (.tmp 14) (.tmp 15) rfl w.heap.size (.slice none 0 0) 0 [] rfl (World.ownsRow_nil _ _ _ _) (w1.heap.size + 1) (some ⟨w1.heap.size, 0, none⟩) 1 1 ([120].map B8) rfl (Rd.fresh w1 #[.int .u8 120] 5 (Nat.lt_succ_self _)) rfl (one8 _) (by omega) (by simp; omega) ?go)
  case go =>
    intro v2 w2 own gr hX
    have W2 := Lib.hid (below_app (World.ownsRow_nil (w1.alloc (.cells #[.int .u8 120] 5)) w.heap.size 5 1) gr (W1.out.alloc hs1 _) (by simp; omega))
    have O2 := Lib.hid (show w2.ownsRow w.heap.size 5 1 v2 1 ([120].map B8) from own)
    have B2 := Lib.hid (show Bs w2 w1.heap.size A1 kSeal from Rd.grown (Rd.alloc B1.out (Nat.le_refl _) (.cells #[.int .u8 120] 5)) gr (by simp) (fun g e => by cases e))
    have hs2 := W2.out.size
    clear own gr hX W1 B1
    go_wp2_with (at_builtin; refine wpl_app _ row22 rfl (.tmp 16) (.tmp 17) rfl w.heap.size v2 1 ([120].map B8) rfl O2.out w1.heap.size A1 37 c1 (kSeal.map B8) rfl B2.out rfl (one8 _) (by omega) hs2 ?go2)
    case go2 =>
      intro v3 w3 own gr hX
      have W3 := Lib.hid (below_app O2.out gr W2.out hs2)
      have O3 := Lib.hid (show w3.ownsRow w.heap.size 5 1 v3 38 (([120] ++ kSeal).map B8) from own)
      have hs3 := W3.out.size
      clear own gr hX W2 B2 O2
      go_wp2_with (at_builtin; refine wpl_app _ row22 rfl (.tmp 18) (.tmp 19) rfl w.heap.size v3 38 (([120] ++ kSeal).map B8) rfl (O3.out.alloc _) (w3.heap.size + 1) (some ⟨w3.heap.size, 0, none⟩) 1 1 ([121].map B8) rfl (Rd.fresh w3 #[.int .u8 121] 5 (Nat.lt_succ_self _)) rfl (one8 _) (by omega) (by simp; omega) ?go3)
      case go3 =>
        intro v4 w4 own gr hX
        have W4 := Lib.hid (below_app (O3.out.alloc (.cells #[.int .u8 121] 5)) gr (W3.out.alloc hs3 _) (by simp; omega))
        have O4 := Lib.hid (show w4.ownsRow w.heap.size 5 1 v4 39 (kText.map B8) from own)
        clear own gr hX W3 O3
        have hs4 := W4.out.size
        obtain ⟨A4, c4, rfl, hc4, hr4, ha4⟩ := own_slice O4.out
        have R4 := Lib.hid (show Bs w4 w4.heap.size A4 kText from hr4)
        clear hr4 O4
        go_wp2_with fail
        refine (make8 w4).mono ?_
        rintro e w5 ⟨rfl, ht5, hb5⟩
        have T5 := Lib.hid ht5
        have R5 := Lib.hid (R4.out.below hb5)
        have W5 := Lib.hid (W4.out.trans (hb5.mono hs4))
        have hs5 := hb5.size
        clear R4 W4 ht5 hb5
        go_wp2_with fail
        refine (scan11 39 c4 w4.heap.size A4 kText w5 w4.heap.size T5.out R5.out hs5 rfl hc4 (by omega)).mono ?_
        rintro e w6 ⟨A6, c6, xs, rfl, hc6, hr6, hf6, hb6⟩
        have hks := kText_scan
        have HL := Lib.hid (show lossI (scan kText 0) = 37 from congrArg Prod.snd hks)
        have hat : (scan kText 0).map (·.at_) = [1] := congrArg Prod.fst hks
        have hlen : (scan kText 0).length = 1 := by have := congrArg List.length hat; simpa using this
        have W6 := Lib.hid (W5.out.trans (hb6.mono W5.out.size))
        have T6 := Lib.hid (show Tb w6 w4.heap.size from T5.out.below hb6 T5.out.lt)
        have R6 := Lib.hid (R5.out.below (hb6.mono hs5))
        have hs6 := hb6.size
        have F6 := Lib.hid (show Fs w6 A6 c6 (scan kText 0) xs from ⟨hc6, hr6, hf6⟩)
        have hd0 : ∃ b o, A6 = some ⟨b, o, none⟩ ∧ w6.cell? ⟨b, o, none⟩ = some (.int .i64 1) := by
          obtain ⟨b, o, rfl, hb, hcl⟩ := F6.out.lies (i := 0) (by omega)
          obtain ⟨Ap, cp, hp, _, d0, _⟩ := F6.out.2.2.eleven (wr := w6) hcl 0 (by omega)
          have ha0 : (scan kText 0)[0].at_ = 1 := by
            have := congrArg (fun l => l[0]?) hat
            simpa [List.getElem?_map, List.getElem?_eq_getElem (show 0 < (scan kText 0).length by omega)] using this
          rw [ha0] at d0
          exact ⟨b, o, rfl, by simpa using d0⟩
        obtain ⟨b, o, rfl, d0⟩ := hd0
        rw [hlen]
        have hc6' : 1 ≤ c6 := by omega
        clear hks hat hr6 hf6 hb6 T5 R5 W5 F6 hc6 hlen
        go_wp2_with fail
        refine (lost13 39 c4 w4.heap.size A4 kText _ w4.heap.size T6.out R6.out (by omega) rfl hc4 (by omega)).mono ?_
        rintro e w7 ⟨rfl, hb7⟩
        rw [HL.out]
        have W7 := Lib.hid (W6.out.trans (hb7.mono W6.out.size))
        clear W6 T6 R6 hb7
        go_wp2_with fail
        go_ret
        exact ⟨rfl, W7.out⟩
end Go.Proofs.Ytfeicdflkpgbnaa
