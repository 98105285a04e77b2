/-
  Proved: descantlaw30.MendScans returns true for every byte slice. Conditions: those that each theorem lists ahead of its colon, and no others.
-/
import Derived.Test.YtfeicdflkpgbnaaW4
namespace Go.Proofs.Ytfeicdflkpgbnaa
open Go.RowKit

set_option maxHeartbeats 1000000 in
set_option maxRecDepth 20000 in
theorem scan11nil (n c : Nat) (A : Option Addr) (w : World) : Calls Try.prog 11 #[.pointer none, .slice A n c] w fun e w' => e = .returned (.slice none 0 0) ∧ Below w.heap.size w w' := by
  go_enter Try.func11, Try.ntmps11
  go_wp2_with fail
  go_loopw [5, 6] (fun v i wr => v = .slice none 0 0 ∧ i = .int .i64 0 ∧ wr = w) (fun _ _ _ => 0)
  case atStart => exact ⟨rfl, rfl, rfl⟩
  case round =>
    obtain ⟨rfl, rfl, rfl⟩ := hrel
    go_wp2_with fail
    go_ret
    exact ⟨rfl, Below.refl _ _⟩

set_option maxHeartbeats 1000000 in
set_option maxRecDepth 20000 in
theorem law3 (n c : Nat) (A : Option Addr) (bs : List UInt8) (w : World) (hb : Bs w w.heap.size A bs) (hn : n = bs.length) (hc : n ≤ c) :
    Calls Try.prog 3 #[.slice A n c] w fun e w' => e = .returned (.bool true) ∧ Below w.heap.size w w' := by
  have HA := Lib.hid hb
  have HN := Lib.hid hn
  have hct := scan_count bs
  rw [← hn] at hct
  clear hb hn
  go_enter Try.func3, Try.ntmps3
  by_cases hbig : 1500 < n
  · go_wp2_with fail
    refine (known7 _).mono ?_
    rintro e w1 ⟨rfl, hb1⟩
    go_wp2_with fail
    go_ret
    exact ⟨rfl, hb1⟩
  · have hm : n ≤ 65536 := by omega
    go_wp2_with fail
    refine (make8 w).mono ?_
    rintro e w1 ⟨rfl, ht1, hb1⟩
    have T1 := Lib.hid ht1
    have W1 := Lib.hid hb1
    have A1 := Lib.hid (HA.out.below hb1)
    have hs1 := hb1.size
    clear ht1 hb1 HA
    go_wp2_with fail
    refine (scan11 n c w.heap.size A bs w1 w.heap.size T1.out A1.out hs1 HN.out hc hm).mono ?_
    rintro e w2 ⟨A2, c2, x2, rfl, hc2, hr2, hf2, hb2⟩
    have F2 := Lib.hid (show Fs w2 A2 c2 (scan bs 0) x2 from ⟨hc2, hr2, hf2⟩)
    have W2 := Lib.hid (W1.out.trans (hb2.mono hs1))
    have T2 := Lib.hid (show Tb w2 w.heap.size from T1.out.below hb2 T1.out.lt)
    have B2 := Lib.hid (A1.out.below (hb2.mono hs1))
    have hs2 := W2.out.size
    clear hr2 hf2 hb2 T1 W1 A1
    go_wp2_with fail
    refine (backs10 _ c2 A2 (scan bs 0) x2 w2 F2.out rfl (by omega)).mono ?_
    rintro e w3 ⟨A3, c3, x3, rfl, hc3, hr3, hf3, hb3⟩
    have F3 := Lib.hid (show Fs w3 A3 c3 (scan bs 0) x3 from ⟨hc3, hr3, hf3⟩)
    have W3 := Lib.hid (W2.out.trans (hb3.mono hs2))
    have T3 := Lib.hid (show Tb w3 w.heap.size from T2.out.below hb3 T2.out.lt)
    have B3 := Lib.hid (B2.out.below (hb3.mono hs2))
    have hs3 := W3.out.size
    clear hr3 hf3 hb3 T2 W2 B2 F2
    go_wp2_with fail
    refine (scan12 n c A bs w3 w.heap.size B3.out hs3 HN.out hc hm).mono ?_
    rintro e w4 ⟨A4, c4, x4, rfl, hc4, hr4, hf4, hb4⟩
    have F4 := Lib.hid (show Fs w4 A4 c4 (scan bs 0) x4 from ⟨hc4, hr4, hf4⟩)
    have G4 := Lib.hid (F3.out.below hb4)
    have W4 := Lib.hid (W3.out.trans (hb4.mono hs3))
    have T4 := Lib.hid (show Tb w4 w.heap.size from T3.out.below hb4 T3.out.lt)
    have B4 := Lib.hid (B3.out.below (hb4.mono hs3))
    have hs4 := W4.out.size
    clear hr4 hf4 hb4 T3 W3 B3 F3
    go_wp2_with fail
    refine (same9 _ c3 c4 A3 A4 (scan bs 0) x3 x4 w4 G4.out F4.out rfl (by omega)).mono ?_
    rintro e w5 ⟨rfl, hb5⟩
    have W5 := Lib.hid (W4.out.trans (hb5.mono hs4))
    have T5 := Lib.hid (show Tb w5 w.heap.size from T4.out.below hb5 T4.out.lt)
    have B5 := Lib.hid (B4.out.below (hb5.mono hs4))
    have hs5 := W5.out.size
    clear hb5 T4 W4 B4 F4 G4
    go_wp2_with fail
    refine (lost13 n c w.heap.size A bs w5 w.heap.size T5.out B5.out hs5 HN.out hc hm).mono ?_
    rintro e w6 ⟨rfl, hb6⟩
    have W6 := Lib.hid (W5.out.trans (hb6.mono hs5))
    have B6 := Lib.hid (B5.out.below (hb6.mono hs5))
    have hs6 := W6.out.size
    clear hb6 T5 W5 B5
    go_wp2_with fail
    refine (lost14 n c A bs w6 w.heap.size B6.out hs6 HN.out hc hm).mono ?_
    rintro e w7 ⟨rfl, hb7⟩
    have W7 := Lib.hid (W6.out.trans (hb7.mono hs6))
    have hs7 := W7.out.size
    clear hb7 W6 B6
    generalize lossI (scan bs 0) = ls at *
    go_wp2_with fail
    refine (scan11nil n c A w7).mono ?_
    rintro e w8 ⟨rfl, hb8⟩
    have W8 := Lib.hid (W7.out.trans (hb8.mono hs7))
    have hs8 := W8.out.size
    clear hb8 W7
    go_wp2_with fail
    refine (known7 w8).mono ?_
    rintro e w9 ⟨rfl, hb9⟩
    have W9 := Lib.hid (W8.out.trans (hb9.mono hs8))
    clear hb9 W8
    go_wp2_with fail
    go_ret
    exact ⟨rfl, W9.out⟩
end Go.Proofs.Ytfeicdflkpgbnaa
