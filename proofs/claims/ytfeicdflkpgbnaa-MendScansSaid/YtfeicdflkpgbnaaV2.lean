/-
  Proved: descantref30.Scan finds just the blocks that the plain scan finds. Conditions: those that each theorem lists ahead of its colon, and no others.
-/
import Derived.Test.YtfeicdflkpgbnaaV1
namespace Go.Proofs.Ytfeicdflkpgbnaa
open Go.RowKit

set_option maxHeartbeats 1000000 in
set_option maxRecDepth 20000 in
theorem scan12 (n c : Nat) (A : Option Addr) (bs : List UInt8) (w : World) (B : Nat) (hb : Bs w B A bs) (hB : B ≤ w.heap.size) (hn : n = bs.length) (hc : n ≤ c) (hm : n ≤ 65536) :
    Calls Try.prog 12 #[.slice A n c] w (FsP w (scan bs 0)) := by
  have HA := Lib.hid hb
  have HN := Lib.hid hn
  clear hb hn
  go_enter Try.func12, Try.ntmps12
  go_wp2_with fail
  go_loopw [3, 4, 5] (fun v i r wr => ∃ k j : Nat, i = .int .i64 k ∧ r = .int .i64 j ∧ j ≤ k ∧ ScanRel w 48 bs k v wr) (fun _ i _ _ => n - (intOf i).toNat)
  case atStart => exact ⟨0, 0, rfl, rfl, Nat.le_refl _, ScanRel.start w 48 bs⟩
  case round =>
    obtain ⟨k, j, rfl, rfl, hj, hrel⟩ := hrel
    have hk := hrel.at_
    rw [← HN.out] at hk
    have hsz := hrel.size
    have HS := Lib.hid hrel
    clear hrel
    by_cases hlt : k < n
    · go_wp2_with fail
      have HD := Lib.hid (show (bs.drop k).length = n - k by rw [List.length_drop, HN.out])
      refine (open16 _ _ _ (bs.drop k) _ B (by exact Bs.below (Bs.cutm HA.out k) (HS.out.below0.mono hB)) (by omega) HD.out.symm (by omega) (by omega)).mono ?_
      rintro e w1 ⟨hb1, he⟩
      have hk' : k < bs.length := by rw [← HN.out]; exact hlt
      have hu : (IntKind.i64).wrap ((k : Int) + 1) = (k : Int) + 1 := IntWalk.i64_in _ ⟨by omega, by omega⟩
      cases ho : openB (bs.drop k) with
      | false =>
        rw [if_neg (by rw [ho]; decide)] at he
        obtain ⟨x, hx, rfl⟩ := he
        have H1 := Lib.hid ((HS.out.below hb1).miss hk' ho)
        have hd : (x != 0) = true := by rw [bne_iff_ne]; exact hx
        clear hb1 HS ho
        unfold noHd
        go_wp2_with fail
        go_roundw
        case rel => exact ⟨k + 1, j + 1, by go_num, by go_num, by omega, H1.out.alloc _⟩
        case measure => simp [intOf]; omega
      | true =>
        rw [if_pos ho] at he
        obtain ⟨Ap, cp, rfl, hcp, hpp, hap⟩ := he
        have HO := Lib.hid ho
        obtain ⟨hr, hz0, hz1⟩ := openB_right ho
        have HR := Lib.hid hr
        have HP := Lib.hid (show PayOk w1 u3.ownBlock (payL (bs.drop k)) Ap cp from ⟨hcp, hpp, fun _ => HS.out.pay hB hap⟩)
        have H1 := Lib.hid (HS.out.below hb1)
        have hl1 := HD.out
        rw [hl1] at hz1
        clear hb1 HS ho hr hcp hpp hap hl1
        have hpl : (payL (bs.drop k)).length = (payL (bs.drop k)).length := rfl
        generalize hh : hdOf (bs.drop k) = hd0 at *
        obtain ⟨kk, i, l, s, b, t, nn, z⟩ := hd0
        have HH := Lib.hid hh
        clear hh
        dsimp only at hz0 hz1
        obtain ⟨z, rfl⟩ := Int.eq_ofNat_of_zero_le hz0
        have HF := Lib.hid (show fdCells (fdAt bs k) Ap cp = [.int .i64 (k : Int), .int .i64 kk, .int .i64 i, .int .i64 l, .int .i64 s, .int .i64 b, .bool t, .int .u32 nn, .int .i64 (z : Int), .slice Ap (payL (bs.drop k)).length cp, .int .u32 (blkSum (bs.drop k) : Nat)] by unfold fdCells fdAt; dsimp only; rw [HH.out])
        generalize (payL (bs.drop k)).length = pl at *
        generalize blkSum (bs.drop k) = bsum at *
        unfold Hd.cells
        dsimp only
        go_upto_region 8 with (fail)
        have H2 := Lib.hid (H1.out.alloc (.cells #[.int .i64 kk, .int .i64 i, .int .i64 l, .int .i64 s, .int .i64 b, .bool t, .int .u32 nn, .int .i64 z] 40))
        have P2 := Lib.hid (HP.out.below ((Below.refl _ w1).alloc (Nat.le_refl _) (.cells #[.int .i64 kk, .int .i64 i, .int .i64 l, .int .i64 s, .int .i64 b, .bool t, .int .u32 nn, .int .i64 z] 40)))
        have K2 := Lib.hid (Bk.new w1 40 #[.int .i64 kk, .int .i64 i, .int .i64 l, .int .i64 s, .int .i64 b, .bool t, .int .u32 nn, .int .i64 z])
        have HE := Lib.hid H1.out.own
        clear H1 HP
        generalize w1.alloc (.cells #[.int .i64 kk, .int .i64 i, .int .i64 l, .int .i64 s, .int .i64 b, .bool t, .int .u32 nn, .int .i64 z] 40) = w2 at *
        generalize w1.heap.size = gh at *
        obtain ⟨q0, q1, q2, q3, q4, q5, q6, q7⟩ := Bk.eight K2.out
        obtain ⟨fs, xs, h1, h2, h3, h4⟩ := H2.out
        have F1 := Lib.hid h1
        have F2 := Lib.hid h2
        have F3 := Lib.hid h3
        have F4 := Lib.hid h4
        have hz4 := h4.size
        have hlen : fs.length ≤ 65536 := by have := h1.2.1; omega
        have Kl := K2.out.lt
        clear h1 h2 h3 h4 H2
        have hz : (hdOf (bs.drop k)).size.toNat = z := by rw [HH.out]; rfl
        have HZ := Lib.hid hz
        clear hz
        go_wp2_with (at_builtin; refine wpl_app _ row27 rfl (.tmp 33) (.tmp 39) rfl w.heap.size u3 fs.length xs rfl (F2.out.alloc _) (w2.heap.size + 1) (some ⟨w2.heap.size, 0, none⟩) 1 1 (fdCells (fdAt bs k) Ap cp) rfl ?r rfl (fdCells_one _ _ _) (by omega) (by simp; omega) ?go)
        case r => rw [HF.out]; exact Rd.fresh w2 _ 48 (Nat.lt_succ_self _)
        case go =>
          intro v' w3 own gr hX
          have S3 := Lib.hid (ScanRel.hit F1.out (F3.out.below ((Below.refl _ w2).alloc (Nat.le_refl _) _)) (F2.out.alloc _) (F4.out.alloc hz4 _) hk' HO.out HZ.out (P2.out.below ((Below.refl _ w2).alloc (Nat.le_refl _) _)) own gr (by simpa using hX))
          have K3 := Lib.hid ((K2.out.alloc _).grown gr HE.out)
          clear own gr hX F1 F2 F3 F4 P2 K2 q0 q1 q2 q3 q4 q5 q6 q7 Kl hz4
          obtain ⟨q0, q1, q2, q3, q4, q5, q6, q7⟩ := Bk.eight K3.out
          have hu2 : (IntKind.i64).wrap ((k : Int) + 36 + (z : Int)) = (k : Int) + 36 + (z : Int) := IntWalk.i64_in _ ⟨by omega, by omega⟩
          go_wp2_with fail
          go_roundw
          case rel => exact ⟨k + 36 + z, j + 1, by go_num, by go_num, by omega, S3.out⟩
          case measure => simp [intOf]; omega
    · obtain rfl : k = n := by omega
      go_wp2_with fail
      go_ret
      exact HS.out.done (Nat.le_of_eq HN.out.symm)
end Go.Proofs.Ytfeicdflkpgbnaa
