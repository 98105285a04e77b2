/-
  Proved: whatever byte slice MendWhole is given, it returns true and the slice reads as it did. Conditions: none beyond the row's own.
-/
import Derived.Test.YtfeicdflkpgbnaaYa
import Derived.Test.YtfeicdflkpgbnaaRo
import Derived.Test.YtfeicdflkpgbnaaRl
import Derived.Test.YtfeicdflkpgbnaaOn
import Derived.Test.YtfeicdflkpgbnaaOu
import Derived.Test.YtfeicdflkpgbnaaW4
import Derived.Deep.RegionHeld3
import Derived.Deep.AppendLies
namespace Go.Proofs.Ytfeicdflkpgbnaa

section
open Go.RowKit
set_option maxHeartbeats 4000000 in
set_option maxRecDepth 20000 in
theorem law6 (n c : Nat) (A : Option Addr) (bs : List UInt8) (w : World) (hb : Bs w w.heap.size A bs) (hn : n = bs.length) (hc : n ≤ c) :
    Calls Try.prog 6 #[.slice A n c] w fun e w' => e = .returned (.bool true) ∧ Below w.heap.size w w' := by
  have HA := Lib.hid hb
  have HN := Lib.hid hn
  clear hb hn
  go_enter Try.func6, Try.ntmps6
  by_cases hbig : 2000 < n
  · go_wp2_with fail
    refine (known7 _).mono ?_
    rintro e w1 ⟨rfl, hb1⟩
    go_wp2_with fail
    go_ret
    exact ⟨rfl, hb1⟩
  · have hm : n ≤ 2000 := by omega
    go_wp2_with fail
    refine (parse24 n c w.heap.size A bs w HA.out (Nat.le_refl _) HN.out hc hm).mono ?_
    rintro e w1 ⟨ki, i1, i2, i3, i4, i5, TA, tn, tc, BA, bn, bc, tl, ts, PA, pn, pc, er, rfl, hb1, hp⟩
    have HP := Lib.hid hp
    have L1 := Lib.hid hb1
    have A1 := Lib.hid (HA.out.below hb1)
    clear hb1 hp
    go_upto_region 4 with (fail)
    have K2 := Lib.hid (Bk.new w1 65 #[.int .i64 ki, .int .i64 i1, .int .i64 i2, .int .i64 i3, .int .i64 i4, .int .i64 i5, .slice TA tn tc, .slice BA bn bc, .int .i64 tl, .int .u32 ts, .slice PA pn pc])
    have L2 := Lib.hid (L1.out.alloc L1.out.size (.cells #[.int .i64 ki, .int .i64 i1, .int .i64 i2, .int .i64 i3, .int .i64 i4, .int .i64 i5, .slice TA tn tc, .slice BA bn bc, .int .i64 tl, .int .u32 ts, .slice PA pn pc] 65))
    have A2 := Lib.hid (A1.out.alloc L1.out.size (.cells #[.int .i64 ki, .int .i64 i1, .int .i64 i2, .int .i64 i3, .int .i64 i4, .int .i64 i5, .slice TA tn tc, .slice BA bn bc, .int .i64 tl, .int .u32 ts, .slice PA pn pc] 65))
    have U2 := Lib.hid ((Below.refl w1.heap.size w1).alloc (Nat.le_refl _) (.cells #[.int .i64 ki, .int .i64 i1, .int .i64 i2, .int .i64 i3, .int .i64 i4, .int .i64 i5, .slice TA tn tc, .slice BA bn bc, .int .i64 tl, .int .u32 ts, .slice PA pn pc] 65))
    have hs1 := L1.out.size
    clear L1 A1
    generalize w1.alloc (.cells #[.int .i64 ki, .int .i64 i1, .int .i64 i2, .int .i64 i3, .int .i64 i4, .int .i64 i5, .slice TA tn tc, .slice BA bn bc, .int .i64 tl, .int .u32 ts, .slice PA pn pc] 65) = w2 at *
    have hs2 := K2.out.lt
    by_cases her : er = 0
    · subst her
      by_cases htn : tn = 0
      · subst htn
        obtain ⟨h26, gs, kk, lo, hi, xs, hbn, hbnc, hfo, hio, hrd, hbl⟩ := HP.out rfl rfl
        obtain ⟨⟨rest, hrest⟩, h36, hatd, hpay, hord, hgap⟩ := whole_facts hfo hio
        obtain ⟨l, hl, hxs, hlp⟩ := bels_of hbl
        subst hxs
        have hln : l.length = bn := by have := congrArg List.length hl; simp only [List.length_map] at this; omega
        have h54 : bn ≤ 54 := by rw [List.length_drop, ← HN.out] at h36; omega
        have hn26 : 26 ≤ n := by rw [HN.out]; exact h26
        have HRD := Lib.hid (show Rd w2 w1.heap.size BA (cellsB l) from hrd.below U2.out)
        have HLP := Lib.hid (fun e he => (hlp e he).below U2.out)
        have HL := Lib.hid hl
        have HLN := Lib.hid hln
        have HGN := Lib.hid hbn
        have HRE := Lib.hid hrest
        have HAD := Lib.hid hatd
        have HPY := Lib.hid (fun f hf => Nat.le_trans (hpay f hf) (show (bs.drop 26).length ≤ 65536 by rw [List.length_drop, ← HN.out]; omega))
        have HOR := Lib.hid hord
        have HGA := Lib.hid hgap
        clear HP hl hln hbn hrest hatd hpay hord hgap hfo hio hrd hbl hlp h36 h26 U2
        generalize w1.heap.size = g3 at *
        obtain ⟨p0, p1, p2, p3, p4, p5, p6, p7, p8, p9, p10⟩ := Bk.elev K2.out
        go_wp2_with fail
        clear p0 p1 p2 p3 p4 p5 p6 p7 p8 p9 p10
        go_loopw [5, 6] (fun v i wr => ∃ k : Nat, k ≤ bn ∧ i = .int .i64 k ∧ wr.ownsRow w2.heap.size 48 11 v k (cellsE (l.take k)) ∧ Below w2.heap.size w2 wr) (fun _ i _ => bn - (intOf i).toNat)
        case atStart => exact ⟨0, Nat.zero_le _, rfl, World.ownsRow_nil _ _ _ _, Below.refl _ _⟩
        case round =>
          obtain ⟨k, hk, rfl, hown, hbel⟩ := hrel
          have HO := Lib.hid hown
          have HB := Lib.hid hbel
          have hsz := hbel.size
          have c7 := (Bk.below K2.out hbel hs2).cell 7
          have hc7 : wr.cell? ⟨g3, 7, none⟩ = some (.slice BA bn bc) := c7
          clear hown hbel c7
          by_cases hlt : k < bn
          · have hkl : k < l.length := by rw [HLN.out]; exact hlt
            obtain ⟨b1, o1, rfl, hb1, hcl⟩ := Rd.mem HRD.out (k := 0) (by rw [cellsB_length]; omega)
            have D0 := bel_eleven (w := w2) hcl hkl
            have HTK := Lib.hid (show cellsE (l.take (k + 1)) = cellsE (l.take k) ++ l[k].cells by rw [List.take_add_one, List.getElem?_eq_getElem hkl, cellsE_append]; simp [cellsE])
            clear hcl
            generalize l[k] = e at *
            obtain ⟨⟨f0, ⟨f1, f2, f3, f4, f5, f6, f7, f8⟩, f9, f10⟩, Ap, cp⟩ := e
            dsimp only at D0
            have HTK' := Lib.hid (show cellsE (l.take (k + 1)) = cellsE (l.take k) ++ [.int .i64 f0, .int .i64 f1, .int .i64 f2, .int .i64 f3, .int .i64 f4, .int .i64 f5, .bool f6, .int .u32 f7, .int .i64 f8, .slice Ap f9.length cp, .int .u32 f10] from HTK.out)
            clear HTK
            generalize f9.length = pl at *
            have C0 := (K2.out).cell 7
            have SK := Lib.hid (show ∀ w3, Below w2.heap.size w2 w3 → w3.cell? ⟨g3, 7, none⟩ = some (.slice (some ⟨b1, o1, none⟩) bn bc) ∧ w3.cell? ⟨b1, o1 + k * 11, none⟩ = some (.int .i64 f1) ∧ w3.cell? ⟨b1, o1 + k * 11 + 1, none⟩ = some (.int .i64 f2) ∧ w3.cell? ⟨b1, o1 + k * 11 + 2, none⟩ = some (.int .i64 f3) ∧ w3.cell? ⟨b1, o1 + k * 11 + 3, none⟩ = some (.int .i64 f4) ∧ w3.cell? ⟨b1, o1 + k * 11 + 4, none⟩ = some (.int .i64 f5) ∧ w3.cell? ⟨b1, o1 + k * 11 + 5, none⟩ = some (.bool f6) ∧ w3.cell? ⟨b1, o1 + k * 11 + 6, none⟩ = some (.int .u32 f7) ∧ w3.cell? ⟨b1, o1 + k * 11 + 7, none⟩ = some (.int .i64 f8) ∧ w3.cell? ⟨b1, o1 + k * 11 + 8, none⟩ = some (.slice Ap pl cp) ∧ w3.cell? ⟨b1, o1 + k * 11 + 9, none⟩ = some (.int .u32 f10) ∧ w3.cell? ⟨b1, o1 + k * 11 + 10, none⟩ = some (.int .i64 f0) from fun w3 hb => by
              have hb2 : b1 < w2.heap.size := by omega
              obtain ⟨d0, d1, d2, d3, d4, d5, d6, d7, d8, d9, d10⟩ := D0
              exact ⟨(hb.cell (p := ⟨g3, 7, none⟩) hs2).trans C0, (hb.cell (p := ⟨b1, _, none⟩) hb2).trans d0, (hb.cell (p := ⟨b1, _, none⟩) hb2).trans d1, (hb.cell (p := ⟨b1, _, none⟩) hb2).trans d2, (hb.cell (p := ⟨b1, _, none⟩) hb2).trans d3, (hb.cell (p := ⟨b1, _, none⟩) hb2).trans d4, (hb.cell (p := ⟨b1, _, none⟩) hb2).trans d5, (hb.cell (p := ⟨b1, _, none⟩) hb2).trans d6, (hb.cell (p := ⟨b1, _, none⟩) hb2).trans d7, (hb.cell (p := ⟨b1, _, none⟩) hb2).trans d8, (hb.cell (p := ⟨b1, _, none⟩) hb2).trans d9, (hb.cell (p := ⟨b1, _, none⟩) hb2).trans d10⟩)
            clear C0 D0
            have i0 : (0 : Int) ≤ (k : Int) := Int.natCast_nonneg _
            have i1' : (k : Int) < (bn : Int) := by omega
            have HOa := Lib.hid (HO.out.alloc (.cells #[.int .i64 f0, .int .i64 f1, .int .i64 f2, .int .i64 f3, .int .i64 f4, .int .i64 f5, .bool f6, .int .u32 f7, .int .i64 f8, .slice Ap pl cp, .int .u32 f10] 48))
            have HRa := Lib.hid (Rd.fresh wr #[.int .i64 f0, .int .i64 f1, .int .i64 f2, .int .i64 f3, .int .i64 f4, .int .i64 f5, .bool f6, .int .u32 f7, .int .i64 f8, .slice Ap pl cp, .int .u32 f10] 48 (Nat.lt_succ_self wr.heap.size))
            have HSa := Lib.hid (show k + 1 ≤ 16777216 by omega)
            have HZa := Lib.hid (show w2.heap.size ≤ (wr.alloc (.cells #[.int .i64 f0, .int .i64 f1, .int .i64 f2, .int .i64 f3, .int .i64 f4, .int .i64 f5, .bool f6, .int .u32 f7, .int .i64 f8, .slice Ap pl cp, .int .u32 f10] 48)).heap.size by simp; omega)
            have HDa := Lib.hid (HB.out.drew)
            have HBa := Lib.hid ((HB.out.alloc hsz (.cells #[.int .i64 f0, .int .i64 f1, .int .i64 f2, .int .i64 f3, .int .i64 f4, .int .i64 f5, .bool f6, .int .u32 f7, .int .i64 f8, .slice Ap pl cp, .int .u32 f10] 48)).drew)
            have H1a := Lib.hid (show ∀ u ∈ ([.int .i64 f0, .int .i64 f1, .int .i64 f2, .int .i64 f3, .int .i64 f4, .int .i64 f5, .bool f6, .int .u32 f7, .int .i64 f8, .slice Ap pl cp, .int .u32 f10] : List Value), u.oneCell' = true from fun u hu => by simp only [List.mem_cons, List.not_mem_nil, or_false] at hu; rcases hu with rfl | rfl | rfl | rfl | rfl | rfl | rfl | rfl | rfl | rfl | rfl <;> rfl)
            have HPF := Lib.hid (show ∀ v' w3, w3.ownsRow w2.heap.size 48 11 v' (k + 1) (cellsE (l.take k) ++ [.int .i64 f0, .int .i64 f1, .int .i64 f2, .int .i64 f3, .int .i64 f4, .int .i64 f5, .bool f6, .int .u32 f7, .int .i64 f8, .slice Ap pl cp, .int .u32 f10]) → (wr.alloc (.cells #[.int .i64 f0, .int .i64 f1, .int .i64 f2, .int .i64 f3, .int .i64 f4, .int .i64 f5, .bool f6, .int .u32 f7, .int .i64 f8, .slice Ap pl cp, .int .u32 f10] 48)).drew.grownBy w3 u5.ownBlock → w3.ownsRow w2.heap.size 48 11 v' (k + 1) (cellsE (l.take (k + 1))) ∧ Below w2.heap.size w2 w3 from fun v' w3 own gr =>
              ⟨by rw [HTK'.out]; exact own, below_app (HO.out.alloc _) (gr_trans (gr_drew (gr_refl _ _)) gr) (HB.out.alloc hsz _) (by simp; omega)⟩)
            go_upto_region 10 with (fail)
            go_region_held3 (fun w' => w'.cell? ⟨g3, 7, none⟩ = some (.slice (some ⟨b1, o1, none⟩) bn bc) ∧ w'.cell? ⟨b1, o1 + k * 11, none⟩ = some (.int .i64 f1) ∧ w'.cell? ⟨b1, o1 + k * 11 + 1, none⟩ = some (.int .i64 f2) ∧ w'.cell? ⟨b1, o1 + k * 11 + 2, none⟩ = some (.int .i64 f3) ∧ w'.cell? ⟨b1, o1 + k * 11 + 3, none⟩ = some (.int .i64 f4) ∧ w'.cell? ⟨b1, o1 + k * 11 + 4, none⟩ = some (.int .i64 f5) ∧ w'.cell? ⟨b1, o1 + k * 11 + 5, none⟩ = some (.bool f6) ∧ w'.cell? ⟨b1, o1 + k * 11 + 6, none⟩ = some (.int .u32 f7) ∧ w'.cell? ⟨b1, o1 + k * 11 + 7, none⟩ = some (.int .i64 f8) ∧ w'.cell? ⟨b1, o1 + k * 11 + 8, none⟩ = some (.slice Ap pl cp) ∧ w'.cell? ⟨b1, o1 + k * 11 + 9, none⟩ = some (.int .u32 f10) ∧ w'.cell? ⟨b1, o1 + k * 11 + 10, none⟩ = some (.int .i64 f0))
              (first | (exact SK.out _ Q4.out) | (exact SK.out _ HB.out) | (exact SK.out _ HDa.out) | (exact SK.out _ HBa.out))
              ((refine step_app _ row27 (by rfl) (.tmp 34) (.tmp 60) (by rfl) w2.heap.size u5 k (cellsE (l.take k)) (by rfl) HOa.out (wr.heap.size + 1) (some ⟨wr.heap.size, 0, none⟩) 1 1 [.int .i64 f0, .int .i64 f1, .int .i64 f2, .int .i64 f3, .int .i64 f4, .int .i64 f5, .bool f6, .int .u32 f7, .int .i64 f8, .slice Ap pl cp, .int .u32 f10] (by rfl) HRa.out (by rfl) H1a.out HSa.out HZa.out ?_; intro v' w3 own gr hX; obtain ⟨Q3, Q4'⟩ := HPF.out v' w3 own gr; have Q5 := Lib.hid Q3; have Q4 := Lib.hid Q4'; clear own gr hX Q3 Q4'))
            all_goals
              go_wp2_with fail
              go_roundw
              case rel => exact ⟨k + 1, by omega, by go_num, Q5.out, Q4.out⟩
              case measure => simp [intOf]; omega
          · obtain rfl : k = bn := by omega
            have HW := Lib.hid (show wr.ownsRow w2.heap.size 48 11 u5 k (cellsE l) by have := HO.out; rwa [List.take_of_length_le (by rw [HLN.out]; exact Nat.le_refl _)] at this)
            obtain ⟨A5, c5, rfl, hc5, hr5, _⟩ := own_slice HW.out
            have F5 := Lib.hid (show Fs wr A5 c5 (gs.map (fun f => f.up 26)) (cellsE l) by have := Fs.of_els (fun e he => (HLP.out e he).below HB.out) (by rw [HLN.out]; exact hc5) hr5; rwa [HL.out] at this)
            have A3 := Lib.hid (A2.out.below (HB.out.mono (by omega)))
            have K3 := Lib.hid (Bk.below K2.out HB.out hs2)
            have L3 := Lib.hid (L2.out.trans (HB.out.mono (by omega)))
            obtain ⟨b0, o0, rfl, hb0, _⟩ := Bs.mem A3.out (k := 0) (by rw [← HN.out]; omega)
            have hs3 := hsz
            have hg3r : g3 < wr.heap.size := by omega
            clear hr5 HW HO HB hsz A2 K2 L2 HRD HLP HL HLN HA hs2 hs3
            have HL26 := Lib.hid (show (bs.drop 26).length = n - 26 by rw [List.length_drop, HN.out])
            have i26 : (26 : Int) ≤ (n : Int) := by omega
            have j26 : (26 : Int) ≤ (c : Int) := by omega
            go_upto_region 11 with (fail)
            clear hc7
            go_cut [7] (fun s7 wx => RowP wr (scan (bs.drop 26) 0) s7 wx)
            case first =>
              by_cases hc26 : c = 26
              · have HS0 := Lib.hid (show Bs wr w.heap.size (some ⟨b0, o0, none⟩) (bs.drop 26) by have : bs.drop 26 = [] := List.eq_nil_of_length_eq_zero (by rw [HL26.out]; omega); rw [this]; exact Bs.nil)
                subst hc26
                obtain rfl : n = 26 := by omega
                go_region_held3 (fun w' => Bs w' w.heap.size (some ⟨b0, o0, none⟩) bs) (first | assumption | exact A3.out | exact A3.out.drew | exact S4.out | exact S5.out)
                  ((first | (go_at_call 8; refine (make8 wr.drew).mono ?_; rintro e w4 ⟨rfl, ht4, hb4⟩; have T4 := Lib.hid ht4; have L4 := Lib.hid (((Below.refl wr.heap.size wr).drew).trans hb4); have S4 := Lib.hid (show Bs w4 w.heap.size (some ⟨b0, o0, none⟩) bs from A3.out.drew.below (hb4.mono (by simp; omega))); have Z4 := Lib.hid (show Bs w4 w.heap.size (some ⟨b0, o0, none⟩) (bs.drop 26) from HS0.out.drew.below (hb4.mono (by simp; omega))); have z4 := hb4.size; clear ht4 hb4) | (go_at_call 11; refine (scan11o 0 0 wr.heap.size (some ⟨b0, o0, none⟩) (bs.drop 26) w4 w.heap.size T4.out Z4.out (by simp at z4; omega) (by rw [HL26.out]) (Nat.le_refl _) (by omega)).mono ?_; rintro e w5 h5; obtain ⟨A7, c7, rfl, h7⟩ := FsO.row (w0 := wr) h5 L4.out; have R7 := Lib.hid h7; obtain ⟨_, _, _, _, _, _, _, _, _, hb7⟩ := h7; have S5 := Lib.hid (show Bs w5 w.heap.size (some ⟨b0, o0, none⟩) bs from A3.out.below (hb7.mono (by omega))); clear h5 hb7)))
                all_goals
                  go_wp2_with fail
                  go_meet
                  case rel => exact R7.out
              · have HS0 := Lib.hid (Bs.cut A3.out (k := 26) (A' := some ⟨b0, o0 + 26, none⟩) (fun b' o' e _ => by injection e with e; cases e; rfl))
                go_region_held3 (fun w' => Bs w' w.heap.size (some ⟨b0, o0, none⟩) bs) (first | assumption | exact A3.out | exact A3.out.drew | exact S4.out | exact S5.out)
                  ((first | (go_at_call 8; refine (make8 wr.drew).mono ?_; rintro e w4 ⟨rfl, ht4, hb4⟩; have T4 := Lib.hid ht4; have L4 := Lib.hid (((Below.refl wr.heap.size wr).drew).trans hb4); have S4 := Lib.hid (show Bs w4 w.heap.size (some ⟨b0, o0, none⟩) bs from A3.out.drew.below (hb4.mono (by simp; omega))); have Z4 := Lib.hid (show Bs w4 w.heap.size (some ⟨b0, o0 + 26, none⟩) (bs.drop 26) from HS0.out.drew.below (hb4.mono (by simp; omega))); have z4 := hb4.size; clear ht4 hb4) | (go_at_call 11; refine (scan11o (n - 26) (c - 26) wr.heap.size (some ⟨b0, o0 + 26, none⟩) (bs.drop 26) w4 w.heap.size T4.out Z4.out (by simp at z4; omega) HL26.out.symm (by omega) (by omega)).mono ?_; rintro e w5 h5; obtain ⟨A7, c7, rfl, h7⟩ := FsO.row (w0 := wr) h5 L4.out; have R7 := Lib.hid h7; obtain ⟨_, _, _, _, _, _, _, _, _, hb7⟩ := h7; have S5 := Lib.hid (show Bs w5 w.heap.size (some ⟨b0, o0, none⟩) bs from A3.out.below (hb7.mono (by omega))); clear h5 hb7)))
                all_goals
                  go_wp2_with fail
                  go_meet
                  case rel => exact R7.out
            case rest =>
              obtain ⟨B7, A7, c7, xs7, rfl, hc7, hB7, ho7, hf7, hb7⟩ := hcut
              obtain ⟨l7, hl7, rfl, hp7⟩ := els_ofX hf7
              have HBD := Lib.hid (scan_bd (bs.drop 26))
              have HM7 := Lib.hid (show l7.length = (scan (bs.drop 26) 0).length by rw [← hl7, List.length_map])
              have HL7 := Lib.hid hl7
              have hw7 := hb7.size
              have hMk : k ≤ (scan (bs.drop 26) 0).length := by rw [HRE.out, List.length_append, ← HGN.out]; omega
              have hM65 : (scan (bs.drop 26) 0).length ≤ 2000 := by have := scan_fit (bs.drop 26); rw [HL26.out] at this; omega
              have HU0 := Lib.hid (show UpR B7 wc (.slice A7 (scan (bs.drop 26) 0).length c7) l7 0 wc from ⟨by rw [upN_zero, HM7.out]; exact ho7, hp7, Below.refl _ _⟩)
              have HFW := Lib.hid (show ∀ wx, Below B7 wc wx → Below wr.heap.size wr wx from fun wx h => hb7.trans (h.mono hB7))
              have HBS := Lib.hid (show ∀ e ∈ l7, 0 ≤ e.f.at_ ∧ e.f.at_ ≤ 2000 from fun e he => by
                have := HBD.out e.f (by rw [← HL7.out]; exact List.mem_map_of_mem he)
                rw [HL26.out] at this
                omega)
              have HUL := Lib.hid (show k = (gs.map (fun f => f.up 26)).length by rw [List.length_map]; exact HGN.out)
              have HGA' := Lib.hid (show gapN (gs.map (fun f => f.up 26)) k = [] by rw [HGN.out]; exact HGA.out)
              have hwr := L3.out.size
              clear ho7 hf7 hb7 hp7 hl7 A3 HBD HGA
              generalize hsc : scan (bs.drop 26) 0 = sc at *
              have HSC := Lib.hid hsc
              clear hsc
              generalize hM : sc.length = M at *
              have HMM := Lib.hid hM
              clear hM
              go_wp2_with fail
              go_loopw [8] (fun i wx => ∃ j : Nat, j ≤ M ∧ i = .int .i64 j ∧ UpR B7 wc (.slice A7 M c7) l7 j wx) (fun i _ => M - (intOf i).toNat)
              case atStart => exact ⟨0, Nat.zero_le _, rfl, HU0.out⟩
              case round =>
                obtain ⟨j, hj, rfl, hup⟩ := hrel
                by_cases hjm : j < M
                · have hjl : j < l7.length := by rw [HM7.out]; exact hjm
                  obtain ⟨g, rfl, hcg, hfg, hup'⟩ := hup.step HM7.out hjl
                  have HUP := Lib.hid hup'
                  obtain ⟨y0, y1⟩ := HBS.out l7[j] (List.getElem_mem hjl)
                  clear hup hup' HU0
                  generalize l7[j].f.at_ = y at *
                  have j0 : (0 : Int) ≤ (j : Int) := Int.natCast_nonneg _
                  have j1 : (j : Int) < (M : Int) := by omega
                  go_wp2_with fail
                  go_roundw
                  case rel => exact ⟨j + 1, by omega, by go_num, HUP.out⟩
                  case measure => simp [intOf]; omega
                · obtain rfl : j = M := by omega
                  have HUP := Lib.hid hup
                  clear hup HU0
                  have HB8 := Lib.hid (HFW.out _ HUP.out.2.2)
                  have E8 := Lib.hid (HUP.out.done HM7.out hc7 HL7.out HRE.out)
                  have G8 := Lib.hid (F5.out.below HB8.out)
                  have S8 := Lib.hid (show wr.cell? ⟨g3, 0, none⟩ = some (.int .i64 ki) from (K3.out.below HB8.out hg3r).cell 0)
                  have L8 := Lib.hid (L3.out.trans (HB8.out.mono hwr))
                  have hg8 : g3 < wr.heap.size := by have := HB8.out.size; omega
                  have hkc7 : k ≤ c7 := by omega
                  clear HB8 HUP F5 K3 L3 HFW HBS HSC HMM HRE HL7 HM7 hg3r hwr
                  generalize (cellsE (l7.map upE)).take (gs.length * 11) = x8 at *
                  generalize gs.map (fun f => f.up 26) = us at *
                  have k7 : (k : Int) ≤ (c7 : Int) := by omega
                  have k8 : ¬ j < k := by omega
                  go_wp2_with fail
                  refine (backs10q k c7 A7 us x8 wr E8.out HUL.out (by omega)).mono ?_
                  rintro e w10 ⟨A10, c10, x10, rfl, hc10, hf10, hb10⟩
                  have F10 := Lib.hid hf10
                  have G10 := Lib.hid (G8.out.below hb10)
                  have E10 := Lib.hid (E8.out.below hb10)
                  have S10 := Lib.hid ((hb10.cell (p := ⟨g3, 0, none⟩) hg8).trans S8.out)
                  have L10 := Lib.hid (L8.out.trans (hb10.mono L8.out.size))
                  have hg10 : g3 < w10.heap.size := by have := hb10.size; omega
                  clear hf10 hb10 G8 E8 S8 L8 hg8
                  go_wp2_with fail
                  refine (same9 k c10 c5 A10 A5 us x10 _ w10 F10.out G10.out HUL.out (by omega)).mono ?_
                  rintro e w11 ⟨rfl, hb11⟩
                  have GD := Lib.hid (show Fs w11.drew A5 c5 us (cellsE l) from (G10.out.below hb11).below ((Below.refl _ w11).drew))
                  have ED := Lib.hid (show Fs w11.drew A7 c7 us x8 from (E10.out.below hb11).below ((Below.refl _ w11).drew))
                  have SD := Lib.hid (show w11.drew.cell? ⟨g3, 0, none⟩ = some (.int .i64 ki) from (hb11.cell (p := ⟨g3, 0, none⟩) hg10).trans S10.out)
                  have SE := Lib.hid (show w11.cell? ⟨g3, 0, none⟩ = some (.int .i64 ki) from (hb11.cell (p := ⟨g3, 0, none⟩) hg10).trans S10.out)
                  have LD := Lib.hid (show Below w.heap.size w w11.drew from (L10.out.trans (hb11.mono L10.out.size)).drew)
                  have hgD : g3 < w11.drew.heap.size := by have := hb11.size; simp; omega
                  clear hb11 F10 G10 E10 S10 L10 hg10
                  go_upto_region 18 with (fail)
                  go_region_held3 (fun w' => w'.cell? ⟨g3, 0, none⟩ = some (.int .i64 ki)) (first | assumption | exact SD.out | exact SE.out | exact S12.out | exact S13.out | exact S14.out | exact S15.out | exact S16.out)
                    ((first | (go_at_call 18; refine (order18q k c7 A7 us x8 ki w11.drew ED.out HUL.out (by omega) HPY.out HAD.out HOR.out).mono ?_; rintro e w12 ⟨A12, c12, x12, rfl, hc12, hf12, hb12⟩; have F12 := Lib.hid hf12; have G12 := Lib.hid (GD.out.below hb12); have E12 := Lib.hid (ED.out.below hb12); have S12 := Lib.hid ((hb12.cell (p := ⟨g3, 0, none⟩) hgD).trans SD.out); have L12 := Lib.hid (LD.out.trans (hb12.mono LD.out.size)); have hg12 : g3 < w12.heap.size := Nat.lt_of_lt_of_le hgD hb12.size; clear hf12 hb12) | (go_at_call 10; refine (backs10q k c12 A12 us x12 w12 F12.out HUL.out (by omega)).mono ?_; rintro e w13 ⟨A13, c13, x13, rfl, hc13, hf13, hb13⟩; have F13 := Lib.hid hf13; have G13 := Lib.hid (G12.out.below hb13); have E13 := Lib.hid (E12.out.below hb13); have S13 := Lib.hid ((hb13.cell (p := ⟨g3, 0, none⟩) hg12).trans S12.out); have L13 := Lib.hid (L12.out.trans (hb13.mono L12.out.size)); have hg13 : g3 < w13.heap.size := Nat.lt_of_lt_of_le hg12 hb13.size; clear hf13 hb13) | (go_at_call 9; refine (same9 k c13 c5 A13 A5 us x13 _ w13 F13.out G13.out HUL.out (by omega)).mono ?_; rintro e w14 ⟨rfl, hb14⟩; have E14 := Lib.hid (E13.out.below hb14); have S14 := Lib.hid ((hb14.cell (p := ⟨g3, 0, none⟩) hg13).trans S13.out); have L14 := Lib.hid (L13.out.trans (hb14.mono L13.out.size)); have hg14 : g3 < w14.heap.size := Nat.lt_of_lt_of_le hg13 hb14.size; clear hb14) | (go_at_call 22; refine (gaps22q k c7 A7 us x8 w14 E14.out HUL.out (by omega) HGA'.out).mono ?_; rintro e w15 ⟨A15, c15, rfl, hb15⟩; have S15 := Lib.hid ((hb15.cell (p := ⟨g3, 0, none⟩) hg14).trans S14.out); have L15 := Lib.hid (L14.out.trans (hb15.mono L14.out.size)); have hg15 : g3 < w15.heap.size := Nat.lt_of_lt_of_le hg14 hb15.size; clear hb15) | (go_at_call 7; refine (known7 w15).mono ?_; rintro e w16 ⟨rfl, hb16⟩; have S16 := Lib.hid ((hb16.cell (p := ⟨g3, 0, none⟩) hg15).trans S15.out); have L16 := Lib.hid (L15.out.trans (hb16.mono L15.out.size)); clear hb16)))
                  all_goals
                    go_wp2_with fail
                    go_ret
                    exact ⟨rfl, L16.out⟩
      · have htn' : 0 < tn := by omega
        clear HP
        obtain ⟨p0, p1, p2, p3, p4, p5, p6, p7, p8, p9, p10⟩ := Bk.elev K2.out
        go_wp2_with fail
        refine (known7 _).mono ?_
        rintro e w3 ⟨rfl, hb3⟩
        go_wp2_with fail
        go_ret
        exact ⟨rfl, L2.out.trans (hb3.mono L2.out.size)⟩
    · have hd2 : (er != 0) = true := by rw [bne_iff_ne]; exact her
      clear her HP
      obtain ⟨p0, p1, p2, p3, p4, p5, p6, p7, p8, p9, p10⟩ := Bk.elev K2.out
      go_wp2_with fail
      refine (known7 _).mono ?_
      rintro e w3 ⟨rfl, hb3⟩
      go_wp2_with fail
      go_ret
      exact ⟨rfl, L2.out.trans (hb3.mono L2.out.size)⟩
end

open Go.ChangeShapes Go.WideShapes Go.ChangeAt Go.RowKit

set_option maxRecDepth 100000 in
theorem whole_lifted (os : Os) (started : os.Started) (H : Type) (enc : TypeId × Value → H) :
    ReturnsInHanded {} Try.checked os 6 .any (Rows.mendWholeSpec.pre6 enc Try.prog Try.f6 Rows.mendWholeRow.domain false) (Rows.mendWholeSpec.post enc Try.prog Try.f6 false true false false) := by
  refine returnsInHanded_of_change (C := Try.checked) Try.own started (by kernel_rfl) Try.func6
    (ChangeSpec.witness6 (enc := enc) (C := Try.checked) false ⟨#[], #[.slice none 0 0], []⟩ 8 (by kernel_rfl) (by kernel_rfl) (by kernel_rfl) (by kernel_rfl)) ?_
  intro W base args ds gs before hval0 hW hcnd _
  have hval : ∀ (j : Nat) t v, Try.f6.params[j]? = some t → args[j]? = some v → Value.okWide Try.prog W .any base t v := hval0
  have hW' := hW
  obtain ⟨p, q, hA0, hV, rfl, hfz, hnd⟩ := hW
  have hA : DataW.TrodAll enc Try.prog W 0 (fun _ => true) true Try.f6.params.toList args.toList ds p := hA0
  rw [Try.params6] at hA hval
  obtain ⟨v0, d0, rfl, rfl, h0⟩ := trodAll_one hA
  obtain ⟨rfl, rfl⟩ := trodVars_none hV
  obtain ⟨A, n, c, rfl⟩ := okWide_slice Try.underlying22 (hval 0 22 v0 rfl rfl)
  clear hA0 hval0
  simp only [List.append_nil] at hW'
  have hlt : ∀ x ∈ p, x.block < W.heap.size := fun x hx => by simpa using hW'.lt x hx
  obtain ⟨bs, hn, hc, hb⟩ := open_bytes h0
  refine (law6 n c A bs W hb hn hc).mono fun e W' ⟨he, hw⟩ => ?_
  subst he
  have hargs : ∀ sp : Nat → Bool, (∀ x ∈ p, sp x.block = true) → DataW.Trod enc Try.prog W' 0 sp true 22 (.slice A n c) d0 p :=
    fun sp hsp => WideElems.Trod_stays Try.laidOut (by kernel_rfl) (of_decide_eq_true (by kernel_rfl)) h0 (fun x hx => hw.same (hlt x hx)) hsp
  exact ⟨_, rfl, post_of_below (pa := p) (pv := []) hW' (fun _ _ _ => trodAll_mk1 (shut_bool Try.underlying4 true)) (fun sp hsp => trodAll_mk1 (hargs sp hsp)) (fun _ _ => rfl) (by simp) hw
    (ok_one (by kernel_rfl) rfl (okWide_bool_mk Try.underlying4 true))⟩

theorem whole_holds : Rows.MendWholeSaid :=
  OpenClaim.holds_of_wide 6 Try.f6 rfl rfl rfl rfl rfl rfl rfl ⟨rfl, rfl, rfl, rfl, rfl⟩ rfl rfl rfl rfl rfl (by kernel_rfl) Try.func6 (by kernel_rfl)
    (of_decide_eq_true (by kernel_rfl)) (by unfold Func.isWrapper; first | (rw [if_pos (by decide +kernel)]; kernel_rfl) | (rw [if_neg (by decide +kernel)]; exact ⟨rfl, rfl⟩))
    (fun os started H enc _ => whole_lifted os started H enc)
#print axioms whole_holds
end Go.Proofs.Ytfeicdflkpgbnaa
