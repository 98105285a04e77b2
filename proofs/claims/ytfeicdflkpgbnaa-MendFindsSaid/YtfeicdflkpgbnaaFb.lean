/-
  Proved: descantlaw30.MendFinds returns true for every two slices of byte slices. Conditions: those that each theorem lists ahead of its colon, and no others.
-/
import Derived.Test.YtfeicdflkpgbnaaFa
namespace Go.Proofs.Ytfeicdflkpgbnaa
open Go.RowKit

set_option maxHeartbeats 2000000 in
set_option maxRecDepth 20000 in
theorem law4 (n1 c1 n2 c2 : Nat) (A1 A2 : Option Addr) (bl bw : List (List UInt8)) (w : World) (h1 : Ss w w.heap.size A1 c1 bl) (h2 : Ss w w.heap.size A2 c2 bw) (hn1 : n1 = bl.length) (hn2 : n2 = bw.length) :
    Calls Try.prog 4 #[.slice A1 n1 c1, .slice A2 n2 c2] w fun e w' => e = .returned (.bool true) ∧ Below w.heap.size w w' := by
  have S1 := Lib.hid h1
  have S2 := Lib.hid h2
  have N1 := Lib.hid hn1
  have N2 := Lib.hid hn2
  have hc1 : n1 ≤ c1 := by rw [hn1]; exact h1.1
  have hc2 : n2 ≤ c2 := by rw [hn2]; exact h2.1
  clear h1 h2 hn1 hn2
  go_enter Try.func4, Try.ntmps4
  go_wp2_with fail
  refine (few15 n1 c1 A1 bl w _ S1.out N1.out).mono ?_
  rintro e w' ⟨rfl, rfl⟩
  cases hf1 : fewB bl with
  | false =>
    go_wp2_with fail
    refine (known7 _).mono ?_
    rintro e w1 ⟨rfl, hb1⟩
    go_wp2_with fail
    go_ret
    exact ⟨rfl, hb1⟩
  | true =>
    go_wp2_with fail
    refine (few15 n2 c2 A2 bw w _ S2.out N2.out).mono ?_
    rintro e w' ⟨rfl, rfl⟩
    cases hf2 : fewB bw with
    | false =>
      go_wp2_with fail
      refine (known7 _).mono ?_
      rintro e w1 ⟨rfl, hb1⟩
      go_wp2_with fail
      go_ret
      exact ⟨rfl, hb1⟩
    | true =>
      have F1 := Lib.hid hf1
      have F2 := Lib.hid hf2
      have h12 : n1 ≤ 12 := by rw [N1.out]; exact (fewB_true.1 hf1).1
      have T := Lib.hid (textN_len hf1 hf2)
      clear hf1 hf2
      go_wp2_with fail
      go_loopw [5, 6, 7] (fun v5 v6 i wr => ∃ k : Nat, k ≤ n1 ∧ i = .int .i64 k ∧ TxtRel w (textN bl bw k) (placesN bl bw k) v5 v6 wr ∧ ∀ j, j < k → fitB (bl.getD j [])) (fun _ _ i _ => n1 - (intOf i).toNat)
      case atStart => exact ⟨0, Nat.zero_le _, rfl, TxtRel.start w, fun j hj => absurd hj (Nat.not_lt_zero _)⟩
      case round =>
        obtain ⟨k, hk, rfl, hrel, hfit⟩ := hrel
        have R := Lib.hid hrel
        have FT := Lib.hid hfit
        have hsz := hrel.2.2.2.size
        clear hrel hfit
        by_cases hlt : k < n1
        · go_upto_if 33 with (fail)
          go_cut [5] (fun s5 wx => TxtRel w (textN bl bw k ++ gapL bw k) (placesN bl bw k) s5 u6 wx)
          case first =>
            by_cases hb : k < n2
            · obtain ⟨b, o, A', c', rfl, hbB, hcell, hcl, hbs⟩ := S2.out.at_ (i := k) (by rw [← N2.out]; exact hb)
              have HBS := Lib.hid hbs
              have HCL := Lib.hid hcell
              clear hbs hcell
              have hf300 : (bw.getD k []).length ≤ 300 := few_getD F2.out k
              have ht := T.out k
              have HG := Lib.hid (show gapL bw k = (bw.getD k []).filter (· != 222) from rfl)
              generalize bw.getD k [] = gb at *
              generalize hgl : gb.length = gn at *
              have HGL := Lib.hid hgl
              clear hgl
              go_wp2_with fail
              have hdk : decide (k < n2) = true := decide_eq_true hb
              simp only [hdk]
              clear hdk
              obtain ⟨wo, rfl⟩ : ∃ wo : World, wo = wr := ⟨_, rfl⟩
              go_loopw [5, 8] (fun v5 j wx => ∃ i : Nat, i ≤ gn ∧ j = .int .i64 i ∧ TxtRel w (textN bl bw k ++ (gb.take i).filter (· != 222)) (placesN bl bw k) v5 u6 wx) (fun _ j _ => gn - (intOf j).toNat)
              case atStart => exact ⟨0, Nat.zero_le _, rfl, by simpa using R.out⟩
              case round =>
                obtain ⟨i, hi, rfl, hrel⟩ := hrel
                have Q := Lib.hid hrel
                have hcell : wr.cell? ⟨b, o + k, none⟩ = some (.slice A' gn c') := (hrel.2.2.2.cell (p := ⟨b, o + k, none⟩) hbB).trans HCL.out
                clear hrel
                by_cases hin : i < gn
                · obtain ⟨b', o', rfl, hbB', hcc⟩ := HBS.out.at_ (by rw [HGL.out]; exact Nat.lt_of_le_of_lt (Nat.zero_le _) hin)
                  have hbyte : wr.cell? ⟨b', o' + i, none⟩ = some (.int .u8 (byN gb i : Nat)) := (Q.out.2.2.2.cell (p := ⟨b', o' + i, none⟩) hbB').trans (hcc i (by rw [HGL.out]; exact hin))
                  clear hcc
                  by_cases hx : byN gb i = 222
                  · have HM := Lib.hid (filt_miss (l := gb) (k := i) (by rw [HGL.out]; exact hin) hx)
                    rw [hx] at hbyte
                    clear hx
                    go_wp2_with fail
                    go_roundw
                    case rel => exact ⟨i + 1, by omega, by go_num, by rw [HM.out]; exact Q.out⟩
                    case measure => simp [intOf]; omega
                  · obtain ⟨x, hxv, hxe⟩ := filt_hit (l := gb) (k := i) (by rw [HGL.out]; exact hin) hx
                    have HM := Lib.hid hxe
                    have hlen := filter_len gb i
                    rw [HGL.out] at hlen
                    clear hxe
                    have HV := Lib.hid hxv
                    have hd : (((byN gb i : Nat) : Int) != 222) = true := by rw [bne_iff_ne]; omega
                    clear hxv hx
                    generalize byN gb i = y at *
                    have hL : (textN bl bw k ++ (gb.take i).filter (· != 222)).length ≤ 16777200 := by rw [List.length_append]; omega
                    have hs9 := Q.out.2.2.2.size
                    have HM2 := Lib.hid (show textN bl bw k ++ (gb.take (i + 1)).filter (· != 222) = textN bl bw k ++ (gb.take i).filter (· != 222) ++ [x] by rw [HM.out, List.append_assoc])
                    clear HM
                    generalize textN bl bw k ++ (gb.take i).filter (· != 222) = L at *
                    go_wp2_with (at_builtin; refine wpl_app _ row22 rfl (.tmp 51) (.tmp 59) rfl w.heap.size u5 L.length (L.map B8) rfl (Q.out.1.alloc _) (wr.heap.size + 1) (some ⟨wr.heap.size, 0, none⟩) 1 1 ([x].map B8) rfl ?r rfl (one8 _) (by omega) (by simp; omega) ?go)
                    case r => exact one_byte HV.out (Rd.fresh wr #[.int .u8 y] 5 (Nat.lt_succ_self _))
                    case go =>
                      intro v' w3 own gr hX
                      have Q3 := Lib.hid ((Q.out.alloc _).text (M := [x]) own rfl gr (by simpa using hX))
                      clear own gr hX
                      go_wp2_with fail
                      go_roundw
                      case rel => exact ⟨i + 1, by omega, by go_num, by rw [HM2.out]; exact Q3.out⟩
                      case measure => simp [intOf]; omega
                · obtain rfl : i = gn := by omega
                  have hx : (gb.take i).filter (· != 222) = gapL bw k := by rw [List.take_of_length_le (by rw [HGL.out]; exact Nat.le_refl _), HG.out]
                  have HX := Lib.hid hx
                  clear hx
                  go_wp2_with fail
                  go_meet
                  case rel => rw [← HX.out]; exact Q.out
            · have hg : gapL bw k = [] := gapL_none (by rw [← N2.out]; omega)
              have HR := Lib.hid (show TxtRel w (textN bl bw k ++ gapL bw k) (placesN bl bw k) u5 u6 wr by rw [hg, List.append_nil]; exact R.out)
              clear hg
              go_wp2_with fail
              go_meet
              case rel => exact HR.out
          case rest =>
            have R1 := Lib.hid hcut
            clear hcut R
            obtain ⟨b, o, A', c', rfl, hbB, hcell0, hcl, hbs0⟩ := S1.out.at_ (i := k) (by rw [← N1.out]; exact hlt)
            have hcell : wc.cell? ⟨b, o + k, none⟩ = some (.slice A' (bl.getD k []).length c') := (R1.out.2.2.2.cell (p := ⟨b, o + k, none⟩) hbB).trans hcell0
            have hbs := hbs0.below R1.out.2.2.2
            have HB0 := Lib.hid hbs
            have HC0 := Lib.hid hcell0
            have h300 := few_getD F1.out k
            have hzc := R1.out.2.2.2.size
            clear hcell0 hbs0 hbs
            have HBL := Lib.hid (rfl : bl.getD k [] = bl.getD k [])
            generalize hbk : bl.getD k [] = bk at *
            have HBK := Lib.hid hbk
            generalize hnk : bk.length = nk at *
            have HNK := Lib.hid hnk
            clear hbk hnk HBL
            go_wp2_with fail
            refine (open16 nk c' A' bk wc _ HB0.out hzc HNK.out.symm hcl (by omega)).mono ?_
            rintro e w1 ⟨hb1, he⟩
            cases ho : openB bk with
            | false =>
              rw [if_neg (by rw [ho]; decide)] at he
              obtain ⟨x, hx, rfl⟩ := he
              have W1 := Lib.hid (R1.out.2.2.2.trans (hb1.mono hzc))
              have hd : (x != 0) = true := by rw [bne_iff_ne]; exact hx
              have hs1 := W1.out.size
              clear hb1 ho
              unfold noHd
              go_upto_region 15 with (fail)
              go_quiet (fail)
              go_wp2_with fail
              refine (known7 _).mono ?_
              rintro e w2 ⟨rfl, hb2⟩
              go_wp2_with fail
              go_ret
              exact ⟨rfl, (below_drewN (W1.out.alloc hs1 _) _).trans (hb2.mono (by simp; omega))⟩
            | true =>
              rw [if_pos ho] at he
              obtain ⟨Ap, cp, rfl, hcp, hpp, hap⟩ := he
              obtain ⟨hr, hz0, hz1⟩ := openB_right ho
              have hz2 := (right_size hr).2
              have HFIT := Lib.hid (fun (h : (nk : Int) = 36 + (hdOf bk).size) => (show fitB bk from ⟨ho, by rw [HNK.out]; exact h⟩))
              have R2 := Lib.hid (R1.out.below hb1)
              have hcell1 : w1.cell? ⟨b, o + k, none⟩ = some (.slice A' nk c') := (R2.out.2.2.2.cell (p := ⟨b, o + k, none⟩) hbB).trans HC0.out
              have B1 := Lib.hid (show Bs w1 w.heap.size A' bk from HB0.out.below (hb1.mono hzc))
              have hs1 := R2.out.2.2.2.size
              rw [HNK.out] at hz1
              clear hb1 ho hr hcp hpp hap hcell R1 HB0
              generalize hdOf bk = hd0 at *
              obtain ⟨kk, i, l, s, bb, t, nn, z⟩ := hd0
              dsimp only at hz0 hz1 hz2 HFIT
              generalize (payL bk).length = pl at *
              generalize blkSum bk = bsum at *
              unfold Hd.cells
              dsimp only
              go_upto_region 15 with (fail)
              have R3 := Lib.hid (R2.out.alloc (.cells #[.int .i64 kk, .int .i64 i, .int .i64 l, .int .i64 s, .int .i64 bb, .bool t, .int .u32 nn, .int .i64 z] 40))
              have hcell2 : (w1.alloc (.cells #[.int .i64 kk, .int .i64 i, .int .i64 l, .int .i64 s, .int .i64 bb, .bool t, .int .u32 nn, .int .i64 z] 40)).cell? ⟨b, o + k, none⟩ = some (.slice A' nk c') := (R3.out.2.2.2.cell (p := ⟨b, o + k, none⟩) hbB).trans HC0.out
              have q7 := (Bk.eight (Bk.new w1 40 #[.int .i64 kk, .int .i64 i, .int .i64 l, .int .i64 s, .int .i64 bb, .bool t, .int .u32 nn, .int .i64 z])).2.2.2.2.2.2.2
              have B2 := Lib.hid (B1.out.alloc hs1 (.cells #[.int .i64 kk, .int .i64 i, .int .i64 l, .int .i64 s, .int .i64 bb, .bool t, .int .u32 nn, .int .i64 z] 40))
              clear R2 B1 hcell1
              generalize w1.alloc (.cells #[.int .i64 kk, .int .i64 i, .int .i64 l, .int .i64 s, .int .i64 bb, .bool t, .int .u32 nn, .int .i64 z] 40) = w2 at *
              generalize w1.heap.size = gh at *
              have hu : (IntKind.i64).wrap (36 + z) = 36 + z := IntWalk.i64_in _ ⟨by omega, by omega⟩
              have hs2 := R3.out.2.2.2.size
              by_cases hfit : (nk : Int) = 36 + z
              · have hd : ((nk : Int) != 36 + z) = false := by rw [bne_eq_false_iff_eq]; exact hfit
                have FB := Lib.hid (HFIT.out hfit)
                clear HFIT hfit
                have ht := T.out k
                have hg300 : (gapL bw k).length ≤ 300 := Nat.le_trans (List.length_filter_le _ _) (few_getD F2.out k)
                have HLl := Lib.hid (show (textN bl bw k ++ gapL bw k).length ≤ 16000000 by rw [List.length_append]; omega)
                have HPl := Lib.hid (placesN_len bl bw k)
                have HLn := Lib.hid (show textN bl bw (k + 1) = textN bl bw k ++ gapL bw k ++ bk by rw [← HBK.out]; rfl)
                have HPn := Lib.hid (show placesN bl bw (k + 1) = placesN bl bw k ++ [((textN bl bw k ++ gapL bw k).length : Int)] from rfl)
                have HFn := Lib.hid (show ∀ j, j < k + 1 → fitB (bl.getD j []) from fun j hj => by
                  rcases Nat.lt_or_ge j k with h | h
                  · exact FT.out j h
                  · obtain rfl : j = k := by omega
                    rw [HBK.out]
                    exact FB.out)
                clear ht hg300
                generalize textN bl bw k ++ gapL bw k = Lx at *
                generalize placesN bl bw k = Px at *
                obtain ⟨A5, c5, hu5, hc5, _, _⟩ := own_slice R3.out.1
                subst hu5
                generalize hln : Lx.length = ln at *
                have HLN := Lib.hid (show Lx.length = ln from hln)
                clear hln
                go_quiet (fail)
                have R4 := Lib.hid (R3.out.below (below_drewN (Below.refl _ w2) nq))
                have hcell3 : (w2.drewN nq).cell? ⟨b, o + k, none⟩ = some (.slice A' nk c') := (R4.out.2.2.2.cell (p := ⟨b, o + k, none⟩) hbB).trans HC0.out
                have B4 := Lib.hid (show Bs (w2.drewN nq) w.heap.size A' bk from B2.out.drewN nq)
                have hs4 := R4.out.2.2.2.size
                clear hcell2 q7 R3 B2 hs2
                generalize w2.drewN nq = w4 at *
                go_wp2_with (at_builtin; refine wpl_app _ row37 rfl (.tmp 85) (.tmp 88) rfl w.heap.size u6 Px.length (Px.map (Value.int .i64)) rfl (R4.out.2.1.alloc _) (w4.heap.size + 1) (some ⟨w4.heap.size, 0, none⟩) 1 1 [.int .i64 (ln : Nat)] rfl ?pr rfl ?p1 ?pl (by simp; omega) ?pg)
                case pr => exact Rd.fresh w4 #[.int .i64 (ln : Nat)] 3 (Nat.lt_succ_self _)
                case p1 => intro u hu; rw [List.mem_singleton] at hu; subst hu; rfl
                case pl => rw [HPl.out]; omega
                case pg =>
                  intro v6 w5 own gr hX
                  have R5 := Lib.hid ((R4.out.alloc (.cells #[.int .i64 (ln : Nat)] 3)).place (x := (ln : Int)) own gr (by simpa using hX))
                  have hcell4 : w5.cell? ⟨b, o + k, none⟩ = some (.slice A' nk c') := (R5.out.2.2.2.cell (p := ⟨b, o + k, none⟩) hbB).trans HC0.out
                  have B5 := Lib.hid (show Bs w5 w.heap.size A' bk from ((B4.out.alloc hs4 _).grown gr (by simp; omega) fun g hg => (R4.out.2.1.lt g hg).1))
                  have hs5 := R5.out.2.2.2.size
                  clear own gr hX R4 B4 hcell3
                  have hLl : ln ≤ 16000000 := HLl.out
                  have hO : w5.ownsRow w.heap.size 5 1 (.slice A5 ln c5) ln (Lx.map B8) := by have h := R5.out.1; rw [HLN.out] at h; exact h
                  have hO2 : (bk.map B8).length = nk * 1 := by rw [List.length_map, HNK.out, Nat.mul_one]
                  have HO := Lib.hid hO
                  have HO2 := Lib.hid hO2
                  clear hO hO2
                  go_wp2_with (at_builtin; refine wpl_app _ row22 rfl (.tmp 90) (.tmp 94) rfl w.heap.size (.slice A5 ln c5) ln (Lx.map B8) rfl HO.out w.heap.size A' nk c' (bk.map B8) rfl B5.out HO2.out (one8 _) (by omega) hs5 ?tg)
                  case tg =>
                    intro v5 w6 own gr hX
                    have R6 := Lib.hid (R5.out.text (M := bk) (m := nk) (by rw [HLN.out]; exact own) HNK.out.symm gr hX)
                    clear own gr hX R5 B5
                    go_wp2_with fail
                    go_roundw
                    case rel => exact ⟨k + 1, by omega, by go_num, by rw [HLn.out, HPn.out]; exact R6.out, HFn.out⟩
                    case measure => simp [intOf]; omega
              · have hd : ((nk : Int) != 36 + z) = true := by rw [bne_iff_ne]; exact hfit
                clear HFIT hfit
                go_quiet (fail)
                go_wp2_with fail
                refine (known7 _).mono ?_
                rintro e w3 ⟨rfl, hb3⟩
                go_wp2_with fail
                go_ret
                exact ⟨rfl, (below_drewN R3.out.2.2.2 _).trans (hb3.mono (by simp; omega))⟩
        · obtain rfl : k = n1 := by omega
          obtain ⟨A5, c5, rfl, hc5, hr5, _⟩ := own_slice R.out.1
          obtain ⟨A6, c6, rfl, hc6, hr6, _⟩ := own_slice R.out.2.1
          have B5 := Lib.hid (show Bs wr wr.heap.size A5 (textN bl bw k) from hr5)
          have P6 := Lib.hid hr6
          have W5 := Lib.hid R.out.2.2.2
          have htl := T.out k
          have HSP := Lib.hid (scan_places (bl := bl) (bw := bw) (n := k) FT.out)
          have HPL := Lib.hid (placesN_len bl bw k)
          have hcp : k ≤ c6 := by rw [placesN_len] at hc6; exact hc6
          rw [placesN_len]
          clear hr5 hr6 R hc6
          generalize hL : textN bl bw k = L at *
          generalize placesN bl bw k = P at *
          clear hL
          generalize hln : L.length = ln at *
          have HLN := Lib.hid hln
          clear hln
          go_wp2_with fail
          refine (make8 wr).mono ?_
          rintro e w1 ⟨rfl, ht1, hb1⟩
          have T1 := Lib.hid ht1
          have B6 := Lib.hid (B5.out.below hb1)
          have P7 := Lib.hid ((P6.out.below hb1).more hb1.size)
          have W6 := Lib.hid (W5.out.trans (hb1.mono hsz))
          have hs1 := hb1.size
          clear ht1 hb1 B5 P6 W5
          go_wp2_with fail
          refine (scan11 ln c5 wr.heap.size A5 L w1 wr.heap.size T1.out B6.out hs1 HLN.out.symm hc5 (by omega)).mono ?_
          rintro e w2 ⟨A7, c7, xs, rfl, hc7, hr7, hf7, hb7⟩
          have F7 := Lib.hid (show Fs w2 A7 c7 (scan L 0) xs from ⟨hc7, hr7, hf7⟩)
          have P8 := Lib.hid ((P7.out.below hb7).more hb7.size)
          have hs6 := W6.out.size
          have W7 := Lib.hid (W6.out.trans (hb7.mono hs6))
          have hlen : (scan L 0).length = k := by have := congrArg List.length HSP.out; rw [HPL.out] at this; simpa using this
          have HLEN := Lib.hid hlen
          rw [hlen]
          rw [hlen] at hc7
          clear hr7 hf7 hb7 B6 P7 W6 T1 hlen
          generalize scan L 0 = fs at *
          go_wp2_with fail
          obtain ⟨wo, rfl⟩ : ∃ wo : World, wo = w2 := ⟨_, rfl⟩
          go_loopw [14] (fun i wx => ∃ j : Nat, j ≤ k ∧ i = .int .i64 j ∧ Below wo.heap.size wo wx) (fun i _ => k - (intOf i).toNat)
          case atStart => exact ⟨0, Nat.zero_le _, rfl, Below.refl _ _⟩
          case round =>
            obtain ⟨j, hj, rfl, hbel⟩ := hrel
            have HB := Lib.hid hbel
            clear hbel
            by_cases hjk : j < k
            · obtain ⟨b, o, rfl, hb, hcl⟩ := F7.out.lies (i := j) (by rw [HLEN.out]; exact hjk)
              obtain ⟨Ap, cp, _, _, d0, _⟩ := F7.out.2.2.eleven (wr := wr) (fun m u hu => (HB.out.cell (p := ⟨b, o + m, none⟩) hb).trans (hcl m u hu)) j (by rw [HLEN.out]; exact hjk)
              obtain ⟨b', o', rfl, hb', hcl'⟩ := Rd.mem P8.out (k := j) (by rw [List.length_map, HPL.out]; exact hjk)
              have d1 : wr.cell? ⟨b', o' + j, none⟩ = some (.int .i64 (fs[j]'(by rw [HLEN.out]; exact hjk)).at_) := (HB.out.cell (p := ⟨b', o' + j, none⟩) hb').trans (hcl' j _ (by
                have h9 : P[j]? = some (fs[j]'(by rw [HLEN.out]; exact hjk)).at_ := by
                  rw [← HSP.out, List.getElem?_map, List.getElem?_eq_getElem (by rw [HLEN.out]; exact hjk)]
                  rfl
                rw [List.getElem?_map, h9]
                rfl))
              clear hcl hcl'
              generalize (fs[j]'(by rw [HLEN.out]; exact hjk)).at_ = x at *
              go_upto_region 25 with (fail)
              have i1 : (j : Int) < (k : Int) := by omega
              go_quiet (fail)
              go_wp2_with fail
              go_roundw
              case rel => exact ⟨j + 1, by omega, by go_num, below_drewN HB.out _⟩
              case measure => simp [intOf]; omega
            · obtain rfl : j = k := by omega
              have W8 := Lib.hid (W7.out.trans (HB.out.mono W7.out.size))
              have hs8 := W8.out.size
              go_wp2_with fail
              refine (known7 _).mono ?_
              rintro e w3 ⟨rfl, hb3⟩
              go_wp2_with fail
              go_ret
              exact ⟨rfl, W8.out.trans (hb3.mono hs8)⟩
end Go.Proofs.Ytfeicdflkpgbnaa
