/-
  Proved: descantref30.Order tells the blocks of a kind, in order, one of each number. Conditions: those that each theorem lists ahead of its colon, and no others.
-/
import Derived.Test.YtfeicdflkpgbnaaOp
import Derived.Test.YtfeicdflkpgbnaaOn
import Derived.Test.YtfeicdflkpgbnaaOr
namespace Go.Proofs.Ytfeicdflkpgbnaa
open Go.RowKit

set_option maxHeartbeats 8000000 in
set_option maxRecDepth 20000 in
theorem order20 (n c : Nat) (A : Option Addr) (fs : List Fd) (xs : List Value) (kind : Int) (w : World) (h : Fs w A c fs xs) (hn : n = fs.length) (hm : n ≤ 4096) :
    Calls Try.prog 20 #[.slice A n c, .int .i64 kind] w (FsP w (ordP kind [] fs)) := by
  have HF := Lib.hid h
  have HN := Lib.hid hn
  have hc : n ≤ c := by rw [hn]; exact h.1
  obtain ⟨l, hl1, hl2, hl3⟩ := els_of h.2.2
  have L1 := Lib.hid hl1
  have L2 := Lib.hid hl2
  have L3 := Lib.hid hl3
  have LL := Lib.hid (show l.length = n by rw [hn, ← hl1]; simp)
  clear h hn hl1 hl2 hl3
  go_enter Try.func20, Try.ntmps20
  go_wp2_with fail
  go_loopw [5, 6, 7, 8] (fun s5 s6 _ _ wr => ∃ (k : Nat) (os : List El), k ≤ n ∧ s6 = .int .i64 k ∧ Ref1 w kind l k s5 wr os) (fun _ s6 _ _ _ => n - (intOf s6).toNat)
  case atStart => exact ⟨0, [], Nat.zero_le _, rfl, rfl, Nat.le_refl _, fun e he => (by cases he), World.ownsRow_nil _ _ _ _, Below.refl _ _⟩
  case round =>
    obtain ⟨k, os, hk, rfl, hrel⟩ := hrel
    have R0 := Lib.hid hrel
    have hs0 := hrel.2.2.2.2.size
    have hol := hrel.2.1
    obtain ⟨A8, c8, h8, hc8, _⟩ := own_slice hrel.2.2.2.1
    subst h8
    clear hrel
    by_cases hlt : k < n
    · have hkl : k < l.length := by rw [LL.out]; exact hlt
      obtain ⟨b, o, rfl, hb, hcl⟩ := HF.out.lies (i := k) (by rw [← HN.out]; exact hlt)
      obtain ⟨c0, c1, c2, c3, c4, c5, c6, c7, c8', c9, c10⟩ := rd_eleven (wr := wr) (fun j u hu => (R0.out.2.2.2.2.cell (p := ⟨b, o + j, none⟩) hb).trans (hcl j u hu)) L2.out hkl
      clear hcl
      have HEL := Lib.hid (rfl : l[k] = l[k])
      generalize hel : l[k] = el at *
      have HE := Lib.hid hel
      clear hel HEL
      obtain ⟨⟨f0, ⟨f1, f2, f3, f4, f5, f6, f7, f8⟩, f9, f10⟩, Ap, cp⟩ := el
      dsimp only at c0 c1 c2 c3 c4 c5 c6 c7 c8' c9 c10
      by_cases hkd : f1 = kind
      · have HK := Lib.hid hkd
        have hd : (f1 != kind) = false := by rw [bne_eq_false_iff_eq]; exact hkd
        clear hkd
        go_wp2_with fail
        have R1 := Lib.hid (R0.out.below ((Below.refl _ wr).alloc (Nat.le_refl _) (.cells #[.int .i64 f0, .int .i64 f1, .int .i64 f2, .int .i64 f3, .int .i64 f4, .int .i64 f5, .bool f6, .int .u32 f7, .int .i64 f8, .slice Ap f9.length cp, .int .u32 f10] 48)))
        have K1 := Lib.hid (Bk.new wr 48 #[.int .i64 f0, .int .i64 f1, .int .i64 f2, .int .i64 f3, .int .i64 f4, .int .i64 f5, .bool f6, .int .u32 f7, .int .i64 f8, .slice Ap f9.length cp, .int .u32 f10])
        have HG1 := Lib.hid (show os.length = 0 ∨ ∃ g8, A8 = some ⟨g8, 0, none⟩ ∧ g8 ≠ wr.heap.size from by
          rcases Nat.eq_zero_or_pos os.length with h0 | h0
          · exact .inl h0
          · obtain ⟨g8, cap, hv, _⟩ := own_head R0.out.2.2.2.1 h0
            injection hv with hv
            have hlt := (R0.out.2.2.2.1.lt g8 (by rw [hv]; rfl)).2
            exact .inr ⟨g8, hv, by omega⟩)
        have hs1 := R1.out.2.2.2.2.size
        clear R0 c0 c1 c2 c3 c4 c5 c6 c7 c8' c9 c10
        generalize wr.alloc (.cells #[.int .i64 f0, .int .i64 f1, .int .i64 f2, .int .i64 f3, .int .i64 f4, .int .i64 f5, .bool f6, .int .u32 f7, .int .i64 f8, .slice Ap f9.length cp, .int .u32 f10] 48) = w1 at *
        generalize wr.heap.size = gf at *
        go_loopw [8] (fun s8 wx => ∃ (j m : Nat), j ≤ os.length ∧ s8 = .int .i64 j ∧ wx = w1.drewN m ∧ ∀ i (h : i < os.length), i < j → idx os[i].f < f2) (fun s8 _ => os.length - (intOf s8).toNat)
        case atStart => exact ⟨0, 0, Nat.zero_le _, rfl, rfl, fun i _ h => absurd h (Nat.not_lt_zero _)⟩
        case round =>
          obtain ⟨j, m, hj, rfl, rfl, hall⟩ := hrel
          have HA := Lib.hid hall
          clear hall
          obtain ⟨y0, y1, y2, y3, y4, y5, y6, y7, y8, y9, y10⟩ := Bk.cells11 K1.out
          by_cases hjl : j < os.length
          · obtain ⟨g8, rfl, hne⟩ : ∃ g8, A8 = some ⟨g8, 0, none⟩ ∧ g8 ≠ gf := HG1.out.resolve_left (by omega)
            obtain ⟨d0, d1, d2, d3, d4, d5, d6, d7, d8, d9, d10⟩ := ownt_eleven R1.out.2.2.2.1 hjl
            have d2' : w1.cell? ⟨g8, j * 11 + 1 + 1, none⟩ = some (.int .i64 os[j].f.hd.index) := d2
            have HGJ := Lib.hid (rfl : os[j] = os[j])
            generalize hgj : os[j] = gj at *
            have HGK := Lib.hid hgj
            clear hgj HGJ
            have hi1 : (j : Int) < (os.length : Int) := by omega
            have hi2 : decide ((j : Int) < (os.length : Int)) = true := decide_eq_true hi1
            by_cases hx : gj.f.hd.index < f2
            · have hdx : decide (gj.f.hd.index < f2) = true := decide_eq_true hx
              go_upto_region 8 with (fail)
              go_quiet (fail)
              go_wp2_with fail
              go_roundw
              case rel => exact ⟨j + 1, _, by omega, by go_num, rfl, fun i h hi => by
                rcases Nat.lt_or_ge i j with h1 | h1
                · exact HA.out i h h1
                · obtain rfl : i = j := by omega
                  rw [HGK.out]; exact hx⟩
              case measure => simp [intOf]; omega
            · have hdx : decide (gj.f.hd.index < f2) = false := decide_eq_false hx
              go_upto_region 8 with (fail)
              go_quiet (fail)
              obtain ⟨nqa, rfl⟩ : ∃ x : Nat, x = nq := ⟨_, rfl⟩
              by_cases hq : gj.f.hd.index = f2
              · have HQ := Lib.hid hq
                have hdq : (gj.f.hd.index == f2) = true := by rw [beq_iff_eq]; exact hq
                clear hq
                go_upto_region 10 with (fail)
                go_quiet (fail)
                obtain ⟨nqb, rfl⟩ : ∃ x : Nat, x = nq := ⟨_, rfl⟩
                by_cases ha : f0 < gj.f.at_
                · have hda : decide (f0 < gj.f.at_) = true := decide_eq_true ha
                  go_upto_region 11 with (fail)
                  go_quiet (fail)
                  have R5 := Lib.hid ((((R1.out.below (below_drewN (Below.refl _ w1) m)).below (below_drewN (Below.refl _ _) nqa)).below (below_drewN (Below.refl _ _) nqb)).below (below_drewN (Below.refl _ _) nq))
                  have K5 := Lib.hid ((((K1.out.drewN m).drewN nqa).drewN nqb).drewN nq)
                  generalize (((w1.drewN m).drewN nqa).drewN nqb).drewN nq = w5 at *
                  clear y0 y1 y2 y3 y4 y5 y6 y7 y8 y9 y10 d0 d1 d2 d3 d4 d5 d6 d7 d8 d9 d10 d2' R1 K1 hs1
                  have hs1 := R5.out.2.2.2.2.size
                  have hzf := fun i => R5.out.2.2.2.1.frozenAt i
                  obtain ⟨y0, y1, y2, y3, y4, y5, y6, y7, y8, y9, y10⟩ := Bk.cells11 K5.out
                  obtain ⟨d0, d1, d2, d3, d4, d5, d6, d7, d8, d9, d10⟩ := ownt_eleven R5.out.2.2.2.1 hjl
                  rw [HGK.out] at d0 d1 d2 d3 d4 d5 d6 d7 d8 d9 d10
                  obtain ⟨p1, p2⟩ := ownt_put R5.out.2.2.2.1 hjl ⟨⟨f0, ⟨f1, f2, f3, f4, f5, f6, f7, f8⟩, f9, f10⟩, Ap, cp⟩
                  rw [show El.cells ⟨⟨f0, ⟨f1, f2, f3, f4, f5, f6, f7, f8⟩, f9, f10⟩, Ap, cp⟩ = [.int .i64 f0, .int .i64 f1, .int .i64 f2, .int .i64 f3, .int .i64 f4, .int .i64 f5, .bool f6, .int .u32 f7, .int .i64 f8, .slice Ap f9.length cp, .int .u32 f10] from rfl, setCells_eleven] at p1 p2
                  have P1 := Lib.hid p1
                  have P2 := Lib.hid p2
                  clear p1 p2
                  go_wp2_with fail
                  go_roundw
                  case rel =>
                    refine ⟨k + 1, os.set j ⟨⟨f0, ⟨f1, f2, f3, f4, f5, f6, f7, f8⟩, f9, f10⟩, Ap, cp⟩, by omega, by go_num, R5.out.step hkl (by rw [HE.out]; exact HK.out) ?_ (by simp) ?_ ?_ ?_⟩
                    · rw [HE.out, ins_map hj HA.out (fun _ => by rw [HGK.out]; exact hx), dif_pos hjl, if_pos (by rw [HGK.out]; exact HQ.out), if_pos (by rw [HGK.out]; exact ha)]
                    · intro e he
                      rw [HE.out]
                      exact List.mem_or_eq_of_mem_set he
                    · rw [List.length_set]; exact P1.out
                    · exact R5.out.2.2.2.2.grown P2.out hs1 fun r hr => (R5.out.2.2.2.1.lt r hr).1
                  case measure => simp [intOf]; omega
                · have hda : decide (f0 < gj.f.at_) = false := decide_eq_false ha
                  go_upto_region 11 with (fail)
                  go_quiet (fail)
                  go_wp2_with fail
                  go_roundw
                  case rel =>
                    refine ⟨k + 1, os, by omega, by go_num, R1.out.step hkl (by rw [HE.out]; exact HK.out) ?_ (by omega) (fun e he => .inl he) ?_ ?_⟩
                    · rw [HE.out, ins_map hj HA.out (fun _ => by rw [HGK.out]; exact hx), dif_pos hjl, if_pos (by rw [HGK.out]; exact HQ.out), if_neg (by rw [HGK.out]; exact ha)]
                    · exact R1.out.2.2.2.1
                    · exact below_drewN R1.out.2.2.2.2 _
                  case measure => simp [intOf]; omega
              · have HQ := Lib.hid hq
                have hdq : (gj.f.hd.index == f2) = false := by rw [beq_eq_false_iff_ne]; exact hq
                clear hq
                go_upto_region 10 with (fail)
                go_quiet (fail)
                go_upto_region 13 with (fail)
                have R5 := Lib.hid (((R1.out.below (below_drewN (Below.refl _ w1) m)).below (below_drewN (Below.refl _ _) nqa)).below (below_drewN (Below.refl _ _) nq))
                have K5 := Lib.hid (((K1.out.drewN m).drewN nqa).drewN nq)
                generalize ((w1.drewN m).drewN nqa).drewN nq = w5 at *
                clear y0 y1 y2 y3 y4 y5 y6 y7 y8 y9 y10 R1 K1
                obtain ⟨y0, y1, y2, y3, y4, y5, y6, y7, y8, y9, y10⟩ := Bk.cells11 K5.out
                have hgf := K5.out.lt
                have hj0 : (0 : Int) ≤ ((j : Nat) : Int) := Int.natCast_nonneg _
                have hjc : ((j : Nat) : Int) ≤ ((c8 : Nat) : Int) := by omega
                have hnc : ((os.length : Nat) : Int) ≤ ((c8 : Nat) : Int) := by omega
                have hjn : ((j : Nat) : Int) ≤ ((os.length : Nat) : Int) := by omega
                have hfirst := InsS.first w5 #[.int .i64 f0, .int .i64 f1, .int .i64 f2, .int .i64 f3, .int .i64 f4, .int .i64 f5, .bool f6, .int .u32 f7, .int .i64 f8, .slice Ap f9.length cp, .int .u32 f10]
                have IA := Lib.hid hfirst.1
                have IB := Lib.hid hfirst.2.1
                have IC := Lib.hid hfirst.2.2.1
                have XB := Lib.hid hfirst.2.2.2.1
                have XC := Lib.hid hfirst.2.2.2.2
                have O5 := Lib.hid R5.out.2.2.2.1
                have HL1 := Lib.hid (show (cellsE (List.take j os)).length = j * 11 by first | (rw [cellsE_length, List.length_take, Nat.min_eq_left (by omega)]; done) | simp [cellsE_length])
                have HL3 := Lib.hid (show ((cellsE (os.drop j))).length = (os.length - j) * 11 by simp [cellsE_length])
                have HD3 := Lib.hid (show ∀ u ∈ (cellsE (os.drop j)), u.oneCell' = true from cellsE_ones _)
                have HS1 := Lib.hid (show 0 + j ≤ 16777216 by omega)
                have HS2 := Lib.hid (show 0 + j + 1 ≤ 16777216 by omega)
                have HS3 := Lib.hid (show 0 + j + 1 + (os.length - j) ≤ 16777216 by omega)
                have HO1 := Lib.hid (show ∀ u ∈ ([.int .i64 f0, .int .i64 f1, .int .i64 f2, .int .i64 f3, .int .i64 f4, .int .i64 f5, .bool f6, .int .u32 f7, .int .i64 f8, .slice Ap f9.length cp, .int .u32 f10] : List Value), u.oneCell' = true from El.cells_one ⟨⟨f0, ⟨f1, f2, f3, f4, f5, f6, f7, f8⟩, f9, f10⟩, Ap, cp⟩)
                clear hfirst
                have hcj : ¬ c8 = j := by omega
                go_region_law (first | (refine step_app _ row27' rfl (.tmp 70) (.tmp 73) rfl w5.heap.size _ 0 [] rfl IA.out.1 w5.heap.size (some ⟨g8, 0, none⟩) j c8 (cellsE (List.take j os)) rfl (rd_take O5.out j IA.out.2) HL1.out (cellsE_ones _) HS1.out IA.out.2.size ?_; intro v1 wA1 own gr hX; have I1 := IA.out.app own gr; have kk := InsS.keep I1 K5.out; have hgf1 := kk.lt; obtain ⟨y0, y1, y2, y3, y4, y5, y6, y7, y8, y9, y10⟩ := Bk.cells11 kk; clear own gr hX kk) | (refine step_app _ row27' rfl (.tmp 70) (.tmp 73) rfl w5.heap.size _ 0 [] rfl IB.out.1 w5.heap.size (some ⟨g8, 0, none⟩) j c8 (cellsE (List.take j os)) rfl (rd_take O5.out j IB.out.2) HL1.out (cellsE_ones _) HS1.out IB.out.2.size ?_; intro v1 wA1 own gr hX; have I1 := IB.out.app own gr; have X1 := XB.out.app gr hX; have kk := InsS.keep I1 K5.out; have hgf1 := kk.lt; obtain ⟨y0, y1, y2, y3, y4, y5, y6, y7, y8, y9, y10⟩ := Bk.cells11 kk; clear own gr hX kk) | (refine step_app _ row27' rfl (.tmp 70) (.tmp 73) rfl w5.heap.size _ 0 [] rfl IC.out.1 w5.heap.size (some ⟨g8, 0, none⟩) j c8 (cellsE (List.take j os)) rfl (rd_take O5.out j IC.out.2) HL1.out (cellsE_ones _) HS1.out IC.out.2.size ?_; intro v1 wA1 own gr hX; have I1 := IC.out.app own gr; have X1 := XC.out.app gr hX; have kk := InsS.keep I1 K5.out; have hgf1 := kk.lt; obtain ⟨y0, y1, y2, y3, y4, y5, y6, y7, y8, y9, y10⟩ := Bk.cells11 kk; clear own gr hX kk) | (refine step_app _ row27' rfl (.tmp 74) (.tmp 76) rfl w5.heap.size v1 _ _ rfl I1.1 _ _ 1 1 [.int .i64 f0, .int .i64 f1, .int .i64 f2, .int .i64 f3, .int .i64 f4, .int .i64 f5, .bool f6, .int .u32 f7, .int .i64 f8, .slice Ap f9.length cp, .int .u32 f10] rfl (Bk.rd X1.1) rfl HO1.out HS2.out I1.2.size ?_; intro v2 wA2 own gr hX; have I2 := I1.app own gr; have kk := InsS.keep I2 K5.out; have hgf2 := kk.lt; obtain ⟨y0, y1, y2, y3, y4, y5, y6, y7, y8, y9, y10⟩ := Bk.cells11 kk; clear own gr hX kk) | (refine step_app _ row27' rfl (.tmp 74) (.tmp 76) rfl w5.heap.size v1 _ _ rfl (I1.alloc (.cells #[.int .i64 f0, .int .i64 f1, .int .i64 f2, .int .i64 f3, .int .i64 f4, .int .i64 f5, .bool f6, .int .u32 f7, .int .i64 f8, .slice Ap f9.length cp, .int .u32 f10] 48)).1 (wA1.heap.size + 1) (some ⟨wA1.heap.size, 0, none⟩) 1 1 [.int .i64 f0, .int .i64 f1, .int .i64 f2, .int .i64 f3, .int .i64 f4, .int .i64 f5, .bool f6, .int .u32 f7, .int .i64 f8, .slice Ap f9.length cp, .int .u32 f10] rfl (Rd.fresh wA1 #[.int .i64 f0, .int .i64 f1, .int .i64 f2, .int .i64 f3, .int .i64 f4, .int .i64 f5, .bool f6, .int .u32 f7, .int .i64 f8, .slice Ap f9.length cp, .int .u32 f10] 48 (Nat.lt_succ_self _)) rfl HO1.out HS2.out (I1.alloc (.cells #[.int .i64 f0, .int .i64 f1, .int .i64 f2, .int .i64 f3, .int .i64 f4, .int .i64 f5, .bool f6, .int .u32 f7, .int .i64 f8, .slice Ap f9.length cp, .int .u32 f10] 48)).2.size ?_; intro v2 wA2 own gr hX; have I2 := (I1.alloc (.cells #[.int .i64 f0, .int .i64 f1, .int .i64 f2, .int .i64 f3, .int .i64 f4, .int .i64 f5, .bool f6, .int .u32 f7, .int .i64 f8, .slice Ap f9.length cp, .int .u32 f10] 48)).app own gr; have kk := InsS.keep I2 K5.out; have hgf2 := kk.lt; obtain ⟨y0, y1, y2, y3, y4, y5, y6, y7, y8, y9, y10⟩ := Bk.cells11 kk; clear own gr hX kk) | (refine step_app _ row27' rfl (.tmp 77) (.tmp 80) rfl w5.heap.size v2 _ _ rfl I2.1 w5.heap.size (some ⟨g8, j * 11, none⟩) (os.length - j) (c8 - j) (cellsE (os.drop j)) rfl (rd_drop O5.out j I2.2) HL3.out HD3.out HS3.out I2.2.size ?_; intro v3 wA3 own gr hX; have I3 := Lib.hid (I2.app own gr); clear own gr hX I2))
                all_goals
                  have HM := Lib.hid (show (os.take j ++ (⟨⟨f0, ⟨f1, f2, f3, f4, f5, f6, f7, f8⟩, f9, f10⟩, Ap, cp⟩ : El) :: os.drop j).length = 0 + j + 1 + (os.length - j) by simp only [List.length_append, List.length_take, List.length_cons, List.length_drop]; omega)
                  have HV := Lib.hid (show cellsE (os.take j ++ (⟨⟨f0, ⟨f1, f2, f3, f4, f5, f6, f7, f8⟩, f9, f10⟩, Ap, cp⟩ : El) :: os.drop j) = [] ++ cellsE (List.take j os) ++ ([.int .i64 f0, .int .i64 f1, .int .i64 f2, .int .i64 f3, .int .i64 f4, .int .i64 f5, .bool f6, .int .u32 f7, .int .i64 f8, .slice Ap f9.length cp, .int .u32 f10] : List Value) ++ (cellsE (os.drop j)) by rw [cellsE_append, List.nil_append, List.append_assoc]; rfl)
                  go_wp2_with fail
                  go_roundw
                  case rel =>
                    refine ⟨k + 1, os.take j ++ (⟨⟨f0, ⟨f1, f2, f3, f4, f5, f6, f7, f8⟩, f9, f10⟩, Ap, cp⟩ : El) :: os.drop j, by omega, by go_num, R5.out.step hkl (by rw [HE.out]; exact HK.out) ?_ (by rw [HM.out]; omega) ?_ ?_ ?_⟩
                    · rw [HE.out, ins_map hj HA.out (fun _ => by rw [HGK.out]; exact hx), dif_pos hjl, if_neg (by rw [HGK.out]; exact HQ.out)]
                    · intro e he
                      rw [HE.out]
                      rcases List.mem_append.1 he with he | he
                      · exact .inl (List.mem_of_mem_take he)
                      · rcases List.mem_cons.1 he with he | he
                        · exact .inr he
                        · exact .inl (List.mem_of_mem_drop he)
                    · rw [HM.out, HV.out]; exact own_base I3.out.1 R5.out.2.2.2.2.size
                    · exact R5.out.2.2.2.2.trans (I3.out.2.mono R5.out.2.2.2.2.size)
                  case measure => simp [intOf]; omega
          · obtain rfl : j = os.length := by omega
            have hi2 : decide ((os.length : Int) < (os.length : Int)) = false := decide_eq_false (by omega)
            go_upto_region 8 with (fail)
            go_quiet (fail)
            obtain ⟨nqa, rfl⟩ : ∃ x : Nat, x = nq := ⟨_, rfl⟩
            go_upto_region 10 with (fail)
            go_quiet (fail)
            go_upto_region 13 with (fail)
            have R5 := Lib.hid (((R1.out.below (below_drewN (Below.refl _ w1) m)).below (below_drewN (Below.refl _ _) nqa)).below (below_drewN (Below.refl _ _) nq))
            have K5 := Lib.hid (((K1.out.drewN m).drewN nqa).drewN nq)
            generalize ((w1.drewN m).drewN nqa).drewN nq = w5 at *
            clear y0 y1 y2 y3 y4 y5 y6 y7 y8 y9 y10 R1 K1
            obtain ⟨y0, y1, y2, y3, y4, y5, y6, y7, y8, y9, y10⟩ := Bk.cells11 K5.out
            clear hi2
            rcases own_form R5.out.2.2.2.1 with ⟨rfl, h0, h1⟩ | ⟨g8, rfl⟩
            · obtain rfl : os = [] := List.eq_nil_of_length_eq_zero h0
              subst h1
              simp only [List.length_nil]
              have hgf := K5.out.lt
              have hj0 : (0 : Int) ≤ ((0 : Nat) : Int) := Int.natCast_nonneg _
              have hjc : ((0 : Nat) : Int) ≤ ((0 : Nat) : Int) := by omega
              have hnc : ((0 : Nat) : Int) ≤ ((0 : Nat) : Int) := by omega
              have hjn : ((0 : Nat) : Int) ≤ ((0 : Nat) : Int) := by omega
              have hfirst := InsS.first w5 #[.int .i64 f0, .int .i64 f1, .int .i64 f2, .int .i64 f3, .int .i64 f4, .int .i64 f5, .bool f6, .int .u32 f7, .int .i64 f8, .slice Ap f9.length cp, .int .u32 f10]
              have IA := Lib.hid hfirst.1
              have IB := Lib.hid hfirst.2.1
              have IC := Lib.hid hfirst.2.2.1
              have XB := Lib.hid hfirst.2.2.2.1
              have XC := Lib.hid hfirst.2.2.2.2
              have O5 := Lib.hid R5.out.2.2.2.1
              have HL1 := Lib.hid (show (cellsE (List.take 0 ([] : List El))).length = 0 * 11 by first | (rw [cellsE_length, List.length_take, Nat.min_eq_left (by omega)]; done) | simp [cellsE_length])
              have HL3 := Lib.hid (show (([] : List Value)).length = 0 * 11 from rfl)
              have HD3 := Lib.hid (show ∀ u ∈ ([] : List Value), u.oneCell' = true from fun u hu => by cases hu)
              have HS1 := Lib.hid (show 0 + 0 ≤ 16777216 by omega)
              have HS2 := Lib.hid (show 0 + 0 + 1 ≤ 16777216 by omega)
              have HS3 := Lib.hid (show 0 + 0 + 1 + 0 ≤ 16777216 by omega)
              have HO1 := Lib.hid (show ∀ u ∈ ([.int .i64 f0, .int .i64 f1, .int .i64 f2, .int .i64 f3, .int .i64 f4, .int .i64 f5, .bool f6, .int .u32 f7, .int .i64 f8, .slice Ap f9.length cp, .int .u32 f10] : List Value), u.oneCell' = true from El.cells_one ⟨⟨f0, ⟨f1, f2, f3, f4, f5, f6, f7, f8⟩, f9, f10⟩, Ap, cp⟩)
              clear hfirst
              go_region_law (first | (refine step_app _ row27' rfl (.tmp 70) (.tmp 73) rfl w5.heap.size _ 0 [] rfl IA.out.1 w5.heap.size none 0 0 (cellsE (List.take 0 ([] : List El))) rfl (rd_take O5.out 0 IA.out.2) HL1.out (cellsE_ones _) HS1.out IA.out.2.size ?_; intro v1 wA1 own gr hX; have I1 := IA.out.app own gr; have kk := InsS.keep I1 K5.out; have hgf1 := kk.lt; obtain ⟨y0, y1, y2, y3, y4, y5, y6, y7, y8, y9, y10⟩ := Bk.cells11 kk; clear own gr hX kk) | (refine step_app _ row27' rfl (.tmp 70) (.tmp 73) rfl w5.heap.size _ 0 [] rfl IB.out.1 w5.heap.size none 0 0 (cellsE (List.take 0 ([] : List El))) rfl (rd_take O5.out 0 IB.out.2) HL1.out (cellsE_ones _) HS1.out IB.out.2.size ?_; intro v1 wA1 own gr hX; have I1 := IB.out.app own gr; have X1 := XB.out.app gr hX; have kk := InsS.keep I1 K5.out; have hgf1 := kk.lt; obtain ⟨y0, y1, y2, y3, y4, y5, y6, y7, y8, y9, y10⟩ := Bk.cells11 kk; clear own gr hX kk) | (refine step_app _ row27' rfl (.tmp 70) (.tmp 73) rfl w5.heap.size _ 0 [] rfl IC.out.1 w5.heap.size none 0 0 (cellsE (List.take 0 ([] : List El))) rfl (rd_take O5.out 0 IC.out.2) HL1.out (cellsE_ones _) HS1.out IC.out.2.size ?_; intro v1 wA1 own gr hX; have I1 := IC.out.app own gr; have X1 := XC.out.app gr hX; have kk := InsS.keep I1 K5.out; have hgf1 := kk.lt; obtain ⟨y0, y1, y2, y3, y4, y5, y6, y7, y8, y9, y10⟩ := Bk.cells11 kk; clear own gr hX kk) | (refine step_app _ row27' rfl (.tmp 74) (.tmp 76) rfl w5.heap.size v1 _ _ rfl I1.1 _ _ 1 1 [.int .i64 f0, .int .i64 f1, .int .i64 f2, .int .i64 f3, .int .i64 f4, .int .i64 f5, .bool f6, .int .u32 f7, .int .i64 f8, .slice Ap f9.length cp, .int .u32 f10] rfl (Bk.rd X1.1) rfl HO1.out HS2.out I1.2.size ?_; intro v2 wA2 own gr hX; have I2 := I1.app own gr; have kk := InsS.keep I2 K5.out; have hgf2 := kk.lt; obtain ⟨y0, y1, y2, y3, y4, y5, y6, y7, y8, y9, y10⟩ := Bk.cells11 kk; clear own gr hX kk) | (refine step_app _ row27' rfl (.tmp 74) (.tmp 76) rfl w5.heap.size v1 _ _ rfl (I1.alloc (.cells #[.int .i64 f0, .int .i64 f1, .int .i64 f2, .int .i64 f3, .int .i64 f4, .int .i64 f5, .bool f6, .int .u32 f7, .int .i64 f8, .slice Ap f9.length cp, .int .u32 f10] 48)).1 (wA1.heap.size + 1) (some ⟨wA1.heap.size, 0, none⟩) 1 1 [.int .i64 f0, .int .i64 f1, .int .i64 f2, .int .i64 f3, .int .i64 f4, .int .i64 f5, .bool f6, .int .u32 f7, .int .i64 f8, .slice Ap f9.length cp, .int .u32 f10] rfl (Rd.fresh wA1 #[.int .i64 f0, .int .i64 f1, .int .i64 f2, .int .i64 f3, .int .i64 f4, .int .i64 f5, .bool f6, .int .u32 f7, .int .i64 f8, .slice Ap f9.length cp, .int .u32 f10] 48 (Nat.lt_succ_self _)) rfl HO1.out HS2.out (I1.alloc (.cells #[.int .i64 f0, .int .i64 f1, .int .i64 f2, .int .i64 f3, .int .i64 f4, .int .i64 f5, .bool f6, .int .u32 f7, .int .i64 f8, .slice Ap f9.length cp, .int .u32 f10] 48)).2.size ?_; intro v2 wA2 own gr hX; have I2 := (I1.alloc (.cells #[.int .i64 f0, .int .i64 f1, .int .i64 f2, .int .i64 f3, .int .i64 f4, .int .i64 f5, .bool f6, .int .u32 f7, .int .i64 f8, .slice Ap f9.length cp, .int .u32 f10] 48)).app own gr; have kk := InsS.keep I2 K5.out; have hgf2 := kk.lt; obtain ⟨y0, y1, y2, y3, y4, y5, y6, y7, y8, y9, y10⟩ := Bk.cells11 kk; clear own gr hX kk) | (refine step_app _ row27' rfl (.tmp 77) (.tmp 80) rfl w5.heap.size v2 _ _ rfl I2.1 w5.heap.size none 0 0 ([] : List Value) rfl Rd.nil HL3.out HD3.out HS3.out I2.2.size ?_; intro v3 wA3 own gr hX; have I3 := Lib.hid (I2.app own gr); clear own gr hX I2))
              all_goals
                have HM := Lib.hid (show ([(⟨⟨f0, ⟨f1, f2, f3, f4, f5, f6, f7, f8⟩, f9, f10⟩, Ap, cp⟩ : El)]).length = 0 + 0 + 1 + 0 by rfl)
                have HV := Lib.hid (show cellsE ([(⟨⟨f0, ⟨f1, f2, f3, f4, f5, f6, f7, f8⟩, f9, f10⟩, Ap, cp⟩ : El)]) = [] ++ cellsE (List.take 0 ([] : List El)) ++ ([.int .i64 f0, .int .i64 f1, .int .i64 f2, .int .i64 f3, .int .i64 f4, .int .i64 f5, .bool f6, .int .u32 f7, .int .i64 f8, .slice Ap f9.length cp, .int .u32 f10] : List Value) ++ ([] : List Value) by rfl)
                go_wp2_with fail
                go_roundw
                case rel =>
                  refine ⟨k + 1, [(⟨⟨f0, ⟨f1, f2, f3, f4, f5, f6, f7, f8⟩, f9, f10⟩, Ap, cp⟩ : El)], by omega, by go_num, R5.out.step hkl (by rw [HE.out]; exact HK.out) ?_ (by rw [HM.out]; omega) ?_ ?_ ?_⟩
                  · rw [HE.out]; rfl
                  · exact fun e he => .inr ((List.mem_singleton.1 he).trans HE.out.symm)
                  · rw [HM.out, HV.out]; exact own_base I3.out.1 R5.out.2.2.2.2.size
                  · exact R5.out.2.2.2.2.trans (I3.out.2.mono R5.out.2.2.2.2.size)
                case measure => simp [intOf]; omega
            · by_cases hcj : c8 = os.length
              · subst hcj
                have hgf := K5.out.lt
                have hj0 : (0 : Int) ≤ ((os.length : Nat) : Int) := Int.natCast_nonneg _
                have hjc : ((os.length : Nat) : Int) ≤ ((os.length : Nat) : Int) := by omega
                have hnc : ((os.length : Nat) : Int) ≤ ((os.length : Nat) : Int) := by omega
                have hjn : ((os.length : Nat) : Int) ≤ ((os.length : Nat) : Int) := by omega
                have hfirst := InsS.first w5 #[.int .i64 f0, .int .i64 f1, .int .i64 f2, .int .i64 f3, .int .i64 f4, .int .i64 f5, .bool f6, .int .u32 f7, .int .i64 f8, .slice Ap f9.length cp, .int .u32 f10]
                have IA := Lib.hid hfirst.1
                have IB := Lib.hid hfirst.2.1
                have IC := Lib.hid hfirst.2.2.1
                have XB := Lib.hid hfirst.2.2.2.1
                have XC := Lib.hid hfirst.2.2.2.2
                have O5 := Lib.hid R5.out.2.2.2.1
                have HL1 := Lib.hid (show (cellsE (List.take os.length os)).length = os.length * 11 by first | (rw [cellsE_length, List.length_take, Nat.min_eq_left (by omega)]; done) | simp [cellsE_length])
                have HL3 := Lib.hid (show (([] : List Value)).length = 0 * 11 from rfl)
                have HD3 := Lib.hid (show ∀ u ∈ ([] : List Value), u.oneCell' = true from fun u hu => by cases hu)
                have HS1 := Lib.hid (show 0 + os.length ≤ 16777216 by omega)
                have HS2 := Lib.hid (show 0 + os.length + 1 ≤ 16777216 by omega)
                have HS3 := Lib.hid (show 0 + os.length + 1 + 0 ≤ 16777216 by omega)
                have HO1 := Lib.hid (show ∀ u ∈ ([.int .i64 f0, .int .i64 f1, .int .i64 f2, .int .i64 f3, .int .i64 f4, .int .i64 f5, .bool f6, .int .u32 f7, .int .i64 f8, .slice Ap f9.length cp, .int .u32 f10] : List Value), u.oneCell' = true from El.cells_one ⟨⟨f0, ⟨f1, f2, f3, f4, f5, f6, f7, f8⟩, f9, f10⟩, Ap, cp⟩)
                clear hfirst
                go_region_law (first | (refine step_app _ row27' rfl (.tmp 70) (.tmp 73) rfl w5.heap.size _ 0 [] rfl IA.out.1 w5.heap.size (some ⟨g8, 0, none⟩) os.length os.length (cellsE (List.take os.length os)) rfl (rd_take O5.out os.length IA.out.2) HL1.out (cellsE_ones _) HS1.out IA.out.2.size ?_; intro v1 wA1 own gr hX; have I1 := IA.out.app own gr; have kk := InsS.keep I1 K5.out; have hgf1 := kk.lt; obtain ⟨y0, y1, y2, y3, y4, y5, y6, y7, y8, y9, y10⟩ := Bk.cells11 kk; clear own gr hX kk) | (refine step_app _ row27' rfl (.tmp 70) (.tmp 73) rfl w5.heap.size _ 0 [] rfl IB.out.1 w5.heap.size (some ⟨g8, 0, none⟩) os.length os.length (cellsE (List.take os.length os)) rfl (rd_take O5.out os.length IB.out.2) HL1.out (cellsE_ones _) HS1.out IB.out.2.size ?_; intro v1 wA1 own gr hX; have I1 := IB.out.app own gr; have X1 := XB.out.app gr hX; have kk := InsS.keep I1 K5.out; have hgf1 := kk.lt; obtain ⟨y0, y1, y2, y3, y4, y5, y6, y7, y8, y9, y10⟩ := Bk.cells11 kk; clear own gr hX kk) | (refine step_app _ row27' rfl (.tmp 70) (.tmp 73) rfl w5.heap.size _ 0 [] rfl IC.out.1 w5.heap.size (some ⟨g8, 0, none⟩) os.length os.length (cellsE (List.take os.length os)) rfl (rd_take O5.out os.length IC.out.2) HL1.out (cellsE_ones _) HS1.out IC.out.2.size ?_; intro v1 wA1 own gr hX; have I1 := IC.out.app own gr; have X1 := XC.out.app gr hX; have kk := InsS.keep I1 K5.out; have hgf1 := kk.lt; obtain ⟨y0, y1, y2, y3, y4, y5, y6, y7, y8, y9, y10⟩ := Bk.cells11 kk; clear own gr hX kk) | (refine step_app _ row27' rfl (.tmp 74) (.tmp 76) rfl w5.heap.size v1 _ _ rfl I1.1 _ _ 1 1 [.int .i64 f0, .int .i64 f1, .int .i64 f2, .int .i64 f3, .int .i64 f4, .int .i64 f5, .bool f6, .int .u32 f7, .int .i64 f8, .slice Ap f9.length cp, .int .u32 f10] rfl (Bk.rd X1.1) rfl HO1.out HS2.out I1.2.size ?_; intro v2 wA2 own gr hX; have I2 := I1.app own gr; have kk := InsS.keep I2 K5.out; have hgf2 := kk.lt; obtain ⟨y0, y1, y2, y3, y4, y5, y6, y7, y8, y9, y10⟩ := Bk.cells11 kk; clear own gr hX kk) | (refine step_app _ row27' rfl (.tmp 74) (.tmp 76) rfl w5.heap.size v1 _ _ rfl (I1.alloc (.cells #[.int .i64 f0, .int .i64 f1, .int .i64 f2, .int .i64 f3, .int .i64 f4, .int .i64 f5, .bool f6, .int .u32 f7, .int .i64 f8, .slice Ap f9.length cp, .int .u32 f10] 48)).1 (wA1.heap.size + 1) (some ⟨wA1.heap.size, 0, none⟩) 1 1 [.int .i64 f0, .int .i64 f1, .int .i64 f2, .int .i64 f3, .int .i64 f4, .int .i64 f5, .bool f6, .int .u32 f7, .int .i64 f8, .slice Ap f9.length cp, .int .u32 f10] rfl (Rd.fresh wA1 #[.int .i64 f0, .int .i64 f1, .int .i64 f2, .int .i64 f3, .int .i64 f4, .int .i64 f5, .bool f6, .int .u32 f7, .int .i64 f8, .slice Ap f9.length cp, .int .u32 f10] 48 (Nat.lt_succ_self _)) rfl HO1.out HS2.out (I1.alloc (.cells #[.int .i64 f0, .int .i64 f1, .int .i64 f2, .int .i64 f3, .int .i64 f4, .int .i64 f5, .bool f6, .int .u32 f7, .int .i64 f8, .slice Ap f9.length cp, .int .u32 f10] 48)).2.size ?_; intro v2 wA2 own gr hX; have I2 := (I1.alloc (.cells #[.int .i64 f0, .int .i64 f1, .int .i64 f2, .int .i64 f3, .int .i64 f4, .int .i64 f5, .bool f6, .int .u32 f7, .int .i64 f8, .slice Ap f9.length cp, .int .u32 f10] 48)).app own gr; have kk := InsS.keep I2 K5.out; have hgf2 := kk.lt; obtain ⟨y0, y1, y2, y3, y4, y5, y6, y7, y8, y9, y10⟩ := Bk.cells11 kk; clear own gr hX kk) | (refine step_app _ row27' rfl (.tmp 77) (.tmp 80) rfl w5.heap.size v2 _ _ rfl I2.1 w5.heap.size (some ⟨g8, 0, none⟩) 0 0 ([] : List Value) rfl Rd.nil HL3.out HD3.out HS3.out I2.2.size ?_; intro v3 wA3 own gr hX; have I3 := Lib.hid (I2.app own gr); clear own gr hX I2))
                all_goals
                  have HM := Lib.hid (show (os ++ [(⟨⟨f0, ⟨f1, f2, f3, f4, f5, f6, f7, f8⟩, f9, f10⟩, Ap, cp⟩ : El)]).length = 0 + os.length + 1 + 0 by simp)
                  have HV := Lib.hid (show cellsE (os ++ [(⟨⟨f0, ⟨f1, f2, f3, f4, f5, f6, f7, f8⟩, f9, f10⟩, Ap, cp⟩ : El)]) = [] ++ cellsE (List.take os.length os) ++ ([.int .i64 f0, .int .i64 f1, .int .i64 f2, .int .i64 f3, .int .i64 f4, .int .i64 f5, .bool f6, .int .u32 f7, .int .i64 f8, .slice Ap f9.length cp, .int .u32 f10] : List Value) ++ ([] : List Value) by rw [cellsE_append, List.take_length, List.nil_append, List.append_nil, cellsE_one]; rfl)
                  go_wp2_with fail
                  go_roundw
                  case rel =>
                    refine ⟨k + 1, os ++ [(⟨⟨f0, ⟨f1, f2, f3, f4, f5, f6, f7, f8⟩, f9, f10⟩, Ap, cp⟩ : El)], by omega, by go_num, R5.out.step hkl (by rw [HE.out]; exact HK.out) ?_ (by rw [HM.out]; omega) ?_ ?_ ?_⟩
                    · rw [HE.out, ins_map (Nat.le_refl _) HA.out (fun h => absurd h (Nat.lt_irrefl _)), dif_neg (Nat.lt_irrefl _)]
                    · intro e he
                      rw [HE.out]
                      rcases List.mem_append.1 he with he | he
                      · exact .inl he
                      · exact .inr (List.mem_singleton.1 he)
                    · rw [HM.out, HV.out]; exact own_base I3.out.1 R5.out.2.2.2.2.size
                    · exact R5.out.2.2.2.2.trans (I3.out.2.mono R5.out.2.2.2.2.size)
                  case measure => simp [intOf]; omega
              · have hcj' : ¬ c8 = os.length := hcj
                have hgf := K5.out.lt
                have hj0 : (0 : Int) ≤ ((os.length : Nat) : Int) := Int.natCast_nonneg _
                have hjc : ((os.length : Nat) : Int) ≤ ((c8 : Nat) : Int) := by omega
                have hnc : ((os.length : Nat) : Int) ≤ ((c8 : Nat) : Int) := by omega
                have hjn : ((os.length : Nat) : Int) ≤ ((os.length : Nat) : Int) := by omega
                have hfirst := InsS.first w5 #[.int .i64 f0, .int .i64 f1, .int .i64 f2, .int .i64 f3, .int .i64 f4, .int .i64 f5, .bool f6, .int .u32 f7, .int .i64 f8, .slice Ap f9.length cp, .int .u32 f10]
                have IA := Lib.hid hfirst.1
                have IB := Lib.hid hfirst.2.1
                have IC := Lib.hid hfirst.2.2.1
                have XB := Lib.hid hfirst.2.2.2.1
                have XC := Lib.hid hfirst.2.2.2.2
                have O5 := Lib.hid R5.out.2.2.2.1
                have HL1 := Lib.hid (show (cellsE (List.take os.length os)).length = os.length * 11 by first | (rw [cellsE_length, List.length_take, Nat.min_eq_left (by omega)]; done) | simp [cellsE_length])
                have HL3 := Lib.hid (show (([] : List Value)).length = 0 * 11 from rfl)
                have HD3 := Lib.hid (show ∀ u ∈ ([] : List Value), u.oneCell' = true from fun u hu => by cases hu)
                have HS1 := Lib.hid (show 0 + os.length ≤ 16777216 by omega)
                have HS2 := Lib.hid (show 0 + os.length + 1 ≤ 16777216 by omega)
                have HS3 := Lib.hid (show 0 + os.length + 1 + 0 ≤ 16777216 by omega)
                have HO1 := Lib.hid (show ∀ u ∈ ([.int .i64 f0, .int .i64 f1, .int .i64 f2, .int .i64 f3, .int .i64 f4, .int .i64 f5, .bool f6, .int .u32 f7, .int .i64 f8, .slice Ap f9.length cp, .int .u32 f10] : List Value), u.oneCell' = true from El.cells_one ⟨⟨f0, ⟨f1, f2, f3, f4, f5, f6, f7, f8⟩, f9, f10⟩, Ap, cp⟩)
                clear hfirst
                go_region_law (first | (refine step_app _ row27' rfl (.tmp 70) (.tmp 73) rfl w5.heap.size _ 0 [] rfl IA.out.1 w5.heap.size (some ⟨g8, 0, none⟩) os.length c8 (cellsE (List.take os.length os)) rfl (rd_take O5.out os.length IA.out.2) HL1.out (cellsE_ones _) HS1.out IA.out.2.size ?_; intro v1 wA1 own gr hX; have I1 := IA.out.app own gr; have kk := InsS.keep I1 K5.out; have hgf1 := kk.lt; obtain ⟨y0, y1, y2, y3, y4, y5, y6, y7, y8, y9, y10⟩ := Bk.cells11 kk; clear own gr hX kk) | (refine step_app _ row27' rfl (.tmp 70) (.tmp 73) rfl w5.heap.size _ 0 [] rfl IB.out.1 w5.heap.size (some ⟨g8, 0, none⟩) os.length c8 (cellsE (List.take os.length os)) rfl (rd_take O5.out os.length IB.out.2) HL1.out (cellsE_ones _) HS1.out IB.out.2.size ?_; intro v1 wA1 own gr hX; have I1 := IB.out.app own gr; have X1 := XB.out.app gr hX; have kk := InsS.keep I1 K5.out; have hgf1 := kk.lt; obtain ⟨y0, y1, y2, y3, y4, y5, y6, y7, y8, y9, y10⟩ := Bk.cells11 kk; clear own gr hX kk) | (refine step_app _ row27' rfl (.tmp 70) (.tmp 73) rfl w5.heap.size _ 0 [] rfl IC.out.1 w5.heap.size (some ⟨g8, 0, none⟩) os.length c8 (cellsE (List.take os.length os)) rfl (rd_take O5.out os.length IC.out.2) HL1.out (cellsE_ones _) HS1.out IC.out.2.size ?_; intro v1 wA1 own gr hX; have I1 := IC.out.app own gr; have X1 := XC.out.app gr hX; have kk := InsS.keep I1 K5.out; have hgf1 := kk.lt; obtain ⟨y0, y1, y2, y3, y4, y5, y6, y7, y8, y9, y10⟩ := Bk.cells11 kk; clear own gr hX kk) | (refine step_app _ row27' rfl (.tmp 74) (.tmp 76) rfl w5.heap.size v1 _ _ rfl I1.1 _ _ 1 1 [.int .i64 f0, .int .i64 f1, .int .i64 f2, .int .i64 f3, .int .i64 f4, .int .i64 f5, .bool f6, .int .u32 f7, .int .i64 f8, .slice Ap f9.length cp, .int .u32 f10] rfl (Bk.rd X1.1) rfl HO1.out HS2.out I1.2.size ?_; intro v2 wA2 own gr hX; have I2 := I1.app own gr; have kk := InsS.keep I2 K5.out; have hgf2 := kk.lt; obtain ⟨y0, y1, y2, y3, y4, y5, y6, y7, y8, y9, y10⟩ := Bk.cells11 kk; clear own gr hX kk) | (refine step_app _ row27' rfl (.tmp 74) (.tmp 76) rfl w5.heap.size v1 _ _ rfl (I1.alloc (.cells #[.int .i64 f0, .int .i64 f1, .int .i64 f2, .int .i64 f3, .int .i64 f4, .int .i64 f5, .bool f6, .int .u32 f7, .int .i64 f8, .slice Ap f9.length cp, .int .u32 f10] 48)).1 (wA1.heap.size + 1) (some ⟨wA1.heap.size, 0, none⟩) 1 1 [.int .i64 f0, .int .i64 f1, .int .i64 f2, .int .i64 f3, .int .i64 f4, .int .i64 f5, .bool f6, .int .u32 f7, .int .i64 f8, .slice Ap f9.length cp, .int .u32 f10] rfl (Rd.fresh wA1 #[.int .i64 f0, .int .i64 f1, .int .i64 f2, .int .i64 f3, .int .i64 f4, .int .i64 f5, .bool f6, .int .u32 f7, .int .i64 f8, .slice Ap f9.length cp, .int .u32 f10] 48 (Nat.lt_succ_self _)) rfl HO1.out HS2.out (I1.alloc (.cells #[.int .i64 f0, .int .i64 f1, .int .i64 f2, .int .i64 f3, .int .i64 f4, .int .i64 f5, .bool f6, .int .u32 f7, .int .i64 f8, .slice Ap f9.length cp, .int .u32 f10] 48)).2.size ?_; intro v2 wA2 own gr hX; have I2 := (I1.alloc (.cells #[.int .i64 f0, .int .i64 f1, .int .i64 f2, .int .i64 f3, .int .i64 f4, .int .i64 f5, .bool f6, .int .u32 f7, .int .i64 f8, .slice Ap f9.length cp, .int .u32 f10] 48)).app own gr; have kk := InsS.keep I2 K5.out; have hgf2 := kk.lt; obtain ⟨y0, y1, y2, y3, y4, y5, y6, y7, y8, y9, y10⟩ := Bk.cells11 kk; clear own gr hX kk) | (refine step_app _ row27' rfl (.tmp 77) (.tmp 80) rfl w5.heap.size v2 _ _ rfl I2.1 w5.heap.size (some ⟨g8, os.length * 11, none⟩) 0 (c8 - os.length) ([] : List Value) rfl Rd.nil HL3.out HD3.out HS3.out I2.2.size ?_; intro v3 wA3 own gr hX; have I3 := Lib.hid (I2.app own gr); clear own gr hX I2))
                all_goals
                  have HM := Lib.hid (show (os ++ [(⟨⟨f0, ⟨f1, f2, f3, f4, f5, f6, f7, f8⟩, f9, f10⟩, Ap, cp⟩ : El)]).length = 0 + os.length + 1 + 0 by simp)
                  have HV := Lib.hid (show cellsE (os ++ [(⟨⟨f0, ⟨f1, f2, f3, f4, f5, f6, f7, f8⟩, f9, f10⟩, Ap, cp⟩ : El)]) = [] ++ cellsE (List.take os.length os) ++ ([.int .i64 f0, .int .i64 f1, .int .i64 f2, .int .i64 f3, .int .i64 f4, .int .i64 f5, .bool f6, .int .u32 f7, .int .i64 f8, .slice Ap f9.length cp, .int .u32 f10] : List Value) ++ ([] : List Value) by rw [cellsE_append, List.take_length, List.nil_append, List.append_nil, cellsE_one]; rfl)
                  go_wp2_with fail
                  go_roundw
                  case rel =>
                    refine ⟨k + 1, os ++ [(⟨⟨f0, ⟨f1, f2, f3, f4, f5, f6, f7, f8⟩, f9, f10⟩, Ap, cp⟩ : El)], by omega, by go_num, R5.out.step hkl (by rw [HE.out]; exact HK.out) ?_ (by rw [HM.out]; omega) ?_ ?_ ?_⟩
                    · rw [HE.out, ins_map (Nat.le_refl _) HA.out (fun h => absurd h (Nat.lt_irrefl _)), dif_neg (Nat.lt_irrefl _)]
                    · intro e he
                      rw [HE.out]
                      rcases List.mem_append.1 he with he | he
                      · exact .inl he
                      · exact .inr (List.mem_singleton.1 he)
                    · rw [HM.out, HV.out]; exact own_base I3.out.1 R5.out.2.2.2.2.size
                    · exact R5.out.2.2.2.2.trans (I3.out.2.mono R5.out.2.2.2.2.size)
                  case measure => simp [intOf]; omega
      · have HK := Lib.hid hkd
        have hd : (f1 != kind) = true := by rw [bne_iff_ne]; exact hkd
        clear hkd
        go_wp2_with fail
        go_roundw
        case rel => exact ⟨k + 1, os, by omega, by go_num, (R0.out.below ((Below.refl _ wr).alloc (Nat.le_refl _) _)).other hkl (by rw [HE.out]; exact HK.out)⟩
        case measure => simp [intOf]; omega
    · obtain rfl : k = n := by omega
      go_wp2_with fail
      go_ret
      have hdone := R0.out.done (by rw [LL.out]; exact Nat.le_refl _) L3.out
      rw [L1.out] at hdone
      exact hdone
end Go.Proofs.Ytfeicdflkpgbnaa
