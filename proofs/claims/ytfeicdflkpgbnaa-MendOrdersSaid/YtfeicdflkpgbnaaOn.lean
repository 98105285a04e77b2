/-
  Proved: mend.Order tells the blocks of a kind, in order, one of each number. Conditions: those that each theorem lists ahead of its colon, and no others.
-/
import Derived.Test.YtfeicdflkpgbnaaOm
namespace Go.Proofs.Ytfeicdflkpgbnaa
open Go.RowKit

theorem rd_eleven {wr : World} {b o : Nat} {xs : List Value} {l : List El} (hc : ∀ (j : Nat) u, xs[j]? = some u → wr.cell? ⟨b, o + j, none⟩ = some u) (hx : xs = cellsE l) {k : Nat} (hk : k < l.length) :
    wr.cell? ⟨b, o + k * 11, none⟩ = some (.int .i64 l[k].f.at_) ∧ wr.cell? ⟨b, o + k * 11 + 1, none⟩ = some (.int .i64 l[k].f.hd.kind) ∧ wr.cell? ⟨b, o + k * 11 + 2, none⟩ = some (.int .i64 l[k].f.hd.index) ∧
      wr.cell? ⟨b, o + k * 11 + 3, none⟩ = some (.int .i64 l[k].f.hd.length) ∧ wr.cell? ⟨b, o + k * 11 + 4, none⟩ = some (.int .i64 l[k].f.hd.step) ∧ wr.cell? ⟨b, o + k * 11 + 5, none⟩ = some (.int .i64 l[k].f.hd.bound) ∧
      wr.cell? ⟨b, o + k * 11 + 6, none⟩ = some (.bool l[k].f.hd.last) ∧ wr.cell? ⟨b, o + k * 11 + 7, none⟩ = some (.int .u32 l[k].f.hd.link) ∧ wr.cell? ⟨b, o + k * 11 + 8, none⟩ = some (.int .i64 l[k].f.hd.size) ∧
      wr.cell? ⟨b, o + k * 11 + 9, none⟩ = some (.slice l[k].A l[k].f.pay.length l[k].c) ∧ wr.cell? ⟨b, o + k * 11 + 10, none⟩ = some (.int .u32 l[k].f.sum) := by
  have H : ∀ (j : Nat) (hj : j < 11) u, l[k].cells[j]? = some u → wr.cell? ⟨b, o + k * 11 + j, none⟩ = some u := fun j hj u hu => by
    rw [Nat.add_assoc]
    refine hc _ u ?_
    rw [hx, cellsE_get l k j hj, List.getElem?_eq_getElem hk]
    exact hu
  exact ⟨H 0 (by decide) _ rfl, H 1 (by decide) _ rfl, H 2 (by decide) _ rfl, H 3 (by decide) _ rfl, H 4 (by decide) _ rfl, H 5 (by decide) _ rfl, H 6 (by decide) _ rfl, H 7 (by decide) _ rfl, H 8 (by decide) _ rfl, H 9 (by decide) _ rfl, H 10 (by decide) _ rfl⟩
theorem Ord1.start (w : World) (kind : Int) (l : List El) : Ord1 w (w.heap.size + 1) kind l 0 ((w.alloc (.cells #[] 45)).alloc (.cells #[.slice (some ⟨w.heap.size, 0, none⟩) 0 0] 82)) :=
  ⟨.slice (some ⟨w.heap.size, 0, none⟩) 0 0, [], ⟨by have h := Bk.new (w.alloc (.cells #[] 45)) 82 #[.slice (some ⟨w.heap.size, 0, none⟩) 0 0]; simpa using h,
    (World.ownsRow_made w #[] 0 (Nat.le_refl _) (by decide) rfl).alloc _, fun e => by simp [Value.ownBlock] at e⟩, HeapE.nil, List.Perm.refl _, ((Below.refl _ w).alloc (Nat.le_refl _) _).alloc (by simp) _⟩

set_option maxHeartbeats 4000000 in
set_option maxRecDepth 20000 in
theorem order18 (n c : Nat) (A : Option Addr) (fs : List Fd) (xs : List Value) (kind : Int) (w : World) (h : Fs w A c fs xs) (hn : n = fs.length) (hm : n ≤ 4096) (hpay : ∀ f ∈ fs, f.pay.length ≤ 65536) (hd : AtD fs) :
    Calls Try.prog 18 #[.slice A n c, .int .i64 kind] w (FsP w (ordP kind [] fs)) := by
  have HF := Lib.hid h
  have HN := Lib.hid hn
  have HD := Lib.hid hd
  have HPY := Lib.hid hpay
  have hc : n ≤ c := by rw [hn]; exact h.1
  obtain ⟨l, hl1, hl2, hl3⟩ := els_of h.2.2
  have L1 := Lib.hid hl1
  have L2 := Lib.hid hl2
  have L3 := Lib.hid hl3
  have LL := Lib.hid (show l.length = n by rw [hn, ← hl1]; simp)
  clear h hn hd hl1 hl2 hl3 hpay
  go_enter Try.func18, Try.ntmps18
  go_wp2_with fail
  have S0 := Lib.hid (Ord1.start w kind l)
  generalize (w.alloc (.cells #[] 45)).alloc (.cells #[.slice (some ⟨w.heap.size, 0, none⟩) 0 0] 82) = w0 at *
  go_loopw [7, 15] (fun _ s15 wr => ∃ k : Nat, k ≤ n ∧ s15 = .int .i64 k ∧ Ord1 w (w.heap.size + 1) kind l k wr) (fun _ s15 _ => n - (intOf s15).toNat)
  case atStart => exact ⟨0, Nat.zero_le _, rfl, S0.out⟩
  case round =>
    obtain ⟨k, hk, rfl, v, es, q0, h0, p0, b0⟩ := hrel
    have Q0 := Lib.hid q0
    have H0 := Lib.hid h0
    have P0 := Lib.hid p0
    have B0 := Lib.hid b0
    have hs0 := b0.size
    clear q0 h0 p0 b0
    by_cases hlt : k < n
    · have hkl : k < l.length := by rw [LL.out]; exact hlt
      obtain ⟨b, o, rfl, hb, hcl⟩ := HF.out.lies (i := k) (by rw [← HN.out]; exact hlt)
      obtain ⟨c0, c1, c2, c3, c4, c5, c6, c7, c8, c9, c10⟩ := rd_eleven (wr := wr) (fun j u hu => (B0.out.cell (p := ⟨b, o + j, none⟩) hb).trans (hcl j u hu)) L2.out hkl
      clear hcl
      have KS := Lib.hid (kindE_succ (kind := kind) hkl)
      have hlen : es.length ≤ k := by rw [P0.out.length_eq]; exact Nat.le_trans (List.length_filter_le _ _) (List.length_take_le _ _)
      generalize hel : l[k] = el at *
      clear hel
      obtain ⟨⟨f0, ⟨f1, f2, f3, f4, f5, f6, f7, f8⟩, f9, f10⟩, Ap, cp⟩ := el
      dsimp only at c0 c1 c2 c3 c4 c5 c6 c7 c8 c9 c10 KS
      by_cases hkd : f1 = kind
      · have HK := Lib.hid hkd
        have hd : (f1 == kind) = true := by rw [beq_iff_eq]; exact hkd
        clear hkd
        go_wp2_with fail
        refine (push32 (w.heap.size + 1) w.heap.size v es ⟨⟨f0, ⟨f1, f2, f3, f4, f5, f6, f7, f8⟩, f9, f10⟩, Ap, cp⟩ _ (Q0.out.alloc _) H0.out (Nat.le_succ _) (by simp; omega) (by omega)).mono ?_
        rintro r w2 ⟨rfl, v2, es2, q2, p2, h2, b2⟩
        have Q2 := Lib.hid q2
        have P2 := Lib.hid (p2.trans (P0.out.append_right _))
        have H2 := Lib.hid h2
        have B2 := Lib.hid ((B0.out.alloc hs0 _).trans b2)
        clear q2 p2 h2 b2 c0 c1 c2 c3 c4 c5 c6 c7 c8 c9 c10
        go_wp2_with fail
        go_roundw
        case rel => exact ⟨k + 1, by omega, by go_num, v2, es2, Q2.out, H2.out, by rw [KS.out, if_pos HK.out]; exact P2.out, B2.out⟩
        case measure => simp [intOf]; omega
      · have HK := Lib.hid hkd
        have hd : (f1 == kind) = false := by rw [beq_eq_false_iff_ne]; exact hkd
        clear hkd
        go_wp2_with fail
        go_roundw
        case rel => exact ⟨k + 1, by omega, by go_num, v, es, Q0.out.alloc _, H0.out, by rw [KS.out, if_neg HK.out, List.append_nil]; exact P0.out, B0.out.alloc hs0 _⟩
        case measure => simp [intOf]; omega
    · obtain rfl : k = n := by omega
      have P1 := Lib.hid (show es.Perm (kindE kind l) by have h := P0.out; rw [List.take_of_length_le (by rw [LL.out]; exact Nat.le_refl _)] at h; exact h)
      have HL0 := Lib.hid (show (kindE kind l).length ≤ k by rw [← LL.out]; exact List.length_filter_le _ _)
      have T0 := Lib.hid (Ord2.start Q0.out H0.out P1.out B0.out)
      clear Q0 H0 P0 B0 P1
      generalize v.ownBlock = vb at *
      go_wp2_with fail
      obtain ⟨wo, rfl⟩ : ∃ wo : World, wo = wr := ⟨_, rfl⟩
      go_loopw [8, 9, 10] (fun s8 _ _ wx => ∃ v es dn os, Ord2 w (w.heap.size + 1) vb (kindE kind l) s8 wx v es dn os ∧ os.length ≤ dn.length) (fun _ _ _ wx => lenAt wx (w.heap.size + 1))
      case atStart => exact ⟨_, _, _, _, T0.out, Nat.le_refl _⟩
      case round =>
        obtain ⟨v1, es1, dn, os, hrel, hos⟩ := hrel
        have HOS := Lib.hid hos
        clear hos
        have T1 := Lib.hid hrel
        have HLE := Lib.hid hrel.1.lenAt
        have hcell := hrel.1.cell
        have hcnt : dn.length + es1.length ≤ k := by have h := hrel.2.2.2.1.length_eq; rw [List.length_append] at h; rw [h]; exact HL0.out
        obtain ⟨A1, c1, rfl, hc1, _⟩ := own_slice hrel.1.own
        obtain ⟨A8, c8, h8, hc8, _⟩ := own_slice hrel.2.2.2.2.2.2.1
        subst h8
        clear hrel
        by_cases he : es1.length = 0
        · obtain rfl : es1 = [] := List.eq_nil_of_length_eq_zero he
          go_wp2_with fail
          refine (len33 _ _ _ _).mono ?_
          rintro r w2 ⟨rfl, rfl⟩
          go_wp2_with fail
          go_ret
          have hdone := T1.out.done (by rw [L1.out]; exact HD.out)
          rw [L1.out] at hdone
          exact hdone
        · go_wp2_with fail
          refine (len33 _ _ _ _).mono ?_
          rintro r w2 ⟨rfl, rfl⟩
          have hpos : (0 : Int) < (es1.length : Int) := by omega
          go_wp2_with fail
          refine (pop34 (w.heap.size + 1) w.heap.size (.slice A1 es1.length c1) es1 wr T1.out.1 T1.out.2.2.1 (by omega) (by omega)).mono ?_
          rintro r w3 ⟨e, v', es', rfl, q3, p3, h3, m3, o3, k3⟩
          have T3 := Lib.hid (T1.out.popped (Nat.le_succ _) q3 p3 h3 m3 o3 k3)
          have HSZ := Lib.hid (show es'.length + 1 = es1.length by rw [← p3.length_eq]; simp)
          have HEM := Lib.hid (show e ∈ l from (List.mem_filter.1 (T3.out.2.2.2.1.subset (List.mem_append_left _ (List.mem_append_right _ (by simp))))).1)
          clear q3 p3 h3 m3 o3 k3 hcell
          have PE := Lib.hid (L3.out e HEM.out)
          have HPL := Lib.hid (HPY.out e.f (by rw [← L1.out]; exact List.mem_map_of_mem HEM.out))
          obtain ⟨f, Ap, cp⟩ := e
          have HF2 := Lib.hid (rfl : f = f)
          obtain ⟨f0, ⟨f1, f2, f3, f4, f5, f6, f7, f8⟩, f9, f10⟩ := f
          rw [show (El.cells ⟨⟨f0, ⟨f1, f2, f3, f4, f5, f6, f7, f8⟩, f9, f10⟩, Ap, cp⟩).toArray = #[.int .i64 f0, .int .i64 f1, .int .i64 f2, .int .i64 f3, .int .i64 f4, .int .i64 f5, .bool f6, .int .u32 f7, .int .i64 f8, .slice Ap f9.length cp, .int .u32 f10] from rfl]
          clear HF2
          go_upto_region 12 with (fail)
          have T4 := Lib.hid (T3.out.below ((Below.refl _ w3).alloc (Nat.le_refl _) (.cells #[.int .i64 f0, .int .i64 f1, .int .i64 f2, .int .i64 f3, .int .i64 f4, .int .i64 f5, .bool f6, .int .u32 f7, .int .i64 f8, .slice Ap f9.length cp, .int .u32 f10] 45)))
          have K4 := Lib.hid (Bk.new w3 45 #[.int .i64 f0, .int .i64 f1, .int .i64 f2, .int .i64 f3, .int .i64 f4, .int .i64 f5, .bool f6, .int .u32 f7, .int .i64 f8, .slice Ap f9.length cp, .int .u32 f10])
          clear T3
          generalize w3.alloc (.cells #[.int .i64 f0, .int .i64 f1, .int .i64 f2, .int .i64 f3, .int .i64 f4, .int .i64 f5, .bool f6, .int .u32 f7, .int .i64 f8, .slice Ap f9.length cp, .int .u32 f10] 45) = w4 at *
          generalize w3.heap.size = gf at *
          obtain ⟨y0, y1, y2, y3, y4, y5, y6, y7, y8, y9, y10⟩ := Bk.cells11 K4.out
          rcases List.eq_nil_or_concat os with hos | ⟨pre, g, hos⟩
          · subst hos
            go_quiet (fail)
            have T5 := Lib.hid (T4.out.below (below_drewN (Below.refl _ w4) nq))
            have K5 := Lib.hid (K4.out.drewN nq)
            clear T4 K4 y0 y1 y2 y3 y4 y5 y6 y7 y8 y9 y10
            generalize w4.drewN nq = w5 at *
            obtain ⟨y0, y1, y2, y3, y4, y5, y6, y7, y8, y9, y10⟩ := Bk.cells11 K5.out
            go_wp2_with fail
            refine (clone35 ⟨⟨f0, ⟨f1, f2, f3, f4, f5, f6, f7, f8⟩, f9, f10⟩, Ap, cp⟩ w5 w.heap.size (PE.out.2.1.below T5.out.wb) T5.out.wb.size HPL.out).mono ?_
            rintro r w6 ⟨A6, c6, rfl, hc6, hb6, hbel, hnew⟩
            have T6 := Lib.hid (T5.out.below hbel)
            have PE6 := Lib.hid (show PayE w6 (Dirty (w.heap.size + 1) vb (Value.slice A8 ([] : List El).length c8).ownBlock) ⟨⟨f0, ⟨f1, f2, f3, f4, f5, f6, f7, f8⟩, f9, f10⟩, A6, c6⟩ from ⟨hc6, hb6, fun _ => T5.out.fresh hnew⟩)
            have hs6 := T6.out.wb.size
            clear hc6 hb6 hbel hnew T5 K5 y0 y1 y2 y3 y4 y5 y6 y7 y8 y9 y10
            rw [show (El.cells ⟨⟨f0, ⟨f1, f2, f3, f4, f5, f6, f7, f8⟩, f9, f10⟩, A6, c6⟩).toArray = #[.int .i64 f0, .int .i64 f1, .int .i64 f2, .int .i64 f3, .int .i64 f4, .int .i64 f5, .bool f6, .int .u32 f7, .int .i64 f8, .slice A6 f9.length c6, .int .u32 f10] from rfl]
            have HFC := Lib.hid (show (El.mk ⟨f0, ⟨f1, f2, f3, f4, f5, f6, f7, f8⟩, f9, f10⟩ A6 c6).cells = [.int .i64 f0, .int .i64 f1, .int .i64 f2, .int .i64 f3, .int .i64 f4, .int .i64 f5, .bool f6, .int .u32 f7, .int .i64 f8, .slice A6 f9.length c6, .int .u32 f10] from rfl)
            go_wp2_with (at_builtin; refine wpl_app _ row29 rfl (.tmp 56) (.tmp 59) rfl w.heap.size (.slice A8 ([] : List El).length c8) ([] : List El).length (cellsE ([] : List El)) rfl (T6.out.row.alloc _) (w6.heap.size + 1) (some ⟨w6.heap.size, 0, none⟩) 1 1 (El.mk ⟨f0, ⟨f1, f2, f3, f4, f5, f6, f7, f8⟩, f9, f10⟩ A6 c6).cells rfl ?r rfl (El.cells_one _) (by have := HOS.out; omega) (by simp; omega) ?go)
            case r => rw [HFC.out]; exact Rd.fresh w6 _ 45 (Nat.lt_succ_self _)
            case go =>
              intro v9 w8 own gr hX
              have T8 := Lib.hid ((T6.out.below ((Below.refl _ w6).alloc (Nat.le_refl _) _)).put (rfl) (PE6.out.below ((Below.refl _ w6).alloc (Nat.le_refl _) _)) own gr (by simpa using hX))
              clear own gr hX T6 PE6
              go_wp2_with fail
              go_roundw
              case rel => exact ⟨_, es', _, _, T8.out, by have := HOS.out; simp only [List.length_append, List.length_singleton]; omega⟩
              case measure => rw [T8.out.1.lenAt, HLE.out]; have := HSZ.out; omega
          · have hos' : os = pre ++ [g] := by simpa using hos
            subst hos'
            clear hos
            have hg8 : ∃ g8, A8 = some ⟨g8, 0, none⟩ := by
              obtain ⟨g8, cap, hv, _⟩ := own_head T4.out.row (by simp)
              injection hv with hv
              exact ⟨g8, hv⟩
            obtain ⟨g8, rfl⟩ := hg8
            have gi := (own_cell T4.out.row (i := pre.length) (by simp)).2.2
            rw [show (pre ++ [g])[pre.length]'(by simp) = g by simp] at gi
            have hl8 : (pre ++ [g]).length = pre.length + 1 := by simp
            have hpl : pre.length ≤ 4096 := by have := HOS.out; omega
            generalize (pre ++ [g]).length = ol at *
            subst hl8
            have HOV := Lib.hid (show (pre ++ [g]).length = pre.length + 1 by simp)
            have hu : IntKind.i64.wrap ((pre.length : Int) + 1 - 1) = (pre.length : Int) := by rw [show (pre.length : Int) + 1 - 1 = (pre.length : Int) by omega]; exact IntWalk.i64_in _ ⟨by omega, by omega⟩
            have HGL := Lib.hid (show (List.map (fun x : El => x.f) (pre ++ [g])).getLast? = some g.f by simp)
            have hd0 : ((pre.length : Int) + 1 == 0) = false := beq_eq_false_iff_ne.2 (by omega)
            have HGX := Lib.hid (rfl : g.f.hd.index = g.f.hd.index)
            generalize hgx : g.f.hd.index = gx at *
            have HGY := Lib.hid hgx
            clear hgx HGX
            by_cases hx : gx = f2
            · have HX := Lib.hid hx
              have hdx : (gx != f2) = false := by rw [bne_eq_false_iff_eq]; exact hx
              clear hx
              go_quiet (fail)
              have T5 := Lib.hid ((T4.out.below (below_drewN (Below.refl _ w4) nq)).skip (ddS_same HGL.out (by show g.f.hd.index = f2; rw [HGY.out]; exact HX.out)))
              clear T4 K4 y0 y1 y2 y3 y4 y5 y6 y7 y8 y9 y10 gi
              go_wp2_with fail
              go_roundw
              case rel => exact ⟨_, es', _, _, T5.out, by have := HOS.out; simp only [List.length_append, List.length_singleton] at this ⊢; omega⟩
              case measure => rw [T5.out.1.lenAt, HLE.out]; have := HSZ.out; omega
            · have HX := Lib.hid hx
              have hdx : (gx != f2) = true := by rw [bne_iff_ne]; exact hx
              clear hx
              go_quiet (fail)
              have T5 := Lib.hid (T4.out.below (below_drewN (Below.refl _ w4) nq))
              have K5 := Lib.hid (K4.out.drewN nq)
              clear T4 K4 y0 y1 y2 y3 y4 y5 y6 y7 y8 y9 y10 gi
              generalize w4.drewN nq = w5 at *
              obtain ⟨y0, y1, y2, y3, y4, y5, y6, y7, y8, y9, y10⟩ := Bk.cells11 K5.out
              go_wp2_with fail
              refine (clone35 ⟨⟨f0, ⟨f1, f2, f3, f4, f5, f6, f7, f8⟩, f9, f10⟩, Ap, cp⟩ w5 w.heap.size (PE.out.2.1.below T5.out.wb) T5.out.wb.size HPL.out).mono ?_
              rintro r w6 ⟨A6, c6, rfl, hc6, hb6, hbel, hnew⟩
              have T6 := Lib.hid (T5.out.below hbel)
              have PE6 := Lib.hid (show PayE w6 (Dirty (w.heap.size + 1) vb (Value.slice (some ⟨g8, 0, none⟩) (pre.length + 1) c8).ownBlock) ⟨⟨f0, ⟨f1, f2, f3, f4, f5, f6, f7, f8⟩, f9, f10⟩, A6, c6⟩ from ⟨hc6, hb6, fun _ => T5.out.fresh hnew⟩)
              have hs6 := T6.out.wb.size
              clear hc6 hb6 hbel hnew T5 K5 y0 y1 y2 y3 y4 y5 y6 y7 y8 y9 y10
              rw [show (El.cells ⟨⟨f0, ⟨f1, f2, f3, f4, f5, f6, f7, f8⟩, f9, f10⟩, A6, c6⟩).toArray = #[.int .i64 f0, .int .i64 f1, .int .i64 f2, .int .i64 f3, .int .i64 f4, .int .i64 f5, .bool f6, .int .u32 f7, .int .i64 f8, .slice A6 f9.length c6, .int .u32 f10] from rfl]
              have HFC := Lib.hid (show (El.mk ⟨f0, ⟨f1, f2, f3, f4, f5, f6, f7, f8⟩, f9, f10⟩ A6 c6).cells = [.int .i64 f0, .int .i64 f1, .int .i64 f2, .int .i64 f3, .int .i64 f4, .int .i64 f5, .bool f6, .int .u32 f7, .int .i64 f8, .slice A6 f9.length c6, .int .u32 f10] from rfl)
              have HR6 := Lib.hid (show w6.ownsRow w.heap.size 45 11 (.slice (some ⟨g8, 0, none⟩) (pre.length + 1) c8) (pre.length + 1) (cellsE (pre ++ [g])) by have h := T6.out.row; rw [HOV.out] at h; exact h)
              go_wp2_with (at_builtin; refine wpl_app _ row29 rfl (.tmp 56) (.tmp 59) rfl w.heap.size (.slice (some ⟨g8, 0, none⟩) (pre.length + 1) c8) (pre.length + 1) (cellsE (pre ++ [g])) rfl (HR6.out.alloc _) (w6.heap.size + 1) (some ⟨w6.heap.size, 0, none⟩) 1 1 (El.mk ⟨f0, ⟨f1, f2, f3, f4, f5, f6, f7, f8⟩, f9, f10⟩ A6 c6).cells rfl ?r rfl (El.cells_one _) (by omega) (by simp; omega) ?go)
              case r => rw [HFC.out]; exact Rd.fresh w6 _ 45 (Nat.lt_succ_self _)
              case go =>
                intro v9 w8 own gr hX
                have T8 := Lib.hid ((T6.out.below ((Below.refl _ w6).alloc (Nat.le_refl _) _)).put (ddS_more HGL.out (by show g.f.hd.index ≠ f2; rw [HGY.out]; exact HX.out)) (PE6.out.below ((Below.refl _ w6).alloc (Nat.le_refl _) _)) (by rw [HOV.out]; exact own) gr (by simpa using hX))
                clear own gr hX T6 PE6 HR6
                go_wp2_with fail
                go_roundw
                case rel => exact ⟨_, es', _, _, T8.out, by have := HOS.out; simp only [List.length_append, List.length_singleton] at this ⊢; omega⟩
                case measure => rw [T8.out.1.lenAt, HLE.out]; have := HSZ.out; omega
end Go.Proofs.Ytfeicdflkpgbnaa
