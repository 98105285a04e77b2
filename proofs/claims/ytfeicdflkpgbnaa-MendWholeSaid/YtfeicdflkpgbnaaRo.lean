/-
  PARSE, WALKED: reffile.Parse, of any bytes: an error, or a file whose blocks are those that a scan finds, in order.
-/
import Derived.Test.YtfeicdflkpgbnaaRl
import Derived.Test.YtfeicdflkpgbnaaRj
namespace Go.Proofs.Ytfeicdflkpgbnaa
open Go.RowKit

theorem ParF {bs : List UInt8} {a0 a z : Nat} {gs : List Fd} {kk i l s bb : Int} {t : Bool} {nn : Int} (h : Found (bs.drop a0) (a - a0) gs) (ho : openB (bs.drop a) = true) (hh : hdOf (bs.drop a) = ⟨kk, i, l, s, bb, t, nn, (z : Int)⟩) (ha : a0 ≤ a) (hl : a < bs.length) :
    Found (bs.drop a0) (a + 36 + z - a0) (gs ++ [fdAt (bs.drop a0) (a - a0)]) := by
  have e : (bs.drop a0).drop (a - a0) = bs.drop a := by rw [List.drop_drop, show a0 + (a - a0) = a by omega]
  have := h.hit (z := z) (by rw [List.length_drop]; omega) (by rw [e]; exact ho) (by rw [e, hh]; rfl)
  rwa [show a - a0 + 36 + z = a + 36 + z - a0 by omega] at this

set_option maxHeartbeats 4000000 in
set_option maxRecDepth 20000 in
theorem parse24 (n c B : Nat) (A : Option Addr) (bs : List UInt8) (w : World) (hb : Bs w B A bs) (hB : B ≤ w.heap.size) (hn : n = bs.length) (hc : n ≤ c) (hm : n ≤ 2000) :
    Calls Try.prog 24 #[.slice A n c] w (ParseT w bs) := by
  have HB := Lib.hid hb
  have HN := Lib.hid hn
  clear hn hb
  go_enter Try.func24, Try.ntmps24
  have K0 := Lib.hid (Bk.new w 65 #[.int .i64 0, .int .i64 0, .int .i64 0, .int .i64 0, .int .i64 0, .int .i64 0, .slice none 0 0, .slice none 0 0, .int .i64 0, .int .u32 0, .slice none 0 0])
  have L0 := Lib.hid ((Below.refl _ w).alloc (Nat.le_refl _) (.cells #[.int .i64 0, .int .i64 0, .int .i64 0, .int .i64 0, .int .i64 0, .int .i64 0, .slice none 0 0, .slice none 0 0, .int .i64 0, .int .u32 0, .slice none 0 0] 65))
  have A0 := Lib.hid (HB.out.alloc hB (.cells #[.int .i64 0, .int .i64 0, .int .i64 0, .int .i64 0, .int .i64 0, .int .i64 0, .slice none 0 0, .slice none 0 0, .int .i64 0, .int .u32 0, .slice none 0 0] 65))
  go_upto_region 1 with (fail)
  generalize w.alloc (.cells #[.int .i64 0, .int .i64 0, .int .i64 0, .int .i64 0, .int .i64 0, .int .i64 0, .slice none 0 0, .slice none 0 0, .int .i64 0, .int .u32 0, .slice none 0 0] 65) = w0 at *
  have hgr0 := K0.out.lt
  have hB0 : B ≤ w0.heap.size := by omega
  go_wp2_with fail
  refine (info37 n c B A bs w0 A0.out hB0 HN.out hc (by omega)).mono ?_
  rintro e w1 ⟨ki, i1, i2, i3, i4, i5, er, rfl, h19, hb1⟩
  have K1 := Lib.hid (K0.out.below hb1 hgr0)
  have L1 := Lib.hid (L0.out.trans (hb1.mono (Nat.le_of_lt hgr0)))
  have A1 := Lib.hid (A0.out.below (hb1.mono hB0))
  have H19 := Lib.hid h19
  have hgr1 := K1.out.lt
  clear hb1 K0 L0 A0 h19
  by_cases her : er = 0
  · subst her
    have h19 := H19.out rfl
    obtain ⟨b, o, rfl, hbB, _⟩ := Bs.mem A1.out (k := 0) (by rw [← HN.out]; omega)
    go_upto_region 4 with (fail)
    have K4 := Lib.hid (Bk.new w1 59 #[.int .i64 ki, .int .i64 i1, .int .i64 i2, .int .i64 i3, .int .i64 i4, .int .i64 i5])
    have K2 := Lib.hid (K1.out.alloc (.cells #[.int .i64 ki, .int .i64 i1, .int .i64 i2, .int .i64 i3, .int .i64 i4, .int .i64 i5] 59))
    have L2 := Lib.hid (L1.out.alloc (Nat.le_of_lt hgr1) (.cells #[.int .i64 ki, .int .i64 i1, .int .i64 i2, .int .i64 i3, .int .i64 i4, .int .i64 i5] 59))
    have A2 := Lib.hid (A1.out.alloc (by omega) (.cells #[.int .i64 ki, .int .i64 i1, .int .i64 i2, .int .i64 i3, .int .i64 i4, .int .i64 i5] 59))
    generalize w1.alloc (.cells #[.int .i64 ki, .int .i64 i1, .int .i64 i2, .int .i64 i3, .int .i64 i4, .int .i64 i5] 59) = w2 at *
    have hgr2 := K2.out.lt
    have hg42 := K4.out.lt
    have hsz2 := L2.out.size
    clear K1 L1 A1
    go_cut [6, 7, 8] (fun s6 s7 s8 wx => ∃ (TA : Option Addr) (tn tc m : Nat) (er : Int), s6 = .slice TA tn tc ∧ s7 = .int .i64 (m : Int) ∧ s8 = .int .i64 er ∧ tn ≤ tc ∧ m ≤ n - 19 ∧ (er = 0 → tn = 0 → m = 7) ∧ Below w2.heap.size w2 wx)
    case first =>
      by_cases hc19 : c = 19
      · subst hc19
        obtain rfl : n = 19 := by omega
        go_wp2_with fail
        refine (tags38 0 0 b o B [] w2 Bs.nil (by omega) rfl (Nat.le_refl _) (by omega)).mono ?_
        rintro e w3 ⟨TA, tn, tc, m, er, rfl, h1, h2, h3, hb3⟩
        have HH := Lib.hid (And.intro h1 (And.intro h2 (And.intro h3 hb3)))
        clear h1 h2 h3 hb3
        go_wp2_with fail
        go_meet
        case rel => exact ⟨TA, tn, tc, m, er, rfl, rfl, rfl, HH.out⟩
      · go_wp2_with fail
        refine (tags38 (n - 19) (c - 19) b (o + 19) B (bs.drop 19) w2 (Bs.cut A2.out (k := 19) (A' := some ⟨b, o + 19, none⟩) (fun b' o' e _ => by injection e with e; cases e; rfl)) (by omega) (by rw [List.length_drop, HN.out]) (by omega) (by omega)).mono ?_
        rintro e w3 ⟨TA, tn, tc, m, er, rfl, h1, h2, h3, hb3⟩
        have HH := Lib.hid (And.intro h1 (And.intro h2 (And.intro h3 hb3)))
        clear h1 h2 h3 hb3
        go_wp2_with fail
        go_meet
        case rel => exact ⟨TA, tn, tc, m, er, rfl, rfl, rfl, HH.out⟩
    case rest =>
      obtain ⟨TA, tn, tc, m, er, rfl, rfl, rfl, htc, hmn, hm7, hb3⟩ := hcut
      have K3 := Lib.hid (K2.out.below hb3 hgr2)
      have K43 := Lib.hid (K4.out.below hb3 hg42)
      have L3 := Lib.hid (L2.out.trans (hb3.mono hsz2))
      have A3 := Lib.hid (A2.out.below (hb3.mono (by omega)))
      have HM7 := Lib.hid hm7
      have hgr3 := K3.out.lt
      have hsz3 := hb3.size
      clear hb3 K2 K4 L2 A2 hm7
      by_cases her : er = 0
      · subst her
        obtain ⟨k0, k1, k2, k3, k4, k5⟩ := Bk.sixl K43.out
        have u0 : IntKind.i64.wrap (19 + (m : Int)) = 19 + (m : Int) := IntWalk.i64_in _ ⟨by omega, by omega⟩
        go_upto_region 8 with (fail)
        have K9 := Lib.hid (Bk.new wc 65 #[.int .i64 ki, .int .i64 i1, .int .i64 i2, .int .i64 i3, .int .i64 i4, .int .i64 i5, .slice TA tn tc, .slice none 0 0, .int .i64 0, .int .u32 0, .slice none 0 0])
        have PM := Lib.hid (show ParM w (wc.heap.size + 1) w.heap.size w1.heap.size wc.heap.size ki i1 i2 i3 i4 i5 (.slice TA tn tc) (.slice none 0 0) (.slice none 0 0) [] 0 (wc.alloc (.cells #[.int .i64 ki, .int .i64 i1, .int .i64 i2, .int .i64 i3, .int .i64 i4, .int .i64 i5, .slice TA tn tc, .slice none 0 0, .int .i64 0, .int .u32 0, .slice none 0 0] 65)) from
          ⟨K3.out.alloc _, K43.out.alloc _, K9.out, Nat.le_refl _, Nat.le_of_lt hgr1, Nat.le_of_lt hgr3, by omega, by omega, Nat.lt_succ_self _, by omega, by omega, by omega, L3.out.alloc (Nat.le_of_lt hgr3) _, by simp, ⟨[], World.ownsRow_nil _ _ _ _, rfl⟩, ⟨[], rfl, World.ownsRow_nil _ _ _ _⟩, fun b h => by cases h⟩)
        have A4 := Lib.hid (A3.out.alloc (by omega) (.cells #[.int .i64 ki, .int .i64 i1, .int .i64 i2, .int .i64 i3, .int .i64 i4, .int .i64 i5, .slice TA tn tc, .slice none 0 0, .int .i64 0, .int .u32 0, .slice none 0 0] 65))
        generalize wc.alloc (.cells #[.int .i64 ki, .int .i64 i1, .int .i64 i2, .int .i64 i3, .int .i64 i4, .int .i64 i5, .slice TA tn tc, .slice none 0 0, .int .i64 0, .int .u32 0, .slice none 0 0] 65) = w4 at *
        clear K3 K43 L3 A3 K9 k0 k1 k2 k3 k4 k5
        go_wp2_with fail
        have hA4s : B ≤ w4.heap.size := by have := PM.out.bel.size; omega
        clear hgr0 hB0 hgr1 hg42 hsz2 hgr3 hsz3
        generalize wc.heap.size = g9 at *
        generalize w1.heap.size = g4 at *
        obtain ⟨a0, ha0⟩ : ∃ a0 : Nat, a0 = 19 + m := ⟨_, rfl⟩
        have HA0 := Lib.hid ha0
        have ha0n : a0 ≤ n := by omega
        have e0 : 19 + (m : Int) = (a0 : Int) := by omega
        have HD0 := Lib.hid (show (bs.drop a0).length = n - a0 by rw [List.length_drop, HN.out])
        simp only [e0] at u0 ⊢
        clear e0 ha0 hmn
        go_loopw [10, 11, 12, 13, 14, 15, 16, 17, 18] (fun av cv sv pv kv _ _ _ _ wr => ParRel w bs a0 (g9 + 1) g4 g9 ki i1 i2 i3 i4 i5 (.slice TA tn tc) av cv sv pv kv wr) (fun av _ _ _ _ _ _ _ _ _ => n - (intOf av).toNat)
        case atStart => exact ⟨a0, 0, 0, false, _, [], rfl, rfl, rfl, rfl, Nat.le_refl _, by rw [Nat.sub_self]; exact Found.start _, rfl, InOrd.nil _, PM.out⟩
        case round =>
          obtain ⟨a, j, cn, sb, bv, gs, rfl, rfl, rfl, rfl, haa, hfo, hj, hio, hpm⟩ := hrel
          have HF := Lib.hid hfo
          have HJ := Lib.hid hj
          have HI := Lib.hid hio
          have HM := Lib.hid hpm
          have han : a ≤ n := by have := hfo.1; rw [HD0.out] at this; omega
          have hjn : j ≤ n := by have := hfo.2.1; omega
          have hjn' : (j : Int) ≤ (n : Int) := by omega
          have ha0' : (0 : Int) ≤ (a : Int) := Int.natCast_nonneg _
          have BR := Lib.hid (HB.out.below (hpm.bel.mono hB))
          have hszr := hpm.bel.size
          clear hfo hj hio hpm PM A4
          by_cases hlt : a < n
          · have hlt' : (a : Int) < (n : Int) := by omega
            have hge : ¬ (n : Int) ≤ (a : Int) := by omega
            have nca : ¬ c = a := by omega
            obtain ⟨b', o', e, _, hcc⟩ := Bs.mem BR.out (k := a) (by rw [← HN.out]; exact hlt)
            injection e with e
            injection e with e1 e2 e3
            subst e1 e2
            have c0 := hcc a (by rw [← HN.out]; exact hlt)
            clear hcc
            generalize ((bs[a]'(by rw [← HN.out]; exact hlt)).toNat : Int) = y at *
            by_cases hy : y = 69
            · subst hy
              go_wp2_with fail
              refine (tail40 (n - a) (c - a) b (o + a) B (bs.drop a) wr (Bs.cut BR.out (k := a) (A' := some ⟨b, o + a, none⟩) (fun b' o' e _ => by injection e with e; cases e; rfl)) (Nat.le_trans hB hszr) (by rw [List.length_drop, HN.out]) (by omega) (by omega)).mono ?_
              rintro e w5 ⟨L, S, PA, pk, pc, m2, er, rfl, hkc, hkn, hm2, ⟨l, hl, hnl⟩, hb5⟩
              have M5 := Lib.hid (HM.out.below hb5)
              have NL := Lib.hid hnl
              have HLL := Lib.hid hl
              clear hb5 HM BR c0 hnl hl
              go_upto_region 29 with (fail)
              have M6 := Lib.hid (M5.out.alloc (.cells #[.int .i64 L, .int .u32 S, .slice PA pk pc] 63))
              have K6 := Lib.hid (Bk.new w5 63 #[.int .i64 L, .int .u32 S, .slice PA pk pc])
              have N6 := Lib.hid (show Nums (w5.alloc (.cells #[.int .i64 L, .int .u32 S, .slice PA pk pc] 63)) w5.heap.size PA l from Rd.alloc NL.out (Nat.le_refl _) _)
              generalize w5.alloc (.cells #[.int .i64 L, .int .u32 S, .slice PA pk pc] 63) = w6 at *
              clear M5 NL
              obtain ⟨p0, p1, p2, p3, p4, p5, p6, p7, p8, p9, p10⟩ := Bk.elev M6.out.k2
              obtain ⟨f0, f1, f2, f3, f4, f5, f6, f7, f8, f9, f10⟩ := M6.out.k2.free11
              obtain ⟨t0, t1, t2⟩ := Bk.three K6.out
              have hsz6 := K6.out.lt
              by_cases her : er = 0
              · subst her
                have u1 : IntKind.i64.wrap ((a : Int) + (m2 : Int)) = (a : Int) + (m2 : Int) := IntWalk.i64_in _ ⟨by omega, by omega⟩
                by_cases hend : (n : Int) ≤ (a : Int) + (m2 : Int)
                · have hend' : ¬ (a : Int) + (m2 : Int) < (n : Int) := by omega
                  by_cases hcnt : L = cn
                  · have hcd : (L != cn) = false := by rw [bne_eq_false_iff_eq]; exact hcnt
                    have HCN := Lib.hid hcnt
                    clear hcnt
                    obtain ⟨ps, hps, hpo⟩ := M6.out.op
                    obtain ⟨A7, c7, rfl, hc7, hr7, _⟩ := own_slice hpo
                    have HPS := Lib.hid hps
                    have HR7 := Lib.hid (show Nums w6 w6.heap.size A7 ps from hr7)
                    clear hps hpo hr7
                    go_wp2_with fail
                    refine (ints21w pk pc j c7 PA A7 l ps w6.heap.size w6 (Rd.more N6.out (Nat.le_of_lt hsz6)) HR7.out HLL.out.symm HPS.out.symm hkc hc7 (by omega) (by omega)).mono ?_
                    rintro e w7 ⟨⟨qq, rfl⟩, hb7⟩
                    have M7 := Lib.hid (M6.out.below hb7)
                    have K7 := Lib.hid (K6.out.below hb7 hsz6)
                    clear hb7 p0 p1 p2 p3 p4 p5 p6 p7 p8 p9 p10 f0 f1 f2 f3 f4 f5 f6 f7 f8 f9 f10 t0 t1 t2 N6 HR7 M6 K6
                    obtain ⟨p0, p1, p2, p3, p4, p5, p6, p7, p8, p9, p10⟩ := Bk.elev M7.out.k2
                    obtain ⟨f0, f1, f2, f3, f4, f5, f6, f7, f8, f9, f10⟩ := M7.out.k2.free11
                    cases qq with
                    | false =>
                      go_upto_region 36 with (fail)
                      repeat (first | go_values | go_skip | go_guarded | go_step | go_upon)
                      refine bodyPost_ret (v := .tuple #[.agg #[.int .i64 0, .int .i64 0, .int .i64 0, .int .i64 0, .int .i64 0, .int .i64 0, .slice none 0 0, .slice none 0 0, .int .i64 0, .int .u32 0, .slice none 0 0], .int .i64 60]) (by simp [results, Try.results24, go_sem, p0, p1, p2, p3, p4, p5, p6, p7, p8, p9, p10]) rfl (ParseT.no (by decide) M7.out.bel _ _ _ _ _ _ _ _ _ _ _)
                    | true =>
                      obtain ⟨xs, hxs, _⟩ := M7.out.ob
                      rw [List.length_map, HJ.out] at hxs
                      obtain ⟨BA, bc, rfl, hbc, _, _⟩ := own_slice hxs
                      have HBC := Lib.hid hbc
                      clear hxs hbc
                      obtain ⟨t0, t1, t2⟩ := Bk.three K7.out
                      obtain ⟨q0, q1, q2, q3, q4, q5, q6, q7, q8, q9, q10⟩ := Bk.elev M7.out.k9
                      obtain ⟨r0, r1, r2, r3, r4, r5, r6, r7, r8, r9, r10⟩ := M7.out.k9.free11
                      clear p0 p1 p2 p3 p4 p5 p6 p7 p8 p9 p10 f0 f1 f2 f3 f4 f5 f6 f7 f8 f9 f10
                      go_upto_region 38 with (fail)
                      have F8 := Lib.hid (M7.out.fin.three M7.out.lo9 M7.out.hi9 (.int .i64 L) (.int .u32 S) (.slice PA pk pc))
                      have K8 := Lib.hid (show Bk (((w7.setCell ⟨g9, 8, none⟩ (.int .i64 L)).setCell ⟨g9, 9, none⟩ (.int .u32 S)).setCell ⟨g9, 10, none⟩ (.slice PA pk pc)) g9 65 #[.int .i64 ki, .int .i64 i1, .int .i64 i2, .int .i64 i3, .int .i64 i4, .int .i64 i5, .slice TA tn tc, .slice BA j bc, .int .i64 L, .int .u32 S, .slice PA pk pc] by
                        have := ((M7.out.k9.set_ 8 (.int .i64 L)).set_ 9 (.int .u32 S)).set_ 10 (.slice PA pk pc)
                        simpa using this)
                      have Z8 := Lib.hid (((M7.out.k2.far (p := ⟨g9, 8, none⟩) M7.out.n29 (.int .i64 L)).far (p := ⟨g9, 9, none⟩) M7.out.n29 (.int .u32 S)).far (p := ⟨g9, 10, none⟩) M7.out.n29 (.slice PA pk pc))
                      have hwb : w.heap.size < g9 + 1 := M7.out.hi2
                      clear M7 K7 q0 q1 q2 q3 q4 q5 q6 q7 q8 q9 q10 r0 r1 r2 r3 r4 r5 r6 r7 r8 r9 r10 t0 t1 t2
                      generalize ((w7.setCell ⟨g9, 8, none⟩ (.int .i64 L)).setCell ⟨g9, 9, none⟩ (.int .u32 S)).setCell ⟨g9, 10, none⟩ (.slice PA pk pc) = w8 at *
                      obtain ⟨q0, q1, q2, q3, q4, q5, q6, q7, q8, q9, q10⟩ := Bk.elev K8.out
                      obtain ⟨p0, p1, p2, p3, p4, p5, p6, p7, p8, p9, p10⟩ := Bk.elev Z8.out
                      obtain ⟨f0, f1, f2, f3, f4, f5, f6, f7, f8, f9, f10⟩ := Z8.out.free11
                      repeat (first | go_values | go_skip | go_guarded | go_step | go_upon)
                      refine bodyPost_ret (v := .tuple #[.agg #[.int .i64 ki, .int .i64 i1, .int .i64 i2, .int .i64 i3, .int .i64 i4, .int .i64 i5, .slice TA tn tc, .slice BA j bc, .int .i64 L, .int .u32 S, .slice PA pk pc], .int .i64 0]) (by simp [results, Try.results24, go_sem, p0, p1, p2, p3, p4, p5, p6, p7, p8, p9, p10]) rfl (FinP.yes (F8.out.eleven hwb _ _ _ _ _ _ _ _ _ _ _) rfl HJ.out.symm HBC.out (fun h => by have := HM7.out trivial h; have := HA0.out; omega) (fun h => by have := HM7.out trivial h; have := HA0.out; rw [← HN.out]; omega) HF.out HI.out)
                  · have hcd : (L != cn) = true := by rw [bne_iff_ne]; exact hcnt
                    clear hcnt
                    go_upto_region 34 with (fail)
                    repeat (first | go_values | go_skip | go_guarded | go_step | go_upon)
                    refine bodyPost_ret (v := .tuple #[.agg #[.int .i64 0, .int .i64 0, .int .i64 0, .int .i64 0, .int .i64 0, .int .i64 0, .slice none 0 0, .slice none 0 0, .int .i64 0, .int .u32 0, .slice none 0 0], .int .i64 61]) (by simp [results, Try.results24, go_sem, p0, p1, p2, p3, p4, p5, p6, p7, p8, p9, p10]) rfl (ParseT.no (by decide) M6.out.bel _ _ _ _ _ _ _ _ _ _ _)
                · have hend' : (a : Int) + (m2 : Int) < (n : Int) := by omega
                  go_upto_region 32 with (fail)
                  repeat (first | go_values | go_skip | go_guarded | go_step | go_upon)
                  refine bodyPost_ret (v := .tuple #[.agg #[.int .i64 0, .int .i64 0, .int .i64 0, .int .i64 0, .int .i64 0, .int .i64 0, .slice none 0 0, .slice none 0 0, .int .i64 0, .int .u32 0, .slice none 0 0], .int .i64 62]) (by simp [results, Try.results24, go_sem, p0, p1, p2, p3, p4, p5, p6, p7, p8, p9, p10]) rfl (ParseT.no (by decide) M6.out.bel _ _ _ _ _ _ _ _ _ _ _)
              · have hd2 : (er != 0) = true := by rw [bne_iff_ne]; exact her
                have HX := Lib.hid her
                clear her
                go_upto_region 30 with (fail)
                repeat (first | go_values | go_skip | go_guarded | go_step | go_upon)
                refine bodyPost_ret (v := .tuple #[.agg #[.int .i64 0, .int .i64 0, .int .i64 0, .int .i64 0, .int .i64 0, .int .i64 0, .slice none 0 0, .slice none 0 0, .int .i64 0, .int .u32 0, .slice none 0 0], .int .i64 er]) (by simp [results, Try.results24, go_sem, p0, p1, p2, p3, p4, p5, p6, p7, p8, p9, p10]) rfl (ParseT.no HX.out M6.out.bel _ _ _ _ _ _ _ _ _ _ _)
            · have hyd : (y != 69) = true := by rw [bne_iff_ne]; exact hy
              clear hy
              go_wp2_with fail
              refine (open16 (n - a) (c - a) (some ⟨b, o + a, none⟩) (bs.drop a) wr B (Bs.cut BR.out (k := a) (A' := some ⟨b, o + a, none⟩) (fun b' o' e _ => by injection e with e; cases e; rfl)) (Nat.le_trans hB hszr) (by rw [List.length_drop, HN.out]) (by omega) (by omega)).mono ?_
              rintro e w5 ⟨hb5, he⟩
              have M5 := Lib.hid (HM.out.below hb5)
              cases ho : openB (bs.drop a) with
              | false =>
                rw [if_neg (by rw [ho]; decide)] at he
                obtain ⟨x, hx, rfl⟩ := he
                have hd : (x != 0) = true := by rw [bne_iff_ne]; exact hx
                have HX := Lib.hid hx
                clear hb5 HM BR c0 ho hx
                unfold noHd
                go_upto_region 18 with (fail)
                have M6 := Lib.hid (M5.out.alloc (.cells #[.int .i64 0, .int .i64 0, .int .i64 0, .int .i64 0, .int .i64 0, .bool false, .int .u32 0, .int .i64 0] 40))
                generalize w5.alloc (.cells #[.int .i64 0, .int .i64 0, .int .i64 0, .int .i64 0, .int .i64 0, .bool false, .int .u32 0, .int .i64 0] 40) = w6 at *
                clear M5
                obtain ⟨p0, p1, p2, p3, p4, p5, p6, p7, p8, p9, p10⟩ := Bk.elev M6.out.k2
                obtain ⟨f0, f1, f2, f3, f4, f5, f6, f7, f8, f9, f10⟩ := M6.out.k2.free11
                go_upto_region 19 with (fail)
                repeat (first | go_values | go_skip | go_guarded | go_step | go_upon)
                refine bodyPost_ret (v := .tuple #[.agg #[.int .i64 0, .int .i64 0, .int .i64 0, .int .i64 0, .int .i64 0, .int .i64 0, .slice none 0 0, .slice none 0 0, .int .i64 0, .int .u32 0, .slice none 0 0], .int .i64 x]) (by simp [results, Try.results24, go_sem, p0, p1, p2, p3, p4, p5, p6, p7, p8, p9, p10]) rfl (ParseT.no HX.out M6.out.bel _ _ _ _ _ _ _ _ _ _ _)
              | true =>
                rw [if_pos ho] at he
                obtain ⟨Ap, cp, rfl, hcp, hpp, hap⟩ := he
                obtain ⟨pb, pp, hin⟩ := HM.out.pay hB hap
                have PB := Lib.hid (show PayOk w5 bv.ownBlock (payL (bs.drop a)) Ap cp from ⟨hcp, hpp, fun _ => pb⟩)
                have PP := Lib.hid (show PayOk w5 u13.ownBlock (payL (bs.drop a)) Ap cp from ⟨hcp, hpp, fun _ => pp⟩)
                have PI := Lib.hid hin
                have HO := Lib.hid ho
                obtain ⟨_, hz0, hz1⟩ := openB_right ho
                rw [show (bs.drop a).length = n - a by rw [List.length_drop, HN.out]] at hz1
                have hgb : g9 + 1 ≤ w5.heap.size := M5.out.hbs
                have NB := Lib.hid (show some w5.heap.size ≠ bv.ownBlock from fun e => by obtain ⟨xs, h1, _⟩ := M5.out.ob; have := (h1.lt _ e.symm).2; omega)
                have NP := Lib.hid (show some w5.heap.size ≠ u13.ownBlock from fun e => by obtain ⟨ps, _, h1⟩ := M5.out.op; have := (h1.lt _ e.symm).2; omega)
                clear hb5 HM ho hcp hpp hap pb pp hin BR c0
                generalize hh : hdOf (bs.drop a) = hd0 at *
                obtain ⟨kk, i, l, s, bb, t, nn, z⟩ := hd0
                have HH := Lib.hid hh
                clear hh
                dsimp only at hz0 hz1
                obtain ⟨z, rfl⟩ := Int.eq_ofNat_of_zero_le hz0
                have HFC := Lib.hid (show blCells (fdAt bs a) Ap cp = [.int .i64 kk, .int .i64 i, .int .i64 l, .int .i64 s, .int .i64 bb, .bool t, .int .u32 nn, .int .i64 (z : Int), .slice Ap (payL (bs.drop a)).length cp, .int .u32 (blkSum (bs.drop a) : Nat), .int .i64 (a : Int)] by unfold blCells fdAt; dsimp only; rw [HH.out])
                generalize (payL (bs.drop a)).length = pl at *
                generalize blkSum (bs.drop a) = bsum at *
                unfold Hd.cells
                dsimp only
                go_upto_region 18 with (fail)
                have M6 := Lib.hid (M5.out.alloc (.cells #[.int .i64 kk, .int .i64 i, .int .i64 l, .int .i64 s, .int .i64 bb, .bool t, .int .u32 nn, .int .i64 (z : Int)] 40))
                have PB6 := Lib.hid (PB.out.below ((Below.refl _ w5).alloc (Nat.le_refl _) (.cells #[.int .i64 kk, .int .i64 i, .int .i64 l, .int .i64 s, .int .i64 bb, .bool t, .int .u32 nn, .int .i64 (z : Int)] 40)))
                have PP6 := Lib.hid (PP.out.below ((Below.refl _ w5).alloc (Nat.le_refl _) (.cells #[.int .i64 kk, .int .i64 i, .int .i64 l, .int .i64 s, .int .i64 bb, .bool t, .int .u32 nn, .int .i64 (z : Int)] 40)))
                have K6 := Lib.hid (Bk.new w5 40 #[.int .i64 kk, .int .i64 i, .int .i64 l, .int .i64 s, .int .i64 bb, .bool t, .int .u32 nn, .int .i64 (z : Int)])
                clear M5 PB PP
                generalize w5.alloc (.cells #[.int .i64 kk, .int .i64 i, .int .i64 l, .int .i64 s, .int .i64 bb, .bool t, .int .u32 nn, .int .i64 (z : Int)] 40) = w6 at *
                generalize w5.heap.size = gh at *
                obtain ⟨q0, q1, q2, q3, q4, q5, q6, q7⟩ := Bk.eight K6.out
                obtain ⟨k0, k1, k2, k3, k4, k5⟩ := Bk.sixl M6.out.k4
                have Kl := K6.out.lt
                go_wp2_with fail
                refine (next39 ki i1 i2 i3 i4 i5 kk i l s bb t nn z j sb _).mono ?_
                rintro e w7 ⟨hb7, x, rfl, hx⟩
                have M7 := Lib.hid (M6.out.below hb7)
                have PB7 := Lib.hid (PB6.out.below hb7)
                have PP7 := Lib.hid (PP6.out.below hb7)
                have K7 := Lib.hid (K6.out.below hb7 Kl)
                have HXX := Lib.hid hx
                clear hb7 hx M6 PB6 PP6 K6 q0 q1 q2 q3 q4 q5 q6 q7 k0 k1 k2 k3 k4 k5 Kl
                by_cases hx0 : x = 0
                · subst hx0
                  have HE := Lib.hid (HXX.out rfl)
                  clear HXX
                  obtain ⟨q0, q1, q2, q3, q4, q5, q6, q7⟩ := Bk.eight K7.out
                  have c7 := M7.out.k9.cell 7
                  have hc7 : w7.cell? ⟨g9, 7, none⟩ = some bv := c7
                  clear c7
                  obtain ⟨xs, hxs, hbl⟩ := M7.out.ob
                  have OX := Lib.hid hxs
                  have OB := Lib.hid hbl
                  have hlen : (gs.map (fun f => f.up a0)).length ≤ 65536 := by rw [List.length_map, HJ.out]; omega
                  have hg7 := M7.out.hbs
                  clear hxs hbl
                  go_wp2_with (at_builtin; refine wpl_app _ row61 rfl (.tmp 94) (.tmp 100) rfl (g9 + 1) bv (gs.map (fun f => f.up a0)).length xs rfl (OX.out.alloc _) (w7.heap.size + 1) (some ⟨w7.heap.size, 0, none⟩) 1 1 (blCells (fdAt bs a) Ap cp) rfl ?r rfl (blCells_one _ _ _) (by omega) (by simp; omega) ?go)
                  case r => rw [HFC.out]; exact Rd.fresh w7 _ 69 (Nat.lt_succ_self _)
                  case go =>
                    intro v' w8 own gr hX
                    obtain ⟨A8, c8, rfl, _, _, _⟩ := own_slice own
                    obtain ⟨c9, f9, m9⟩ := (M7.out.alloc _).pushB (OX.out.alloc _) (OB.out.below ((Below.refl _ w7).alloc (Nat.le_refl _) _)) (PB7.out.below ((Below.refl _ w7).alloc (Nat.le_refl _) _)) (PP7.out.below ((Below.refl _ w7).alloc (Nat.le_refl _) _)) PI.out (show w8.ownsRow (g9 + 1) 69 11 (.slice A8 (gs.length + 1) c8) ((gs.map (fun f => f.up a0)).length + 1) (xs ++ blCells (fdAt bs a) Ap cp) by rw [List.length_map]; exact own) gr (by simpa using hX)
                    have M9 := Lib.hid m9
                    have K9 := Lib.hid (((K7.out.alloc _).grown gr NB.out).far (p := ⟨g9, 7, none⟩) (by show gh ≠ g9; omega) (.slice A8 (gs.length + 1) c8))
                    clear own gr hX m9 M7 K7 OX OB PB7 PP7 q0 q1 q2 q3 q4 q5 q6 q7 hc7 hg7
                    go_upto_region 24 with (fail)
                    generalize w8.setCell ⟨g9, 7, none⟩ (.slice A8 (gs.length + 1) c8) = w9 at *
                    clear c9 f9
                    obtain ⟨ps, hps, hpo⟩ := M9.out.op
                    have OP := Lib.hid hpo
                    have HPS := Lib.hid hps
                    have hg9 := M9.out.hbs
                    clear hps hpo
                    go_wp2_with (at_builtin; refine wpl_app _ row37 rfl (.tmp 103) (.tmp 105) rfl (g9 + 1) u13 j (ps.map (Value.int .i64)) rfl (OP.out.alloc _) (w9.heap.size + 1) (some ⟨w9.heap.size, 0, none⟩) 1 1 [.int .i64 (a : Int)] rfl ?r2 rfl (by intro u hu; rw [List.mem_singleton] at hu; subst hu; rfl) (by omega) (by simp; omega) ?go2)
                    case r2 => exact Rd.fresh w9 _ 3 (Nat.lt_succ_self _)
                    case go2 =>
                      intro v2 w10 own gr hX
                      have M10 := Lib.hid ((M9.out.alloc _).pushP HPS.out (OP.out.alloc _) own gr (by simpa using hX))
                      have K10 := Lib.hid ((K9.out.alloc _).grown gr NP.out)
                      clear own gr hX M9 K9 OP HPS hg9
                      obtain ⟨q0, q1, q2, q3, q4, q5, q6, q7⟩ := Bk.eight K10.out
                      obtain ⟨k0, k1, k2, k3, k4, k5⟩ := Bk.sixl M10.out.k4
                      have hu2 : (IntKind.i64).wrap ((a : Int) + 36 + (z : Int)) = (a : Int) + 36 + (z : Int) := IntWalk.i64_in _ ⟨by omega, by omega⟩
                      go_wp2_with fail
                      go_roundw
                      case rel => exact ⟨a + 36 + z, j + 1, _, _, _, gs ++ [fdAt (bs.drop a0) (a - a0)], by go_num, rfl, rfl, by go_num, by omega, ParF HF.out HO.out HH.out haa (by rw [← HN.out]; exact hlt), by rw [List.length_append, HJ.out]; rfl, HI.out.snoc (by show (hdOf ((bs.drop a0).drop (a - a0))).kind = ki; rw [List.drop_drop, show a0 + (a - a0) = a by omega, HH.out]; exact HE.out.1) (by show (hdOf ((bs.drop a0).drop (a - a0))).index = _; rw [List.drop_drop, show a0 + (a - a0) = a by omega, HH.out, HJ.out]; exact HE.out.2), by rw [ups_snoc haa]; exact M10.out⟩
                      case measure => simp [intOf]; omega
                · have hd : (x != 0) = true := by rw [bne_iff_ne]; exact hx0
                  have HX := Lib.hid hx0
                  clear hx0
                  obtain ⟨p0, p1, p2, p3, p4, p5, p6, p7, p8, p9, p10⟩ := Bk.elev M7.out.k2
                  obtain ⟨f0, f1, f2, f3, f4, f5, f6, f7, f8, f9, f10⟩ := M7.out.k2.free11
                  go_upto_region 22 with (fail)
                  repeat (first | go_values | go_skip | go_guarded | go_step | go_upon)
                  refine bodyPost_ret (v := .tuple #[.agg #[.int .i64 0, .int .i64 0, .int .i64 0, .int .i64 0, .int .i64 0, .int .i64 0, .slice none 0 0, .slice none 0 0, .int .i64 0, .int .u32 0, .slice none 0 0], .int .i64 x]) (by simp [results, Try.results24, go_sem, p0, p1, p2, p3, p4, p5, p6, p7, p8, p9, p10]) rfl (ParseT.no HX.out M7.out.bel _ _ _ _ _ _ _ _ _ _ _)
          · obtain rfl : a = n := by omega
            have p10' := HM.out.k2
            obtain ⟨p0, p1, p2, p3, p4, p5, p6, p7, p8, p9, p10⟩ := Bk.elev p10'
            obtain ⟨f0, f1, f2, f3, f4, f5, f6, f7, f8, f9, f10⟩ := p10'.free11
            clear p10'
            go_upto_region 16 with (fail)
            repeat (first | go_values | go_skip | go_guarded | go_step | go_upon)
            refine bodyPost_ret (v := .tuple #[.agg #[.int .i64 0, .int .i64 0, .int .i64 0, .int .i64 0, .int .i64 0, .int .i64 0, .slice none 0 0, .slice none 0 0, .int .i64 0, .int .u32 0, .slice none 0 0], .int .i64 10]) (by simp [results, Try.results24, go_sem, p0, p1, p2, p3, p4, p5, p6, p7, p8, p9, p10]) rfl (ParseT.no (by decide) HM.out.bel _ _ _ _ _ _ _ _ _ _ _)
      · have hd2 : (er != 0) = true := by rw [bne_iff_ne]; exact her
        have HX := Lib.hid her
        clear her
        obtain ⟨p0, p1, p2, p3, p4, p5, p6, p7, p8, p9, p10⟩ := Bk.elev K3.out
        obtain ⟨f0, f1, f2, f3, f4, f5, f6, f7, f8, f9, f10⟩ := K3.out.free11
        go_upto_region 6 with (fail)
        repeat (first | go_values | go_skip | go_guarded | go_step | go_upon)
        refine bodyPost_ret (v := .tuple #[.agg #[.int .i64 0, .int .i64 0, .int .i64 0, .int .i64 0, .int .i64 0, .int .i64 0, .slice none 0 0, .slice none 0 0, .int .i64 0, .int .u32 0, .slice none 0 0], .int .i64 er]) (by simp [results, Try.results24, go_sem, p0, p1, p2, p3, p4, p5, p6, p7, p8, p9, p10]) rfl (ParseT.no HX.out L3.out _ _ _ _ _ _ _ _ _ _ _)
  · have hd2 : (er != 0) = true := by rw [bne_iff_ne]; exact her
    have HX := Lib.hid her
    clear her
    go_upto_region 2 with (fail)
    have K2 := Lib.hid (K1.out.alloc (.cells #[.int .i64 ki, .int .i64 i1, .int .i64 i2, .int .i64 i3, .int .i64 i4, .int .i64 i5] 59))
    have L2 := Lib.hid (L1.out.alloc (Nat.le_of_lt hgr1) (.cells #[.int .i64 ki, .int .i64 i1, .int .i64 i2, .int .i64 i3, .int .i64 i4, .int .i64 i5] 59))
    generalize w1.alloc (.cells #[.int .i64 ki, .int .i64 i1, .int .i64 i2, .int .i64 i3, .int .i64 i4, .int .i64 i5] 59) = w2 at *
    obtain ⟨p0, p1, p2, p3, p4, p5, p6, p7, p8, p9, p10⟩ := Bk.elev K2.out
    obtain ⟨f0, f1, f2, f3, f4, f5, f6, f7, f8, f9, f10⟩ := K2.out.free11
    go_upto_region 3 with (fail)
    repeat (first | go_values | go_skip | go_guarded | go_step | go_upon)
    refine bodyPost_ret (v := .tuple #[.agg #[.int .i64 0, .int .i64 0, .int .i64 0, .int .i64 0, .int .i64 0, .int .i64 0, .slice none 0 0, .slice none 0 0, .int .i64 0, .int .u32 0, .slice none 0 0], .int .i64 er]) (by simp [results, Try.results24, go_sem, p0, p1, p2, p3, p4, p5, p6, p7, p8, p9, p10]) rfl (ParseT.no HX.out L2.out _ _ _ _ _ _ _ _ _ _ _)
end Go.Proofs.Ytfeicdflkpgbnaa
