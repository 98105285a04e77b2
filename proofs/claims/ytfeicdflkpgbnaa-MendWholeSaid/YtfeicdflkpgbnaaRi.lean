/-
  info.Get.
-/
import Derived.Test.YtfeicdflkpgbnaaRa
import Derived.Test.YtfeicdflkpgbnaaU3
namespace Go.Proofs.Ytfeicdflkpgbnaa
open Go.RowKit

theorem Bk.free6 {w : World} {g : Nat} {t : TypeId} {cs : Array Value} (h : Bk w g t cs) :
    w.frozen? ⟨g, 0, none⟩ = false ∧ w.frozen? ⟨g, 1, none⟩ = false ∧ w.frozen? ⟨g, 2, none⟩ = false ∧ w.frozen? ⟨g, 3, none⟩ = false ∧ w.frozen? ⟨g, 4, none⟩ = false ∧ w.frozen? ⟨g, 5, none⟩ = false :=
  ⟨h.frozen 0, h.frozen 1, h.frozen 2, h.frozen 3, h.frozen 4, h.frozen 5⟩
theorem below_set6 {B : Nat} {w0 w : World} (h : Below B w0 w) {g : Nat} (hg : B ≤ g) (a0 a1 a2 a3 a4 a5 : Value) :
    Below B w0 ((((((w.setCell ⟨g, 0, none⟩ a0).setCell ⟨g, 1, none⟩ a1).setCell ⟨g, 2, none⟩ a2).setCell ⟨g, 3, none⟩ a3).setCell ⟨g, 4, none⟩ a4).setCell ⟨g, 5, none⟩ a5) :=
  (((((h.setCell (p := ⟨g, 0, none⟩) hg _).setCell (p := ⟨g, 1, none⟩) hg _).setCell (p := ⟨g, 2, none⟩) hg _).setCell (p := ⟨g, 3, none⟩) hg _).setCell (p := ⟨g, 4, none⟩) hg _).setCell (p := ⟨g, 5, none⟩) hg _

theorem quiet_same {f : FuncId} {args : Array Value} {w : World} {n : Nat} {v : Value} (h : Calls Try.prog f args (w.drewN n) fun e w' => e = .returned v ∧ w.drewN n = w') : Calls Try.prog f args (w.drewN n) fun e w'' => e = .returned v ∧ ∃ m, w'' = w.drewN m :=
  h.mono fun _ _ ⟨he, hm⟩ => ⟨he, n, hm.symm⟩

theorem cell_alloc {w : World} {p : Addr} {u : Value} (h : w.cell? p = some u) (o : Obj) : (w.alloc o).cell? p = some u := (World.cell?_alloc_some w p o (by rw [h]; rfl)).trans h
theorem six_alloc {w0 w' : World} {p0 p1 p2 p3 p4 : Addr} {u0 u1 u2 u3 u4 : Value} (h : w'.cell? p0 = some u0 ∧ w'.cell? p1 = some u1 ∧ w'.cell? p2 = some u2 ∧ w'.cell? p3 = some u3 ∧ w'.cell? p4 = some u4 ∧ Below w0.heap.size w0 w') (o : Obj) :
    (w'.alloc o).cell? p0 = some u0 ∧ (w'.alloc o).cell? p1 = some u1 ∧ (w'.alloc o).cell? p2 = some u2 ∧ (w'.alloc o).cell? p3 = some u3 ∧ (w'.alloc o).cell? p4 = some u4 ∧ Below w0.heap.size w0 (w'.alloc o) :=
  ⟨cell_alloc h.1 o, cell_alloc h.2.1 o, cell_alloc h.2.2.1 o, cell_alloc h.2.2.2.1 o, cell_alloc h.2.2.2.2.1 o, h.2.2.2.2.2.alloc h.2.2.2.2.2.size o⟩
theorem six_drew {w0 w' : World} {p0 p1 p2 p3 p4 : Addr} {u0 u1 u2 u3 u4 : Value} (h : w'.cell? p0 = some u0 ∧ w'.cell? p1 = some u1 ∧ w'.cell? p2 = some u2 ∧ w'.cell? p3 = some u3 ∧ w'.cell? p4 = some u4 ∧ Below w0.heap.size w0 w') :
    w'.drew.cell? p0 = some u0 ∧ w'.drew.cell? p1 = some u1 ∧ w'.drew.cell? p2 = some u2 ∧ w'.drew.cell? p3 = some u3 ∧ w'.drew.cell? p4 = some u4 ∧ Below w0.heap.size w0 w'.drew :=
  ⟨h.1, h.2.1, h.2.2.1, h.2.2.2.1, h.2.2.2.2.1, h.2.2.2.2.2.drew⟩
theorem six_bs {w0 w' : World} {p0 p1 p2 p3 p4 : Addr} {u0 u1 u2 u3 u4 : Value} {B : Nat} {A : Option Addr} {bs : List UInt8} (h : w'.cell? p0 = some u0 ∧ w'.cell? p1 = some u1 ∧ w'.cell? p2 = some u2 ∧ w'.cell? p3 = some u3 ∧ w'.cell? p4 = some u4 ∧ Below w0.heap.size w0 w') (hA : Bs w0 B A bs) (hB : B ≤ w0.heap.size) : Bs w' B A bs := hA.below (h.2.2.2.2.2.mono hB)

/-- What info.Get answers, whatever it is. -/
def InfoT (w : World) (n : Nat) (e : Ending) (w' : World) : Prop :=
  ∃ ki a b c bl s er : Int, e = .returned (.tuple #[.agg #[.int .i64 ki, .int .i64 a, .int .i64 b, .int .i64 c, .int .i64 bl, .int .i64 s], .int .i64 er]) ∧ (er = 0 → 19 ≤ n) ∧ Below w.heap.size w w'

theorem want_at {w : World} {g : Nat} {k : Nat} (h : Bk w g 5 #[.int .u8 68, .int .u8 83, .int .u8 67, .int .u8 49]) (hk : k < 4) : ∃ u : Int, w.cell? ⟨g, k, none⟩ = some (.int .u8 u) := by
  have := h.cell k
  rcases (show k = 0 ∨ k = 1 ∨ k = 2 ∨ k = 3 by omega) with rfl | rfl | rfl | rfl
  all_goals exact ⟨_, this⟩

set_option maxHeartbeats 4000000 in
set_option maxRecDepth 20000 in
theorem info37 (n c B : Nat) (A : Option Addr) (bs : List UInt8) (w : World) (hb : Bs w B A bs) (hB : B ≤ w.heap.size) (hn : n = bs.length) (hc : n ≤ c) (hm : n ≤ 65536) :
    Calls Try.prog 37 #[.slice A n c] w (InfoT w n) := by
  have HB := Lib.hid hb
  have HN := Lib.hid hn
  clear hn hb
  go_enter Try.func37, Try.ntmps37
  have K0 := Lib.hid (Bk.new w 59 #[.int .i64 0, .int .i64 0, .int .i64 0, .int .i64 0, .int .i64 0, .int .i64 0])
  have L0 := Lib.hid ((Below.refl _ w).alloc (Nat.le_refl _) (.cells #[.int .i64 0, .int .i64 0, .int .i64 0, .int .i64 0, .int .i64 0, .int .i64 0] 59))
  go_wp2_with fail
  generalize hw0 : w.alloc (.cells #[.int .i64 0, .int .i64 0, .int .i64 0, .int .i64 0, .int .i64 0, .int .i64 0] 59) = w0 at *
  have hs0 : w0.heap.size = w.heap.size + 1 := by rw [← hw0]; simp
  clear hw0
  have K1 := Lib.hid (hs0 ▸ Bk.new w0 5 #[.int .u8 68, .int .u8 83, .int .u8 67, .int .u8 49])
  have L1 := Lib.hid (L0.out.alloc (by omega) (.cells #[.int .u8 68, .int .u8 83, .int .u8 67, .int .u8 49] 5))
  have R1 := Lib.hid (K0.out.alloc (.cells #[.int .u8 68, .int .u8 83, .int .u8 67, .int .u8 49] 5))
  generalize w0.alloc (.cells #[.int .u8 68, .int .u8 83, .int .u8 67, .int .u8 49] 5) = w1 at *
  clear K0 L0
  go_loopw [5] (fun i wr => ∃ k : Nat, k ≤ 4 ∧ k ≤ n ∧ i = .int .i64 k ∧ Below w.heap.size w wr ∧ Bk wr w.heap.size 59 #[.int .i64 0, .int .i64 0, .int .i64 0, .int .i64 0, .int .i64 0, .int .i64 0] ∧ Bk wr (w.heap.size + 1) 5 #[.int .u8 68, .int .u8 83, .int .u8 67, .int .u8 49]) (fun i _ => n - (intOf i).toNat)
  case atStart => exact ⟨0, by omega, Nat.zero_le _, rfl, L1.out, R1.out, K1.out⟩
  case round =>
    obtain ⟨k, hk, hkn, rfl, hbel, hr, hw⟩ := hrel
    have HL := Lib.hid hbel
    have HR := Lib.hid hr
    have HW := Lib.hid hw
    have hgw := hw.lt
    have hgr := hr.lt
    have BR := Lib.hid (HB.out.below (hbel.mono hB))
    clear hbel hr K1 L1 R1 hw
    by_cases hlt : k < 4 ∧ k < n
    · obtain ⟨h4, hlt⟩ := hlt
      have h4' : (k : Int) < 4 := by omega
      have hlt' : (k : Int) < (n : Int) := by omega
      have hk0 : (0 : Int) ≤ (k : Int) := Int.natCast_nonneg _
      obtain ⟨u, c0⟩ := want_at HW.out h4
      obtain ⟨b, o, rfl, hbB, hcc⟩ := Bs.mem BR.out (k := k) (by rw [← HN.out]; exact hlt)
      have c1 := hcc k (by rw [← HN.out]; exact hlt)
      generalize ((bs[k]'(by rw [← HN.out]; exact hlt)).toNat : Int) = v at *
      clear hcc
      by_cases huv : v = u
      · have hd : (v != u) = false := by rw [bne_eq_false_iff_eq]; exact huv
        clear huv
        go_wp2_with fail
        go_quiet (fail)
        go_wp2_with fail
        go_roundw
        case rel => exact ⟨k + 1, by omega, by omega, by go_num, below_drewN HL.out _, HR.out.drewN _, HW.out.drewN _⟩
        case measure => simp [intOf]; omega
      · have hd : (v != u) = true := by rw [bne_iff_ne]; exact huv
        clear huv
        go_wp2_with fail
        go_quiet (fail)
        obtain ⟨p0, p1, p2, p3, p4, p5⟩ := Bk.sixl HR.out
        obtain ⟨f0, f1, f2, f3, f4, f5⟩ := HR.out.free6
        go_upto_region 6 with (fail)
        repeat (first | go_values | go_skip | go_guarded | go_step | go_upon)
        refine bodyPost_ret (v := .tuple #[.agg #[.int .i64 0, .int .i64 0, .int .i64 0, .int .i64 0, .int .i64 0, .int .i64 0], .int .i64 31]) (by simp [results, Try.results37, go_sem, p0, p1, p2, p3, p4, p5]) rfl ⟨0, 0, 0, 0, 0, 0, 31, rfl, fun h => absurd h (by decide), below_set6 (below_drewN HL.out _) (Nat.le_refl _) _ _ _ _ _ _⟩
    · by_cases h19 : 19 ≤ n
      · have h4 : k = 4 := by omega
        subst h4
        have h19' : ¬ (n : Int) < 19 := by omega
        obtain ⟨b, o, rfl, hbB, hcc⟩ := Bs.mem BR.out (k := 0) (by rw [← HN.out]; omega)
        have c4 := hcc 4 (by rw [← HN.out]; omega)
        have c5 := hcc 5 (by rw [← HN.out]; omega)
        have c6 := hcc 6 (by rw [← HN.out]; omega)
        have c7 := hcc 7 (by rw [← HN.out]; omega)
        have v4 := (bs[4]'(by rw [← HN.out]; omega)).toNat_lt
        have v5 := (bs[5]'(by rw [← HN.out]; omega)).toNat_lt
        have v6 := (bs[6]'(by rw [← HN.out]; omega)).toNat_lt
        have v7 := (bs[7]'(by rw [← HN.out]; omega)).toNat_lt
        generalize ((bs[4]'(by rw [← HN.out]; omega)).toNat) = x4 at *
        generalize ((bs[5]'(by rw [← HN.out]; omega)).toNat) = x5 at *
        generalize ((bs[6]'(by rw [← HN.out]; omega)).toNat) = x6 at *
        generalize ((bs[7]'(by rw [← HN.out]; omega)).toNat) = x7 at *
        clear hcc
        have H15 := Lib.hid (show (bs.take 15).length = 15 by rw [List.length_take, ← HN.out]; omega)
        have H4 := Lib.hid (fun k (hk : k + 4 ≤ n) => show ((bs.drop k).take 4).length = 4 by rw [List.length_take, List.length_drop, ← HN.out]; omega)
        have H3 := Lib.hid (show ((bs.drop 8).take 3).length = 3 by rw [List.length_take, List.length_drop, ← HN.out]; omega)
        have HS := Lib.hid (Bs.take BR.out 15)
        have HV := Lib.hid (fun k m => show Bs wr B (some ⟨b, o + k, none⟩) ((bs.drop k).take m) from (Bs.cut BR.out (k := k) (A' := some ⟨b, o + k, none⟩) (fun b' o' e _ => by injection e with e; cases e; rfl)).take m)
        have w15 := leV_lt4 (bs := (bs.drop 15).take 4) (by rw [List.length_take]; omega)
        have w11 := leV_lt4 (bs := (bs.drop 11).take 4) (by rw [List.length_take]; omega)
        have w8 := leV_lt4 (bs := (bs.drop 8).take 3) (by rw [List.length_take]; omega)
        have ws := sumN_lt (bs.take 15)
        have i15 : (15 : Int) ≤ (c : Int) := by omega
        have i19 : (19 : Int) ≤ (c : Int) := by omega
        go_wp2_with fail
        go_quiet (first | (go_at_call 30; exact quiet_same (sum30 15 c _ (bs.take 15) _ B (HS.out.drewN _) H15.out.symm (by decide))) | (go_at_call 51; exact quiet_same (value51 4 (c - 15) _ ((bs.drop 15).take 4) _ B ((HV.out 15 4).drewN _) (H4.out 15 h19).symm (by decide))))
        generalize sumN (bs.take 15) = sm at *
        generalize leV ((bs.drop 15).take 4) = vv at *
        have HR2 := Lib.hid (HR.out.drewN nq)
        have HL2 := Lib.hid (below_drewN HL.out nq)
        have BR2 := Lib.hid (BR.out.drewN nq)
        have d4 : (wr.drewN nq).cell? ⟨b, o + 4, none⟩ = some (.int .u8 (x4 : Int)) := c4
        have d5 : (wr.drewN nq).cell? ⟨b, o + 5, none⟩ = some (.int .u8 (x5 : Int)) := c5
        have d6 : (wr.drewN nq).cell? ⟨b, o + 6, none⟩ = some (.int .u8 (x6 : Int)) := c6
        have d7 : (wr.drewN nq).cell? ⟨b, o + 7, none⟩ = some (.int .u8 (x7 : Int)) := c7
        have hgr2 : w.heap.size < (wr.drewN nq).heap.size := hgr
        generalize wr.drewN nq = w2 at *
        clear HS HV HW HR HL BR c4 c5 c6 c7 hgr hgw HB H15
        by_cases hq : (sm : Int) = (vv : Int)
        · have hqd : ((sm : Int) != (vv : Int)) = false := by rw [bne_eq_false_iff_eq]; exact hq
          clear hq
          have k5 : IntKind.i64.wrap (x5 : Int) = (x5 : Int) := IntWalk.i64_in _ ⟨by omega, by omega⟩
          have k6 : IntKind.i64.wrap (x6 : Int) = (x6 : Int) := IntWalk.i64_in _ ⟨by omega, by omega⟩
          have k4 : IntKind.i64.wrap (x4 : Int) = (x4 : Int) := IntWalk.i64_in _ ⟨by omega, by omega⟩
          have k7 : IntKind.i64.wrap (x7 : Int) = (x7 : Int) := IntWalk.i64_in _ ⟨by omega, by omega⟩
          have HV := Lib.hid (fun k m => show Bs w2 B (some ⟨b, o + k, none⟩) ((bs.drop k).take m) from (Bs.cut BR2.out (k := k) (A' := some ⟨b, o + k, none⟩) (fun b' o' e _ => by injection e with e; cases e; rfl)).take m)
          generalize hy8 : leV ((bs.drop 8).take 3) = y8 at *
          generalize hy11 : leV ((bs.drop 11).take 4) = y11 at *
          have HY8 := Lib.hid hy8
          have HY11 := Lib.hid hy11
          clear hy8 hy11
          have hB2 : B ≤ w2.heap.size := by omega
          have i5 : (5 : Int) < (n : Int) := by omega
          have i6 : (6 : Int) < (n : Int) := by omega
          have i4 : (4 : Int) < (n : Int) := by omega
          have i7 : (7 : Int) < (n : Int) := by omega
          have i11 : (11 : Int) ≤ (c : Int) := by omega
          have k8 : IntKind.i64.wrap (y8 : Int) = (y8 : Int) := IntWalk.i64_in _ ⟨by omega, by omega⟩
          have k11 : IntKind.i64.wrap (y11 : Int) = (y11 : Int) := IntWalk.i64_in _ ⟨by omega, by omega⟩
          have n8 : ¬ c = 8 := by omega
          go_upto_region 11 with (fail)
          go_cut [6] (fun s6 wx => ∃ g : Nat, s6 = .pointer (some ⟨g, 0, none⟩) ∧ Bk wx g 57 #[.int .i64 (x5 : Int), .int .i64 (x6 : Int), .int .i64 (y8 : Int)] ∧ w2.heap.size ≤ g ∧ Below w2.heap.size w2 wx)
          case first =>
            go_region_held3 (fun w' => w'.cell? ⟨b, o + 5, none⟩ = some (.int .u8 (x5 : Int)) ∧ w'.cell? ⟨b, o + 6, none⟩ = some (.int .u8 (x6 : Int)) ∧ Below w2.heap.size w2 w')
              (first | assumption | exact ⟨d5, d6, (Below.refl _ _).drew⟩ | exact two_drew (two_alloc ⟨d5, d6, Below.refl _ _⟩ _))
              (first | (go_at_call 51; refine (value51 3 (c - 8) _ ((bs.drop 8).take 3) _ B ?_ H3.out.symm (by omega)).mono ?_; (exact two_bs (by assumption) (HV.out 8 3) hB2); rw [HY8.out]; rintro e w' ⟨rfl, rfl⟩))
            all_goals
              go_wp2_with fail
              go_meet
              case rel => exact ⟨_, rfl, Bk.drew (Bk.new w2 57 _), Nat.le_refl _, ((Below.refl _ _).alloc (Nat.le_refl _) _).drew⟩
          case rest =>
            obtain ⟨g, rfl, hg, hgl, hwb⟩ := hcut
            have HR3 := Lib.hid (HR2.out.below hwb hgr2)
            have HL3 := Lib.hid (HL2.out.trans (hwb.mono (Nat.le_of_lt hgr2)))
            have BR3 := Lib.hid (BR2.out.below (hwb.mono hB2))
            have e4 : wc.cell? ⟨b, o + 4, none⟩ = some (.int .u8 (x4 : Int)) := (hwb.cell (p := ⟨b, o + 4, none⟩) (by show b < _; omega)).trans d4
            have e7 : wc.cell? ⟨b, o + 7, none⟩ = some (.int .u8 (x7 : Int)) := (hwb.cell (p := ⟨b, o + 7, none⟩) (by show b < _; omega)).trans d7
            have HV := Lib.hid (fun k m => show Bs wc B (some ⟨b, o + k, none⟩) ((bs.drop k).take m) from (Bs.cut BR3.out (k := k) (A' := some ⟨b, o + k, none⟩) (fun b' o' e _ => by injection e with e; cases e; rfl)).take m)
            obtain ⟨q0, q1, q2⟩ := Bk.three hg
            have hgc := hg.lt
            have hB3 : B ≤ wc.heap.size := by omega
            have hgr3 : w.heap.size < wc.heap.size := by omega
            clear d4 d5 d6 d7 hwb HR2 HL2 BR2 hg
            have n11 : ¬ c = 11 := by omega
            go_upto_region 12 with (fail)
            go_cut [7] (fun s7 wx => ∃ g' : Nat, s7 = .pointer (some ⟨g', 0, none⟩) ∧ Bk wx g' 59 #[.int .i64 (x4 : Int), .int .i64 (x5 : Int), .int .i64 (x6 : Int), .int .i64 (y8 : Int), .int .i64 (y11 : Int), .int .i64 (x7 : Int)] ∧ wc.heap.size ≤ g' ∧ Below wc.heap.size wc wx)
            case first =>
              have QQ := Lib.hid (show wc.cell? ⟨b, o + 4, none⟩ = some (.int .u8 (x4 : Int)) ∧ wc.cell? ⟨b, o + 7, none⟩ = some (.int .u8 (x7 : Int)) ∧ wc.cell? ⟨g, 0, none⟩ = some (.int .i64 (x5 : Int)) ∧ wc.cell? ⟨g, 1, none⟩ = some (.int .i64 (x6 : Int)) ∧ wc.cell? ⟨g, 2, none⟩ = some (.int .i64 (y8 : Int)) ∧ Below wc.heap.size wc wc from ⟨e4, e7, q0, q1, q2, Below.refl _ _⟩)
              go_region_held3 (fun w' => w'.cell? ⟨b, o + 4, none⟩ = some (.int .u8 (x4 : Int)) ∧ w'.cell? ⟨b, o + 7, none⟩ = some (.int .u8 (x7 : Int)) ∧ w'.cell? ⟨g, 0, none⟩ = some (.int .i64 (x5 : Int)) ∧ w'.cell? ⟨g, 1, none⟩ = some (.int .i64 (x6 : Int)) ∧ w'.cell? ⟨g, 2, none⟩ = some (.int .i64 (y8 : Int)) ∧ Below wc.heap.size wc w')
                (first | assumption | exact QQ.out | exact six_drew QQ.out | exact six_drew (six_alloc QQ.out _))
                (first | (go_at_call 51; refine (value51 4 (c - 11) _ ((bs.drop 11).take 4) _ B ?_ (H4.out 11 (by omega)).symm (by omega)).mono ?_; (exact six_bs (by assumption) (HV.out 11 4) hB3); rw [HY11.out]; rintro e w' ⟨rfl, rfl⟩))
              all_goals
                go_wp2_with fail
                go_meet
                case rel => exact ⟨_, rfl, Bk.drew (Bk.new wc 59 _), Nat.le_refl _, ((Below.refl _ _).alloc (Nat.le_refl _) _).drew⟩
            case rest =>
              obtain ⟨g', rfl, hg', hgl', hwb⟩ := hcut
              have HR4 := Lib.hid (HR3.out.below hwb hgr3)
              have HL4 := Lib.hid (HL3.out.trans (hwb.mono (Nat.le_of_lt hgr3)))
              have HG4 := Lib.hid hg'
              have hgr4 : w.heap.size < wc.heap.size := by have := hwb.size; omega
              clear hwb e4 e7 q0 q1 q2 HR3 HL3 BR3
              obtain ⟨q0, q1, q2, q3, q4, q5⟩ := Bk.sixl hg'
              clear hg'
              go_wp2_with fail
              refine (right55 x4 x5 x6 y8 y11 x7 _).mono ?_
              rintro e w5 ⟨⟨q, rfl⟩, hb5⟩
              have HR5 := Lib.hid (HR4.out.below hb5 HR4.out.lt)
              have HG5 := HG4.out.below hb5 HG4.out.lt
              have HL5 := Lib.hid (HL4.out.trans (hb5.mono HL4.out.size))
              clear hb5 q0 q1 q2 q3 q4 q5
              obtain ⟨q0, q1, q2, q3, q4, q5⟩ := Bk.sixl HG5
              obtain ⟨p0, p1, p2, p3, p4, p5⟩ := Bk.sixl HR5.out
              obtain ⟨f0, f1, f2, f3, f4, f5⟩ := HR5.out.free6
              clear HG5
              cases q with
              | true =>
                go_upto_region 15 with (fail)
                repeat (first | go_values | go_skip | go_guarded | go_step | go_upon)
                refine bodyPost_ret (v := .tuple #[.agg #[.int .i64 x4, .int .i64 x5, .int .i64 x6, .int .i64 y8, .int .i64 y11, .int .i64 x7], .int .i64 0]) (by simp [results, Try.results37, go_sem, p0, p1, p2, p3, p4, p5]) rfl ⟨_, _, _, _, _, _, 0, rfl, fun _ => h19, below_set6 HL5.out (Nat.le_refl _) _ _ _ _ _ _⟩
              | false =>
                go_upto_region 14 with (fail)
                repeat (first | go_values | go_skip | go_guarded | go_step | go_upon)
                refine bodyPost_ret (v := .tuple #[.agg #[.int .i64 0, .int .i64 0, .int .i64 0, .int .i64 0, .int .i64 0, .int .i64 0], .int .i64 32]) (by simp [results, Try.results37, go_sem, p0, p1, p2, p3, p4, p5]) rfl ⟨0, 0, 0, 0, 0, 0, 32, rfl, fun h => absurd h (by decide), below_set6 HL5.out (Nat.le_refl _) _ _ _ _ _ _⟩
        · have hqd : ((sm : Int) != (vv : Int)) = true := by rw [bne_iff_ne]; exact hq
          clear hq
          obtain ⟨p0, p1, p2, p3, p4, p5⟩ := Bk.sixl HR2.out
          obtain ⟨f0, f1, f2, f3, f4, f5⟩ := HR2.out.free6
          go_upto_region 10 with (fail)
          repeat (first | go_values | go_skip | go_guarded | go_step | go_upon)
          refine bodyPost_ret (v := .tuple #[.agg #[.int .i64 0, .int .i64 0, .int .i64 0, .int .i64 0, .int .i64 0, .int .i64 0], .int .i64 33]) (by simp [results, Try.results37, go_sem, p0, p1, p2, p3, p4, p5]) rfl ⟨0, 0, 0, 0, 0, 0, 33, rfl, fun h => absurd h (by decide), below_set6 HL2.out (Nat.le_refl _) _ _ _ _ _ _⟩
      · have h19' : (n : Int) < 19 := by omega
        obtain ⟨p0, p1, p2, p3, p4, p5⟩ := Bk.sixl HR.out
        obtain ⟨f0, f1, f2, f3, f4, f5⟩ := HR.out.free6
        by_cases h4 : k = 4
        · subst h4
          go_upto_region 8 with (fail)
          repeat (first | go_values | go_skip | go_guarded | go_step | go_upon)
          refine bodyPost_ret (v := .tuple #[.agg #[.int .i64 0, .int .i64 0, .int .i64 0, .int .i64 0, .int .i64 0, .int .i64 0], .int .i64 10]) (by simp [results, Try.results37, go_sem, p0, p1, p2, p3, p4, p5]) rfl ⟨0, 0, 0, 0, 0, 0, 10, rfl, fun h => absurd h (by decide), below_set6 HL.out (Nat.le_refl _) _ _ _ _ _ _⟩
        · have h4' : (k : Int) < 4 := by omega
          obtain rfl : k = n := by omega
          go_upto_region 8 with (fail)
          repeat (first | go_values | go_skip | go_guarded | go_step | go_upon)
          refine bodyPost_ret (v := .tuple #[.agg #[.int .i64 0, .int .i64 0, .int .i64 0, .int .i64 0, .int .i64 0, .int .i64 0], .int .i64 10]) (by simp [results, Try.results37, go_sem, p0, p1, p2, p3, p4, p5]) rfl ⟨0, 0, 0, 0, 0, 0, 10, rfl, fun h => absurd h (by decide), below_set6 HL.out (Nat.le_refl _) _ _ _ _ _ _⟩
end Go.Proofs.Ytfeicdflkpgbnaa
