/-
  tail.Get.
-/
import Derived.Test.YtfeicdflkpgbnaaRi
import Derived.Deep.RegionLaw
namespace Go.Proofs.Ytfeicdflkpgbnaa
open Go.RowKit

/-- What tail.Get answers, whatever it is. -/
def TailT (w : World) (n : Nat) (e : Ending) (w' : World) : Prop :=
  ∃ (L S : Int) (A : Option Addr) (k c m : Nat) (er : Int), e = .returned (.tuple #[.agg #[.int .i64 L, .int .u32 S, .slice A k c], .int .i64 (m : Int), .int .i64 er]) ∧ k ≤ c ∧ k ≤ n ∧ m ≤ n ∧
    (∃ l : List Int, l.length = k ∧ Nums w' w'.heap.size A l) ∧ Below w.heap.size w w'

theorem below_set3 {B : Nat} {w0 w : World} (h : Below B w0 w) {g : Nat} (hg : B ≤ g) (a0 a1 a2 : Value) :
    Below B w0 (((w.setCell ⟨g, 0, none⟩ a0).setCell ⟨g, 1, none⟩ a1).setCell ⟨g, 2, none⟩ a2) :=
  ((h.setCell (p := ⟨g, 0, none⟩) hg _).setCell (p := ⟨g, 1, none⟩) hg _).setCell (p := ⟨g, 2, none⟩) hg _
theorem Bk.free3 {w : World} {g : Nat} {t : TypeId} {cs : Array Value} (h : Bk w g t cs) :
    w.frozen? ⟨g, 0, none⟩ = false ∧ w.frozen? ⟨g, 1, none⟩ = false ∧ w.frozen? ⟨g, 2, none⟩ = false := ⟨h.frozen 0, h.frozen 1, h.frozen 2⟩
theorem TailT.no {w w1 : World} {n : Nat} {e : Ending} {er : Int} (he : e = .returned (.tuple #[.agg #[.int .i64 0, .int .u32 0, .slice none 0 0], .int .i64 0, .int .i64 er])) (hb : Below w.heap.size w w1) (a0 a1 a2 : Value) :
    TailT w n e (((w1.setCell ⟨w.heap.size, 0, none⟩ a0).setCell ⟨w.heap.size, 1, none⟩ a1).setCell ⟨w.heap.size, 2, none⟩ a2) :=
  ⟨0, 0, none, 0, 0, 0, er, he, Nat.le_refl _, Nat.zero_le _, Nat.zero_le _, ⟨[], rfl, Rd.nil⟩, below_set3 hb (Nat.le_refl _) _ _ _⟩

theorem bs_cut {w : World} {B b o : Nat} {bs : List UInt8} (h : Bs w B (some ⟨b, o, none⟩) bs) (k m : Nat) : Bs w B (some ⟨b, o + k, none⟩) ((bs.drop k).take m) :=
  (Bs.cut h (k := k) (A' := some ⟨b, o + k, none⟩) (fun b' o' e _ => by injection e with e; cases e; rfl)).take m

theorem val4 {w : World} {B b o c : Nat} {bs : List UInt8} (k : Nat) (h : Bs w B (some ⟨b, o, none⟩) bs) (hk : k + 4 ≤ bs.length) :
    Calls Try.prog 51 #[.slice (some ⟨b, o + k, none⟩) 4 (c - k)] w fun e w' => e = .returned (.int .u64 (leV ((bs.drop k).take 4) : Nat)) ∧ w = w' :=
  value51 4 (c - k) _ ((bs.drop k).take 4) w B (bs_cut h k 4) (by rw [List.length_take, List.length_drop]; omega) (by decide)

theorem nums_set3 {w : World} {A : Option Addr} {l : List Int} {g : Nat} (h : Nums w w.heap.size A l) (ha : ∀ a, A = some a → a.block ≠ g) (a0 a1 a2 : Value) :
    Nums (((w.setCell ⟨g, 0, none⟩ a0).setCell ⟨g, 1, none⟩ a1).setCell ⟨g, 2, none⟩ a2) (((w.setCell ⟨g, 0, none⟩ a0).setCell ⟨g, 1, none⟩ a1).setCell ⟨g, 2, none⟩ a2).heap.size A l := by
  have := ((Rd.farB h (p := ⟨g, 0, none⟩) ha a0).farB (p := ⟨g, 1, none⟩) ha a1).farB (p := ⟨g, 2, none⟩) ha a2
  exact this.more (by simp [World.setCell])

/-- What its loop holds. -/
def TailRel (w : World) (g : Nat) (L S : Int) (k : Nat) (wr : World) : Prop :=
  ∃ (v : Value) (l : List Int), l.length = k ∧ wr.ownsRow (g + 1) 3 1 v k (l.map (Value.int .i64)) ∧ Bk wr g 63 #[.int .i64 L, .int .u32 S, v] ∧ Bk wr w.heap.size 63 #[.int .i64 0, .int .u32 0, .slice none 0 0] ∧ Below w.heap.size w wr ∧ w.heap.size < g

theorem TailRel.push {w : World} {g : Nat} {L S : Int} {k : Nat} {wr w3 : World} {v v' : Value} {l : List Int} {y : Int} {o : Obj} (hl : l.length = k) (ho : wr.ownsRow (g + 1) 3 1 v k (l.map (Value.int .i64))) (hk : Bk wr g 63 #[.int .i64 L, .int .u32 S, v]) (hz : Bk wr w.heap.size 63 #[.int .i64 0, .int .u32 0, .slice none 0 0]) (hb : Below w.heap.size w wr) (hg : w.heap.size < g)
    (own : w3.ownsRow (g + 1) 3 1 v' (k + 1) (l.map (Value.int .i64) ++ [.int .i64 y])) (gr0 : (wr.alloc o).drew.grownBy w3 v.ownBlock) :
    w3.cell? ⟨g, 2, none⟩ = some v ∧ w3.frozen? ⟨g, 2, none⟩ = false ∧ TailRel w g L S (k + 1) (w3.setCell ⟨g, 2, none⟩ v') := by
  have gr : (wr.alloc o).grownBy w3 v.ownBlock := gr_trans (gr_drew (gr_refl _ _)) gr0
  have hne : ∀ q, q ≤ g → some q ≠ v.ownBlock := fun q hq e => by have := (ho.lt _ e.symm).1; omega
  have K3 : Bk w3 g 63 #[.int .i64 L, .int .u32 S, v] := Bk.grown (hk.alloc o) gr (hne g (Nat.le_refl _))
  have Z3 : Bk w3 w.heap.size 63 #[.int .i64 0, .int .u32 0, .slice none 0 0] := Bk.grown (hz.alloc o) gr (hne _ (Nat.le_of_lt hg))
  refine ⟨K3.cell 2, K3.frozen 2, v', l ++ [y], by simp [hl], ?_, by have := K3.set_ 2 v'; simpa using this, Z3.far (p := ⟨g, 2, none⟩) (by show w.heap.size ≠ g; omega) _, ?_, hg⟩
  · rw [List.map_append]
    exact ownsRow_setCell_below own (by show g < g + 1; omega) _
  · exact ((hb.alloc hb.size o).grown gr (by simp; have := hb.size; omega) (fun q hq => by have := (ho.lt q hq).1; omega)).setCell (p := ⟨g, 2, none⟩) (Nat.le_of_lt hg) _

set_option maxHeartbeats 4000000 in
set_option maxRecDepth 20000 in
theorem tail40 (n c b o B : Nat) (bs : List UInt8) (w : World) (hb : Bs w B (some ⟨b, o, none⟩) bs) (hB : B ≤ w.heap.size) (hn : n = bs.length) (hc : n ≤ c) (hm : n ≤ 65536) :
    Calls Try.prog 40 #[.slice (some ⟨b, o, none⟩) n c] w (TailT w n) := by
  have HB := Lib.hid hb
  have HN := Lib.hid hn
  clear hn
  have K0 := Lib.hid (Bk.new w 63 #[.int .i64 0, .int .u32 0, .slice none 0 0])
  have L0 := Lib.hid ((Below.refl _ w).alloc (Nat.le_refl _) (.cells #[.int .i64 0, .int .u32 0, .slice none 0 0] 63))
  have A0 := Lib.hid (hb.alloc hB (.cells #[.int .i64 0, .int .u32 0, .slice none 0 0] 63))
  by_cases h2 : 2 ≤ n
  · obtain ⟨b', o', e, hlt, hc0⟩ := Bs.mem hb (k := 0) (by rw [← HN.out]; omega)
    injection e with e
    injection e with e1 e2 e3
    subst e1 e2
    have c0 := hc0 0 (by rw [← HN.out]; omega)
    rw [Nat.add_zero] at c0
    have c1 := hc0 1 (by rw [← HN.out]; omega)
    clear hc0 hb
    generalize ((bs[0]'(by rw [← HN.out]; omega)).toNat : Int) = q0 at *
    generalize ((bs[1]'(by rw [← HN.out]; omega)).toNat : Int) = q1 at *
    go_enter Try.func40, Try.ntmps40
    go_upto_region 1 with (fail)
    obtain ⟨p0, p1, p2⟩ := Bk.three K0.out
    obtain ⟨f0, f1, f2⟩ := Bk.free3 K0.out
    have hs0 : w.heap.size < (w.alloc (.cells #[.int .i64 0, .int .u32 0, .slice none 0 0] 63)).heap.size := K0.out.lt
    have d0 : (w.alloc (.cells #[.int .i64 0, .int .u32 0, .slice none 0 0] 63)).cell? ⟨b, o, none⟩ = some (.int .u8 q0) := cell_alloc c0 _
    have d1 : (w.alloc (.cells #[.int .i64 0, .int .u32 0, .slice none 0 0] 63)).cell? ⟨b, o + 1, none⟩ = some (.int .u8 q1) := cell_alloc c1 _
    generalize w.alloc (.cells #[.int .i64 0, .int .u32 0, .slice none 0 0] 63) = w0 at *
    clear c0 c1
    by_cases hq : q0 = 69 ∧ q1 = 78
    · obtain ⟨rfl, rfl⟩ := hq
      by_cases h14 : 14 ≤ n
      · have h14' : ¬ (n : Int) < 14 := by omega
        have hv10 := leV_lt4 (bs := (bs.drop 10).take 4) (by rw [List.length_take]; omega)
        have H4 := Lib.hid (fun k (hk : k + 4 ≤ n) => show ((bs.drop k).take 4).length = 4 by rw [List.length_take, List.length_drop, ← HN.out]; omega)
        have i14 : (14 : Int) ≤ (c : Int) := by omega
        have n10 : ¬ c = 10 := by omega
        have HV := Lib.hid (fun k m => show Bs w0 B (some ⟨b, o + k, none⟩) ((bs.drop k).take m) from (Bs.cut A0.out (k := k) (A' := some ⟨b, o + k, none⟩) (fun b' o' e _ => by injection e with e; cases e; rfl)).take m)
        go_wp2_with fail
        refine (value51 4 (c - 10) _ ((bs.drop 10).take 4) w0 B (HV.out 10 4) (H4.out 10 (by omega)).symm (by omega)).mono ?_
        rintro e w1 ⟨rfl, rfl⟩
        generalize leV ((bs.drop 10).take 4) = cnt at *
        have kc : IntKind.i64.wrap (cnt : Int) = (cnt : Int) := IntWalk.i64_in _ ⟨by omega, by omega⟩
        by_cases hbig : 16777216 < cnt
        · have hbig' : (16777216 : Int) < (cnt : Int) := by omega
          go_upto_region 7 with (fail)
          repeat (first | go_values | go_skip | go_guarded | go_step | go_upon)
          refine bodyPost_ret (v := .tuple #[.agg #[.int .i64 0, .int .u32 0, .slice none 0 0], .int .i64 0, .int .i64 60]) (by simp [results, Try.results40, go_sem, p0, p1, p2]) rfl (TailT.no rfl L0.out _ _ _)
        · have hbig' : ¬ (16777216 : Int) < (cnt : Int) := by omega
          have k1 : IntKind.i64.wrap (5 * (cnt : Int)) = 5 * (cnt : Int) := IntWalk.i64_in _ ⟨by omega, by omega⟩
          have k2 : IntKind.i64.wrap (14 + 5 * (cnt : Int)) = 14 + 5 * (cnt : Int) := IntWalk.i64_in _ ⟨by omega, by omega⟩
          have k3 : IntKind.i64.wrap (14 + 5 * (cnt : Int) + 4) = 14 + 5 * (cnt : Int) + 4 := IntWalk.i64_in _ ⟨by omega, by omega⟩
          by_cases hfit : 14 + 5 * cnt + 4 ≤ n
          · have hfit' : ¬ (n : Int) < 14 + 5 * (cnt : Int) + 4 := by omega
            have hlc : cnt ≤ n := by omega
            have HPC := Lib.hid (show 14 + 5 * cnt + 4 ≤ n from hfit)
            go_wp2_with fail
            have ep : 14 + 5 * (cnt : Int) = ((14 + 5 * cnt : Nat) : Int) := by omega
            simp only [ep] at *
            clear k1 k2 ep kc
            generalize hpp : 14 + 5 * cnt = p at *
            obtain ⟨q, hqp⟩ : ∃ q, q = p + 4 := ⟨_, rfl⟩
            have k3' : IntKind.i64.wrap ((p : Int) + 4) = (q : Int) := by rw [k3]; omega
            have eqp : q - p = 4 := by omega
            have b1 : (p : Int) ≤ (c : Int) := by omega
            have b2 : (q : Int) ≤ (c : Int) := by omega
            have b3 : (p : Int) ≤ (q : Int) := by omega
            have ncp : ¬ c = p := by omega
            have HQP := Lib.hid hqp
            have HPP := Lib.hid hpp
            have H15 := Lib.hid (show (bs.take p).length = p by rw [List.length_take, ← HN.out]; omega)
            have HT := Lib.hid (Bs.take A0.out p)
            have wp := leV_lt4 (bs := (bs.drop p).take 4) (by rw [List.length_take]; omega)
            have ws := sumN_lt (bs.take p)
            clear k3 hqp hpp
            go_quiet (first | (go_at_call 30; exact quiet_same (sum30 p c _ (bs.take p) _ B (HT.out.drewN _) H15.out.symm (by omega))) | (go_at_call 51; exact quiet_same (value51 4 (c - p) _ ((bs.drop p).take 4) _ B ((HV.out p 4).drewN _) (H4.out p hfit).symm (by decide))))
            generalize sumN (bs.take p) = sm at *
            generalize leV ((bs.drop p).take 4) = vv at *
            have HR2 := Lib.hid (K0.out.drewN nq)
            have HL2 := Lib.hid (below_drewN L0.out nq)
            have BR2 := Lib.hid (A0.out.drewN nq)
            have hgr2 : w.heap.size < (w0.drewN nq).heap.size := hs0
            generalize w0.drewN nq = w2 at *
            clear p0 p1 p2 f0 f1 f2 d0 d1 HT HV H15 K0 L0 A0 hs0 k3'
            by_cases hq : (sm : Int) = (vv : Int)
            · have hqd : ((sm : Int) != (vv : Int)) = false := by rw [bne_eq_false_iff_eq]; exact hq
              clear hq
              have HV := Lib.hid (fun k m => show Bs w2 B (some ⟨b, o + k, none⟩) ((bs.drop k).take m) from (Bs.cut BR2.out (k := k) (A' := some ⟨b, o + k, none⟩) (fun b' o' e _ => by injection e with e; cases e; rfl)).take m)
              have w8 := leV_lt4 (bs := (bs.drop 2).take 4) (by rw [List.length_take]; omega)
              have w11 := leV_lt4 (bs := (bs.drop 6).take 4) (by rw [List.length_take]; omega)
              have hB2 : B ≤ w2.heap.size := by omega
              have hbl : 14 ≤ bs.length := by rw [← HN.out]; exact h14
              have i6 : (6 : Int) ≤ (c : Int) := by omega
              have i10 : (10 : Int) ≤ (c : Int) := by omega
              have n2 : ¬ c = 2 := by omega
              have n6 : ¬ c = 6 := by omega
              have m2 : IntKind.i64.wrap ((leV ((bs.drop 2).take 4) : Nat) : Int) = ((leV ((bs.drop 2).take 4) : Nat) : Int) := IntWalk.i64_in _ ⟨by omega, by omega⟩
              have m6 : IntKind.u32.wrap ((leV ((bs.drop 6).take 4) : Nat) : Int) = ((leV ((bs.drop 6).take 4) : Nat) : Int) := IntWalk.u32_in _ ⟨by omega, by omega⟩
              go_upto_region 13 with (fail)
              go_cut [7] (fun s7 wx => ∃ g : Nat, s7 = .pointer (some ⟨g, 0, none⟩) ∧ Bk wx g 63 #[.int .i64 ((leV ((bs.drop 2).take 4) : Nat) : Int), .int .u32 ((leV ((bs.drop 6).take 4) : Nat) : Int), .slice none 0 0] ∧ w2.heap.size ≤ g ∧ Below w2.heap.size w2 wx)
              case first =>
                go_region_held3 (fun w' => Bs w' B (some ⟨b, o, none⟩) bs)
                  (first | assumption | exact BR2.out | exact BR2.out.drew | exact (BR2.out.alloc hB2 _).drew)
                  (first | (go_at_call 51; refine (val4 (c := c) (bs := bs) (b := b) (o := o) (B := B) _ ?hb ?hk).mono ?_; (case hb => assumption); (case hk => omega); rintro e w' ⟨rfl, rfl⟩))
                all_goals
                  go_wp2_with fail
                  go_meet
                  case rel => exact ⟨_, rfl, Bk.drew (Bk.new w2 63 _), Nat.le_refl _, ((Below.refl _ _).alloc (Nat.le_refl _) _).drew⟩
              case rest =>
                generalize leV ((bs.drop 2).take 4) = y2 at *
                generalize leV ((bs.drop 6).take 4) = y6 at *
                obtain ⟨g, rfl, hg, hgl, hwb⟩ := hcut
                have HREL := Lib.hid (show TailRel w g y2 y6 0 wc from ⟨_, [], rfl, World.ownsRow_nil _ _ _ _, hg, HR2.out.below hwb hgr2, HL2.out.trans (hwb.mono (Nat.le_of_lt hgr2)), by omega⟩)
                clear hg hwb HR2 HL2 BR2 HV
                go_wp2_with fail
                go_loopw [8] (fun i wr => ∃ k : Nat, k ≤ cnt ∧ i = .int .i64 k ∧ TailRel w g y2 y6 k wr) (fun i _ => cnt - (intOf i).toNat)
                case atStart => exact ⟨0, Nat.zero_le _, rfl, HREL.out⟩
                case round =>
                  obtain ⟨k, hk, rfl, v, l, hl, ho, hbk, hzk, hbel, hwg⟩ := hrel
                  have HL := Lib.hid hl
                  have HO := Lib.hid ho
                  have HK := Lib.hid hbk
                  have HZ := Lib.hid hzk
                  have HBL := Lib.hid hbel
                  obtain ⟨A5, c5, rfl, hc5, hr5, _⟩ := own_slice ho
                  have HR5 := Lib.hid hr5
                  obtain ⟨k0, k1, k2⟩ := Bk.three hbk
                  have BR := Lib.hid (HB.out.below (hbel.mono hB))
                  have hszr := hbel.size
                  have hgr := hbk.lt
                  clear hl ho hbk hzk hbel hr5 HREL
                  by_cases hlt : k < cnt
                  · have hlt' : (k : Int) < (cnt : Int) := by omega
                    have HPQ := HPP.out
                    obtain ⟨s0, hs0⟩ : ∃ s0 : Nat, s0 = 14 + 5 * k := ⟨_, rfl⟩
                    obtain ⟨s1, hs1⟩ : ∃ s1 : Nat, s1 = s0 + 5 := ⟨_, rfl⟩
                    have x0 : IntKind.i64.wrap (5 * (k : Int)) = 5 * (k : Int) := IntWalk.i64_in _ ⟨by omega, by omega⟩
                    have x1 : IntKind.i64.wrap (14 + 5 * (k : Int)) = (s0 : Int) := (IntWalk.i64_in _ ⟨by omega, by omega⟩).trans (by omega)
                    have x2 : IntKind.i64.wrap (19 + 5 * (k : Int)) = (s1 : Int) := (IntWalk.i64_in _ ⟨by omega, by omega⟩).trans (by omega)
                    have x3 : s1 - s0 = 5 := by omega
                    have x4 : (s0 : Int) ≤ (c : Int) := by omega
                    have x5 : (s1 : Int) ≤ (c : Int) := by omega
                    have x6 : (s0 : Int) ≤ (s1 : Int) := by omega
                    have x7 : ¬ c = s0 := by omega
                    have H5 := Lib.hid (show ((bs.drop s0).take 5).length = 5 by rw [List.length_take, List.length_drop, ← HN.out]; omega)
                    have HV := Lib.hid (show Bs wr B (some ⟨b, o + s0, none⟩) ((bs.drop s0).take 5) from (Bs.cut BR.out (k := s0) (A' := some ⟨b, o + s0, none⟩) (fun b' o' e _ => by injection e with e; cases e; rfl)).take 5)
                    have w5 := leV_lt5 (bs := (bs.drop s0).take 5) (by rw [List.length_take]; omega)
                    have x8 : IntKind.i64.wrap ((leV ((bs.drop s0).take 5) : Nat) : Int) = ((leV ((bs.drop s0).take 5) : Nat) : Int) := IntWalk.i64_in _ ⟨by omega, by omega⟩
                    have H9 := Lib.hid (show (5 : Nat) ≤ 5 from Nat.le_refl _)
                    have HVd := Lib.hid HV.out.drew
                    have H5s := Lib.hid H5.out.symm
                    have HOa := Lib.hid (HO.out.alloc (.cells #[.int .i64 ((leV ((bs.drop s0).take 5) : Nat) : Int)] 3))
                    have HRa := Lib.hid (Rd.fresh wr #[.int .i64 ((leV ((bs.drop s0).take 5) : Nat) : Int)] 3 (Nat.lt_succ_self wr.heap.size))
                    have HS := Lib.hid (show k + 1 ≤ 16777216 by omega)
                    have HZa := Lib.hid (show g + 1 ≤ (wr.alloc (.cells #[.int .i64 ((leV ((bs.drop s0).take 5) : Nat) : Int)] 3)).heap.size by simp; omega)
                    have H1 := Lib.hid (show ∀ u ∈ [Value.int .i64 ((leV ((bs.drop s0).take 5) : Nat) : Int)], u.oneCell' = true by intro u hu; rw [List.mem_singleton] at hu; subst hu; rfl)
                    have HP := Lib.hid (show ∀ v' w3, w3.ownsRow (g + 1) 3 1 v' (k + 1) (l.map (Value.int .i64) ++ [.int .i64 ((leV ((bs.drop s0).take 5) : Nat) : Int)]) → (wr.alloc (.cells #[.int .i64 ((leV ((bs.drop s0).take 5) : Nat) : Int)] 3)).drew.grownBy w3 (Value.slice A5 k c5).ownBlock →
                      ∃ A' c', v' = .slice A' (k + 1) c' ∧ w3.cell? ⟨g, 2, none⟩ = some (.slice A5 k c5) ∧ w3.frozen? ⟨g, 2, none⟩ = false ∧ TailRel w g y2 y6 (k + 1) (w3.setCell ⟨g, 2, none⟩ v') from fun v' w3 own gr => by
                        obtain ⟨A', c', hv, _⟩ := own_slice own
                        obtain ⟨a1, a2, a3⟩ := TailRel.push HL.out HO.out HK.out HZ.out HBL.out hwg own gr
                        exact ⟨A', c', hv, a1, a2, a3⟩)
                    clear hs0 hs1 HPQ w5
                    go_upto_region 17 with (fail)
                    go_region_law (first | (go_simp; go_at_call 51; refine (value51 5 (c - s0) (some ⟨b, o + s0, none⟩) ((bs.drop s0).take 5) _ B HVd.out H5s.out H9.out).mono ?_; rintro e w' ⟨rfl, rfl⟩) | (refine step_app _ row37 rfl (.tmp 78) (.tmp 89) rfl (g + 1) (.slice A5 k c5) k (l.map (Value.int .i64)) rfl HOa.out (wr.heap.size + 1) (some ⟨wr.heap.size, 0, none⟩) 1 1 [.int .i64 ((leV ((bs.drop s0).take 5) : Nat) : Int)] rfl HRa.out rfl H1.out HS.out HZa.out ?_; intro v' w3 own gr hX; obtain ⟨A', c', rfl, hc3, hf3, Q3⟩ := HP.out v' w3 own gr; have Q4 := Lib.hid Q3; clear own gr hX Q3))
                    all_goals
                      go_wp2_with fail
                      go_roundw
                      case rel => exact ⟨k + 1, by omega, by go_num, Q4.out⟩
                      case measure => simp [intOf]; omega
                  · obtain rfl : k = cnt := by omega
                    have kp : IntKind.i64.wrap ((p : Int) + 4) = (q : Int) := (IntWalk.i64_in _ ⟨by omega, by omega⟩).trans (by have := HQP.out; omega)
                    have hqn : q ≤ n := by have := HQP.out; omega
                    go_wp2_with fail
                    refine (right60 y2 y6 k c5 A5 l wr.heap.size wr HR5.out (Nat.le_refl _) HL.out.symm hc5 (by omega)).mono ?_
                    rintro e w5 ⟨⟨qq, rfl⟩, hb5⟩
                    have HZ5 := HZ.out.below hb5 HZ.out.lt
                    have HK5 := HK.out.below hb5 HK.out.lt
                    have HB5 := Lib.hid (HBL.out.trans (hb5.mono hszr))
                    have HN5 := Lib.hid (show Nums w5 w5.heap.size A5 l from Rd.more (Rd.below HR5.out hb5) hb5.size)
                    have HO5 := Lib.hid (show ∀ a, A5 = some a → a.block ≠ w.heap.size from fun a e => by have := (HO.out.lt a.block (by rw [e]; rfl)).1; omega)
                    have hgw5 := HK5.lt
                    clear hb5 k0 k1 k2
                    obtain ⟨k0, k1, k2⟩ := Bk.three HK5
                    obtain ⟨p0, p1, p2⟩ := Bk.three HZ5
                    obtain ⟨f0, f1, f2⟩ := Bk.free3 HZ5
                    clear HK5 HZ5
                    cases qq with
                    | true =>
                      go_upto_region 20 with (fail)
                      repeat (first | go_values | go_skip | go_guarded | go_step | go_upon)
                      refine bodyPost_ret (v := .tuple #[.agg #[.int .i64 y2, .int .u32 y6, .slice A5 k c5], .int .i64 (q : Int), .int .i64 0]) (by simp [results, Try.results40, go_sem, p0, p1, p2]) rfl ⟨y2, y6, A5, k, c5, q, 0, rfl, hc5, hlc, hqn, ⟨l, HL.out, nums_set3 HN5.out HO5.out _ _ _⟩, below_set3 HB5.out (Nat.le_refl _) _ _ _⟩
                    | false =>
                      go_upto_region 19 with (fail)
                      repeat (first | go_values | go_skip | go_guarded | go_step | go_upon)
                      refine bodyPost_ret (v := .tuple #[.agg #[.int .i64 0, .int .u32 0, .slice none 0 0], .int .i64 0, .int .i64 60]) (by simp [results, Try.results40, go_sem, p0, p1, p2]) rfl (TailT.no rfl HB5.out _ _ _)
            · have hqd : ((sm : Int) != (vv : Int)) = true := by rw [bne_iff_ne]; exact hq
              clear hq
              obtain ⟨p0, p1, p2⟩ := Bk.three HR2.out
              obtain ⟨f0, f1, f2⟩ := Bk.free3 HR2.out
              go_upto_region 12 with (fail)
              repeat (first | go_values | go_skip | go_guarded | go_step | go_upon)
              refine bodyPost_ret (v := .tuple #[.agg #[.int .i64 0, .int .u32 0, .slice none 0 0], .int .i64 0, .int .i64 33]) (by simp [results, Try.results40, go_sem, p0, p1, p2]) rfl (TailT.no rfl HL2.out _ _ _)
          · have hfit' : (n : Int) < 14 + 5 * (cnt : Int) + 4 := by omega
            go_upto_region 10 with (fail)
            repeat (first | go_values | go_skip | go_guarded | go_step | go_upon)
            refine bodyPost_ret (v := .tuple #[.agg #[.int .i64 0, .int .u32 0, .slice none 0 0], .int .i64 0, .int .i64 10]) (by simp [results, Try.results40, go_sem, p0, p1, p2]) rfl (TailT.no rfl L0.out _ _ _)
      · have h14' : (n : Int) < 14 := by omega
        go_upto_region 4 with (fail)
        repeat (first | go_values | go_skip | go_guarded | go_step | go_upon)
        refine bodyPost_ret (v := .tuple #[.agg #[.int .i64 0, .int .u32 0, .slice none 0 0], .int .i64 0, .int .i64 10]) (by simp [results, Try.results40, go_sem, p0, p1, p2]) rfl (TailT.no rfl L0.out _ _ _)
    · have hq1 : (q0 != 69) = true ∨ (q0 = 69 ∧ (q1 != 78) = true) := by
        by_cases h : q0 = 69
        · exact .inr ⟨h, by rw [bne_iff_ne]; exact fun h2 => hq ⟨h, h2⟩⟩
        · exact .inl (by rw [bne_iff_ne]; exact h)
      clear hq
      rcases hq1 with hq1 | ⟨rfl, hq1⟩
      · go_upto_region 2 with (fail)
        repeat (first | go_values | go_skip | go_guarded | go_step | go_upon)
        refine bodyPost_ret (v := .tuple #[.agg #[.int .i64 0, .int .u32 0, .slice none 0 0], .int .i64 0, .int .i64 31]) (by simp [results, Try.results40, go_sem, p0, p1, p2]) rfl (TailT.no rfl L0.out _ _ _)
      · go_upto_region 2 with (fail)
        repeat (first | go_values | go_skip | go_guarded | go_step | go_upon)
        refine bodyPost_ret (v := .tuple #[.agg #[.int .i64 0, .int .u32 0, .slice none 0 0], .int .i64 0, .int .i64 31]) (by simp [results, Try.results40, go_sem, p0, p1, p2]) rfl (TailT.no rfl L0.out _ _ _)
  · go_enter Try.func40, Try.ntmps40
    go_upto_region 1 with (fail)
    obtain ⟨p0, p1, p2⟩ := Bk.three K0.out
    obtain ⟨f0, f1, f2⟩ := Bk.free3 K0.out
    have hs0 : w.heap.size < (w.alloc (.cells #[.int .i64 0, .int .u32 0, .slice none 0 0] 63)).heap.size := K0.out.lt
    generalize w.alloc (.cells #[.int .i64 0, .int .u32 0, .slice none 0 0] 63) = w0 at *
    rcases (show n = 0 ∨ n = 1 by omega) with rfl | rfl
    · clear hb
      go_upto_region 4 with (fail)
      repeat (first | go_values | go_skip | go_guarded | go_step | go_upon)
      refine bodyPost_ret (v := .tuple #[.agg #[.int .i64 0, .int .u32 0, .slice none 0 0], .int .i64 0, .int .i64 10]) (by simp [results, Try.results40, go_sem, p0, p1, p2]) rfl (TailT.no rfl L0.out _ _ _)
    · obtain ⟨b', o', e, hlt, hc0⟩ := Bs.mem A0.out (k := 0) (by rw [← HN.out]; omega)
      injection e with e
      injection e with e1 e2 e3
      subst e1 e2
      have c0 := hc0 0 (by rw [← HN.out]; omega)
      rw [Nat.add_zero] at c0
      clear hc0 hb
      generalize ((bs[0]'(by rw [← HN.out]; omega)).toNat : Int) = q0 at *
      by_cases h0 : q0 = 69
      · subst h0
        go_upto_region 4 with (fail)
        repeat (first | go_values | go_skip | go_guarded | go_step | go_upon)
        refine bodyPost_ret (v := .tuple #[.agg #[.int .i64 0, .int .u32 0, .slice none 0 0], .int .i64 0, .int .i64 10]) (by simp [results, Try.results40, go_sem, p0, p1, p2]) rfl (TailT.no rfl L0.out _ _ _)
      · have hq1 : (q0 != 69) = true := by rw [bne_iff_ne]; exact h0
        clear h0
        go_upto_region 2 with (fail)
        repeat (first | go_values | go_skip | go_guarded | go_step | go_upon)
        refine bodyPost_ret (v := .tuple #[.agg #[.int .i64 0, .int .u32 0, .slice none 0 0], .int .i64 0, .int .i64 31]) (by simp [results, Try.results40, go_sem, p0, p1, p2]) rfl (TailT.no rfl L0.out _ _ _)
end Go.Proofs.Ytfeicdflkpgbnaa
