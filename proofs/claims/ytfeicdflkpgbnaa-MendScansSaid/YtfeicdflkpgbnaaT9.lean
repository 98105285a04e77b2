/-
  Proved: head.take reads the fields of a head out of 32 bytes. Conditions: those that each theorem lists ahead of its colon, and no others.
-/
import Derived.Test.YtfeicdflkpgbnaaT8
import Derived.Deep.RegionHeld3
import Derived.Deep.RegionWith
namespace Go.Proofs.Ytfeicdflkpgbnaa
open Go.RowKit

/-- The six numbers of a head, k of them taken. -/
def sixN (bs : List UInt8) (k : Nat) : Array Value := ((List.range 6).map fun j => Value.int .i64 (if j < k then ((at4 bs (4 + 4 * j) : Nat) : Int) else 0)).toArray
theorem sixN_get {bs : List UInt8} {k j : Nat} (hj : j < 6) : (sixN bs k)[j]? = some (.int .i64 (if j < k then ((at4 bs (4 + 4 * j) : Nat) : Int) else 0)) := by
  unfold sixN; simp [hj]
theorem sixN_size (bs : List UInt8) (k : Nat) : (sixN bs k).size = 6 := by simp [sixN]
theorem sixN_next {bs : List UInt8} {k : Nat} (hk : k < 6) : (sixN bs k).setIfInBounds k (.int .i64 ((at4 bs (4 + 4 * k) : Nat) : Int)) = sixN bs (k + 1) := by
  apply Array.ext_getElem?
  intro i
  rw [Array.getElem?_setIfInBounds, sixN_size]
  by_cases hi : i < 6
  · rw [sixN_get hi, sixN_get hi]
    by_cases hki : k = i
    · subst hki; simp [hk]
    · rw [if_neg hki]
      by_cases h1 : i < k
      · rw [if_pos h1, if_pos (by omega)]
      · rw [if_neg h1, if_neg (by omega)]
  · rw [if_neg (by omega), Array.getElem?_eq_none (by rw [sixN_size]; omega), Array.getElem?_eq_none (by rw [sixN_size]; omega)]

theorem leV_one (bs : List UInt8) {k : Nat} (hk : k < bs.length) : leV ((bs.drop k).take 1) = byN bs k := by
  rw [List.drop_eq_getElem_cons hk, byN_get hk]
  rfl
theorem Bk.gr {w w' : World} {g g' : Nat} {t : TypeId} {cs : Array Value} (h : Bk w g t cs) (k : w.grownBy w' (some g')) (hne : g ≠ g') : Bk w' g t cs := h.grown k (by simpa using hne)

/-- A head of noughts, as cells. -/
def noHd : Array Value := #[.int .i64 0, .int .i64 0, .int .i64 0, .int .i64 0, .int .i64 0, .bool false, .int .u32 0, .int .i64 0]

theorem Bk.eight {w : World} {g : Nat} {t : TypeId} {a0 a1 a2 a3 a4 a5 a6 a7 : Value} (h : Bk w g t #[a0, a1, a2, a3, a4, a5, a6, a7]) :
    w.cell? ⟨g, 0, none⟩ = some a0 ∧ w.cell? ⟨g, 1, none⟩ = some a1 ∧ w.cell? ⟨g, 2, none⟩ = some a2 ∧ w.cell? ⟨g, 3, none⟩ = some a3 ∧ w.cell? ⟨g, 4, none⟩ = some a4 ∧ w.cell? ⟨g, 5, none⟩ = some a5 ∧
    w.cell? ⟨g, 6, none⟩ = some a6 ∧ w.cell? ⟨g, 7, none⟩ = some a7 := ⟨h.cell 0, h.cell 1, h.cell 2, h.cell 3, h.cell 4, h.cell 5, h.cell 6, h.cell 7⟩
theorem Bk.free8 {w : World} {g : Nat} {t : TypeId} {cs : Array Value} (h : Bk w g t cs) :
    w.frozen? ⟨g, 0, none⟩ = false ∧ w.frozen? ⟨g, 1, none⟩ = false ∧ w.frozen? ⟨g, 2, none⟩ = false ∧ w.frozen? ⟨g, 3, none⟩ = false ∧ w.frozen? ⟨g, 4, none⟩ = false ∧ w.frozen? ⟨g, 5, none⟩ = false ∧
    w.frozen? ⟨g, 6, none⟩ = false ∧ w.frozen? ⟨g, 7, none⟩ = false := ⟨h.frozen 0, h.frozen 1, h.frozen 2, h.frozen 3, h.frozen 4, h.frozen 5, h.frozen 6, h.frozen 7⟩

/-- A struct of eight cells stored into block g. -/
def set8 (w : World) (g : Nat) (a0 a1 a2 a3 a4 a5 a6 a7 : Value) : World :=
  (((((((w.setCell ⟨g, 0, none⟩ a0).setCell ⟨g, 1, none⟩ a1).setCell ⟨g, 2, none⟩ a2).setCell ⟨g, 3, none⟩ a3).setCell ⟨g, 4, none⟩ a4).setCell ⟨g, 5, none⟩ a5).setCell ⟨g, 6, none⟩ a6).setCell ⟨g, 7, none⟩ a7
theorem below_set8 {B g : Nat} {a w : World} {a0 a1 a2 a3 a4 a5 a6 a7 : Value} (h : Below B a w) (hg : B ≤ g) : Below B a (set8 w g a0 a1 a2 a3 a4 a5 a6 a7) :=
  (((((((h.setCell (p := ⟨g, 0, none⟩) hg a0).setCell (p := ⟨g, 1, none⟩) hg a1).setCell (p := ⟨g, 2, none⟩) hg a2).setCell (p := ⟨g, 3, none⟩) hg a3).setCell (p := ⟨g, 4, none⟩) hg a4).setCell (p := ⟨g, 5, none⟩) hg a5).setCell (p := ⟨g, 6, none⟩) hg a6).setCell (p := ⟨g, 7, none⟩) hg a7

theorem hd_end {bs : List UInt8} {y2 y3 x0 x1 x2 x3 x4 x5 : Nat} (h : hdOf bs = ⟨byN bs 2, x0, x1, x2, x3, byN bs 3 == 1, x4, x5⟩) (hv : byN bs 2 = y2 ∧ byN bs 3 = y3) :
    Ending.returned (.tuple #[.agg (hdOf bs).cells.toArray, .bool (decide (byN bs 3 ≤ 1) && rightB (hdOf bs))]) =
      Ending.returned (.tuple #[.agg #[.int .i64 y2, .int .i64 x0, .int .i64 x1, .int .i64 x2, .int .i64 x3, .bool ((y3 : Int) == 1), .int .u32 x4, .int .i64 x5], .bool (if y3 ≤ 1 then rightB ⟨y2, x0, x1, x2, x3, (y3 : Int) == 1, x4, x5⟩ else false)]) := by
  obtain ⟨rfl, rfl⟩ := hv
  have e : ((byN bs 3 : Int) == 1) = (byN bs 3 == 1) := by
    rw [Bool.eq_iff_iff]; simp; omega
  rw [h, e]
  unfold Hd.cells
  by_cases hle : byN bs 3 ≤ 1 <;> simp [hle]

/-- What is true after k of the six numbers. -/
def SixRel (w : World) (g ga : Nat) (bs : List UInt8) (k : Nat) (wr : World) : Prop :=
  Tk wr g bs (4 + 4 * k) ∧ Bk wr ga 142 (sixN bs k) ∧ Bk wr w.heap.size 40 noHd ∧ Below w.heap.size w wr
theorem six_start {w w4 : World} {g : Nat} {bs : List UInt8} {cs : Array Value} (h0 : cs = sixN bs 0) (h1 : Tk w4 g bs 4) (h2 : Bk w4 w.heap.size 40 noHd) (h3 : Below w.heap.size w w4) : SixRel w g w4.heap.size bs 0 (w4.alloc (.cells cs 142)) := by
  subst h0
  exact ⟨h1.alloc _, Bk.new _ _ _, h2.alloc _, h3.alloc h3.size _⟩
theorem six_next {w wr w' : World} {g ga : Nat} {bs : List UInt8} {k : Nat} (h : SixRel w g ga bs k wr) (hk : k < 6) (hg : w.heap.size < g) (hga : g < ga) (h1 : Tk w' g bs (4 + 4 * k + 4)) (h2 : wr.grownBy w' (some g)) :
    SixRel w g ga bs (k + 1) (w'.setCell ⟨ga, k, none⟩ (.int .i64 ((at4 bs (4 + 4 * k) : Nat) : Int))) ∧ w'.cell? ⟨ga, k, none⟩ = some (.int .i64 0) ∧ w'.frozen? ⟨ga, k, none⟩ = false := by
  obtain ⟨a1, a2, a3, a4⟩ := h
  have b2 := a2.gr h2 (by omega)
  have b3 := a3.gr h2 (by omega)
  have b4 := below_gr a4 h2 (by omega) a4.size
  refine ⟨⟨?_, ?_, b3.far (by show _ ≠ ga; omega) _, b4.setCell (by show _ ≤ ga; omega) _⟩, ?_, b2.frozen k⟩
  · exact h1.far hga _
  · rw [← sixN_next hk]; exact b2.set_ k _
  · rw [b2.cell k, sixN_get hk, if_neg (by omega)]

theorem six_end {w wr : World} {g ga : Nat} {bs : List UInt8} (h : SixRel w g ga bs 6 wr) :
    wr.cell? ⟨ga, 0, none⟩ = some (.int .i64 ((at4 bs 4 : Nat) : Int)) ∧ wr.cell? ⟨ga, 1, none⟩ = some (.int .i64 ((at4 bs 8 : Nat) : Int)) ∧ wr.cell? ⟨ga, 2, none⟩ = some (.int .i64 ((at4 bs 12 : Nat) : Int)) ∧
    wr.cell? ⟨ga, 3, none⟩ = some (.int .i64 ((at4 bs 16 : Nat) : Int)) ∧ wr.cell? ⟨ga, 4, none⟩ = some (.int .i64 ((at4 bs 20 : Nat) : Int)) ∧ wr.cell? ⟨ga, 5, none⟩ = some (.int .i64 ((at4 bs 24 : Nat) : Int)) := by
  have a2 := h.2.1
  have g0 := a2.cell 0
  have g1 := a2.cell 1
  have g2 := a2.cell 2
  have g3 := a2.cell 3
  have g4 := a2.cell 4
  have g5 := a2.cell 5
  rw [sixN_get (by decide), if_pos (by decide)] at g0 g1 g2 g3 g4 g5
  exact ⟨g0, g1, g2, g3, g4, g5⟩

set_option maxHeartbeats 1000000 in
set_option maxRecDepth 20000 in
theorem take62 (n c : Nat) (A : Option Addr) (bs : List UInt8) (w : World) (B : Nat) (hb : Bs w B A bs) (hB : B ≤ w.heap.size) (hn : n = bs.length) (h32 : 32 ≤ n) (hm : n ≤ 65536) :
    Calls Try.prog 62 #[.slice A n c] w fun e w' => e = .returned (.tuple #[.agg (hdOf bs).cells.toArray, .bool (decide (byN bs 3 ≤ 1) && rightB (hdOf bs))]) ∧ Below w.heap.size w w' := by
  subst hn
  go_enter Try.func62, Try.ntmps62
  go_wp2_with fail
  refine (take46 _ c A bs _ B (hb.alloc hB _) (by simp; omega) rfl hm).mono ?_
  rintro e w1 ⟨g, rfl, hg1, hk1, hbl1⟩
  go_wp2_with fail
  have hr1 : Bk w1 w.heap.size 40 noHd := (Bk.new w 40 noHd).below hbl1 (by simp)
  have hw1 : Below w.heap.size w w1 := ((Below.refl _ w).alloc (Nat.le_refl _) _).trans (hbl1.mono (by simp))
  simp only [World.size_alloc] at hg1
  clear hbl1
  have hz1 := hw1.size
  have HR1 := Lib.hid hr1
  have HW1 := Lib.hid hw1
  clear hr1 hw1
  refine (raw48 g 2 0 bs _ hk1 (by omega) hm).mono ?_
  rintro e w2 ⟨A2, c2, rfl, _, _, hk2, hgr2, _⟩
  have HR2 := Lib.hid (HR1.out.gr hgr2 (by omega))
  have HW2 := Lib.hid (below_gr HW1.out hgr2 (by omega) (by omega))
  have hz2 := hgr2.size
  clear HR1 HW1 hgr2 hk1
  go_wp2_with fail
  refine (u47 g 1 2 bs _ hk2 (by omega) (by omega) (by omega) hm).mono ?_
  rintro e w3 ⟨rfl, hk3, hgr3⟩
  have HR3 := Lib.hid (HR2.out.gr hgr3 (by omega))
  have HW3 := Lib.hid (below_gr HW2.out hgr3 (by omega) (by omega))
  have hz3 := hgr3.size
  clear HR2 HW2 hgr3 hk2
  rw [leV_one bs (by omega)]
  have hy2 := byN_lt bs 2
  go_wp2_with fail
  refine (u47 g 1 3 bs _ hk3 (by omega) (by omega) (by omega) hm).mono ?_
  rintro e w4 ⟨rfl, hk4, hgr4⟩
  have HR4 := Lib.hid (HR3.out.gr hgr4 (by omega))
  have HW4 := Lib.hid (below_gr HW3.out hgr4 (by omega) (by omega))
  have hz4 := hgr4.size
  clear HR3 HW3 hgr4 hk3
  rw [leV_one bs (by omega)]
  have hy3 := byN_lt bs 3
  generalize hx2 : byN bs 2 = y2 at *
  generalize hx3 : byN bs 3 = y3 at *
  have HX2 := Lib.hid hx2
  have HX3 := Lib.hid hx3
  clear hx2 hx3
  go_wp2_with fail
  have hgl := hk4.lt
  have hz := HW4.out.size
  have H0 := Lib.hid (fun cs (h : cs = sixN bs 0) => six_start h hk4 HR4.out HW4.out)
  clear hk4 HR4 HW4
  go_loopw [21] (fun i wr => ∃ k : Nat, k ≤ 6 ∧ i = .int .i64 k ∧ SixRel w g w4.heap.size bs k wr) (fun i _ => 6 - (intOf i).toNat)
  case atStart => exact ⟨0, by omega, rfl, H0.out _ rfl⟩
  case round =>
    clear H0
    obtain ⟨k, hk, rfl, hrel⟩ := hrel
    have HS := Lib.hid hrel
    clear hrel
    by_cases hlt : k < 6
    · go_wp2_with fail
      refine (u47 g 4 (4 + 4 * k) bs _ HS.out.1 (by omega) (by omega) (by omega) hm).mono ?_
      rintro e w5 ⟨rfl, hk5, hgr5⟩
      obtain ⟨hs5, hc5, hf5⟩ := six_next HS.out hlt (by omega) hgl hk5 hgr5
      have H5 := Lib.hid hs5
      clear hs5 HS hk5 hgr5
      change Hid (SixRel w g w4.heap.size bs (k + 1) (w5.setCell ⟨w4.heap.size, k, none⟩ (.int .i64 ((leV ((bs.drop (4 + 4 * k)).take 4) : Nat) : Int)))) at H5
      have hv := at4_lt bs (4 + 4 * k)
      unfold at4 at hv
      generalize leV ((bs.drop (4 + 4 * k)).take 4) = v at *
      go_wp2_with fail
      go_roundw
      case rel => exact ⟨k + 1, by omega, by go_num, H5.out⟩
      case measure => simp [intOf]; omega
    · obtain rfl : k = 6 := by omega
      obtain ⟨c0, c1, c2', c3, c4, c5⟩ := six_end HS.out
      have v0 := at4_lt bs 4
      have v1 := at4_lt bs 8
      have v2 := at4_lt bs 12
      have v3 := at4_lt bs 16
      have v4 := at4_lt bs 20
      have v5 := at4_lt bs 24
      have HE := Lib.hid (show hdOf bs = ⟨byN bs 2, at4 bs 4, at4 bs 8, at4 bs 12, at4 bs 16, byN bs 3 == 1, at4 bs 20, at4 bs 24⟩ from rfl)
      have HV : Hid (byN bs 2 = y2 ∧ byN bs 3 = y3) := ⟨HX2.out, HX3.out⟩
      clear HX2 HX3
      generalize at4 bs 4 = x0 at *
      generalize at4 bs 8 = x1 at *
      generalize at4 bs 12 = x2 at *
      generalize at4 bs 16 = x3 at *
      generalize at4 bs 20 = x4 at *
      generalize at4 bs 24 = x5 at *
      by_cases hle : y3 ≤ 1
      · have hd : decide ((y3 : Int) ≤ 1) = true := by simp; omega
        have hB0 : Bk wr w.heap.size 40 noHd := HS.out.2.2.1
        have HB0 := Lib.hid hB0
        clear hB0
        go_wp2_with fail
        have HB1 := Lib.hid (HB0.out.alloc (.cells #[.int .i64 y2, .int .i64 x0, .int .i64 x1, .int .i64 x2, .int .i64 x3, .bool ((y3 : Int) == 1), .int .u32 x4, .int .i64 x5] 40))
        have HB2 := Lib.hid (Bk.new wr 40 #[.int .i64 y2, .int .i64 x0, .int .i64 x1, .int .i64 x2, .int .i64 x3, .bool ((y3 : Int) == 1), .int .u32 x4, .int .i64 x5])
        have HW := Lib.hid (HS.out.2.2.2.alloc HS.out.2.2.2.size (.cells #[.int .i64 y2, .int .i64 x0, .int .i64 x1, .int .i64 x2, .int .i64 x3, .bool ((y3 : Int) == 1), .int .u32 x4, .int .i64 x5] 40))
        have hsz : w.heap.size ≠ wr.heap.size := by have := HB0.out.lt; omega
        have hlt2 : wr.heap.size < (wr.alloc (.cells #[.int .i64 y2, .int .i64 x0, .int .i64 x1, .int .i64 x2, .int .i64 x3, .bool ((y3 : Int) == 1), .int .u32 x4, .int .i64 x5] 40)).heap.size := by simp
        have hlt3 : w.heap.size < (wr.alloc (.cells #[.int .i64 y2, .int .i64 x0, .int .i64 x1, .int .i64 x2, .int .i64 x3, .bool ((y3 : Int) == 1), .int .u32 x4, .int .i64 x5] 40)).heap.size := HB1.out.lt
        generalize wr.alloc (.cells #[.int .i64 y2, .int .i64 x0, .int .i64 x1, .int .i64 x2, .int .i64 x3, .bool ((y3 : Int) == 1), .int .u32 x4, .int .i64 x5] 40) = wh at *
        generalize wr.heap.size = gh at *
        generalize hgr : w.heap.size = gr at *
        have HGR := Lib.hid hgr
        clear hgr
        obtain ⟨q0, q1, q2, q3, q4, q5, q6, q7⟩ := HB2.out.eight
        obtain ⟨p0, p1, p2, p3, p4, p5, p6, p7⟩ := Bk.eight (show Bk wh gr 40 #[.int .i64 0, .int .i64 0, .int .i64 0, .int .i64 0, .int .i64 0, .bool false, .int .u32 0, .int .i64 0] from HB1.out)
        obtain ⟨f0, f1, f2, f3, f4, f5, f6, f7⟩ := HB1.out.free8
        clear c0 c1 c2' c3 c4 c5
        go_region_with (go_at_call 49; refine (right49 y2 x0 x1 x2 x3 ((y3 : Int) == 1) x4 x5 _).mono ?_; rintro e w6 ⟨rfl, hb6⟩; have r1 := (Bk.drew HB1.out).below hb6 hlt3; have r2 := (Bk.drew HB2.out).below hb6 hlt2; have R1 := Lib.hid r1; obtain ⟨q0, q1, q2, q3, q4, q5, q6, q7⟩ := r2.eight; obtain ⟨p0, p1, p2, p3, p4, p5, p6, p7⟩ := Bk.eight (show Bk w6 gr 40 #[.int .i64 0, .int .i64 0, .int .i64 0, .int .i64 0, .int .i64 0, .bool false, .int .u32 0, .int .i64 0] from r1); obtain ⟨f0, f1, f2, f3, f4, f5, f6, f7⟩ := r1.free8; have HB6 := Lib.hid hb6; clear hb6 r1 r2)
        all_goals
          go_wp2_with fail
          refine bodyPost_ret (v := .tuple #[.agg #[.int .i64 y2, .int .i64 x0, .int .i64 x1, .int .i64 x2, .int .i64 x3, .bool ((y3 : Int) == 1), .int .u32 x4, .int .i64 x5], .bool (rightB ⟨y2, x0, x1, x2, x3, (y3 : Int) == 1, x4, x5⟩)]) (by simp [results, Try.results62, go_sem, p0, p1, p2, p3, p4, p5, p6, p7]) rfl ⟨?_, ?_⟩
          · rw [hd_end HE.out HV.out, if_pos hle]
          · have hb8 := HW.out.drew.trans (HB6.out.mono (Nat.le_of_lt hlt3))
            rw [HGR.out]
            exact below_set8 hb8 (Nat.le_refl _)
      · have hd : decide ((y3 : Int) ≤ 1) = false := by simp; omega
        have hB0 : Bk wr w.heap.size 40 noHd := HS.out.2.2.1
        have HB0 := Lib.hid hB0
        clear hB0
        go_wp2_with fail
        have HB1 := Lib.hid (HB0.out.alloc (.cells #[.int .i64 y2, .int .i64 x0, .int .i64 x1, .int .i64 x2, .int .i64 x3, .bool ((y3 : Int) == 1), .int .u32 x4, .int .i64 x5] 40))
        have HB2 := Lib.hid (Bk.new wr 40 #[.int .i64 y2, .int .i64 x0, .int .i64 x1, .int .i64 x2, .int .i64 x3, .bool ((y3 : Int) == 1), .int .u32 x4, .int .i64 x5])
        have HW := Lib.hid (HS.out.2.2.2.alloc HS.out.2.2.2.size (.cells #[.int .i64 y2, .int .i64 x0, .int .i64 x1, .int .i64 x2, .int .i64 x3, .bool ((y3 : Int) == 1), .int .u32 x4, .int .i64 x5] 40))
        generalize wr.alloc (.cells #[.int .i64 y2, .int .i64 x0, .int .i64 x1, .int .i64 x2, .int .i64 x3, .bool ((y3 : Int) == 1), .int .u32 x4, .int .i64 x5] 40) = wh at *
        generalize wr.heap.size = gh at *
        generalize hgr : w.heap.size = gr at *
        have HGR := Lib.hid hgr
        clear hgr
        obtain ⟨q0, q1, q2, q3, q4, q5, q6, q7⟩ := HB2.out.eight
        obtain ⟨p0, p1, p2, p3, p4, p5, p6, p7⟩ := Bk.eight (show Bk wh gr 40 #[.int .i64 0, .int .i64 0, .int .i64 0, .int .i64 0, .int .i64 0, .bool false, .int .u32 0, .int .i64 0] from HB1.out)
        obtain ⟨f0, f1, f2, f3, f4, f5, f6, f7⟩ := HB1.out.free8
        clear c0 c1 c2' c3 c4 c5
        go_region_with (fail)
        all_goals
          go_wp2_with fail
          refine bodyPost_ret (v := .tuple #[.agg #[.int .i64 y2, .int .i64 x0, .int .i64 x1, .int .i64 x2, .int .i64 x3, .bool ((y3 : Int) == 1), .int .u32 x4, .int .i64 x5], .bool false]) (by simp [results, Try.results62, go_sem, p0, p1, p2, p3, p4, p5, p6, p7]) rfl ⟨?_, ?_⟩
          · rw [hd_end HE.out HV.out, if_neg hle]
          · rw [HGR.out]
            exact (below_set8 HW.out (Nat.le_refl _)).drew
end Go.Proofs.Ytfeicdflkpgbnaa
