/-
  Proved: descantref22.Get reads a head out of bytes, as the plain function does. Conditions: those that each theorem lists ahead of its colon, and no others.
-/
import Derived.Test.YtfeicdflkpgbnaaU2
namespace Go.Proofs.Ytfeicdflkpgbnaa
open Go.RowKit

/-- Two cells, and all that was there. -/
theorem two_alloc {w0 w' : World} {p q : Addr} {u v : Value} (h : w'.cell? p = some u ∧ w'.cell? q = some v ∧ Below w0.heap.size w0 w') (o : Obj) :
    (w'.alloc o).cell? p = some u ∧ (w'.alloc o).cell? q = some v ∧ Below w0.heap.size w0 (w'.alloc o) :=
  ⟨(World.cell?_alloc_some w' p o (by rw [h.1]; rfl)).trans h.1, (World.cell?_alloc_some w' q o (by rw [h.2.1]; rfl)).trans h.2.1, h.2.2.alloc h.2.2.size _⟩
theorem two_drew {w0 w' : World} {p q : Addr} {u v : Value} (h : w'.cell? p = some u ∧ w'.cell? q = some v ∧ Below w0.heap.size w0 w') :
    w'.drew.cell? p = some u ∧ w'.drew.cell? q = some v ∧ Below w0.heap.size w0 w'.drew := ⟨h.1, h.2.1, h.2.2.drew⟩

theorem two_bs {w0 w' : World} {p q : Addr} {u v : Value} {B : Nat} {A : Option Addr} {bs : List UInt8} (h : w'.cell? p = some u ∧ w'.cell? q = some v ∧ Below w0.heap.size w0 w') (hA : Bs w0 B A bs) (hB : B ≤ w0.heap.size) : Bs w' B A bs :=
  hA.below (h.2.2.mono hB)

theorem hd_eq (bs : List UInt8) : hdOf bs = ⟨byN bs 2, at4 bs 4, at4 bs 8, at4 bs 12, at4 bs 16, ((byN bs 3 : Nat) : Int) == 1, at4 bs 20, at4 bs 24⟩ := by
  have e : ((byN bs 3 : Int) == 1) = (byN bs 3 == 1) := by
    rw [Bool.eq_iff_iff]; simp; omega
  rw [e]
  rfl

theorem at31i (k : Int) (n c : Nat) (A : Option Addr) (bs : List UInt8) (w : World) (B : Nat) (h0 : 0 ≤ k) (hk : k.toNat + 4 ≤ n) (hb : Bs w B A bs) (hn : n = bs.length) (hnc : n ≤ c) (hm : n ≤ 65536) :
    Calls Try.prog 31 #[.slice A n c, .int .i64 k] w fun e w' => e = .returned (.int .i64 (at4 bs k.toNat : Nat)) ∧ w = w' := by
  obtain ⟨j, rfl⟩ := Int.eq_ofNat_of_zero_le h0
  exact at31 n c j A bs w B hb hn hnc hk hm

set_option maxHeartbeats 4000000 in
set_option maxRecDepth 20000 in
theorem get29d (n c : Nat) (A : Option Addr) (bs : List UInt8) (w : World) (B : Nat) (hb : Bs w B A bs) (hB : B ≤ w.heap.size) (hn : n = bs.length) (hc : n ≤ c) (hm : n ≤ 65536) (hs : startB bs = true) (h32 : 32 ≤ bs.length) (hsum : sumN (bs.take 28) = at4 bs 28) :
    Calls Try.prog 29 #[.slice A n c] w (GetP w bs) := by
  subst hn
  have HS := Lib.hid hs
  have HSU := Lib.hid hsum
  have HA := hb.alloc hB (.cells #[.int .i64 0, .int .i64 0, .int .i64 0, .int .i64 0, .int .i64 0, .bool false, .int .u32 0, .int .i64 0] 40)
  obtain ⟨b, o, rfl, hbB, hcc⟩ := HA.at_ (by omega)
  have c0 := hcc 0 (by omega)
  rw [Nat.add_zero, start0 hs (by omega)] at c0
  have c1 := hcc 1 (by omega)
  rw [start1 hs (by omega)] at c1
  have c2 := hcc 2 (by omega)
  have c3 := hcc 3 (by omega)
  have b2 := byN_lt bs 2
  have b3 := byN_lt bs 3
  have hv := sumN_lt (bs.take 28)
  have hd : (((sumN (bs.take 28) : Nat) : Int) != ((at4 bs 28 : Nat) : Int)) = false := by rw [bne_eq_false_iff_eq]; omega
  clear hsum hs hcc
  go_enter Try.func29, Try.ntmps29
  go_wp2_with fail
  refine (sum30 28 c _ (bs.take 28) _ B (Bs.take HA 28) (by simp; omega) (by omega)).mono ?_
  rintro e w1 ⟨rfl, rfl⟩
  go_wp2_with fail
  refine (at31 _ c 28 _ bs _ B HA rfl hc (by omega) hm).mono ?_
  rintro e w1 ⟨rfl, rfl⟩
  go_upto_region 7 with (fail)
  have HR0 := Lib.hid (Bk.new w 40 #[.int .i64 0, .int .i64 0, .int .i64 0, .int .i64 0, .int .i64 0, .bool false, .int .u32 0, .int .i64 0])
  have HW0 := Lib.hid ((Below.refl w.heap.size w).alloc (Nat.le_refl _) (.cells #[.int .i64 0, .int .i64 0, .int .i64 0, .int .i64 0, .int .i64 0, .bool false, .int .u32 0, .int .i64 0] 40))
  have hBs : B ≤ (w.alloc (.cells #[.int .i64 0, .int .i64 0, .int .i64 0, .int .i64 0, .int .i64 0, .bool false, .int .u32 0, .int .i64 0] 40)).heap.size := by simp; omega
  generalize w.alloc (.cells #[.int .i64 0, .int .i64 0, .int .i64 0, .int .i64 0, .int .i64 0, .bool false, .int .u32 0, .int .i64 0] 40) = w0 at *
  have HA0 := Lib.hid HA
  have HC := Lib.hid hc
  clear HA c0 c1 hb hd hc
  have k2 : IntKind.i64.wrap ((byN bs 2 : Nat) : Int) = ((byN bs 2 : Nat) : Int) := IntWalk.i64_in _ ⟨by omega, by omega⟩
  have k3 : IntKind.u32.wrap ((at4 bs 20 : Nat) : Int) = ((at4 bs 20 : Nat) : Int) := by have := at4_lt bs 20; exact IntWalk.u32_in _ ⟨by omega, by omega⟩
  have i2 : (2 : Int) < (bs.length : Int) := by omega
  have i3 : (3 : Int) < (bs.length : Int) := by omega
  go_cut [4] (fun s4 wx => ∃ g : Nat, s4 = .pointer (some ⟨g, 0, none⟩) ∧ Bk wx g 40 #[.int .i64 (byN bs 2 : Nat), .int .i64 (at4 bs 4 : Nat), .int .i64 (at4 bs 8 : Nat), .int .i64 (at4 bs 12 : Nat), .int .i64 (at4 bs 16 : Nat), .bool (((byN bs 3 : Nat) : Int) == 1), .int .u32 (at4 bs 20 : Nat), .int .i64 (at4 bs 24 : Nat)] ∧ w0.heap.size ≤ g ∧ Below w0.heap.size w0 wx)
  case first =>
    go_region_held3 (fun w' => w'.cell? ⟨b, o + 2, none⟩ = some (.int .u8 (byN bs 2 : Nat)) ∧ w'.cell? ⟨b, o + 3, none⟩ = some (.int .u8 (byN bs 3 : Nat)) ∧ Below w0.heap.size w0 w')
      (first | assumption | exact ⟨c2, c3, (Below.refl _ _).drew⟩ | exact two_drew (two_alloc ⟨c2, c3, Below.refl _ _⟩ _))
      (first | (go_at_call 31; refine (at31i _ _ c _ bs _ B (by omega) (by omega) ?_ rfl HC.out hm).mono ?_; (exact two_bs (by assumption) HA0.out hBs); rintro e w' ⟨rfl, rfl⟩))
    all_goals
      go_wp2_with fail
      go_meet
      case rel => exact ⟨_, rfl, Bk.drew (Bk.new w0 40 _), Nat.le_refl _, ((Below.refl _ _).alloc (Nat.le_refl _) _).drew⟩
  case rest =>
    obtain ⟨g, rfl, hg, hgl, hw⟩ := hcut
    have HRc := Lib.hid (HR0.out.below hw HR0.out.lt)
    have HWc := Lib.hid (HW0.out.trans (hw.mono HW0.out.size))
    have c3' : wc.cell? ⟨b, o + 3, none⟩ = some (.int .u8 (byN bs 3 : Nat)) := (hw.cell (p := ⟨b, o + 3, none⟩) (by show b < _; omega)).trans c3
    have HE := Lib.hid (hd_eq bs)
    have hne : w.heap.size < w0.heap.size := HR0.out.lt
    clear c2 c3 HR0 HW0 HA0 hw k2 k3 hv
    generalize byN bs 2 = y2 at *
    generalize hy3 : byN bs 3 = y3 at *
    have HY3 := Lib.hid hy3
    clear hy3
    generalize at4 bs 4 = x0 at *
    generalize at4 bs 8 = x1 at *
    generalize at4 bs 12 = x2 at *
    generalize at4 bs 16 = x3 at *
    generalize at4 bs 20 = x4 at *
    generalize at4 bs 24 = x5 at *
    by_cases hle : y3 ≤ 1
    · obtain ⟨q0, q1, q2, q3, q4, q5, q6, q7⟩ := hg.eight
      have hd : decide ((1 : Int) < (y3 : Int)) = false := by simp; omega
      have HG0 := Lib.hid hg
      clear hg
      go_wp2_with fail
      refine (right41 y2 x0 x1 x2 x3 ((y3 : Int) == 1) x4 x5 _).mono ?_
      rintro e w6 ⟨rfl, hb6⟩
      have r6 := HRc.out.below hb6 HRc.out.lt
      have g6 := HG0.out.below hb6 HG0.out.lt
      have R6 := Lib.hid r6
      have W6 := Lib.hid (HWc.out.trans (hb6.mono HWc.out.size))
      clear hb6 q0 q1 q2 q3 q4 q5 q6 q7
      obtain ⟨q0, q1, q2, q3, q4, q5, q6, q7⟩ := g6.eight
      obtain ⟨p0, p1, p2, p3, p4, p5, p6, p7⟩ := Bk.eight (show Bk w6 w.heap.size 40 #[.int .i64 0, .int .i64 0, .int .i64 0, .int .i64 0, .int .i64 0, .bool false, .int .u32 0, .int .i64 0] from r6)
      obtain ⟨f0, f1, f2, f3, f4, f5, f6, f7⟩ := r6.free8
      clear r6 g6
      cases hr : rightB ⟨y2, x0, x1, x2, x3, (y3 : Int) == 1, x4, x5⟩ with
      | true =>
        have HG := Lib.hid (getB_yes HS.out h32 HSU.out (by rw [HE.out, HY3.out, hr]; simp [hle]))
        clear hr
        go_wp2_with fail
        refine bodyPost_ret (v := .tuple #[.agg #[.int .i64 y2, .int .i64 x0, .int .i64 x1, .int .i64 x2, .int .i64 x3, .bool ((y3 : Int) == 1), .int .u32 x4, .int .i64 x5], .int .i64 0]) (by simp [results, Try.results29, go_sem, p0, p1, p2, p3, p4, p5, p6, p7]) rfl (GetP.yes HG.out (by rw [HE.out]; rfl) ?_)
        exact below_set8 W6.out (Nat.le_refl _)
      | false =>
        have HG := Lib.hid (getB_no (bs := bs) (fun h => by have h4 := h.2.2.2; rw [HE.out, HY3.out, hr] at h4; simp at h4))
        clear hr
        go_wp2_with fail
        refine bodyPost_ret (v := .tuple #[.agg noHd, .int .i64 32]) (by unfold noHd; simp [results, Try.results29, go_sem, p0, p1, p2, p3, p4, p5, p6, p7]) rfl (GetP.no HG.out (by decide) rfl ?_)
        exact below_set8 W6.out (Nat.le_refl _)
    · have hd : decide ((1 : Int) < (y3 : Int)) = true := by simp; omega
      have HG := Lib.hid (getB_no (bs := bs) (fun h => by have h4 := h.2.2.2; rw [HY3.out] at h4; simp [hle] at h4))
      obtain ⟨p0, p1, p2, p3, p4, p5, p6, p7⟩ := Bk.eight (show Bk wc w.heap.size 40 #[.int .i64 0, .int .i64 0, .int .i64 0, .int .i64 0, .int .i64 0, .bool false, .int .u32 0, .int .i64 0] from HRc.out)
      obtain ⟨f0, f1, f2, f3, f4, f5, f6, f7⟩ := HRc.out.free8
      go_wp2_with fail
      refine bodyPost_ret (v := .tuple #[.agg noHd, .int .i64 32]) (by unfold noHd; simp [results, Try.results29, go_sem, p0, p1, p2, p3, p4, p5, p6, p7]) rfl (GetP.no HG.out (by decide) rfl ?_)
      exact below_set8 HWc.out (Nat.le_refl _)
end Go.Proofs.Ytfeicdflkpgbnaa
