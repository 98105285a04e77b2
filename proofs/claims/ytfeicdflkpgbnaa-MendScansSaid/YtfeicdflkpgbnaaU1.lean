/-
  Proved: head.Get reads a head out of bytes, or tells why there is none. Conditions: those that each theorem lists ahead of its colon, and no others.
-/
import Derived.Test.YtfeicdflkpgbnaaT9
import Derived.Test.YtfeicdflkpgbnaaT3
import Derived.Deep.DeepCutAuto
namespace Go.Proofs.Ytfeicdflkpgbnaa
open Go.RowKit

/-- What Get answers. -/
def GetP (w : World) (bs : List UInt8) (e : Ending) (w' : World) : Prop :=
  Below w.heap.size w w' ∧ if getB bs = true then e = .returned (.tuple #[.agg (hdOf bs).cells.toArray, .int .i64 0]) else ∃ c : Int, c ≠ 0 ∧ e = .returned (.tuple #[.agg noHd, .int .i64 c])

theorem getB_no {bs : List UInt8} (h : ¬ (startB bs = true ∧ 32 ≤ bs.length ∧ sumN (bs.take 28) = at4 bs 28 ∧ (decide (byN bs 3 ≤ 1) && rightB (hdOf bs)) = true)) : getB bs = false := by
  cases hg : getB bs with
  | false => rfl
  | true =>
    unfold getB at hg
    simp only [Bool.and_eq_true, decide_eq_true_eq] at hg
    exact absurd ⟨hg.1.1.1.1, hg.1.1.1.2, hg.1.1.2, by simp [hg.1.2, hg.2]⟩ h
theorem getB_yes {bs : List UInt8} (h1 : startB bs = true) (h2 : 32 ≤ bs.length) (h3 : sumN (bs.take 28) = at4 bs 28) (h4 : (decide (byN bs 3 ≤ 1) && rightB (hdOf bs)) = true) : getB bs = true := by
  unfold getB
  simp only [Bool.and_eq_true, decide_eq_true_eq] at h4 ⊢
  exact ⟨⟨⟨⟨h1, h2⟩, h3⟩, h4.1⟩, h4.2⟩
theorem GetP.no {w w' : World} {bs : List UInt8} {e : Ending} {c : Int} (hg : getB bs = false) (hc : c ≠ 0) (he : e = .returned (.tuple #[.agg noHd, .int .i64 c])) (hb : Below w.heap.size w w') : GetP w bs e w' := by
  refine ⟨hb, ?_⟩
  rw [if_neg (by rw [hg]; decide)]
  exact ⟨c, hc, he⟩
theorem GetP.yes {w w' : World} {bs : List UInt8} {e : Ending} (hg : getB bs = true) (he : e = .returned (.tuple #[.agg (hdOf bs).cells.toArray, .int .i64 0])) (hb : Below w.heap.size w w') : GetP w bs e w' := by
  refine ⟨hb, ?_⟩
  rw [if_pos hg]
  exact he

set_option maxHeartbeats 1000000 in
set_option maxRecDepth 20000 in
theorem get44a (n c gt : Nat) (A : Option Addr) (bs : List UInt8) (w : World) (B : Nat) (hb : Bs w B A bs) (hB : B ≤ w.heap.size) (hn : n = bs.length) (hm : n ≤ 65536) (hs : ¬ (startB bs = true ∧ 32 ≤ bs.length)) :
    Calls Try.prog 44 #[.pointer (some ⟨gt, 0, none⟩), .slice A n c] w (GetP w bs) := by
  have HG := Lib.hid (getB_no (bs := bs) (fun h => hs ⟨h.1, h.2.1⟩))
  subst hn
  cases hst : startB bs with
  | false =>
    clear hs
    go_enter Try.func44, Try.ntmps44
    go_wp2_with fail
    refine (starts61 _ c A bs _ B (hb.alloc hB _) rfl hm).mono ?_
    rintro e w1 ⟨rfl, rfl⟩
    rw [hst]
    go_wp2_with fail
    exact bodyPost_ret (v := .tuple #[.agg noHd, .int .i64 30]) (by simp [results, Try.results44, go_sem]; rfl) rfl (GetP.no HG.out (by decide) rfl ((Below.refl _ _).alloc (Nat.le_refl _) _))
  | true =>
    have hlen : bs.length < 32 := by
      rcases Nat.lt_or_ge bs.length 32 with h | h
      · exact h
      · exact absurd ⟨hst, h⟩ hs
    clear hs
    go_enter Try.func44, Try.ntmps44
    go_wp2_with fail
    refine (starts61 _ c A bs _ B (hb.alloc hB _) rfl hm).mono ?_
    rintro e w1 ⟨rfl, rfl⟩
    rw [hst]
    go_wp2_with fail
    exact bodyPost_ret (v := .tuple #[.agg noHd, .int .i64 10]) (by simp [results, Try.results44, go_sem]; rfl) rfl (GetP.no HG.out (by decide) rfl ((Below.refl _ _).alloc (Nat.le_refl _) _))

theorem sum_ne (xs ys : List UInt8) : (IntKind.u64.wrap ((sumN xs : Nat) : Int) != ((leV ys : Nat) : Int)) = decide (sumN xs ≠ leV ys) := by
  have h := sumN_lt xs
  rw [IntWalk.u64_in _ ⟨by omega, by omega⟩]
  rw [Bool.eq_iff_iff]
  simp
  omega

set_option maxHeartbeats 1000000 in
set_option maxRecDepth 20000 in
theorem get44b (n c gt : Nat) (A : Option Addr) (bs : List UInt8) (w : World) (B : Nat) (ht : Tb w gt) (hb : Bs w B A bs) (hB : B ≤ w.heap.size) (hn : n = bs.length) (hc : n ≤ c) (hm : n ≤ 65536) (hst : startB bs = true) (h32 : 32 ≤ bs.length) :
    Calls Try.prog 44 #[.pointer (some ⟨gt, 0, none⟩), .slice A n c] w (GetP w bs) := by
  subst hn
  go_enter Try.func44, Try.ntmps44
  go_wp2_with fail
  refine (starts61 _ c A bs _ B (hb.alloc hB _) rfl hm).mono ?_
  rintro e w1 ⟨rfl, rfl⟩
  rw [hst]
  go_wp2_with fail
  have HT0 := Lib.hid (show Tb (w.alloc (.cells noHd 40)) gt from Bk.alloc ht _)
  have HA0 := Lib.hid (hb.alloc hB (.cells noHd 40))
  have HR0 := Lib.hid (Bk.new w 40 noHd)
  have HW0 := Lib.hid ((Below.refl w.heap.size w).alloc (Nat.le_refl _) (.cells noHd 40))
  have hs0 : B ≤ (w.alloc (.cells noHd 40)).heap.size := by simp; omega
  have hs1 : w.heap.size < (w.alloc (.cells noHd 40)).heap.size := by simp
  change Code.wp _ _ _ _ (w.alloc (.cells noHd 40))
  generalize w.alloc (.cells noHd 40) = w0 at *
  have hbl : (bs.take 28).length = 28 := by simp; omega
  have HL := Lib.hid hbl
  have hdl : (bs.drop 28).length = bs.length - 28 := by simp
  have HD := Lib.hid hdl
  have HA := Lib.hid hb
  clear hbl hdl ht hb
  go_cut [22] (fun s wx => s = .bool (decide (sumN (bs.take 28) ≠ at4 bs 28)) ∧ Bk wx w.heap.size 40 noHd ∧ Below w.heap.size w wx)
  case first =>
    go_region_with (first
      | (go_at_call 45; refine (sum45 28 c A (bs.take 28) gt _ B (by exact HT0.out) (by exact Bs.take HA0.out 28) HL.out.symm (by omega)).mono ?_; rintro e w1 ⟨rfl, rfl⟩)
      | (go_at_call 46; refine (take46 _ _ _ (bs.drop 28) _ B (by exact Bs.cutm HA0.out 28) (by exact hs0) HD.out.symm (by omega)).mono ?_; rintro e w2 ⟨g, rfl, hg2, hk2, hb2⟩; have HK2 := Lib.hid hk2; have HB2 := Lib.hid hb2; clear hk2 hb2)
      | (go_at_call 47; refine (u47 _ 4 0 (bs.drop 28) _ (by exact HK2.out) (by omega) (by omega) (by rw [HD.out]; omega) (by rw [HD.out]; omega)).mono ?_; rintro e w3 ⟨rfl, hk3, hb3⟩; have HB3 := Lib.hid hb3; clear hk3 hb3))
    all_goals
      go_wp2_with fail
      go_meet
      case rel =>
        have hg3 : w0.heap.size ≤ g := hg2
        have b1 : Bk w2 w.heap.size 40 noHd := (Bk.drew HR0.out).below HB2.out hs1
        have b2 : Below w.heap.size w w2 := HW0.out.drew.trans (HB2.out.mono (Nat.le_of_lt hs1))
        have hz : w0.heap.size ≤ w2.heap.size := HB2.out.size
        exact ⟨congrArg Value.bool (sum_ne _ _), b1.gr HB3.out (by omega), below_gr b2 HB3.out (by omega) b2.size⟩
  case rest =>
    obtain ⟨rfl, hr, hw⟩ := hcut
    have HR := Lib.hid hr
    have HW := Lib.hid hw
    clear hr hw
    clear HT0 HA0 HR0 HW0 HL HD
    have hz := HW.out.size
    by_cases hsum : sumN (bs.take 28) = at4 bs 28
    · have hd : decide (sumN (bs.take 28) ≠ at4 bs 28) = false := decide_eq_false (fun h => h hsum)
      rw [hd]
      have HS := Lib.hid hsum
      clear hd hsum
      go_wp2_with fail
      refine (take62 _ c A bs _ B (HA.out.below (HW.out.mono hB)) (by omega) rfl h32 hm).mono ?_
      rintro e w4 ⟨rfl, hb4⟩
      have r4 := HR.out.below hb4 HR.out.lt
      have hw4 := HW.out.trans (hb4.mono hz)
      have R4 := Lib.hid r4
      have W4 := Lib.hid hw4
      have hlt := r4.lt
      clear hb4 r4 hw4 HR HW HA
      cases hok : (decide (byN bs 3 ≤ 1) && rightB (hdOf bs)) with
      | true =>
        have HG := Lib.hid (getB_yes hst h32 HS.out hok)
        clear hok
        generalize hh : hdOf bs = hd0
        obtain ⟨k, i, l, s, b, t, n, z⟩ := hd0
        have HH := Lib.hid hh
        clear hh
        unfold Hd.cells
        dsimp only
        go_upto_region 12 with (fail)
        have R5 := Lib.hid (R4.out.alloc (.cells #[.int .i64 k, .int .i64 i, .int .i64 l, .int .i64 s, .int .i64 b, .bool t, .int .u32 n, .int .i64 z] 40))
        have H5 := Lib.hid (Bk.new w4 40 #[.int .i64 k, .int .i64 i, .int .i64 l, .int .i64 s, .int .i64 b, .bool t, .int .u32 n, .int .i64 z])
        have W5 := Lib.hid (W4.out.alloc W4.out.size (.cells #[.int .i64 k, .int .i64 i, .int .i64 l, .int .i64 s, .int .i64 b, .bool t, .int .u32 n, .int .i64 z] 40))
        clear R4 W4
        generalize w4.alloc (.cells #[.int .i64 k, .int .i64 i, .int .i64 l, .int .i64 s, .int .i64 b, .bool t, .int .u32 n, .int .i64 z] 40) = w5 at *
        generalize w4.heap.size = gh at *
        obtain ⟨q0, q1, q2, q3, q4, q5, q6, q7⟩ := H5.out.eight
        obtain ⟨p0, p1, p2, p3, p4, p5, p6, p7⟩ := Bk.eight (show Bk w5 w.heap.size 40 #[.int .i64 0, .int .i64 0, .int .i64 0, .int .i64 0, .int .i64 0, .bool false, .int .u32 0, .int .i64 0] from R5.out)
        obtain ⟨f0, f1, f2, f3, f4, f5, f6, f7⟩ := R5.out.free8
        go_wp2_with fail
        refine bodyPost_ret (v := .tuple #[.agg (Hd.mk k i l s b t n z).cells.toArray, .int .i64 0]) (by unfold Hd.cells; simp [results, Try.results44, go_sem, p0, p1, p2, p3, p4, p5, p6, p7]) rfl (GetP.yes HG.out (by rw [HH.out]) ?_)
        exact below_set8 W5.out (Nat.le_refl _)
      | false =>
        have HG := Lib.hid (getB_no (bs := bs) (fun h => by rw [h.2.2.2] at hok; cases hok))
        clear hok
        generalize hh : hdOf bs = hd0
        obtain ⟨k, i, l, s, b, t, n, z⟩ := hd0
        clear hh
        unfold Hd.cells
        dsimp only
        go_upto_region 11 with (fail)
        have R5 := Lib.hid (R4.out.alloc (.cells #[.int .i64 k, .int .i64 i, .int .i64 l, .int .i64 s, .int .i64 b, .bool t, .int .u32 n, .int .i64 z] 40))
        have W5 := Lib.hid (W4.out.alloc W4.out.size (.cells #[.int .i64 k, .int .i64 i, .int .i64 l, .int .i64 s, .int .i64 b, .bool t, .int .u32 n, .int .i64 z] 40))
        clear R4 W4
        generalize w4.alloc (.cells #[.int .i64 k, .int .i64 i, .int .i64 l, .int .i64 s, .int .i64 b, .bool t, .int .u32 n, .int .i64 z] 40) = w5 at *
        obtain ⟨p0, p1, p2, p3, p4, p5, p6, p7⟩ := Bk.eight (show Bk w5 w.heap.size 40 #[.int .i64 0, .int .i64 0, .int .i64 0, .int .i64 0, .int .i64 0, .bool false, .int .u32 0, .int .i64 0] from R5.out)
        obtain ⟨f0, f1, f2, f3, f4, f5, f6, f7⟩ := R5.out.free8
        go_wp2_with fail
        refine bodyPost_ret (v := .tuple #[.agg noHd, .int .i64 32]) (by unfold noHd; simp [results, Try.results44, go_sem, p0, p1, p2, p3, p4, p5, p6, p7]) rfl (GetP.no HG.out (by decide) rfl ?_)
        exact below_set8 W5.out (Nat.le_refl _)
    · have hd : decide (sumN (bs.take 28) ≠ at4 bs 28) = true := decide_eq_true hsum
      rw [hd]
      have HG := Lib.hid (getB_no (bs := bs) (fun h => hsum h.2.2.1))
      clear hsum hd
      go_upto_region 8 with (fail)
      obtain ⟨p0, p1, p2, p3, p4, p5, p6, p7⟩ := Bk.eight (show Bk wc w.heap.size 40 #[.int .i64 0, .int .i64 0, .int .i64 0, .int .i64 0, .int .i64 0, .bool false, .int .u32 0, .int .i64 0] from HR.out)
      obtain ⟨f0, f1, f2, f3, f4, f5, f6, f7⟩ := HR.out.free8
      go_wp2_with fail
      refine bodyPost_ret (v := .tuple #[.agg noHd, .int .i64 33]) (by unfold noHd; simp [results, Try.results44, go_sem, p0, p1, p2, p3, p4, p5, p6, p7]) rfl (GetP.no HG.out (by decide) rfl ?_)
      exact below_set8 HW.out (Nat.le_refl _)
end Go.Proofs.Ytfeicdflkpgbnaa
