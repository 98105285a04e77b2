/-
  Proved: head.Open and descantref22.Open open any bytes as the plain function does. Conditions: those that each theorem lists ahead of its colon, and no others.
-/
import Derived.Test.YtfeicdflkpgbnaaU4
import Derived.Test.YtfeicdflkpgbnaaU3
namespace Go.Proofs.Ytfeicdflkpgbnaa
open Go.RowKit

theorem open27 (n c gt : Nat) (A : Option Addr) (bs : List UInt8) (w : World) (B : Nat) (ht : Tb w gt) (hb : Bs w B A bs) (hB : B ≤ w.heap.size) (hn : n = bs.length) (hc : n ≤ c) (hm : n ≤ 65536) :
    Calls Try.prog 27 #[.pointer (some ⟨gt, 0, none⟩), .slice A n c] w (OpenP B w bs) := by
  cases hg : getB bs with
  | false => exact open27a n c gt A bs w B ht hb hB hn hc hm hg
  | true => exact open27b n c gt A bs w B ht hb hB hn hc hm hg

theorem get29 (n c : Nat) (A : Option Addr) (bs : List UInt8) (w : World) (B : Nat) (hb : Bs w B A bs) (hB : B ≤ w.heap.size) (hn : n = bs.length) (hc : n ≤ c) (hm : n ≤ 65536) :
    Calls Try.prog 29 #[.slice A n c] w (GetP w bs) := by
  cases hs : startB bs with
  | false => exact (get29a n c A bs w B hb hB hn hm hs).mono fun _ _ h => GetP.no (getB_no (fun h => by rw [hs] at h; cases h.1)) (by decide) h.1 h.2
  | true =>
    rcases Nat.lt_or_ge bs.length 32 with hl | hl
    · exact (get29b n c A bs w B hb hB hn hm hs hl).mono fun _ _ h => GetP.no (getB_no (fun h => by have := h.2.1; omega)) (by decide) h.1 h.2
    · by_cases hsum : sumN (bs.take 28) = at4 bs 28
      · exact get29d n c A bs w B hb hB hn hc hm hs hl hsum
      · exact (get29c n c A bs w B hb hB hn hc hm hs hl hsum).mono fun _ _ h => GetP.no (getB_no (fun h => hsum h.2.2.1)) (by decide) h.1 h.2

theorem Bs.cutl {w : World} {B : Nat} {A : Option Addr} {bs : List UInt8} (h : Bs w B A bs) (k : Nat) : Bs w B (A.map (fun x => { block := x.block, off := x.off + k })) (bs.drop k) :=
  h.cut fun b o e _ => by subst e; rfl
theorem Bs.keep8 {w : World} {B g : Nat} {A : Option Addr} {bs : List UInt8} {a0 a1 a2 a3 a4 a5 a6 a7 : Value} (h : Bs w B A bs) (hB : B ≤ g) : Bs (set8 w g a0 a1 a2 a3 a4 a5 a6 a7) B A bs :=
  (((((((Bs.setCell h (p := ⟨g, 0, none⟩) hB a0).setCell (p := ⟨g, 1, none⟩) hB a1).setCell (p := ⟨g, 2, none⟩) hB a2).setCell (p := ⟨g, 3, none⟩) hB a3).setCell (p := ⟨g, 4, none⟩) hB a4).setCell (p := ⟨g, 5, none⟩) hB a5).setCell (p := ⟨g, 6, none⟩) hB a6).setCell (p := ⟨g, 7, none⟩) hB a7
theorem ref_pay {w w2 : World} {B : Nat} {A : Option Addr} {bs : List UInt8} {k i l s b : Int} {t : Bool} {nn : Int} {zz : Nat} {a0 a1 a2 a3 a4 a5 a6 a7 : Value} (h : hdOf bs = ⟨k, i, l, s, b, t, nn, zz⟩) (hb : Bs w2 B A bs) (hB : B ≤ w.heap.size) (hs : w.heap.size ≤ w2.heap.size) :
    Bs (set8 w2 w.heap.size a0 a1 a2 a3 a4 a5 a6 a7).drew (set8 w2 w.heap.size a0 a1 a2 a3 a4 a5 a6 a7).drew.heap.size (A.map (fun x => { block := x.block, off := x.off + 32 })) (payL bs) := by
  rw [pay_eq h]
  refine Bs.more (B := B) ?_ (by rw [heap_drew, size_set8]; omega)
  have h1 := Bs.cutl hb 32
  have h2 := Bs.take h1 zz
  have h3 := Bs.keep8 (a0 := a0) (a1 := a1) (a2 := a2) (a3 := a3) (a4 := a4) (a5 := a5) (a6 := a6) (a7 := a7) h2 hB
  exact Bs.drew h3

theorem ref_low {w w2 : World} {B : Nat} {A : Option Addr} {bs : List UInt8} {k : Nat} (hb : Bs w2 B A bs) (hl : 0 < bs.length) : ∀ a, A.map (fun x => ({ block := x.block, off := x.off + k } : Addr)) = some a → a.block < B ∨ w.heap.size ≤ a.block := by
  intro a e
  obtain ⟨b, o, rfl, hb, _⟩ := hb.mem hl
  injection e with e
  subst e
  exact .inl hb

set_option maxHeartbeats 1000000 in
set_option maxRecDepth 20000 in
theorem open16a (n c : Nat) (A : Option Addr) (bs : List UInt8) (w : World) (B : Nat) (hb : Bs w B A bs) (hB : B ≤ w.heap.size) (hn : n = bs.length) (hc : n ≤ c) (hm : n ≤ 65536) (hg : getB bs = false) :
    Calls Try.prog 16 #[.slice A n c] w (OpenP B w bs) := by
  have HA := Lib.hid (hb.alloc hB (.cells noHd 40))
  have HG := Lib.hid (openB_no1 hg)
  have HG1 := Lib.hid hg
  have HN := Lib.hid hn
  clear hb hn hg
  go_enter Try.func16, Try.ntmps16
  go_wp2_with fail
  refine (get29 n c A bs _ B (by exact HA.out) (by simp; omega) HN.out hc hm).mono ?_
  rintro e w1 ⟨hb1, he⟩
  rw [if_neg (by rw [HG1.out]; decide)] at he
  obtain ⟨x, hx, rfl⟩ := he
  have R1 := Lib.hid ((Bk.new w 40 noHd).below hb1 (by simp))
  have W1 := Lib.hid (((Below.refl w.heap.size w).alloc (Nat.le_refl _) (.cells noHd 40)).trans (hb1.mono (by simp)))
  clear hb1
  have hd : (x != 0) = true := by rw [bne_iff_ne]; exact hx
  unfold noHd
  go_upto_region 3 with (fail)
  have R2 := Lib.hid (R1.out.alloc (.cells #[.int .i64 0, .int .i64 0, .int .i64 0, .int .i64 0, .int .i64 0, .bool false, .int .u32 0, .int .i64 0] 40))
  have W2 := Lib.hid (W1.out.alloc W1.out.size (.cells #[.int .i64 0, .int .i64 0, .int .i64 0, .int .i64 0, .int .i64 0, .bool false, .int .u32 0, .int .i64 0] 40))
  clear R1 W1
  generalize w1.alloc (.cells #[.int .i64 0, .int .i64 0, .int .i64 0, .int .i64 0, .int .i64 0, .bool false, .int .u32 0, .int .i64 0] 40) = w2 at *
  obtain ⟨p0, p1, p2, p3, p4, p5, p6, p7⟩ := Bk.eight (show Bk w2 w.heap.size 40 #[.int .i64 0, .int .i64 0, .int .i64 0, .int .i64 0, .int .i64 0, .bool false, .int .u32 0, .int .i64 0] from R2.out)
  obtain ⟨f0, f1, f2, f3, f4, f5, f6, f7⟩ := R2.out.free8
  go_wp2_with fail
  refine bodyPost_ret (v := .tuple #[.agg noHd, .slice none 0 0, .int .u32 0, .int .i64 x]) (by unfold noHd; simp [results, Try.results16, go_sem, p0, p1, p2, p3, p4, p5, p6, p7]) rfl (OpenP.no HG.out hx rfl ?_)
  exact below_set8 W2.out (Nat.le_refl _)

set_option maxHeartbeats 4000000 in
set_option maxRecDepth 20000 in
theorem open16b (n c : Nat) (A : Option Addr) (bs : List UInt8) (w : World) (B : Nat) (hb : Bs w B A bs) (hB : B ≤ w.heap.size) (hn : n = bs.length) (hc : n ≤ c) (hm : n ≤ 65536) (hg : getB bs = true) :
    Calls Try.prog 16 #[.slice A n c] w (OpenP B w bs) := by
  have HA := Lib.hid (hb.alloc hB (.cells noHd 40))
  have HG1 := Lib.hid hg
  have HN := Lib.hid hn
  obtain ⟨hs0, hs1, h32⟩ := getB_size hg
  clear hb hn hg
  go_enter Try.func16, Try.ntmps16
  go_wp2_with fail
  refine (get29 n c A bs _ B (by exact HA.out) (by simp; omega) HN.out hc hm).mono ?_
  rintro e w1 ⟨hb1, he⟩
  rw [if_pos HG1.out] at he
  subst he
  have A1 := Lib.hid (HA.out.below (hb1.mono (by simp; omega)))
  have R1 := Lib.hid ((Bk.new w 40 noHd).below hb1 (by simp))
  have W1 := Lib.hid (((Below.refl w.heap.size w).alloc (Nat.le_refl _) (.cells noHd 40)).trans (hb1.mono (by simp)))
  clear hb1 HA
  generalize hh : hdOf bs = hd0 at *
  obtain ⟨k, i, l, s, b, t, nn, z⟩ := hd0
  have HH := Lib.hid hh
  clear hh
  dsimp only at hs0 hs1
  unfold Hd.cells
  dsimp only
  go_upto_region 4 with (fail)
  have R2 := Lib.hid (R1.out.alloc (.cells #[.int .i64 k, .int .i64 i, .int .i64 l, .int .i64 s, .int .i64 b, .bool t, .int .u32 nn, .int .i64 z] 40))
  have H2 := Lib.hid (Bk.new w1 40 #[.int .i64 k, .int .i64 i, .int .i64 l, .int .i64 s, .int .i64 b, .bool t, .int .u32 nn, .int .i64 z])
  have W2 := Lib.hid (W1.out.alloc W1.out.size (.cells #[.int .i64 k, .int .i64 i, .int .i64 l, .int .i64 s, .int .i64 b, .bool t, .int .u32 nn, .int .i64 z] 40))
  have A2 := Lib.hid (A1.out.alloc (Nat.le_trans hB W1.out.size) (.cells #[.int .i64 k, .int .i64 i, .int .i64 l, .int .i64 s, .int .i64 b, .bool t, .int .u32 nn, .int .i64 z] 40))
  have hgh : w.heap.size < w1.heap.size := R1.out.lt
  clear R1 W1 A1
  generalize w1.alloc (.cells #[.int .i64 k, .int .i64 i, .int .i64 l, .int .i64 s, .int .i64 b, .bool t, .int .u32 nn, .int .i64 z] 40) = w2 at *
  generalize w1.heap.size = gh at *
  obtain ⟨q0, q1, q2, q3, q4, q5, q6, q7⟩ := H2.out.eight
  obtain ⟨zz, rfl⟩ := Int.eq_ofNat_of_zero_le hs0
  by_cases hlen : 36 + zz ≤ n
  · have hd : decide ((n : Int) < 36 + (zz : Int)) = false := by simp; omega
    go_wp2_with fail
    have htl : (bs.take (32 + zz)).length = 32 + zz := by rw [List.length_take, ← HN.out]; omega
    refine (sum30 (32 + zz) c A (bs.take (32 + zz)) _ B (Bs.take A2.out _) htl.symm (by omega)).mono ?_
    rintro e w3 ⟨rfl, rfl⟩
    have hv := sumN_lt (bs.take (32 + zz))
    have HSV := Lib.hid (show blkSum bs = sumN (bs.take (32 + zz)) by unfold blkSum; rw [HH.out]; rfl)
    clear htl
    generalize sumN (bs.take (32 + zz)) = sv at *
    go_wp2_with fail
    refine (at31i _ n c A bs _ B (by omega) (by omega) A2.out HN.out hc (by omega)).mono ?_
    rintro e w3 ⟨rfl, rfl⟩
    rw [show (32 + (zz : Int)).toNat = 32 + zz by omega]
    have HU := Lib.hid (at4_lt bs (32 + zz))
    by_cases hsum : sv = at4 bs (32 + zz)
    · have hd2 : (((sv : Nat) : Int) != ((at4 bs (32 + zz) : Nat) : Int)) = false := by rw [bne_eq_false_iff_eq, hsum]
      have HG := Lib.hid (openB_yes HG1.out (by rw [HH.out, ← HN.out]; show 36 + (zz : Int) ≤ _; omega) (by rw [HSV.out, HH.out]; exact hsum))
      clear hsum
      go_upto_region 9 with (fail)
      have HP := Lib.hid (show ((bs.drop 32).take zz).length = zz by rw [List.length_take, List.length_drop, ← HN.out]; omega)
      have s0 : IntKind.i64.wrap (32 + (zz : Int)) = 32 + (zz : Int) := IntWalk.i64_in _ ⟨by omega, by omega⟩
      have s1 : (32 : Int) ≤ 32 + (zz : Int) := by omega
      have s2 : 32 + (zz : Int) ≤ (c : Int) := by omega
      have s3 : (32 + (zz : Int)).toNat = 32 + zz := by omega
      have s4 : ¬ c = 32 := by omega
      have s5 : 32 + zz ≤ c := by omega
      have s6 : (0 : Int) ≤ 32 + (zz : Int) := by omega
      have hne : gh ≠ w.heap.size := by omega
      clear hd2 hd HU
      obtain ⟨p0, p1, p2, p3, p4, p5, p6, p7⟩ := Bk.eight (show Bk w2 w.heap.size 40 #[.int .i64 0, .int .i64 0, .int .i64 0, .int .i64 0, .int .i64 0, .bool false, .int .u32 0, .int .i64 0] from R2.out)
      obtain ⟨f0, f1, f2, f3, f4, f5, f6, f7⟩ := R2.out.free8
      go_region_held3 (fun w' => w'.cell? ⟨gh, 0, none⟩ = some (.int .i64 k) ∧ w'.cell? ⟨gh, 1, none⟩ = some (.int .i64 i) ∧ w'.cell? ⟨gh, 2, none⟩ = some (.int .i64 l) ∧ w'.cell? ⟨gh, 3, none⟩ = some (.int .i64 s) ∧ w'.cell? ⟨gh, 4, none⟩ = some (.int .i64 b) ∧ w'.cell? ⟨gh, 5, none⟩ = some (.bool t) ∧ w'.cell? ⟨gh, 6, none⟩ = some (.int .u32 nn) ∧ w'.cell? ⟨gh, 7, none⟩ = some (.int .i64 zz))
        (first | (with_reducible assumption) | (with_reducible exact Bk.eight (Bk.drew H2.out)) | (exact Bk.eight (Bk.drew (Bk.far8 H2.out hne)))) (fail)
      all_goals
        go_wp2_with fail
        refine bodyPost_ret (v := .tuple #[.agg (Hd.mk k i l s b t nn zz).cells.toArray, .slice (A.map (fun x => { block := x.block, off := x.off + 32 })) zz (c - 32), .int .u32 sv, .int .i64 0]) (by unfold Hd.cells; simp [results, Try.results16, go_sem, p0, p1, p2, p3, p4, p5, p6, p7]) rfl (OpenP.yes (A := A.map (fun x => { block := x.block, off := x.off + 32 })) (c := c - 32) HG.out ?_ ?_ ?_ ?_ ?_)
        · exact open_eq HH.out HSV.out HP.out
        · exact Nat.le_trans (Nat.le_of_eq (pay_len HH.out HP.out)) (by omega)
        · exact ref_pay HH.out A2.out hB W2.out.size
        · exact ref_low (by exact A2.out) (by rw [← HN.out]; omega)
        · exact (below_set8 W2.out (Nat.le_refl _)).drew
    · have hd2 : (((sv : Nat) : Int) != ((at4 bs (32 + zz) : Nat) : Int)) = true := by rw [bne_iff_ne]; omega
      have HG := Lib.hid (openB_no3 (bs := bs) (by rw [HSV.out, HH.out]; exact hsum))
      clear hsum
      go_upto_region 8 with (fail)
      obtain ⟨p0, p1, p2, p3, p4, p5, p6, p7⟩ := Bk.eight (show Bk w2 w.heap.size 40 #[.int .i64 0, .int .i64 0, .int .i64 0, .int .i64 0, .int .i64 0, .bool false, .int .u32 0, .int .i64 0] from R2.out)
      obtain ⟨f0, f1, f2, f3, f4, f5, f6, f7⟩ := R2.out.free8
      go_wp2_with fail
      refine bodyPost_ret (v := .tuple #[.agg noHd, .slice none 0 0, .int .u32 0, .int .i64 33]) (by unfold noHd; simp [results, Try.results16, go_sem, p0, p1, p2, p3, p4, p5, p6, p7]) rfl (OpenP.no HG.out (by decide) rfl ?_)
      exact below_set8 W2.out (Nat.le_refl _)
  · have HG := Lib.hid (openB_no2 (bs := bs) (by rw [HH.out, ← HN.out]; show ¬ (36 + (zz : Int) ≤ _); omega))
    have hd : decide ((n : Int) < 36 + (zz : Int)) = true := by simp; omega
    go_upto_region 5 with (fail)
    obtain ⟨p0, p1, p2, p3, p4, p5, p6, p7⟩ := Bk.eight (show Bk w2 w.heap.size 40 #[.int .i64 0, .int .i64 0, .int .i64 0, .int .i64 0, .int .i64 0, .bool false, .int .u32 0, .int .i64 0] from R2.out)
    obtain ⟨f0, f1, f2, f3, f4, f5, f6, f7⟩ := R2.out.free8
    go_wp2_with fail
    refine bodyPost_ret (v := .tuple #[.agg noHd, .slice none 0 0, .int .u32 0, .int .i64 10]) (by unfold noHd; simp [results, Try.results16, go_sem, p0, p1, p2, p3, p4, p5, p6, p7]) rfl (OpenP.no HG.out (by decide) rfl ?_)
    exact below_set8 W2.out (Nat.le_refl _)

theorem open16 (n c : Nat) (A : Option Addr) (bs : List UInt8) (w : World) (B : Nat) (hb : Bs w B A bs) (hB : B ≤ w.heap.size) (hn : n = bs.length) (hc : n ≤ c) (hm : n ≤ 65536) :
    Calls Try.prog 16 #[.slice A n c] w (OpenP B w bs) := by
  cases hg : getB bs with
  | false => exact open16a n c A bs w B hb hB hn hc hm hg
  | true => exact open16b n c A bs w B hb hB hn hc hm hg
end Go.Proofs.Ytfeicdflkpgbnaa
