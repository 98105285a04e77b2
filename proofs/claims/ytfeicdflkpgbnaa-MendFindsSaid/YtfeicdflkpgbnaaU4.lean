/-
  Proved: head.Open opens a block as the plain function does: the refusals, and the block that is there. Conditions: those that each theorem lists ahead of its colon, and no others.
-/
import Derived.Test.YtfeicdflkpgbnaaU1
import Derived.Test.YtfeicdflkpgbnaaPe
namespace Go.Proofs.Ytfeicdflkpgbnaa
open Go.RowKit

/-- What Open answers: a block, its payload in new memory; or none. -/
def OpenP (B : Nat) (w : World) (bs : List UInt8) (e : Ending) (w' : World) : Prop :=
  Below w.heap.size w w' ∧ if openB bs = true then ∃ A c, e = .returned (.tuple #[.agg (hdOf bs).cells.toArray, .slice A (payL bs).length c, .int .u32 (blkSum bs : Nat), .int .i64 0]) ∧ (payL bs).length ≤ c ∧ Bs w' w'.heap.size A (payL bs) ∧ ∀ a, A = some a → a.block < B ∨ w.heap.size ≤ a.block
    else ∃ x : Int, x ≠ 0 ∧ e = .returned (.tuple #[.agg noHd, .slice none 0 0, .int .u32 0, .int .i64 x])

theorem openB_no1 {bs : List UInt8} (h : getB bs = false) : openB bs = false := by unfold openB; rw [h]; rfl
theorem openB_no2 {bs : List UInt8} (h : ¬ (36 + (hdOf bs).size ≤ bs.length)) : openB bs = false := by unfold openB; simp [h]
theorem openB_no3 {bs : List UInt8} (h : ¬ (blkSum bs = at4 bs (32 + (hdOf bs).size.toNat))) : openB bs = false := by unfold openB; unfold blkSum at h; simp [h]
theorem openB_yes {bs : List UInt8} (h1 : getB bs = true) (h2 : 36 + (hdOf bs).size ≤ bs.length) (h3 : blkSum bs = at4 bs (32 + (hdOf bs).size.toNat)) : openB bs = true := by
  unfold openB; unfold blkSum at h3; simp [h1, h2, h3]
theorem OpenP.no {B : Nat} {w w' : World} {bs : List UInt8} {e : Ending} {x : Int} (hg : openB bs = false) (hc : x ≠ 0) (he : e = .returned (.tuple #[.agg noHd, .slice none 0 0, .int .u32 0, .int .i64 x])) (hb : Below w.heap.size w w') : OpenP B w bs e w' := by
  refine ⟨hb, ?_⟩
  rw [if_neg (by rw [hg]; decide)]
  exact ⟨x, hc, he⟩
theorem OpenP.yes {B : Nat} {w w' : World} {bs : List UInt8} {e : Ending} {A : Option Addr} {c : Nat} (hg : openB bs = true) (he : e = .returned (.tuple #[.agg (hdOf bs).cells.toArray, .slice A (payL bs).length c, .int .u32 (blkSum bs : Nat), .int .i64 0]))
    (hc : (payL bs).length ≤ c) (hp : Bs w' w'.heap.size A (payL bs)) (ha : ∀ a, A = some a → a.block < B ∨ w.heap.size ≤ a.block) (hb : Below w.heap.size w w') : OpenP B w bs e w' := by
  refine ⟨hb, ?_⟩
  rw [if_pos hg]
  exact ⟨A, c, he, hc, hp, ha⟩

theorem Bk.far8 {w : World} {g g' : Nat} {t : TypeId} {cs : Array Value} {a0 a1 a2 a3 a4 a5 a6 a7 : Value} (h : Bk w g t cs) (hne : g ≠ g') : Bk (set8 w g' a0 a1 a2 a3 a4 a5 a6 a7) g t cs :=
  (((((((h.far (p := ⟨g', 0, none⟩) hne a0).far (p := ⟨g', 1, none⟩) hne a1).far (p := ⟨g', 2, none⟩) hne a2).far (p := ⟨g', 3, none⟩) hne a3).far (p := ⟨g', 4, none⟩) hne a4).far (p := ⟨g', 5, none⟩) hne a5).far (p := ⟨g', 6, none⟩) hne a6).far (p := ⟨g', 7, none⟩) hne a7

theorem Rd.farB {w : World} {B : Nat} {A : Option Addr} {xs : List Value} (h : Rd w B A xs) {p : Addr} (hp : ∀ a, A = some a → a.block ≠ p.block) (u : Value) : Rd (w.setCell p u) B A xs := fun hne => by
  obtain ⟨b, o, e, hb, hc⟩ := h hne
  exact ⟨b, o, e, hb, fun j v hv => (World.cell?_of_block (a := ⟨b, o + j, none⟩) (Below.heap_setCell w p u b (hp _ e))).trans (hc j v hv)⟩
theorem Bs.far8 {w : World} {B g : Nat} {A : Option Addr} {bs : List UInt8} {a0 a1 a2 a3 a4 a5 a6 a7 : Value} (h : Bs w B A bs) (hp : ∀ a, A = some a → a.block ≠ g) : Bs (set8 w g a0 a1 a2 a3 a4 a5 a6 a7) B A bs :=
  (((((((Rd.farB (xs := bs.map B8) h (p := ⟨g, 0, none⟩) hp a0).farB (p := ⟨g, 1, none⟩) hp a1).farB (p := ⟨g, 2, none⟩) hp a2).farB (p := ⟨g, 3, none⟩) hp a3).farB (p := ⟨g, 4, none⟩) hp a4).farB (p := ⟨g, 5, none⟩) hp a5).farB (p := ⟨g, 6, none⟩) hp a6).farB (p := ⟨g, 7, none⟩) hp a7
theorem size_set8 (w : World) (g : Nat) (a0 a1 a2 a3 a4 a5 a6 a7 : Value) : (set8 w g a0 a1 a2 a3 a4 a5 a6 a7).heap.size = w.heap.size := by simp [set8, World.setCell]
theorem bs_set8 {w : World} {g : Nat} {A : Option Addr} {bs : List UInt8} {a0 a1 a2 a3 a4 a5 a6 a7 : Value} (h : Bs w w.heap.size A bs) (hp : ∀ a, A = some a → a.block ≠ g) : Bs (set8 w g a0 a1 a2 a3 a4 a5 a6 a7) (set8 w g a0 a1 a2 a3 a4 a5 a6 a7).heap.size A bs := by
  rw [size_set8]
  exact Bs.far8 h hp
theorem pay_eq {bs : List UInt8} {k i l s b : Int} {t : Bool} {nn : Int} {zz : Nat} (h : hdOf bs = ⟨k, i, l, s, b, t, nn, zz⟩) : payL bs = (bs.drop 32).take zz := by unfold payL; rw [h]; rfl
theorem pay_len {bs : List UInt8} {k i l s b : Int} {t : Bool} {nn : Int} {zz : Nat} (h : hdOf bs = ⟨k, i, l, s, b, t, nn, zz⟩) (hp : ((bs.drop 32).take zz).length = zz) : (payL bs).length = zz := by rw [pay_eq h, hp]

theorem open_eq {bs : List UInt8} {k i l s b : Int} {t : Bool} {nn : Int} {zz sv : Nat} {A : Option Addr} {c : Nat} (h : hdOf bs = ⟨k, i, l, s, b, t, nn, zz⟩) (hs : blkSum bs = sv) (hp : ((bs.drop 32).take zz).length = zz) :
    Ending.returned (.tuple #[.agg (Hd.mk k i l s b t nn zz).cells.toArray, .slice A zz c, .int .u32 sv, .int .i64 0]) = Ending.returned (.tuple #[.agg (hdOf bs).cells.toArray, .slice A (payL bs).length c, .int .u32 (blkSum bs : Nat), .int .i64 0]) := by
  rw [pay_len h hp, hs, h]

theorem get44 (n c gt : Nat) (A : Option Addr) (bs : List UInt8) (w : World) (B : Nat) (ht : Tb w gt) (hb : Bs w B A bs) (hB : B ≤ w.heap.size) (hn : n = bs.length) (hc : n ≤ c) (hm : n ≤ 65536) :
    Calls Try.prog 44 #[.pointer (some ⟨gt, 0, none⟩), .slice A n c] w (GetP w bs) := by
  by_cases hs : startB bs = true ∧ 32 ≤ bs.length
  · exact get44b n c gt A bs w B ht hb hB hn hc hm hs.1 hs.2
  · exact get44a n c gt A bs w B hb hB hn hm hs

theorem getB_size {bs : List UInt8} (h : getB bs = true) : 0 ≤ (hdOf bs).size ∧ (hdOf bs).size ≤ 16777216 ∧ 32 ≤ bs.length := by
  unfold getB at h
  simp only [Bool.and_eq_true, decide_eq_true_eq] at h
  have hz := (rightB_true.1 h.2).2.2.2.2.2.1
  exact ⟨hz.1, hz.2, h.1.1.1.2⟩

set_option maxHeartbeats 1000000 in
set_option maxRecDepth 20000 in
theorem open27a (n c gt : Nat) (A : Option Addr) (bs : List UInt8) (w : World) (B : Nat) (ht : Tb w gt) (hb : Bs w B A bs) (hB : B ≤ w.heap.size) (hn : n = bs.length) (hc : n ≤ c) (hm : n ≤ 65536) (hg : getB bs = false) :
    Calls Try.prog 27 #[.pointer (some ⟨gt, 0, none⟩), .slice A n c] w (OpenP B w bs) := by
  have HT := Lib.hid (show Tb (w.alloc (.cells noHd 40)) gt from Bk.alloc ht _)
  have HA := Lib.hid (hb.alloc hB (.cells noHd 40))
  have HG := Lib.hid (openB_no1 hg)
  have HG1 := Lib.hid hg
  have HN := Lib.hid hn
  clear ht hb hn hg
  go_enter Try.func27, Try.ntmps27
  go_wp2_with fail
  refine (get44 n c gt A bs _ B (by exact HT.out) (by exact HA.out) (by simp; omega) HN.out hc hm).mono ?_
  rintro e w1 ⟨hb1, he⟩
  rw [if_neg (by rw [HG1.out]; decide)] at he
  obtain ⟨x, hx, rfl⟩ := he
  have r1 := (Bk.new w 40 noHd).below hb1 (by simp)
  have w1' := ((Below.refl w.heap.size w).alloc (Nat.le_refl _) (.cells noHd 40)).trans (hb1.mono (by simp))
  have R1 := Lib.hid r1
  have W1 := Lib.hid w1'
  clear hb1 r1 w1'
  have hd : (x != 0) = true := by rw [bne_iff_ne]; exact hx
  unfold noHd
  go_upto_region 3 with (fail)
  have R2 := Lib.hid (R1.out.alloc (.cells #[.int .i64 0, .int .i64 0, .int .i64 0, .int .i64 0, .int .i64 0, .bool false, .int .u32 0, .int .i64 0] 40))
  have W2 := Lib.hid (W1.out.alloc W1.out.size (.cells #[.int .i64 0, .int .i64 0, .int .i64 0, .int .i64 0, .int .i64 0, .bool false, .int .u32 0, .int .i64 0] 40))
  clear R1 W1
  generalize w1.alloc (.cells #[.int .i64 0, .int .i64 0, .int .i64 0, .int .i64 0, .int .i64 0, .bool false, .int .u32 0, .int .i64 0] 40) = w2 at *
  obtain ⟨p0, p1, p2, p3, p4, p5, p6, p7⟩ := Bk.eight (show Bk w2 w.heap.size 40 #[.int .i64 0, .int .i64 0, .int .i64 0, .int .i64 0, .int .i64 0, .bool false, .int .u32 0, .int .i64 0] from R2.out)
  obtain ⟨f0, f1, f2, f3, f4, f5, f6, f7⟩ := R2.out.free8
  go_wp2_with fail
  refine bodyPost_ret (v := .tuple #[.agg noHd, .slice none 0 0, .int .u32 0, .int .i64 x]) (by unfold noHd; simp [results, Try.results27, go_sem, p0, p1, p2, p3, p4, p5, p6, p7]) rfl (OpenP.no HG.out hx rfl ?_)
  exact below_set8 W2.out (Nat.le_refl _)

set_option maxHeartbeats 4000000 in
set_option maxRecDepth 20000 in
theorem open27b (n c gt : Nat) (A : Option Addr) (bs : List UInt8) (w : World) (B : Nat) (ht : Tb w gt) (hb : Bs w B A bs) (hB : B ≤ w.heap.size) (hn : n = bs.length) (hc : n ≤ c) (hm : n ≤ 65536) (hg : getB bs = true) :
    Calls Try.prog 27 #[.pointer (some ⟨gt, 0, none⟩), .slice A n c] w (OpenP B w bs) := by
  have HT := Lib.hid (show Tb (w.alloc (.cells noHd 40)) gt from Bk.alloc ht _)
  have HA := Lib.hid (hb.alloc hB (.cells noHd 40))
  have HG1 := Lib.hid hg
  have HN := Lib.hid hn
  obtain ⟨hs0, hs1, h32⟩ := getB_size hg
  have hgt := ht.lt
  clear ht hb hn hg
  go_enter Try.func27, Try.ntmps27
  go_wp2_with fail
  refine (get44 n c gt A bs _ B (by exact HT.out) (by exact HA.out) (by simp; omega) HN.out hc hm).mono ?_
  rintro e w1 ⟨hb1, he⟩
  rw [if_pos HG1.out] at he
  subst he
  have r1 := (Bk.new w 40 noHd).below hb1 (by simp)
  have w1' := ((Below.refl w.heap.size w).alloc (Nat.le_refl _) (.cells noHd 40)).trans (hb1.mono (by simp))
  have T1 := Lib.hid (show Tb w1 gt from Bk.below HT.out hb1 (by simp; omega))
  have A1 := Lib.hid (HA.out.below (hb1.mono (by simp; omega)))
  have R1 := Lib.hid r1
  have W1 := Lib.hid w1'
  clear hb1 r1 w1' HT HA
  generalize hh : hdOf bs = hd0 at *
  obtain ⟨k, i, l, s, b, t, nn, z⟩ := hd0
  have HH := Lib.hid hh
  clear hh
  dsimp only at hs0 hs1
  unfold Hd.cells
  dsimp only
  go_upto_region 4 with (fail)
  have R2 := Lib.hid (R1.out.alloc (.cells #[.int .i64 k, .int .i64 i, .int .i64 l, .int .i64 s, .int .i64 b, .bool t, .int .u32 nn, .int .i64 z] 40))
  have H2 := Lib.hid (Bk.new w1 40 #[.int .i64 k, .int .i64 i, .int .i64 l, .int .i64 s, .int .i64 b, .bool t, .int .u32 nn, .int .i64 z])
  have W2 := Lib.hid (W1.out.alloc W1.out.size (.cells #[.int .i64 k, .int .i64 i, .int .i64 l, .int .i64 s, .int .i64 b, .bool t, .int .u32 nn, .int .i64 z] 40))
  have T2 := Lib.hid (show Tb (w1.alloc (.cells #[.int .i64 k, .int .i64 i, .int .i64 l, .int .i64 s, .int .i64 b, .bool t, .int .u32 nn, .int .i64 z] 40)) gt from Bk.alloc T1.out _)
  have A2 := Lib.hid (A1.out.alloc (Nat.le_trans hB W1.out.size) (.cells #[.int .i64 k, .int .i64 i, .int .i64 l, .int .i64 s, .int .i64 b, .bool t, .int .u32 nn, .int .i64 z] 40))
  have hgh : w.heap.size < w1.heap.size := R1.out.lt
  clear R1 W1 T1 A1
  generalize w1.alloc (.cells #[.int .i64 k, .int .i64 i, .int .i64 l, .int .i64 s, .int .i64 b, .bool t, .int .u32 nn, .int .i64 z] 40) = w2 at *
  generalize w1.heap.size = gh at *
  obtain ⟨q0, q1, q2, q3, q4, q5, q6, q7⟩ := H2.out.eight
  clear q0 q1 q2 q3 q4 q5 q6
  obtain ⟨zz, rfl⟩ := Int.eq_ofNat_of_zero_le hs0
  by_cases hlen : 36 + zz ≤ n
  · have hd : decide ((n : Int) < 32 + (zz : Int) + 4) = false := by simp; omega
    go_wp2_with fail
    have htl : (bs.take (32 + zz)).length = 32 + zz := by rw [List.length_take, ← HN.out]; omega
    refine (sum45 (32 + zz) c A (bs.take (32 + zz)) gt _ B T2.out (Bs.take A2.out _) htl.symm (by omega)).mono ?_
    rintro e w3 ⟨rfl, rfl⟩
    have hv := sumN_lt (bs.take (32 + zz))
    have HSV := Lib.hid (show blkSum bs = sumN (bs.take (32 + zz)) by unfold blkSum; rw [HH.out]; rfl)
    clear htl
    generalize sumN (bs.take (32 + zz)) = sv at *
    go_wp2_with fail
    have hdl : (bs.drop (32 + zz)).length = n - (32 + zz) := by rw [List.length_drop, ← HN.out]
    have HD := Lib.hid hdl
    clear hdl
    refine (take46 _ _ _ (bs.drop (32 + zz)) _ B (Bs.cutm A2.out (32 + zz)) (by have := W2.out.size; omega) HD.out.symm (by omega)).mono ?_
    rintro e w3 ⟨g, rfl, hg3, hk3, hb3⟩
    have R3 := Lib.hid (R2.out.below hb3 R2.out.lt)
    have W3 := Lib.hid (W2.out.trans (hb3.mono W2.out.size))
    have A3 := Lib.hid (A2.out.below (hb3.mono (by have := W2.out.size; omega)))
    have H3 := Lib.hid (H2.out.below hb3 H2.out.lt)
    have hr2 := R2.out.lt
    have hh2 := H2.out.lt
    have K3 := Lib.hid hk3
    clear R2 W2 A2 H2 T2 hb3 hk3
    go_wp2_with fail
    refine (u47 g 4 0 (bs.drop (32 + zz)) _ K3.out (by omega) (by omega) (by rw [HD.out]; omega) (by rw [HD.out]; omega)).mono ?_
    rintro e w4 ⟨rfl, hk4, hg4⟩
    have R4 := Lib.hid (R3.out.gr hg4 (by omega))
    have W4 := Lib.hid (below_gr W3.out hg4 (by omega) W3.out.size)
    have A4 := Lib.hid (A3.out.gr hg4 (by omega) (by have := W3.out.size; omega))
    have H4 := Lib.hid (H3.out.gr hg4 (by omega))
    clear R3 W3 A3 H3 K3 hg4 hk4
    have HV := Lib.hid (show at4 bs (32 + zz) = leV (((bs.drop (32 + zz)).drop 0).take 4) from rfl)
    rw [← HV.out]
    have hu : IntKind.u64.wrap ((sv : Nat) : Int) = ((sv : Nat) : Int) := IntWalk.u64_in _ ⟨by omega, by omega⟩
    have HU := Lib.hid (at4_lt bs (32 + zz))
    by_cases hsum : sv = at4 bs (32 + zz)
    · have hd2 : (((sv : Nat) : Int) != ((at4 bs (32 + zz) : Nat) : Int)) = false := by rw [bne_eq_false_iff_eq, hsum]
      have HG := Lib.hid (openB_yes HG1.out (by rw [HH.out, ← HN.out]; show 36 + (zz : Int) ≤ _; omega) (by rw [HSV.out, HH.out]; exact hsum))
      clear hsum
      go_upto_region 10 with (fail)
      have HP := Lib.hid (show ((bs.drop 32).take zz).length = zz by rw [List.length_take, List.length_drop, ← HN.out]; omega)
      have hsz4 := W4.out.size
      have hr4 := R4.out.lt
      have hh4 := H4.out.lt
      clear HV HU hd2 hd
      have s1 : (32 : Int) ≤ 32 + (zz : Int) := by omega
      have s2 : 32 + (zz : Int) ≤ (c : Int) := by omega
      have s3 : (32 + (zz : Int)).toNat = 32 + zz := by omega
      have s4 : ¬ c = 32 := by omega
      have s5 : 32 + zz ≤ c := by omega
      have s6 : (0 : Int) ≤ 32 + (zz : Int) := by omega
      obtain ⟨q0, q1, q2, q3, q4, q5, q6, q7⟩ := Bk.eight (H4.out); obtain ⟨p0, p1, p2, p3, p4, p5, p6, p7⟩ := Bk.eight (show Bk w4 w.heap.size 40 #[.int .i64 0, .int .i64 0, .int .i64 0, .int .i64 0, .int .i64 0, .bool false, .int .u32 0, .int .i64 0] from R4.out); obtain ⟨f0, f1, f2, f3, f4, f5, f6, f7⟩ := Bk.free8 (R4.out)
      go_region_held3 (fun w' => w'.cell? ⟨gh, 0, none⟩ = some (.int .i64 k) ∧ w'.cell? ⟨gh, 1, none⟩ = some (.int .i64 i) ∧ w'.cell? ⟨gh, 2, none⟩ = some (.int .i64 l) ∧ w'.cell? ⟨gh, 3, none⟩ = some (.int .i64 s) ∧ w'.cell? ⟨gh, 4, none⟩ = some (.int .i64 b) ∧ w'.cell? ⟨gh, 5, none⟩ = some (.bool t) ∧ w'.cell? ⟨gh, 6, none⟩ = some (.int .u32 nn) ∧ w'.cell? ⟨gh, 7, none⟩ = some (.int .i64 zz))
        (first | (with_reducible assumption) | (with_reducible exact Bk.eight (Bk.drew H4.out)) | (with_reducible exact Bk.eight H6.out) | (with_reducible exact Bk.eight H5.out) | (exact Bk.eight (Bk.far8 H6.out (by omega))))
        (first
        | (go_at_call 46; refine (take46 _ _ _ ((bs.drop 32).take zz) _ B (by exact Bs.take (Bs.cutm A4.out 32) zz) (by exact Nat.le_trans hB hsz4) HP.out.symm (by omega)).mono ?_; rintro e w5 ⟨g5, rfl, hg5, hk5, hb5⟩; have R5 := Lib.hid ((Bk.drew R4.out).below hb5 hr4); have H5 := Lib.hid ((Bk.drew H4.out).below hb5 hh4); have W5 := Lib.hid (W4.out.drew.trans (hb5.mono hsz4)); have K5 := Lib.hid hk5; have hg5' : w4.heap.size ≤ g5 := hg5; clear hb5 hk5 hg5; clear q0 q1 q2 q3 q4 q5 q6 q7 p0 p1 p2 p3 p4 p5 p6 p7 f0 f1 f2 f3 f4 f5 f6 f7; obtain ⟨q0, q1, q2, q3, q4, q5, q6, q7⟩ := Bk.eight (H5.out); obtain ⟨p0, p1, p2, p3, p4, p5, p6, p7⟩ := Bk.eight (show Bk w5 w.heap.size 40 #[.int .i64 0, .int .i64 0, .int .i64 0, .int .i64 0, .int .i64 0, .bool false, .int .u32 0, .int .i64 0] from R5.out); obtain ⟨f0, f1, f2, f3, f4, f5, f6, f7⟩ := Bk.free8 (R5.out))
        | (go_at_call 48; refine (raw48 _ zz 0 ((bs.drop 32).take zz) _ (by exact K5.out) (by rw [HP.out]; omega) (by rw [HP.out]; omega)).mono ?_; rintro e w6 ⟨A6, c6, rfl, hc6, hp6, hk6, hg6, ha6⟩; have HA6 := Lib.hid (fun a e => Nat.le_trans (W5.out.size) (ha6 a e)); have HZ6 := Lib.hid (fun a (e : A6 = some a) => Nat.lt_of_lt_of_le R5.out.lt (ha6 a e)); clear ha6; have R6 := Lib.hid (R5.out.gr hg6 (by omega)); have H6 := Lib.hid (H5.out.gr hg6 (by omega)); have W6 := Lib.hid (below_gr W5.out hg6 (by omega) W5.out.size); have P6 := Lib.hid hp6; clear hg6 hp6 hk6; clear q0 q1 q2 q3 q4 q5 q6 q7 p0 p1 p2 p3 p4 p5 p6 p7 f0 f1 f2 f3 f4 f5 f6 f7; obtain ⟨q0, q1, q2, q3, q4, q5, q6, q7⟩ := Bk.eight (H6.out); obtain ⟨p0, p1, p2, p3, p4, p5, p6, p7⟩ := Bk.eight (show Bk w6 w.heap.size 40 #[.int .i64 0, .int .i64 0, .int .i64 0, .int .i64 0, .int .i64 0, .bool false, .int .u32 0, .int .i64 0] from R6.out); obtain ⟨f0, f1, f2, f3, f4, f5, f6, f7⟩ := Bk.free8 (R6.out)))
      all_goals
        go_wp2_with fail
        refine bodyPost_ret (v := .tuple #[.agg (Hd.mk k i l s b t nn zz).cells.toArray, .slice A6 zz c6, .int .u32 sv, .int .i64 0]) (by unfold Hd.cells; simp [results, Try.results27, go_sem, p0, p1, p2, p3, p4, p5, p6, p7]) rfl (OpenP.yes (A := A6) (c := c6) HG.out ?_ ?_ ?_ ?_ ?_)
        · exact open_eq HH.out HSV.out HP.out
        · exact Nat.le_trans (Nat.le_of_eq (pay_len HH.out HP.out)) hc6
        · have hp := P6.out
          rw [List.drop_zero, List.take_of_length_le (by rw [HP.out]; omega)] at hp
          rw [pay_eq HH.out]
          exact bs_set8 hp (fun a e => by have := HZ6.out a e; omega)
        · exact fun a e => .inr (Nat.le_of_lt (HZ6.out a e))
        · exact below_set8 W6.out (Nat.le_refl _)
    · have hd2 : (((sv : Nat) : Int) != ((at4 bs (32 + zz) : Nat) : Int)) = true := by rw [bne_iff_ne]; omega
      have HG := Lib.hid (openB_no3 (bs := bs) (by rw [HSV.out, HH.out]; exact hsum))
      clear hsum
      go_upto_region 9 with (fail)
      obtain ⟨p0, p1, p2, p3, p4, p5, p6, p7⟩ := Bk.eight (show Bk w4 w.heap.size 40 #[.int .i64 0, .int .i64 0, .int .i64 0, .int .i64 0, .int .i64 0, .bool false, .int .u32 0, .int .i64 0] from R4.out)
      obtain ⟨f0, f1, f2, f3, f4, f5, f6, f7⟩ := R4.out.free8
      go_wp2_with fail
      refine bodyPost_ret (v := .tuple #[.agg noHd, .slice none 0 0, .int .u32 0, .int .i64 33]) (by unfold noHd; simp [results, Try.results27, go_sem, p0, p1, p2, p3, p4, p5, p6, p7]) rfl (OpenP.no HG.out (by decide) rfl ?_)
      exact below_set8 W4.out (Nat.le_refl _)
  · have HG := Lib.hid (openB_no2 (bs := bs) (by rw [HH.out, ← HN.out]; show ¬ (36 + (zz : Int) ≤ _); omega))
    have hd : decide ((n : Int) < 32 + (zz : Int) + 4) = true := by simp; omega
    go_upto_region 6 with (fail)
    obtain ⟨p0, p1, p2, p3, p4, p5, p6, p7⟩ := Bk.eight (show Bk w2 w.heap.size 40 #[.int .i64 0, .int .i64 0, .int .i64 0, .int .i64 0, .int .i64 0, .bool false, .int .u32 0, .int .i64 0] from R2.out)
    obtain ⟨f0, f1, f2, f3, f4, f5, f6, f7⟩ := R2.out.free8
    go_wp2_with fail
    refine bodyPost_ret (v := .tuple #[.agg noHd, .slice none 0 0, .int .u32 0, .int .i64 10]) (by unfold noHd; simp [results, Try.results27, go_sem, p0, p1, p2, p3, p4, p5, p6, p7]) rfl (OpenP.no HG.out (by decide) rfl ?_)
    exact below_set8 W2.out (Nat.le_refl _)
end Go.Proofs.Ytfeicdflkpgbnaa
