/-
  Proved: mend.Lost tells how many bytes stand in no block. Conditions: those that each theorem lists ahead of its colon, and no others.
-/
import Derived.Test.YtfeicdflkpgbnaaV3
namespace Go.Proofs.Ytfeicdflkpgbnaa
open Go.RowKit

/-- The bytes that blocks take. -/
def lossI : List Fd → Int
  | [] => 0
  | f :: fs => 36 + f.hd.size + lossI fs
theorem lossI_append (fs gs : List Fd) : lossI (fs ++ gs) = lossI fs + lossI gs := by
  induction fs with
  | nil => simp [lossI]
  | cons f fs ih => simp only [List.cons_append, lossI, ih]; omega
theorem lossI_succ {fs : List Fd} {k : Nat} (hk : k < fs.length) : lossI (fs.take (k + 1)) = lossI (fs.take k) + (36 + fs[k].hd.size) := by
  rw [List.take_add_one, lossI_append, List.getElem?_eq_getElem hk]; simp [lossI]
theorem lossI_nonneg : ∀ (fs : List Fd), (∀ f ∈ fs, 0 ≤ f.hd.size) → 0 ≤ lossI fs
  | [], _ => by simp [lossI]
  | f :: fs, h => by
    have h1 := h f (by simp)
    have h2 := lossI_nonneg fs fun g hg => h g (by simp [hg])
    simp only [lossI]; omega
theorem lossI_le {fs : List Fd} (h : ∀ f ∈ fs, 0 ≤ f.hd.size) (k : Nat) : 0 ≤ lossI (fs.take k) ∧ lossI (fs.take k) ≤ lossI fs := by
  have h1 := lossI_nonneg (fs.take k) fun f hf => h f (List.mem_of_mem_take hf)
  have h2 := lossI_nonneg (fs.drop k) fun f hf => h f (List.mem_of_mem_drop hf)
  have h3 := lossI_append (fs.take k) (fs.drop k)
  rw [List.take_append_drop] at h3
  omega
theorem scanL_good : ∀ (n : Nat) (bs : List UInt8) (k : Nat), ∀ f ∈ scanL n bs k, rightB f.hd = true
  | 0, _, _, f, h => by simp [scanL] at h
  | n + 1, bs, k, f, h => by
    unfold scanL at h
    split at h
    · split at h
      · rename_i ho
        rcases List.mem_cons.1 h with rfl | h
        · exact (openB_right ho).1
        · exact scanL_good n bs _ f h
      · exact scanL_good n bs _ f h
    · simp at h
theorem right_size {h : Hd} (hr : rightB h = true) : 0 ≤ h.size ∧ h.size ≤ 16777216 := (rightB_true.1 hr).2.2.2.2.2.1
theorem scanL_loss : ∀ (n : Nat) (bs : List UInt8) (k : Nat), k ≤ bs.length → lossI (scanL n bs k) ≤ (bs.length : Int) - k
  | 0, bs, k, h => by simp only [scanL, lossI]; omega
  | n + 1, bs, k, h => by
    unfold scanL
    split
    · split
      · rename_i ho
        obtain ⟨_, h0, h1⟩ := openB_right ho
        rw [List.length_drop] at h1
        have := scanL_loss n bs (k + 36 + (hdOf (bs.drop k)).size.toNat) (by omega)
        simp only [lossI, fdAt]
        omega
      · have := scanL_loss n bs (k + 1) (by omega)
        omega
    · simp only [lossI]; omega
theorem scan_good (bs : List UInt8) : ∀ f ∈ scan bs 0, rightB f.hd = true := scanL_good _ bs 0
theorem scan_sizes (bs : List UInt8) : ∀ f ∈ scan bs 0, 0 ≤ f.hd.size := fun f h => (right_size (scan_good bs f h)).1
theorem scan_loss (bs : List UInt8) : lossI (scan bs 0) ≤ bs.length := by have := scanL_loss (bs.length - 0) bs 0 (Nat.zero_le _); unfold scan; omega
theorem count_loss : ∀ (fs : List Fd), (∀ f ∈ fs, 0 ≤ f.hd.size) → 36 * (fs.length : Int) ≤ lossI fs
  | [], _ => by simp [lossI]
  | f :: fs, h => by
    have h1 := h f (by simp)
    have h2 := count_loss fs fun g hg => h g (by simp [hg])
    simp only [lossI, List.length_cons]; omega
theorem scan_count (bs : List UInt8) : (scan bs 0).length ≤ bs.length := by have h1 := count_loss _ (scan_sizes bs); have h2 := scan_loss bs; omega

theorem Bk.cells11 {w : World} {g : Nat} {t : TypeId} {a0 a1 a2 a3 a4 a5 a6 a7 a8 a9 a10 : Value} (h : Bk w g t #[a0, a1, a2, a3, a4, a5, a6, a7, a8, a9, a10]) :
    w.cell? ⟨g, 0, none⟩ = some a0 ∧ w.cell? ⟨g, 1, none⟩ = some a1 ∧ w.cell? ⟨g, 2, none⟩ = some a2 ∧ w.cell? ⟨g, 3, none⟩ = some a3 ∧ w.cell? ⟨g, 4, none⟩ = some a4 ∧ w.cell? ⟨g, 5, none⟩ = some a5 ∧
      w.cell? ⟨g, 6, none⟩ = some a6 ∧ w.cell? ⟨g, 7, none⟩ = some a7 ∧ w.cell? ⟨g, 8, none⟩ = some a8 ∧ w.cell? ⟨g, 9, none⟩ = some a9 ∧ w.cell? ⟨g, 10, none⟩ = some a10 :=
  ⟨h.cell 0, h.cell 1, h.cell 2, h.cell 3, h.cell 4, h.cell 5, h.cell 6, h.cell 7, h.cell 8, h.cell 9, h.cell 10⟩

set_option maxHeartbeats 1000000 in
set_option maxRecDepth 20000 in
theorem lost13 (n c gt : Nat) (A : Option Addr) (bs : List UInt8) (w : World) (B : Nat) (ht : Tb w gt) (hb : Bs w B A bs) (hB : B ≤ w.heap.size) (hn : n = bs.length) (hc : n ≤ c) (hm : n ≤ 65536) :
    Calls Try.prog 13 #[.pointer (some ⟨gt, 0, none⟩), .slice A n c] w fun e w' => e = .returned (.int .i64 ((n : Int) - lossI (scan bs 0))) ∧ Below w.heap.size w w' := by
  have HT := Lib.hid ht
  have HA := Lib.hid hb
  have HN := Lib.hid hn
  clear ht hb hn
  go_enter Try.func13, Try.ntmps13
  go_wp2_with fail
  refine (scan11 n c gt A bs _ B HT.out HA.out hB HN.out hc hm).mono ?_
  rintro e w1 ⟨A1, c1, xs, rfl, hc1, hr1, hf1, hb1⟩
  have HF := Lib.hid (show Fs w1 A1 c1 (scan bs 0) xs from ⟨hc1, hr1, hf1⟩)
  have W1 := Lib.hid hb1
  have hz := hb1.size
  have HG := Lib.hid (scan_good bs)
  have HS := Lib.hid (scan_sizes bs)
  have hlo := scan_loss bs
  have hct := scan_count bs
  rw [← HN.out] at hlo hct
  clear hr1 hf1 hb1 HT HA HN
  generalize hq : scan bs 0 = fs at *
  have HQ := Lib.hid hq
  clear hq
  go_wp2_with fail
  go_loopw [5, 14] (fun v i wr => ∃ k : Nat, k ≤ fs.length ∧ i = .int .i64 k ∧ v = .int .i64 ((n : Int) - lossI (fs.take k)) ∧ Below w1.heap.size w1 wr) (fun _ i _ => fs.length - (intOf i).toNat)
  case atStart => exact ⟨0, Nat.zero_le _, rfl, by simp [lossI], Below.refl _ _⟩
  case round =>
    obtain ⟨k, hk, rfl, rfl, hbel⟩ := hrel
    have HB := Lib.hid hbel
    have hsz := hbel.size
    clear hbel
    have hlk := lossI_le HS.out k
    by_cases hlt : k < fs.length
    · have hlk1 := lossI_le HS.out (k + 1)
      have hgd := HG.out _ (List.getElem_mem hlt)
      rw [lossI_succ hlt] at hlk1
      have HL := Lib.hid (lossI_succ hlt)
      obtain ⟨b, o, rfl, hb, hcl⟩ := HF.out.lies hlt
      obtain ⟨Ap, cp, hp, htk, c0, c1', c2, c3, c4, c5, c6, c7, c8, c9, c10⟩ := HF.out.2.2.eleven (wr := wr) (fun j u hu => (HB.out.cell (p := ⟨b, o + j, none⟩) hb).trans (hcl j u hu)) k hlt
      clear hcl hp htk
      generalize hf : fs[k] = f at *
      clear hf
      obtain ⟨f0, ⟨f1, f2, f3, f4, f5, f6, f7, f8⟩, f9, f10⟩ := f
      dsimp only at c0 c1' c2 c3 c4 c5 c6 c7 c8 c9 c10 hlk1 HL hgd
      have h8 := right_size hgd
      dsimp only at h8
      have HR := Lib.hid hgd
      clear hgd
      generalize f9.length = pl at *
      generalize lossI (fs.take k) = lk at *
      go_upto_region 5 with (fail)
      have K2 := Lib.hid (Bk.new wr 45 #[.int .i64 f0, .int .i64 f1, .int .i64 f2, .int .i64 f3, .int .i64 f4, .int .i64 f5, .bool f6, .int .u32 f7, .int .i64 f8, .slice Ap pl cp, .int .u32 f10])
      have B2 := Lib.hid (HB.out.alloc hsz (.cells #[.int .i64 f0, .int .i64 f1, .int .i64 f2, .int .i64 f3, .int .i64 f4, .int .i64 f5, .bool f6, .int .u32 f7, .int .i64 f8, .slice Ap pl cp, .int .u32 f10] 45))
      clear c0 c1' c2 c3 c4 c5 c6 c7 c8 c9 c10
      generalize wr.alloc (.cells #[.int .i64 f0, .int .i64 f1, .int .i64 f2, .int .i64 f3, .int .i64 f4, .int .i64 f5, .bool f6, .int .u32 f7, .int .i64 f8, .slice Ap pl cp, .int .u32 f10] 45) = w2 at *
      generalize wr.heap.size = gh at *
      obtain ⟨q0, q1, q2, q3, q4, q5, q6, q7, q8, q9, q10⟩ := Bk.cells11 K2.out
      go_wp2_with fail
      refine (long28 f1 f2 f3 f4 f5 f6 f7 f8 _ (by exact HR.out)).mono ?_
      rintro e w3 ⟨rfl, hb3⟩
      have B3 := Lib.hid (B2.out.trans (hb3.mono B2.out.size))
      clear hb3 B2 K2 q0 q1 q2 q3 q4 q5 q6 q7 q8 q9 q10
      have hu : (IntKind.i64).wrap ((n : Int) - lk - (36 + f8)) = (n : Int) - lk - (36 + f8) := IntWalk.i64_in _ ⟨by omega, by omega⟩
      go_wp2_with fail
      go_roundw
      case rel => exact ⟨k + 1, by omega, by go_num, by rw [HL.out]; exact int_eq (by omega), B3.out⟩
      case measure => simp [intOf]; omega
    · obtain rfl : k = fs.length := by omega
      rw [List.take_length]
      go_wp2_with fail
      go_ret
      exact ⟨by rw [HQ.out]; rfl, W1.out.trans (HB.out.mono hz)⟩
end Go.Proofs.Ytfeicdflkpgbnaa
