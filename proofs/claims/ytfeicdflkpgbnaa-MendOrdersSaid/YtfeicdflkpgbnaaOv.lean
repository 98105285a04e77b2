/-
  Proved: descantlaw30.MendOrders returns true for all found blocks and every two whole numbers. Conditions: those that each theorem lists ahead of its colon, and no others.
-/
import Derived.Test.YtfeicdflkpgbnaaOu
import Derived.Test.YtfeicdflkpgbnaaOq
import Derived.Test.YtfeicdflkpgbnaaW4
namespace Go.Proofs.Ytfeicdflkpgbnaa
open Go.RowKit

theorem insR_len (out : List Fd) (x : Fd) : (insR out x).length ≤ out.length + 1 := by
  induction out with
  | nil => simp [insR]
  | cons g l ih =>
    unfold insR
    split
    · simp only [List.length_cons]; omega
    · split
      · split <;> simp
      · simp
theorem ordP_len (kind : Int) : ∀ (fs out : List Fd), (ordP kind out fs).length ≤ out.length + fs.length
  | [], out => Nat.le_refl _
  | x :: l, out => by
    unfold ordP
    have h := ordP_len kind l (if x.hd.kind = kind then insR out x else out)
    have h2 := insR_len out x
    split at h
    · rename_i hk
      rw [if_pos hk]
      simp only [List.length_cons]; omega
    · rename_i hk
      rw [if_neg hk]
      simp only [List.length_cons]; omega
theorem atD_of {fs : List Fd} (h : ∀ a b (ha : a < fs.length) (hb : b < fs.length), b < a → fs[a].at_ ≠ fs[b].at_) : AtD fs := by
  intro f hf g hg e
  obtain ⟨a, ha, rfl⟩ := List.mem_iff_getElem.1 hf
  obtain ⟨b, hb, rfl⟩ := List.mem_iff_getElem.1 hg
  rcases Nat.lt_trichotomy a b with h1 | h1 | h1
  · exact absurd e.symm (h b a hb ha h1)
  · subst h1; rfl
  · exact absurd e (h a b ha hb h1)

set_option maxHeartbeats 4000000 in
set_option maxRecDepth 20000 in
theorem law5 (n c : Nat) (A : Option Addr) (fs : List Fd) (xs : List Value) (kind z : Int) (w : World) (h : Fs w A c fs xs) (hn : n = fs.length) :
    Calls Try.prog 5 #[.slice A n c, .int .i64 kind, .int .i64 z] w fun e w' => e = .returned (.bool true) ∧ Below w.heap.size w w' := by
  have HF := Lib.hid h
  have HN := Lib.hid hn
  have hc : n ≤ c := by rw [hn]; exact h.1
  clear h hn
  go_enter Try.func5, Try.ntmps5
  go_wp2_with fail
  refine (few17 n c A fs xs w HF.out HN.out).mono ?_
  rintro e w' ⟨rfl, rfl⟩
  cases hfw : fewF fs with
  | false =>
    go_wp2_with fail
    refine (known7 _).mono ?_
    rintro e w1 ⟨rfl, hb1⟩
    go_wp2_with fail
    go_ret
    exact ⟨rfl, hb1⟩
  | true =>
    have hn40 : n ≤ 40 := by rw [HN.out]; exact (fewF_true.1 hfw).1
    have HPY := Lib.hid (fun f hf => ((fewF_true.1 hfw).2 f hf).1)
    clear hfw
    go_wp2_with fail
    go_loopw [7, 8] (fun s7 _ wr => ∃ i m : Nat, i ≤ n ∧ s7 = .int .i64 i ∧ wr = w.drewN m ∧ ∀ a b (ha : a < fs.length) (hb : b < fs.length), b < a → a < i → fs[a].at_ ≠ fs[b].at_) (fun s7 _ _ => n - (intOf s7).toNat)
    case atStart => exact ⟨0, 0, Nat.zero_le _, rfl, rfl, fun a b _ _ _ h => absurd h (Nat.not_lt_zero _)⟩
    case round =>
      obtain ⟨i, m, hi, rfl, rfl, hd⟩ := hrel
      have HD := Lib.hid hd
      clear hd
      by_cases hlt : i < n
      · have hil : i < fs.length := by rw [← HN.out]; exact hlt
        obtain ⟨b, o, rfl, hb, hcl⟩ := HF.out.lies hil
        obtain ⟨Ap, cp, _, _, c0, _, _, _, _, _, _, _, _, _, _⟩ := HF.out.2.2.eleven (wr := w) hcl i hil
        have HA := Lib.hid (rfl : fs[i].at_ = fs[i].at_)
        generalize hai : fs[i].at_ = ai at *
        have HAI := Lib.hid hai
        clear hai HA
        go_wp2_with fail
        go_loopw [8] (fun s8 wx => ∃ k m' : Nat, k ≤ i ∧ s8 = .int .i64 k ∧ wx = w.drewN m' ∧ ∀ b (hb : b < fs.length), b < k → ai ≠ fs[b].at_) (fun s8 _ => i - (intOf s8).toNat)
        case atStart => exact ⟨0, m, Nat.zero_le _, rfl, rfl, fun b _ h => absurd h (Nat.not_lt_zero _)⟩
        case round =>
          obtain ⟨k, m', hk, rfl, rfl, hdk⟩ := hrel
          have HDK := Lib.hid hdk
          clear hdk
          by_cases hki : k < i
          · have hkl : k < fs.length := by omega
            obtain ⟨Ap', cp', _, _, d0, _, _, _, _, _, _, _, _, _, _⟩ := HF.out.2.2.eleven (wr := w) hcl k hkl
            have HA := Lib.hid (rfl : fs[k].at_ = fs[k].at_)
            generalize hak : fs[k].at_ = ak at *
            have HAK := Lib.hid hak
            clear hak HA
            have i1 : (k : Int) < (n : Int) := by omega
            have i2 : (i : Int) < (n : Int) := by omega
            have HCL := Lib.hid hcl
            clear hcl
            by_cases he : ai = ak
            · have hde : (ai == ak) = true := by rw [beq_iff_eq]; exact he
              clear he
              go_upto_region 9 with (fail)
              go_quiet (fail)
              go_wp2_with fail
              refine (known7 _).mono ?_
              rintro e w1 ⟨rfl, hb1⟩
              go_wp2_with fail
              go_ret
              exact ⟨rfl, (below_drewN (Below.refl _ w) _).trans (hb1.mono (by simp))⟩
            · have hde : (ai == ak) = false := by rw [beq_eq_false_iff_ne]; exact he
              have HE := Lib.hid he
              clear he
              go_upto_region 9 with (fail)
              go_quiet (fail)
              go_wp2_with fail
              go_roundw
              case rel => exact ⟨k + 1, _, by omega, by go_num, rfl, fun b hb hbk => by
                rcases Nat.lt_or_ge b k with h | h
                · exact HDK.out b hb h
                · obtain rfl : b = k := by omega
                  rw [HAK.out]; exact HE.out⟩
              case measure => simp [intOf]; omega
          · obtain rfl : k = i := by omega
            go_wp2_with fail
            go_roundw
            case rel => exact ⟨k + 1, m', by omega, by go_num, rfl, fun a b ha hb hba hak => by
              rcases Nat.lt_or_ge a k with h | h
              · exact HD.out a b ha hb hba h
              · obtain rfl : a = k := by omega
                rw [HAI.out]; exact HDK.out b hb hba⟩
            case measure => simp [intOf]; omega
      · obtain rfl : i = n := by omega
        have HAD := Lib.hid (atD_of (fs := fs) fun a b ha hb hba => HD.out a b ha hb hba (by rw [HN.out]; exact ha))
        clear HD
        go_upto_if 37 with (fail)
        go_cut [2] (fun s2 wx => ∃ z' : Int, z' ≤ 500 ∧ s2 = .int .i64 z' ∧ wx = w.drewN m)
        case first =>
          by_cases hz : 500 < z
          · go_wp2_with fail
            go_meet
            case rel => exact ⟨500, Int.le_refl _, rfl, rfl⟩
          · go_wp2_with fail
            go_meet
            case rel => exact ⟨z, by omega, rfl, rfl⟩
        case rest =>
          obtain ⟨z', hz', rfl, rfl⟩ := hcut
          have W0 := Lib.hid (below_drewN (Below.refl w.heap.size w) m)
          have F0 := Lib.hid (HF.out.below W0.out)
          generalize w.drewN m = w0 at *
          go_wp2_with fail
          refine (owns19 i c A fs xs w0 F0.out HN.out (by omega)).mono ?_
          rintro e w1 ⟨A1, c1, x1, rfl, hc1, hr1, hf1, hb1⟩
          have F1 := Lib.hid (show Fs w1 A1 c1 fs x1 from ⟨hc1, hr1, hf1⟩)
          have G1 := Lib.hid (F0.out.below hb1)
          have W1 := Lib.hid (W0.out.trans (hb1.mono W0.out.size))
          have hfl : fs.length ≤ 40 := by rw [← HN.out]; exact hn40
          have hol : (ordP kind [] fs).length ≤ 40 := by have := ordP_len kind fs []; simp only [List.length_nil] at this; omega
          clear hr1 hf1 hb1 hc1 F0 W0
          go_wp2_with fail
          refine (order18 fs.length c1 A1 fs x1 kind w1 F1.out rfl (by omega) (fun f hf => Nat.le_trans (HPY.out f hf) (by omega)) HAD.out).mono ?_
          rintro e w2 ⟨A2, c2, x2, rfl, hc2, hr2, hf2, hb2⟩
          have F2 := Lib.hid (show Fs w2 A2 c2 (ordP kind [] fs) x2 from ⟨hc2, hr2, hf2⟩)
          have G2 := Lib.hid (G1.out.below hb2)
          have W2 := Lib.hid (W1.out.trans (hb2.mono W1.out.size))
          have HOL := Lib.hid (rfl : (ordP kind [] fs).length = (ordP kind [] fs).length)
          clear hr2 hf2 hb2 hc2 F1 G1 W1 HOL
          go_wp2_with fail
          refine (backs10 _ c2 A2 (ordP kind [] fs) x2 w2 F2.out rfl (by omega)).mono ?_
          rintro e w3 ⟨A3, c3, x3, rfl, hc3, hr3, hf3, hb3⟩
          have F3 := Lib.hid (show Fs w3 A3 c3 (ordP kind [] fs) x3 from ⟨hc3, hr3, hf3⟩)
          have G3 := Lib.hid (G2.out.below hb3)
          have W3 := Lib.hid (W2.out.trans (hb3.mono W2.out.size))
          clear hr3 hf3 hb3 hc3 F2 G2 W2
          go_wp2_with fail
          refine (order20 i c A fs xs kind w3 G3.out HN.out (by omega)).mono ?_
          rintro e w4 ⟨A4, c4, x4, rfl, hc4, hr4, hf4, hb4⟩
          have F4 := Lib.hid (show Fs w4 A4 c4 (ordP kind [] fs) x4 from ⟨hc4, hr4, hf4⟩)
          have E4 := Lib.hid (F3.out.below hb4)
          have G4 := Lib.hid (G3.out.below hb4)
          have W4 := Lib.hid (W3.out.trans (hb4.mono W3.out.size))
          clear hr4 hf4 hb4 hc4 F3 G3 W3
          go_wp2_with fail
          refine (same9 _ c3 c4 A3 A4 (ordP kind [] fs) x3 x4 w4 E4.out F4.out rfl (by omega)).mono ?_
          rintro e w5 ⟨rfl, hb5⟩
          have G5 := Lib.hid (G4.out.below hb5)
          have W5 := Lib.hid (W4.out.trans (hb5.mono W4.out.size))
          clear hb5 F4 E4 G4 W4
          generalize (ordP kind [] fs).length = ol at *
          go_wp2_with fail
          refine (owns19 i c A fs xs w5 G5.out HN.out (by omega)).mono ?_
          rintro e w6 ⟨A6, c6, x6, rfl, hc6, hr6, hf6, hb6⟩
          have F6 := Lib.hid (show Fs w6 A6 c6 fs x6 from ⟨hc6, hr6, hf6⟩)
          have G6 := Lib.hid (G5.out.below hb6)
          have W6 := Lib.hid (W5.out.trans (hb6.mono W5.out.size))
          clear hr6 hf6 hb6 hc6 G5 W5
          go_wp2_with fail
          refine (gaps22 fs.length c6 A6 fs x6 z' w6 F6.out rfl (by omega) hz').mono ?_
          rintro e w7 ⟨v7, rfl, ⟨A7, c7, rfl, hc7, hr7⟩, hb7⟩
          have R7 := Lib.hid hr7
          have G7 := Lib.hid (G6.out.below hb7)
          have W7 := Lib.hid (W6.out.trans (hb7.mono W6.out.size))
          clear hr7 hb7 F6 G6 W6
          go_wp2_with fail
          refine (gaps23 i c A fs xs z' w7 G7.out HN.out (by omega) hz').mono ?_
          rintro e w8 ⟨v8, rfl, ⟨A8, c8, rfl, hc8, hr8⟩, hb8⟩
          have R8 := Lib.hid hr8
          have E8 := Lib.hid ((R7.out.below hb8).more hb8.size)
          have W8 := Lib.hid (W7.out.trans (hb8.mono W7.out.size))
          have hgl := gapN_len fs z'.toNat
          have hgz : z'.toNat ≤ 500 := by omega
          clear hr8 hb8 R7 G7 W7
          generalize gapN fs z'.toNat = gl at *
          generalize z'.toNat = zn at *
          go_wp2_with fail
          refine (ints21 gl.length c7 c8 A7 A8 gl w8 E8.out R8.out rfl hc7 hc8 (by omega)).mono ?_
          rintro e w9 ⟨rfl, hb9⟩
          have W9 := Lib.hid (W8.out.trans (hb9.mono W8.out.size))
          clear hb9 R8 E8 W8
          go_wp2_with fail
          refine (known7 w9).mono ?_
          rintro e w10 ⟨rfl, hb10⟩
          have W10 := Lib.hid (W9.out.trans (hb10.mono W9.out.size))
          clear hb10 W9
          go_wp2_with fail
          go_ret
          exact ⟨rfl, W10.out⟩
end Go.Proofs.Ytfeicdflkpgbnaa
