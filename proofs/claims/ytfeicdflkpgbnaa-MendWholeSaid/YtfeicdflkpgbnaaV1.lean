/-
  Proved: mend.Scan finds just the blocks that the plain scan finds. Conditions: those that each theorem lists ahead of its colon, and no others.
-/
import Derived.Test.YtfeicdflkpgbnaaU5
import Derived.Test.YtfeicdflkpgbnaaPf
import Derived.Test.YtfeicdflkpgbnaaT8
namespace Go.Proofs.Ytfeicdflkpgbnaa
open Go.RowKit

theorem row29 : RowT 29 45 11 := rowT_of (z := .agg #[.int .i64 0, .int .i64 0, .int .i64 0, .int .i64 0, .int .i64 0, .int .i64 0, .bool false, .int .u32 0, .int .i64 0, .slice none 0 0, .int .u32 0]) (bytes := 96) (by decide) Try.underlying29 (by kernel_rfl) rfl (by decide)
theorem row27 : RowT 27 48 11 := rowT_of (z := .agg #[.int .i64 0, .int .i64 0, .int .i64 0, .int .i64 0, .int .i64 0, .int .i64 0, .bool false, .int .u32 0, .int .i64 0, .slice none 0 0, .int .u32 0]) (bytes := 96) (by decide) Try.underlying27 (by kernel_rfl) rfl (by decide)

/-- A slice of found blocks. -/
def FsP (w : World) (fs : List Fd) (e : Ending) (w' : World) : Prop :=
  ∃ A c xs, e = .returned (.slice A fs.length c) ∧ fs.length ≤ c ∧ Rd w' w'.heap.size A xs ∧ FdsOk w' none fs xs ∧ Below w.heap.size w w'

/-- What a scan holds where it stands at k. -/
def ScanRel (w : World) (t : TypeId) (bs : List UInt8) (k : Nat) (v : Value) (wr : World) : Prop :=
  ∃ fs xs, Found bs k fs ∧ wr.ownsRow w.heap.size t 11 v fs.length xs ∧ FdsOk wr v.ownBlock fs xs ∧ Below w.heap.size w wr

section
variable {w wr w' : World} {t : TypeId} {bs : List UInt8} {k : Nat} {v : Value}
theorem ScanRel.start (w : World) (t : TypeId) (bs : List UInt8) : ScanRel w t bs 0 (.slice none 0 0) w :=
  ⟨[], [], Found.start bs, World.ownsRow_nil _ _ _ _, rfl, Below.refl _ _⟩
theorem ScanRel.at_ (h : ScanRel w t bs k v wr) : k ≤ bs.length := by obtain ⟨_, _, h, _⟩ := h; exact h.1
theorem ScanRel.size (h : ScanRel w t bs k v wr) : w.heap.size ≤ wr.heap.size := by obtain ⟨_, _, _, _, _, h⟩ := h; exact h.size
theorem ScanRel.below (h : ScanRel w t bs k v wr) (hb : Below wr.heap.size wr w') : ScanRel w t bs k v w' := by
  obtain ⟨fs, xs, h1, h2, h3, h4⟩ := h
  exact ⟨fs, xs, h1, h2.kept (gr_of_below hb none) (by cases hv : v.ownBlock <;> simp), h3.below hb, h4.trans (hb.mono h4.size)⟩
theorem ScanRel.below0 (h : ScanRel w t bs k v wr) : Below w.heap.size w wr := by obtain ⟨_, _, _, _, _, h⟩ := h; exact h
theorem ScanRel.alloc (h : ScanRel w t bs k v wr) (o : Obj) : ScanRel w t bs k v (wr.alloc o) := h.below ((Below.refl _ _).alloc (Nat.le_refl _) o)
theorem ScanRel.miss (h : ScanRel w t bs k v wr) (hk : k < bs.length) (ho : openB (bs.drop k) = false) : ScanRel w t bs (k + 1) v wr := by
  obtain ⟨fs, xs, h1, h2, h3, h4⟩ := h
  exact ⟨fs, xs, h1.miss hk ho, h2, h3, h4⟩
theorem ScanRel.own (h : ScanRel w t bs k v wr) : some wr.heap.size ≠ v.ownBlock := by
  obtain ⟨fs, xs, h1, h2, h3, h4⟩ := h
  intro he
  have h5 := h2.lt _ he.symm
  omega
theorem ScanRel.pay {B : Nat} {A : Option Addr} (h : ScanRel w t bs k v wr) (hB : B ≤ w.heap.size) (ha : ∀ a, A = some a → a.block < B ∨ wr.heap.size ≤ a.block) : ∀ a, A = some a → some a.block ≠ v.ownBlock := by
  obtain ⟨fs, xs, h1, h2, h3, h4⟩ := h
  intro a e he
  have h5 := h2.lt _ he.symm
  have h6 := ha a e
  omega
theorem ScanRel.hit {fs : List Fd} {xs : List Value} {z c : Nat} {A : Option Addr} {v' : Value} (h1 : Found bs k fs) (h3 : FdsOk wr v.ownBlock fs xs) (h2 : wr.ownsRow w.heap.size t 11 v fs.length xs) (h4 : Below w.heap.size w wr) (hk : k < bs.length) (ho : openB (bs.drop k) = true) (hz : (hdOf (bs.drop k)).size.toNat = z)
    (hp : PayOk wr v.ownBlock (payL (bs.drop k)) A c) (own : w'.ownsRow w.heap.size t 11 v' (fs.length + 1) (xs ++ fdCells (fdAt bs k) A c)) (gr : wr.grownBy w' v.ownBlock) (hX : v'.ownBlock = v.ownBlock ∨ v'.ownBlock = some wr.heap.size) : ScanRel w t bs (k + 36 + z) v' w' :=
  ⟨fs ++ [fdAt bs k], xs ++ fdCells (fdAt bs k) A c, h1.hit hk ho hz, by rw [List.length_append]; exact own, (h3.snoc (f := fdAt bs k) hp).turn gr hX, below_app h2 gr h4 h4.size⟩
theorem ScanRel.done (h : ScanRel w t bs k v wr) (hk : bs.length ≤ k) : FsP w (scan bs 0) (.returned v) wr := by
  obtain ⟨fs, xs, h1, h2, h3, h4⟩ := h
  obtain ⟨A, c, rfl, hc, hr, _⟩ := own_slice h2
  rw [← h1.done hk]
  exact ⟨A, c, xs, rfl, hc, hr, h3.none_, h4⟩
end

set_option maxHeartbeats 1000000 in
set_option maxRecDepth 20000 in
theorem scan11 (n c gt : Nat) (A : Option Addr) (bs : List UInt8) (w : World) (B : Nat) (ht : Tb w gt) (hb : Bs w B A bs) (hB : B ≤ w.heap.size) (hn : n = bs.length) (hc : n ≤ c) (hm : n ≤ 65536) :
    Calls Try.prog 11 #[.pointer (some ⟨gt, 0, none⟩), .slice A n c] w (FsP w (scan bs 0)) := by
  have HT := Lib.hid ht
  have HA := Lib.hid hb
  have HN := Lib.hid hn
  have hgt := ht.lt
  clear ht hb hn
  go_enter Try.func11, Try.ntmps11
  go_wp2_with fail
  go_loopw [5, 6] (fun v i wr => ∃ k : Nat, i = .int .i64 k ∧ ScanRel w 45 bs k v wr) (fun _ i _ => n - (intOf i).toNat)
  case atStart => exact ⟨0, rfl, ScanRel.start w 45 bs⟩
  case round =>
    obtain ⟨k, rfl, hrel⟩ := hrel
    have hk := hrel.at_
    rw [← HN.out] at hk
    have hsz := hrel.size
    have HS := Lib.hid hrel
    clear hrel
    by_cases hlt : k < n
    · go_wp2_with fail
      have HD := Lib.hid (show (bs.drop k).length = n - k by rw [List.length_drop, HN.out])
      refine (open27 _ _ gt _ (bs.drop k) _ B (by exact Bk.below HT.out HS.out.below0 (by omega)) (by exact Bs.below (Bs.cutm HA.out k) (HS.out.below0.mono hB)) (by omega) HD.out.symm (by omega) (by omega)).mono ?_
      rintro e w1 ⟨hb1, he⟩
      have hk' : k < bs.length := by rw [← HN.out]; exact hlt
      have hu : (IntKind.i64).wrap ((k : Int) + 1) = (k : Int) + 1 := IntWalk.i64_in _ ⟨by omega, by omega⟩
      cases ho : openB (bs.drop k) with
      | false =>
        rw [if_neg (by rw [ho]; decide)] at he
        obtain ⟨x, hx, rfl⟩ := he
        have H1 := Lib.hid ((HS.out.below hb1).miss hk' ho)
        have hd : (x != 0) = true := by rw [bne_iff_ne]; exact hx
        clear hb1 HS ho
        unfold noHd
        go_wp2_with fail
        go_roundw
        case rel => exact ⟨k + 1, by go_num, H1.out.alloc _⟩
        case measure => simp [intOf]; omega
      | true =>
        rw [if_pos ho] at he
        obtain ⟨Ap, cp, rfl, hcp, hpp, hap⟩ := he
        have HO := Lib.hid ho
        obtain ⟨hr, hz0, hz1⟩ := openB_right ho
        have HR := Lib.hid hr
        have HP := Lib.hid (show PayOk w1 u5.ownBlock (payL (bs.drop k)) Ap cp from ⟨hcp, hpp, fun _ => HS.out.pay hB hap⟩)
        have H1 := Lib.hid (HS.out.below hb1)
        have hl1 := HD.out
        rw [hl1] at hz1
        clear hb1 HS ho hr hcp hpp hap hl1
        have hpl : (payL (bs.drop k)).length = (payL (bs.drop k)).length := rfl
        generalize hh : hdOf (bs.drop k) = hd0 at *
        obtain ⟨kk, i, l, s, b, t, nn, z⟩ := hd0
        have HH := Lib.hid hh
        clear hh
        dsimp only at hz0 hz1
        obtain ⟨z, rfl⟩ := Int.eq_ofNat_of_zero_le hz0
        have HF := Lib.hid (show fdCells (fdAt bs k) Ap cp = [.int .i64 (k : Int), .int .i64 kk, .int .i64 i, .int .i64 l, .int .i64 s, .int .i64 b, .bool t, .int .u32 nn, .int .i64 (z : Int), .slice Ap (payL (bs.drop k)).length cp, .int .u32 (blkSum (bs.drop k) : Nat)] by unfold fdCells fdAt; dsimp only; rw [HH.out])
        generalize (payL (bs.drop k)).length = pl at *
        generalize blkSum (bs.drop k) = bsum at *
        unfold Hd.cells
        dsimp only
        go_upto_region 7 with (fail)
        have H2 := Lib.hid (H1.out.alloc (.cells #[.int .i64 kk, .int .i64 i, .int .i64 l, .int .i64 s, .int .i64 b, .bool t, .int .u32 nn, .int .i64 z] 40))
        have P2 := Lib.hid (HP.out.below ((Below.refl _ w1).alloc (Nat.le_refl _) (.cells #[.int .i64 kk, .int .i64 i, .int .i64 l, .int .i64 s, .int .i64 b, .bool t, .int .u32 nn, .int .i64 z] 40)))
        have K2 := Lib.hid (Bk.new w1 40 #[.int .i64 kk, .int .i64 i, .int .i64 l, .int .i64 s, .int .i64 b, .bool t, .int .u32 nn, .int .i64 z])
        have HE := Lib.hid H1.out.own
        clear H1 HP
        generalize w1.alloc (.cells #[.int .i64 kk, .int .i64 i, .int .i64 l, .int .i64 s, .int .i64 b, .bool t, .int .u32 nn, .int .i64 z] 40) = w2 at *
        generalize w1.heap.size = gh at *
        obtain ⟨q0, q1, q2, q3, q4, q5, q6, q7⟩ := Bk.eight K2.out
        obtain ⟨fs, xs, h1, h2, h3, h4⟩ := H2.out
        have F1 := Lib.hid h1
        have F2 := Lib.hid h2
        have F3 := Lib.hid h3
        have F4 := Lib.hid h4
        have hz4 := h4.size
        have hlen : fs.length ≤ 65536 := by have := h1.2.1; omega
        have Kl := K2.out.lt
        clear h1 h2 h3 h4 H2
        have hz : (hdOf (bs.drop k)).size.toNat = z := by rw [HH.out]; rfl
        have HZ := Lib.hid hz
        clear hz
        go_wp2_with (at_builtin; refine wpl_app _ row29 rfl (.tmp 33) (.tmp 39) rfl w.heap.size u5 fs.length xs rfl (F2.out.alloc _) (w2.heap.size + 1) (some ⟨w2.heap.size, 0, none⟩) 1 1 (fdCells (fdAt bs k) Ap cp) rfl ?r rfl (fdCells_one _ _ _) (by omega) (by simp; omega) ?go)
        case r => rw [HF.out]; exact Rd.fresh w2 _ 45 (Nat.lt_succ_self _)
        case go =>
          intro v' w3 own gr hX
          have S3 := Lib.hid (ScanRel.hit F1.out (F3.out.below ((Below.refl _ w2).alloc (Nat.le_refl _) _)) (F2.out.alloc _) (F4.out.alloc hz4 _) hk' HO.out HZ.out (P2.out.below ((Below.refl _ w2).alloc (Nat.le_refl _) _)) own gr (by simpa using hX))
          have K3 := Lib.hid ((K2.out.alloc _).grown gr HE.out)
          clear own gr hX F1 F2 F3 F4 P2 K2 q0 q1 q2 q3 q4 q5 q6 q7 Kl hz4
          obtain ⟨q0, q1, q2, q3, q4, q5, q6, q7⟩ := Bk.eight K3.out
          go_wp2_with fail
          refine (long28 kk i l s b t nn z _ (by exact HR.out)).mono ?_
          rintro e w4 ⟨rfl, hb4⟩
          have S4 := Lib.hid (S3.out.below hb4)
          clear S3 K3 hb4 q0 q1 q2 q3 q4 q5 q6 q7
          have hu2 : (IntKind.i64).wrap ((k : Int) + (36 + (z : Int))) = (k : Int) + (36 + (z : Int)) := IntWalk.i64_in _ ⟨by omega, by omega⟩
          go_wp2_with fail
          go_roundw
          case rel => exact ⟨k + 36 + z, by go_num, S4.out⟩
          case measure => simp [intOf]; omega
    · obtain rfl : k = n := by omega
      go_wp2_with fail
      go_ret
      exact HS.out.done (Nat.le_of_eq HN.out.symm)
end Go.Proofs.Ytfeicdflkpgbnaa
