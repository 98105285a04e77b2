/-
  Proved: mend.Gaps tells the numbers that no block has. Conditions: those that each theorem lists ahead of its colon, and no others.
-/
import Derived.Test.YtfeicdflkpgbnaaOt
import Derived.Laws.MakeOwn
import Derived.Laws.Entries
namespace Go.Proofs.Ytfeicdflkpgbnaa
open Go.RowKit

/-- Which of the numbers below m a block has, as cells. -/
def hasA (fs : List Fd) (m : Nat) : Array Value := ((List.range m).map fun j : Nat => Value.bool (hasB fs (j : Int))).toArray
theorem hasA_get {fs : List Fd} {m j : Nat} (hj : j < m) : (hasA fs m)[j]? = some (.bool (hasB fs (j : Int))) := by
  unfold hasA
  rw [List.getElem?_toArray, List.getElem?_map, List.getElem?_range hj]
  rfl
theorem hasA_none (m : Nat) : madeCells #[Value.bool false] m = hasA [] m := by
  apply Array.ext_getElem?
  intro j
  have h0 : (madeCells #[Value.bool false] m)[j]? = (List.replicate m (Value.bool false))[j]? := by rw [← toList_madeCells_one, Array.getElem?_toList]
  rw [h0]
  rcases Nat.lt_or_ge j m with h | h
  · rw [hasA_get h, List.getElem?_replicate, if_pos h]; rfl
  · rw [Array.getElem?_eq_none (by simp [hasA]; exact h), List.getElem?_eq_none (by simpa using h)]
theorem hasA_out {fs : List Fd} {k m : Nat} (hk : k < fs.length) (h : fs[k].hd.index < 0 ∨ (m : Int) ≤ fs[k].hd.index) : hasA (fs.take (k + 1)) m = hasA (fs.take k) m := by
  unfold hasA
  congr 1
  apply List.map_congr_left
  intro j hj
  rw [List.mem_range] at hj
  rw [hasB_succ hk, decide_eq_false (by omega), Bool.or_false]
theorem hasA_in {fs : List Fd} {k m i : Nat} (hk : k < fs.length) (h : fs[k].hd.index = (i : Int)) (hi : i < m) : hasA (fs.take (k + 1)) m = (hasA (fs.take k) m).setIfInBounds i (.bool true) := by
  apply Array.ext_getElem?
  intro j
  rcases Nat.lt_or_ge j m with hj | hj
  · rw [hasA_get hj, Array.getElem?_setIfInBounds, hasA_get hj, hasB_succ hk, h]
    by_cases e : i = j
    · subst e
      rw [if_pos rfl, if_pos (by simp [hasA]; exact hi)]
      simp
    · rw [if_neg e, decide_eq_false (by omega), Bool.or_false]
  · rw [Array.getElem?_eq_none (by simp [hasA]; exact hj), Array.getElem?_eq_none (by simp [hasA]; exact hj)]

theorem Try.info4 : (Try.prog.info? 4).map (fun i => (i.zero, i.size, i.bytes)) = some (some (.bool false), 1, 1) := by kernel_rfl
theorem make87 (m : Nat) (hm : m ≤ 65536) (W : World) : (Instr.makeSlice 87 (.int .i64 (m : Int)) (.int .i64 (m : Int))).run Try.prog W = .ok (.slice (some ⟨W.heap.size, 0, none⟩) m m) (W.alloc (.cells (hasA [] m) 4)) := by
  obtain ⟨i, hi, hz, hs, hb⟩ := info_parts Try.info4
  have hr := run_make (P := Try.prog) W 87 4 i (.bool false) Try.underlying87 hi hz .i64 .i64 (m : Int) (m : Int) (by omega) (Int.le_refl _) (by rw [hb]; omega) (by omega)
  simp only [Int.toNat_natCast] at hr
  rw [hr, hs, Nat.mul_one]
  have : Value.cells (.bool false) = #[Value.bool false] := rfl
  rw [this, hasA_none]

set_option maxHeartbeats 2000000 in
set_option maxRecDepth 20000 in
theorem gaps22 (n c : Nat) (A : Option Addr) (fs : List Fd) (xs : List Value) (z : Int) (w : World) (h : Fs w A c fs xs) (hn : n = fs.length) (hm : n ≤ 65536) (hz : z ≤ 500) :
    Calls Try.prog 22 #[.slice A n c, .int .i64 z] w fun e w' => ∃ v, e = .returned v ∧ Ints w' v (gapN fs z.toNat) ∧ Below w.heap.size w w' := by
  have HF := Lib.hid h
  have HN := Lib.hid hn
  have hc : n ≤ c := by rw [hn]; exact h.1
  clear h hn
  have HZ := Lib.hid (rfl : z.toNat = z.toNat)
  generalize hzm : z.toNat = m at *
  have HZM := Lib.hid hzm
  have hm5 : m ≤ 500 := by omega
  have hzc : (z ≤ 0 ∧ m = 0) ∨ (0 < m ∧ z = (m : Int)) := by omega
  clear hzm HZ
  have hmk := make87 m (by omega)
  have hmk0 : ∀ W, (Instr.makeSlice 87 (.int .i64 0) (.int .i64 0)).run Try.prog W = .ok (.slice (some ⟨W.heap.size, 0, none⟩) 0 0) (W.alloc (.cells (hasA [] 0) 4)) := make87 0 (by omega)
  go_enter Try.func22, Try.ntmps22
  go_upto_region 1 with (fail)
  go_cut [5] (fun s5 wx => s5 = .slice (some ⟨w.heap.size, 0, none⟩) m m ∧ wx = w.alloc (.cells (hasA [] m) 4))
  case first =>
    rcases hzc with ⟨h1, rfl⟩ | ⟨h1, rfl⟩
    · clear hmk
      go_wp2_with fail
      go_meet
      case rel => exact ⟨rfl, rfl⟩
    · go_wp2_with fail
      go_meet
      case rel => exact ⟨rfl, rfl⟩
  case rest =>
    obtain ⟨rfl, rfl⟩ := hcut
    clear hmk hmk0 hzc
    have K0 := Lib.hid (Bk.new w 4 (hasA [] m))
    have B0 := Lib.hid ((Below.refl _ w).alloc (Nat.le_refl _) (.cells (hasA [] m) 4))
    generalize w.alloc (.cells (hasA [] m) 4) = w0 at *
    go_wp2_with fail
    go_loopw [7, 8, 18] (fun _ _ i wr => ∃ k : Nat, k ≤ n ∧ i = .int .i64 k ∧ Bk wr w.heap.size 4 (hasA (fs.take k) m) ∧ Below w.heap.size w wr) (fun _ _ i _ => n - (intOf i).toNat)
    case atStart => exact ⟨0, Nat.zero_le _, rfl, K0.out, B0.out⟩
    case round =>
      obtain ⟨k, hk, rfl, hbk, hbel⟩ := hrel
      have HK := Lib.hid hbk
      have HB := Lib.hid hbel
      have hsz := hbel.size
      have hlt0 := hbk.lt
      clear hbk hbel
      by_cases hlt : k < n
      · have hkl : k < fs.length := by rw [← HN.out]; exact hlt
        obtain ⟨b, o, rfl, hb, hcl⟩ := HF.out.lies hkl
        obtain ⟨Ap, cp, _, _, c0, c1, c2, c3, c4, c5, c6, c7, c8, c9, c10⟩ := HF.out.2.2.eleven (wr := wr) (fun j u hu => (HB.out.cell (p := ⟨b, o + j, none⟩) hb).trans (hcl j u hu)) k hkl
        clear hcl
        have HO := Lib.hid (hasA_out (m := m) hkl)
        have HI := Lib.hid (fun i => hasA_in (m := m) (i := i) hkl)
        generalize hf : fs[k] = f at *
        clear hf
        obtain ⟨f0, ⟨f1, f2, f3, f4, f5, f6, f7, f8⟩, f9, f10⟩ := f
        dsimp only at c0 c1 c2 c3 c4 c5 c6 c7 c8 c9 c10 HO HI
        by_cases hin : 0 ≤ f2 ∧ f2 < (m : Int)
        · obtain ⟨i, rfl⟩ := Int.eq_ofNat_of_zero_le hin.1
          have him : i < m := by omega
          have hcell := (HK.out.cell i).trans (hasA_get him)
          have hfz := HK.out.frozen i
          clear hin
          go_wp2_with fail
          go_roundw
          case rel => exact ⟨k + 1, by omega, by go_num, by rw [HI.out i rfl him]; exact (HK.out.set_ i (.bool true)).alloc _, (HB.out.setCell (p := ⟨w.heap.size, i, none⟩) (Nat.le_refl _) _).alloc (by simp; omega) _⟩
          case measure => simp [intOf]; omega
        · have hor : f2 < 0 ∨ (m : Int) ≤ f2 := by omega
          have HOR := Lib.hid hor
          clear hin
          rcases hor with h | h
          · go_wp2_with fail
            go_roundw
            case rel => exact ⟨k + 1, by omega, by go_num, by rw [HO.out HOR.out]; exact HK.out.alloc _, HB.out.alloc hsz _⟩
            case measure => simp [intOf]; omega
          · by_cases h0 : 0 ≤ f2
            · go_wp2_with fail
              go_roundw
              case rel => exact ⟨k + 1, by omega, by go_num, by rw [HO.out HOR.out]; exact HK.out.alloc _, HB.out.alloc hsz _⟩
              case measure => simp [intOf]; omega
            · omega
      · obtain rfl : k = n := by omega
        have KN := Lib.hid (show Bk wr w.heap.size 4 (hasA fs m) by have h := HK.out; rw [List.take_of_length_le (by rw [HN.out]; exact Nat.le_refl _)] at h; exact h)
        clear HK K0 B0
        go_wp2_with fail
        obtain ⟨wo, rfl⟩ : ∃ wo : World, wo = wr := ⟨_, rfl⟩
        go_loopw [9, 10, 11, 39] (fun v _ _ i wx => ∃ j : Nat, j ≤ m ∧ i = .int .i64 j ∧ wx.ownsRow wo.heap.size 3 1 v (gapN fs j).length ((gapN fs j).map (Value.int .i64)) ∧ Below wo.heap.size wo wx) (fun _ _ _ i _ => m - (intOf i).toNat)
        case atStart => exact ⟨0, Nat.zero_le _, rfl, World.ownsRow_nil _ _ _ _, Below.refl _ _⟩
        case round =>
          obtain ⟨j, hj, rfl, own, hbel⟩ := hrel
          have HO := Lib.hid own
          have HB2 := Lib.hid hbel
          have hsz2 := hbel.size
          have hbk2 := KN.out.below hbel hlt0
          have HG := Lib.hid (gapN_succ fs j)
          have hgl := gapN_len fs j
          clear own hbel
          by_cases hjm : j < m
          · have hcell := (hbk2.cell j).trans (hasA_get hjm)
            clear hbk2
            cases hh : hasB fs (j : Int) with
            | true =>
              rw [hh] at hcell
              have HH := Lib.hid hh
              clear hh
              go_wp2_with fail
              go_roundw
              case rel => exact ⟨j + 1, by omega, by go_num, by rw [HG.out, if_pos HH.out, List.append_nil]; exact HO.out, HB2.out⟩
              case measure => simp [intOf]; omega
            | false =>
              rw [hh] at hcell
              have HH := Lib.hid hh
              clear hh
              generalize gapN fs j = l at *
              go_wp2_with (at_builtin; refine wpl_app _ row37 rfl (.tmp 46) (.tmp 48) rfl wo.heap.size u9 l.length (l.map (Value.int .i64)) rfl (HO.out.alloc _) (wr.heap.size + 1) (some ⟨wr.heap.size, 0, none⟩) 1 1 [.int .i64 (j : Int)] rfl ?r rfl ?p1 (by omega) (by simp; omega) ?go)
              case r => exact Rd.fresh wr #[.int .i64 (j : Int)] 3 (Nat.lt_succ_self _)
              case p1 => intro u hu; rw [List.mem_singleton] at hu; subst hu; rfl
              case go =>
                intro v' w3 own gr _
                have O3 := Lib.hid own
                have B3 := Lib.hid (below_app (HO.out.alloc _) gr (HB2.out.alloc hsz2 _) (by simp; omega))
                clear own gr
                go_wp2_with fail
                go_roundw
                case rel =>
                  refine ⟨j + 1, by omega, by go_num, ?_, B3.out⟩
                  rw [HG.out, if_neg (by rw [HH.out]; decide), List.length_append, List.map_append]
                  exact O3.out
                case measure => simp [intOf]; omega
          · obtain rfl : j = m := by omega
            obtain ⟨A', c', hv, hc', hr, _⟩ := own_slice HO.out
            have HI := Lib.hid (show Ints wr u9 (gapN fs j) from ⟨A', c', hv, hc', hr⟩)
            clear hv hc' hr hbk2
            go_wp2_with fail
            go_ret
            exact ⟨_, rfl, by first | exact HI.out | (rw [HZM.out]; exact HI.out), HB.out.trans (HB2.out.mono (by omega))⟩
end Go.Proofs.Ytfeicdflkpgbnaa
