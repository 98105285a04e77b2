/-
  Proved: descantref30.Has and descantref30.Gaps tell the numbers that no block has, and descantref05.Ints tells true of two lists that are the same. Conditions: those that each theorem lists ahead of its colon, and no others.
-/
import Derived.Test.YtfeicdflkpgbnaaOs
namespace Go.Proofs.Ytfeicdflkpgbnaa
open Go.RowKit

/-- Has: has a block a number? -/
def hasB (fs : List Fd) (i : Int) : Bool := fs.any fun f => decide (f.hd.index = i)
theorem hasB_succ {fs : List Fd} {k : Nat} (hk : k < fs.length) (i : Int) : hasB (fs.take (k + 1)) i = (hasB (fs.take k) i || decide (fs[k].hd.index = i)) := by
  unfold hasB
  rw [List.take_add_one, List.getElem?_eq_getElem hk, List.any_append]
  simp
/-- The numbers below m that no block has. -/
def gapN (fs : List Fd) (m : Nat) : List Int := ((List.range m).filter fun i : Nat => !hasB fs (i : Int)).map fun i : Nat => (i : Int)
theorem gapN_succ (fs : List Fd) (m : Nat) : gapN fs (m + 1) = gapN fs m ++ (if hasB fs (m : Int) then [] else [(m : Int)]) := by
  unfold gapN
  rw [List.range_succ, List.filter_append, List.map_append]
  by_cases h : hasB fs (m : Int) <;> simp [h]
theorem gapN_len (fs : List Fd) (m : Nat) : (gapN fs m).length ≤ m := by
  unfold gapN
  rw [List.length_map]
  exact Nat.le_trans (List.length_filter_le _ _) (by simp)

set_option maxHeartbeats 1000000 in
set_option maxRecDepth 20000 in
theorem has36 (n c : Nat) (A : Option Addr) (fs : List Fd) (xs : List Value) (z : Int) (w : World) (h : Fs w A c fs xs) (hn : n = fs.length) (hm : n ≤ 65536) :
    Calls Try.prog 36 #[.slice A n c, .int .i64 z] w fun e w' => e = .returned (.bool (hasB fs z)) ∧ w = w' := by
  have HF := Lib.hid h
  have HN := Lib.hid hn
  have hc : n ≤ c := by rw [hn]; exact h.1
  clear h hn
  go_enter Try.func36, Try.ntmps36
  go_wp2_with fail
  go_loop [5] (fun i => ∃ k : Nat, k ≤ n ∧ i = .int .i64 k ∧ hasB (fs.take k) z = false) (fun i => n - (intOf i).toNat)
  case atStart => exact ⟨0, Nat.zero_le _, rfl, rfl⟩
  case round =>
    obtain ⟨k, hk, rfl, hno⟩ := hrel
    have HL := Lib.hid hno
    clear hno
    by_cases hlt : k < n
    · have hkl : k < fs.length := by rw [← HN.out]; exact hlt
      obtain ⟨b, o, rfl, hb, hcl⟩ := HF.out.lies hkl
      obtain ⟨Ap, cp, _, _, c0, c1, c2, c3, c4, c5, c6, c7, c8, c9, c10⟩ := HF.out.2.2.eleven (wr := w) hcl k hkl
      have c2' : w.cell? ⟨b, o + k * 11 + 1 + 1, none⟩ = some (.int .i64 fs[k].hd.index) := c2
      clear hcl
      have HK := Lib.hid (List.getElem_mem hkl)
      have HS := Lib.hid (hasB_succ hkl z)
      generalize hf : fs[k] = f at *
      clear hf
      by_cases hx : f.hd.index = z
      · have hd : (f.hd.index == z) = true := by rw [beq_iff_eq]; exact hx
        have HX := Lib.hid hx
        clear hx
        go_wp2_with fail
        go_ret
        refine ⟨?_, rfl⟩
        have : hasB fs z = true := by
          unfold hasB
          rw [List.any_eq_true]
          exact ⟨f, HK.out, decide_eq_true HX.out⟩
        rw [this]
        rfl
      · have hd : (f.hd.index == z) = false := by rw [beq_eq_false_iff_ne]; exact hx
        have HX := Lib.hid hx
        clear hx
        go_wp2_with fail
        go_round
        case rel => exact ⟨k + 1, by omega, by go_num, by rw [HS.out, HL.out, decide_eq_false HX.out]; rfl⟩
        case measure => simp [intOf]; omega
    · obtain rfl : k = n := by omega
      go_wp2_with fail
      go_ret
      refine ⟨?_, rfl⟩
      have := HL.out
      rw [List.take_of_length_le (by rw [HN.out]; exact Nat.le_refl _)] at this
      rw [this]
      rfl

/-- Whole numbers in a row. -/
def Ints (w : World) (v : Value) (l : List Int) : Prop := ∃ A c, v = .slice A l.length c ∧ l.length ≤ c ∧ Rd w w.heap.size A (l.map (Value.int .i64))

set_option maxHeartbeats 1000000 in
set_option maxRecDepth 20000 in
theorem gaps23 (n c : Nat) (A : Option Addr) (fs : List Fd) (xs : List Value) (z : Int) (w : World) (h : Fs w A c fs xs) (hn : n = fs.length) (hm : n ≤ 65536) (hz : z ≤ 500) :
    Calls Try.prog 23 #[.slice A n c, .int .i64 z] w fun e w' => ∃ v, e = .returned v ∧ Ints w' v (gapN fs z.toNat) ∧ Below w.heap.size w w' := by
  have HF := Lib.hid h
  have HN := Lib.hid hn
  clear h hn
  go_enter Try.func23, Try.ntmps23
  go_wp2_with fail
  go_loopw [5, 6] (fun v i wr => ∃ k : Nat, k ≤ z.toNat ∧ i = .int .i64 k ∧ wr.ownsRow w.heap.size 3 1 v (gapN fs k).length ((gapN fs k).map (Value.int .i64)) ∧ Below w.heap.size w wr) (fun _ i _ => z.toNat - (intOf i).toNat)
  case atStart => exact ⟨0, Nat.zero_le _, rfl, World.ownsRow_nil _ _ _ _, Below.refl _ _⟩
  case round =>
    obtain ⟨k, hk, rfl, own, hbel⟩ := hrel
    have HO := Lib.hid own
    have HB := Lib.hid hbel
    have hsz := hbel.size
    clear own hbel
    by_cases hlt : k < z.toNat
    · have h1 : (k : Int) < z := by omega
      have h2 : (k : Int) < 65536 := by omega
      have h3 := gapN_len fs k
      have HS := Lib.hid (gapN_succ fs k)
      generalize gapN fs k = l at *
      go_wp2_with fail
      refine (has36 n c A fs xs k _ (HF.out.below HB.out) HN.out hm).mono ?_
      rintro e w2 ⟨rfl, rfl⟩
      cases hh : hasB fs k with
      | true =>
        have HH := Lib.hid hh
        clear hh
        go_wp2_with fail
        go_roundw
        case rel => exact ⟨k + 1, by omega, by go_num, by rw [HS.out, if_pos HH.out, List.append_nil]; exact HO.out, HB.out⟩
        case measure => simp [intOf]; omega
      | false =>
        have HH := Lib.hid hh
        clear hh
        go_wp2_with (at_builtin; refine wpl_app _ row37 rfl (.tmp 20) (.tmp 22) rfl w.heap.size u5 l.length (l.map (Value.int .i64)) rfl (HO.out.alloc _) (wr.heap.size + 1) (some ⟨wr.heap.size, 0, none⟩) 1 1 [.int .i64 (k : Int)] rfl ?r rfl ?p1 (by omega) (by simp; omega) ?go)
        case r => exact Rd.fresh wr #[.int .i64 (k : Int)] 3 (Nat.lt_succ_self _)
        case p1 => intro u hu; rw [List.mem_singleton] at hu; subst hu; rfl
        case go =>
          intro v' w3 own gr _
          have O3 := Lib.hid own
          have B3 := Lib.hid (below_app (HO.out.alloc _) gr (HB.out.alloc hsz _) (by simp; omega))
          clear own gr
          go_wp2_with fail
          go_roundw
          case rel =>
            refine ⟨k + 1, by omega, by go_num, ?_, B3.out⟩
            rw [HS.out, if_neg (by rw [HH.out]; decide), List.length_append, List.map_append]
            exact O3.out
          case measure => simp [intOf]; omega
    · obtain rfl : k = z.toNat := by omega
      have hge : z ≤ (z.toNat : Int) := Int.self_le_toNat z
      by_cases hzz : 0 ≤ z
      · have e1 : ((z.toNat : Nat) : Int) = z := Int.toNat_of_nonneg hzz
        obtain ⟨A', c', hv, hc', hr, _⟩ := own_slice HO.out
        have HI := Lib.hid (show Ints wr u5 (gapN fs z.toNat) from ⟨A', c', hv, hc', hr⟩)
        clear hv hc' hr
        have HE1 := Lib.hid e1
        clear e1
        generalize hzm : z.toNat = m at *
        have HZM := Lib.hid hzm
        clear hzm
        go_wp2_with fail
        go_ret
        exact ⟨_, rfl, by rw [HZM.out]; exact HI.out, HB.out⟩
      · obtain ⟨A', c', hv, hc', hr, _⟩ := own_slice HO.out
        have HI := Lib.hid (show Ints wr u5 (gapN fs z.toNat) from ⟨A', c', hv, hc', hr⟩)
        clear hv hc' hr
        generalize hzm : z.toNat = m at *
        have HZM := Lib.hid hzm
        clear hzm
        go_wp2_with fail
        go_ret
        exact ⟨_, rfl, by rw [HZM.out]; exact HI.out, HB.out⟩

set_option maxHeartbeats 1000000 in
set_option maxRecDepth 20000 in
theorem ints21 (n c c' : Nat) (A A' : Option Addr) (l : List Int) (w : World) (h : Rd w w.heap.size A (l.map (Value.int .i64))) (h' : Rd w w.heap.size A' (l.map (Value.int .i64))) (hn : n = l.length) (hc : n ≤ c) (hc' : n ≤ c') (hm : n ≤ 65536) :
    Calls Try.prog 21 #[.slice A n c, .slice A' n c'] w fun e w' => e = .returned (.bool true) ∧ Below w.heap.size w w' := by
  have HR := Lib.hid h
  have HR' := Lib.hid h'
  have HN := Lib.hid hn
  clear h h' hn
  go_enter Try.func21, Try.ntmps21
  go_wp2_with fail
  go_loopw [5] (fun i wr => ∃ k : Nat, k ≤ n ∧ i = .int .i64 k ∧ Below w.heap.size w wr) (fun i _ => n - (intOf i).toNat)
  case atStart => exact ⟨0, Nat.zero_le _, rfl, Below.refl _ _⟩
  case round =>
    obtain ⟨k, hk, rfl, hbel⟩ := hrel
    have HB := Lib.hid hbel
    have hsz := hbel.size
    clear hbel
    by_cases hlt : k < n
    · have hkl : k < l.length := by rw [← HN.out]; exact hlt
      obtain ⟨b, o, rfl, hb, hcl⟩ := HR.out.mem (k := k) (by simpa using hkl)
      obtain ⟨b', o', rfl, hb', hcl'⟩ := HR'.out.mem (k := k) (by simpa using hkl)
      have d0 : wr.cell? ⟨b, o + k, none⟩ = some (.int .i64 l[k]) := (HB.out.cell (p := ⟨b, o + k, none⟩) hb).trans (hcl k _ (by rw [List.getElem?_map, List.getElem?_eq_getElem hkl]; rfl))
      have d1 : wr.cell? ⟨b', o' + k, none⟩ = some (.int .i64 l[k]) := (HB.out.cell (p := ⟨b', o' + k, none⟩) hb').trans (hcl' k _ (by rw [List.getElem?_map, List.getElem?_eq_getElem hkl]; rfl))
      clear hcl hcl'
      generalize l[k] = x at *
      have i1 : (k : Int) < (n : Int) := by omega
      go_upto_region 6 with (fail)
      go_quiet (fail)
      go_wp2_with fail
      go_roundw
      case rel => exact ⟨k + 1, by omega, by go_num, below_drewN HB.out _⟩
      case measure => simp [intOf]; omega
    · obtain rfl : k = n := by omega
      go_wp2_with fail
      go_ret
      exact ⟨rfl, HB.out⟩
end Go.Proofs.Ytfeicdflkpgbnaa
