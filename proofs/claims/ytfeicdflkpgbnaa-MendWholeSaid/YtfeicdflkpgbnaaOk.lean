/-
  Proved: heap.Pop hands out the first block in order, and leaves a heap of the others. Conditions: those that each theorem lists ahead of its colon, and no others.
-/
import Derived.Test.YtfeicdflkpgbnaaOj
namespace Go.Proofs.Ytfeicdflkpgbnaa
open Go.RowKit

/-- New blocks besides, only block q and block r may have turned. -/
structure Kp (w w' : World) (q : Nat) (r : Option Nat) : Prop where
  os : w'.os = w.os
  tape : w'.tape = w.tape
  output : w'.output = w.output
  size : w.heap.size ≤ w'.heap.size
  block : ∀ k, k < w.heap.size → k ≠ q → some k ≠ r → w'.heap[k]? = w.heap[k]?

section
variable {w w1 w2 : World} {q : Nat} {r : Option Nat}
theorem Kp.refl (w : World) (q : Nat) (r : Option Nat) : Kp w w q r := ⟨rfl, rfl, rfl, Nat.le_refl _, fun _ _ _ _ => rfl⟩
theorem Kp.trans (h : Kp w w1 q r) (k : Kp w1 w2 q r) : Kp w w2 q r :=
  ⟨k.os.trans h.os, k.tape.trans h.tape, k.output.trans h.output, Nat.le_trans h.size k.size, fun i hi a b => (k.block i (Nat.lt_of_lt_of_le hi h.size) a b).trans (h.block i hi a b)⟩
theorem Kp.own (h : w.grownBy w1 r) : Kp w w1 q r := ⟨h.os, h.tape, h.output, h.size, fun i hi _ b => h.block i hi b⟩
theorem Kp.var (h : w.grownBy w1 (some q)) : Kp w w1 q r := ⟨h.os, h.tape, h.output, h.size, fun i hi a _ => h.block i hi (fun e => a (by injection e))⟩
theorem Kp.of_below (h : Below w.heap.size w w1) : Kp w w1 q r := .own (gr_of_below h r)
theorem Kp.below {B : Nat} {w0 : World} (h : Kp w w1 q r) (hb : Below B w0 w) (hB : B ≤ w.heap.size) (hq : B ≤ q) (hr : ∀ k, r = some k → B ≤ k) : Below B w0 w1 :=
  ⟨h.os.trans hb.os, h.tape.trans hb.tape, h.output.trans hb.output, Nat.le_trans hb.size h.size, fun i hi => (h.block i (Nat.lt_of_lt_of_le hi hB) (by omega) (fun e => by have := hr i e.symm; omega)).trans (hb.block i hi)⟩
theorem Kp.row {base n : Nat} {e size : Nat} {v : Value} {xs : List Value} (h : Kp w w1 q r) (ho : w.ownsRow base e size v n xs) (hq : v.ownBlock ≠ some q) (hr : v.ownBlock = none ∨ v.ownBlock ≠ r) : w1.ownsRow base e size v n xs := by
  rcases ho.2 with ⟨rfl, rfl⟩ | ⟨g, cap, cur, rfl, hb, hg, rest⟩
  · exact ⟨ho.1, .inl ⟨rfl, rfl⟩⟩
  · have hlt := (Array.getElem?_eq_some_iff.1 hg).1
    refine ⟨ho.1, .inr ⟨g, cap, cur, rfl, hb, ?_, rest⟩⟩
    rw [h.block g hlt (fun e => hq (by rw [e]; rfl)) (by
      rcases hr with hr | hr
      · cases hr
      · exact hr)]
    exact hg
end

set_option maxHeartbeats 1000000 in
set_option maxRecDepth 20000 in
theorem pop34 (q B : Nat) (v : Value) (es : List El) (w : World) (h : QS w B q v es) (hh : HeapE es) (hne : 0 < es.length) (hm : es.length ≤ 65536) :
    Calls Try.prog 34 #[.iface 81 (.pointer (some ⟨q, 0, none⟩))] w fun r w' => ∃ e v' es', r = .returned (.iface 45 (.agg e.cells.toArray)) ∧ QS w' B q v' es' ∧ (es' ++ [e]).Perm es ∧ HeapE es' ∧ (∀ b ∈ es, lessE b e = false) ∧ v'.ownBlock = v.ownBlock ∧ Kp w w' q v.ownBlock := by
  have HH := Lib.hid hh
  obtain ⟨g, cap, rfl, hcap⟩ := own_head h.own hne
  have HQ := Lib.hid h
  have hcell := h.cell
  have hn : ∃ n, es.length = n + 1 := ⟨es.length - 1, by omega⟩
  obtain ⟨n, hn⟩ := hn
  rw [hn] at hcell hcap HQ
  have HN := Lib.hid hn
  have hn6 : n ≤ 65536 := by omega
  clear h hh hne hm hn
  have ml := mLen hcell
  have ms := mSwap hcell
  have hi : 0 < es.length := by rw [HN.out]; omega
  have hj : n < es.length := by rw [HN.out]; omega
  obtain ⟨fr, x, hfr⟩ : ∃ fr x, swapL es 0 n hi hj = fr ++ [x] := by
    have hl := swapL_length hi hj
    rcases List.eq_nil_or_concat (swapL es 0 n hi hj) with e | ⟨fr, x, e⟩
    · rw [e, HN.out] at hl; simp at hl
    · exact ⟨fr, x, by simpa using e⟩
  have hfl : fr.length = n := by
    have hl := swapL_length hi hj
    rw [hfr, HN.out] at hl
    simpa using hl
  have HFL := Lib.hid hfl
  have HSW := Lib.hid (show Swp es (fr ++ [x]) 0 n by rw [← hfr]; exact swapL_swp hi hj)
  have HPM := Lib.hid (show (fr ++ [x]).Perm es by rw [← hfr]; exact swapL_perm hi hj)
  have HFR := Lib.hid hfr
  clear hfr hfl
  have hu : IntKind.i64.wrap ((n : Int) + 1 - 1) = (n : Int) := by rw [show (n : Int) + 1 - 1 = (n : Int) by omega]; exact IntWalk.i64_in _ ⟨by omega, by omega⟩
  go_enter Try.func34, Try.ntmps34
  go_wp2_with fail
  refine (len33 _ _ _ _).mono ?_
  rintro r w1 ⟨rfl, rfl⟩
  go_wp2_with fail
  have HT := Lib.hid (swap100 g (n + 1) cap 0 n B es w (by have h := HQ.out.own; rw [HN.out] at h; exact h) HN.out.symm hi hj)
  refine (HT.out).mono ?_
  rintro r w2 ⟨rfl, ho2, hg2⟩
  rw [HFR.out] at ho2
  have Q2 := Lib.hid (show QS w2 B q (.slice (some ⟨g, 0, none⟩) (n + 1) cap) (fr ++ [x]) from ⟨HQ.out.var.grown hg2 (Ne.symm HQ.out.apart), by rw [List.length_append, HFL.out]; exact ho2, HQ.out.apart⟩)
  have G2 := Lib.hid hg2
  clear ho2 hg2 HT ml ms hcell
  go_wp2_with fail
  refine (down53 q B g (n + 1) cap n fr x w2 Q2.out HFL.out rfl (down_start HH.out HSW.out HFL.out) hn6).mono ?_
  rintro r w3 ⟨b, fr', rfl, q3, p3, h3, g3⟩
  have Q3 := Lib.hid q3
  have P3 := Lib.hid p3
  have H3 := Lib.hid h3
  have G3 := Lib.hid (gr_trans G2.out g3)
  clear q3 p3 h3 g3 Q2 G2
  go_wp2_with fail
  refine (pop98 q B (.slice (some ⟨g, 0, none⟩) (n + 1) cap) fr' x w3 Q3.out (by rw [P3.out.length_eq, HFL.out]; exact hn6)).mono ?_
  rintro r w4 ⟨rfl, v', q4, o4, g4⟩
  have Q4 := Lib.hid q4
  have O4 := Lib.hid o4
  have G4 := Lib.hid ((Kp.own (q := q) G3.out).trans (Kp.var g4))
  clear q4 o4 g4 Q3 G3
  have HX := Lib.hid (show es[0]? = some x by
    have h := HSW.out n
    rw [List.getElem?_append_right (by rw [HFL.out]; exact Nat.le_refl _), HFL.out] at h
    simp only [Nat.sub_self, List.getElem?_cons_zero, if_true] at h
    by_cases h0 : n = 0
    · subst h0; simpa using h.symm
    · rw [if_neg h0] at h; exact h.symm)
  go_wp2_with fail
  go_ret
  exact ⟨x, v', fr', rfl, Q4.out, (P3.out.append_right [x]).trans HPM.out, H3.out, heap_least HH.out HX.out, O4.out, G4.out⟩
end Go.Proofs.Ytfeicdflkpgbnaa
