/-
  Proved: descantlaw30.backs and descantlaw30.owns hand over all blocks as they are. Conditions: those that each theorem lists ahead of its colon, and no others.
-/
import Derived.Test.YtfeicdflkpgbnaaV2
namespace Go.Proofs.Ytfeicdflkpgbnaa
open Go.RowKit

/-- A slice that holds the found blocks fs. -/
def Fs (w : World) (A : Option Addr) (c : Nat) (fs : List Fd) (xs : List Value) : Prop := fs.length ≤ c ∧ Rd w w.heap.size A xs ∧ FdsOk w none fs xs

theorem Fs.lies {w : World} {A : Option Addr} {c : Nat} {fs : List Fd} {xs : List Value} (h : Fs w A c fs xs) {i : Nat} (hi : i < fs.length) :
    ∃ b o, A = some ⟨b, o, none⟩ ∧ b < w.heap.size ∧ ∀ (j : Nat) u, xs[j]? = some u → w.cell? ⟨b, o + j, none⟩ = some u :=
  h.2.1.mem (k := 0) (by rw [h.2.2.length]; omega)
theorem Fs.below {w w' : World} {A : Option Addr} {c : Nat} {fs : List Fd} {xs : List Value} (h : Fs w A c fs xs) (hb : Below w.heap.size w w') : Fs w' A c fs xs :=
  ⟨h.1, (h.2.1.below hb).more hb.size, h.2.2.below hb⟩

/-- The eleven cells of found block i. -/
theorem FdsOk.eleven {w wr : World} {X : Option Nat} {fs : List Fd} {xs : List Value} {b o : Nat} (h : FdsOk w X fs xs) (hc : ∀ (j : Nat) u, xs[j]? = some u → wr.cell? ⟨b, o + j, none⟩ = some u) (i : Nat) (hi : i < fs.length) :
    ∃ Ap cp, PayOk w X fs[i].pay Ap cp ∧ xs.take ((i + 1) * 11) = xs.take (i * 11) ++ fdCells fs[i] Ap cp ∧
      wr.cell? ⟨b, o + i * 11, none⟩ = some (.int .i64 fs[i].at_) ∧ wr.cell? ⟨b, o + i * 11 + 1, none⟩ = some (.int .i64 fs[i].hd.kind) ∧ wr.cell? ⟨b, o + i * 11 + 2, none⟩ = some (.int .i64 fs[i].hd.index) ∧
      wr.cell? ⟨b, o + i * 11 + 3, none⟩ = some (.int .i64 fs[i].hd.length) ∧ wr.cell? ⟨b, o + i * 11 + 4, none⟩ = some (.int .i64 fs[i].hd.step) ∧ wr.cell? ⟨b, o + i * 11 + 5, none⟩ = some (.int .i64 fs[i].hd.bound) ∧
      wr.cell? ⟨b, o + i * 11 + 6, none⟩ = some (.bool fs[i].hd.last) ∧ wr.cell? ⟨b, o + i * 11 + 7, none⟩ = some (.int .u32 fs[i].hd.link) ∧ wr.cell? ⟨b, o + i * 11 + 8, none⟩ = some (.int .i64 fs[i].hd.size) ∧
      wr.cell? ⟨b, o + i * 11 + 9, none⟩ = some (.slice Ap fs[i].pay.length cp) ∧ wr.cell? ⟨b, o + i * 11 + 10, none⟩ = some (.int .u32 fs[i].sum) := by
  obtain ⟨Ap, cp, hp, hx⟩ := h.get i hi
  have hl := h.length
  have H : ∀ (j : Nat) (hj : j < 11) u, (fdCells fs[i] Ap cp)[j]? = some u → wr.cell? ⟨b, o + i * 11 + j, none⟩ = some u := fun j hj u hu => by
    rw [Nat.add_assoc]
    exact hc _ u (by rw [hx j hj, hu])
  refine ⟨Ap, cp, hp, ?_, H 0 (by decide) _ rfl, H 1 (by decide) _ rfl, H 2 (by decide) _ rfl, H 3 (by decide) _ rfl, H 4 (by decide) _ rfl, H 5 (by decide) _ rfl, H 6 (by decide) _ rfl, H 7 (by decide) _ rfl, H 8 (by decide) _ rfl, H 9 (by decide) _ rfl, H 10 (by decide) _ rfl⟩
  apply List.ext_getElem?
  intro j
  rcases Nat.lt_or_ge j (i * 11) with h1 | h1
  · rw [List.getElem?_append_left (by rw [List.length_take]; omega), List.getElem?_take, List.getElem?_take, if_pos (by omega), if_pos h1]
  · rw [List.getElem?_append_right (by rw [List.length_take]; omega), List.getElem?_take, List.length_take, Nat.min_eq_left (by omega)]
    rcases Nat.lt_or_ge (j - i * 11) 11 with h2 | h2
    · rw [if_pos (by omega), ← hx _ h2, show i * 11 + (j - i * 11) = j by omega]
    · rw [if_neg (by omega), List.getElem?_eq_none (by rw [fdCells_length]; exact h2)]

set_option maxHeartbeats 1000000 in
set_option maxRecDepth 20000 in
theorem backs10 (n c : Nat) (A : Option Addr) (fs : List Fd) (xs : List Value) (w : World) (h : Fs w A c fs xs) (hn : n = fs.length) (hm : n ≤ 65536) :
    Calls Try.prog 10 #[.slice A n c] w (FsP w fs) := by
  have HF := Lib.hid h
  have HN := Lib.hid hn
  have hc : n ≤ c := by rw [hn]; exact h.1
  clear h hn
  go_enter Try.func10, Try.ntmps10
  go_wp2_with fail
  go_loopw [3, 4] (fun v i wr => ∃ k : Nat, k ≤ n ∧ i = .int .i64 k ∧ wr.ownsRow w.heap.size 48 11 v k (xs.take (k * 11)) ∧ Below w.heap.size w wr) (fun _ i _ => n - (intOf i).toNat)
  case atStart => exact ⟨0, Nat.zero_le _, rfl, by simpa using World.ownsRow_nil _ _ _ _, Below.refl _ _⟩
  case round =>
    obtain ⟨k, hk, rfl, own, hbel⟩ := hrel
    have HO := Lib.hid own
    have HB := Lib.hid hbel
    have hsz := hbel.size
    clear own hbel
    by_cases hlt : k < n
    · have hk' : k < fs.length := by rw [← HN.out]; exact hlt
      obtain ⟨b, o, rfl, hb, hcl⟩ := HF.out.lies hk'
      obtain ⟨Ap, cp, hp, htk, c0, c1, c2, c3, c4, c5, c6, c7, c8, c9, c10⟩ := HF.out.2.2.eleven (wr := wr) (fun j u hu => (HB.out.cell (p := ⟨b, o + j, none⟩) hb).trans (hcl j u hu)) k hk'
      have HK := Lib.hid htk
      clear hcl hp htk
      generalize hf : fs[k] = f at *
      clear hf
      obtain ⟨f0, ⟨f1, f2, f3, f4, f5, f6, f7, f8⟩, f9, f10⟩ := f
      dsimp only at c0 c1 c2 c3 c4 c5 c6 c7 c8 c9 c10
      have HC := Lib.hid (show fdCells ⟨f0, ⟨f1, f2, f3, f4, f5, f6, f7, f8⟩, f9, f10⟩ Ap cp = [.int .i64 f0, .int .i64 f1, .int .i64 f2, .int .i64 f3, .int .i64 f4, .int .i64 f5, .bool f6, .int .u32 f7, .int .i64 f8, .slice Ap f9.length cp, .int .u32 f10] from rfl)
      generalize f9.length = pl at *
      go_wp2_with (at_builtin; refine wpl_app _ row27 rfl (.tmp 11) (.tmp 16) rfl w.heap.size u3 k (xs.take (k * 11)) rfl (HO.out.alloc _) (wr.heap.size + 1) (some ⟨wr.heap.size, 0, none⟩) 1 1 (fdCells ⟨f0, ⟨f1, f2, f3, f4, f5, f6, f7, f8⟩, f9, f10⟩ Ap cp) rfl ?r rfl (fdCells_one _ _ _) (by omega) (by simp; omega) ?go)
      case r => rw [HC.out]; exact Rd.fresh wr _ 48 (Nat.lt_succ_self _)
      case go =>
        intro v' w3 own gr hX
        have O3 := Lib.hid (show w3.ownsRow w.heap.size 48 11 v' (k + 1) (xs.take ((k + 1) * 11)) by rw [HK.out]; exact own)
        have B3 := Lib.hid (below_app (HO.out.alloc _) gr (HB.out.alloc hsz _) (by simp; omega))
        clear own gr hX
        go_wp2_with fail
        go_roundw
        case rel => exact ⟨k + 1, by omega, by go_num, O3.out, B3.out⟩
        case measure => simp [intOf]; omega
    · obtain rfl : k = n := by omega
      have hx : xs.take (k * 11) = xs := List.take_of_length_le (by rw [HF.out.2.2.length, ← HN.out]; exact Nat.le_refl _)
      have HX := Lib.hid hx
      clear hx
      go_wp2_with fail
      go_ret
      rw [HX.out] at HO
      obtain ⟨A', c', rfl, hc', hr, _⟩ := own_slice HO.out
      exact ⟨A', c', xs, by rw [HN.out]; rfl, by rw [← HN.out]; exact hc', hr, HF.out.2.2.below HB.out, HB.out⟩
set_option maxHeartbeats 1000000 in
set_option maxRecDepth 20000 in
theorem owns19 (n c : Nat) (A : Option Addr) (fs : List Fd) (xs : List Value) (w : World) (h : Fs w A c fs xs) (hn : n = fs.length) (hm : n ≤ 65536) :
    Calls Try.prog 19 #[.slice A n c] w (FsP w fs) := by
  have HF := Lib.hid h
  have HN := Lib.hid hn
  have hc : n ≤ c := by rw [hn]; exact h.1
  clear h hn
  go_enter Try.func19, Try.ntmps19
  go_wp2_with fail
  go_loopw [3, 4] (fun v i wr => ∃ k : Nat, k ≤ n ∧ i = .int .i64 k ∧ wr.ownsRow w.heap.size 45 11 v k (xs.take (k * 11)) ∧ Below w.heap.size w wr) (fun _ i _ => n - (intOf i).toNat)
  case atStart => exact ⟨0, Nat.zero_le _, rfl, by simpa using World.ownsRow_nil _ _ _ _, Below.refl _ _⟩
  case round =>
    obtain ⟨k, hk, rfl, own, hbel⟩ := hrel
    have HO := Lib.hid own
    have HB := Lib.hid hbel
    have hsz := hbel.size
    clear own hbel
    by_cases hlt : k < n
    · have hk' : k < fs.length := by rw [← HN.out]; exact hlt
      obtain ⟨b, o, rfl, hb, hcl⟩ := HF.out.lies hk'
      obtain ⟨Ap, cp, hp, htk, c0, c1, c2, c3, c4, c5, c6, c7, c8, c9, c10⟩ := HF.out.2.2.eleven (wr := wr) (fun j u hu => (HB.out.cell (p := ⟨b, o + j, none⟩) hb).trans (hcl j u hu)) k hk'
      have HK := Lib.hid htk
      clear hcl hp htk
      generalize hf : fs[k] = f at *
      clear hf
      obtain ⟨f0, ⟨f1, f2, f3, f4, f5, f6, f7, f8⟩, f9, f10⟩ := f
      dsimp only at c0 c1 c2 c3 c4 c5 c6 c7 c8 c9 c10
      have HC := Lib.hid (show fdCells ⟨f0, ⟨f1, f2, f3, f4, f5, f6, f7, f8⟩, f9, f10⟩ Ap cp = [.int .i64 f0, .int .i64 f1, .int .i64 f2, .int .i64 f3, .int .i64 f4, .int .i64 f5, .bool f6, .int .u32 f7, .int .i64 f8, .slice Ap f9.length cp, .int .u32 f10] from rfl)
      generalize f9.length = pl at *
      go_wp2_with (at_builtin; refine wpl_app _ row29 rfl (.tmp 11) (.tmp 16) rfl w.heap.size u3 k (xs.take (k * 11)) rfl (HO.out.alloc _) (wr.heap.size + 1) (some ⟨wr.heap.size, 0, none⟩) 1 1 (fdCells ⟨f0, ⟨f1, f2, f3, f4, f5, f6, f7, f8⟩, f9, f10⟩ Ap cp) rfl ?r rfl (fdCells_one _ _ _) (by omega) (by simp; omega) ?go)
      case r => rw [HC.out]; exact Rd.fresh wr _ 45 (Nat.lt_succ_self _)
      case go =>
        intro v' w3 own gr hX
        have O3 := Lib.hid (show w3.ownsRow w.heap.size 45 11 v' (k + 1) (xs.take ((k + 1) * 11)) by rw [HK.out]; exact own)
        have B3 := Lib.hid (below_app (HO.out.alloc _) gr (HB.out.alloc hsz _) (by simp; omega))
        clear own gr hX
        go_wp2_with fail
        go_roundw
        case rel => exact ⟨k + 1, by omega, by go_num, O3.out, B3.out⟩
        case measure => simp [intOf]; omega
    · obtain rfl : k = n := by omega
      have hx : xs.take (k * 11) = xs := List.take_of_length_le (by rw [HF.out.2.2.length, ← HN.out]; exact Nat.le_refl _)
      have HX := Lib.hid hx
      clear hx
      go_wp2_with fail
      go_ret
      rw [HX.out] at HO
      obtain ⟨A', c', rfl, hc', hr, _⟩ := own_slice HO.out
      exact ⟨A', c', xs, by rw [HN.out]; rfl, by rw [← HN.out]; exact hc', hr, HF.out.2.2.below HB.out, HB.out⟩
end Go.Proofs.Ytfeicdflkpgbnaa
