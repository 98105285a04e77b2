/-
  Proved: how the arguments of a row, a slice of found blocks and two whole numbers, read in memory. Conditions: those that each theorem lists ahead of its colon, and no others.
-/
import Derived.Test.YtfeicdflkpgbnaaYa
import Derived.Deep.Slices
import Derived.Test.YtfeicdflkpgbnaaOm
namespace Go.Proofs.Ytfeicdflkpgbnaa
open Go.ChangeShapes Go.WideShapes Go.ChangeAt Go.RowKit Go.Deep

theorem Try.cells22' : Try.prog.cellsOf 22 = 1 := by kernel_rfl
theorem found_bytes {H : Type} {enc : TypeId × Value → H} {W : World} {fuel : Nat} {v : Value} {x : DataW H × List MemPlace} {sp : Nat → Bool} {hd : Bool} (h : DataW.trod enc Try.prog W 0 sp hd fuel 22 [v] = some x) :
    ∃ A c, ∃ bs : List UInt8, v = .slice A bs.length c ∧ bs.length ≤ c ∧ Bs W W.heap.size A bs := by
  rcases DataW.trod_slice Try.underlying22 h with ⟨hcs, _⟩ | ⟨a, len, cap, elems, rest, n, _, hcs, _⟩
  · simp only [List.cons.injEq, and_true] at hcs
    subst hcs
    exact ⟨none, 0, [], rfl, Nat.le_refl _, Bs.nil⟩
  · simp only [List.cons.injEq, and_true] at hcs
    subst hcs
    obtain ⟨bs, h1, h2, h3⟩ := open_bytes (enc := enc) (d := x.1) (p := x.2) (sp := sp) (hd := hd) (A := some a) (n := len) (c := cap) ⟨fuel, by simpa [Value.cells] using h⟩
    exact ⟨some a, cap, bs, by rw [h1], by rw [← h1]; exact h2, h3⟩

theorem Try.cells48 : Try.prog.cellsOf 48 = 11 := by kernel_rfl
theorem Try.cells40 : Try.prog.cellsOf 40 = 8 := by kernel_rfl
theorem Try.cells3 : Try.prog.cellsOf 3 = 1 := by kernel_rfl
theorem Try.cells4 : Try.prog.cellsOf 4 = 1 := by kernel_rfl
theorem Try.cells38 : Try.prog.cellsOf 38 = 1 := by kernel_rfl

section
variable {H : Type} {enc : TypeId × Value → H} {W : World} {sp : Nat → Bool} {hd : Bool}
theorem one_i64 {fuel : Nat} {v : Value} {y : Option (DataW H × List MemPlace)} (h : DataW.trod enc Try.prog W 0 sp hd fuel 3 [v] = y) (hy : y ≠ none) : ∃ n, v = .int .i64 n := by
  obtain ⟨x, hx⟩ := Option.ne_none_iff_exists'.1 hy
  rw [hx] at h
  obtain ⟨n, e, _⟩ := DataW.trod_int Try.underlying3 h
  exact ⟨n, by simpa using e⟩
theorem one_u32 {fuel : Nat} {v : Value} {y : Option (DataW H × List MemPlace)} (h : DataW.trod enc Try.prog W 0 sp hd fuel 38 [v] = y) (hy : y ≠ none) : ∃ n, v = .int .u32 n := by
  obtain ⟨x, hx⟩ := Option.ne_none_iff_exists'.1 hy
  rw [hx] at h
  obtain ⟨n, e, _⟩ := DataW.trod_int Try.underlying38 h
  exact ⟨n, by simpa using e⟩
theorem one_bool {fuel : Nat} {v : Value} {y : Option (DataW H × List MemPlace)} (h : DataW.trod enc Try.prog W 0 sp hd fuel 4 [v] = y) (hy : y ≠ none) : ∃ b, v = .bool b := by
  obtain ⟨x, hx⟩ := Option.ne_none_iff_exists'.1 hy
  rw [hx] at h
  obtain ⟨n, e, _⟩ := DataW.trod_bool Try.underlying4 h
  exact ⟨n, by simpa using e⟩

set_option maxRecDepth 20000 in
/-- A found block that came in. -/
theorem found_row {fuel : Nat} {cs : List Value} {x : DataW H × List MemPlace} (h : DataW.trod enc Try.prog W 0 sp hd fuel 48 cs = some x) : ∃ e : El, cs = e.cells ∧ PayE W (fun _ => False) e := by
  obtain ⟨ys, k, _, _, hlen, hyl, hf⟩ := DataW.trod_struct Try.underlying48 h
  rw [Try.cells48] at hlen
  have hne : ∀ i, i < 4 → ys[i]? ≠ none := fun i hi => by
    have : i < ys.length := by rw [hyl]; exact hi
    rw [List.getElem?_eq_getElem this]
    simp
  match cs, hlen with
  | [c0, c1, c2, c3, c4, c5, c6, c7, c8, c9, c10], _ =>
    have e0 : DataW.trod enc Try.prog W 0 sp hd k 3 (([c0, c1, c2, c3, c4, c5, c6, c7, c8, c9, c10].drop 0).take (Try.prog.cellsOf 3)) = ys[0]? := hf 0 _ rfl
    rw [Try.cells3] at e0
    have h0 : DataW.trod enc Try.prog W 0 sp hd k 3 [c0] = ys[0]? := e0
    have e1 : DataW.trod enc Try.prog W 0 sp hd k 40 (([c0, c1, c2, c3, c4, c5, c6, c7, c8, c9, c10].drop 1).take (Try.prog.cellsOf 40)) = ys[1]? := hf 1 _ rfl
    rw [Try.cells40] at e1
    have h1 : DataW.trod enc Try.prog W 0 sp hd k 40 [c1, c2, c3, c4, c5, c6, c7, c8] = ys[1]? := e1
    have e2 : DataW.trod enc Try.prog W 0 sp hd k 22 (([c0, c1, c2, c3, c4, c5, c6, c7, c8, c9, c10].drop 9).take (Try.prog.cellsOf 22)) = ys[2]? := hf 2 _ rfl
    rw [Try.cells22'] at e2
    have h2 : DataW.trod enc Try.prog W 0 sp hd k 22 [c9] = ys[2]? := e2
    have e3 : DataW.trod enc Try.prog W 0 sp hd k 38 (([c0, c1, c2, c3, c4, c5, c6, c7, c8, c9, c10].drop 10).take (Try.prog.cellsOf 38)) = ys[3]? := hf 3 _ rfl
    rw [Try.cells38] at e3
    have h3 : DataW.trod enc Try.prog W 0 sp hd k 38 [c10] = ys[3]? := e3
    obtain ⟨a0, rfl⟩ := one_i64 h0 (hne 0 (by decide))
    obtain ⟨a10, rfl⟩ := one_u32 h3 (hne 3 (by decide))
    obtain ⟨y2, hy2⟩ := Option.ne_none_iff_exists'.1 (hne 2 (by decide))
    rw [hy2] at h2
    obtain ⟨A, c, bs, e9, hc, hb⟩ := found_bytes h2
    subst e9
    obtain ⟨y1, hy1⟩ := Option.ne_none_iff_exists'.1 (hne 1 (by decide))
    rw [hy1] at h1
    obtain ⟨zs, k', _, _, _, hzl, hg⟩ := DataW.trod_struct Try.underlying40 h1
    have gne : ∀ i, i < 8 → zs[i]? ≠ none := fun i hi => by
      have : i < zs.length := by rw [hzl]; exact hi
      rw [List.getElem?_eq_getElem this]
      simp
    have q0 : DataW.trod enc Try.prog W 0 sp hd k' 3 (([c1, c2, c3, c4, c5, c6, c7, c8].drop 0).take (Try.prog.cellsOf 3)) = zs[0]? := hg 0 _ rfl
    rw [Try.cells3] at q0
    have g0 : DataW.trod enc Try.prog W 0 sp hd k' 3 [c1] = zs[0]? := q0
    have q1 : DataW.trod enc Try.prog W 0 sp hd k' 3 (([c1, c2, c3, c4, c5, c6, c7, c8].drop 1).take (Try.prog.cellsOf 3)) = zs[1]? := hg 1 _ rfl
    rw [Try.cells3] at q1
    have g1 : DataW.trod enc Try.prog W 0 sp hd k' 3 [c2] = zs[1]? := q1
    have q2 : DataW.trod enc Try.prog W 0 sp hd k' 3 (([c1, c2, c3, c4, c5, c6, c7, c8].drop 2).take (Try.prog.cellsOf 3)) = zs[2]? := hg 2 _ rfl
    rw [Try.cells3] at q2
    have g2 : DataW.trod enc Try.prog W 0 sp hd k' 3 [c3] = zs[2]? := q2
    have q3 : DataW.trod enc Try.prog W 0 sp hd k' 3 (([c1, c2, c3, c4, c5, c6, c7, c8].drop 3).take (Try.prog.cellsOf 3)) = zs[3]? := hg 3 _ rfl
    rw [Try.cells3] at q3
    have g3 : DataW.trod enc Try.prog W 0 sp hd k' 3 [c4] = zs[3]? := q3
    have q4 : DataW.trod enc Try.prog W 0 sp hd k' 3 (([c1, c2, c3, c4, c5, c6, c7, c8].drop 4).take (Try.prog.cellsOf 3)) = zs[4]? := hg 4 _ rfl
    rw [Try.cells3] at q4
    have g4 : DataW.trod enc Try.prog W 0 sp hd k' 3 [c5] = zs[4]? := q4
    have q5 : DataW.trod enc Try.prog W 0 sp hd k' 4 (([c1, c2, c3, c4, c5, c6, c7, c8].drop 5).take (Try.prog.cellsOf 4)) = zs[5]? := hg 5 _ rfl
    rw [Try.cells4] at q5
    have g5 : DataW.trod enc Try.prog W 0 sp hd k' 4 [c6] = zs[5]? := q5
    have q6 : DataW.trod enc Try.prog W 0 sp hd k' 38 (([c1, c2, c3, c4, c5, c6, c7, c8].drop 6).take (Try.prog.cellsOf 38)) = zs[6]? := hg 6 _ rfl
    rw [Try.cells38] at q6
    have g6 : DataW.trod enc Try.prog W 0 sp hd k' 38 [c7] = zs[6]? := q6
    have q7 : DataW.trod enc Try.prog W 0 sp hd k' 3 (([c1, c2, c3, c4, c5, c6, c7, c8].drop 7).take (Try.prog.cellsOf 3)) = zs[7]? := hg 7 _ rfl
    rw [Try.cells3] at q7
    have g7 : DataW.trod enc Try.prog W 0 sp hd k' 3 [c8] = zs[7]? := q7
    obtain ⟨a1, rfl⟩ := one_i64 g0 (gne 0 (by decide))
    obtain ⟨a2, rfl⟩ := one_i64 g1 (gne 1 (by decide))
    obtain ⟨a3, rfl⟩ := one_i64 g2 (gne 2 (by decide))
    obtain ⟨a4, rfl⟩ := one_i64 g3 (gne 3 (by decide))
    obtain ⟨a5, rfl⟩ := one_i64 g4 (gne 4 (by decide))
    obtain ⟨a6, rfl⟩ := one_bool g5 (gne 5 (by decide))
    obtain ⟨a7, rfl⟩ := one_u32 g6 (gne 6 (by decide))
    obtain ⟨a8, rfl⟩ := one_i64 g7 (gne 7 (by decide))
    exact ⟨⟨⟨a0, ⟨a1, a2, a3, a4, a5, a6, a7, a8⟩, bs, a10⟩, A, c⟩, rfl, hc, hb, fun _ _ _ h => h⟩

/-- A slice of found blocks that came in. -/
theorem open_founds {A : Option Addr} {n c : Nat} {d : DataW H} {p : List MemPlace} (h0 : DataW.Trod enc Try.prog W 0 sp hd 27 (.slice A n c) d p) :
    ∃ (fs : List Fd) (xs : List Value), n = fs.length ∧ Fs W A c fs xs := by
  obtain ⟨fuel, hf⟩ := h0
  rcases open_slice Try.underlying27 hf with ⟨hcs, hx⟩ | ⟨a, len, cap, m, k, D, Pl, hcs, _, hl, hm, hmm, hx, hV⟩
  · simp [Value.cells] at hcs
    obtain ⟨rfl, rfl, rfl⟩ := hcs
    exact ⟨[], [], rfl, Nat.le_refl _, Rd.nil, rfl⟩
  · simp [Value.cells] at hcs
    obtain ⟨rfl, rfl, rfl⟩ := hcs
    rw [Try.cells48] at hV
    have hnm : n ≤ m := by split at hmm <;> omega
    let _ : Inhabited El := ⟨⟨⟨0, ⟨0, 0, 0, 0, 0, false, 0, 0⟩, [], 0⟩, none, 0⟩⟩
    obtain ⟨F, hF⟩ := choose_lt (α := El) (p := fun i e => (∀ j, j < 11 → W.cell? ((a.add (i * 11)).add j) = e.cells[j]?) ∧ PayE W (fun _ => False) e) (n := n) (fun i hi => by
      obtain ⟨cs', hc, ht⟩ := hV i (by omega)
      obtain ⟨_, hcl, hat⟩ := World.cells?_some hc
      obtain ⟨e, rfl, hp⟩ := found_row ht
      exact ⟨e, hat, hp⟩)
    refine ⟨((List.range n).map F).map (·.f), cellsE ((List.range n).map F), by simp, by simpa using hl, ?_, of_els (D := fun _ => False) fun e he => ?_⟩
    · intro hne
      have hn0 : 0 < n := by
        rcases Nat.eq_zero_or_pos n with h | h
        · subst h; exact absurd rfl hne
        · exact h
      obtain ⟨b, off, spot⟩ := a
      have c00 := (hF 0 hn0).1 0 (by decide)
      have hspot : spot = none := by
        have h1 : W.cell? ((Addr.mk b off spot).add (0 * 11) |>.add 0) = some (.int .i64 (F 0).f.at_) := c00
        have := World.cell?_spot h1
        simpa [Addr.add] using this
      subst hspot
      have hc : ∀ i, i < n → ∀ j, j < 11 → W.cell? ⟨b, off + i * 11 + j, none⟩ = (F i).cells[j]? := fun i hi j hj => by
        have := (hF i hi).1 j hj
        rwa [add_plain, add_plain] at this
      have hb : b < W.heap.size := by
        have h1 : W.cell? ⟨b, off + 0 * 11 + 0, none⟩ = some (.int .i64 (F 0).f.at_) := hc 0 hn0 0 (by decide)
        exact World.block_lt_of_cell? W _ h1
      refine ⟨b, off, rfl, hb, fun j u hu => ?_⟩
      have hjl : j < n * 11 := by
        have := (List.getElem?_eq_some_iff.1 hu).1
        rwa [cellsE_length, List.length_map, List.length_range] at this
      have hr : j % 11 < 11 := Nat.mod_lt _ (by decide)
      have hq : j / 11 < n := by omega
      have hd : j = j / 11 * 11 + j % 11 := by omega
      rw [hd, cellsE_get _ _ _ hr, List.getElem?_map, List.getElem?_range hq] at hu
      have h2 := hc _ hq _ hr
      rw [show off + j / 11 * 11 + j % 11 = off + j by omega] at h2
      rw [h2]
      exact hu
    · obtain ⟨i, hi, rfl⟩ := List.mem_map.1 he
      exact (hF i (List.mem_range.1 hi)).2
end
end Go.Proofs.Ytfeicdflkpgbnaa
