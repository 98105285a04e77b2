/-
  Proved: queue.Push puts one block behind the queue. Conditions: those that each theorem lists ahead of its colon, and no others.
-/
import Derived.Test.YtfeicdflkpgbnaaOf
import Derived.Deep.RegionLaw
import Derived.Test.YtfeicdflkpgbnaaV4
import Derived.OneCell
namespace Go.Proofs.Ytfeicdflkpgbnaa
open Go.RowKit

theorem row82 : RowT 82 45 11 := rowT_of (z := .agg #[.int .i64 0, .int .i64 0, .int .i64 0, .int .i64 0, .int .i64 0, .int .i64 0, .bool false, .int .u32 0, .int .i64 0, .slice none 0 0, .int .u32 0]) (bytes := 96) (by decide) Try.underlying82 (by kernel_rfl) rfl (by decide)

theorem one_of_list {xs ys : List Value} (h : xs = ys) (h1 : ∀ u ∈ xs, u.oneCell' = true) : ∀ u ∈ ys, u.oneCell' = true := h ▸ h1
/-- What append leaves, ahead of the store into the queue's variable. -/
theorem QS.push {w w3 : World} {B q : Nat} {v v' : Value} {es : List El} {e : El} {o : Obj} (h : QS w B q v es) (own : w3.ownsRow B 45 11 v' (es.length + 1) (cellsE es ++ e.cells)) (gr : (w.alloc o).grownBy w3 v.ownBlock)
    (hX : v'.ownBlock = v.ownBlock ∨ v'.ownBlock = some (w.heap.size + 1)) : w3.cell? ⟨q, 0, none⟩ = some v ∧ w3.frozen? ⟨q, 0, none⟩ = false ∧ QS (w3.setCell ⟨q, 0, none⟩ v') B q v' (es ++ [e]) := by
  have k3 : Bk w3 q 82 #[v] := (h.var.alloc o).grown gr (Ne.symm h.apart)
  have hne : v'.ownBlock ≠ some q := by
    rcases hX with e | e
    · rw [e]; exact h.apart
    · have := h.lt
      rw [e]
      simp only [ne_eq, Option.some.injEq]
      omega
  refine ⟨k3.cell 0, k3.frozen 0, ?_, ?_, hne⟩
  · have := k3.set_ 0 v'
    simpa using this
  · rw [List.length_append, cellsE_append, cellsE_one]
    exact ownsRow_setCell_other own (a := ⟨q, 0, none⟩) hne v'
theorem QS.pushed {w0 w w3 : World} {B q : Nat} {v : Value} {es : List El} {o : Obj} (h : QS w B q v es) (hb : Below B w0 w) (hB : B ≤ w.heap.size) (gr : (w.alloc o).grownBy w3 v.ownBlock) : Below B w0 w3 :=
  (hb.alloc hB o).grown gr (by simp; omega) fun k hk => (h.own.lt k hk).1

set_option maxHeartbeats 1000000 in
set_option maxRecDepth 20000 in
theorem push99 (q B : Nat) (v : Value) (es : List El) (e : El) (w : World) (h : QS w B q v es) (hq : B ≤ q) (hB : B ≤ w.heap.size) (hm : es.length ≤ 65536) :
    Calls Try.prog 99 #[.pointer (some ⟨q, 0, none⟩), .iface 45 (.agg e.cells.toArray)] w fun r w' => r = .returned (.tuple #[]) ∧ ∃ v', QS w' B q v' (es ++ [e]) ∧ Below B w w' := by
  have HQ := Lib.hid h
  have lq := h.lt
  clear h
  obtain ⟨⟨f0, ⟨f1, f2, f3, f4, f5, f6, f7, f8⟩, f9, f10⟩, Ap, cp⟩ := e
  show Calls Try.prog 99 #[.pointer (some ⟨q, 0, none⟩), .iface 45 (.agg #[.int .i64 f0, .int .i64 f1, .int .i64 f2, .int .i64 f3, .int .i64 f4, .int .i64 f5, .bool f6, .int .u32 f7, .int .i64 f8, .slice Ap f9.length cp, .int .u32 f10])] w _
  have HC := Lib.hid (show El.cells ⟨⟨f0, ⟨f1, f2, f3, f4, f5, f6, f7, f8⟩, f9, f10⟩, Ap, cp⟩ = [.int .i64 f0, .int .i64 f1, .int .i64 f2, .int .i64 f3, .int .i64 f4, .int .i64 f5, .bool f6, .int .u32 f7, .int .i64 f8, .slice Ap f9.length cp, .int .u32 f10] from rfl)
  generalize (El.mk ⟨f0, ⟨f1, f2, f3, f4, f5, f6, f7, f8⟩, f9, f10⟩ Ap cp) = e at *
  generalize f9.length = pl at *
  go_enter Try.func99, Try.ntmps99
  go_wp2_with fail
  have Q1 := Lib.hid (HQ.out.alloc (.cells #[.int .i64 f0, .int .i64 f1, .int .i64 f2, .int .i64 f3, .int .i64 f4, .int .i64 f5, .bool f6, .int .u32 f7, .int .i64 f8, .slice Ap pl cp, .int .u32 f10] 45))
  have B1 := Lib.hid ((Below.refl B w).alloc hB (.cells #[.int .i64 f0, .int .i64 f1, .int .i64 f2, .int .i64 f3, .int .i64 f4, .int .i64 f5, .bool f6, .int .u32 f7, .int .i64 f8, .slice Ap pl cp, .int .u32 f10] 45))
  have K1 := Lib.hid (Bk.new w 45 #[.int .i64 f0, .int .i64 f1, .int .i64 f2, .int .i64 f3, .int .i64 f4, .int .i64 f5, .bool f6, .int .u32 f7, .int .i64 f8, .slice Ap pl cp, .int .u32 f10])
  have hs1 := B1.out.size
  generalize w.alloc (.cells #[.int .i64 f0, .int .i64 f1, .int .i64 f2, .int .i64 f3, .int .i64 f4, .int .i64 f5, .bool f6, .int .u32 f7, .int .i64 f8, .slice Ap pl cp, .int .u32 f10] 45) = w1 at *
  have hB1 : B ≤ w1.heap.size := by omega
  clear hs1 HQ lq
  generalize w.heap.size = gh at *
  obtain ⟨c0, c1, c2, c3, c4, c5, c6, c7, c8, c9, c10⟩ := Bk.cells11 K1.out
  have hqc := Q1.out.cell
  have lq1 := Q1.out.lt
  have H1 := Lib.hid (one_of_list HC.out (El.cells_one e))
  have HO := Lib.hid (Q1.out.own.alloc (.cells #[.int .i64 f0, .int .i64 f1, .int .i64 f2, .int .i64 f3, .int .i64 f4, .int .i64 f5, .bool f6, .int .u32 f7, .int .i64 f8, .slice Ap pl cp, .int .u32 f10] 45))
  have HR := Lib.hid (Rd.fresh w1 #[.int .i64 f0, .int .i64 f1, .int .i64 f2, .int .i64 f3, .int .i64 f4, .int .i64 f5, .bool f6, .int .u32 f7, .int .i64 f8, .slice Ap pl cp, .int .u32 f10] 45 (Nat.lt_succ_self w1.heap.size))
  have HS := Lib.hid (show es.length + 1 ≤ 16777216 by omega)
  have HZ := Lib.hid (show B ≤ (w1.alloc (.cells #[.int .i64 f0, .int .i64 f1, .int .i64 f2, .int .i64 f3, .int .i64 f4, .int .i64 f5, .bool f6, .int .u32 f7, .int .i64 f8, .slice Ap pl cp, .int .u32 f10] 45)).heap.size by simp; omega)
  have HP := Lib.hid (show ∀ v' w3, w3.ownsRow B 45 11 v' (es.length + 1) (cellsE es ++ [.int .i64 f0, .int .i64 f1, .int .i64 f2, .int .i64 f3, .int .i64 f4, .int .i64 f5, .bool f6, .int .u32 f7, .int .i64 f8, .slice Ap pl cp, .int .u32 f10]) → (w1.alloc (.cells #[.int .i64 f0, .int .i64 f1, .int .i64 f2, .int .i64 f3, .int .i64 f4, .int .i64 f5, .bool f6, .int .u32 f7, .int .i64 f8, .slice Ap pl cp, .int .u32 f10] 45)).drew.grownBy w3 v.ownBlock → (v'.ownBlock = v.ownBlock ∨ v'.ownBlock = some (w1.alloc (.cells #[.int .i64 f0, .int .i64 f1, .int .i64 f2, .int .i64 f3, .int .i64 f4, .int .i64 f5, .bool f6, .int .u32 f7, .int .i64 f8, .slice Ap pl cp, .int .u32 f10] 45)).drew.heap.size) →
      ∃ g' cap', v' = .slice (some ⟨g', 0, none⟩) (es.length + 1) cap' ∧ w3.cell? ⟨q, 0, none⟩ = some v ∧ w3.frozen? ⟨q, 0, none⟩ = false ∧ QS (w3.setCell ⟨q, 0, none⟩ v') B q v' (es ++ [e]) ∧ Below B w (w3.setCell ⟨q, 0, none⟩ v') from fun v' w3 own gr0 hX => by
    have gr := gr_trans (gr_drew (gr_refl _ _)) gr0
    obtain ⟨g', cap', hv, _⟩ := own_head own (Nat.succ_pos _)
    obtain ⟨a1, a2, a3⟩ := QS.push (e := e) Q1.out (by rw [HC.out]; exact own) gr (by simpa using hX)
    exact ⟨g', cap', hv, a1, a2, a3, (Q1.out.pushed B1.out hB1 gr).setCell hq v'⟩)
  go_region_law (refine step_app _ row82 rfl (.tmp 15) (.tmp 17) rfl B v es.length (cellsE es) rfl HO.out (w1.heap.size + 1) (some ⟨w1.heap.size, 0, none⟩) 1 1 [.int .i64 f0, .int .i64 f1, .int .i64 f2, .int .i64 f3, .int .i64 f4, .int .i64 f5, .bool f6, .int .u32 f7, .int .i64 f8, .slice Ap pl cp, .int .u32 f10] rfl HR.out rfl H1.out HS.out HZ.out ?_; intro v' w3 own gr hX; obtain ⟨g', cap', rfl, hc3, hf3, Q3, B3⟩ := HP.out v' w3 own gr hX; have Q4 := Lib.hid Q3; have B4 := Lib.hid B3; clear own gr hX Q3 B3)
  all_goals
    go_end0
    exact ⟨rfl, _, Q4.out, B4.out⟩
end Go.Proofs.Ytfeicdflkpgbnaa
