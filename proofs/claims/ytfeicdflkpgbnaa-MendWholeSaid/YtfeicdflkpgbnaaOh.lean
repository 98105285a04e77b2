/-
  Proved: queue.Pop takes the last block off the queue and hands it out. Conditions: those that each theorem lists ahead of its colon, and no others.
-/
import Derived.Test.YtfeicdflkpgbnaaOg
namespace Go.Proofs.Ytfeicdflkpgbnaa
open Go.RowKit

theorem own_eleven {w : World} {B g cap n i : Nat} {es : List El} (h : w.ownsRow B 45 11 (.slice (some ⟨g, 0, none⟩) n cap) n (cellsE es)) (hi : i < es.length) :
    w.cell? ⟨g, i * 11, none⟩ = some (.int .i64 es[i].f.at_) ∧ w.cell? ⟨g, i * 11 + 1, none⟩ = some (.int .i64 es[i].f.hd.kind) ∧ w.cell? ⟨g, i * 11 + 2, none⟩ = some (.int .i64 es[i].f.hd.index) ∧
      w.cell? ⟨g, i * 11 + 3, none⟩ = some (.int .i64 es[i].f.hd.length) ∧ w.cell? ⟨g, i * 11 + 4, none⟩ = some (.int .i64 es[i].f.hd.step) ∧ w.cell? ⟨g, i * 11 + 5, none⟩ = some (.int .i64 es[i].f.hd.bound) ∧
      w.cell? ⟨g, i * 11 + 6, none⟩ = some (.bool es[i].f.hd.last) ∧ w.cell? ⟨g, i * 11 + 7, none⟩ = some (.int .u32 es[i].f.hd.link) ∧ w.cell? ⟨g, i * 11 + 8, none⟩ = some (.int .i64 es[i].f.hd.size) ∧
      w.cell? ⟨g, i * 11 + 9, none⟩ = some (.slice es[i].A es[i].f.pay.length es[i].c) ∧ w.cell? ⟨g, i * 11 + 10, none⟩ = some (.int .u32 es[i].f.sum) := by
  have h1 := own_range h hi
  exact ⟨h1 0 _ rfl, h1 1 _ rfl, h1 2 _ rfl, h1 3 _ rfl, h1 4 _ rfl, h1 5 _ rfl, h1 6 _ rfl, h1 7 _ rfl, h1 8 _ rfl, h1 9 _ rfl, h1 10 _ rfl⟩

theorem gr_setq {a w : World} (q : Nat) (h : a.grownBy w (some q)) (u : Value) : a.grownBy (w.setCell ⟨q, 0, none⟩ u) (some q) := gr_set h (.inl rfl) u
theorem QS.popped {w : World} {B q g cap m : Nat} {fr : List El} {e : El} (h : QS w B q (.slice (some ⟨g, 0, none⟩) (fr ++ [e]).length cap) (fr ++ [e])) (hm : fr.length = m) :
    QS (w.setCell ⟨q, 0, none⟩ (.slice (some ⟨g, 0, none⟩) m cap)) B q (.slice (some ⟨g, 0, none⟩) m cap) fr := by
  subst hm
  have hne : g ≠ q := fun e => h.apart (by rw [e]; rfl)
  refine ⟨?_, ?_, fun e => hne (by injection e)⟩
  · have := h.var.set_ 0 (.slice (some ⟨g, 0, none⟩) fr.length cap)
    simpa using this
  · have h1 := h.own
    rw [cellsE_append] at h1
    have hl : (fr ++ [e]).length = fr.length + 1 := by simp
    rw [hl] at h1
    have h2 := ownsRow_pop (by rw [cellsE_length]) h1
    exact ownsRow_setCell_other h2 (a := ⟨q, 0, none⟩) (fun e => hne (by injection e)) _

set_option maxHeartbeats 1000000 in
set_option maxRecDepth 20000 in
theorem pop98 (q B : Nat) (v : Value) (fr : List El) (e : El) (w : World) (h : QS w B q v (fr ++ [e])) (hm : fr.length ≤ 65536) :
    Calls Try.prog 98 #[.pointer (some ⟨q, 0, none⟩)] w fun r w' => r = .returned (.iface 45 (.agg e.cells.toArray)) ∧ ∃ v', QS w' B q v' fr ∧ v'.ownBlock = v.ownBlock ∧ w.grownBy w' (some q) := by
  have HQ := Lib.hid h
  have lq := h.lt
  have hqc := h.cell
  have hqf := h.var.frozen 0
  obtain ⟨g, cap, rfl, hcap⟩ := own_head h.own (by simp)
  rw [show (fr ++ [e]).length = fr.length + 1 by simp] at hqc hcap
  obtain ⟨c0, c1, c2, c3, c4, c5, c6, c7, c8, c9, c10⟩ := own_eleven h.own (i := fr.length) (by simp)
  rw [show (fr ++ [e])[fr.length]'(by simp) = e by simp] at c0 c1 c2 c3 c4 c5 c6 c7 c8 c9 c10
  have lg := World.block_lt_of_cell? w _ c0
  clear h
  have hne : q ≠ g := fun e => HQ.out.apart (by rw [e]; rfl)
  have HE := Lib.hid (rfl : e = e)
  obtain ⟨⟨f0, ⟨f1, f2, f3, f4, f5, f6, f7, f8⟩, f9, f10⟩, Ap, cp⟩ := e
  dsimp only at c0 c1 c2 c3 c4 c5 c6 c7 c8 c9 c10
  show Calls Try.prog 98 #[.pointer (some ⟨q, 0, none⟩)] w fun r w' => r = .returned (.iface 45 (.agg #[.int .i64 f0, .int .i64 f1, .int .i64 f2, .int .i64 f3, .int .i64 f4, .int .i64 f5, .bool f6, .int .u32 f7, .int .i64 f8, .slice Ap f9.length cp, .int .u32 f10])) ∧ _
  clear HE
  generalize (El.mk ⟨f0, ⟨f1, f2, f3, f4, f5, f6, f7, f8⟩, f9, f10⟩ Ap cp) = e at *
  generalize f9.length = pl at *
  have HM := Lib.hid (rfl : fr.length = fr.length)
  generalize hmm : fr.length = m at *
  have HN := Lib.hid hmm
  clear hmm HM
  have hu : IntKind.i64.wrap ((m : Int) + 1 - 1) = (m : Int) := by rw [show (m : Int) + 1 - 1 = (m : Int) by omega]; exact IntWalk.i64_in _ ⟨by omega, by omega⟩
  go_enter Try.func98, Try.ntmps98
  go_wp2_with fail
  go_ret
  refine ⟨rfl, .slice (some ⟨g, 0, none⟩) m cap, (QS.popped HQ.out HN.out).alloc _, rfl, gr_alloc (gr_setq q (gr_refl w _) _) _⟩
end Go.Proofs.Ytfeicdflkpgbnaa
