/-
  Proved: Found.clone hands out the same block, with a payload that shares nothing. Conditions: those that each theorem lists ahead of its colon, and no others.
-/
import Derived.Test.YtfeicdflkpgbnaaOk
import Derived.Test.YtfeicdflkpgbnaaT4
namespace Go.Proofs.Ytfeicdflkpgbnaa
open Go.RowKit

theorem Bs.far {w : World} {B : Nat} {A : Option Addr} {bs : List UInt8} (h : Bs w B A bs) {p : Addr} (hp : ∀ a, A = some a → a.block ≠ p.block) (u : Value) : Bs (w.setCell p u) B A bs := fun hne => by
  obtain ⟨b, o, e, hb, hc⟩ := h hne
  have hq := hp _ e
  exact ⟨b, o, e, hb, fun j u' hu => (World.cell?_setCell_other w p ⟨b, o + j, none⟩ u (fun e => hq (by rw [e]))).trans (hc j u' hu)⟩

set_option maxHeartbeats 1000000 in
set_option maxRecDepth 20000 in
theorem clone35 (e : El) (w : World) (B : Nat) (hb : Bs w B e.A e.f.pay) (hB : B ≤ w.heap.size) (hm : e.f.pay.length ≤ 65536) :
    Calls Try.prog 35 #[.agg e.cells.toArray] w fun r w' => ∃ A c, r = .returned (.agg (El.mk e.f A c).cells.toArray) ∧ e.f.pay.length ≤ c ∧ Bs w' w'.heap.size A e.f.pay ∧ Below w.heap.size w w' ∧ ∀ a, A = some a → w.heap.size ≤ a.block := by
  obtain ⟨⟨f0, ⟨f1, f2, f3, f4, f5, f6, f7, f8⟩, f9, f10⟩, Ap, cp⟩ := e
  dsimp only at hb hm
  have HB := Lib.hid hb
  clear hb
  show Calls Try.prog 35 #[.agg #[.int .i64 f0, .int .i64 f1, .int .i64 f2, .int .i64 f3, .int .i64 f4, .int .i64 f5, .bool f6, .int .u32 f7, .int .i64 f8, .slice Ap f9.length cp, .int .u32 f10]] w fun r w' => ∃ A c, r = .returned (.agg #[.int .i64 f0, .int .i64 f1, .int .i64 f2, .int .i64 f3, .int .i64 f4, .int .i64 f5, .bool f6, .int .u32 f7, .int .i64 f8, .slice A f9.length c, .int .u32 f10]) ∧ f9.length ≤ c ∧ Bs w' w'.heap.size A f9 ∧ Below w.heap.size w w' ∧ ∀ a, A = some a → w.heap.size ≤ a.block
  generalize hpl : f9.length = pl at *
  have HPL := Lib.hid hpl
  clear hpl
  go_enter Try.func35, Try.ntmps35
  go_wp2_with fail
  have K1 := Lib.hid ((Bk.new w 45 #[.int .i64 f0, .int .i64 f1, .int .i64 f2, .int .i64 f3, .int .i64 f4, .int .i64 f5, .bool f6, .int .u32 f7, .int .i64 f8, .slice Ap pl cp, .int .u32 f10]).alloc (.cells #[.int .i64 0, .int .i64 0, .int .i64 0, .int .i64 0, .int .i64 0, .int .i64 0, .bool false, .int .u32 0, .int .i64 0, .slice none 0 0, .int .u32 0] 45))
  have K2 := Lib.hid (show Bk ((w.alloc (.cells #[.int .i64 f0, .int .i64 f1, .int .i64 f2, .int .i64 f3, .int .i64 f4, .int .i64 f5, .bool f6, .int .u32 f7, .int .i64 f8, .slice Ap pl cp, .int .u32 f10] 45)).alloc (.cells #[.int .i64 0, .int .i64 0, .int .i64 0, .int .i64 0, .int .i64 0, .int .i64 0, .bool false, .int .u32 0, .int .i64 0, .slice none 0 0, .int .u32 0] 45)) (w.heap.size + 1) 45 #[.int .i64 0, .int .i64 0, .int .i64 0, .int .i64 0, .int .i64 0, .int .i64 0, .bool false, .int .u32 0, .int .i64 0, .slice none 0 0, .int .u32 0] from by have h := Bk.new (w.alloc (.cells #[.int .i64 f0, .int .i64 f1, .int .i64 f2, .int .i64 f3, .int .i64 f4, .int .i64 f5, .bool f6, .int .u32 f7, .int .i64 f8, .slice Ap pl cp, .int .u32 f10] 45)) 45 #[.int .i64 0, .int .i64 0, .int .i64 0, .int .i64 0, .int .i64 0, .int .i64 0, .bool false, .int .u32 0, .int .i64 0, .slice none 0 0, .int .u32 0]; simpa using h)
  have B1 := Lib.hid (((Below.refl w.heap.size w).alloc (Nat.le_refl _) (.cells #[.int .i64 f0, .int .i64 f1, .int .i64 f2, .int .i64 f3, .int .i64 f4, .int .i64 f5, .bool f6, .int .u32 f7, .int .i64 f8, .slice Ap pl cp, .int .u32 f10] 45)).alloc (by simp) (.cells #[.int .i64 0, .int .i64 0, .int .i64 0, .int .i64 0, .int .i64 0, .int .i64 0, .bool false, .int .u32 0, .int .i64 0, .slice none 0 0, .int .u32 0] 45))
  have HB1 := Lib.hid (HB.out.below (B1.out.mono hB))
  have hs1 : w.heap.size + 2 = ((w.alloc (.cells #[.int .i64 f0, .int .i64 f1, .int .i64 f2, .int .i64 f3, .int .i64 f4, .int .i64 f5, .bool f6, .int .u32 f7, .int .i64 f8, .slice Ap pl cp, .int .u32 f10] 45)).alloc (.cells #[.int .i64 0, .int .i64 0, .int .i64 0, .int .i64 0, .int .i64 0, .int .i64 0, .bool false, .int .u32 0, .int .i64 0, .slice none 0 0, .int .u32 0] 45)).heap.size := by simp
  generalize (w.alloc (.cells #[.int .i64 f0, .int .i64 f1, .int .i64 f2, .int .i64 f3, .int .i64 f4, .int .i64 f5, .bool f6, .int .u32 f7, .int .i64 f8, .slice Ap pl cp, .int .u32 f10] 45)).alloc (.cells #[.int .i64 0, .int .i64 0, .int .i64 0, .int .i64 0, .int .i64 0, .int .i64 0, .bool false, .int .u32 0, .int .i64 0, .slice none 0 0, .int .u32 0] 45) = w1 at *
  have HS1 := Lib.hid hs1
  clear hs1
  refine (clone54 pl cp Ap f9 w1 B HB1.out (by have := HS1.out; omega) HPL.out.symm hm).mono ?_
  rintro r w2 ⟨A2, c2, rfl, hc2, hb2, hbel, hnew⟩
  have K3 := Lib.hid (K1.out.below hbel (by have := HS1.out; omega))
  have K4 := Lib.hid (K2.out.below hbel (by have := HS1.out; omega))
  have B2 := Lib.hid (B1.out.trans (hbel.mono (by have := HS1.out; omega)))
  have HB2 := Lib.hid hb2
  have HC2 := Lib.hid hc2
  have HNW := Lib.hid (show ∀ a, A2 = some a → w.heap.size ≤ a.block ∧ a.block ≠ w.heap.size ∧ a.block ≠ w.heap.size + 1 from fun a e => by have := hnew a e; have := HS1.out; omega)
  rw [HPL.out]
  have hs2 := hbel.size
  have hs3 := HS1.out
  clear hc2 hb2 hbel hnew K1 K2 B1 HB1 HB
  obtain ⟨k0, k1, k2, k3, k4, k5, k6, k7, k8, k9, k10⟩ := Bk.cells11 K3.out
  obtain ⟨z0, z1, z2, z3, z4, z5, z6, z7, z8, z9, z10⟩ := Bk.cells11 K4.out
  have kf := fun i => K3.out.frozen i
  have zf := fun i => K4.out.frozen i
  go_wp2_with fail
  refine bodyPost_ret (v := .agg #[.int .i64 f0, .int .i64 f1, .int .i64 f2, .int .i64 f3, .int .i64 f4, .int .i64 f5, .bool f6, .int .u32 f7, .int .i64 f8, .slice A2 pl c2, .int .u32 f10]) (by simp [results, Try.results35, go_sem, z0, z1, z2, z3, z4, z5, z6, z7, z8, z9, z10]) rfl ⟨A2, c2, rfl, by rw [← HPL.out]; exact HC2.out, ?_, ?_, fun a e => (HNW.out a e).1⟩
  · simp only [World.size_setCell]
    iterate 12 refine Bs.far ?_ (fun a e => by have := HNW.out a e; simp; omega) _
    exact HB2.out
  · iterate 12 refine Below.setCell ?_ (by simp) _
    exact B2.out
end Go.Proofs.Ytfeicdflkpgbnaa
