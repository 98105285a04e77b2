/-
  Proved: queue.Swap changes two blocks of the queue about, and nothing else. Conditions: those that each theorem lists ahead of its colon, and no others.
-/
import Derived.Test.YtfeicdflkpgbnaaOd
import Derived.RegionTactic
namespace Go.Proofs.Ytfeicdflkpgbnaa
open Go.RowKit

theorem Try.size45 : (Try.prog.info? 45).map (·.size) = some 11 := by kernel_rfl
theorem Try.row45 : ∃ d, Try.prog.underlying 45 = some d ∧ d.isRow = true := ⟨_, Try.underlying45, rfl⟩
theorem load_el (w : World) {g i : Nat} {e : El} (h : w.rangeAt g (i * 11) e.cells) : (Instr.loadAt 45 (.pointer (some ⟨g, i * 11, none⟩))).run Try.prog w = .ok (.agg e.cells.toArray) w := by
  obtain ⟨d, h1, h2⟩ := Try.row45
  exact run_loadAt_mid w g (i * 11) 45 e.cells d h h1 h2 (by rw [Try.size45, El.cells_length])
theorem store_el (w : World) {g i : Nat} {e : El} (h : w.there g (i * 11) 11) : (Instr.storeAt 45 (.pointer (some ⟨g, i * 11, none⟩)) (.agg e.cells.toArray)).run Try.prog w = .ok () (w.setCells g (i * 11) e.cells) := by
  have := run_storeAt_mid (P := Try.prog) w g (i * 11) 45 e.cells.toArray (by simpa [El.cells_length] using h) (by rw [Try.size45]; rfl) (all_oneCell_toArray e.cells_one)
  simpa using this

theorem wp_load_run {P : Program} {op : Oper} {a : Act} {w : World} {K : Act → World → Prop} {Q : Exit → Act → World → Prop} {v : Value} (ty : TypeId) (x : Operand) (ho : op.op = .load ty x) (p : Value) (hx : a.eval x = p)
    (hr : (Instr.loadAt ty p).run P w = .ok v w) (h : K (a.put op.dst v) w) : op.wp P a w K Q := by
  unfold Oper.wp execOp
  simp only [ho, hx, Sem.run_bind, Sem.run_pure, Result.andThen_ok, hr]
  exact h
theorem wp_store_run {P : Program} {op : Oper} {a : Act} {w w' : World} {K : Act → World → Prop} {Q : Exit → Act → World → Prop} (ty : TypeId) (x y : Operand) (ho : op.op = .store ty x y) (p u : Value) (hx : a.eval x = p) (hy : a.eval y = u)
    (hr : (Instr.storeAt ty p u).run P w = .ok () w') (h : K (a.put op.dst undef) w') : op.wp P a w K Q := by
  unfold Oper.wp execOp
  simp only [ho, hx, hy, Sem.run_bind, Sem.run_pure, Result.andThen_ok, hr]
  exact h

set_option maxHeartbeats 1000000 in
set_option maxRecDepth 20000 in
theorem swap100 (g n cap i j : Nat) (B : Nat) (es : List El) (w : World) (h : w.ownsRow B 45 11 (.slice (some ⟨g, 0, none⟩) n cap) n (cellsE es)) (hn : n = es.length) (hi : i < es.length) (hj : j < es.length) :
    Calls Try.prog 100 #[.slice (some ⟨g, 0, none⟩) n cap, .int .i64 i, .int .i64 j] w fun e w' => e = .returned (.tuple #[]) ∧ w'.ownsRow B 45 11 (.slice (some ⟨g, 0, none⟩) n cap) n (cellsE (swapL es i j hi hj)) ∧ w.grownBy w' (some g) := by
  have h' : w.drew.ownsRow B 45 11 (.slice (some ⟨g, 0, none⟩) n cap) n (cellsE es) := h
  have L1 := load_el w.drew (own_range h' hi)
  have L2 := load_el w.drew (own_range h' hj)
  have S1 := store_el (e := es[j]) w.drew (own_there h' hi)
  have S2 := store_el (e := es[i]) (w.drew.setCells g (i * 11) es[j].cells) (World.there_setCells (own_there h' hj) g (i * 11) es[j].cells)
  obtain ⟨o2, g2⟩ := own_swap h' hi hj
  have HO := Lib.hid o2
  have HG := Lib.hid (gr_trans (gr_drew (gr_refl w (some g))) g2)
  have hi' : (i : Int) < (n : Int) := by omega
  have hj' : (j : Int) < (n : Int) := by omega
  clear o2 g2 h h'
  generalize (w.drew.setCells g (i * 11) es[j].cells).setCells g (j * 11) es[i].cells = W2 at *
  generalize w.drew.setCells g (i * 11) es[j].cells = W1 at *
  generalize es[i].cells.toArray = Ei at *
  generalize es[j].cells.toArray = Ej at *
  have HN := Lib.hid hn
  clear hn
  go_enter Try.func100, Try.ntmps100
  refine wp_region_any (by kernel_rfl) ?_
  change wpAny _ _ _ _ _ _ _ (World.drew _)
  refine wpAny_take (i := 0) (oi := ⟨some 6, .move (.tmp 0), _, _, _, none⟩) (v := ?_) rfl (by kernel_rfl) (by kernel_rfl) (by kernel_rfl) (fun _ _ _ h => h) (Or.inl ⟨by rfl, ?_⟩) ?_
  rotate_left
  · intro w; go_simp; with_reducible rfl
  simp only [Act.put, List.setIfInBounds_toArray, List.set_cons_zero, List.set_cons_succ]
  refine wpAny_take (i := 1) (oi := ⟨some 7, .move (.tmp 1), _, _, _, none⟩) (v := ?_) rfl (by kernel_rfl) (by kernel_rfl) (by kernel_rfl) (fun _ _ _ h => h) (Or.inl ⟨by rfl, ?_⟩) ?_
  rotate_left
  · intro w; go_simp; with_reducible rfl
  simp only [Act.put, List.setIfInBounds_toArray, List.set_cons_zero, List.set_cons_succ]
  refine wpAny_take (i := 2) (oi := ⟨some 8, .move (.tmp 0), _, _, _, none⟩) (v := ?_) rfl (by kernel_rfl) (by kernel_rfl) (by kernel_rfl) (fun _ _ _ h => h) (Or.inl ⟨by rfl, ?_⟩) ?_
  rotate_left
  · intro w; go_simp; with_reducible rfl
  simp only [Act.put, List.setIfInBounds_toArray, List.set_cons_zero, List.set_cons_succ]
  refine wpAny_take (i := 3) (oi := ⟨some 9, .move (.tmp 2), _, _, _, none⟩) (v := ?_) rfl (by kernel_rfl) (by kernel_rfl) (by kernel_rfl) (fun _ _ _ h => h) (Or.inl ⟨by rfl, ?_⟩) ?_
  rotate_left
  · intro w; go_simp; with_reducible rfl
  simp only [Act.put, List.setIfInBounds_toArray, List.set_cons_zero, List.set_cons_succ]
  refine wpAny_take (i := 4) (oi := ⟨some 10, .move (.tmp 0), _, _, _, none⟩) (v := ?_) rfl (by kernel_rfl) (by kernel_rfl) (by kernel_rfl) (fun _ _ _ h => h) (Or.inl ⟨by rfl, ?_⟩) ?_
  rotate_left
  · intro w; go_simp; with_reducible rfl
  simp only [Act.put, List.setIfInBounds_toArray, List.set_cons_zero, List.set_cons_succ]
  refine wpAny_take (i := 5) (oi := ⟨some 11, .move (.tmp 2), _, _, _, none⟩) (v := ?_) rfl (by kernel_rfl) (by kernel_rfl) (by kernel_rfl) (fun _ _ _ h => h) (Or.inl ⟨by rfl, ?_⟩) ?_
  rotate_left
  · intro w; go_simp; with_reducible rfl
  simp only [Act.put, List.setIfInBounds_toArray, List.set_cons_zero, List.set_cons_succ]
  refine wpAny_take (i := 6) (oi := ⟨some 12, .indexAddr 82 (.tmp 10) (.tmp 11), _, _, _, none⟩) (v := ?_) rfl (by kernel_rfl) (by kernel_rfl) (by kernel_rfl) (fun _ _ _ h => h) (Or.inl ⟨by rfl, ?_⟩) ?_
  rotate_left
  · intro w; go_simp; with_reducible rfl
  simp only [Act.put, List.setIfInBounds_toArray, List.set_cons_zero, List.set_cons_succ]
  refine wpAny_take (i := 8) (oi := ⟨some 14, .move (.tmp 0), _, _, _, none⟩) (v := ?_) rfl (by kernel_rfl) (by kernel_rfl) (by kernel_rfl) (fun _ _ _ h => h) (Or.inl ⟨by rfl, ?_⟩) ?_
  rotate_left
  · intro w; go_simp; with_reducible rfl
  simp only [Act.put, List.setIfInBounds_toArray, List.set_cons_zero, List.set_cons_succ]
  refine wpAny_take (i := 9) (oi := ⟨some 15, .move (.tmp 1), _, _, _, none⟩) (v := ?_) rfl (by kernel_rfl) (by kernel_rfl) (by kernel_rfl) (fun _ _ _ h => h) (Or.inl ⟨by rfl, ?_⟩) ?_
  rotate_left
  · intro w; go_simp; with_reducible rfl
  simp only [Act.put, List.setIfInBounds_toArray, List.set_cons_zero, List.set_cons_succ]
  refine wpAny_take (i := 10) (oi := ⟨some 16, .indexAddr 82 (.tmp 14) (.tmp 15), _, _, _, none⟩) (v := ?_) rfl (by kernel_rfl) (by kernel_rfl) (by kernel_rfl) (fun _ _ _ h => h) (Or.inl ⟨by rfl, ?_⟩) ?_
  rotate_left
  · intro w; go_simp; with_reducible rfl
  simp only [Act.put, List.setIfInBounds_toArray, List.set_cons_zero, List.set_cons_succ]
  refine wpAny_ready (rs := [7, 11]) (by kernel_rfl) (by simp) ?_
  refine AllReady.cons (o := ⟨some 13, .load 45 (.tmp 12), _, _, _, none⟩) rfl (fun K hK => ?_) (AllReady.cons (o := ⟨some 17, .load 45 (.tmp 16), _, _, _, none⟩) rfl (fun K hK => ?_) AllReady.nil)
  · rw [if_pos (by rfl)]
    refine wp_load_run 45 (.tmp 12) rfl (.pointer (some ⟨g, j * 11, none⟩)) rfl L2 ?_
    refine hK _ _ ?_; clear hK K
    simp only [Act.put, List.setIfInBounds_toArray, List.set_cons_zero, List.set_cons_succ]
    refine wpAny_ready (rs := [11]) (by kernel_rfl) (by simp) ?_
    refine AllReady.cons (o := ⟨some 17, .load 45 (.tmp 16), _, _, _, none⟩) rfl (fun K hK => ?_) AllReady.nil
    rw [if_pos (by rfl)]
    refine wp_load_run 45 (.tmp 16) rfl (.pointer (some ⟨g, i * 11, none⟩)) rfl L1 ?_
    refine hK _ _ ?_; clear hK K
    simp only [Act.put, List.setIfInBounds_toArray, List.set_cons_zero, List.set_cons_succ]
    refine wpAny_take (i := 12) (oi := ⟨some 18, .indexAddr 82 (.tmp 6) (.tmp 7), _, _, _, none⟩) (v := ?_) rfl (by kernel_rfl) (by kernel_rfl) (by kernel_rfl) (fun _ _ _ h => h) (Or.inl ⟨by rfl, ?_⟩) ?_
    rotate_left
    · intro w; go_simp; with_reducible rfl
    simp only [Act.put, List.setIfInBounds_toArray, List.set_cons_zero, List.set_cons_succ]
    refine wpAny_ready (rs := [13]) (by kernel_rfl) (by simp) ?_
    refine AllReady.cons (o := ⟨none, .store 45 (.tmp 18) (.tmp 13), _, _, _, none⟩) rfl (fun K hK => ?_) AllReady.nil
    rw [if_pos (by rfl)]
    refine wp_store_run 45 (.tmp 18) (.tmp 13) rfl (.pointer (some ⟨g, i * 11, none⟩)) (.agg Ej) rfl rfl S1 ?_
    refine hK _ _ ?_; clear hK K
    simp only [Act.put]
    refine wpAny_take (i := 14) (oi := ⟨some 19, .indexAddr 82 (.tmp 8) (.tmp 9), _, _, _, none⟩) (v := ?_) rfl (by kernel_rfl) (by kernel_rfl) (by kernel_rfl) (fun _ _ _ h => h) (Or.inl ⟨by rfl, ?_⟩) ?_
    rotate_left
    · intro w; go_simp; with_reducible rfl
    simp only [Act.put, List.setIfInBounds_toArray, List.set_cons_zero, List.set_cons_succ]
    refine wpAny_ready (rs := [15]) (by kernel_rfl) (by simp) ?_
    refine AllReady.cons (o := ⟨none, .store 45 (.tmp 19) (.tmp 17), _, _, _, none⟩) rfl (fun K hK => ?_) AllReady.nil
    rw [if_pos (by rfl)]
    refine wp_store_run 45 (.tmp 19) (.tmp 17) rfl (.pointer (some ⟨g, j * 11, none⟩)) (.agg Ei) rfl rfl S2 ?_
    refine hK _ _ ?_; clear hK K
    simp only [Act.put]
    refine wpAny_done (by kernel_rfl) ?_ _
    go_end0
    exact ⟨rfl, HO.out, HG.out⟩
  · rw [if_pos (by rfl)]
    refine wp_load_run 45 (.tmp 16) rfl (.pointer (some ⟨g, i * 11, none⟩)) rfl L1 ?_
    refine hK _ _ ?_; clear hK K
    simp only [Act.put, List.setIfInBounds_toArray, List.set_cons_zero, List.set_cons_succ]
    refine wpAny_ready (rs := [7]) (by kernel_rfl) (by simp) ?_
    refine AllReady.cons (o := ⟨some 13, .load 45 (.tmp 12), _, _, _, none⟩) rfl (fun K hK => ?_) AllReady.nil
    rw [if_pos (by rfl)]
    refine wp_load_run 45 (.tmp 12) rfl (.pointer (some ⟨g, j * 11, none⟩)) rfl L2 ?_
    refine hK _ _ ?_; clear hK K
    simp only [Act.put, List.setIfInBounds_toArray, List.set_cons_zero, List.set_cons_succ]
    refine wpAny_take (i := 12) (oi := ⟨some 18, .indexAddr 82 (.tmp 6) (.tmp 7), _, _, _, none⟩) (v := ?_) rfl (by kernel_rfl) (by kernel_rfl) (by kernel_rfl) (fun _ _ _ h => h) (Or.inl ⟨by rfl, ?_⟩) ?_
    rotate_left
    · intro w; go_simp; with_reducible rfl
    simp only [Act.put, List.setIfInBounds_toArray, List.set_cons_zero, List.set_cons_succ]
    refine wpAny_ready (rs := [13]) (by kernel_rfl) (by simp) ?_
    refine AllReady.cons (o := ⟨none, .store 45 (.tmp 18) (.tmp 13), _, _, _, none⟩) rfl (fun K hK => ?_) AllReady.nil
    rw [if_pos (by rfl)]
    refine wp_store_run 45 (.tmp 18) (.tmp 13) rfl (.pointer (some ⟨g, i * 11, none⟩)) (.agg Ej) rfl rfl S1 ?_
    refine hK _ _ ?_; clear hK K
    simp only [Act.put]
    refine wpAny_take (i := 14) (oi := ⟨some 19, .indexAddr 82 (.tmp 8) (.tmp 9), _, _, _, none⟩) (v := ?_) rfl (by kernel_rfl) (by kernel_rfl) (by kernel_rfl) (fun _ _ _ h => h) (Or.inl ⟨by rfl, ?_⟩) ?_
    rotate_left
    · intro w; go_simp; with_reducible rfl
    simp only [Act.put, List.setIfInBounds_toArray, List.set_cons_zero, List.set_cons_succ]
    refine wpAny_ready (rs := [15]) (by kernel_rfl) (by simp) ?_
    refine AllReady.cons (o := ⟨none, .store 45 (.tmp 19) (.tmp 17), _, _, _, none⟩) rfl (fun K hK => ?_) AllReady.nil
    rw [if_pos (by rfl)]
    refine wp_store_run 45 (.tmp 19) (.tmp 17) rfl (.pointer (some ⟨g, j * 11, none⟩)) (.agg Ei) rfl rfl S2 ?_
    refine hK _ _ ?_; clear hK K
    simp only [Act.put]
    refine wpAny_done (by kernel_rfl) ?_ _
    go_end0
    exact ⟨rfl, HO.out, HG.out⟩
end Go.Proofs.Ytfeicdflkpgbnaa
