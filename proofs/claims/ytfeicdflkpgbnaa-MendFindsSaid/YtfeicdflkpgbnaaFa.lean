/-
  Proved: the words for the text that MendFinds lays out (blocks with bytes between them) hold at its start, after each allocation and after each byte that is put behind. Conditions: those that each theorem lists ahead of its colon, and no others.
-/
import Derived.Test.YtfeicdflkpgbnaaSs
namespace Go.Proofs.Ytfeicdflkpgbnaa
open Go.RowKit

/-- A text and places, in rows of the call's own that lie apart. -/
def TxtRel (w : World) (L : List UInt8) (P : List Int) (v5 v6 : Value) (wr : World) : Prop :=
  wr.ownsRow w.heap.size 5 1 v5 L.length (L.map B8) ∧ wr.ownsRow w.heap.size 3 1 v6 P.length (P.map (Value.int .i64)) ∧ (∀ g, v5.ownBlock = some g → v6.ownBlock ≠ some g) ∧ Below w.heap.size w wr

section
variable {w wr w' : World} {L M : List UInt8} {P : List Int} {v5 v6 v' : Value}
theorem TxtRel.start (w : World) : TxtRel w [] [] (.slice none 0 0) (.slice none 0 0) w :=
  ⟨World.ownsRow_nil _ _ _ _, World.ownsRow_nil _ _ _ _, fun g e => (by cases e), Below.refl _ _⟩
theorem TxtRel.below (h : TxtRel w L P v5 v6 wr) (hb : Below wr.heap.size wr w') : TxtRel w L P v5 v6 w' :=
  ⟨h.1.kept (gr_of_below hb none) (by cases hv : v5.ownBlock <;> simp), h.2.1.kept (gr_of_below hb none) (by cases hv : v6.ownBlock <;> simp), h.2.2.1, h.2.2.2.trans (hb.mono h.2.2.2.size)⟩
theorem TxtRel.alloc (h : TxtRel w L P v5 v6 wr) (o : Obj) : TxtRel w L P v5 v6 (wr.alloc o) := h.below ((Below.refl _ _).alloc (Nat.le_refl _) o)
theorem TxtRel.text {m : Nat} (h : TxtRel w L P v5 v6 wr) (own : w'.ownsRow w.heap.size 5 1 v' (L.length + m) (L.map B8 ++ M.map B8)) (hm : m = M.length) (gr : wr.grownBy w' v5.ownBlock) (hX : v'.ownBlock = v5.ownBlock ∨ v'.ownBlock = some wr.heap.size) :
    TxtRel w (L ++ M) P v' v6 w' := by
  subst hm
  refine ⟨by rw [List.length_append, List.map_append]; exact own, h.2.1.kept gr ?_, ?_, below_app h.1 gr h.2.2.2 h.2.2.2.size⟩
  · cases hv : v6.ownBlock with
    | none => exact .inl rfl
    | some g => exact .inr fun e => h.2.2.1 g e.symm hv
  · intro g e1 e2
    rcases hX with e | e
    · exact h.2.2.1 g (e ▸ e1) e2
    · rw [e] at e1
      injection e1 with e1
      have := (h.2.1.lt g e2).2
      omega
theorem TxtRel.place {x : Int} (h : TxtRel w L P v5 v6 wr) (own : w'.ownsRow w.heap.size 3 1 v' (P.length + 1) (P.map (Value.int .i64) ++ [.int .i64 x])) (gr : wr.grownBy w' v6.ownBlock) (hX : v'.ownBlock = v6.ownBlock ∨ v'.ownBlock = some wr.heap.size) :
    TxtRel w L (P ++ [x]) v5 v' w' := by
  refine ⟨h.1.kept gr ?_, by rw [List.length_append, List.map_append]; exact own, ?_, below_app h.2.1 gr h.2.2.2 h.2.2.2.size⟩
  · cases hv : v5.ownBlock with
    | none => exact .inl rfl
    | some g => exact .inr fun e => h.2.2.1 g hv e.symm
  · intro g e1 e2
    rcases hX with e | e
    · exact h.2.2.1 g e1 (e ▸ e2)
    · rw [e] at e2
      injection e2 with e2
      have := (h.1.lt g e1).2
      omega
end

theorem gapL_none {bw : List (List UInt8)} {i : Nat} (h : bw.length ≤ i) : gapL bw i = [] := by
  unfold gapL
  rw [List.getD_eq_getElem?_getD, List.getElem?_eq_none h]
  rfl
theorem filter_succ {l : List UInt8} {k : Nat} (hk : k < l.length) : (l.take (k + 1)).filter (· != 222) = (l.take k).filter (· != 222) ++ (if l[k] = 222 then [] else [l[k]]) := by
  rw [List.take_add_one, List.getElem?_eq_getElem hk, List.filter_append]
  by_cases h : l[k] = 222 <;> simp [h]
theorem filt_hit {l : List UInt8} {k : Nat} (hk : k < l.length) (h : byN l k ≠ 222) : ∃ x : UInt8, x.toNat = byN l k ∧ (l.take (k + 1)).filter (· != 222) = (l.take k).filter (· != 222) ++ [x] := by
  rw [byN_get hk] at h ⊢
  exact ⟨l[k], rfl, by rw [filter_succ hk, if_neg (fun e => h (by rw [e]; rfl))]⟩
theorem filt_miss {l : List UInt8} {k : Nat} (hk : k < l.length) (h : byN l k = 222) : (l.take (k + 1)).filter (· != 222) = (l.take k).filter (· != 222) := by
  rw [byN_get hk] at h
  rw [filter_succ hk, if_pos (UInt8.toNat_inj.1 (by rw [h]; rfl)), List.append_nil]
theorem one_byte {w : World} {B y : Nat} {A : Option Addr} {x : UInt8} (h : x.toNat = y) (hr : Rd w B A [.int .u8 (y : Int)]) : Rd w B A ([x].map B8) := by
  subst h
  exact hr
theorem filter_len (l : List UInt8) (k : Nat) : ((l.take k).filter (· != 222)).length ≤ l.length := Nat.le_trans (List.length_filter_le _ _) (by rw [List.length_take]; omega)
end Go.Proofs.Ytfeicdflkpgbnaa
