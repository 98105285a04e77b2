/-
  Proved: slices.Clone of bytes hands out the same bytes in cells of their own. Conditions: those that each theorem lists ahead of its colon, and no others.
-/
import Derived.Test.YtfeicdflkpgbnaaPc
namespace Go.Proofs.Ytfeicdflkpgbnaa
open Go.RowKit

/-- A slice of bytes, in new memory. -/
def NewBytes (w : World) (bs : List UInt8) (e : Ending) (w' : World) : Prop :=
  ∃ A c, e = .returned (.slice A bs.length c) ∧ bs.length ≤ c ∧ Bs w' w'.heap.size A bs ∧ Below w.heap.size w w' ∧ ∀ a, A = some a → w.heap.size ≤ a.block

theorem own_slice {w : World} {base : Nat} {e : TypeId} {size : Nat} {v : Value} {n : Nat} {xs : List Value} (h : w.ownsRow base e size v n xs) : ∃ A c, v = .slice A n c ∧ n ≤ c ∧ Rd w w.heap.size A xs ∧ ∀ a, A = some a → base ≤ a.block := by
  rcases h.2 with ⟨rfl, rfl⟩ | ⟨g, cap, cur, rfl, hb, hg, hnc, _⟩
  · exact ⟨none, 0, rfl, Nat.le_refl _, Rd.of_own h, fun a e => by cases e⟩
  · exact ⟨_, cap, rfl, hnc, Rd.of_own h, fun a e => by injection e with e; subst e; exact hb⟩

set_option maxHeartbeats 400000 in
set_option maxRecDepth 20000 in
theorem clone54 (n c : Nat) (A : Option Addr) (bs : List UInt8) (w : World) (B : Nat) (hb : Bs w B A bs) (hB : B ≤ w.heap.size) (hn : n = bs.length) (hm : n ≤ 65536) :
    Calls Try.prog 54 #[.slice A n c] w (NewBytes w bs) := by
  have Hn := Lib.hid hn
  cases A with
  | none =>
    have hbs := hb.none_nil
    subst hbs
    have h0 : n = 0 := hn
    clear Hn hn hm hb
    subst h0
    have heq := fun W => Lib.run_eql_slice_nil (P := Try.prog) W 22 5 none 0 c 0 0 Try.underlying22
    go_enter Try.func54, Try.ntmps54
    go_wp2
    go_ret
    exact ⟨none, 0, rfl, Nat.le_refl _, Bs.nil, Below.refl _ _, fun a e => by cases e⟩
  | some a =>
    clear hn
    have heq := fun W => Lib.run_eql_slice_nil (P := Try.prog) W 22 5 (some a) n c 0 0 Try.underlying22
    go_enter Try.func54, Try.ntmps54
    go_wp2_with (at_builtin; refine wpl_app _ row22 rfl (.tmp 5) (.tmp 6) rfl w.heap.size (.slice (some ⟨w.heap.size, 0, none⟩) 0 0) 0 [] rfl ?h1 B (some a) n c (bs.map B8) rfl ?h2 ?h3 (one8 bs) ?h4 ?h5 ?h6)
    case h1 => exact World.ownsRow_made w #[] 0 (Nat.le_refl _) (by decide) rfl
    case h2 => exact Rd.alloc hb hB _
    case h3 => rw [Hn.out]; simp
    case h4 => omega
    case h5 => simp
    case h6 =>
      intro v' w' own gr _
      go_wp2
      go_ret
      obtain ⟨A', c', hv, hc, hr, ha⟩ := own_slice own
      refine ⟨A', c', ?_, ?_, hr, ((Below.refl _ w).alloc (Nat.le_refl _) _).grown gr (by simp) ?_, ha⟩
      · rw [← Hn.out, ← hv]; rfl
      · rw [← Hn.out]; exact hc
      · intro k hk; simp [Value.ownBlock] at hk; omega
end Go.Proofs.Ytfeicdflkpgbnaa
