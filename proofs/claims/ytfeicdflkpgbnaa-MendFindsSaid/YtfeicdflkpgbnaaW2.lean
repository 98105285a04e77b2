/-
  Proved: descantref22.Put lays the one known head into its 32 bytes. Conditions: those that each theorem lists ahead of its colon, and no others.
-/
import Derived.Test.YtfeicdflkpgbnaaW1
namespace Go.Proofs.Ytfeicdflkpgbnaa
open Go.RowKit

/-- A row of bytes of the call's own. -/
def OwnBytes (w : World) (bs : List UInt8) (e : Ending) (w' : World) : Prop :=
  ∃ v, e = .returned v ∧ w'.ownsRow w.heap.size 5 1 v bs.length (bs.map B8) ∧ Below w.heap.size w w'

/-- The known head's six numbers. -/
def kF : List Nat := [0, 1, 1, 0, 0, 1]
def kL (k : Nat) : List UInt8 := [222, 92, 3, 0] ++ ((kF.take k).map le4).flatten
/-- The known head's bytes. -/
def kPut : List UInt8 := kL 6 ++ le4 (sumN (kL 6))
theorem kL_len (k : Nat) (hk : k ≤ 6) : (kL k).length = 4 + 4 * k := by
  have : k = 0 ∨ k = 1 ∨ k = 2 ∨ k = 3 ∨ k = 4 ∨ k = 5 ∨ k = 6 := by omega
  rcases this with rfl | rfl | rfl | rfl | rfl | rfl | rfl <;> rfl
theorem kL_next (k : Nat) (hk : k < 6) : kL (k + 1) = kL k ++ le4 (kF.getD k 0) := by
  have : k = 0 ∨ k = 1 ∨ k = 2 ∨ k = 3 ∨ k = 4 ∨ k = 5 := by omega
  rcases this with rfl | rfl | rfl | rfl | rfl | rfl <;> rfl
theorem kF_le (k : Nat) (hk : k < 6) : kF.getD k 0 ≤ 1 := by
  have : k = 0 ∨ k = 1 ∨ k = 2 ∨ k = 3 ∨ k = 4 ∨ k = 5 := by omega
  rcases this with rfl | rfl | rfl | rfl | rfl | rfl <;> decide
def kA : Array Value := #[.int .i64 0, .int .i64 1, .int .i64 1, .int .i64 0, .int .i64 0, .int .i64 1]
theorem kA_get (k : Nat) (hk : k < 6) : kA[k]? = some (.int .i64 ((kF.getD k 0 : Nat) : Int)) := by
  have : k = 0 ∨ k = 1 ∨ k = 2 ∨ k = 3 ∨ k = 4 ∨ k = 5 := by omega
  rcases this with rfl | rfl | rfl | rfl | rfl | rfl <;> rfl

def PutRel (w : World) (gi k : Nat) (v : Value) (wr : World) : Prop :=
  wr.ownsRow w.heap.size 5 1 v (4 + 4 * k) ((kL k).map B8) ∧ Bk wr gi 3 kA ∧ some gi ≠ v.ownBlock ∧ Below w.heap.size w wr

theorem PutRel.below {w wr w' : World} {gi k : Nat} {v : Value} (h : PutRel w gi k v wr) (hb : Below wr.heap.size wr w') : PutRel w gi k v w' :=
  ⟨h.1.kept (gr_of_below hb none) (by cases hv : v.ownBlock <;> simp), h.2.1.below hb h.2.1.lt, h.2.2.1, h.2.2.2.trans (hb.mono h.2.2.2.size)⟩
theorem PutRel.next {w wr w' : World} {gi k y : Nat} {v v' : Value} (h : PutRel w gi k v wr) (hn : kL (k + 1) = kL k ++ le4 y) (own : w'.ownsRow w.heap.size 5 1 v' (4 + 4 * k + 4) ((kL k).map B8 ++ (le4 y).map B8)) (gr : wr.grownBy w' v.ownBlock)
    (hX : v'.ownBlock = v.ownBlock ∨ v'.ownBlock = some wr.heap.size) : PutRel w gi (k + 1) v' w' :=
  ⟨by rw [hn, List.map_append]; exact own, h.2.1.grown gr h.2.2.1, by
    rcases hX with e | e <;> rw [e]
    · exact h.2.2.1
    · have := h.2.1.lt
      simp only [ne_eq, Option.some.injEq]
      omega, below_app h.1 gr h.2.2.2 h.2.2.2.size⟩
theorem lit_row (w : World) (cs : Array Value) (n base : Nat) {e : TypeId} {size : Nat} (hb : base ≤ w.heap.size) (hm : n ≤ maxLen) (hs : cs.size = n * size) {g : Nat} (hg : g = w.heap.size) : (w.alloc (.cells cs e)).ownsRow base e size (.slice (some ⟨g, 0, none⟩) n n) n cs.toList := by
  subst hg
  exact World.ownsRow_lit w cs n hb hm hs
theorem lit_bk (w : World) (cs : Array Value) {t : TypeId} {g : Nat} (hg : g = w.heap.size) : Bk (w.alloc (.cells cs t)) g t cs := by subst hg; exact Bk.new w t cs

set_option maxHeartbeats 1000000 in
set_option maxRecDepth 20000 in
theorem put42 (w : World) :
    Calls Try.prog 42 #[.agg #[.int .i64 3, .int .i64 0, .int .i64 1, .int .i64 1, .int .i64 0, .bool false, .int .u32 0, .int .i64 1]] w (OwnBytes w kPut) := by
  go_enter Try.func42, Try.ntmps42
  go_wp2_with fail
  go_loopw [4, 6] (fun v i wr => ∃ k : Nat, k ≤ 6 ∧ i = .int .i64 k ∧ PutRel w (w.heap.size + 2) k v wr) (fun _ i _ => 6 - (intOf i).toNat)
  case atStart =>
    refine ⟨0, by omega, rfl, ?_, lit_bk _ _ (by simp), by simp [Value.ownBlock], ((((Below.refl _ w).alloc (Nat.le_refl _) _).alloc (by simp) _).alloc (by simp; omega) _)⟩
    exact World.ownsRow.alloc (lit_row _ #[.int .u8 222, .int .u8 92, .int .u8 3, .int .u8 0] 4 w.heap.size (by simp) (by decide) rfl (by simp)) _
  case round =>
    obtain ⟨k, hk, rfl, hrel⟩ := hrel
    have HR := Lib.hid hrel
    have hs := hrel.2.1.lt
    clear hrel
    by_cases hlt : k < 6
    · have hu := HR.out.2.1.cell k
      rw [kA_get k hlt] at hu
      have hy := kF_le k hlt
      have HN := Lib.hid (kL_next k hlt)
      generalize kF.getD k 0 = y at *
      go_wp2_with fail
      refine (bytes43 y wr (by omega)).mono ?_
      rintro e w1 ⟨A, c, rfl, hc, hb, hbl, ha⟩
      have R1 := Lib.hid (HR.out.below hbl)
      have HB := Lib.hid hb
      have hs1 := R1.out.2.2.2.size
      clear HR hb hbl ha
      go_wp2_with (at_builtin; refine wpl_app _ row22 rfl (.tmp 34) (.tmp 40) rfl w.heap.size u4 (4 + 4 * k) ((kL k).map B8) rfl R1.out.1 w1.heap.size A 4 c ((le4 y).map B8) rfl HB.out rfl (one8 _) (by omega) hs1 ?go)
      case go =>
        intro v' w2 own gr hX
        have R2 := Lib.hid (R1.out.next HN.out own gr hX)
        clear own gr hX R1 HB
        go_wp2_with fail
        go_roundw
        case rel => exact ⟨k + 1, by omega, by go_num, R2.out⟩
        case measure => simp [intOf]; omega
    · obtain rfl : k = 6 := by omega
      obtain ⟨A, c, rfl, hc, hr, ha⟩ := own_slice HR.out.1
      have HA := Lib.hid hr
      clear hr ha
      have hc' : 28 ≤ c := hc
      go_wp2_with fail
      refine (sum30 28 c A (kL 6) wr _ HA.out (kL_len 6 (by omega)).symm (by omega)).mono ?_
      rintro e w1 ⟨rfl, rfl⟩
      have hv := sumN_lt (kL 6)
      have HP := Lib.hid (show kPut = kL 6 ++ le4 (sumN (kL 6)) from rfl)
      generalize sumN (kL 6) = sv at *
      go_wp2_with fail
      refine (bytes43 sv wr (by omega)).mono ?_
      rintro e w1 ⟨A1, c1, rfl, hc1, hb1, hbl1, ha1⟩
      have R1 := Lib.hid (HR.out.below hbl1)
      have HB := Lib.hid hb1
      have hs1 := R1.out.2.2.2.size
      clear HR hb1 hbl1 ha1 HA
      go_wp2_with (at_builtin; refine wpl_app _ row22 rfl (.tmp 42) (.tmp 46) rfl w.heap.size (.slice A 28 c) 28 ((kL 6).map B8) rfl R1.out.1 w1.heap.size A1 4 c1 ((le4 sv).map B8) rfl HB.out rfl (one8 _) (by omega) hs1 ?fin)
      case fin =>
        intro v' w2 own gr hX
        have W2 := Lib.hid (below_app R1.out.1 gr R1.out.2.2.2 hs1)
        rw [← List.map_append, ← HP.out] at own
        have O2 := Lib.hid own
        clear own gr hX R1 HB
        go_wp2_with fail
        go_ret
        exact ⟨v', rfl, O2.out, W2.out⟩
end Go.Proofs.Ytfeicdflkpgbnaa
