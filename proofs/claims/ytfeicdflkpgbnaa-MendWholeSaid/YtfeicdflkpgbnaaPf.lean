/-
  PLAIN: which blocks a scan finds in bytes.
-/
import Derived.Test.YtfeicdflkpgbnaaPe
import Derived.Test.YtfeicdflkpgbnaaT7
namespace Go.Proofs.Ytfeicdflkpgbnaa
open Go.RowKit

/-- The block that lies at k. -/
def fdAt (bs : List UInt8) (k : Nat) : Fd := ⟨k, hdOf (bs.drop k), payL (bs.drop k), blkSum (bs.drop k)⟩

def scanL : Nat → List UInt8 → Nat → List Fd
  | 0, _, _ => []
  | n + 1, bs, k => if k < bs.length then (if openB (bs.drop k) = true then fdAt bs k :: scanL n bs (k + 36 + (hdOf (bs.drop k)).size.toNat) else scanL n bs (k + 1)) else []
/-- The blocks that lie from k on. -/
def scan (bs : List UInt8) (k : Nat) : List Fd := scanL (bs.length - k) bs k

theorem scanL_end : ∀ (n : Nat) (bs : List UInt8) (k : Nat), bs.length ≤ k → scanL n bs k = []
  | 0, _, _, _ => rfl
  | n + 1, bs, k, h => by unfold scanL; rw [if_neg (by omega)]
theorem scanL_fuel : ∀ (n m : Nat) (bs : List UInt8) (k : Nat), bs.length ≤ n + k → bs.length ≤ m + k → scanL n bs k = scanL m bs k
  | 0, m, bs, k, h, _ => by rw [scanL_end m bs k (by omega)]; rfl
  | n + 1, 0, bs, k, _, h => by rw [scanL_end (n + 1) bs k (by omega)]; rfl
  | n + 1, m + 1, bs, k, h1, h2 => by
    unfold scanL
    rw [scanL_fuel n m bs (k + 1) (by omega) (by omega), scanL_fuel n m bs _ (by omega) (by omega)]
theorem scan_end {bs : List UInt8} {k : Nat} (h : bs.length ≤ k) : scan bs k = [] := scanL_end _ bs k h
theorem scan_hit {bs : List UInt8} {k : Nat} (h : k < bs.length) (ho : openB (bs.drop k) = true) : scan bs k = fdAt bs k :: scan bs (k + 36 + (hdOf (bs.drop k)).size.toNat) := by
  unfold scan
  obtain ⟨n, hn⟩ : ∃ n, bs.length - k = n + 1 := ⟨bs.length - k - 1, by omega⟩
  rw [hn]
  conv => lhs; unfold scanL
  rw [if_pos h, if_pos ho, scanL_fuel n (bs.length - (k + 36 + (hdOf (bs.drop k)).size.toNat)) bs (k + 36 + (hdOf (bs.drop k)).size.toNat) (by omega) (by omega)]
theorem scan_miss {bs : List UInt8} {k : Nat} (h : k < bs.length) (ho : openB (bs.drop k) = false) : scan bs k = scan bs (k + 1) := by
  unfold scan
  obtain ⟨n, hn⟩ : ∃ n, bs.length - k = n + 1 := ⟨bs.length - k - 1, by omega⟩
  rw [hn]
  conv => lhs; unfold scanL
  rw [if_pos h, if_neg (by rw [ho]; decide), scanL_fuel n (bs.length - (k + 1)) bs _ (by omega) (by omega)]

theorem openB_right {bs : List UInt8} (h : openB bs = true) : rightB (hdOf bs) = true ∧ 0 ≤ (hdOf bs).size ∧ 36 + (hdOf bs).size ≤ bs.length := by
  unfold openB getB at h
  simp only [Bool.and_eq_true, decide_eq_true_eq] at h
  exact ⟨h.1.1.2, (rightB_true.1 h.1.1.2).2.2.2.2.2.1.1, h.1.2⟩

/-- What a scan has found so far, where it stands at k. -/
def Found (bs : List UInt8) (k : Nat) (fs : List Fd) : Prop := k ≤ bs.length ∧ fs.length ≤ k ∧ fs ++ scan bs k = scan bs 0
theorem Found.start (bs : List UInt8) : Found bs 0 [] := ⟨Nat.zero_le _, Nat.le_refl _, rfl⟩
theorem Found.done {bs : List UInt8} {k : Nat} {fs : List Fd} (h : Found bs k fs) (hk : bs.length ≤ k) : fs = scan bs 0 := by
  have := h.2.2
  rwa [scan_end hk, List.append_nil] at this
theorem Found.miss {bs : List UInt8} {k : Nat} {fs : List Fd} (h : Found bs k fs) (hk : k < bs.length) (ho : openB (bs.drop k) = false) : Found bs (k + 1) fs :=
  ⟨hk, Nat.le_succ_of_le h.2.1, by rw [← scan_miss hk ho]; exact h.2.2⟩
theorem Found.hit {bs : List UInt8} {k z : Nat} {fs : List Fd} (h : Found bs k fs) (hk : k < bs.length) (ho : openB (bs.drop k) = true) (hz : (hdOf (bs.drop k)).size.toNat = z) : Found bs (k + 36 + z) (fs ++ [fdAt bs k]) := by
  obtain ⟨_, h0, h1⟩ := openB_right ho
  rw [List.length_drop] at h1
  refine ⟨by omega, by rw [List.length_append]; have := h.2.1; simp; omega, ?_⟩
  rw [← h.2.2, scan_hit hk ho, hz, List.append_assoc]
  rfl

section
variable {w w' : World} {X X' : Option Nat} {p : List UInt8} {A : Option Addr} {c : Nat}
theorem PayOk.turn (h : PayOk w X p A c) (hg : w.grownBy w' X) (hX : X' = X ∨ X' = some w.heap.size) : PayOk w' X' p A c :=
  ⟨h.1, (h.grown hg).2.1, by
    rcases hX with rfl | rfl
    · exact h.2.2
    · exact (h.fresh (Nat.le_refl _)).2.2⟩
theorem FdsOk.turn {fs : List Fd} : ∀ {xs : List Value}, FdsOk w X fs xs → w.grownBy w' X → (X' = X ∨ X' = some w.heap.size) → FdsOk w' X' fs xs := by
  induction fs with
  | nil => exact fun h _ _ => h
  | cons f fs ih =>
    rintro xs ⟨A, c, ys, rfl, h1, h2⟩ hg hX
    exact ⟨A, c, ys, rfl, h1.turn hg hX, ih h2 hg hX⟩
end

end Go.Proofs.Ytfeicdflkpgbnaa
