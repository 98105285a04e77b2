/-
  FOUND BLOCKS, IN MEMORY: a list of found blocks as the cells of a slice; its laws. PLAIN: which blocks a scan finds.
-/
import Derived.Test.YtfeicdflkpgbnaaPd
import Derived.Test.YtfeicdflkpgbnaaPc
namespace Go.Proofs.Ytfeicdflkpgbnaa
open Go.RowKit

def payL (bs : List UInt8) : List UInt8 := (bs.drop 32).take (hdOf bs).size.toNat
def blkSum (bs : List UInt8) : Nat := sumN (bs.take (32 + (hdOf bs).size.toNat))

/-- A found block. -/
structure Fd where
  at_ : Int
  hd : Hd
  pay : List UInt8
  sum : Int

/-- A found block as cells: its payload lies at A. -/
def fdCells (f : Fd) (A : Option Addr) (c : Nat) : List Value :=
  [.int .i64 f.at_, .int .i64 f.hd.kind, .int .i64 f.hd.index, .int .i64 f.hd.length, .int .i64 f.hd.step, .int .i64 f.hd.bound, .bool f.hd.last, .int .u32 f.hd.link, .int .i64 f.hd.size, .slice A f.pay.length c, .int .u32 f.sum]
theorem fdCells_length (f : Fd) (A : Option Addr) (c : Nat) : (fdCells f A c).length = 11 := rfl
theorem fdCells_one (f : Fd) (A : Option Addr) (c : Nat) : ∀ u ∈ fdCells f A c, u.oneCell' = true := by
  intro u hu
  simp only [fdCells, List.mem_cons, List.not_mem_nil, or_false] at hu
  rcases hu with rfl | rfl | rfl | rfl | rfl | rfl | rfl | rfl | rfl | rfl | rfl <;> rfl

/-- The payload lies in memory that is there, and not in block X. -/
def PayOk (w : World) (X : Option Nat) (p : List UInt8) (A : Option Addr) (c : Nat) : Prop :=
  p.length ≤ c ∧ Bs w w.heap.size A p ∧ (p ≠ [] → ∀ a, A = some a → some a.block ≠ X)

/-- The cells xs are those of the found blocks fs. -/
def FdsOk (w : World) (X : Option Nat) : List Fd → List Value → Prop
  | [], xs => xs = []
  | f :: fs, xs => ∃ A c ys, xs = fdCells f A c ++ ys ∧ PayOk w X f.pay A c ∧ FdsOk w X fs ys

section
variable {w w' : World} {X X' : Option Nat} {p : List UInt8} {A : Option Addr} {c : Nat}
theorem PayOk.keep (h : PayOk w X p A c) (hs : w.heap.size ≤ w'.heap.size) (hk : ∀ b, some b ≠ X → b < w.heap.size → w'.heap[b]? = w.heap[b]?) : PayOk w' X p A c :=
  ⟨h.1, fun hne => by
    obtain ⟨b, o, e, hb, hc⟩ := h.2.1 hne
    exact ⟨b, o, e, by omega, fun j u hu => (World.cell?_of_block (a := ⟨b, o + j, none⟩) (hk b (h.2.2 (by rintro rfl; exact hne rfl) _ e) hb)).trans (hc j u hu)⟩, h.2.2⟩
theorem PayOk.grown (h : PayOk w X p A c) (hg : w.grownBy w' X) : PayOk w' X p A c := h.keep hg.size fun b hb hl => hg.block b hl hb
theorem PayOk.below (h : PayOk w X p A c) (hb : Below w.heap.size w w') : PayOk w' X p A c := h.keep hb.size fun b _ hl => hb.block b hl
theorem PayOk.other (h : PayOk w X p A c) (hX : p ≠ [] → ∀ a, A = some a → some a.block ≠ X') : PayOk w X' p A c := ⟨h.1, h.2.1, hX⟩

theorem FdsOk.keep {fs : List Fd} : ∀ {xs : List Value}, FdsOk w X fs xs → w.heap.size ≤ w'.heap.size → (∀ b, some b ≠ X → b < w.heap.size → w'.heap[b]? = w.heap[b]?) → FdsOk w' X fs xs := by
  induction fs with
  | nil => exact fun h _ _ => h
  | cons f fs ih =>
    rintro xs ⟨A, c, ys, rfl, h1, h2⟩ hs hk
    exact ⟨A, c, ys, rfl, h1.keep hs hk, ih h2 hs hk⟩
theorem FdsOk.grown {fs : List Fd} {xs : List Value} (h : FdsOk w X fs xs) (hg : w.grownBy w' X) : FdsOk w' X fs xs := h.keep hg.size fun b hb hl => hg.block b hl hb
theorem FdsOk.below {fs : List Fd} {xs : List Value} (h : FdsOk w X fs xs) (hb : Below w.heap.size w w') : FdsOk w' X fs xs := h.keep hb.size fun b _ hl => hb.block b hl
theorem PayOk.fresh {k : Nat} (h : PayOk w X p A c) (hk : w.heap.size ≤ k) : PayOk w (some k) p A c :=
  ⟨h.1, h.2.1, fun hne a e => by
    obtain ⟨b, o, e', hb, _⟩ := h.2.1 (by simpa using hne)
    rw [e] at e'
    injection e' with e'
    subst e'
    simp only [ne_eq, Option.some.injEq]
    omega⟩
/-- A block that is not there yet holds no payload. -/
theorem FdsOk.fresh {k : Nat} {fs : List Fd} : ∀ {xs : List Value}, FdsOk w X fs xs → w.heap.size ≤ k → FdsOk w (some k) fs xs := by
  induction fs with
  | nil => exact fun h _ => h
  | cons f fs ih =>
    rintro xs ⟨A, c, ys, rfl, h1, h2⟩ hk
    exact ⟨A, c, ys, rfl, h1.fresh hk, ih h2 hk⟩
theorem FdsOk.none_ {fs : List Fd} : ∀ {xs : List Value}, FdsOk w X fs xs → FdsOk w none fs xs := by
  induction fs with
  | nil => exact fun h => h
  | cons f fs ih =>
    rintro xs ⟨A, c, ys, rfl, h1, h2⟩
    exact ⟨A, c, ys, rfl, ⟨h1.1, h1.2.1, fun _ _ _ e => by cases e⟩, ih h2⟩
theorem FdsOk.snoc {fs : List Fd} {f : Fd} : ∀ {xs : List Value}, FdsOk w X fs xs → PayOk w X f.pay A c → FdsOk w X (fs ++ [f]) (xs ++ fdCells f A c) := by
  induction fs with
  | nil => rintro xs rfl h; exact ⟨A, c, [], by simp, h, rfl⟩
  | cons g fs ih =>
    rintro xs ⟨A', c', ys, rfl, h1, h2⟩ h
    exact ⟨A', c', ys ++ fdCells f A c, by simp, h1, ih h2 h⟩
theorem FdsOk.length {fs : List Fd} : ∀ {xs : List Value}, FdsOk w X fs xs → xs.length = fs.length * 11 := by
  induction fs with
  | nil => rintro xs rfl; rfl
  | cons f fs ih =>
    rintro xs ⟨A, c, ys, rfl, h1, h2⟩
    rw [List.length_append, ih h2, fdCells_length, List.length_cons]
    omega
theorem FdsOk.get {fs : List Fd} : ∀ {xs : List Value}, FdsOk w X fs xs → ∀ (i : Nat) (hi : i < fs.length), ∃ A c, PayOk w X fs[i].pay A c ∧ ∀ j, j < 11 → xs[i * 11 + j]? = (fdCells fs[i] A c)[j]? := by
  induction fs with
  | nil => exact fun _ i hi => absurd hi (by simp)
  | cons f fs ih =>
    rintro xs ⟨A, c, ys, rfl, h1, h2⟩ i hi
    cases i with
    | zero => exact ⟨A, c, h1, fun j hj => by rw [Nat.zero_mul, Nat.zero_add, List.getElem?_append_left (by rw [fdCells_length]; exact hj)]; rfl⟩
    | succ i =>
      obtain ⟨A', c', h3, h4⟩ := ih h2 i (by simpa using hi)
      refine ⟨A', c', h3, fun j hj => ?_⟩
      rw [List.getElem?_append_right (by rw [fdCells_length]; omega), fdCells_length, show (i + 1) * 11 + j - 11 = i * 11 + j by omega, h4 j hj]
      rfl
end

end Go.Proofs.Ytfeicdflkpgbnaa
