/-
  WORDS FOR MEMORY: a slice that reads as a list of cells, bytes among them; a block known whole.
-/
import Derived.Below
import Derived.Laws.OwnMore
import Derived.Laws.Rows
import Derived.Deep.Draws
import Derived.Deep.AppendLies
import Derived.Test.YtfeicdflkpgbnaaPa
namespace Go.Proofs.Ytfeicdflkpgbnaa
open Go.RowKit

theorem ret_eq {v u : Value} (h : v = u) : Ending.returned v = Ending.returned u := by rw [h]
theorem int_eq {k : IntKind} {a b : Int} (h : a = b) : Value.int k a = Value.int k b := by rw [h]

/-- A byte as a value. -/
def B8 (b : UInt8) : Value := .int .u8 ((b.toNat : Nat) : Int)

/-- From address A on lie the cells xs, in a block below B. -/
def Rd (w : World) (B : Nat) (A : Option Addr) (xs : List Value) : Prop :=
  xs ≠ [] → ∃ b o, A = some ⟨b, o, none⟩ ∧ b < B ∧ ∀ (j : Nat) u, xs[j]? = some u → w.cell? ⟨b, o + j, none⟩ = some u

section
variable {w w' : World} {B B' : Nat} {A : Option Addr} {xs : List Value}
theorem Rd.nil : Rd w B A [] := fun h => absurd rfl h
theorem Rd.mem (h : Rd w B A xs) {k : Nat} (hk : k < xs.length) : ∃ b o, A = some ⟨b, o, none⟩ ∧ b < B ∧ ∀ (j : Nat) u, xs[j]? = some u → w.cell? ⟨b, o + j, none⟩ = some u :=
  h (by rintro rfl; simp at hk)
theorem Rd.keep (h : Rd w B A xs) (hk : ∀ b o, b < B → w'.cell? ⟨b, o, none⟩ = w.cell? ⟨b, o, none⟩) : Rd w' B A xs := fun hne => by
  obtain ⟨b, o, e, hb, hc⟩ := h hne
  exact ⟨b, o, e, hb, fun j u hu => (hk _ _ hb).trans (hc j u hu)⟩
theorem Rd.more (h : Rd w B A xs) (hB : B ≤ B') : Rd w B' A xs := fun hne => by
  obtain ⟨b, o, e, hb, hc⟩ := h hne
  exact ⟨b, o, e, by omega, hc⟩
theorem Rd.below (h : Rd w B A xs) (hb : Below B w w') : Rd w' B A xs := h.keep fun b o hp => hb.cell (p := ⟨b, o, none⟩) hp
theorem Rd.drew (h : Rd w B A xs) : Rd w.drew B A xs := h
theorem Rd.drewN (h : Rd w B A xs) (k : Nat) : Rd (w.drewN k) B A xs := h
theorem Rd.alloc (h : Rd w B A xs) (hB : B ≤ w.heap.size) (o : Obj) : Rd (w.alloc o) B A xs := h.keep fun b o' hp => World.cell?_alloc_lt w o ⟨b, o', none⟩ (by show b < _; omega)
theorem Rd.setCell (h : Rd w B A xs) {p : Addr} (hB : B ≤ p.block) (u : Value) : Rd (w.setCell p u) B A xs :=
  h.keep fun b o hq => World.cell?_setCell_other w p ⟨b, o, none⟩ u (fun e => by rw [e] at hB; have : B ≤ b := hB; omega)
theorem Rd.grown (h : Rd w B A xs) {row : Option Nat} (hg : w.grownBy w' row) (hB : B ≤ w.heap.size) (hr : ∀ g, row = some g → B ≤ g) : Rd w' B A xs :=
  h.keep fun b o hp => World.cell?_of_block (a := ⟨b, o, none⟩) (hg.block b (by omega) (fun e => by have := hr _ e.symm; omega))
/-- Kept where a block is written that the list does not lie in. -/
theorem Rd.cut (h : Rd w B A xs) {k : Nat} {A' : Option Addr} (hA : ∀ b o, A = some ⟨b, o, none⟩ → k < xs.length → A' = some ⟨b, o + k, none⟩) : Rd w B A' (xs.drop k) := fun hne => by
  have hk : k < xs.length := by
    rcases Nat.lt_or_ge k xs.length with h1 | h1
    · exact h1
    · exact absurd (List.drop_eq_nil_of_le h1) hne
  obtain ⟨b, o, rfl, hb, hc⟩ := h.mem hk
  refine ⟨b, o + k, hA b o rfl hk, hb, fun j u hu => ?_⟩
  rw [List.getElem?_drop] at hu
  have := hc _ _ hu
  rwa [← Nat.add_assoc] at this
theorem Rd.take (h : Rd w B A xs) (k : Nat) : Rd w B A (xs.take k) := fun hne => by
  obtain ⟨b, o, e, hb, hc⟩ := h (by rintro rfl; simp at hne)
  refine ⟨b, o, e, hb, fun j u hu => hc j u ?_⟩
  rw [List.getElem?_take] at hu
  split at hu
  · exact hu
  · cases hu
theorem Rd.of_own {base : Nat} {e : TypeId} {size c n : Nat} (h : w.ownsRow base e size (.slice A n c) n xs) : Rd w w.heap.size A xs := fun hne => by
  rcases h.2 with ⟨_, hn⟩ | ⟨g, cap, cur, hv, hb, hgg, _⟩
  · have := h.1; subst hn; simp at this; exact absurd this hne
  · injection hv with hv
    subst hv
    refine ⟨g, 0, rfl, (Array.getElem?_eq_some_iff.1 hgg).1, fun j u hu => ?_⟩
    have := h.cells (g := g) rfl j u hu
    have hadd : (⟨g, 0, none⟩ : Addr).add j = ⟨g, 0 + j, none⟩ := by unfold Addr.add; split <;> simp_all
    rwa [hadd] at this
end

/-- The bytes bs lie from A on. -/
def Bs (w : World) (B : Nat) (A : Option Addr) (bs : List UInt8) : Prop := Rd w B A (bs.map B8)

section
variable {w w' : World} {B B' : Nat} {A : Option Addr} {bs : List UInt8}
theorem Bs.nil : Bs w B A [] := Rd.nil
theorem Bs.mem (h : Bs w B A bs) {k : Nat} (hk : k < bs.length) : ∃ b o, A = some ⟨b, o, none⟩ ∧ b < B ∧ ∀ (j : Nat) (hj : j < bs.length), w.cell? ⟨b, o + j, none⟩ = some (.int .u8 ((bs[j].toNat : Nat) : Int)) := by
  obtain ⟨b, o, e, hb, hc⟩ := Rd.mem (xs := bs.map B8) h (k := k) (by simpa using hk)
  exact ⟨b, o, e, hb, fun j hj => hc j _ (by rw [List.getElem?_map, List.getElem?_eq_getElem hj]; rfl)⟩
theorem Bs.more (h : Bs w B A bs) (hB : B ≤ B') : Bs w B' A bs := Rd.more h hB
theorem Bs.below (h : Bs w B A bs) (hb : Below B w w') : Bs w' B A bs := Rd.below h hb
theorem Bs.drew (h : Bs w B A bs) : Bs w.drew B A bs := h
theorem Bs.drewN (h : Bs w B A bs) (k : Nat) : Bs (w.drewN k) B A bs := h
theorem Bs.alloc (h : Bs w B A bs) (hB : B ≤ w.heap.size) (o : Obj) : Bs (w.alloc o) B A bs := Rd.alloc h hB o
theorem Bs.setCell (h : Bs w B A bs) {p : Addr} (hB : B ≤ p.block) (u : Value) : Bs (w.setCell p u) B A bs := Rd.setCell h hB u
theorem Bs.cut (h : Bs w B A bs) {k : Nat} {A' : Option Addr} (hA : ∀ b o, A = some ⟨b, o, none⟩ → k < bs.length → A' = some ⟨b, o + k, none⟩) : Bs w B A' (bs.drop k) := by
  unfold Bs
  rw [List.map_drop]
  exact Rd.cut (xs := bs.map B8) h (fun b o e hk => hA b o e (by simpa using hk))
theorem Bs.take (h : Bs w B A bs) (k : Nat) : Bs w B A (bs.take k) := by
  unfold Bs
  rw [List.map_take]
  exact Rd.take (xs := bs.map B8) h k
end

/-- Block g is just the cells cs of element type t, none frozen. -/
def Bk (w : World) (g : Nat) (t : TypeId) (cs : Array Value) : Prop := w.heap[g]? = some (.cells cs t (0, 0))

section
variable {w w' : World} {g : Nat} {t : TypeId} {cs : Array Value}
theorem Bk.lt (h : Bk w g t cs) : g < w.heap.size := (Array.getElem?_eq_some_iff.1 h).1
theorem Bk.cell (h : Bk w g t cs) (i : Nat) : w.cell? ⟨g, i, none⟩ = cs[i]? := cell_of_row w g i cs t (0, 0) h
theorem Bk.frozen (h : Bk w g t cs) (i : Nat) : w.frozen? ⟨g, i, none⟩ = false := by
  unfold Bk at h
  simp [World.frozen?, h]
theorem Bk.new (w : World) (t : TypeId) (cs : Array Value) : Bk (w.alloc (.cells cs t)) w.heap.size t cs := heap_alloc_new w _
theorem Bk.drew (h : Bk w g t cs) : Bk w.drew g t cs := h
theorem Bk.drewN (h : Bk w g t cs) (n : Nat) : Bk (w.drewN n) g t cs := h
theorem Bk.alloc (h : Bk w g t cs) (o : Obj) : Bk (w.alloc o) g t cs := (Below.heap_alloc w o g h.lt).trans h
theorem Bk.set_ (h : Bk w g t cs) (i : Nat) (u : Value) : Bk (w.setCell ⟨g, i, none⟩ u) g t (cs.setIfInBounds i u) := by
  unfold Bk at h ⊢
  simp [World.setCell, Array.getElem?_modify, h]
theorem Bk.far (h : Bk w g t cs) {p : Addr} (hp : g ≠ p.block) (u : Value) : Bk (w.setCell p u) g t cs := (Below.heap_setCell w p u g hp).trans h
theorem Bk.below {B : Nat} (h : Bk w g t cs) (hb : Below B w w') (hg : g < B) : Bk w' g t cs := (hb.block g hg).trans h
theorem Bk.grown {row : Option Nat} (h : Bk w g t cs) (hb : w.grownBy w' row) (hg : some g ≠ row) : Bk w' g t cs := (hb.block g h.lt hg).trans h
end

theorem below_drewN {B : Nat} {a w : World} (h : Below B a w) (n : Nat) : Below B a (w.drewN n) := ⟨h.os, h.tape, h.output, h.size, h.block⟩

theorem gr_refl (w : World) (row : Option Nat) : w.grownBy w row := ⟨rfl, rfl, rfl, Nat.le_refl _, fun _ _ _ => rfl⟩
theorem gr_drewN {a w : World} {row : Option Nat} (h : a.grownBy w row) (n : Nat) : a.grownBy (w.drewN n) row := ⟨h.os, h.tape, h.output, h.size, h.block⟩
theorem gr_drew {a w : World} {row : Option Nat} (h : a.grownBy w row) : a.grownBy w.drew row := ⟨h.os, h.tape, h.output, h.size, h.block⟩
theorem gr_alloc {a w : World} {row : Option Nat} (h : a.grownBy w row) (o : Obj) : a.grownBy (w.alloc o) row :=
  ⟨h.os, h.tape, h.output, Nat.le_trans h.size (by simp), fun i hi hne => (Below.heap_alloc w o i (Nat.lt_of_lt_of_le hi h.size)).trans (h.block i hi hne)⟩
theorem gr_set {a w : World} {g : Nat} (h : a.grownBy w (some g)) {p : Addr} (hp : p.block = g ∨ a.heap.size ≤ p.block) (u : Value) : a.grownBy (w.setCell p u) (some g) :=
  ⟨h.os, h.tape, h.output, by simpa [World.setCell] using h.size, fun i hi hne => (Below.heap_setCell w p u i (by
    rintro rfl
    rcases hp with hp | hp
    · exact hne (by rw [hp])
    · omega)).trans (h.block i hi hne)⟩
theorem gr_trans {a b c : World} {row : Option Nat} (h : a.grownBy b row) (k : b.grownBy c row) : a.grownBy c row :=
  ⟨k.os.trans h.os, k.tape.trans h.tape, k.output.trans h.output, Nat.le_trans h.size k.size, fun i hi hne => (k.block i (Nat.lt_of_lt_of_le hi h.size) hne).trans (h.block i hi hne)⟩
theorem gr_of_below {a w : World} (h : Below a.heap.size a w) (row : Option Nat) : a.grownBy w row := ⟨h.os, h.tape, h.output, h.size, fun i hi _ => h.block i hi⟩
theorem gr_below {a b c : World} {row : Option Nat} (h : a.grownBy b row) (k : Below b.heap.size b c) : a.grownBy c row := gr_trans h (gr_of_below k row)
/-- A block from B on may have been written: below B nothing has turned. -/
theorem below_gr {B g : Nat} {w0 a b : World} (h : Below B w0 a) (k : a.grownBy b (some g)) (hB : B ≤ g) (hs : B ≤ a.heap.size) : Below B w0 b :=
  h.grown k hs fun _ e => by injection e with e; omega
theorem Rd.gr {w w' : World} {B g : Nat} {A : Option Addr} {xs : List Value} (h : Rd w B A xs) (k : w.grownBy w' (some g)) (hB : B ≤ g) (hs : B ≤ w.heap.size) : Rd w' B A xs :=
  h.grown k hs fun _ e => by injection e with e; omega
theorem Bs.gr {w w' : World} {B g : Nat} {A : Option Addr} {bs : List UInt8} (h : Bs w B A bs) (k : w.grownBy w' (some g)) (hB : B ≤ g) (hs : B ≤ w.heap.size) : Bs w' B A bs := Rd.gr h k hB hs
theorem Bs.cutm {w : World} {B : Nat} {A : Option Addr} {bs : List UInt8} (h : Bs w B A bs) (k : Nat) : Bs w B (A.map (fun x => x.add k)) (bs.drop k) :=
  h.cut fun b o e _ => by
    subst e
    show some ((⟨b, o, none⟩ : Addr).add k) = _
    unfold Addr.add
    split <;> simp_all

end Go.Proofs.Ytfeicdflkpgbnaa
