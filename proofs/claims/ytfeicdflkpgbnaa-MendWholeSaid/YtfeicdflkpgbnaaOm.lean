/-
  BLOCKS IN ORDER: what the two loops of mend.Order hold.
-/
import Derived.Test.YtfeicdflkpgbnaaOl
import Derived.Test.YtfeicdflkpgbnaaV1
namespace Go.Proofs.Ytfeicdflkpgbnaa
open Go.RowKit

/-- The payload of an element lies in memory that is there, and in no block of D. -/
def PayE (w : World) (D : Nat → Prop) (e : El) : Prop := e.f.pay.length ≤ e.c ∧ Bs w w.heap.size e.A e.f.pay ∧ (e.f.pay ≠ [] → ∀ a, e.A = some a → ¬ D a.block)

section
variable {w w' : World} {D D' : Nat → Prop} {e : El}
theorem PayE.keep (h : PayE w D e) (hs : w.heap.size ≤ w'.heap.size) (hk : ∀ b, ¬ D b → b < w.heap.size → w'.heap[b]? = w.heap[b]?) : PayE w' D e :=
  ⟨h.1, fun hne => by
    obtain ⟨b, o, e, hb, hc⟩ := h.2.1 hne
    exact ⟨b, o, e, by omega, fun j u hu => (World.cell?_of_block (a := ⟨b, o + j, none⟩) (hk b (h.2.2 (by rintro h0; rw [h0] at hne; exact hne rfl) _ e) hb)).trans (hc j u hu)⟩, h.2.2⟩
theorem PayE.below (h : PayE w D e) (hb : Below w.heap.size w w') : PayE w' D e := h.keep hb.size fun b _ hl => hb.block b hl
/-- A block that is not there yet holds no payload. -/
theorem PayE.more (h : PayE w D e) (hD : ∀ b, D' b → D b ∨ w.heap.size ≤ b) : PayE w D' e :=
  ⟨h.1, h.2.1, fun hne a ea hd => by
    rcases hD _ hd with h1 | h1
    · exact h.2.2 hne a ea h1
    · obtain ⟨b, o, e', hb, _⟩ := h.2.1 (by simpa using hne)
      rw [ea] at e'
      injection e' with e'
      subst e'
      simp only at h1
      omega⟩
end

theorem els_of {w : World} : ∀ {fs : List Fd} {xs : List Value}, FdsOk w none fs xs → ∃ l : List El, l.map (·.f) = fs ∧ xs = cellsE l ∧ ∀ e ∈ l, PayE w (fun _ => False) e
  | [], xs, h => ⟨[], rfl, h, fun e he => by cases he⟩
  | f :: fs, xs, ⟨A, c, ys, hx, hp, h⟩ => by
    obtain ⟨l, h1, h2, h3⟩ := els_of h
    refine ⟨⟨f, A, c⟩ :: l, by simp [h1], by rw [hx, h2]; rfl, fun e he => ?_⟩
    rcases List.mem_cons.1 he with rfl | he
    · exact ⟨hp.1, hp.2.1, fun _ _ _ h => h⟩
    · exact h3 e he
theorem of_els {w : World} {D : Nat → Prop} : ∀ {l : List El}, (∀ e ∈ l, PayE w D e) → FdsOk w none (l.map (·.f)) (cellsE l)
  | [], _ => rfl
  | e :: l, h => ⟨e.A, e.c, cellsE l, rfl, ⟨(h e (by simp)).1, (h e (by simp)).2.1, fun _ _ _ e => by cases e⟩, of_els fun x hx => h x (List.mem_cons_of_mem _ hx)⟩

def kindE (kind : Int) (l : List El) : List El := l.filter fun e => decide (e.f.hd.kind = kind)
theorem kindE_map (kind : Int) (l : List El) : (kindE kind l).map (·.f) = kindF kind (l.map (·.f)) := by
  unfold kindE kindF
  rw [List.filter_map]
  rfl
theorem kindE_succ {kind : Int} {l : List El} {k : Nat} (hk : k < l.length) : kindE kind (l.take (k + 1)) = kindE kind (l.take k) ++ (if l[k].f.hd.kind = kind then [l[k]] else []) := by
  unfold kindE
  rw [List.take_add_one, List.getElem?_eq_getElem hk, List.filter_append]
  by_cases h : l[k].f.hd.kind = kind <;> simp [h]

/-- How many elements the queue has, off its variable. -/
def lenAt (w : World) (q : Nat) : Nat := match w.cell? ⟨q, 0, none⟩ with | some (.slice _ n _) => n | _ => 0
theorem QS.lenAt {w : World} {B q : Nat} {v : Value} {es : List El} (h : QS w B q v es) : Ytfeicdflkpgbnaa.lenAt w q = es.length := by
  obtain ⟨A, c, rfl, _⟩ := own_slice h.own
  unfold Ytfeicdflkpgbnaa.lenAt
  rw [h.cell]

/-- Where payloads may not lie: in the queue's variable, its row, the row of what comes out. -/
def Dirty (q : Nat) (vb ob : Option Nat) (b : Nat) : Prop := b = q ∨ some b = vb ∨ some b = ob

/-- What the first loop holds: the blocks of the kind, ahead of place k. -/
def Ord1 (w : World) (q : Nat) (kind : Int) (l : List El) (k : Nat) (wr : World) : Prop :=
  ∃ v es, QS wr w.heap.size q v es ∧ HeapE es ∧ es.Perm (kindE kind (l.take k)) ∧ Below w.heap.size w wr

/-- What the second loop holds. -/
def Ord2 (w : World) (q : Nat) (vb : Option Nat) (all : List El) (v8 : Value) (wr : World) (v : Value) (es dn os : List El) : Prop :=
  QS wr w.heap.size q v es ∧ v.ownBlock = vb ∧ HeapE es ∧ (dn ++ es).Perm all ∧ (∀ g ∈ dn, ∀ e ∈ es, lessE e g = false) ∧ Rep (os.map (·.f)) (dn.map (·.f)) ∧
    wr.ownsRow w.heap.size 45 11 v8 os.length (cellsE os) ∧ v8.ownBlock ≠ some q ∧ (v8.ownBlock = none ∨ v8.ownBlock ≠ vb) ∧ (∀ e ∈ os, PayE wr (Dirty q vb v8.ownBlock) e) ∧ Below w.heap.size w wr

section
variable {w wr w' : World} {q : Nat} {vb : Option Nat} {all es dn os : List El} {v8 v : Value}
theorem Ord2.below (h : Ord2 w q vb all v8 wr v es dn os) (hb : Below wr.heap.size wr w') : Ord2 w q vb all v8 w' v es dn os := by
  obtain ⟨a, b, c, d, e, f, g, i, j, k, l⟩ := h
  exact ⟨a.below hb, b, c, d, e, f, g.kept (gr_of_below hb none) (by cases v8.ownBlock <;> simp), i, j, fun x hx => (k x hx).below hb, l.trans (hb.mono l.size)⟩
end
/-- One block has come out, and waits. -/
def Ord2m (w : World) (q : Nat) (vb : Option Nat) (all : List El) (v8 : Value) (wr : World) (v : Value) (es dn os : List El) (e : El) : Prop :=
  QS wr w.heap.size q v es ∧ v.ownBlock = vb ∧ HeapE es ∧ (dn ++ [e] ++ es).Perm all ∧ (∀ g ∈ dn ++ [e], ∀ x ∈ es, lessE x g = false) ∧ Rep (os.map (·.f)) (dn.map (·.f)) ∧ (∀ g ∈ dn, lessE e g = false) ∧
    wr.ownsRow w.heap.size 45 11 v8 os.length (cellsE os) ∧ v8.ownBlock ≠ some q ∧ (v8.ownBlock = none ∨ v8.ownBlock ≠ vb) ∧ (∀ e ∈ os, PayE wr (Dirty q vb v8.ownBlock) e) ∧ Below w.heap.size w wr
section
variable {w wr w' w3 w4 : World} {q : Nat} {vb : Option Nat} {all es dn os : List El} {v8 v v' v8' : Value} {e : El}
theorem Ord2m.below (h : Ord2m w q vb all v8 wr v es dn os e) (hb : Below wr.heap.size wr w') : Ord2m w q vb all v8 w' v es dn os e := by
  obtain ⟨a, b, c, d, e, f, m, g, i, j, k, l⟩ := h
  exact ⟨a.below hb, b, c, d, e, f, m, g.kept (gr_of_below hb none) (by cases v8.ownBlock <;> simp), i, j, fun x hx => (k x hx).below hb, l.trans (hb.mono l.size)⟩
theorem Ord2m.wb (h : Ord2m w q vb all v8 wr v es dn os e) : Below w.heap.size w wr := by
  obtain ⟨_, _, _, _, _, _, _, _, _, _, _, l⟩ := h
  exact l
theorem Ord2m.row (h : Ord2m w q vb all v8 wr v es dn os e) : wr.ownsRow w.heap.size 45 11 v8 os.length (cellsE os) := by
  obtain ⟨_, _, _, _, _, _, _, g, _⟩ := h
  exact g
/-- What is new lies in none of the blocks that are written. -/
theorem Ord2m.fresh {A : Option Addr} (h : Ord2m w q vb all v8 wr v es dn os e) (hA : ∀ a, A = some a → wr.heap.size ≤ a.block) : ∀ a, A = some a → ¬ Dirty q vb v8.ownBlock a.block := by
  intro a ea hd
  have h1 := hA a ea
  obtain ⟨k, b, _, _, _, _, _, g, _⟩ := h
  rcases hd with hd | hd | hd
  · have := k.lt; omega
  · have := (k.own.lt _ (b.trans hd.symm)).2; omega
  · have := (g.lt _ hd.symm).2; omega
/-- The first element comes out. -/
theorem Ord2.popped {es' : List El} (h : Ord2 w q vb all v8 wr v es dn os) (hq : w.heap.size ≤ q) (q' : QS w' w.heap.size q v' es') (hp : (es' ++ [e]).Perm es) (hh : HeapE es') (hm : ∀ b ∈ es, lessE b e = false) (ho : v'.ownBlock = v.ownBlock) (hk : Kp wr w' q v.ownBlock) :
    Ord2m w q vb all v8 w' v' es' dn os e := by
  obtain ⟨a, b, c, d, f, g, r, i, j, k, l⟩ := h
  have hin : ∀ x, x ∈ es' ∨ x = e → x ∈ es := fun x hx => hp.subset (by
    rcases hx with hx | rfl
    · exact List.mem_append_left _ hx
    · simp)
  refine ⟨q', ho.trans b, hh, ?_, ?_, g, fun g' hg => f g' hg e (hin e (.inr rfl)), hk.row r i (by rw [b]; exact j), i, j, fun x hx => (k x hx).keep hk.size fun bb hb hl => hk.block bb hl (fun e => hb (.inl e)) (fun e => hb (.inr (.inl (by rw [← b]; exact e)))), hk.below l l.size hq fun k' hk' => (a.own.lt k' hk').1⟩
  · refine List.Perm.trans ?_ d
    rw [List.append_assoc]
    refine List.Perm.append_left dn ?_
    exact (List.perm_append_comm).trans hp
  · intro g' hg x hx
    rcases List.mem_append.1 hg with hg | hg
    · exact f g' hg x (hin x (.inl hx))
    · rw [List.mem_singleton] at hg
      subst hg
      exact hm x (hin x (.inl hx))
theorem Ord2m.rep (h : Ord2m w q vb all v8 wr v es dn os e) : Rep (ddS (os.map (·.f)) e.f) ((dn ++ [e]).map (·.f)) := by
  obtain ⟨_, _, _, _, _, f, m, _⟩ := h
  rw [List.map_append]
  refine f.dd fun g hg => ?_
  obtain ⟨x, hx, rfl⟩ := List.mem_map.1 hg
  exact m x hx
/-- It has the last one's number. -/
theorem Ord2m.skip (h : Ord2m w q vb all v8 wr v es dn os e) (hs : ddS (os.map (·.f)) e.f = os.map (·.f)) : Ord2 w q vb all v8 wr v es (dn ++ [e]) os := by
  have hr := h.rep
  rw [hs] at hr
  obtain ⟨a, b, c, d, f, _, _, g, i, j, k, l⟩ := h
  exact ⟨a, b, c, d, f, hr, g, i, j, k, l⟩
/-- It goes behind the last one. -/
theorem Ord2m.put {A : Option Addr} {c : Nat} (h : Ord2m w q vb all v8 w3 v es dn os e) (hs : ddS (os.map (·.f)) e.f = os.map (·.f) ++ [e.f])
    (hp : PayE w3 (Dirty q vb v8.ownBlock) ⟨e.f, A, c⟩) (own : w4.ownsRow w.heap.size 45 11 v8' (os.length + 1) (cellsE os ++ (El.mk e.f A c).cells)) (gr : w3.grownBy w4 v8.ownBlock) (hX : v8'.ownBlock = v8.ownBlock ∨ v8'.ownBlock = some w3.heap.size) :
    Ord2 w q vb all v8' w4 v es (dn ++ [e]) (os ++ [⟨e.f, A, c⟩]) := by
  have hr := h.rep
  rw [hs] at hr
  obtain ⟨a, b, hh, d, f, _, _, g, i, j, k, l⟩ := h
  have hlt : ∀ r, vb = some r → r < w3.heap.size := fun r hr => (a.own.lt r (b.trans hr)).2
  have hpay : ∀ x, PayE w3 (Dirty q vb v8.ownBlock) x → PayE w4 (Dirty q vb v8'.ownBlock) x := fun x hx => by
    have h1 : PayE w3 (Dirty q vb v8'.ownBlock) x := hx.more fun b hb => by
      rcases hX with e | e
      · rw [e] at hb; exact .inl hb
      · rw [e] at hb
        rcases hb with hb | hb | hb
        · exact .inl (.inl hb)
        · exact .inl (.inr (.inl hb))
        · injection hb with hb; exact .inr (by omega)
    refine ⟨h1.1, fun hne => ?_, h1.2.2⟩
    obtain ⟨b, o, e, hb, hc⟩ := h1.2.1 hne
    have hnb := hx.2.2 (by rintro h0; rw [h0] at hne; exact hne rfl) _ e
    exact ⟨b, o, e, Nat.lt_of_lt_of_le hb gr.size, fun j u hu => (World.cell?_of_block (a := ⟨b, o + j, none⟩) (gr.block b hb fun e => hnb (.inr (.inr e)))).trans (hc j u hu)⟩
  refine ⟨a.grown gr i ?_, b, hh, d, f, by rw [List.map_append]; exact hr, by rw [List.length_append, cellsE_append, cellsE_one]; exact own, ?_, ?_, fun x hx => ?_, l.grown gr l.size fun k hk => (g.lt k hk).1⟩
  · rcases j with j | j
    · exact .inl j
    · exact .inr (by rw [b]; exact j)
  · rcases hX with e | e
    · rw [e]; exact i
    · have := a.lt
      rw [e]
      simp only [ne_eq, Option.some.injEq]
      omega
  · rcases hX with e | e
    · rw [e]; exact j
    · refine .inr fun h => ?_
      rw [e] at h
      have := hlt _ h.symm
      omega
  · rcases List.mem_append.1 hx with hx | hx
    · exact hpay x (k x hx)
    · rw [List.mem_singleton] at hx
      subst hx
      exact hpay _ hp
theorem Ord2.start (h1 : QS wr w.heap.size q v es) (h2 : HeapE es) (h3 : es.Perm all) (h4 : Below w.heap.size w wr) : Ord2 w q v.ownBlock all (.slice none 0 0) wr v es [] [] :=
  ⟨h1, rfl, h2, h3, fun g hg => (by cases hg), Rep.nil, World.ownsRow_nil _ _ _ _, fun e => (by cases e), .inl rfl, fun e he => (by cases he), h4⟩
/-- All have come out. -/
theorem Ord2.done {kind : Int} {l : List El} (h : Ord2 w q vb (kindE kind l) v8 wr v [] dn os) (hd : AtD (l.map (·.f))) : FsP w (ordP kind [] (l.map (·.f))) (.returned v8) wr := by
  obtain ⟨a, b, c, d, f, r, g, i, j, k, l'⟩ := h
  have h1 := ordP_rep kind (l.map (·.f)) [] [] Rep.nil
  rw [List.nil_append, ← kindE_map] at h1
  rw [List.append_nil] at d
  have e : os.map (·.f) = ordP kind [] (l.map (·.f)) := by
    refine rep_unique r h1 (fun x => ?_) fun x hx y hy => hd x ?_ y ?_
    · exact (d.map (·.f)).mem_iff
    · have := (d.map (·.f)).mem_iff.1 hx
      obtain ⟨z, hz, rfl⟩ := List.mem_map.1 this
      exact List.mem_map_of_mem (List.mem_filter.1 hz).1
    · have := (d.map (·.f)).mem_iff.1 hy
      obtain ⟨z, hz, rfl⟩ := List.mem_map.1 this
      exact List.mem_map_of_mem (List.mem_filter.1 hz).1
  obtain ⟨A, c', rfl, hc', hr, _⟩ := own_slice g
  rw [← e]
  exact ⟨A, c', cellsE os, by rw [List.length_map], by rw [List.length_map]; exact hc', hr, of_els k, l'⟩
end
end Go.Proofs.Ytfeicdflkpgbnaa
