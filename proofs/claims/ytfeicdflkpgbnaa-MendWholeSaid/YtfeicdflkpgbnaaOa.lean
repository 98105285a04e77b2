/-
  PLAIN: heaps of found blocks; blocks in order, one of each number. No program in sight.
-/
import Derived.Test.YtfeicdflkpgbnaaPe
namespace Go.Proofs.Ytfeicdflkpgbnaa
open Go.RowKit

/-- A found block as it lies in a row: its payload's place besides. -/
structure El where
  f : Fd
  A : Option Addr
  c : Nat

/-- Does one stand ahead of another? -/
def lessF (a b : Fd) : Bool := decide (a.hd.index < b.hd.index) || (decide (a.hd.index = b.hd.index) && decide (a.at_ < b.at_))
def lessE (a b : El) : Bool := lessF a.f b.f
theorem lessF_true {a b : Fd} : lessF a b = true ↔ a.hd.index < b.hd.index ∨ (a.hd.index = b.hd.index ∧ a.at_ < b.at_) := by
  unfold lessF
  simp
theorem lessF_false {a b : Fd} : lessF a b = false ↔ b.hd.index < a.hd.index ∨ (a.hd.index = b.hd.index ∧ b.at_ ≤ a.at_) := by
  rw [← Bool.not_eq_true, lessF_true]
  omega
theorem lessE_asymm {a b : El} (h : lessE a b = true) : lessE b a = false := by
  have h1 := lessF_true.1 h
  exact lessF_false.2 (by omega)
theorem lessE_trans {a b c : El} (h : lessE a b = false) (k : lessE b c = false) : lessE a c = false := by
  have h1 := lessF_false.1 h
  have h2 := lessF_false.1 k
  exact lessF_false.2 (by omega)
theorem lessE_refl (a : El) : lessE a a = false := lessF_false.2 (.inr ⟨rfl, Int.le_refl _⟩)

/-! ### Heaps -/
def Swp (es es' : List El) (i j : Nat) : Prop := ∀ k, es'[k]? = if k = i then es[j]? else if k = j then es[i]? else es[k]?
def swapL (es : List El) (i j : Nat) (hi : i < es.length) (hj : j < es.length) : List El := (es.set i es[j]).set j es[i]
theorem swapL_length {es : List El} {i j : Nat} (hi : i < es.length) (hj : j < es.length) : (swapL es i j hi hj).length = es.length := by simp [swapL]
theorem swapL_swp {es : List El} {i j : Nat} (hi : i < es.length) (hj : j < es.length) : Swp es (swapL es i j hi hj) i j := by
  intro k
  unfold swapL
  rw [List.getElem?_set, List.getElem?_set, List.length_set]
  by_cases h1 : j = k
  · subst h1
    by_cases h2 : j = i
    · subst h2; simp [hj]
    · simp [hj, h2]
  · by_cases h2 : i = k
    · subst h2; simp [h1, hi]
    · rw [if_neg h1, if_neg h2, if_neg (fun e => h2 e.symm), if_neg (fun e => h1 e.symm)]
theorem swapL_perm {es : List El} {i j : Nat} (hi : i < es.length) (hj : j < es.length) : (swapL es i j hi hj).Perm es := by
  have h := Array.swap_perm (xs := es.toArray) (i := i) (j := j) (by simpa using hi) (by simpa using hj)
  have h2 := Array.perm_iff_toList_perm.1 h
  have e : (es.toArray.swap i j (by simpa using hi) (by simpa using hj)).toList = swapL es i j hi hj := by
    apply List.ext_getElem?
    intro k
    rw [swapL_swp hi hj k, Array.getElem?_toList, Array.getElem?_swap]
    simp only [List.getElem?_toArray, List.getElem_toArray]
    by_cases h1 : j = k
    · subst h1
      by_cases h2 : j = i
      · subst h2; simp [hj]
      · simp [h2, hi]
    · by_cases h2 : i = k
      · subst h2; simp [h1, hj]
      · rw [if_neg h1, if_neg h2, if_neg (fun e => h2 e.symm), if_neg (fun e => h1 e.symm)]
  rwa [e] at h2

def Ok (es : List El) (p k : Nat) : Prop := ∀ a b, es[p]? = some a → es[k]? = some b → lessE b a = false
def HeapE (es : List El) : Prop := ∀ k, 0 < k → Ok es ((k - 1) / 2) k
def UpI (es : List El) (j : Nat) : Prop := (∀ k, 0 < k → k ≠ j → Ok es ((k - 1) / 2) k) ∧ (0 < j → ∀ k, 0 < k → (k - 1) / 2 = j → Ok es ((j - 1) / 2) k)
def DownI (es : List El) (i : Nat) : Prop := (∀ k, 0 < k → (k - 1) / 2 ≠ i → Ok es ((k - 1) / 2) k) ∧ (0 < i → ∀ k, 0 < k → (k - 1) / 2 = i → Ok es ((i - 1) / 2) k)

theorem HeapE.nil : HeapE [] := fun k _ a b h => by simp at h
theorem up_start {es : List El} (h : HeapE es) (x : El) : UpI (es ++ [x]) es.length := by
  refine ⟨fun k hk hne a b ha hb => ?_, fun _ k hk hp a b _ hb => ?_⟩
  · have hl := (List.getElem?_eq_some_iff.1 hb).1
    rw [List.length_append, List.length_singleton] at hl
    rw [List.getElem?_append_left (by omega)] at ha hb
    exact h k hk a b ha hb
  · have hl := (List.getElem?_eq_some_iff.1 hb).1
    rw [List.length_append, List.length_singleton] at hl
    omega
theorem up_done0 {es : List El} (h : UpI es 0) : HeapE es := fun k hk => h.1 k hk (by omega)
theorem up_done {es : List El} {j : Nat} (h : UpI es j) (hj : Ok es ((j - 1) / 2) j) : HeapE es := fun k hk => by
  by_cases e : k = j
  · subst e; exact hj
  · exact h.1 k hk e
theorem up_step {es es' : List El} {j : Nat} {a b : El} (h : UpI es j) (h0 : 0 < j) (ha : es[(j - 1) / 2]? = some a) (hb : es[j]? = some b) (hl : lessE b a = true) (hs : Swp es es' ((j - 1) / 2) j) : UpI es' ((j - 1) / 2) := by
  have hij : (j - 1) / 2 < j := by omega
  generalize hi : (j - 1) / 2 = i at *
  have hasy := lessE_asymm hl
  refine ⟨fun k hk hne x y hx hy => ?_, fun hi0 k hk hp x y hx hy => ?_⟩
  · rw [hs] at hx hy
    rw [if_neg hne] at hy
    by_cases hkj : k = j
    · subst hkj
      rw [hi, if_pos rfl, hb] at hx
      rw [if_pos rfl, ha] at hy
      cases hx; cases hy; exact hasy
    · rw [if_neg hkj] at hy
      by_cases hpi : (k - 1) / 2 = i
      · rw [if_pos hpi, hb] at hx
        cases hx
        have h1 := h.1 k hk hkj a y (by rw [hpi]; exact ha) hy
        have h2 := lessF_true.1 hl
        have h3 := lessF_false.1 h1
        exact lessF_false.2 (by omega)
      · rw [if_neg hpi] at hx
        by_cases hpj : (k - 1) / 2 = j
        · rw [if_pos hpj, ha] at hx
          cases hx
          have h2 := h.2 h0 k hk hpj
          exact h2 a y (by rw [hi]; exact ha) hy
        · rw [if_neg hpj] at hx
          exact h.1 k hk hkj x y hx hy
  · rw [hs] at hx hy
    rw [if_neg (by omega), if_neg (by omega)] at hx
    rw [if_neg (by omega)] at hy
    have h1 := h.1 i hi0 (by omega) x a hx ha
    by_cases hkj : k = j
    · rw [if_pos hkj, ha] at hy
      cases hy
      exact h1
    · rw [if_neg hkj] at hy
      exact lessE_trans (h.1 k hk hkj a y (by rw [hp]; exact ha) hy) h1

theorem down_done {es : List El} {i : Nat} (h : DownI es i) (hc : ∀ k, 0 < k → (k - 1) / 2 = i → Ok es i k) : HeapE es := fun k hk => by
  by_cases e : (k - 1) / 2 = i
  · rw [e]; exact hc k hk e
  · exact h.1 k hk e
theorem down_step {es es' : List El} {i j : Nat} {a b : El} (h : DownI es i) (h0 : 0 < j) (hp : (j - 1) / 2 = i) (ha : es[i]? = some a) (hb : es[j]? = some b) (hl : lessE b a = true)
    (ho : ∀ k, 0 < k → (k - 1) / 2 = i → k ≠ j → Ok es j k) (hs : Swp es es' i j) : DownI es' j := by
  have hij : i < j := by omega
  have hasy := lessE_asymm hl
  refine ⟨fun k hk hne x y hx hy => ?_, fun _ k hk hpk x y hx hy => ?_⟩
  · rw [hs] at hx hy
    by_cases hkj : k = j
    · subst hkj
      rw [if_pos hp, hb] at hx
      rw [if_neg (by omega), if_pos rfl, ha] at hy
      cases hx; cases hy; exact hasy
    · by_cases hki : k = i
      · subst hki
        rw [if_pos rfl, hb] at hy
        rw [if_neg (by omega), if_neg hne] at hx
        cases hy
        exact h.2 hk j h0 hp x b hx hb
      · rw [if_neg hki, if_neg hkj] at hy
        by_cases hpi : (k - 1) / 2 = i
        · rw [if_pos hpi, hb] at hx
          cases hx
          exact ho k hk hpi hkj b y hb hy
        · rw [if_neg hpi, if_neg hne] at hx
          exact h.1 k hk hpi x y hx hy
  · rw [hs] at hx hy
    rw [if_pos hp, hb] at hx
    rw [if_neg (by omega), if_neg (by omega)] at hy
    cases hx
    exact h.1 k hk (by omega) b y (by rw [hpk]; exact hb) hy

theorem heap_min {es : List El} (h : HeapE es) {a : El} (ha : es[0]? = some a) : ∀ (n k : Nat), k ≤ n → ∀ b, es[k]? = some b → lessE b a = false
  | 0, k, hk, b, hb => by
    obtain rfl : k = 0 := by omega
    rw [ha] at hb
    cases hb
    exact lessE_refl a
  | n + 1, k, hk, b, hb => by
    rcases Nat.eq_zero_or_pos k with h0 | h0
    · exact heap_min h ha n k (by omega) b hb
    · have hl := (List.getElem?_eq_some_iff.1 hb).1
      have hp : es[(k - 1) / 2]? = some (es[(k - 1) / 2]'(by omega)) := List.getElem?_eq_getElem (by omega)
      exact lessE_trans (h k h0 _ b hp hb) (heap_min h ha n _ (by omega) _ hp)
theorem heap_least {es : List El} (h : HeapE es) {a : El} (ha : es[0]? = some a) : ∀ b ∈ es, lessE b a = false := by
  intro b hb
  obtain ⟨k, hk, rfl⟩ := List.mem_iff_getElem.1 hb
  exact heap_min h ha k k (Nat.le_refl _) _ (List.getElem?_eq_getElem hk)

/-- The first element goes to the end: the rest may be mended from above. -/
theorem down_start {es fr : List El} {y : El} {n : Nat} (h : HeapE es) (hs : Swp es (fr ++ [y]) 0 n) (hl : fr.length = n) : DownI fr 0 := by
  refine ⟨fun k hk hne a b ha hb => ?_, fun h0 => absurd h0 (Nat.lt_irrefl _)⟩
  have hkl := (List.getElem?_eq_some_iff.1 hb).1
  have e1 := hs k
  have e2 := hs ((k - 1) / 2)
  rw [List.getElem?_append_left (by omega), if_neg (by omega), if_neg (by omega)] at e1
  rw [List.getElem?_append_left (by omega), if_neg hne, if_neg (by omega)] at e2
  exact h k hk a b (by rw [← e2]; exact ha) (by rw [← e1]; exact hb)

/-! ### In order, one of each number -/
abbrev idx (f : Fd) : Int := f.hd.index
/-- The blocks out stand for the blocks s: of each number the one that begins first. -/
def Rep (out s : List Fd) : Prop := out.Pairwise (fun a b => idx a < idx b) ∧ (∀ f ∈ out, f ∈ s) ∧ ∀ g ∈ s, ∃ h ∈ out, idx h = idx g ∧ h.at_ ≤ g.at_
/-- No two begin at one place. -/
def AtD (s : List Fd) : Prop := ∀ f ∈ s, ∀ g ∈ s, f.at_ = g.at_ → f = g

theorem strict_mem {l : List Fd} (h : l.Pairwise (fun a b => idx a < idx b)) : ∀ f ∈ l, ∀ g ∈ l, idx f = idx g → f = g := by
  induction l with
  | nil => intro f hf; cases hf
  | cons x l ih =>
    obtain ⟨h1, h2⟩ := List.pairwise_cons.1 h
    intro f hf g hg e
    rcases List.mem_cons.1 hf with rfl | hf'
    · rcases List.mem_cons.1 hg with rfl | hg'
      · rfl
      · have := h1 g hg'; omega
    · rcases List.mem_cons.1 hg with rfl | hg'
      · have := h1 f hf'; omega
      · exact ih h2 f hf' g hg' e
theorem strict_ext : ∀ {l m : List Fd}, l.Pairwise (fun a b => idx a < idx b) → m.Pairwise (fun a b => idx a < idx b) → (∀ f, f ∈ l ↔ f ∈ m) → l = m
  | [], [], _, _, _ => rfl
  | [], y :: m, _, _, h => absurd ((h y).2 (by simp)) (by simp)
  | x :: l, [], _, _, h => absurd ((h x).1 (by simp)) (by simp)
  | x :: l, y :: m, hl, hm, h => by
    obtain ⟨a1, a2⟩ := List.pairwise_cons.1 hl
    obtain ⟨b1, b2⟩ := List.pairwise_cons.1 hm
    have e : x = y := by
      rcases List.mem_cons.1 ((h x).1 (by simp)) with e | e
      · exact e
      · rcases List.mem_cons.1 ((h y).2 (by simp)) with e' | e'
        · exact e'.symm
        · have := b1 x e; have := a1 y e'; omega
    subst e
    rw [strict_ext a2 b2 fun f => ?_]
    constructor
    · intro hf
      rcases List.mem_cons.1 ((h f).1 (List.mem_cons_of_mem _ hf)) with e | e
      · subst e; have := a1 f hf; omega
      · exact e
    · intro hf
      rcases List.mem_cons.1 ((h f).2 (List.mem_cons_of_mem _ hf)) with e | e
      · subst e; have := b1 f hf; omega
      · exact e
theorem rep_unique {o1 o2 s1 s2 : List Fd} (h1 : Rep o1 s1) (h2 : Rep o2 s2) (hs : ∀ f, f ∈ s1 ↔ f ∈ s2) (hd : AtD s1) : o1 = o2 := by
  have key : ∀ {o1 o2 s1 s2 : List Fd}, Rep o1 s1 → Rep o2 s2 → (∀ f, f ∈ s1 ↔ f ∈ s2) → AtD s1 → ∀ f ∈ o1, f ∈ o2 := by
    intro o1 o2 s1 s2 h1 h2 hs hd f hf
    have f1 := h1.2.1 f hf
    obtain ⟨h, ho, e1, l1⟩ := h2.2.2 f ((hs f).1 f1)
    have hh := (hs h).2 (h2.2.1 h ho)
    obtain ⟨g, go, e2, l2⟩ := h1.2.2 h hh
    have := strict_mem h1.1 g go f hf (by omega)
    subst this
    have e := hd h hh g f1 (by omega)
    rwa [← e]
  exact strict_ext h1.1 h2.1 fun f => ⟨key h1 h2 hs hd f, key h2 h1 (fun f => (hs f).symm) (fun a ha b hb => hd a ((hs a).2 ha) b ((hs b).2 hb)) f⟩

def insR : List Fd → Fd → List Fd
  | [], x => [x]
  | g :: l, x => if idx g < idx x then g :: insR l x else if idx g = idx x then (if x.at_ < g.at_ then x :: l else g :: l) else x :: g :: l
/-- The document's order. -/
def ordP (kind : Int) : List Fd → List Fd → List Fd
  | out, [] => out
  | out, x :: l => ordP kind (if x.hd.kind = kind then insR out x else out) l
def kindF (kind : Int) (fs : List Fd) : List Fd := fs.filter fun f => decide (f.hd.kind = kind)

theorem insR_mem {out : List Fd} {x : Fd} : ∀ f ∈ insR out x, f ∈ out ∨ f = x := by
  induction out with
  | nil => intro f hf; simp [insR] at hf; exact .inr hf
  | cons g l ih =>
    intro f hf
    unfold insR at hf
    split at hf
    · rcases List.mem_cons.1 hf with rfl | hf
      · simp
      · rcases ih f hf with h | h
        · exact .inl (List.mem_cons_of_mem _ h)
        · exact .inr h
    · split at hf
      · split at hf
        · rcases List.mem_cons.1 hf with rfl | hf
          · exact .inr rfl
          · exact .inl (List.mem_cons_of_mem _ hf)
        · exact .inl hf
      · rcases List.mem_cons.1 hf with rfl | hf
        · exact .inr rfl
        · exact .inl hf
theorem insR_rep {out : List Fd} {x : Fd} (h : out.Pairwise (fun a b => idx a < idx b)) :
    (insR out x).Pairwise (fun a b => idx a < idx b) ∧ (∃ k ∈ insR out x, idx k = idx x ∧ k.at_ ≤ x.at_) ∧ ∀ g ∈ out, ∃ k ∈ insR out x, idx k = idx g ∧ k.at_ ≤ g.at_ := by
  induction out with
  | nil => exact ⟨by simp [insR], ⟨x, by simp [insR], rfl, Int.le_refl _⟩, fun g hg => by cases hg⟩
  | cons g l ih =>
    obtain ⟨h1, h2⟩ := List.pairwise_cons.1 h
    obtain ⟨i1, ⟨k, ik, ie, il⟩, i3⟩ := ih h2
    unfold insR
    split
    · rename_i hlt
      refine ⟨List.pairwise_cons.2 ⟨fun f hf => ?_, i1⟩, ⟨k, List.mem_cons_of_mem _ ik, ie, il⟩, fun f hf => ?_⟩
      · rcases insR_mem f hf with h | h
        · exact h1 f h
        · subst h; exact hlt
      · rcases List.mem_cons.1 hf with rfl | hf
        · exact ⟨f, by simp, rfl, Int.le_refl _⟩
        · obtain ⟨k, a, b, c⟩ := i3 f hf
          exact ⟨k, List.mem_cons_of_mem _ a, b, c⟩
    · split
      · rename_i he
        split
        · rename_i hat
          refine ⟨List.pairwise_cons.2 ⟨fun f hf => by have := h1 f hf; omega, h2⟩, ⟨x, by simp, rfl, Int.le_refl _⟩, fun f hf => ?_⟩
          rcases List.mem_cons.1 hf with rfl | hf
          · exact ⟨x, by simp, he.symm, by omega⟩
          · exact ⟨f, List.mem_cons_of_mem _ hf, rfl, Int.le_refl _⟩
        · exact ⟨h, ⟨g, by simp, he, by omega⟩, fun f hf => ⟨f, hf, rfl, Int.le_refl _⟩⟩
      · refine ⟨List.pairwise_cons.2 ⟨fun f hf => ?_, h⟩, ⟨x, by simp, rfl, Int.le_refl _⟩, fun f hf => ⟨f, List.mem_cons_of_mem _ hf, rfl, Int.le_refl _⟩⟩
        rcases List.mem_cons.1 hf with rfl | hf
        · omega
        · have := h1 f hf; omega
theorem Rep.ins {out s : List Fd} (h : Rep out s) (x : Fd) : Rep (insR out x) (s ++ [x]) := by
  obtain ⟨a, b, c⟩ := insR_rep (x := x) h.1
  refine ⟨a, fun f hf => ?_, fun g hg => ?_⟩
  · rcases insR_mem f hf with e | e
    · exact List.mem_append_left _ (h.2.1 f e)
    · subst e; simp
  · rcases List.mem_append.1 hg with hg | hg
    · obtain ⟨k, k1, k2, k3⟩ := h.2.2 g hg
      obtain ⟨m, m1, m2, m3⟩ := c k k1
      exact ⟨m, m1, by omega, by omega⟩
    · rw [List.mem_singleton] at hg
      subst hg
      exact b
theorem ordP_rep (kind : Int) : ∀ (fs out s : List Fd), Rep out s → Rep (ordP kind out fs) (s ++ kindF kind fs)
  | [], out, s, h => by simpa [ordP, kindF] using h
  | x :: l, out, s, h => by
    unfold ordP
    by_cases hk : x.hd.kind = kind
    · rw [if_pos hk]
      have := ordP_rep kind l _ _ (h.ins x)
      simpa [kindF, hk] using this
    · rw [if_neg hk]
      have := ordP_rep kind l _ _ h
      simpa [kindF, hk] using this
theorem Rep.nil : Rep [] [] := ⟨List.Pairwise.nil, fun f hf => (by cases hf), fun g hg => (by cases hg)⟩
theorem ordP_append (kind : Int) : ∀ (fs gs out : List Fd), ordP kind out (fs ++ gs) = ordP kind (ordP kind out fs) gs
  | [], gs, out => rfl
  | x :: l, gs, out => by simp only [List.cons_append, ordP]; exact ordP_append kind l gs _

/-- One more behind the last: unless it has the same number. -/
def ddS (out : List Fd) (f : Fd) : List Fd :=
  match out.getLast? with
  | none => out ++ [f]
  | some g => if idx g = idx f then out else out ++ [f]
theorem ddS_nil (f : Fd) : ddS [] f = [f] := rfl
theorem ddS_same {out : List Fd} {g f : Fd} (h : out.getLast? = some g) (e : idx g = idx f) : ddS out f = out := by unfold ddS; rw [h]; simp [e]
theorem ddS_more {out : List Fd} {g f : Fd} (h : out.getLast? = some g) (e : idx g ≠ idx f) : ddS out f = out ++ [f] := by unfold ddS; rw [h]; simp [e]
theorem Rep.dd {out s : List Fd} {x : Fd} (h : Rep out s) (hx : ∀ g ∈ s, lessF x g = false) : Rep (ddS out x) (s ++ [x]) := by
  have hle : ∀ g ∈ out, idx g ≤ idx x := fun g hg => by have := lessF_false.1 (hx g (h.2.1 g hg)); simp only [idx]; omega
  have more : (∀ g ∈ out, idx g < idx x) → Rep (out ++ [x]) (s ++ [x]) := fun hlt => by
    refine ⟨?_, fun f hf => ?_, fun g hg => ?_⟩
    · rw [List.pairwise_append]
      refine ⟨h.1, by simp, fun a ha b hb => ?_⟩
      rw [List.mem_singleton] at hb
      subst hb
      exact hlt a ha
    · rcases List.mem_append.1 hf with hf | hf
      · exact List.mem_append_left _ (h.2.1 f hf)
      · exact List.mem_append_right _ hf
    · rcases List.mem_append.1 hg with hg | hg
      · obtain ⟨k, k1, k2⟩ := h.2.2 g hg
        exact ⟨k, List.mem_append_left _ k1, k2⟩
      · exact ⟨g, List.mem_append_right _ hg, rfl, Int.le_refl _⟩
  cases hq : out.getLast? with
  | none =>
    have : out = [] := by simpa using hq
    subst this
    have := more fun g hg => by cases hg
    simpa [ddS] using this
  | some g =>
    obtain ⟨pre, e⟩ := List.getLast?_eq_some_iff.1 hq
    have hg : g ∈ out := by rw [e]; simp
    by_cases he : idx g = idx x
    · rw [ddS_same hq he]
      refine ⟨h.1, fun f hf => List.mem_append_left _ (h.2.1 f hf), fun k hk => ?_⟩
      rcases List.mem_append.1 hk with hk | hk
      · exact h.2.2 k hk
      · rw [List.mem_singleton] at hk
        subst hk
        have := lessF_false.1 (hx g (h.2.1 g hg))
        simp only [idx] at he
        exact ⟨g, hg, he, by omega⟩
    · rw [ddS_more hq he]
      refine more fun f hf => ?_
      have h1 := hle g hg
      have h2 := h.1
      rw [e] at hf h2
      rw [List.pairwise_append] at h2
      rcases List.mem_append.1 hf with hf | hf
      · have := h2.2.2 f hf g (by simp); omega
      · rw [List.mem_singleton] at hf; subst hf; omega
end Go.Proofs.Ytfeicdflkpgbnaa
