/-
  A scan whose row is its own; PARSE, PLAIN; the plain law of MendWhole, and its words.
-/
import Derived.Test.YtfeicdflkpgbnaaV1
import Derived.Test.YtfeicdflkpgbnaaOt
import Derived.Test.YtfeicdflkpgbnaaOa
import Derived.Test.YtfeicdflkpgbnaaOm
import Derived.Test.YtfeicdflkpgbnaaOn
import Derived.Test.YtfeicdflkpgbnaaOu
namespace Go.Proofs.Ytfeicdflkpgbnaa
open Go.RowKit

/-- A slice of found blocks that is the callee's own row. -/
def FsO (w : World) (fs : List Fd) (e : Ending) (w' : World) : Prop :=
  ∃ v xs, e = .returned v ∧ w'.ownsRow w.heap.size 45 11 v fs.length xs ∧ FdsOk w' v.ownBlock fs xs ∧ Below w.heap.size w w'
theorem ScanRel.doneO {w wr : World} {bs : List UInt8} {k : Nat} {v : Value} (h : ScanRel w 45 bs k v wr) (hk : bs.length ≤ k) : FsO w (scan bs 0) (.returned v) wr := by
  obtain ⟨fs, xs, h1, h2, h3, h4⟩ := h
  rw [← h1.done hk]
  exact ⟨v, xs, rfl, h2, h3, h4⟩

set_option maxHeartbeats 1000000 in
set_option maxRecDepth 20000 in
theorem scan11o (n c gt : Nat) (A : Option Addr) (bs : List UInt8) (w : World) (B : Nat) (ht : Tb w gt) (hb : Bs w B A bs) (hB : B ≤ w.heap.size) (hn : n = bs.length) (hc : n ≤ c) (hm : n ≤ 65536) :
    Calls Try.prog 11 #[.pointer (some ⟨gt, 0, none⟩), .slice A n c] w (FsO w (scan bs 0)) := by
  have HT := Lib.hid ht
  have HA := Lib.hid hb
  have HN := Lib.hid hn
  have hgt := ht.lt
  clear ht hb hn
  go_enter Try.func11, Try.ntmps11
  go_wp2_with fail
  go_loopw [5, 6] (fun v i wr => ∃ k : Nat, i = .int .i64 k ∧ ScanRel w 45 bs k v wr) (fun _ i _ => n - (intOf i).toNat)
  case atStart => exact ⟨0, rfl, ScanRel.start w 45 bs⟩
  case round =>
    obtain ⟨k, rfl, hrel⟩ := hrel
    have hk := hrel.at_
    rw [← HN.out] at hk
    have hsz := hrel.size
    have HS := Lib.hid hrel
    clear hrel
    by_cases hlt : k < n
    · go_wp2_with fail
      have HD := Lib.hid (show (bs.drop k).length = n - k by rw [List.length_drop, HN.out])
      refine (open27 _ _ gt _ (bs.drop k) _ B (by exact Bk.below HT.out HS.out.below0 (by omega)) (by exact Bs.below (Bs.cutm HA.out k) (HS.out.below0.mono hB)) (by omega) HD.out.symm (by omega) (by omega)).mono ?_
      rintro e w1 ⟨hb1, he⟩
      have hk' : k < bs.length := by rw [← HN.out]; exact hlt
      have hu : (IntKind.i64).wrap ((k : Int) + 1) = (k : Int) + 1 := IntWalk.i64_in _ ⟨by omega, by omega⟩
      cases ho : openB (bs.drop k) with
      | false =>
        rw [if_neg (by rw [ho]; decide)] at he
        obtain ⟨x, hx, rfl⟩ := he
        have H1 := Lib.hid ((HS.out.below hb1).miss hk' ho)
        have hd : (x != 0) = true := by rw [bne_iff_ne]; exact hx
        clear hb1 HS ho
        unfold noHd
        go_wp2_with fail
        go_roundw
        case rel => exact ⟨k + 1, by go_num, H1.out.alloc _⟩
        case measure => simp [intOf]; omega
      | true =>
        rw [if_pos ho] at he
        obtain ⟨Ap, cp, rfl, hcp, hpp, hap⟩ := he
        have HO := Lib.hid ho
        obtain ⟨hr, hz0, hz1⟩ := openB_right ho
        have HR := Lib.hid hr
        have HP := Lib.hid (show PayOk w1 u5.ownBlock (payL (bs.drop k)) Ap cp from ⟨hcp, hpp, fun _ => HS.out.pay hB hap⟩)
        have H1 := Lib.hid (HS.out.below hb1)
        have hl1 := HD.out
        rw [hl1] at hz1
        clear hb1 HS ho hr hcp hpp hap hl1
        have hpl : (payL (bs.drop k)).length = (payL (bs.drop k)).length := rfl
        generalize hh : hdOf (bs.drop k) = hd0 at *
        obtain ⟨kk, i, l, s, b, t, nn, z⟩ := hd0
        have HH := Lib.hid hh
        clear hh
        dsimp only at hz0 hz1
        obtain ⟨z, rfl⟩ := Int.eq_ofNat_of_zero_le hz0
        have HF := Lib.hid (show fdCells (fdAt bs k) Ap cp = [.int .i64 (k : Int), .int .i64 kk, .int .i64 i, .int .i64 l, .int .i64 s, .int .i64 b, .bool t, .int .u32 nn, .int .i64 (z : Int), .slice Ap (payL (bs.drop k)).length cp, .int .u32 (blkSum (bs.drop k) : Nat)] by unfold fdCells fdAt; dsimp only; rw [HH.out])
        generalize (payL (bs.drop k)).length = pl at *
        generalize blkSum (bs.drop k) = bsum at *
        unfold Hd.cells
        dsimp only
        go_upto_region 7 with (fail)
        have H2 := Lib.hid (H1.out.alloc (.cells #[.int .i64 kk, .int .i64 i, .int .i64 l, .int .i64 s, .int .i64 b, .bool t, .int .u32 nn, .int .i64 z] 40))
        have P2 := Lib.hid (HP.out.below ((Below.refl _ w1).alloc (Nat.le_refl _) (.cells #[.int .i64 kk, .int .i64 i, .int .i64 l, .int .i64 s, .int .i64 b, .bool t, .int .u32 nn, .int .i64 z] 40)))
        have K2 := Lib.hid (Bk.new w1 40 #[.int .i64 kk, .int .i64 i, .int .i64 l, .int .i64 s, .int .i64 b, .bool t, .int .u32 nn, .int .i64 z])
        have HE := Lib.hid H1.out.own
        clear H1 HP
        generalize w1.alloc (.cells #[.int .i64 kk, .int .i64 i, .int .i64 l, .int .i64 s, .int .i64 b, .bool t, .int .u32 nn, .int .i64 z] 40) = w2 at *
        generalize w1.heap.size = gh at *
        obtain ⟨q0, q1, q2, q3, q4, q5, q6, q7⟩ := Bk.eight K2.out
        obtain ⟨fs, xs, h1, h2, h3, h4⟩ := H2.out
        have F1 := Lib.hid h1
        have F2 := Lib.hid h2
        have F3 := Lib.hid h3
        have F4 := Lib.hid h4
        have hz4 := h4.size
        have hlen : fs.length ≤ 65536 := by have := h1.2.1; omega
        have Kl := K2.out.lt
        clear h1 h2 h3 h4 H2
        have hz : (hdOf (bs.drop k)).size.toNat = z := by rw [HH.out]; rfl
        have HZ := Lib.hid hz
        clear hz
        go_wp2_with (at_builtin; refine wpl_app _ row29 rfl (.tmp 33) (.tmp 39) rfl w.heap.size u5 fs.length xs rfl (F2.out.alloc _) (w2.heap.size + 1) (some ⟨w2.heap.size, 0, none⟩) 1 1 (fdCells (fdAt bs k) Ap cp) rfl ?r rfl (fdCells_one _ _ _) (by omega) (by simp; omega) ?go)
        case r => rw [HF.out]; exact Rd.fresh w2 _ 45 (Nat.lt_succ_self _)
        case go =>
          intro v' w3 own gr hX
          have S3 := Lib.hid (ScanRel.hit F1.out (F3.out.below ((Below.refl _ w2).alloc (Nat.le_refl _) _)) (F2.out.alloc _) (F4.out.alloc hz4 _) hk' HO.out HZ.out (P2.out.below ((Below.refl _ w2).alloc (Nat.le_refl _) _)) own gr (by simpa using hX))
          have K3 := Lib.hid ((K2.out.alloc _).grown gr HE.out)
          clear own gr hX F1 F2 F3 F4 P2 K2 q0 q1 q2 q3 q4 q5 q6 q7 Kl hz4
          obtain ⟨q0, q1, q2, q3, q4, q5, q6, q7⟩ := Bk.eight K3.out
          go_wp2_with fail
          refine (long28 kk i l s b t nn z _ (by exact HR.out)).mono ?_
          rintro e w4 ⟨rfl, hb4⟩
          have S4 := Lib.hid (S3.out.below hb4)
          clear S3 K3 hb4 q0 q1 q2 q3 q4 q5 q6 q7
          have hu2 : (IntKind.i64).wrap ((k : Int) + (36 + (z : Int))) = (k : Int) + (36 + (z : Int)) := IntWalk.i64_in _ ⟨by omega, by omega⟩
          go_wp2_with fail
          go_roundw
          case rel => exact ⟨k + 36 + z, by go_num, S4.out⟩
          case measure => simp [intOf]; omega
    · obtain rfl : k = n := by omega
      go_wp2_with fail
      go_ret
      exact HS.out.doneO (Nat.le_of_eq HN.out.symm)

theorem row61 : RowT 61 69 11 := rowT_of (z := .agg #[.int .i64 0, .int .i64 0, .int .i64 0, .int .i64 0, .int .i64 0, .bool false, .int .u32 0, .int .i64 0, .slice none 0 0, .int .u32 0, .int .i64 0]) (bytes := 96) (by decide) Try.underlying61 (by kernel_rfl) rfl (by decide)

/-- A block of a parsed file, as cells. -/
def blCells (f : Fd) (A : Option Addr) (c : Nat) : List Value :=
  [.int .i64 f.hd.kind, .int .i64 f.hd.index, .int .i64 f.hd.length, .int .i64 f.hd.step, .int .i64 f.hd.bound, .bool f.hd.last, .int .u32 f.hd.link, .int .i64 f.hd.size, .slice A f.pay.length c, .int .u32 f.sum, .int .i64 f.at_]
theorem blCells_length (f : Fd) (A : Option Addr) (c : Nat) : (blCells f A c).length = 11 := rfl
theorem blCells_one (f : Fd) (A : Option Addr) (c : Nat) : ∀ u ∈ blCells f A c, u.oneCell' = true := by
  intro u hu
  simp only [blCells, List.mem_cons, List.not_mem_nil, or_false] at hu
  rcases hu with rfl | rfl | rfl | rfl | rfl | rfl | rfl | rfl | rfl | rfl | rfl <;> rfl

/-- The payload lies below lo or from hi on. -/
def PayIn (lo hi : Nat) (A : Option Addr) : Prop := ∀ a, A = some a → a.block < lo ∨ hi ≤ a.block
/-- The cells xs are those of the blocks fs; the payloads lie neither in block X nor in block Y, and not from lo to hi. -/
def BlsOk (w : World) (lo hi : Nat) (X Y : Option Nat) : List Fd → List Value → Prop
  | [], xs => xs = []
  | f :: fs, xs => ∃ A c ys, xs = blCells f A c ++ ys ∧ PayOk w X f.pay A c ∧ PayOk w Y f.pay A c ∧ PayIn lo hi A ∧ BlsOk w lo hi X Y fs ys

section
variable {w w' : World} {X X' Y Y' : Option Nat} {p : List UInt8} {A : Option Addr} {c lo hi : Nat}
theorem PayOk.turnO (h : PayOk w X p A c) (hY : PayOk w Y p A c) (hg : w.grownBy w' Y) : PayOk w' X p A c := ⟨h.1, (hY.grown hg).2.1, h.2.2⟩
theorem BlsOk.below {fs : List Fd} : ∀ {xs : List Value}, BlsOk w lo hi X Y fs xs → Below w.heap.size w w' → BlsOk w' lo hi X Y fs xs := by
  induction fs with
  | nil => exact fun h _ => h
  | cons f fs ih =>
    rintro xs ⟨A, c, ys, rfl, h1, h2, hi', h3⟩ hb
    exact ⟨A, c, ys, rfl, h1.below hb, h2.below hb, hi', ih h3 hb⟩
theorem BlsOk.turnX {fs : List Fd} : ∀ {xs : List Value}, BlsOk w lo hi X Y fs xs → w.grownBy w' X → (X' = X ∨ X' = some w.heap.size) → BlsOk w' lo hi X' Y fs xs := by
  induction fs with
  | nil => exact fun h _ _ => h
  | cons f fs ih =>
    rintro xs ⟨A, c, ys, rfl, h1, h2, hi', h3⟩ hg hX
    exact ⟨A, c, ys, rfl, h1.turn hg hX, h2.turnO h1 hg, hi', ih h3 hg hX⟩
theorem BlsOk.turnY {fs : List Fd} : ∀ {xs : List Value}, BlsOk w lo hi X Y fs xs → w.grownBy w' Y → (Y' = Y ∨ Y' = some w.heap.size) → BlsOk w' lo hi X Y' fs xs := by
  induction fs with
  | nil => exact fun h _ _ => h
  | cons f fs ih =>
    rintro xs ⟨A, c, ys, rfl, h1, h2, hi', h3⟩ hg hX
    exact ⟨A, c, ys, rfl, h1.turnO h2 hg, h2.turn hg hX, hi', ih h3 hg hX⟩
theorem BlsOk.none_ {fs : List Fd} : ∀ {xs : List Value}, BlsOk w lo hi X Y fs xs → BlsOk w lo hi none none fs xs := by
  induction fs with
  | nil => exact fun h => h
  | cons f fs ih =>
    rintro xs ⟨A, c, ys, rfl, h1, h2, hi', h3⟩
    exact ⟨A, c, ys, rfl, ⟨h1.1, h1.2.1, fun _ _ _ e => by cases e⟩, ⟨h1.1, h1.2.1, fun _ _ _ e => by cases e⟩, hi', ih h3⟩
theorem BlsOk.snoc {fs : List Fd} {f : Fd} : ∀ {xs : List Value}, BlsOk w lo hi X Y fs xs → PayOk w X f.pay A c → PayOk w Y f.pay A c → PayIn lo hi A → BlsOk w lo hi X Y (fs ++ [f]) (xs ++ blCells f A c) := by
  induction fs with
  | nil => rintro xs rfl h h' h''; exact ⟨A, c, [], by simp, h, h', h'', rfl⟩
  | cons g fs ih =>
    rintro xs ⟨A', c', ys, rfl, h1, h2, hi', h3⟩ h h' h''
    exact ⟨A', c', ys ++ blCells f A c, by simp, h1, h2, hi', ih h3 h h' h''⟩
theorem BlsOk.length {fs : List Fd} : ∀ {xs : List Value}, BlsOk w lo hi X Y fs xs → xs.length = fs.length * 11 := by
  induction fs with
  | nil => rintro xs rfl; rfl
  | cons f fs ih =>
    rintro xs ⟨A, c, ys, rfl, h1, h2, hi', h3⟩
    rw [List.length_append, ih h3, blCells_length, List.length_cons]
    omega
theorem BlsOk.get {fs : List Fd} : ∀ {xs : List Value}, BlsOk w lo hi X Y fs xs → ∀ (i : Nat) (hi : i < fs.length), ∃ A c, PayOk w X fs[i].pay A c ∧ ∀ j, j < 11 → xs[i * 11 + j]? = (blCells fs[i] A c)[j]? := by
  induction fs with
  | nil => exact fun _ i hi => absurd hi (by simp)
  | cons f fs ih =>
    rintro xs ⟨A, c, ys, rfl, h1, h2, hi', h3⟩ i hi
    cases i with
    | zero => exact ⟨A, c, h1, fun j hj => by rw [Nat.zero_mul, Nat.zero_add, List.getElem?_append_left (by rw [blCells_length]; exact hj)]; rfl⟩
    | succ i =>
      obtain ⟨A', c', h4, h5⟩ := ih h3 i (by simpa using hi)
      refine ⟨A', c', h4, fun j hj => ?_⟩
      rw [List.getElem?_append_right (by rw [blCells_length]; omega), blCells_length, show (i + 1) * 11 + j - 11 = i * 11 + j by omega, h5 j hj]
      rfl
theorem PayOk.set (h : PayOk w X p A c) {q : Addr} (ha : ∀ a, A = some a → a.block ≠ q.block) (u : Value) : PayOk (w.setCell q u) X p A c :=
  ⟨h.1, (Rd.farB h.2.1 ha u).more (by simp [World.setCell]), h.2.2⟩
theorem BlsOk.set {fs : List Fd} : ∀ {xs : List Value}, BlsOk w lo hi X Y fs xs → ∀ {q : Addr}, lo ≤ q.block → q.block < hi → ∀ u, BlsOk (w.setCell q u) lo hi X Y fs xs := by
  induction fs with
  | nil => exact fun h _ _ _ _ => h
  | cons f fs ih =>
    rintro xs ⟨A, c, ys, rfl, h1, h2, hi', h3⟩ q hq1 hq2 u
    have ha : ∀ a, A = some a → a.block ≠ q.block := fun a e => by have := hi' a e; omega
    exact ⟨A, c, ys, rfl, h1.set ha u, h2.set ha u, hi', ih h3 hq1 hq2 u⟩
end

/-- The block, d further on. -/
def Fd.up (f : Fd) (d : Nat) : Fd := { f with at_ := f.at_ + d }
/-- All of one kind, their indexes 0, 1, .. -/
def InOrd (ki : Int) (fs : List Fd) : Prop := ∀ (i : Nat) (h : i < fs.length), fs[i].hd.kind = ki ∧ fs[i].hd.index = (i : Int)
theorem InOrd.nil (ki : Int) : InOrd ki [] := fun i h => absurd h (by simp)
theorem InOrd.snoc {ki : Int} {fs : List Fd} {f : Fd} (h : InOrd ki fs) (h1 : f.hd.kind = ki) (h2 : f.hd.index = (fs.length : Int)) : InOrd ki (fs ++ [f]) := by
  intro i hi
  rw [List.length_append, List.length_singleton] at hi
  rcases Nat.lt_or_ge i fs.length with h3 | h3
  · rw [List.getElem_append_left h3]; exact h i h3
  · have : i = fs.length := by omega
    subst this
    rw [List.getElem_append_right (Nat.le_refl _)]
    simp [h1, h2]

/-- The memory of Parse: its result (g2), the info (g4), the file (g9); the row of the blocks, the row of the places. -/
structure ParM (w : World) (base g2 g4 g9 : Nat) (i0 i1 i2 i3 i4 i5 : Int) (tv bv pv : Value) (fs : List Fd) (m : Nat) (wr : World) : Prop where
  k2 : Bk wr g2 65 #[.int .i64 0, .int .i64 0, .int .i64 0, .int .i64 0, .int .i64 0, .int .i64 0, .slice none 0 0, .slice none 0 0, .int .i64 0, .int .u32 0, .slice none 0 0]
  k4 : Bk wr g4 59 #[.int .i64 i0, .int .i64 i1, .int .i64 i2, .int .i64 i3, .int .i64 i4, .int .i64 i5]
  k9 : Bk wr g9 65 #[.int .i64 i0, .int .i64 i1, .int .i64 i2, .int .i64 i3, .int .i64 i4, .int .i64 i5, tv, bv, .int .i64 0, .int .u32 0, .slice none 0 0]
  lo2 : w.heap.size ≤ g2
  lo4 : w.heap.size ≤ g4
  lo9 : w.heap.size ≤ g9
  hi2 : g2 < base
  hi4 : g4 < base
  hi9 : g9 < base
  n24 : g2 ≠ g4
  n29 : g2 ≠ g9
  n49 : g4 ≠ g9
  bel : Below w.heap.size w wr
  hbs : base ≤ wr.heap.size
  ob : ∃ xs, wr.ownsRow base 69 11 bv fs.length xs ∧ BlsOk wr w.heap.size base bv.ownBlock pv.ownBlock fs xs
  op : ∃ ps : List Int, ps.length = m ∧ wr.ownsRow base 3 1 pv m (ps.map (Value.int .i64))
  apart : ∀ b, bv.ownBlock = some b → pv.ownBlock ≠ some b

section
variable {w wr w' : World} {base g2 g4 g9 m : Nat} {i0 i1 i2 i3 i4 i5 : Int} {tv bv pv bv' pv' : Value} {fs : List Fd}
theorem ParM.below (h : ParM w base g2 g4 g9 i0 i1 i2 i3 i4 i5 tv bv pv fs m wr) (hb : Below wr.heap.size wr w') : ParM w base g2 g4 g9 i0 i1 i2 i3 i4 i5 tv bv pv fs m w' := by
  obtain ⟨xs, h1, h2⟩ := h.ob
  obtain ⟨ps, h3, h4⟩ := h.op
  exact ⟨h.k2.below hb h.k2.lt, h.k4.below hb h.k4.lt, h.k9.below hb h.k9.lt, h.lo2, h.lo4, h.lo9, h.hi2, h.hi4, h.hi9, h.n24, h.n29, h.n49, h.bel.trans (hb.mono h.bel.size), Nat.le_trans h.hbs hb.size,
    ⟨xs, h1.kept (gr_of_below hb none) (by cases hv : bv.ownBlock <;> simp), h2.below hb⟩, ⟨ps, h3, h4.kept (gr_of_below hb none) (by cases hv : pv.ownBlock <;> simp)⟩, h.apart⟩
theorem ParM.drewN (h : ParM w base g2 g4 g9 i0 i1 i2 i3 i4 i5 tv bv pv fs m wr) (n : Nat) : ParM w base g2 g4 g9 i0 i1 i2 i3 i4 i5 tv bv pv fs m (wr.drewN n) := h.below (below_drewN (Below.refl _ _) n)
theorem ParM.alloc (h : ParM w base g2 g4 g9 i0 i1 i2 i3 i4 i5 tv bv pv fs m wr) (o : Obj) : ParM w base g2 g4 g9 i0 i1 i2 i3 i4 i5 tv bv pv fs m (wr.alloc o) := h.below ((Below.refl _ _).alloc (Nat.le_refl _) o)

/-- A block more. -/
theorem ParM.pushB {f : Fd} {A : Option Addr} {c : Nat} {xs : List Value} (h : ParM w base g2 g4 g9 i0 i1 i2 i3 i4 i5 tv bv pv fs m wr) (h1 : wr.ownsRow base 69 11 bv fs.length xs) (h2 : BlsOk wr w.heap.size base bv.ownBlock pv.ownBlock fs xs)
    (hp : PayOk wr bv.ownBlock f.pay A c) (hp' : PayOk wr pv.ownBlock f.pay A c) (hin : PayIn w.heap.size base A)
    (own : w'.ownsRow base 69 11 bv' (fs.length + 1) (xs ++ blCells f A c)) (gr : wr.grownBy w' bv.ownBlock) (hX : bv'.ownBlock = bv.ownBlock ∨ bv'.ownBlock = some wr.heap.size) :
    w'.cell? ⟨g9, 7, none⟩ = some bv ∧ w'.frozen? ⟨g9, 7, none⟩ = false ∧ ParM w base g2 g4 g9 i0 i1 i2 i3 i4 i5 tv bv' pv (fs ++ [f]) m (w'.setCell ⟨g9, 7, none⟩ bv') := by
  have hne : ∀ q, q < base → some q ≠ bv.ownBlock := fun q hq e => by have := (h1.lt _ e.symm).1; omega
  obtain ⟨ps, h3, h4⟩ := h.op
  have K9 := Bk.grown h.k9 gr (hne _ h.hi9)
  have hpk : pv.ownBlock = none ∨ pv.ownBlock ≠ bv.ownBlock := by
    cases hv : pv.ownBlock with
    | none => exact .inl rfl
    | some q => exact .inr fun e => h.apart q e.symm hv
  refine ⟨K9.cell 7, K9.frozen 7, (Bk.grown h.k2 gr (hne _ h.hi2)).far (p := ⟨g9, 7, none⟩) h.n29 _, (Bk.grown h.k4 gr (hne _ h.hi4)).far (p := ⟨g9, 7, none⟩) h.n49 _, by have := K9.set_ 7 bv'; simpa using this, h.lo2, h.lo4, h.lo9, h.hi2, h.hi4, h.hi9, h.n24, h.n29, h.n49,
    (h.bel.grown gr h.bel.size (fun q hq => by have := (h1.lt q hq).1; have := h.lo2; have := h.hi2; omega)).setCell (p := ⟨g9, 7, none⟩) h.lo9 _, by have := gr.size; have := h.hbs; simp [World.setCell]; omega,
    ⟨xs ++ blCells f A c, ?_, ?_⟩, ⟨ps, h3, ownsRow_setCell_below (h4.kept gr hpk) (by show g9 < base; exact h.hi9) _⟩, ?_⟩
  · rw [List.length_append]
    exact ownsRow_setCell_below own (by show g9 < base; exact h.hi9) _
  · exact ((h2.snoc hp hp' hin).turnX gr hX).set (q := ⟨g9, 7, none⟩) h.lo9 h.hi9 _
  · intro b hb e
    rcases hX with hX | hX
    · exact h.apart b (hX ▸ hb) e
    · rw [hX] at hb
      injection hb with hb
      have := (h4.lt b e).2
      omega
/-- A place more. -/
theorem ParM.pushP {y : Int} {ps : List Int} (h : ParM w base g2 g4 g9 i0 i1 i2 i3 i4 i5 tv bv pv fs m wr) (h3 : ps.length = m) (h4 : wr.ownsRow base 3 1 pv m (ps.map (Value.int .i64)))
    (own : w'.ownsRow base 3 1 pv' (m + 1) (ps.map (Value.int .i64) ++ [.int .i64 y])) (gr : wr.grownBy w' pv.ownBlock) (hX : pv'.ownBlock = pv.ownBlock ∨ pv'.ownBlock = some wr.heap.size) :
    ParM w base g2 g4 g9 i0 i1 i2 i3 i4 i5 tv bv pv' fs (m + 1) w' := by
  have hne : ∀ q, q < base → some q ≠ pv.ownBlock := fun q hq e => by have := (h4.lt _ e.symm).1; omega
  obtain ⟨xs, h1, h2⟩ := h.ob
  have hpk : bv.ownBlock = none ∨ bv.ownBlock ≠ pv.ownBlock := by
    cases hv : bv.ownBlock with
    | none => exact .inl rfl
    | some q => exact .inr fun e => h.apart q hv e.symm
  refine ⟨Bk.grown h.k2 gr (hne _ h.hi2), Bk.grown h.k4 gr (hne _ h.hi4), Bk.grown h.k9 gr (hne _ h.hi9), h.lo2, h.lo4, h.lo9, h.hi2, h.hi4, h.hi9, h.n24, h.n29, h.n49,
    h.bel.grown gr h.bel.size (fun q hq => by have := (h4.lt q hq).1; have := h.lo2; have := h.hi2; omega), Nat.le_trans h.hbs gr.size, ⟨xs, h1.kept gr hpk, h2.turnY gr hX⟩, ⟨ps ++ [y], by simp [h3], by rw [List.map_append]; exact own⟩, ?_⟩
  intro b hb e
  rcases hX with hX | hX
  · exact h.apart b hb (hX ▸ e)
  · rw [hX] at e
    injection e with e
    have := (h1.lt b hb).2
    omega
end

/-- What Parse answers. -/
def ParseT (w : World) (bs : List UInt8) (e : Ending) (w' : World) : Prop :=
  ∃ (ki i1 i2 i3 i4 i5 : Int) (TA : Option Addr) (tn tc : Nat) (BA : Option Addr) (bn bc : Nat) (tl ts : Int) (PA : Option Addr) (pn pc : Nat) (er : Int),
    e = .returned (.tuple #[.agg #[.int .i64 ki, .int .i64 i1, .int .i64 i2, .int .i64 i3, .int .i64 i4, .int .i64 i5, .slice TA tn tc, .slice BA bn bc, .int .i64 tl, .int .u32 ts, .slice PA pn pc], .int .i64 er]) ∧ Below w.heap.size w w' ∧
    (er = 0 → tn = 0 → 26 ≤ bs.length ∧ ∃ (gs : List Fd) (k lo hi : Nat) (xs : List Value), bn = gs.length ∧ bn ≤ bc ∧ Found (bs.drop 26) k gs ∧ InOrd ki gs ∧ Rd w' w'.heap.size BA xs ∧ BlsOk w' lo hi none none (gs.map (fun f => f.up 26)) xs)

theorem Bk.elev {w : World} {g : Nat} {t : TypeId} {a0 a1 a2 a3 a4 a5 a6 a7 a8 a9 a10 : Value} (h : Bk w g t #[a0, a1, a2, a3, a4, a5, a6, a7, a8, a9, a10]) :
    w.cell? ⟨g, 0, none⟩ = some a0 ∧ w.cell? ⟨g, 1, none⟩ = some a1 ∧ w.cell? ⟨g, 2, none⟩ = some a2 ∧ w.cell? ⟨g, 3, none⟩ = some a3 ∧ w.cell? ⟨g, 4, none⟩ = some a4 ∧ w.cell? ⟨g, 5, none⟩ = some a5 ∧ w.cell? ⟨g, 6, none⟩ = some a6 ∧ w.cell? ⟨g, 7, none⟩ = some a7 ∧ w.cell? ⟨g, 8, none⟩ = some a8 ∧ w.cell? ⟨g, 9, none⟩ = some a9 ∧ w.cell? ⟨g, 10, none⟩ = some a10 :=
  ⟨h.cell 0, h.cell 1, h.cell 2, h.cell 3, h.cell 4, h.cell 5, h.cell 6, h.cell 7, h.cell 8, h.cell 9, h.cell 10⟩
theorem Bk.free11 {w : World} {g : Nat} {t : TypeId} {cs : Array Value} (h : Bk w g t cs) :
    w.frozen? ⟨g, 0, none⟩ = false ∧ w.frozen? ⟨g, 1, none⟩ = false ∧ w.frozen? ⟨g, 2, none⟩ = false ∧ w.frozen? ⟨g, 3, none⟩ = false ∧ w.frozen? ⟨g, 4, none⟩ = false ∧ w.frozen? ⟨g, 5, none⟩ = false ∧ w.frozen? ⟨g, 6, none⟩ = false ∧ w.frozen? ⟨g, 7, none⟩ = false ∧ w.frozen? ⟨g, 8, none⟩ = false ∧ w.frozen? ⟨g, 9, none⟩ = false ∧ w.frozen? ⟨g, 10, none⟩ = false :=
  ⟨h.frozen 0, h.frozen 1, h.frozen 2, h.frozen 3, h.frozen 4, h.frozen 5, h.frozen 6, h.frozen 7, h.frozen 8, h.frozen 9, h.frozen 10⟩

theorem ParseT.no {w w1 : World} {bs : List UInt8} {er : Int} (h : er ≠ 0) (hb : Below w.heap.size w w1) (a0 a1 a2 a3 a4 a5 a6 a7 a8 a9 a10 : Value) :
    ParseT w bs (.returned (.tuple #[.agg #[.int .i64 0, .int .i64 0, .int .i64 0, .int .i64 0, .int .i64 0, .int .i64 0, .slice none 0 0, .slice none 0 0, .int .i64 0, .int .u32 0, .slice none 0 0], .int .i64 er])) (((((((((((w1.setCell ⟨w.heap.size, 0, none⟩ a0).setCell ⟨w.heap.size, 1, none⟩ a1).setCell ⟨w.heap.size, 2, none⟩ a2).setCell ⟨w.heap.size, 3, none⟩ a3).setCell ⟨w.heap.size, 4, none⟩ a4).setCell ⟨w.heap.size, 5, none⟩ a5).setCell ⟨w.heap.size, 6, none⟩ a6).setCell ⟨w.heap.size, 7, none⟩ a7).setCell ⟨w.heap.size, 8, none⟩ a8).setCell ⟨w.heap.size, 9, none⟩ a9).setCell ⟨w.heap.size, 10, none⟩ a10) :=
  ⟨0, 0, 0, 0, 0, 0, none, 0, 0, none, 0, 0, 0, 0, none, 0, 0, er, rfl, (((((((((((hb.setCell (p := ⟨w.heap.size, 0, none⟩) (Nat.le_refl _) a0).setCell (p := ⟨w.heap.size, 1, none⟩) (Nat.le_refl _) a1).setCell (p := ⟨w.heap.size, 2, none⟩) (Nat.le_refl _) a2).setCell (p := ⟨w.heap.size, 3, none⟩) (Nat.le_refl _) a3).setCell (p := ⟨w.heap.size, 4, none⟩) (Nat.le_refl _) a4).setCell (p := ⟨w.heap.size, 5, none⟩) (Nat.le_refl _) a5).setCell (p := ⟨w.heap.size, 6, none⟩) (Nat.le_refl _) a6).setCell (p := ⟨w.heap.size, 7, none⟩) (Nat.le_refl _) a7).setCell (p := ⟨w.heap.size, 8, none⟩) (Nat.le_refl _) a8).setCell (p := ⟨w.heap.size, 9, none⟩) (Nat.le_refl _) a9).setCell (p := ⟨w.heap.size, 10, none⟩) (Nat.le_refl _) a10), fun h' => absurd h' h⟩

/-- What Parse's loop holds. -/
def ParRel (w : World) (bs : List UInt8) (a0 base g4 g9 : Nat) (i0 i1 i2 i3 i4 i5 : Int) (tv av cv sv pv kv : Value) (wr : World) : Prop :=
  ∃ (a j : Nat) (cn : Int) (sb : Bool) (bv : Value) (gs : List Fd), av = .int .i64 (a : Int) ∧ cv = .int .i64 cn ∧ sv = .bool sb ∧ kv = .int .i64 (j : Int) ∧ a0 ≤ a ∧ Found (bs.drop a0) (a - a0) gs ∧ gs.length = j ∧ InOrd i0 gs ∧
    ParM w base w.heap.size g4 g9 i0 i1 i2 i3 i4 i5 tv bv pv (gs.map (fun f => f.up a0)) j wr

section
variable {w wr w' : World} {base g2 g4 g9 m : Nat} {i0 i1 i2 i3 i4 i5 : Int} {tv bv pv : Value} {fs : List Fd}
/-- What the end keeps: the blocks, while it writes into its own variables. -/
def FinP (w : World) (base : Nat) (bv pv : Value) (fs : List Fd) (wr : World) : Prop :=
  Below w.heap.size w wr ∧ ∃ xs, wr.ownsRow base 69 11 bv fs.length xs ∧ BlsOk wr w.heap.size base bv.ownBlock pv.ownBlock fs xs
theorem ParM.fin (h : ParM w base g2 g4 g9 i0 i1 i2 i3 i4 i5 tv bv pv fs m wr) : FinP w base bv pv fs wr := ⟨h.bel, h.ob⟩
theorem FinP.set (h : FinP w base bv pv fs wr) {q : Addr} (h1 : w.heap.size ≤ q.block) (h2 : q.block < base) (u : Value) : FinP w base bv pv fs (wr.setCell q u) := by
  obtain ⟨hb, xs, ho, hk⟩ := h
  exact ⟨hb.setCell h1 _, xs, ownsRow_setCell_below ho h2 _, hk.set h1 h2 _⟩
theorem FinP.below (h : FinP w base bv pv fs wr) (hb : Below wr.heap.size wr w') : FinP w base bv pv fs w' := by
  obtain ⟨hbe, xs, ho, hk⟩ := h
  exact ⟨hbe.trans (hb.mono hbe.size), xs, ho.kept (gr_of_below hb none) (by cases hv : bv.ownBlock <;> simp), hk.below hb⟩
theorem FinP.three (h : FinP w base bv pv fs wr) (h1 : w.heap.size ≤ g9) (h2 : g9 < base) (a b c : Value) :
    FinP w base bv pv fs (((wr.setCell ⟨g9, 8, none⟩ a).setCell ⟨g9, 9, none⟩ b).setCell ⟨g9, 10, none⟩ c) :=
  ((h.set (q := ⟨g9, 8, none⟩) h1 h2 a).set (q := ⟨g9, 9, none⟩) h1 h2 b).set (q := ⟨g9, 10, none⟩) h1 h2 c
theorem FinP.eleven (h : FinP w base bv pv fs wr) (h2 : w.heap.size < base) (a0 a1 a2 a3 a4 a5 a6 a7 a8 a9 a10 : Value) :
    FinP w base bv pv fs (((((((((((wr.setCell ⟨w.heap.size, 0, none⟩ a0).setCell ⟨w.heap.size, 1, none⟩ a1).setCell ⟨w.heap.size, 2, none⟩ a2).setCell ⟨w.heap.size, 3, none⟩ a3).setCell ⟨w.heap.size, 4, none⟩ a4).setCell ⟨w.heap.size, 5, none⟩ a5).setCell ⟨w.heap.size, 6, none⟩ a6).setCell ⟨w.heap.size, 7, none⟩ a7).setCell ⟨w.heap.size, 8, none⟩ a8).setCell ⟨w.heap.size, 9, none⟩ a9).setCell ⟨w.heap.size, 10, none⟩ a10) :=
  ((((((((((h.set (q := ⟨w.heap.size, 0, none⟩) (Nat.le_refl _) h2 a0).set (q := ⟨w.heap.size, 1, none⟩) (Nat.le_refl _) h2 a1).set (q := ⟨w.heap.size, 2, none⟩) (Nat.le_refl _) h2 a2).set (q := ⟨w.heap.size, 3, none⟩) (Nat.le_refl _) h2 a3).set (q := ⟨w.heap.size, 4, none⟩) (Nat.le_refl _) h2 a4).set (q := ⟨w.heap.size, 5, none⟩) (Nat.le_refl _) h2 a5).set (q := ⟨w.heap.size, 6, none⟩) (Nat.le_refl _) h2 a6).set (q := ⟨w.heap.size, 7, none⟩) (Nat.le_refl _) h2 a7).set (q := ⟨w.heap.size, 8, none⟩) (Nat.le_refl _) h2 a8).set (q := ⟨w.heap.size, 9, none⟩) (Nat.le_refl _) h2 a9).set (q := ⟨w.heap.size, 10, none⟩) (Nat.le_refl _) h2 a10
/-- Parse's good answer. -/
theorem FinP.yes {ki i1 i2 i3 i4 i5 : Int} {TA BA PA : Option Addr} {tn tc bc pn pc a0 a : Nat} {tl ts : Int} {bs : List UInt8} {gs : List Fd} {bn : Nat} {e : Ending}
    (h : FinP w base (.slice BA bn bc) pv (gs.map (fun f => f.up a0)) wr)
    (he : e = .returned (.tuple #[.agg #[.int .i64 ki, .int .i64 i1, .int .i64 i2, .int .i64 i3, .int .i64 i4, .int .i64 i5, .slice TA tn tc, .slice BA bn bc, .int .i64 tl, .int .u32 ts, .slice PA pn pc], .int .i64 0]))
    (hbn : bn = gs.length) (hbc : bn ≤ bc) (ha : tn = 0 → a0 = 26) (hbs : tn = 0 → 26 ≤ bs.length) (hf : Found (bs.drop a0) a gs) (hi : InOrd ki gs) : ParseT w bs e wr := by
  refine ⟨ki, i1, i2, i3, i4, i5, TA, tn, tc, BA, bn, bc, tl, ts, PA, pn, pc, 0, he, h.1, fun _ h0 => ⟨hbs h0, ?_⟩⟩
  obtain rfl := ha h0
  obtain ⟨hbe, xs, ho, hk⟩ := h
  rw [List.length_map, ← hbn] at ho
  exact ⟨gs, a, w.heap.size, base, xs, hbn, hbc, hf, hi, Rd.of_own ho, hk.none_⟩
theorem ParM.pay {B : Nat} {A : Option Addr} (h : ParM w base g2 g4 g9 i0 i1 i2 i3 i4 i5 tv bv pv fs m wr) (hB : B ≤ w.heap.size) (ha : ∀ a, A = some a → a.block < B ∨ wr.heap.size ≤ a.block) :
    (∀ a, A = some a → some a.block ≠ bv.ownBlock) ∧ (∀ a, A = some a → some a.block ≠ pv.ownBlock) ∧ PayIn w.heap.size base A := by
  obtain ⟨xs, h1, _⟩ := h.ob
  obtain ⟨ps, _, h2⟩ := h.op
  have hhi := h.hi2
  have hlo := h.lo2
  have hbs := h.hbs
  refine ⟨fun a e he => ?_, fun a e he => ?_, fun a e => ?_⟩
  · have := h1.lt _ he.symm
    have := ha a e
    omega
  · have := h2.lt _ he.symm
    have := ha a e
    omega
  · have := ha a e
    omega
end
theorem fdAt_up {bs : List UInt8} {a0 a : Nat} (h : a0 ≤ a) : (fdAt (bs.drop a0) (a - a0)).up a0 = fdAt bs a := by
  unfold fdAt Fd.up
  simp only [List.drop_drop, show a0 + (a - a0) = a by omega]
  congr 1
  omega
theorem ups_snoc {bs : List UInt8} {gs : List Fd} {a0 a : Nat} (h : a0 ≤ a) : (gs ++ [fdAt (bs.drop a0) (a - a0)]).map (fun f => f.up a0) = gs.map (fun f => f.up a0) ++ [fdAt bs a] := by
  rw [List.map_append, List.map_singleton, fdAt_up h]

theorem scanL_fit : ∀ (n : Nat) (bs : List UInt8) (k : Nat), k ≤ bs.length → (scanL n bs k).length * 36 + k ≤ bs.length
  | 0, bs, k, h => by simpa [scanL] using h
  | n + 1, bs, k, h => by
    unfold scanL
    by_cases h1 : k < bs.length
    · rw [if_pos h1]
      by_cases h2 : openB (bs.drop k) = true
      · rw [if_pos h2]
        obtain ⟨_, h3, h4⟩ := openB_right h2
        rw [List.length_drop] at h4
        have := scanL_fit n bs (k + 36 + (hdOf (bs.drop k)).size.toNat) (by omega)
        rw [List.length_cons]
        omega
      · rw [if_neg h2]
        have := scanL_fit n bs (k + 1) h1
        omega
    · rw [if_neg h1]
      simpa using h
theorem scan_fit (bs : List UInt8) : (scan bs 0).length * 36 ≤ bs.length := by
  have := scanL_fit (bs.length - 0) bs 0 (Nat.zero_le _)
  unfold scan
  omega
theorem scanL_at : ∀ (n : Nat) (bs : List UInt8) (k : Nat), (∀ f ∈ scanL n bs k, (k : Int) ≤ f.at_ ∧ f.pay.length ≤ bs.length) ∧ (scanL n bs k).Pairwise (fun a b => a.at_ < b.at_)
  | 0, bs, k => ⟨fun f hf => absurd hf List.not_mem_nil, List.Pairwise.nil⟩
  | n + 1, bs, k => by
    unfold scanL
    by_cases h1 : k < bs.length
    · rw [if_pos h1]
      by_cases h2 : openB (bs.drop k) = true
      · rw [if_pos h2]
        obtain ⟨i1, i2⟩ := scanL_at n bs (k + 36 + (hdOf (bs.drop k)).size.toNat)
        refine ⟨fun f hf => ?_, List.pairwise_cons.2 ⟨fun f hf => ?_, i2⟩⟩
        · rcases List.mem_cons.1 hf with rfl | hf
          · refine ⟨Int.le_refl _, ?_⟩
            show (payL (bs.drop k)).length ≤ _
            unfold payL
            rw [List.length_take, List.length_drop, List.length_drop]
            omega
          · have := i1 f hf
            exact ⟨by omega, this.2⟩
        · have := (i1 f hf).1
          show (k : Int) < _
          omega
      · rw [if_neg h2]
        obtain ⟨i1, i2⟩ := scanL_at n bs (k + 1)
        exact ⟨fun f hf => ⟨by have := (i1 f hf).1; omega, (i1 f hf).2⟩, i2⟩
    · rw [if_neg h1]
      exact ⟨fun f hf => absurd hf List.not_mem_nil, List.Pairwise.nil⟩

theorem scanL_bd : ∀ (n : Nat) (bs : List UInt8) (k : Nat), ∀ f ∈ scanL n bs k, 0 ≤ f.at_ ∧ f.at_ ≤ bs.length
  | 0, bs, k => fun f hf => absurd hf List.not_mem_nil
  | n + 1, bs, k => by
    unfold scanL
    intro f hf
    by_cases h1 : k < bs.length
    · rw [if_pos h1] at hf
      by_cases h2 : openB (bs.drop k) = true
      · rw [if_pos h2] at hf
        rcases List.mem_cons.1 hf with rfl | hf
        · exact ⟨Int.natCast_nonneg _, by show (k : Int) ≤ _; omega⟩
        · exact scanL_bd n bs _ f hf
      · rw [if_neg h2] at hf
        exact scanL_bd n bs _ f hf
    · rw [if_neg h1] at hf
      exact absurd hf List.not_mem_nil
theorem scan_bd (bs : List UInt8) : ∀ f ∈ scan bs 0, 0 ≤ f.at_ ∧ f.at_ ≤ bs.length := scanL_bd _ bs 0

theorem pair_eq {l : List Fd} (h : l.Pairwise (fun a b => a.at_ < b.at_)) : AtD l := by
  induction l with
  | nil => intro f hf; cases hf
  | cons x l ih =>
    obtain ⟨h1, h2⟩ := List.pairwise_cons.1 h
    intro f hf g hg e
    rcases List.mem_cons.1 hf with rfl | hf'
    · rcases List.mem_cons.1 hg with rfl | hg'
      · rfl
      · have := h1 g hg'; omega
    · rcases List.mem_cons.1 hg with rfl | hg'
      · have := h1 f hf'; omega
      · exact ih h2 f hf' g hg' e

theorem insR_last {out : List Fd} {x : Fd} (h : ∀ g ∈ out, idx g < idx x) : insR out x = out ++ [x] := by
  induction out with
  | nil => rfl
  | cons g l ih =>
    unfold insR
    rw [if_pos (h g (by simp)), ih fun y hy => h y (List.mem_cons_of_mem _ hy)]
    rfl
theorem ordP_inord {ki : Int} : ∀ (l out : List Fd), InOrd ki (out ++ l) → ordP ki out l = out ++ l
  | [], out, _ => by unfold ordP; simp
  | x :: l, out, h => by
    have hx := h out.length (by simp)
    rw [List.getElem_append_right (Nat.le_refl _)] at hx
    simp only [Nat.sub_self, List.getElem_cons_zero] at hx
    unfold ordP
    rw [if_pos hx.1, insR_last fun g hg => ?_, ordP_inord l (out ++ [x]) (by simpa using h)]
    · simp
    · obtain ⟨i, hi, rfl⟩ := List.mem_iff_getElem.1 hg
      have h2 := (h i (by simp; omega)).2
      rw [List.getElem_append_left hi] at h2
      show _ < x.hd.index
      rw [hx.2]
      show out[i].hd.index < _
      omega
theorem gapN_inord {ki : Int} {fs : List Fd} (h : InOrd ki fs) : gapN fs fs.length = [] := by
  unfold gapN
  rw [List.map_eq_nil_iff, List.filter_eq_nil_iff]
  intro i hi
  have hi' : i < fs.length := List.mem_range.1 hi
  have : hasB fs (i : Int) = true := by
    unfold hasB
    rw [List.any_eq_true]
    exact ⟨fs[i], List.getElem_mem hi', by simp [(h i hi').2]⟩
  simp [this]
theorem InOrd.ups {ki : Int} {fs : List Fd} (h : InOrd ki fs) (d : Nat) : InOrd ki (fs.map (fun f => f.up d)) := by
  intro i hi
  rw [List.getElem_map]
  exact h i (by simpa using hi)

/-- What the law wants of the blocks that were parsed, and of those that were found. -/
theorem whole_facts {bs : List UInt8} {k : Nat} {gs : List Fd} {ki : Int} (hf : Found bs k gs) (hi : InOrd ki gs) :
    (∃ rest, scan bs 0 = gs ++ rest) ∧ gs.length * 36 ≤ bs.length ∧ AtD (gs.map (fun f => f.up 26)) ∧ (∀ f ∈ gs.map (fun f => f.up 26), f.pay.length ≤ bs.length) ∧
      ordP ki [] (gs.map (fun f => f.up 26)) = gs.map (fun f => f.up 26) ∧ gapN (gs.map (fun f => f.up 26)) gs.length = [] := by
  have h1 := hf.2.2
  have h2 := scanL_at (bs.length - 0) bs 0
  have h3 := scan_fit bs
  have hu := hi.ups 26
  refine ⟨⟨_, h1.symm⟩, ?_, pair_eq ?_, ?_, by simpa using ordP_inord (gs.map (fun f => f.up 26)) [] (by simpa using hu), by have := gapN_inord hu; rwa [List.length_map] at this⟩
  · rw [← h1, List.length_append] at h3
    omega
  · have h4 : (scan bs 0).Pairwise (fun a b => a.at_ < b.at_) := h2.2
    rw [← h1] at h4
    rw [List.pairwise_map]
    refine (List.pairwise_append.1 h4).1.imp ?_
    intro a b hab
    show a.at_ + _ < b.at_ + _
    omega
  · intro f hf
    obtain ⟨g, hg, rfl⟩ := List.mem_map.1 hf
    exact (h2.1 g (by show g ∈ scan bs 0; rw [← h1]; exact List.mem_append_left _ hg)).2

def El.cellsB (e : El) : List Value := blCells e.f e.A e.c
def cellsB : List El → List Value
  | [] => []
  | e :: l => e.cellsB ++ cellsB l
theorem cellsB_get : ∀ (es : List El) (i j : Nat), j < 11 → (cellsB es)[i * 11 + j]? = (es[i]?).bind fun e => e.cellsB[j]?
  | [], i, j, _ => by simp [cellsB]
  | e :: l, 0, j, hj => by
    rw [cellsB, Nat.zero_mul, Nat.zero_add, List.getElem?_append_left (by show j < 11; exact hj)]
    rfl
  | e :: l, i + 1, j, hj => by
    have h11 : e.cellsB.length = 11 := rfl
    rw [cellsB, List.getElem?_append_right (by rw [h11]; omega), h11, show (i + 1) * 11 + j - 11 = i * 11 + j by omega, cellsB_get l i j hj]
    rfl
theorem cellsB_length : ∀ es : List El, (cellsB es).length = es.length * 11
  | [] => rfl
  | e :: l => by
    have h11 : e.cellsB.length = 11 := rfl
    simp only [cellsB, List.length_append, h11, cellsB_length l, List.length_cons]
    omega
theorem bels_of {w : World} {lo hi : Nat} {X Y : Option Nat} : ∀ {fs : List Fd} {xs : List Value}, BlsOk w lo hi X Y fs xs → ∃ l : List El, l.map (·.f) = fs ∧ xs = cellsB l ∧ ∀ e ∈ l, PayE w (fun _ => False) e
  | [], xs, h => ⟨[], rfl, h, fun e he => by cases he⟩
  | f :: fs, xs, ⟨A, c, ys, hx, hp, _, _, h⟩ => by
    obtain ⟨l, h1, h2, h3⟩ := bels_of h
    refine ⟨⟨f, A, c⟩ :: l, by simp [h1], by rw [hx, h2]; rfl, fun e he => ?_⟩
    rcases List.mem_cons.1 he with rfl | he
    · exact ⟨hp.1, hp.2.1, fun _ _ _ h => h⟩
    · exact h3 e he
/-- The eleven cells of block i. -/
theorem bel_eleven {w : World} {l : List El} {b o : Nat} (h : ∀ (j : Nat) u, (cellsB l)[j]? = some u → w.cell? ⟨b, o + j, none⟩ = some u) {i : Nat} (hi : i < l.length) :
    w.cell? ⟨b, o + i * 11, none⟩ = some (.int .i64 l[i].f.hd.kind) ∧ w.cell? ⟨b, o + i * 11 + 1, none⟩ = some (.int .i64 l[i].f.hd.index) ∧ w.cell? ⟨b, o + i * 11 + 2, none⟩ = some (.int .i64 l[i].f.hd.length) ∧
    w.cell? ⟨b, o + i * 11 + 3, none⟩ = some (.int .i64 l[i].f.hd.step) ∧ w.cell? ⟨b, o + i * 11 + 4, none⟩ = some (.int .i64 l[i].f.hd.bound) ∧ w.cell? ⟨b, o + i * 11 + 5, none⟩ = some (.bool l[i].f.hd.last) ∧
    w.cell? ⟨b, o + i * 11 + 6, none⟩ = some (.int .u32 l[i].f.hd.link) ∧ w.cell? ⟨b, o + i * 11 + 7, none⟩ = some (.int .i64 l[i].f.hd.size) ∧ w.cell? ⟨b, o + i * 11 + 8, none⟩ = some (.slice l[i].A l[i].f.pay.length l[i].c) ∧
    w.cell? ⟨b, o + i * 11 + 9, none⟩ = some (.int .u32 l[i].f.sum) ∧ w.cell? ⟨b, o + i * 11 + 10, none⟩ = some (.int .i64 l[i].f.at_) := by
  have key : ∀ (j : Nat) u, j < 11 → l[i].cellsB[j]? = some u → w.cell? ⟨b, o + i * 11 + j, none⟩ = some u := fun j u hj hu => by
    have := h (i * 11 + j) u (by rw [cellsB_get _ _ _ hj, List.getElem?_eq_getElem hi]; exact hu)
    rwa [← Nat.add_assoc] at this
  exact ⟨key 0 _ (by decide) rfl, key 1 _ (by decide) rfl, key 2 _ (by decide) rfl, key 3 _ (by decide) rfl, key 4 _ (by decide) rfl, key 5 _ (by decide) rfl, key 6 _ (by decide) rfl, key 7 _ (by decide) rfl, key 8 _ (by decide) rfl, key 9 _ (by decide) rfl, key 10 _ (by decide) rfl⟩

theorem els_ofX {w : World} {X : Option Nat} : ∀ {fs : List Fd} {xs : List Value}, FdsOk w X fs xs → ∃ l : List El, l.map (·.f) = fs ∧ xs = cellsE l ∧ ∀ e ∈ l, PayE w (fun b => some b = X) e
  | [], xs, h => ⟨[], rfl, h, fun e he => by cases he⟩
  | f :: fs, xs, ⟨A, c, ys, hx, hp, h⟩ => by
    obtain ⟨l, h1, h2, h3⟩ := els_ofX h
    refine ⟨⟨f, A, c⟩ :: l, by simp [h1], by rw [hx, h2]; rfl, fun e he => ?_⟩
    rcases List.mem_cons.1 he with rfl | he
    · exact ⟨hp.1, hp.2.1, fun h1 a ha => hp.2.2 h1 a ha⟩
    · exact h3 e he

theorem set_cellsE {es : List El} {i : Nat} (hi : i < es.length) {x : El} {v : Value} (hx : x.cells = es[i].cells.set 0 v) : (cellsE es).set (i * 11) v = cellsE (es.set i x) := by
  apply List.ext_getElem?
  intro k
  have hd : k = k / 11 * 11 + k % 11 := by omega
  have hr : k % 11 < 11 := Nat.mod_lt _ (by decide)
  rw [List.getElem?_set, cellsE_length]
  by_cases h : i * 11 = k
  · subst h
    rw [if_pos rfl, if_pos (by omega)]
    have := cellsE_get (es.set i x) i 0 (by decide)
    rw [Nat.add_zero] at this
    rw [this, List.getElem?_set, if_pos rfl, if_pos hi]
    simp [hx, El.cells_length]
  · rw [if_neg h, hd, cellsE_get _ _ _ hr, cellsE_get _ _ _ hr, List.getElem?_set]
    by_cases hq : i = k / 11
    · subst hq
      rw [if_pos rfl, if_pos hi, List.getElem?_eq_getElem hi]
      simp only [Option.bind_some]
      rw [hx, List.getElem?_set, if_neg (by omega)]
    · rw [if_neg hq]

/-- A found block, its place moved on. -/
def upE (e : El) : El := ⟨e.f.up 26, e.A, e.c⟩
/-- The first k are moved on. -/
def upN (k : Nat) (l : List El) : List El := (l.take k).map upE ++ l.drop k
theorem upN_zero (l : List El) : upN 0 l = l := by simp [upN]
theorem upN_all (l : List El) : upN l.length l = l.map upE := by simp [upN]
theorem upN_length (k : Nat) (l : List El) : (upN k l).length = l.length := by simp [upN]; omega
theorem upN_at {k : Nat} {l : List El} (hk : k < l.length) : (upN k l)[k]'(by rw [upN_length]; exact hk) = l[k] := by
  unfold upN
  rw [List.getElem_append_right (by rw [List.length_map, List.length_take]; omega)]
  simp [Nat.min_eq_left (Nat.le_of_lt hk)]
theorem upN_succ {k : Nat} {l : List El} (hk : k < l.length) : upN (k + 1) l = (upN k l).set k (upE l[k]) := by
  unfold upN
  have h1 : ((l.take k).map upE).length = k := by rw [List.length_map, List.length_take]; omega
  rw [List.set_append_right _ _ (by rw [h1]; exact Nat.le_refl _), List.take_add_one, List.getElem?_eq_getElem hk, h1, Nat.sub_self, List.drop_eq_getElem_cons hk, List.set_cons_zero]
  simp only [List.map_append, Option.toList_some, List.map_cons, List.map_nil, List.append_assoc]
  rfl
theorem upN_cells {k : Nat} {l : List El} (hk : k < l.length) : (cellsE (upN k l)).set (k * 11) (.int .i64 (l[k].f.at_ + 26)) = cellsE (upN (k + 1) l) := by
  rw [upN_succ hk]
  refine set_cellsE (by rw [upN_length]; exact hk) ?_
  rw [upN_at hk]
  rfl
theorem upN_cell {w : World} {B g cap : Nat} {k n : Nat} {l : List El} (h : w.ownsRow B 45 11 (.slice (some ⟨g, 0, none⟩) n cap) n (cellsE (upN k l))) (hk : k < l.length) : w.cell? ⟨g, k * 11, none⟩ = some (.int .i64 l[k].f.at_) := by
  have := (own_cell h (i := k) (by rw [upN_length]; exact hk)).1
  rwa [upN_at hk] at this

theorem FdsOk.take {w : World} {X : Option Nat} : ∀ {fs : List Fd} {xs : List Value} (n : Nat), FdsOk w X fs xs → FdsOk w X (fs.take n) (xs.take (n * 11))
  | [], xs, n, h => by rw [show xs = [] from h]; simp [FdsOk]
  | f :: fs, xs, 0, h => by simp [FdsOk]
  | f :: fs, xs, n + 1, ⟨A, c, ys, hx, hp, h⟩ => by
    refine ⟨A, c, ys.take (n * 11), ?_, hp, h.take n⟩
    rw [hx, List.take_append, fdCells_length, List.take_of_length_le (by rw [fdCells_length]; omega), show (n + 1) * 11 - 11 = n * 11 by omega]
theorem Fs.take {w : World} {A : Option Addr} {c : Nat} {fs : List Fd} {xs : List Value} (n : Nat) (h : Fs w A c fs xs) : Fs w A c (fs.take n) (xs.take (n * 11)) :=
  ⟨by have := h.1; rw [List.length_take]; omega, h.2.1.take _, h.2.2.take n⟩
theorem PayE.false {w : World} {D : Nat → Prop} {e : El} (h : PayE w D e) : PayE w (fun _ => False) e := ⟨h.1, h.2.1, fun _ _ _ h => h⟩
theorem Fs.of_els {w : World} {D : Nat → Prop} {A : Option Addr} {c : Nat} {l : List El} (h : ∀ e ∈ l, PayE w D e) (hc : l.length ≤ c) (hr : Rd w w.heap.size A (cellsE l)) : Fs w A c (l.map (·.f)) (cellsE l) :=
  ⟨by rw [List.length_map]; exact hc, hr, Ytfeicdflkpgbnaa.of_els h⟩
theorem ups_map (l : List El) : (l.map upE).map (·.f) = (l.map (·.f)).map (fun f => f.up 26) := by
  rw [List.map_map, List.map_map]
  rfl

/-- Found blocks in a row that is the callee's own. -/
def RowP (w0 : World) (fs : List Fd) (v : Value) (wx : World) : Prop :=
  ∃ (B : Nat) (A : Option Addr) (c : Nat) (xs : List Value), v = .slice A fs.length c ∧ fs.length ≤ c ∧ w0.heap.size ≤ B ∧ wx.ownsRow B 45 11 v fs.length xs ∧ FdsOk wx v.ownBlock fs xs ∧ Below w0.heap.size w0 wx
theorem FsO.row {w0 w w' : World} {fs : List Fd} {e : Ending} (h : FsO w fs e w') (hb : Below w0.heap.size w0 w) : ∃ A c, e = .returned (.slice A fs.length c) ∧ RowP w0 fs (.slice A fs.length c) w' := by
  obtain ⟨v, xs, rfl, h1, h2, h3⟩ := h
  obtain ⟨A, c, rfl, hc, _, _⟩ := own_slice h1
  exact ⟨A, c, rfl, w.heap.size, A, c, xs, rfl, hc, hb.size, h1, h2, hb.trans (h3.mono hb.size)⟩

/-- The first k places are moved on. -/
def UpR (B : Nat) (wc : World) (v : Value) (l : List El) (k : Nat) (wx : World) : Prop :=
  wx.ownsRow B 45 11 v l.length (cellsE (upN k l)) ∧ (∀ e ∈ l, PayE wx (fun b => some b = v.ownBlock) e) ∧ Below B wc wx
theorem UpR.step {B n c k : Nat} {wc wx : World} {A : Option Addr} {l : List El} (h : UpR B wc (.slice A n c) l k wx) (hn : l.length = n) (hk : k < l.length) :
    ∃ g, A = some ⟨g, 0, none⟩ ∧ wx.cell? ⟨g, k * 11, none⟩ = some (.int .i64 l[k].f.at_) ∧ wx.frozen? ⟨g, k * 11, none⟩ = false ∧
      UpR B wc (.slice A n c) l (k + 1) (wx.setCell ⟨g, k * 11, none⟩ (.int .i64 (l[k].f.at_ + 26))) := by
  subst hn
  obtain ⟨h1, h2, h3⟩ := h
  obtain ⟨g, cap, hv, hc⟩ := own_head h1 (by omega)
  injection hv with hA _ hcc
  subst hA hcc
  obtain ⟨s1, s2⟩ := h1.stored (k * 11) (.int .i64 (l[k].f.at_ + 26))
  have hg := h1.lt g rfl
  refine ⟨g, rfl, upN_cell h1 hk, h1.frozenAt _, ?_, ?_, ?_⟩
  · rw [upN_cells hk] at s1
    exact s1
  · intro e he
    refine (h2 e he).keep s2.size fun b hb hl => s2.block b hl fun e' => hb ?_
    injection e' with e'
    subst e'
    rfl
  · exact h3.setCell (p := ⟨g, k * 11, none⟩) hg.1 _
theorem UpR.done {B n c : Nat} {wc wx : World} {A : Option Addr} {l : List El} {sc us rest : List Fd} (h : UpR B wc (.slice A n c) l n wx) (hn : l.length = n) (hc : n ≤ c) (hl : l.map (·.f) = sc) (hs : sc = us ++ rest) :
    Fs wx A c (us.map (fun f => f.up 26)) ((cellsE (l.map upE)).take (us.length * 11)) := by
  subst hn
  obtain ⟨h1, h2, h3⟩ := h
  rw [upN_all] at h1
  have hr := Rd.of_own h1
  have h4 : ∀ e ∈ l.map upE, PayE wx (fun b => some b = (Value.slice A l.length c).ownBlock) e := by
    intro e he
    obtain ⟨e', he', rfl⟩ := List.mem_map.1 he
    exact h2 e' he'
  have h5 := (Fs.of_els (A := A) (c := c) h4 (by rw [List.length_map]; exact hc) hr).take us.length
  rw [ups_map, hl, hs, List.map_append] at h5
  rwa [List.take_left' (by rw [List.length_map])] at h5

/-- A slice of the found blocks us, n of them. -/
def FsQ (n : Nat) (us : List Fd) (w : World) (e : Ending) (w' : World) : Prop := ∃ A c xs, e = .returned (.slice A n c) ∧ n ≤ c ∧ Fs w' A c us xs ∧ Below w.heap.size w w'
theorem FsP.q {w w' : World} {us : List Fd} {n : Nat} {e : Ending} (h : FsP w us e w') (hn : n = us.length) : FsQ n us w e w' := by
  obtain ⟨A, c, xs, rfl, hc, hr, hf, hb⟩ := h
  subst hn
  exact ⟨A, c, xs, rfl, hc, ⟨hc, hr, hf⟩, hb⟩
theorem backs10q (n c : Nat) (A : Option Addr) (us : List Fd) (xs : List Value) (w : World) (h : Fs w A c us xs) (hn : n = us.length) (hm : n ≤ 4096) :
    Calls Try.prog 10 #[.slice A n c] w (FsQ n us w) := (backs10 n c A us xs w h hn (by omega)).mono fun _ _ h => h.q hn
theorem order18q (n c : Nat) (A : Option Addr) (us : List Fd) (xs : List Value) (kind : Int) (w : World) (h : Fs w A c us xs) (hn : n = us.length) (hm : n ≤ 4096) (hp : ∀ f ∈ us, f.pay.length ≤ 65536) (hd : AtD us) (ho : ordP kind [] us = us) :
    Calls Try.prog 18 #[.slice A n c, .int .i64 kind] w (FsQ n us w) := (order18 n c A us xs kind w h hn hm hp hd).mono fun _ _ h => by rw [ho] at h; exact h.q hn
def NilS (w : World) (e : Ending) (w' : World) : Prop := ∃ A c, e = .returned (.slice A 0 c) ∧ Below w.heap.size w w'
theorem gaps22q (n c : Nat) (A : Option Addr) (us : List Fd) (xs : List Value) (w : World) (h : Fs w A c us xs) (hn : n = us.length) (hm : n ≤ 400) (hg : gapN us n = []) :
    Calls Try.prog 22 #[.slice A n c, .int .i64 n] w (NilS w) := (gaps22 n c A us xs n w h hn (by omega) (by omega)).mono fun _ _ h => by
  obtain ⟨v, rfl, ⟨A', c', hv, _, _⟩, hb⟩ := h
  rw [Int.toNat_natCast, hg] at hv
  exact ⟨A', c', by rw [hv]; rfl, hb⟩
end Go.Proofs.Ytfeicdflkpgbnaa
