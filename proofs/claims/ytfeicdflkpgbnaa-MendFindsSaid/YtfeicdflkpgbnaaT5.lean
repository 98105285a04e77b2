/-
  Proved: field.Take, and Taker.U of so many bytes, tell the number that the next bytes spell, or note an error. Conditions: those that each theorem lists ahead of its colon, and no others.
-/
import Derived.Test.YtfeicdflkpgbnaaT4
import Derived.Test.YtfeicdflkpgbnaaPd
import Derived.Deep.QuietTactic
import Derived.BigQuiet
namespace Go.Proofs.Ytfeicdflkpgbnaa
open Go.RowKit

/-- field.Taker without an error, in block g: its bytes, and how many were taken. -/
def Tk (w : World) (g : Nat) (bs : List UInt8) (at_ : Nat) : Prop :=
  ∃ A c, Bk w g 133 #[.int .i64 0, .slice A bs.length c, .int .i64 (at_ : Nat)] ∧ bs.length ≤ c ∧ Bs w g A bs

theorem Tk.lt {w : World} {g : Nat} {bs : List UInt8} {k : Nat} (h : Tk w g bs k) : g < w.heap.size := by
  obtain ⟨_, _, hk, _⟩ := h; exact hk.lt
theorem Tk.below {w w' : World} {g B : Nat} {bs : List UInt8} {k : Nat} (h : Tk w g bs k) (hb : Below B w w') (hg : g < B) : Tk w' g bs k := by
  obtain ⟨A, c, hk, hc, hr⟩ := h
  exact ⟨A, c, hk.below hb hg, hc, hr.below (hb.mono (by omega))⟩
theorem Tk.drewN {w : World} {g : Nat} {bs : List UInt8} {k : Nat} (h : Tk w g bs k) (n : Nat) : Tk (w.drewN n) g bs k := h
theorem Tk.alloc {w : World} {g : Nat} {bs : List UInt8} {k : Nat} (h : Tk w g bs k) (o : Obj) : Tk (w.alloc o) g bs k := by
  have hg := h.lt
  obtain ⟨A, c, hk, hc, hr⟩ := h
  exact ⟨A, c, hk.alloc o, hc, hr.alloc (by omega) o⟩
theorem Tk.far {w : World} {g : Nat} {bs : List UInt8} {k : Nat} (h : Tk w g bs k) {p : Addr} (hp : g < p.block) (u : Value) : Tk (w.setCell p u) g bs k := by
  obtain ⟨A, c, hk, hc, hr⟩ := h
  exact ⟨A, c, hk.far (by omega) u, hc, hr.setCell (by omega) u⟩

set_option maxHeartbeats 400000 in
set_option maxRecDepth 20000 in
theorem take46 (n c : Nat) (A : Option Addr) (bs : List UInt8) (w : World) (B : Nat) (hb : Bs w B A bs) (hB : B ≤ w.heap.size) (hn : n = bs.length) (hm : n ≤ 65536) :
    Calls Try.prog 46 #[.slice A n c] w fun e w' => ∃ g, e = .returned (.pointer (some ⟨g, 0, none⟩)) ∧ w.heap.size ≤ g ∧ Tk w' g bs 0 ∧ Below w.heap.size w w' := by
  have Hn := Lib.hid hn
  clear hn
  go_enter Try.func46, Try.ntmps46
  go_wp2_with fail
  refine (clone54 n c A bs _ B hb hB Hn.out hm).mono ?_
  rintro e w1 ⟨A1, c1, rfl, hc1, hb1, hbl, _⟩
  go_wp2_with fail
  go_ret
  exact ⟨w1.heap.size, rfl, hbl.size, ⟨A1, c1, Bk.new w1 133 _, hc1, hb1.alloc (Nat.le_refl _) _⟩, hbl.alloc hbl.size _⟩

set_option maxHeartbeats 400000 in
theorem fine76 (g : Nat) (w : World) (h : w.cell? ⟨g, 0, none⟩ = some (.int .i64 0)) :
    Calls Try.prog 76 #[.pointer (some ⟨g, 0, none⟩)] w fun e w' => e = .returned (.bool true) ∧ w = w' := by
  go_enter Try.func76, Try.ntmps76
  go_wp2
  go_ret
  exact ⟨rfl, rfl⟩

set_option maxHeartbeats 400000 in
theorem may65 (g : Nat) (n : Nat) (w : World) (h : w.cell? ⟨g, 0, none⟩ = some (.int .i64 0)) (h1 : 1 ≤ n) (h8 : n ≤ 8) :
    Calls Try.prog 65 #[.pointer (some ⟨g, 0, none⟩), .int .i64 n] w fun e w' => e = .returned (.bool true) ∧ w = w' := by
  go_enter Try.func65, Try.ntmps65
  go_wp2_with (go_at_call 76; refine (fine76 g _ h).mono ?_; rintro e w' ⟨rfl, rfl⟩)
  go_ret
  exact ⟨rfl, rfl⟩

set_option maxHeartbeats 400000 in
theorem ready64 (g : Nat) (w : World) (h : w.cell? ⟨g, 0, none⟩ = some (.int .i64 0)) :
    Calls Try.prog 64 #[.pointer (some ⟨g, 0, none⟩)] w fun e w' => e = .returned (.bool true) ∧ w = w' := by
  go_enter Try.func64, Try.ntmps64
  go_wp2_with (go_at_call 76; refine (fine76 g _ h).mono ?_; rintro e w' ⟨rfl, rfl⟩)
  go_ret
  exact ⟨rfl, rfl⟩

set_option maxHeartbeats 400000 in
set_option maxRecDepth 20000 in
theorem next66 (g n at_ : Nat) (bs : List UInt8) (w : World) (h : Tk w g bs at_) (hn : at_ + n ≤ bs.length) (hm : bs.length ≤ 65536) :
    Calls Try.prog 66 #[.pointer (some ⟨g, 0, none⟩), .int .i64 n] w fun e w' => ∃ A' c', e = .returned (.slice A' n c') ∧ n ≤ c' ∧ Bs w' g A' ((bs.drop at_).take n) ∧ Tk w' g bs (at_ + n) ∧ w.grownBy w' (some g) := by
  obtain ⟨A, c, hk, hc, hb⟩ := h
  have hlt := hk.lt
  have h1 := hk.cell 1
  have h2 := hk.cell 2
  have z2 := hk.frozen 2
  simp only [List.getElem?_toArray, List.getElem?_cons_succ, List.getElem?_cons_zero] at h1 h2
  have hgr : ∀ a b, w.grownBy (((w.drewN a).setCell ⟨g, 2, none⟩ (.int .i64 ((at_ : Int) + n))).drewN b) (some g) := fun a b => gr_drewN (gr_set (gr_drewN (gr_refl w _) a) (.inl rfl) _) b
  have hTk : ∀ a b, Tk (((w.drewN a).setCell ⟨g, 2, none⟩ (.int .i64 ((at_ : Int) + n))).drewN b) g bs (at_ + n) := fun a b =>
    ⟨A, c, Bk.drewN (Bk.set_ (Bk.drewN hk a) 2 _) b, hc, (hb.gr (hgr a b) (Nat.le_refl _) (by omega))⟩
  have HG := Lib.hid hgr
  have HT := Lib.hid hTk
  clear hk hgr hTk
  go_enter Try.func66, Try.ntmps66
  go_wp2_with fail
  go_quiet (fail)
  go_wp2_with fail
  go_quiet (fail)
  go_wp2_with fail
  · go_ret
    have h0 : n = 0 := by omega
    refine ⟨_, _, rfl, by omega, ?_, HT.out _ _, HG.out _ _⟩
    rw [h0]
    exact Bs.nil
  · go_ret
    exact ⟨_, _, rfl, by omega, ((hb.gr (HG.out _ _) (Nat.le_refl _) (by omega)).cutm at_).take n, HT.out _ _, HG.out _ _⟩

theorem leV_lt : ∀ l : List UInt8, leV l < 256 ^ l.length
  | [] => by simp [leV]
  | b :: l => by
    have h := leV_lt l
    have hb := b.toNat_lt
    simp only [leV, List.length_cons, Nat.pow_succ]
    omega
theorem leV_snoc : ∀ (l : List UInt8) (b : UInt8), leV (l ++ [b]) = leV l + b.toNat * 256 ^ l.length
  | [], b => by simp [leV]
  | c :: l, b => by
    simp only [List.cons_append, leV, leV_snoc l b, List.length_cons, Nat.pow_succ, Nat.mul_add]
    rw [Nat.mul_left_comm 256, Nat.mul_comm 256 (256 ^ l.length)]
    omega
theorem leV_next (l : List UInt8) {k : Nat} (hk : k < l.length) : leV (l.take (k + 1)) = leV (l.take k) + l[k].toNat * 256 ^ k := by
  rw [List.take_succ_eq_append_getElem hk, leV_snoc, List.length_take, Nat.min_eq_left (by omega)]

theorem or_next {y k : Nat} {b : UInt8} (hy : y < 256 ^ k) (hk : k ≤ 3) :
    bits .or .u64 (y : Int) (IntKind.u64.wrap (IntKind.u64.wrap ((b.toNat : Nat) : Int) * 2 ^ (8 * k))) = ((y + b.toNat * 256 ^ k : Nat) : Int) := by
  have hb := b.toNat_lt
  have e1 : IntKind.u64.wrap ((b.toNat : Nat) : Int) = ((b.toNat : Nat) : Int) := IntWalk.u64_in _ ⟨by omega, by omega⟩
  have hp : (256 : Nat) ^ k ≤ 256 ^ 3 := Nat.pow_le_pow_right (by decide) hk
  have hpp : (2 : Nat) ^ (8 * k) = 256 ^ k := by rw [Nat.pow_mul]
  have hm : b.toNat * 256 ^ k ≤ 255 * 256 ^ 3 := Nat.mul_le_mul (by omega) hp
  have e2 : ((b.toNat : Nat) : Int) * 2 ^ (8 * k) = ((b.toNat * 256 ^ k : Nat) : Int) := by
    rw [Int.natCast_mul, ← hpp]; simp
  rw [e1, e2, IntWalk.u64_in _ ⟨by omega, by omega⟩, u64_or_nat y (b.toNat * 256 ^ k) (by omega) (by omega)]
  congr 1
  rw [Nat.or_comm, nat_join (8 * k) (b.toNat * 256 ^ k) y (by rw [hpp, Nat.mul_mod_left]) (by rw [hpp]; exact hy), Nat.add_comm]

set_option maxHeartbeats 400000 in
set_option maxRecDepth 20000 in
theorem u47 (g n at_ : Nat) (bs : List UInt8) (w : World) (h : Tk w g bs at_) (h1 : 1 ≤ n) (h8 : n ≤ 4) (hn : at_ + n ≤ bs.length) (hm : bs.length ≤ 65536) :
    Calls Try.prog 47 #[.pointer (some ⟨g, 0, none⟩), .int .i64 n] w fun e w' => e = .returned (.int .u64 (leV ((bs.drop at_).take n) : Nat)) ∧ Tk w' g bs (at_ + n) ∧ w.grownBy w' (some g) := by
  obtain ⟨A, c, hk, _⟩ := id h
  have hc0 := hk.cell 0
  have hgs := hk.lt
  simp only [List.getElem?_toArray, List.getElem?_cons_zero] at hc0
  clear hk
  have hlen : ((bs.drop at_).take n).length = n := by simp; omega
  generalize hxs : (bs.drop at_).take n = xs at *
  have HX := Lib.hid hxs
  clear hxs
  go_enter Try.func47, Try.ntmps47
  go_wp2_with (first | (go_at_call 64; refine (ready64 g _ hc0).mono ?_; rintro e w' ⟨rfl, rfl⟩) | (go_at_call 65; refine (may65 g n _ hc0 h1 (by omega)).mono ?_; rintro e w' ⟨rfl, rfl⟩))
  refine (next66 g n at_ bs _ h hn hm).mono ?_
  rintro e w1 ⟨A1, c1, rfl, hc1, hb1, hk1, hg1⟩
  rw [HX.out] at hb1
  have HK := Lib.hid hk1
  clear hk1
  go_wp2_with fail
  go_loop [5, 23] (fun v i => ∃ k : Nat, k ≤ n ∧ i = .int .i64 k ∧ v = .int .u64 (leV (xs.take k) : Nat)) (fun _ i => n - (intOf i).toNat)
  case atStart => exact ⟨0, by omega, rfl, rfl⟩
  case round =>
    obtain ⟨k, hk, rfl, rfl⟩ := hrel
    by_cases hlt : k < n
    · obtain ⟨b, o, rfl, _, hc⟩ := hb1.mem (k := k) (by omega)
      have hck := hc k (by omega)
      have hv : leV (xs.take k) < 256 ^ k := by
        have h2 := leV_lt (xs.take k)
        rwa [List.length_take, Nat.min_eq_left (by omega)] at h2
      have Hn := Lib.hid (leV_next xs (k := k) (by omega))
      clear hc
      have HE := Lib.hid (or_next (y := leV (xs.take k)) (b := xs[k]) hv (k := k) (by omega))
      clear hv
      go_wp2_with fail
      exact ⟨⟨k + 1, by omega, by go_num, by rw [HE.out, ← Hn.out]⟩, by simp [intOf]; omega⟩
    · obtain rfl : k = n := by omega
      go_wp2_with fail
      go_ret
      exact ⟨ret_eq (int_eq (by rw [List.take_of_length_le (by omega)])), HK.out, hg1⟩
end Go.Proofs.Ytfeicdflkpgbnaa
