/-
  WEAK CONTRACTS, for a file that is parsed (what is answered, whatever it is): sounds, predictors, tags, numbers, infos, tails.
-/
import Derived.Test.YtfeicdflkpgbnaaV5
import Derived.Test.YtfeicdflkpgbnaaV6
import Derived.Laws.MakeOwn
import Derived.Deep.RegionHeld3
import Derived.BigQuiet
import Derived.Test.YtfeicdflkpgbnaaT6
namespace Go.Proofs.Ytfeicdflkpgbnaa
open Go.RowKit

/-- Some bool; what was there is as it was. -/
def SomeB (w : World) (e : Ending) (w' : World) : Prop := (∃ b, e = .returned (.bool b)) ∧ Below w.heap.size w w'
/-- Some bool, the world as it was. -/
def QuietB (w : World) (e : Ending) (w' : World) : Prop := (∃ b, e = .returned (.bool b)) ∧ w = w'
def QuietI (w : World) (e : Ending) (w' : World) : Prop := (∃ n : Int, e = .returned (.int .i64 n)) ∧ w = w'
/-- Some whole number. -/
def SomeI (w : World) (e : Ending) (w' : World) : Prop := (∃ n : Int, e = .returned (.int .i64 n)) ∧ Below w.heap.size w w'

set_option maxHeartbeats 1000000 in
set_option maxRecDepth 20000 in
theorem right70 (a b c : Int) (w : World) : Calls Try.prog 70 #[.agg #[.int .i64 a, .int .i64 b, .int .i64 c]] w (SomeB w) := by
  go_enter Try.func70, Try.ntmps70
  go_wp2_with fail
  all_goals
    go_ret
    exact ⟨⟨_, rfl⟩, (Below.refl _ w).alloc (Nat.le_refl _) _⟩

set_option maxHeartbeats 1000000 in
set_option maxRecDepth 20000 in
theorem power74 (n : Int) (w : World) : Calls Try.prog 74 #[.int .i64 n] w (QuietI w) := by
  go_enter Try.func74, Try.ntmps74
  go_wp2_with fail
  go_loop [3, 4] (fun p i => ∃ (k : Nat) (z : Int), k ≤ 62 ∧ i = .int .i64 k ∧ p = .int .i64 z) (fun _ i => 62 - (intOf i).toNat)
  case atStart => exact ⟨0, 1, by omega, rfl, rfl⟩
  case round =>
    obtain ⟨k, z, hk, rfl, rfl⟩ := hrel
    by_cases h1 : (k : Int) < n
    · by_cases h2 : k < 62
      · have h2' : (k : Int) < 62 := by omega
        go_wp2_with fail
        go_round
        case rel => exact ⟨k + 1, _, by omega, by go_num, rfl⟩
        case measure => simp [intOf]; omega
      · have h2' : ¬ (k : Int) < 62 := by omega
        go_wp2_with fail
        go_ret
        exact ⟨⟨_, rfl⟩, rfl⟩
    · go_wp2_with fail
      go_ret
      exact ⟨⟨_, rfl⟩, rfl⟩

set_option maxHeartbeats 1000000 in
set_option maxRecDepth 20000 in
theorem right59 (q n : Int) (w : World) : Calls Try.prog 59 #[.int .i64 q, .int .i64 n] w (QuietB w) := by
  go_enter Try.func59, Try.ntmps59
  by_cases h : (1 ≤ n ∧ n ≤ 32) ∧ 1 ≤ q
  · obtain ⟨⟨h1, h2⟩, h3⟩ := h
    go_wp2_with fail
    refine (power74 _ _).mono ?_
    rintro e w' ⟨⟨z, rfl⟩, rfl⟩
    go_wp2_with fail
    go_ret
    exact ⟨⟨_, rfl⟩, rfl⟩
  · by_cases h1 : 1 ≤ n
    · by_cases h2 : n ≤ 32
      · have h3 : ¬ 1 ≤ q := fun h3 => h ⟨⟨h1, h2⟩, h3⟩
        clear h
        go_wp2_with fail
        go_ret
        exact ⟨⟨_, rfl⟩, rfl⟩
      · clear h
        go_wp2_with fail
        go_ret
        exact ⟨⟨_, rfl⟩, rfl⟩
    · clear h
      go_wp2_with fail
      go_ret
      exact ⟨⟨_, rfl⟩, rfl⟩

/-- Is there anything against a block behind others? -/
def NextP (w : World) (ki kh ih : Int) (index : Int) (e : Ending) (w' : World) : Prop :=
  Below w.heap.size w w' ∧ ∃ x : Int, e = .returned (.int .i64 x) ∧ (x = 0 → kh = ki ∧ ih = index)

set_option maxHeartbeats 2000000 in
set_option maxRecDepth 20000 in
theorem next39 (ki a b c bl s : Int) (k i l st bb : Int) (t : Bool) (nn z : Int) (index : Int) (short : Bool) (w : World) :
    Calls Try.prog 39 #[.agg #[.int .i64 ki, .int .i64 a, .int .i64 b, .int .i64 c, .int .i64 bl, .int .i64 s], .agg #[.int .i64 k, .int .i64 i, .int .i64 l, .int .i64 st, .int .i64 bb, .bool t, .int .u32 nn, .int .i64 z], .int .i64 index, .bool short] w (NextP w ki k i index) := by
  by_cases h1 : k = ki
  · have d1 : (k != ki) = false := by rw [bne_eq_false_iff_eq]; exact h1
    have H1 := Lib.hid h1
    clear h1
    by_cases h2 : i = index
    · have d2 : (i != index) = false := by rw [bne_eq_false_iff_eq]; exact h2
      have H2 := Lib.hid h2
      clear h2
      cases short with
      | true =>
        go_enter Try.func39, Try.ntmps39
        go_wp2_with fail
        go_ret
        exact ⟨((Below.refl _ w).alloc (Nat.le_refl _) _).alloc (by simp) _, _, rfl, fun h => absurd h (by decide)⟩
      | false =>
        by_cases h3 : bl < l
        · go_enter Try.func39, Try.ntmps39
          go_wp2_with fail
          go_ret
          exact ⟨((Below.refl _ w).alloc (Nat.le_refl _) _).alloc (by simp) _, _, rfl, fun h => absurd h (by decide)⟩
        · go_enter Try.func39, Try.ntmps39
          go_wp2_with fail
          refine (right59 _ _ _).mono ?_
          rintro e w' ⟨⟨q, rfl⟩, rfl⟩
          cases q with
          | true =>
            go_wp2_with fail
            go_ret
            exact ⟨((Below.refl _ w).alloc (Nat.le_refl _) _).alloc (by simp) _, _, rfl, fun _ => ⟨H1.out, H2.out⟩⟩
          | false =>
            go_wp2_with fail
            go_ret
            exact ⟨((Below.refl _ w).alloc (Nat.le_refl _) _).alloc (by simp) _, _, rfl, fun h => absurd h (by decide)⟩
    · have d2 : (i != index) = true := by rw [bne_iff_ne]; exact h2
      clear h2
      go_enter Try.func39, Try.ntmps39
      go_wp2_with fail
      go_ret
      exact ⟨((Below.refl _ w).alloc (Nat.le_refl _) _).alloc (by simp) _, _, rfl, fun h => absurd h (by decide)⟩
  · have d1 : (k != ki) = true := by rw [bne_iff_ne]; exact h1
    clear h1
    go_enter Try.func39, Try.ntmps39
    go_wp2_with fail
    go_ret
    exact ⟨((Below.refl _ w).alloc (Nat.le_refl _) _).alloc (by simp) _, _, rfl, fun h => absurd h (by decide)⟩

/-- May a byte stand in a key? -/
def keyC (c : UInt8) : Bool := !(decide ((c.toNat : Int) < 32) || decide (125 < (c.toNat : Int)) || decide ((c.toNat : Int) = 61))
/-- Is a text a key? -/
def keyB (s : ByteArray) : Bool := s.data.toList.all keyC && decide (1 ≤ s.size) && decide (s.size ≤ 32)
theorem keyB_no {s : ByteArray} {k : Nat} (hk : k < s.size) (h : keyC s[k] = false) : keyB s = false := by
  unfold keyB
  have : s.data.toList.all keyC = false := by
    rw [List.all_eq_false]
    exact ⟨s[k], by rw [Array.mem_toList_iff]; exact Array.getElem_mem _, by rw [h]; decide⟩
  rw [this]
  rfl
theorem keyB_all {s : ByteArray} (h : ∀ k (hk : k < s.size), keyC s[k] = true) : keyB s = (decide (1 ≤ s.size) && decide (s.size ≤ 32)) := by
  unfold keyB
  have : s.data.toList.all keyC = true := by
    rw [List.all_eq_true]
    intro c hc
    obtain ⟨k, hk, rfl⟩ := List.mem_iff_getElem.1 hc
    exact h k (by simpa using hk)
  rw [this, Bool.true_and]

set_option maxHeartbeats 2000000 in
set_option maxRecDepth 20000 in
theorem key71 (s : ByteArray) (w : World) (hs : s.size ≤ 65536) : Calls Try.prog 71 #[.string s] w fun e w' => e = .returned (.bool (keyB s)) ∧ w = w' := by
  go_enter Try.func71, Try.ntmps71
  go_wp2_with fail
  go_loop [3] (fun i => ∃ k : Nat, k ≤ s.size ∧ i = .int .i64 k ∧ ∀ j (hj : j < s.size), j < k → keyC s[j] = true) (fun i => s.size - (intOf i).toNat)
  case atStart => exact ⟨0, Nat.zero_le _, rfl, fun j _ h => absurd h (Nat.not_lt_zero _)⟩
  case round =>
    obtain ⟨k, hk, rfl, hall⟩ := hrel
    have HA := Lib.hid hall
    clear hall
    by_cases hlt : k < s.size
    · have hlt' : (k : Int) < (s.size : Int) := by omega
      have HNO := Lib.hid (fun h => keyB_no hlt h)
      have HE := Lib.hid (show keyC s[k] = !(decide ((s[k].toNat : Int) < 32) || decide (125 < (s[k].toNat : Int)) || decide ((s[k].toNat : Int) = 61)) from rfl)
      have HS := Lib.hid (rfl : s[k].toNat = s[k].toNat)
      have hb := s[k].toNat_lt
      generalize hx : s[k].toNat = x at *
      have HX := Lib.hid hx
      clear HS
      by_cases h1 : (x : Int) < 32
      · have d1 : decide ((x : Int) < 32) = true := decide_eq_true h1
        go_wp2_with fail
        go_ret
        exact ⟨by rw [HNO.out (by rw [HE.out]; simp [h1])]; rfl, rfl⟩
      · have d1 : decide ((x : Int) < 32) = false := decide_eq_false h1
        by_cases h2 : 125 < (x : Int)
        · have d2 : decide (125 < (x : Int)) = true := decide_eq_true h2
          go_wp2_with fail
          go_ret
          exact ⟨by rw [HNO.out (by rw [HE.out]; simp [h2])]; rfl, rfl⟩
        · have d2 : decide (125 < (x : Int)) = false := decide_eq_false h2
          by_cases h3 : (x : Int) = 61
          · have d3 : ((x : Int) == 61) = true := by rw [beq_iff_eq]; exact h3
            have H3 := Lib.hid h3
            clear h3
            go_wp2_with fail
            go_ret
            exact ⟨by rw [HNO.out (by rw [HE.out]; simp [H3.out])]; rfl, rfl⟩
          · have d3 : ((x : Int) == 61) = false := by rw [beq_eq_false_iff_ne]; exact h3
            have HOK := Lib.hid (show keyC s[k] = true by rw [HE.out, d1, d2, decide_eq_false h3]; rfl)
            clear h3
            go_wp2_with fail
            go_round
            case rel => exact ⟨k + 1, by omega, by go_num, fun j hj hjk => by
              rcases Nat.lt_or_ge j k with h | h
              · exact HA.out j hj h
              · obtain rfl : j = k := by omega
                exact HOK.out⟩
            case measure => simp [intOf]; omega
    · obtain rfl : k = s.size := by omega
      have HK := Lib.hid (keyB_all fun j hj => HA.out j hj hj)
      by_cases h1 : 1 ≤ s.size
      · have h1' : (1 : Int) ≤ (s.size : Int) := by omega
        by_cases h2 : s.size ≤ 32
        · have h2' : (s.size : Int) ≤ 32 := by omega
          go_wp2_with fail
          go_ret
          exact ⟨by rw [HK.out, decide_eq_true h1, decide_eq_true h2]; rfl, rfl⟩
        · have h2' : ¬ (s.size : Int) ≤ 32 := by omega
          go_wp2_with fail
          go_ret
          exact ⟨by rw [HK.out, decide_eq_false h2, Bool.and_false]; rfl, rfl⟩
      · have h1' : ¬ (1 : Int) ≤ (s.size : Int) := by omega
        go_wp2_with fail
        go_ret
        exact ⟨by rw [HK.out, decide_eq_false h1, Bool.false_and]; rfl, rfl⟩

theorem key71q {s : ByteArray} {b : Bool} (w : World) (hs : s.size ≤ 65536) (h : keyB s = b) : Calls Try.prog 71 #[.string s] w fun e w' => e = .returned (.bool b) ∧ w' = w :=
  (key71 s w hs).mono fun e w' he => ⟨by rw [he.1, h], he.2.symm⟩

/-- A letter's length and number. -/
def LetP (w : World) (e : Ending) (w' : World) : Prop := ∃ n x : Int, e = .returned (.tuple #[.int .i64 n, .int .i64 x]) ∧ 0 ≤ n ∧ n ≤ 4 ∧ w = w'

set_option maxHeartbeats 4000000 in
set_option maxRecDepth 20000 in
theorem letter79_2 (s : ByteArray) (i c : Nat) (w : World) (hs : s.size ≤ 65536) (hi : i < s.size) (hc : s[i].toNat = c) (h1 : 194 ≤ c) (h2 : c < 224) : Calls Try.prog 79 #[.string s, .int .i64 i] w (LetP w) := by
  have hi' : (i : Int) < (s.size : Int) := by omega
  have h1' : (194 : Int) ≤ (c : Int) := by omega
  have h2' : (c : Int) < 224 := by omega
  go_enter Try.func79, Try.ntmps79
  go_wp2_with fail
  go_loop [8, 10] (fun x k => ∃ (j : Nat) (z : Int), 1 ≤ j ∧ j ≤ 2 ∧ k = .int .i64 j ∧ x = .int .i64 z ∧ 0 ≤ z ∧ z ≤ 8388607 ∧ (j ≤ 3 → z ≤ 131071) ∧ (j ≤ 2 → z ≤ 2047) ∧ (j ≤ 1 → z ≤ 31)) (fun _ k => 2 - (intOf k).toNat)
  case atStart => exact ⟨1, (c : Int) - 192, Nat.le_refl _, by omega, rfl, rfl, by omega, by omega, fun _ => by omega, fun _ => by omega, fun _ => by omega⟩
  case round =>
    obtain ⟨j, z, hj1, hj, rfl, rfl, hz0, hz4, hz3, hz2, hz1⟩ := hrel
    have HZ := Lib.hid (And.intro hz3 (And.intro hz2 hz1))
    clear hz3 hz2 hz1
    by_cases hjn : j < 2
    · have hjn' : (j : Int) < 2 := by omega
      have hz3 := HZ.out.1 (by omega)
      by_cases hin : i + j < s.size
      · have hin' : (i : Int) + (j : Int) < (s.size : Int) := by omega
        have hidx : ((i : Int) + (j : Int)).toNat = i + j := by omega
        go_wp2_with fail
        all_goals first
          | (go_ret2; exact ⟨_, _, rfl, by omega, by omega, rfl⟩)
          | (go_round
             case rel => exact ⟨j + 1, _, by omega, by omega, by go_num, rfl, by omega, by omega, fun h => by have := HZ.out.2.1 (by omega); omega, fun h => by have := HZ.out.2.2 (by omega); omega, fun h => by omega⟩
             case measure => simp [intOf]; omega)
      · have hin' : (s.size : Int) ≤ (i : Int) + (j : Int) := by omega
        go_wp2_with fail
        go_ret2
        exact ⟨_, _, rfl, by omega, by omega, rfl⟩
    · obtain rfl : j = 2 := by omega
      go_wp2_with fail
      all_goals
        go_ret2
        exact ⟨_, _, rfl, by omega, by omega, rfl⟩

set_option maxHeartbeats 4000000 in
set_option maxRecDepth 20000 in
theorem letter79_3 (s : ByteArray) (i c : Nat) (w : World) (hs : s.size ≤ 65536) (hi : i < s.size) (hc : s[i].toNat = c) (h1 : 224 ≤ c) (h2 : c < 240) : Calls Try.prog 79 #[.string s, .int .i64 i] w (LetP w) := by
  have hi' : (i : Int) < (s.size : Int) := by omega
  have h1' : (224 : Int) ≤ (c : Int) := by omega
  have h2' : (c : Int) < 240 := by omega
  go_enter Try.func79, Try.ntmps79
  go_wp2_with fail
  go_loop [8, 10] (fun x k => ∃ (j : Nat) (z : Int), 1 ≤ j ∧ j ≤ 3 ∧ k = .int .i64 j ∧ x = .int .i64 z ∧ 0 ≤ z ∧ z ≤ 8388607 ∧ (j ≤ 3 → z ≤ 131071) ∧ (j ≤ 2 → z ≤ 2047) ∧ (j ≤ 1 → z ≤ 31)) (fun _ k => 3 - (intOf k).toNat)
  case atStart => exact ⟨1, (c : Int) - 224, Nat.le_refl _, by omega, rfl, rfl, by omega, by omega, fun _ => by omega, fun _ => by omega, fun _ => by omega⟩
  case round =>
    obtain ⟨j, z, hj1, hj, rfl, rfl, hz0, hz4, hz3, hz2, hz1⟩ := hrel
    have HZ := Lib.hid (And.intro hz3 (And.intro hz2 hz1))
    clear hz3 hz2 hz1
    by_cases hjn : j < 3
    · have hjn' : (j : Int) < 3 := by omega
      have hz3 := HZ.out.1 (by omega)
      by_cases hin : i + j < s.size
      · have hin' : (i : Int) + (j : Int) < (s.size : Int) := by omega
        have hidx : ((i : Int) + (j : Int)).toNat = i + j := by omega
        go_wp2_with fail
        all_goals first
          | (go_ret2; exact ⟨_, _, rfl, by omega, by omega, rfl⟩)
          | (go_round
             case rel => exact ⟨j + 1, _, by omega, by omega, by go_num, rfl, by omega, by omega, fun h => by have := HZ.out.2.1 (by omega); omega, fun h => by have := HZ.out.2.2 (by omega); omega, fun h => by omega⟩
             case measure => simp [intOf]; omega)
      · have hin' : (s.size : Int) ≤ (i : Int) + (j : Int) := by omega
        go_wp2_with fail
        go_ret2
        exact ⟨_, _, rfl, by omega, by omega, rfl⟩
    · obtain rfl : j = 3 := by omega
      go_wp2_with fail
      all_goals
        go_ret2
        exact ⟨_, _, rfl, by omega, by omega, rfl⟩

set_option maxHeartbeats 4000000 in
set_option maxRecDepth 20000 in
theorem letter79_4 (s : ByteArray) (i c : Nat) (w : World) (hs : s.size ≤ 65536) (hi : i < s.size) (hc : s[i].toNat = c) (h1 : 240 ≤ c) (h2 : c < 245) : Calls Try.prog 79 #[.string s, .int .i64 i] w (LetP w) := by
  have hi' : (i : Int) < (s.size : Int) := by omega
  have h1' : (240 : Int) ≤ (c : Int) := by omega
  have h2' : (c : Int) < 245 := by omega
  go_enter Try.func79, Try.ntmps79
  go_wp2_with fail
  go_loop [8, 10] (fun x k => ∃ (j : Nat) (z : Int), 1 ≤ j ∧ j ≤ 4 ∧ k = .int .i64 j ∧ x = .int .i64 z ∧ 0 ≤ z ∧ z ≤ 8388607 ∧ (j ≤ 3 → z ≤ 131071) ∧ (j ≤ 2 → z ≤ 2047) ∧ (j ≤ 1 → z ≤ 31)) (fun _ k => 4 - (intOf k).toNat)
  case atStart => exact ⟨1, (c : Int) - 240, Nat.le_refl _, by omega, rfl, rfl, by omega, by omega, fun _ => by omega, fun _ => by omega, fun _ => by omega⟩
  case round =>
    obtain ⟨j, z, hj1, hj, rfl, rfl, hz0, hz4, hz3, hz2, hz1⟩ := hrel
    have HZ := Lib.hid (And.intro hz3 (And.intro hz2 hz1))
    clear hz3 hz2 hz1
    by_cases hjn : j < 4
    · have hjn' : (j : Int) < 4 := by omega
      have hz3 := HZ.out.1 (by omega)
      by_cases hin : i + j < s.size
      · have hin' : (i : Int) + (j : Int) < (s.size : Int) := by omega
        have hidx : ((i : Int) + (j : Int)).toNat = i + j := by omega
        go_wp2_with fail
        all_goals first
          | (go_ret2; exact ⟨_, _, rfl, by omega, by omega, rfl⟩)
          | (go_round
             case rel => exact ⟨j + 1, _, by omega, by omega, by go_num, rfl, by omega, by omega, fun h => by have := HZ.out.2.1 (by omega); omega, fun h => by have := HZ.out.2.2 (by omega); omega, fun h => by omega⟩
             case measure => simp [intOf]; omega)
      · have hin' : (s.size : Int) ≤ (i : Int) + (j : Int) := by omega
        go_wp2_with fail
        go_ret2
        exact ⟨_, _, rfl, by omega, by omega, rfl⟩
    · obtain rfl : j = 4 := by omega
      go_wp2_with fail
      all_goals
        go_ret2
        exact ⟨_, _, rfl, by omega, by omega, rfl⟩

set_option maxHeartbeats 2000000 in
set_option maxRecDepth 20000 in
theorem letter79 (s : ByteArray) (i : Nat) (w : World) (hs : s.size ≤ 65536) (hi : i < s.size) : Calls Try.prog 79 #[.string s, .int .i64 i] w (LetP w) := by
  have hlt := s[i].toNat_lt
  have HC := Lib.hid (rfl : s[i].toNat = s[i].toNat)
  generalize hc : s[i].toNat = c at *
  clear HC
  rcases (show c < 128 ∨ (128 ≤ c ∧ c < 194) ∨ (194 ≤ c ∧ c < 224) ∨ (224 ≤ c ∧ c < 240) ∨ (240 ≤ c ∧ c < 245) ∨ (245 ≤ c ∧ c < 256) by omega) with h | h | h | h | h | h
  · have hi' : (i : Int) < (s.size : Int) := by omega
    have h1 : (c : Int) < 128 := by omega
    go_enter Try.func79, Try.ntmps79
    go_wp2_with fail
    go_ret2
    exact ⟨_, _, rfl, by omega, by omega, rfl⟩
  · have hi' : (i : Int) < (s.size : Int) := by omega
    have h1 : (128 : Int) ≤ (c : Int) := by omega
    have h2 : (c : Int) < 194 := by omega
    go_enter Try.func79, Try.ntmps79
    go_wp2_with fail
    go_ret2
    exact ⟨_, _, rfl, by omega, by omega, rfl⟩
  · exact letter79_2 s i c w hs hi hc h.1 h.2
  · exact letter79_3 s i c w hs hi hc h.1 h.2
  · exact letter79_4 s i c w hs hi hc h.1 h.2
  · have hi' : (i : Int) < (s.size : Int) := by omega
    have h1 : (245 : Int) ≤ (c : Int) := by omega
    have h2 : (c : Int) < 256 := by omega
    go_enter Try.func79, Try.ntmps79
    go_wp2_with fail
    go_ret2
    exact ⟨_, _, rfl, by omega, by omega, rfl⟩

set_option maxHeartbeats 1000000 in
set_option maxRecDepth 20000 in
theorem value73 (s : ByteArray) (w : World) (hs : s.size ≤ 65536) : Calls Try.prog 73 #[.string s] w (QuietB w) := by
  go_enter Try.func73, Try.ntmps73
  by_cases hbig : 1024 < s.size
  · have hb : (1024 : Int) < (s.size : Int) := by omega
    go_wp2_with fail
    go_ret
    exact ⟨⟨_, rfl⟩, rfl⟩
  · have hb : ¬ (1024 : Int) < (s.size : Int) := by omega
    go_wp2_with fail
    go_loop [3, 4, 5, 6] (fun i k _ _ => ∃ a b : Nat, i = .int .i64 a ∧ k = .int .i64 b ∧ b ≤ s.size ∧ a ≤ s.size + 4) (fun _ k _ _ => s.size - (intOf k).toNat)
    case atStart => exact ⟨0, 0, rfl, rfl, Nat.zero_le _, Nat.zero_le _⟩
    case round =>
      obtain ⟨a, b, rfl, rfl, hbs, ha⟩ := hrel
      by_cases h1 : b < s.size
      · by_cases h2 : a < s.size
        · have h1' : (b : Int) < (s.size : Int) := by omega
          have h2' : (a : Int) < (s.size : Int) := by omega
          go_wp2_with fail
          refine (letter79 s a _ hs h2).mono ?_
          rintro e w' ⟨n, x, rfl, hn0, hn4, rfl⟩
          by_cases hn : n = 0
          · have hd : (n == 0) = true := by rw [beq_iff_eq]; exact hn
            have HN := Lib.hid hn
            clear hn
            go_wp2_with fail
            all_goals
              go_ret
              exact ⟨⟨_, rfl⟩, rfl⟩
          · have hd : (n == 0) = false := by rw [beq_eq_false_iff_ne]; exact hn
            have HN := Lib.hid hn
            clear hn
            obtain ⟨m, rfl⟩ := Int.eq_ofNat_of_zero_le hn0
            by_cases hx : x < 32
            · go_wp2_with fail
              go_ret
              exact ⟨⟨_, rfl⟩, rfl⟩
            · go_wp2_with fail
              go_round
              case rel => exact ⟨a + m, b + 1, by go_num, by go_num, by omega, by omega⟩
              case measure => simp [intOf]; omega
        · have h2' : ¬ (a : Int) < (s.size : Int) := by omega
          go_wp2_with fail
          go_ret
          exact ⟨⟨_, rfl⟩, rfl⟩
      · have h1' : ¬ (b : Int) < (s.size : Int) := by omega
        go_wp2_with fail
        go_ret
        exact ⟨⟨_, rfl⟩, rfl⟩

/-- Bytes as an array of cells. -/
def arrB (p : List UInt8) : Array Value := (p.map B8).toArray
theorem arrB_get {p : List UInt8} {k : Nat} (hk : k < p.length) : (arrB p)[k]? = some (.int .u8 ((p[k].toNat : Nat) : Int)) := by
  unfold arrB
  rw [List.getElem?_toArray, List.getElem?_map, List.getElem?_eq_getElem hk]
  rfl
theorem arrB_set (p : List UInt8) (k : Nat) (b : UInt8) : (arrB p).setIfInBounds k (.int .u8 ((b.toNat : Nat) : Int)) = arrB (p.set k b) := by
  unfold arrB
  rw [List.setIfInBounds_toArray, List.map_set]
  rfl
theorem arrB_made (m : Nat) : madeCells #[Value.int .u8 0] m = arrB (List.replicate m 0) := by
  apply Array.ext_getElem?
  intro j
  have h0 : (madeCells #[Value.int .u8 0] m)[j]? = (List.replicate m (Value.int .u8 0))[j]? := by rw [← toList_madeCells_one, Array.getElem?_toList]
  rw [h0]
  unfold arrB
  rw [List.getElem?_toArray, List.getElem?_map]
  rcases Nat.lt_or_ge j m with h | h
  · rw [List.getElem?_replicate, List.getElem?_replicate, if_pos h, if_pos h]; rfl
  · rw [List.getElem?_replicate, List.getElem?_replicate, if_neg (by omega), if_neg (by omega)]; rfl
theorem Bk.bytes {w : World} {g : Nat} {p : List UInt8} (h : Bk w g 5 (arrB p)) : Bs w w.heap.size (some ⟨g, 0, none⟩) p := fun _ =>
  ⟨g, 0, rfl, h.lt, fun j u hu => by
    rw [Nat.zero_add, h.cell]
    unfold arrB
    rw [List.getElem?_toArray]
    exact hu⟩
theorem Try.info5 : (Try.prog.info? 5).map (fun i => (i.zero, i.size, i.bytes)) = some (some (.int .u8 0), 1, 1) := by kernel_rfl
theorem make22 (m : Nat) (hm : m ≤ 65536) (W : World) : (Instr.makeSlice 22 (.int .i64 (m : Int)) (.int .i64 (m : Int))).run Try.prog W = .ok (.slice (some ⟨W.heap.size, 0, none⟩) m m) (W.alloc (.cells (arrB (List.replicate m 0)) 5)) := by
  obtain ⟨i, hi, hz, hs, hb⟩ := info_parts Try.info5
  have hr := run_make (P := Try.prog) W 22 5 i (.int .u8 0) Try.underlying22 hi hz .i64 .i64 (m : Int) (m : Int) (by omega) (Int.le_refl _) (by rw [hb]; omega) (by omega)
  simp only [Int.toNat_natCast] at hr
  rw [hr, hs, Nat.mul_one]
  have : Value.cells (.int .u8 0) = #[Value.int .u8 0] := rfl
  rw [this, arrB_made]

/-- Some string. -/
def SomeS (w : World) (n : Nat) (e : Ending) (w' : World) : Prop := ∃ S : ByteArray, e = .returned (.string S) ∧ S.size ≤ n ∧ Below w.heap.size w w'
theorem up_byte (b : UInt8) (h : b.toNat ≤ 90) : ((b.toNat : Nat) : Int) + 32 = (((UInt8.ofNat (b.toNat + 32)).toNat : Nat) : Int) := by
  rw [UInt8.toNat_ofNat_of_lt' (by show b.toNat + 32 < UInt8.size; have : UInt8.size = 256 := rfl; omega)]
  omega

set_option maxHeartbeats 1000000 in
set_option maxRecDepth 20000 in
theorem fold78 (s : ByteArray) (w : World) (hs : s.size ≤ 65536) : Calls Try.prog 78 #[.string s] w (SomeS w s.size) := by
  have hmk := make22 s.size hs
  go_enter Try.func78, Try.ntmps78
  go_wp2_with fail
  have K0 := Lib.hid (Bk.new w 5 (arrB (List.replicate s.size 0)))
  have B0 := Lib.hid ((Below.refl _ w).alloc (Nat.le_refl _) (.cells (arrB (List.replicate s.size 0)) 5))
  clear hmk
  generalize w.alloc (.cells (arrB (List.replicate s.size 0)) 5) = w0 at *
  go_loopw [4] (fun i wr => ∃ (k : Nat) (p : List UInt8), k ≤ s.size ∧ i = .int .i64 k ∧ p.length = s.size ∧ Bk wr w.heap.size 5 (arrB p) ∧ Below w.heap.size w wr) (fun i _ => s.size - (intOf i).toNat)
  case atStart => exact ⟨0, _, Nat.zero_le _, rfl, by simp, K0.out, B0.out⟩
  case round =>
    obtain ⟨k, p, hk, rfl, hp, hbk, hbel⟩ := hrel
    have HK := Lib.hid hbk
    have HB := Lib.hid hbel
    have HP := Lib.hid hp
    have hsz := hbk.lt
    clear hbk hbel hp K0 B0
    by_cases hlt : k < s.size
    · have hlt' : (k : Int) < (s.size : Int) := by omega
      have hcell := (HK.out.cell k).trans (arrB_get (show k < p.length by rw [HP.out]; exact hlt))
      have hfz := HK.out.frozen k
      have HU := Lib.hid (up_byte s[k])
      have hb0 : (0 : Int) ≤ ((s[k].toNat : Nat) : Int) := Int.natCast_nonneg _
      have hb1 : ((s[k].toNat : Nat) : Int) < 256 := by have := s[k].toNat_lt; omega
      by_cases h1 : 65 ≤ ((s[k].toNat : Nat) : Int) ∧ ((s[k].toNat : Nat) : Int) ≤ 90
      · obtain ⟨h1, h2⟩ := h1
        go_wp2_with fail
        go_roundw
        case rel => exact ⟨k + 1, (p.set k s[k]).set k (UInt8.ofNat (s[k].toNat + 32)), by omega, by go_num, by simpa using HP.out, by rw [← arrB_set, ← arrB_set, ← HU.out (by omega)]; exact (HK.out.set_ k _).set_ k _, (HB.out.setCell (p := ⟨w.heap.size, k, none⟩) (Nat.le_refl _) _).setCell (p := ⟨w.heap.size, k, none⟩) (Nat.le_refl _) _⟩
        case measure => simp [intOf]; omega
      · by_cases h2 : 65 ≤ ((s[k].toNat : Nat) : Int)
        · have h3 : ¬ ((s[k].toNat : Nat) : Int) ≤ 90 := fun h => h1 ⟨h2, h⟩
          clear h1
          go_wp2_with fail
          go_roundw
          case rel => exact ⟨k + 1, p.set k s[k], by omega, by go_num, by simpa using HP.out, by rw [← arrB_set]; exact HK.out.set_ k _, HB.out.setCell (p := ⟨w.heap.size, k, none⟩) (Nat.le_refl _) _⟩
          case measure => simp [intOf]; omega
        · clear h1
          go_wp2_with fail
          go_roundw
          case rel => exact ⟨k + 1, p.set k s[k], by omega, by go_num, by simpa using HP.out, by rw [← arrB_set]; exact HK.out.set_ k _, HB.out.setCell (p := ⟨w.heap.size, k, none⟩) (Nat.le_refl _) _⟩
          case measure => simp [intOf]; omega
    · obtain rfl : k = s.size := by omega
      obtain ⟨S, hS⟩ := bytes_conv HK.out.bytes s.size
      rw [HP.out] at hS
      have hS1 := (hS 0).1
      have HSZ := Lib.hid (hS 0).2
      rw [show wr.drewN 0 = wr from rfl] at hS1
      clear hS
      go_wp2_with fail
      go_ret
      exact ⟨S, rfl, by rw [HSZ.out]; show p.toArray.size ≤ _; simp [HP.out], HB.out⟩

/-- Tags as cells. -/
def tagCells : List (ByteArray × ByteArray) → List Value
  | [] => []
  | t :: l => .string t.1 :: .string t.2 :: tagCells l
theorem tagCells_len : ∀ l, (tagCells l).length = l.length * 2
  | [] => rfl
  | t :: l => by simp only [tagCells, List.length_cons, tagCells_len l]; omega
theorem tagCells_app : ∀ l m, tagCells (l ++ m) = tagCells l ++ tagCells m
  | [], _ => rfl
  | t :: l, m => by simp only [List.cons_append, tagCells, tagCells_app l m]
theorem tagCells_get : ∀ (l : List (ByteArray × ByteArray)) (i : Nat) (h : i < l.length), (tagCells l)[i * 2]? = some (.string l[i].1) ∧ (tagCells l)[i * 2 + 1]? = some (.string l[i].2)
  | t :: l, 0, _ => ⟨rfl, rfl⟩
  | t :: l, i + 1, h => by
    have := tagCells_get l i (by simpa using h)
    rw [show (i + 1) * 2 = i * 2 + 1 + 1 by omega]
    exact this
/-- Short tags. -/
def ShortT (l : List (ByteArray × ByteArray)) : Prop := ∀ t ∈ l, t.1.size ≤ 65536 ∧ t.2.size ≤ 65536
theorem tags_at {w wr : World} {B : Nat} {A : Option Addr} {l : List (ByteArray × ByteArray)} (h : Rd w B A (tagCells l)) (hb : Below B w wr) {i : Nat} (hi : i < l.length) :
    ∃ b o, A = some ⟨b, o, none⟩ ∧ b < B ∧ wr.cell? ⟨b, o + i * 2, none⟩ = some (.string l[i].1) ∧ wr.cell? ⟨b, o + i * 2 + 1, none⟩ = some (.string l[i].2) := by
  obtain ⟨b, o, e, hlt, hc⟩ := h.mem (k := i * 2) (by rw [tagCells_len]; omega)
  have hg := tagCells_get l i hi
  exact ⟨b, o, e, hlt, (hb.cell (p := ⟨b, o + i * 2, none⟩) hlt).trans (hc _ _ hg.1), (hb.cell (p := ⟨b, o + i * 2 + 1, none⟩) hlt).trans (by have := hc _ _ hg.2; rwa [← Nat.add_assoc] at this)⟩

set_option maxHeartbeats 1000000 in
set_option maxRecDepth 20000 in
theorem at72 (n c B : Nat) (A : Option Addr) (l : List (ByteArray × ByteArray)) (s : ByteArray) (w : World) (h : Rd w B A (tagCells l)) (hB : B ≤ w.heap.size) (hn : n ≤ l.length) (hc : n ≤ c) (hs : s.size ≤ 65536) (ht : ShortT l) (hm : n ≤ 65536) :
    Calls Try.prog 72 #[.slice A n c, .string s] w (SomeI w) := by
  have HR := Lib.hid h
  have HT := Lib.hid ht
  clear h ht
  go_enter Try.func72, Try.ntmps72
  go_wp2_with fail
  go_loopw [5] (fun i wr => ∃ k : Nat, k ≤ n ∧ i = .int .i64 k ∧ Below w.heap.size w wr) (fun i _ => n - (intOf i).toNat)
  case atStart => exact ⟨0, Nat.zero_le _, rfl, Below.refl _ _⟩
  case round =>
    obtain ⟨k, hk, rfl, hbel⟩ := hrel
    have HB := Lib.hid hbel
    have hsz := hbel.size
    clear hbel
    by_cases hlt : k < n
    · obtain ⟨b, o, rfl, hb, c0, c1⟩ := tags_at HR.out (HB.out.mono hB) (i := k) (by omega)
      have HS := Lib.hid (HT.out l[k] (List.getElem_mem _))
      generalize l[k] = t at *
      have hlt' : (k : Int) < (n : Int) := by omega
      go_wp2_with fail
      refine (fold78 t.1 wr HS.out.1).mono ?_
      rintro e w1 ⟨S1, rfl, _, hb1⟩
      have B1 := Lib.hid (HB.out.trans (hb1.mono hsz))
      clear hb1 c0 c1
      go_wp2_with fail
      refine (fold78 s w1 hs).mono ?_
      rintro e w2 ⟨S2, rfl, _, hb2⟩
      have B2 := Lib.hid (B1.out.trans (hb2.mono B1.out.size))
      clear hb2 B1
      cases hq : (S1.toList == S2.toList) with
      | true =>
        go_wp2_with fail
        go_ret
        exact ⟨⟨_, rfl⟩, B2.out⟩
      | false =>
        go_wp2_with fail
        go_roundw
        case rel => exact ⟨k + 1, by omega, by go_num, B2.out⟩
        case measure => simp [intOf]; omega
    · obtain rfl : k = n := by omega
      go_wp2_with fail
      go_ret
      exact ⟨⟨_, rfl⟩, HB.out⟩

/-- A number and an error, whatever they are. -/
def SomeIE (w : World) (e : Ending) (w' : World) : Prop := ∃ a x : Int, e = .returned (.tuple #[.int .i64 a, .int .i64 x]) ∧ Below w.heap.size w w'

set_option maxHeartbeats 2000000 in
set_option maxRecDepth 20000 in
theorem check58 (n c B : Nat) (A : Option Addr) (l : List (ByteArray × ByteArray)) (w : World) (h : Rd w B A (tagCells l)) (hB : B ≤ w.heap.size) (hn : n = l.length) (hc : n ≤ c) (ht : ShortT l) (hm : n ≤ 65536) :
    Calls Try.prog 58 #[.slice A n c] w (SomeIE w) := by
  have HR := Lib.hid h
  have HT := Lib.hid ht
  have HN := Lib.hid hn
  clear h ht hn
  go_enter Try.func58, Try.ntmps58
  by_cases hbig : 64 < n
  · have hb : (64 : Int) < (n : Int) := by omega
    go_wp2_with fail
    go_ret2
    exact ⟨_, _, rfl, Below.refl _ _⟩
  · have hb : ¬ (64 : Int) < (n : Int) := by omega
    go_wp2_with fail
    go_loopw [4] (fun i wr => ∃ k : Nat, k ≤ n ∧ i = .int .i64 k ∧ Below w.heap.size w wr) (fun i _ => n - (intOf i).toNat)
    case atStart => exact ⟨0, Nat.zero_le _, rfl, Below.refl _ _⟩
    case round =>
      obtain ⟨k, hk, rfl, hbel⟩ := hrel
      have HB := Lib.hid hbel
      have hsz := hbel.size
      clear hbel
      by_cases hlt : k < n
      · obtain ⟨b, o, rfl, hb', c0, c1⟩ := tags_at HR.out (HB.out.mono hB) (i := k) (by rw [← HN.out]; exact hlt)
        have HS := Lib.hid (HT.out (l[k]'(by rw [← HN.out]; exact hlt)) (List.getElem_mem _))
        generalize (l[k]'(by rw [← HN.out]; exact hlt)) = t at *
        have hlt' : (k : Int) < (n : Int) := by omega
        have hk0 : (0 : Int) ≤ (k : Int) := Int.natCast_nonneg _
        have hkc : (k : Int) ≤ (c : Int) := by omega
        have hkl : k ≤ l.length := by rw [← HN.out]; exact hk
        have hbw : b < wr.heap.size := by omega
        have hBw : B ≤ wr.heap.size := by omega
        have BW := Lib.hid (HB.out.mono hB)
        have RW := Lib.hid (HR.out.below BW.out).drew
        have hBd : B ≤ wr.drew.heap.size := hBw
        go_upto_region 6 with (fail)
        cases hk1 : keyB t.1 with
        | false =>
          go_quiet ((go_at_call 71; exact Calls.quiet_of_same (key71q _ HS.out.1 hk1)))
          go_wp2_with fail
          go_ret2
          exact ⟨_, _, rfl, below_drewN HB.out _⟩
        | true =>
          go_region_held3 (fun w' => w'.cell? ⟨b, o + k * 2, none⟩ = some (.string t.1))
            (first | go_keep | assumption | exact (hb1.cell (p := ⟨b, o + k * 2, none⟩) hbw).trans c0)
            (first | (go_at_call 71; refine (key71 _ _ HS.out.1).mono ?_; rintro e w' ⟨rfl, rfl⟩) | (go_at_call 72; refine (at72 k c B _ l t.1 _ RW.out hBd hkl (by omega) HS.out.1 HT.out (by omega)).mono ?_; rintro e w1 ⟨⟨x, rfl⟩, hb1⟩))
          have B1 := Lib.hid (HB.out.drew.trans (hb1.mono hsz))
          have d1 : w1.cell? ⟨b, o + k * 2 + 1, none⟩ = some (.string t.2) := (hb1.cell (p := ⟨b, o + k * 2 + 1, none⟩) hbw).trans c1
          clear hb1 c0 c1 HB
          by_cases hx : 0 ≤ x
          · go_wp2_with fail
            go_ret2
            exact ⟨_, _, rfl, B1.out⟩
          · go_wp2_with fail
            refine (value73 t.2 _ HS.out.2).mono ?_
            rintro e w2 ⟨⟨v, rfl⟩, rfl⟩
            cases v with
            | false =>
              go_wp2_with fail
              go_ret2
              exact ⟨_, _, rfl, B1.out⟩
            | true =>
              go_wp2_with fail
              go_roundw
              case rel => exact ⟨k + 1, by omega, by go_num, B1.out⟩
              case measure => simp [intOf]; omega
      · obtain rfl : k = n := by omega
        go_wp2_with fail
        go_ret2
        exact ⟨_, _, rfl, HB.out⟩

/-- The taker of descantref04, in block gt. -/
def TkR (w : World) (gt : Nat) (A : Option Addr) (n c a : Nat) (x : Int) : Prop := Bk w gt 118 #[.slice A n c, .int .i64 (a : Int), .int .i64 x]
/-- What Next leaves. -/
def NextT (w : World) (gt : Nat) (A : Option Addr) (B n c a : Nat) (x : Int) (m : Nat) (e : Ending) (w' : World) : Prop :=
  ∃ (a' : Nat) (x' : Int) (A' : Option Addr) (k c' : Nat), e = .returned (.slice A' k c') ∧ k ≤ c' ∧ a' ≤ n ∧ TkR w' gt A n c a' x' ∧ w.grownBy w' (some gt) ∧
    (∃ p : List UInt8, p.length = k ∧ Bs w' B A' p) ∧ ((x' = 0 ∧ x = 0 ∧ a' = a + m ∧ k = m) ∨ (x' ≠ 0 ∧ k = 0 ∧ a' = a))

theorem Bk.three {w : World} {g : Nat} {t : TypeId} {a0 a1 a2 : Value} (h : Bk w g t #[a0, a1, a2]) : w.cell? ⟨g, 0, none⟩ = some a0 ∧ w.cell? ⟨g, 1, none⟩ = some a1 ∧ w.cell? ⟨g, 2, none⟩ = some a2 := ⟨h.cell 0, h.cell 1, h.cell 2⟩

set_option maxHeartbeats 4000000 in
set_option maxRecDepth 20000 in
theorem next57 (gt b0 o0 B n c a m : Nat) (x : Int) (bs : List UInt8) (fl : Bool) (w : World) (h : TkR w gt (some ⟨b0, o0, none⟩) n c a x) (hb : Bs w B (some ⟨b0, o0, none⟩) bs) (hBg : B ≤ gt) (hn : n = bs.length) (hc : n ≤ c) (ha : a ≤ n) (hm : n ≤ 65536)
    (hf : fl = true → 1 ≤ m ∧ m ≤ 8) (hm2 : m ≤ 16777216) :
    Calls Try.prog 57 #[.pointer (some ⟨gt, 0, none⟩), .int .i64 m, .bool fl] w (NextT w gt (some ⟨b0, o0, none⟩) B n c a x m) := by
  have HK := Lib.hid h
  have HB := Lib.hid hb
  have HN := Lib.hid hn
  have HF := Lib.hid hf
  obtain ⟨k0, k1, k2⟩ := Bk.three h
  have z2 := h.frozen 2
  have z1 := h.frozen 1
  clear h hb hn hf
  have hm0 : (0 : Int) ≤ (m : Int) := Int.natCast_nonneg _
  by_cases hx : x = 0
  · subst hx
    have hfb : fl = false ∨ (fl = true ∧ 1 ≤ m ∧ m ≤ 8) := by
      cases fl with
      | false => exact .inl rfl
      | true => exact .inr ⟨rfl, HF.out rfl⟩
    by_cases hlt : m ≤ n - a
    · have hgt : ¬ (n : Int) - (a : Int) < (m : Int) := by omega
      have e1 : ((a : Int) + (m : Int)) - (m : Int) = (a : Int) := by omega
      have hu0 : IntKind.i64.wrap ((n : Int) - (a : Int)) = (n : Int) - (a : Int) := IntWalk.i64_in _ ⟨by omega, by omega⟩
      have hu1 : IntKind.i64.wrap ((a : Int) + (m : Int)) = (a : Int) + (m : Int) := IntWalk.i64_in _ ⟨by omega, by omega⟩
      rcases hfb with rfl | ⟨rfl, h1, h8⟩
      · go_enter Try.func57, Try.ntmps57
        go_upto_region 6 with (fail)
        go_quiet (fail)
        go_upto_region 10 with (fail)
        have K9 := Lib.hid (show Bk ((w.drewN nq).setCell ⟨gt, 1, none⟩ (.int .i64 ((a : Int) + (m : Int)))) gt 118 #[.slice (some ⟨b0, o0, none⟩) n c, .int .i64 ((a : Int) + (m : Int)), .int .i64 0] by have := (HK.out.drewN nq).set_ 1 (.int .i64 ((a : Int) + (m : Int))); simpa using this)
        have B9 := Lib.hid (show Bs ((w.drewN nq).setCell ⟨gt, 1, none⟩ (.int .i64 ((a : Int) + (m : Int)))) B (some ⟨b0, o0, none⟩) bs from (HB.out.drewN nq).setCell hBg _)
        have G9 := Lib.hid (gr_set (gr_drewN (gr_refl w (some gt)) nq) (p := ⟨gt, 1, none⟩) (.inl rfl) (.int .i64 ((a : Int) + (m : Int))))
        generalize (w.drewN nq).setCell ⟨gt, 1, none⟩ (.int .i64 ((a : Int) + (m : Int))) = w9 at *
        clear k0 k1 k2
        obtain ⟨k0, k1, k2⟩ := Bk.three K9.out
        have hA0 : (0 : Int) ≤ (a : Int) := Int.natCast_nonneg _
        have hA1 : (a : Int) ≤ (a : Int) + (m : Int) := by omega
        have hA2 : (a : Int) + (m : Int) ≤ (c : Int) := by omega
        have hA3 : ((a : Int) + (m : Int)).toNat = a + m := by omega
        have HP := Lib.hid (show ((bs.drop a).take m).length = m by rw [List.length_take, List.length_drop, ← HN.out]; omega)
        by_cases hcm : c = a
        · have hm0' : m = 0 := by omega
          subst hm0'
          go_quiet (fail)
          go_wp2_with fail
          go_ret
          exact ⟨a, 0, some ⟨b0, o0, none⟩, 0, c - a, by simp [hcm], Nat.zero_le _, ha, by unfold TkR; have := K9.out.drewN nq; rw [hcm] at this; simpa using this, gr_drewN G9.out _, ⟨[], rfl, Bs.nil⟩, .inl ⟨rfl, rfl, rfl, rfl⟩⟩
        · go_quiet (fail)
          go_wp2_with fail
          go_ret
          refine ⟨a + m, 0, some ⟨b0, o0 + a, none⟩, m, c - a, ?_, by omega, by omega, ?_, gr_drewN G9.out _, ⟨(bs.drop a).take m, HP.out, ?_⟩, .inl ⟨rfl, rfl, rfl, rfl⟩⟩
          · rfl
          · unfold TkR; have := K9.out.drewN nq; simpa using this
          · exact ((B9.out.drewN nq).cut (k := a) (A' := some ⟨b0, o0 + a, none⟩) (fun b o e _ => by injection e with e; cases e; rfl)).take m
      · go_enter Try.func57, Try.ntmps57
        go_upto_region 6 with (fail)
        go_quiet (fail)
        go_upto_region 10 with (fail)
        have K9 := Lib.hid (show Bk ((w.drewN nq).setCell ⟨gt, 1, none⟩ (.int .i64 ((a : Int) + (m : Int)))) gt 118 #[.slice (some ⟨b0, o0, none⟩) n c, .int .i64 ((a : Int) + (m : Int)), .int .i64 0] by have := (HK.out.drewN nq).set_ 1 (.int .i64 ((a : Int) + (m : Int))); simpa using this)
        have B9 := Lib.hid (show Bs ((w.drewN nq).setCell ⟨gt, 1, none⟩ (.int .i64 ((a : Int) + (m : Int)))) B (some ⟨b0, o0, none⟩) bs from (HB.out.drewN nq).setCell hBg _)
        have G9 := Lib.hid (gr_set (gr_drewN (gr_refl w (some gt)) nq) (p := ⟨gt, 1, none⟩) (.inl rfl) (.int .i64 ((a : Int) + (m : Int))))
        generalize (w.drewN nq).setCell ⟨gt, 1, none⟩ (.int .i64 ((a : Int) + (m : Int))) = w9 at *
        clear k0 k1 k2
        obtain ⟨k0, k1, k2⟩ := Bk.three K9.out
        have hA0 : (0 : Int) ≤ (a : Int) := Int.natCast_nonneg _
        have hA1 : (a : Int) ≤ (a : Int) + (m : Int) := by omega
        have hA2 : (a : Int) + (m : Int) ≤ (c : Int) := by omega
        have hA3 : ((a : Int) + (m : Int)).toNat = a + m := by omega
        have HP := Lib.hid (show ((bs.drop a).take m).length = m by rw [List.length_take, List.length_drop, ← HN.out]; omega)
        by_cases hcm : c = a
        · have hm0' : m = 0 := by omega
          omega
        · go_quiet (fail)
          go_wp2_with fail
          go_ret
          refine ⟨a + m, 0, some ⟨b0, o0 + a, none⟩, m, c - a, ?_, by omega, by omega, ?_, gr_drewN G9.out _, ⟨(bs.drop a).take m, HP.out, ?_⟩, .inl ⟨rfl, rfl, rfl, rfl⟩⟩
          · rfl
          · unfold TkR; have := K9.out.drewN nq; simpa using this
          · exact ((B9.out.drewN nq).cut (k := a) (A' := some ⟨b0, o0 + a, none⟩) (fun b o e _ => by injection e with e; cases e; rfl)).take m
    · have hgt : (n : Int) - (a : Int) < (m : Int) := by omega
      rcases hfb with rfl | ⟨rfl, h1, h8⟩
      · go_enter Try.func57, Try.ntmps57
        go_upto_region 6 with (fail)
        go_quiet (fail)
        go_wp2_with fail
        go_ret
        exact ⟨a, 10, none, 0, 0, rfl, Nat.le_refl _, ha, by have := (HK.out.drewN nq).set_ 2 (.int .i64 10); unfold TkR; simpa using this, gr_set (gr_drewN (gr_refl _ _) _) (.inl rfl) _, ⟨[], rfl, Bs.nil⟩, .inr ⟨by decide, rfl, rfl⟩⟩
      · go_enter Try.func57, Try.ntmps57
        go_upto_region 6 with (fail)
        go_quiet (fail)
        go_wp2_with fail
        go_ret
        exact ⟨a, 10, none, 0, 0, rfl, Nat.le_refl _, ha, by have := (HK.out.drewN nq).set_ 2 (.int .i64 10); unfold TkR; simpa using this, gr_set (gr_drewN (gr_refl _ _) _) (.inl rfl) _, ⟨[], rfl, Bs.nil⟩, .inr ⟨by decide, rfl, rfl⟩⟩
  · have hd : (x != 0) = true := by rw [bne_iff_ne]; exact hx
    have HX := Lib.hid hx
    clear hx
    go_enter Try.func57, Try.ntmps57
    go_wp2_with fail
    go_ret
    exact ⟨a, x, none, 0, 0, rfl, Nat.le_refl _, ha, HK.out, gr_refl _ _, ⟨[], rfl, Bs.nil⟩, .inr ⟨HX.out, rfl, rfl⟩⟩

/-- What Text leaves. -/
def TextT (w : World) (gt : Nat) (A : Option Addr) (n c : Nat) (e : Ending) (w' : World) : Prop :=
  ∃ (S : ByteArray) (a' : Nat) (x' : Int), e = .returned (.string S) ∧ S.size ≤ n ∧ a' ≤ n ∧ TkR w' gt A n c a' x' ∧ w.grownBy w' (some gt)

theorem some_byte {w : World} {B : Nat} {A : Option Addr} {k c : Nat} (h : ∃ p : List UInt8, p.length = k ∧ Bs w B A p) : ∃ S : ByteArray, S.size = k ∧ ∀ n : Nat, (convert 22 9 (.slice A k c)).run Try.prog (w.drewN n) = .ok (.string S) (w.drewN n) := by
  obtain ⟨p, rfl, hp⟩ := h
  obtain ⟨S, hS⟩ := bytes_conv hp c
  exact ⟨S, by rw [(hS 0).2]; show p.toArray.size = _; simp, fun n => (hS n).1⟩

set_option maxHeartbeats 4000000 in
set_option maxRecDepth 20000 in
theorem text56 (gt b0 o0 B n c a m : Nat) (x : Int) (bs : List UInt8) (w : World) (h : TkR w gt (some ⟨b0, o0, none⟩) n c a x) (hb : Bs w B (some ⟨b0, o0, none⟩) bs) (hBg : B ≤ gt) (hn : n = bs.length) (hc : n ≤ c) (ha : a ≤ n) (hm : n ≤ 65536)
    (h1 : 1 ≤ m) (h8 : m ≤ 5) :
    Calls Try.prog 56 #[.pointer (some ⟨gt, 0, none⟩), .int .i64 m] w (TextT w gt (some ⟨b0, o0, none⟩) n c) := by
  have HK := Lib.hid h
  have HB := Lib.hid hb
  have HN := Lib.hid hn
  obtain ⟨k0, k1, k2⟩ := Bk.three h
  have hgw := h.lt
  clear h hb hn
  go_enter Try.func56, Try.ntmps56
  go_wp2_with fail
  refine (next57 gt b0 o0 B n c a m x bs true w HK.out HB.out hBg HN.out hc ha hm (fun _ => ⟨h1, by omega⟩) (by omega)).mono ?_
  rintro e w1 ⟨a1, x1, A1, k, c1, rfl, hkc, ha1, hk1, hg1, hp1, hor⟩
  have K1 := Lib.hid hk1
  have G1 := Lib.hid hg1
  have B1 := Lib.hid (HB.out.gr hg1 hBg (by omega))
  have OR := Lib.hid hor
  obtain ⟨p, hpl, hpb⟩ := hp1
  have PB := Lib.hid hpb
  have PL := Lib.hid hpl
  have hk5 : k ≤ 5 := by rcases hor with ⟨_, _, _, h⟩ | ⟨_, h, _⟩ <;> omega
  have hv := leV_lt5 (bs := p) (by omega)
  clear hk1 hg1 hor hpb hpl k0 k1 k2
  go_wp2_with fail
  refine (value51 k c1 A1 p w1 B PB.out PL.out.symm hk5).mono ?_
  rintro e w2 ⟨rfl, rfl⟩
  obtain ⟨k0, k1, k2⟩ := Bk.three K1.out
  have z1 := K1.out.frozen 1
  have z2 := K1.out.frozen 2
  generalize leV p = v at *
  by_cases hx : x1 = 0
  · subst hx
    have hu0 : IntKind.i64.wrap ((n : Int) - (a1 : Int)) = (n : Int) - (a1 : Int) := IntWalk.i64_in _ ⟨by omega, by omega⟩
    by_cases hv2 : (n : Int) - (a1 : Int) < (v : Int)
    · have hdv : decide ((n : Int) - (a1 : Int) < (v : Int)) = true := decide_eq_true hv2
      have hge : (0 : Int) ≤ (n : Int) - (a1 : Int) := by omega
      go_upto_region 3 with (fail)
      go_quiet (fail)
      go_wp2_with fail
      go_ret
      refine ⟨_, a, 10, rfl, Nat.zero_le _, ha, ?_, gr_set (gr_set (gr_drewN G1.out _) (.inl rfl) _) (.inl rfl) _⟩
      have := ((K1.out.drewN nq).set_ 2 (.int .i64 10)).set_ 1 (.int .i64 (a : Int))
      unfold TkR
      simpa using this
    · have hdv : decide ((n : Int) - (a1 : Int) < (v : Int)) = false := decide_eq_false hv2
      have hge : (0 : Int) ≤ (n : Int) - (a1 : Int) := by omega
      go_upto_region 3 with (fail)
      go_quiet (fail)
      have K2 := Lib.hid (show TkR (w1.drewN nq) gt (some ⟨b0, o0, none⟩) n c a1 0 from K1.out.drewN nq)
      have B2 := Lib.hid (show Bs (w1.drewN nq) B (some ⟨b0, o0, none⟩) bs from B1.out.drewN nq)
      have G2 := Lib.hid (gr_drewN G1.out nq)
      generalize w1.drewN nq = w2 at *
      clear k0 k1 k2 z1 z2
      obtain ⟨k0, k1, k2⟩ := Bk.three K2.out
      go_wp2_with fail
      refine (next57 gt b0 o0 B n c a1 v 0 bs false w2 K2.out B2.out hBg HN.out hc ha1 hm (fun h => by cases h) (by omega)).mono ?_
      rintro e w3 ⟨a2, x2, A2, k', c2, rfl, hkc2, ha2, hk2, hg2, hp2, hor2⟩
      obtain ⟨S, hS, hconv⟩ := some_byte (c := c2) hp2
      have HS := Lib.hid hS
      have hcv := hconv 0
      rw [show w3.drewN 0 = w3 from rfl] at hcv
      have hkn : k' ≤ n := by rcases hor2 with ⟨_, _, _, h⟩ | ⟨_, h, _⟩ <;> omega
      have K3 := Lib.hid hk2
      have G3 := Lib.hid (gr_trans G2.out hg2)
      clear hk2 hg2 hp2 hor2 hS hconv k0 k1 k2
      go_wp2_with fail
      go_ret
      exact ⟨S, a2, x2, rfl, by rw [HS.out]; exact hkn, ha2, K3.out, G3.out⟩
  · have hd : (x1 == 0) = false := by rw [beq_eq_false_iff_ne]; exact hx
    have hd2 : (x1 != 0) = true := by rw [bne_iff_ne]; exact hx
    have HX := Lib.hid hx
    clear hx
    go_upto_region 3 with (fail)
    go_quiet (fail)
    go_wp2_with fail
    go_ret
    refine ⟨_, a, x1, rfl, Nat.zero_le _, ha, ?_, gr_set (gr_drewN G1.out _) (.inl rfl) _⟩
    have := (K1.out.drewN nq).set_ 1 (.int .i64 (a : Int))
    unfold TkR
    simpa using this

theorem row60 : RowT 60 121 2 := rowT_of (z := .agg #[.string ⟨#[]⟩, .string ⟨#[]⟩]) (bytes := 32) (by decide) Try.underlying60 (by kernel_rfl) rfl (by decide)

/-- What tags.Get answers, whatever it is. -/
def TagsT (w : World) (n : Nat) (e : Ending) (w' : World) : Prop :=
  ∃ (A : Option Addr) (k c m : Nat) (er : Int), e = .returned (.tuple #[.slice A k c, .int .i64 (m : Int), .int .i64 er]) ∧ k ≤ c ∧ m ≤ n ∧ (er = 0 → k = 0 → m = 7) ∧ Below w.heap.size w w'

/-- What its loop holds. -/
def TagRel (w : World) (A : Option Addr) (n c : Nat) (v : Value) (j : Nat) (wr : World) : Prop :=
  ∃ (a : Nat) (x : Int) (l : List (ByteArray × ByteArray)), wr.ownsRow (w.heap.size + 1) 121 2 v l.length (tagCells l) ∧ l.length = j ∧ ShortT l ∧ TkR wr w.heap.size A n c a x ∧ a ≤ n ∧ Below w.heap.size w wr ∧ (j = 0 → a = 3 ∧ x = 0)

theorem TagRel.kept {w wr w' : World} {v : Value} {l : List (ByteArray × ByteArray)} (h : wr.ownsRow (w.heap.size + 1) 121 2 v l.length (tagCells l)) (hg : wr.grownBy w' (some w.heap.size)) : w'.ownsRow (w.heap.size + 1) 121 2 v l.length (tagCells l) :=
  h.kept hg (by
    cases hv : v.ownBlock with
    | none => exact .inl rfl
    | some g =>
      refine .inr fun e => ?_
      injection e with e
      have := (h.lt _ hv).1
      omega)
theorem tagCells_one : ∀ (l : List (ByteArray × ByteArray)), ∀ u ∈ tagCells l, u.oneCell' = true
  | [], u, h => by cases h
  | t :: l, u, h => by
    simp only [tagCells, List.mem_cons] at h
    rcases h with rfl | rfl | h
    · rfl
    · rfl
    · exact tagCells_one l u h

set_option maxHeartbeats 4000000 in
set_option maxRecDepth 20000 in
theorem tags38 (n c b0 o0 B : Nat) (bs : List UInt8) (w : World) (hb : Bs w B (some ⟨b0, o0, none⟩) bs) (hB : B ≤ w.heap.size) (hn : n = bs.length) (hc : n ≤ c) (hm : n ≤ 65536) :
    Calls Try.prog 38 #[.slice (some ⟨b0, o0, none⟩) n c] w (TagsT w n) := by
  have HB := Lib.hid hb
  have HN := Lib.hid hn
  clear hn
  by_cases h3 : 3 ≤ n
  · obtain ⟨b, o, e, hlt, hc0⟩ := Bs.mem hb (k := 0) (by rw [← HN.out]; omega)
    injection e with e
    injection e with e1 e2 e3
    subst e1 e2
    have c0 := hc0 0 (by rw [← HN.out]; omega)
    rw [Nat.add_zero] at c0
    have c1 := hc0 1 (by rw [← HN.out]; omega)
    have c2 := hc0 2 (by rw [← HN.out]; omega)
    clear hc0 hb
    have hq0 : (0 : Int) ≤ ((bs[2]'(by rw [← HN.out]; omega)).toNat : Int) := Int.natCast_nonneg _
    generalize hcn : (bs[2]'(by rw [← HN.out]; omega)).toNat = cnt at *
    have hcn2 : cnt < 256 := by have := (bs[2]'(by rw [← HN.out]; omega)).toNat_lt; omega
    clear hcn
    have h3' : ¬ (n : Int) < 3 := by omega
    generalize ((bs[0]'(by rw [← HN.out]; omega)).toNat : Int) = q0 at *
    generalize ((bs[1]'(by rw [← HN.out]; omega)).toNat : Int) = q1 at *
    by_cases hq : q0 = 84 ∧ q1 = 71
    · obtain ⟨rfl, rfl⟩ := hq
      go_enter Try.func38, Try.ntmps38
      go_wp2_with fail
      have K0 := Lib.hid (show TkR (w.alloc (.cells #[.slice (some ⟨b0, o0, none⟩) n c, .int .i64 3, .int .i64 0] 118)) w.heap.size (some ⟨b0, o0, none⟩) n c 3 0 from Bk.new w 118 _)
      have G0 := Lib.hid ((Below.refl _ w).alloc (Nat.le_refl _) (.cells #[.slice (some ⟨b0, o0, none⟩) n c, .int .i64 3, .int .i64 0] 118))
      generalize w.alloc (.cells #[.slice (some ⟨b0, o0, none⟩) n c, .int .i64 3, .int .i64 0] 118) = w0 at *
      clear c0 c1
      have C2 := Lib.hid c2
      clear c2
      go_loopw [6, 7, 8, 9] (fun v i _ _ wr => ∃ (j : Nat), j ≤ cnt ∧ i = .int .i64 j ∧ TagRel w (some ⟨b0, o0, none⟩) n c v j wr) (fun _ i _ _ _ => cnt - (intOf i).toNat)
      case atStart => exact ⟨0, Nat.zero_le _, rfl, 3, 0, [], World.ownsRow_nil _ _ _ _, rfl, (fun _ h => absurd h (by simp)), K0.out, h3, G0.out, fun _ => ⟨rfl, rfl⟩⟩
      case round =>
        obtain ⟨j, hj, rfl, a, x, l, ho, rfl, hsh, hk, ha, hbel, hz⟩ := hrel
        have HO := Lib.hid ho
        have HS := Lib.hid hsh
        have HK := Lib.hid hk
        have HL := Lib.hid hbel
        have HZ := Lib.hid hz
        have BR := Lib.hid (HB.out.below (hbel.mono hB))
        have hsz := hbel.size
        have d2 : wr.cell? ⟨b0, o0 + 2, none⟩ = some (.int .u8 (cnt : Int)) := (hbel.cell (p := ⟨b0, o0 + 2, none⟩) (by show b0 < _; omega)).trans C2.out
        clear ho hsh hk hbel hz K0 G0
        by_cases hlt : l.length < cnt
        · have hlt' : (l.length : Int) < (cnt : Int) := by omega
          go_wp2_with fail
          refine (text56 w.heap.size b0 o0 B n c a 1 x bs wr HK.out BR.out hB HN.out hc ha hm (by decide) (by decide)).mono ?_
          rintro e w1 ⟨S1, a1, x1, rfl, hS1, ha1, hk1, hg1⟩
          have K1 := Lib.hid hk1
          have G1 := Lib.hid hg1
          have hsz1 := hg1.size
          have B1 := Lib.hid (BR.out.gr hg1 hB (by omega))
          clear hk1 hg1 d2
          go_wp2_with fail
          refine (text56 w.heap.size b0 o0 B n c a1 2 x1 bs w1 K1.out B1.out hB HN.out hc ha1 hm (by decide) (by decide)).mono ?_
          rintro e w2 ⟨S2, a2, x2, rfl, hS2, ha2, hk2, hg2⟩
          have K2 := Lib.hid hk2
          have G2 := Lib.hid (gr_trans G1.out hg2)
          have O2 := Lib.hid (TagRel.kept HO.out G2.out)
          have hsz2 := hg2.size
          have L2 := Lib.hid (below_gr HL.out G2.out (Nat.le_refl _) hsz)
          have hK2 := hk2.lt
          clear hk2 hg2 K1 G1 B1
          go_wp2_with (at_builtin; refine wpl_app _ row60 rfl (.tmp 52) (.tmp 56) rfl (w.heap.size + 1) u6 l.length (tagCells l) rfl (O2.out.alloc _) (w2.heap.size + 1) (some ⟨w2.heap.size, 0, none⟩) 1 1 (tagCells [(S1, S2)]) rfl ?r rfl (tagCells_one _) (by omega) (by simp; omega) ?go)
          case r => exact Rd.fresh w2 _ 121 (Nat.lt_succ_self _)
          case go =>
            intro v' w3 own gr hX
            have hne : some w.heap.size ≠ u6.ownBlock := fun e => by have := (O2.out.lt _ e.symm).1; omega
            have K3 := Lib.hid (show TkR w3 w.heap.size (some ⟨b0, o0, none⟩) n c a2 x2 from Bk.grown (Bk.alloc K2.out _) gr hne)
            have L3 := Lib.hid ((L2.out.alloc (by omega) (.cells #[.string S1, .string S2] 121)).grown gr (by simp; omega) (fun k hk => by have := (O2.out.lt k hk).1; omega))
            have O3 := Lib.hid (show w3.ownsRow (w.heap.size + 1) 121 2 v' (l ++ [(S1, S2)]).length (tagCells (l ++ [(S1, S2)])) by rw [List.length_append, tagCells_app]; exact own)
            have S3 := Lib.hid (show ShortT (l ++ [(S1, S2)]) from fun t h => by
              rcases List.mem_append.1 h with h | h
              · exact HS.out t h
              · rw [List.mem_singleton] at h; subst h; exact ⟨by dsimp only; omega, by dsimp only; omega⟩)
            clear own gr hX O2 L2 K2 G2 HO HK HL HS
            go_wp2_with fail
            go_roundw
            case rel => exact ⟨l.length + 1, by omega, by go_num, a2, x2, _, O3.out, by simp, S3.out, K3.out, ha2, L3.out, fun h => by omega⟩
            case measure => simp [intOf]; omega
        · obtain rfl : l.length = cnt := by omega
          obtain ⟨k0, k1, k2⟩ := Bk.three HK.out
          obtain ⟨A6, c6, rfl, hc6, hr6, _⟩ := own_slice HO.out
          have HR6 := Lib.hid hr6
          clear hr6
          go_wp2_with fail
          refine (next57 w.heap.size b0 o0 B n c a 4 x bs true wr HK.out BR.out hB HN.out hc ha hm (fun _ => by omega) (by omega)).mono ?_
          rintro e w1 ⟨a1, x1, A1, k, c1, rfl, hkc, ha1, hk1, hg1, hp1, hor⟩
          have K1 := Lib.hid hk1
          have G1 := Lib.hid hg1
          have B1 := Lib.hid (BR.out.gr hg1 hB (by omega))
          have L1 := Lib.hid (below_gr HL.out hg1 (Nat.le_refl _) hsz)
          have O1 := Lib.hid (TagRel.kept HO.out hg1)
          have OR := Lib.hid hor
          have hsz1 := hg1.size
          obtain ⟨p, hpl, hpb⟩ := hp1
          have PB := Lib.hid hpb
          have PL := Lib.hid hpl
          have hk5 : k ≤ 5 := by rcases hor with ⟨_, _, _, h⟩ | ⟨_, h, _⟩ <;> omega
          have hv := leV_lt5 (bs := p) (by omega)
          clear hk1 hg1 hor hpb hpl k0 k1 k2
          go_wp2_with fail
          refine (value51 k c1 A1 p w1 B PB.out PL.out.symm hk5).mono ?_
          rintro e w2 ⟨rfl, rfl⟩
          obtain ⟨k0, k1, k2⟩ := Bk.three K1.out
          generalize leV p = vv at *
          by_cases hx : x1 = 0
          · subst hx
            have HP := Lib.hid (show (bs.take a).length = a by rw [List.length_take, ← HN.out]; omega)
            have ha0 : (0 : Int) ≤ (a : Int) := Int.natCast_nonneg _
            have hac : (a : Int) ≤ (c : Int) := by omega
            go_wp2_with fail
            refine (sum30 a c _ (bs.take a) w1 B (Bs.take B1.out a) HP.out.symm (by omega)).mono ?_
            rintro e w3 ⟨rfl, rfl⟩
            have hs := sumN_lt (bs.take a)
            generalize sumN (bs.take a) = sm at *
            by_cases hq : (vv : Int) = (sm : Int)
            · have hqd : ((vv : Int) != (sm : Int)) = false := by rw [bne_eq_false_iff_eq]; exact hq
              clear hq
              go_wp2_with fail
              refine (check58 l.length c6 w1.heap.size A6 l w1 (by obtain ⟨A', c', he, _, hr, _⟩ := own_slice O1.out; injection he with e1 e2 e3; subst e1; exact hr) (Nat.le_refl _) rfl hc6 HS.out (by omega)).mono ?_
              rintro e w3 ⟨n58, x58, rfl, hb58⟩
              have hsz3 := hb58.size
              have K3 := Lib.hid (show TkR w3 w.heap.size (some ⟨b0, o0, none⟩) n c a1 0 from Bk.below K1.out hb58 K1.out.lt)
              have L3 := Lib.hid (L1.out.trans (hb58.mono (by omega)))
              clear hb58 k0 k1 k2
              obtain ⟨k0, k1, k2⟩ := Bk.three K3.out
              by_cases hx : x58 = 0
              · subst hx
                go_wp2_with fail
                go_quiet (fail)
                go_wp2_with fail
                go_ret3
                refine ⟨A6, l.length, c6, a1, 0, rfl, hc6, ha1, fun _ h => ?_, below_drewN L3.out _⟩
                have h5 := HZ.out h
                rcases OR.out with ⟨_, _, h6, _⟩ | ⟨h6, _⟩
                · omega
                · exact absurd rfl h6
              · have hd2 : (x58 != 0) = true := by rw [bne_iff_ne]; exact hx
                have HX := Lib.hid hx
                clear hx
                go_wp2_with fail
                go_ret3
                exact ⟨none, 0, 0, 0, x58, rfl, Nat.le_refl _, Nat.zero_le _, fun h => absurd h HX.out, L3.out⟩
            · have hqd : ((vv : Int) != (sm : Int)) = true := by rw [bne_iff_ne]; exact hq
              clear hq
              go_wp2_with fail
              go_ret3
              exact ⟨none, 0, 0, 0, 33, rfl, Nat.le_refl _, Nat.zero_le _, fun h => absurd h (by decide), L1.out⟩
          · have hd2 : (x1 != 0) = true := by rw [bne_iff_ne]; exact hx
            have HX := Lib.hid hx
            clear hx
            go_wp2_with fail
            go_quiet (fail)
            go_wp2_with fail
            go_ret3
            exact ⟨none, 0, 0, 0, x1, rfl, Nat.le_refl _, Nat.zero_le _, fun h => absurd h HX.out, below_drewN L1.out _⟩
    · have hqd : q0 = 84 → (q1 != 71) = true := fun h => by rw [bne_iff_ne]; exact fun h2 => hq ⟨h, h2⟩
      by_cases h0 : q0 = 84
      · subst h0
        have hq1 := hqd rfl
        clear hqd hq
        go_enter Try.func38, Try.ntmps38
        go_wp2_with fail
        go_ret3
        exact ⟨none, 0, 0, 0, 31, rfl, Nat.le_refl _, Nat.zero_le _, fun h => absurd h (by decide), Below.refl _ _⟩
      · have hq1 : (q0 != 84) = true := by rw [bne_iff_ne]; exact h0
        clear hqd hq h0
        go_enter Try.func38, Try.ntmps38
        go_wp2_with fail
        go_ret3
        exact ⟨none, 0, 0, 0, 31, rfl, Nat.le_refl _, Nat.zero_le _, fun h => absurd h (by decide), Below.refl _ _⟩
  · rcases (show n = 0 ∨ n = 1 ∨ n = 2 by omega) with rfl | rfl | rfl
    · clear hb
      go_enter Try.func38, Try.ntmps38
      go_wp2_with fail
      go_ret3
      exact ⟨none, 0, 0, 0, _, rfl, Nat.le_refl _, Nat.zero_le _, fun h => absurd h (by decide), Below.refl _ _⟩
    · obtain ⟨b, o, e, hlt, hc0⟩ := Bs.mem hb (k := 0) (by rw [← HN.out]; omega)
      injection e with e
      injection e with e1 e2 e3
      subst e1 e2
      have c0 := hc0 0 (by rw [← HN.out]; omega)
      rw [Nat.add_zero] at c0
      clear hc0 hb
      generalize ((bs[0]'(by rw [← HN.out]; omega)).toNat : Int) = q0 at *
      by_cases h0 : q0 = 84
      · subst h0
        go_enter Try.func38, Try.ntmps38
        go_wp2_with fail
        go_ret3
        exact ⟨none, 0, 0, 0, _, rfl, Nat.le_refl _, Nat.zero_le _, fun h => absurd h (by decide), Below.refl _ _⟩
      · have hq1 : (q0 != 84) = true := by rw [bne_iff_ne]; exact h0
        clear h0
        go_enter Try.func38, Try.ntmps38
        go_wp2_with fail
        go_ret3
        exact ⟨none, 0, 0, 0, _, rfl, Nat.le_refl _, Nat.zero_le _, fun h => absurd h (by decide), Below.refl _ _⟩
    · obtain ⟨b, o, e, hlt, hc0⟩ := Bs.mem hb (k := 0) (by rw [← HN.out]; omega)
      injection e with e
      injection e with e1 e2 e3
      subst e1 e2
      have c0 := hc0 0 (by rw [← HN.out]; omega)
      have c1 := hc0 1 (by rw [← HN.out]; omega)
      rw [Nat.add_zero] at c0
      clear hc0 hb
      generalize ((bs[0]'(by rw [← HN.out]; omega)).toNat : Int) = q0 at *
      generalize ((bs[1]'(by rw [← HN.out]; omega)).toNat : Int) = q1 at *
      by_cases h0 : q0 = 84
      · subst h0
        by_cases h1 : q1 = 71
        · subst h1
          go_enter Try.func38, Try.ntmps38
          go_wp2_with fail
          go_ret3
          exact ⟨none, 0, 0, 0, _, rfl, Nat.le_refl _, Nat.zero_le _, fun h => absurd h (by decide), Below.refl _ _⟩
        · have hq1 : (q1 != 71) = true := by rw [bne_iff_ne]; exact h1
          clear h1
          go_enter Try.func38, Try.ntmps38
          go_wp2_with fail
          go_ret3
          exact ⟨none, 0, 0, 0, _, rfl, Nat.le_refl _, Nat.zero_le _, fun h => absurd h (by decide), Below.refl _ _⟩
      · have hq1 : (q0 != 84) = true := by rw [bne_iff_ne]; exact h0
        clear h0
        go_enter Try.func38, Try.ntmps38
        go_wp2_with fail
        go_ret3
        exact ⟨none, 0, 0, 0, _, rfl, Nat.le_refl _, Nat.zero_le _, fun h => absurd h (by decide), Below.refl _ _⟩

/-- Whole numbers, as cells. -/
def Nums (w : World) (B : Nat) (A : Option Addr) (l : List Int) : Prop := Rd w B A (l.map (Value.int .i64))
theorem Nums.at_ {w : World} {B : Nat} {A : Option Addr} {l : List Int} (h : Nums w B A l) {k : Nat} (hk : k < l.length) :
    ∃ b o, A = some ⟨b, o, none⟩ ∧ b < B ∧ ∀ (j : Nat) (hj : j < l.length), w.cell? ⟨b, o + j, none⟩ = some (.int .i64 l[j]) := by
  obtain ⟨b, o, e, hb, hc⟩ := Rd.mem h (k := k) (by simpa using hk)
  exact ⟨b, o, e, hb, fun j hj => hc j _ (by rw [List.getElem?_map, List.getElem?_eq_getElem hj]; rfl)⟩

set_option maxHeartbeats 1000000 in
set_option maxRecDepth 20000 in
theorem ints21w (n c n' c' : Nat) (A A' : Option Addr) (l l' : List Int) (B : Nat) (w : World) (h : Nums w B A l) (h' : Nums w B A' l') (hn : n = l.length) (hn' : n' = l'.length) (hc : n ≤ c) (hc' : n' ≤ c') (hm : n ≤ 65536) (hm' : n' ≤ 65536) :
    Calls Try.prog 21 #[.slice A n c, .slice A' n' c'] w (SomeB w) := by
  have HA := Lib.hid h
  have HA' := Lib.hid h'
  have HN := Lib.hid hn
  have HN' := Lib.hid hn'
  clear h h' hn hn'
  by_cases he : n = n'
  · subst he
    go_enter Try.func21, Try.ntmps21
    go_wp2_with fail
    go_loopw [5] (fun i wr => ∃ k : Nat, k ≤ n ∧ i = .int .i64 k ∧ Below w.heap.size w wr ∧ Nums wr B A l ∧ Nums wr B A' l') (fun i _ => n - (intOf i).toNat)
    case atStart => exact ⟨0, Nat.zero_le _, rfl, Below.refl _ _, HA.out, HA'.out⟩
    case round =>
      obtain ⟨k, hk, rfl, hbel, h1, h2⟩ := hrel
      have HB := Lib.hid hbel
      have H1 := Lib.hid h1
      have H2 := Lib.hid h2
      clear hbel
      by_cases hlt : k < n
      · have hlt' : (k : Int) < (n : Int) := by omega
        obtain ⟨b, o, rfl, hb, hcc⟩ := h1.at_ (k := k) (by rw [← HN.out]; exact hlt)
        obtain ⟨b', o', rfl, hb', hcc'⟩ := h2.at_ (k := k) (by rw [← HN'.out]; exact hlt)
        have c0 := hcc k (by rw [← HN.out]; exact hlt)
        have c0' := hcc' k (by rw [← HN'.out]; exact hlt)
        generalize (l[k]'(by rw [← HN.out]; exact hlt)) = x at *
        generalize (l'[k]'(by rw [← HN'.out]; exact hlt)) = y at *
        clear hcc hcc' h1 h2
        by_cases hxy : x = y
        · have hd : (x != y) = false := by rw [bne_eq_false_iff_eq]; exact hxy
          clear hxy
          go_wp2_with fail
          go_quiet (fail)
          go_wp2_with fail
          go_roundw
          case rel => exact ⟨k + 1, by omega, by go_num, below_drewN HB.out _, H1.out.drewN _, H2.out.drewN _⟩
          case measure => simp [intOf]; omega
        · have hd : (x != y) = true := by rw [bne_iff_ne]; exact hxy
          clear hxy
          go_wp2_with fail
          go_quiet (fail)
          go_wp2_with fail
          go_ret
          exact ⟨⟨_, rfl⟩, below_drewN HB.out _⟩
      · obtain rfl : k = n := by omega
        clear h1 h2
        go_wp2_with fail
        go_ret
        exact ⟨⟨_, rfl⟩, HB.out⟩
  · have hd : ((n : Int) != (n' : Int)) = true := by rw [bne_iff_ne]; omega
    go_enter Try.func21, Try.ntmps21
    go_wp2_with fail
    go_ret
    exact ⟨⟨_, rfl⟩, Below.refl _ _⟩

theorem Bk.sixl {w : World} {g : Nat} {t : TypeId} {a0 a1 a2 a3 a4 a5 : Value} (h : Bk w g t #[a0, a1, a2, a3, a4, a5]) : w.cell? ⟨g, 0, none⟩ = some a0 ∧ w.cell? ⟨g, 1, none⟩ = some a1 ∧ w.cell? ⟨g, 2, none⟩ = some a2 ∧ w.cell? ⟨g, 3, none⟩ = some a3 ∧ w.cell? ⟨g, 4, none⟩ = some a4 ∧ w.cell? ⟨g, 5, none⟩ = some a5 := ⟨h.cell 0, h.cell 1, h.cell 2, h.cell 3, h.cell 4, h.cell 5⟩

set_option maxHeartbeats 1000000 in
set_option maxRecDepth 20000 in
theorem right55 (ki a b c bl s : Int) (w : World) : Calls Try.prog 55 #[.agg #[.int .i64 ki, .int .i64 a, .int .i64 b, .int .i64 c, .int .i64 bl, .int .i64 s]] w (SomeB w) := by
  by_cases h1 : 1 ≤ ki
  · by_cases h2 : ki ≤ 3
    · go_enter Try.func55, Try.ntmps55
      have K0 := Lib.hid (Bk.new w 59 #[.int .i64 ki, .int .i64 a, .int .i64 b, .int .i64 c, .int .i64 bl, .int .i64 s])
      have L0 := Lib.hid ((Below.refl _ w).alloc (Nat.le_refl _) (.cells #[.int .i64 ki, .int .i64 a, .int .i64 b, .int .i64 c, .int .i64 bl, .int .i64 s] 59))
      go_wp2_with fail
      generalize w.alloc (.cells #[.int .i64 ki, .int .i64 a, .int .i64 b, .int .i64 c, .int .i64 bl, .int .i64 s] 59) = w0 at *
      refine (right70 a b c _).mono ?_
      rintro e w1 ⟨⟨q, rfl⟩, hb⟩
      obtain ⟨k0, k1, k2, k3, k4, k5⟩ := Bk.sixl (Bk.below K0.out hb K0.out.lt)
      have L1 := Lib.hid (L0.out.trans (hb.mono L0.out.size))
      clear hb K0
      cases q with
      | false =>
        go_wp2_with fail
        go_ret
        exact ⟨⟨_, rfl⟩, L1.out⟩
      | true =>
        go_wp2_with fail
        all_goals
          go_ret
          exact ⟨⟨_, rfl⟩, L1.out⟩
    · go_enter Try.func55, Try.ntmps55
      go_wp2_with fail
      go_ret
      exact ⟨⟨_, rfl⟩, (Below.refl _ w).alloc (Nat.le_refl _) _⟩
  · go_enter Try.func55, Try.ntmps55
    go_wp2_with fail
    go_ret
    exact ⟨⟨_, rfl⟩, (Below.refl _ w).alloc (Nat.le_refl _) _⟩

set_option maxHeartbeats 2000000 in
set_option maxRecDepth 20000 in
theorem right60 (L S : Int) (n c : Nat) (A : Option Addr) (l : List Int) (B : Nat) (w : World) (h : Nums w B A l) (hB : B ≤ w.heap.size) (hn : n = l.length) (hc : n ≤ c) (hm : n ≤ 65536) :
    Calls Try.prog 60 #[.agg #[.int .i64 L, .int .u32 S, .slice A n c]] w (SomeB w) := by
  have HA := Lib.hid h
  have HN := Lib.hid hn
  clear h hn
  go_enter Try.func60, Try.ntmps60
  have K0 := Lib.hid (Bk.new w 63 #[.int .i64 L, .int .u32 S, .slice A n c])
  have L0 := Lib.hid ((Below.refl _ w).alloc (Nat.le_refl _) (.cells #[.int .i64 L, .int .u32 S, .slice A n c] 63))
  by_cases h1 : 0 ≤ L
  · by_cases h2 : L ≤ 4294967295
    · go_wp2_with fail
      generalize w.alloc (.cells #[.int .i64 L, .int .u32 S, .slice A n c] 63) = w0 at *
      go_loopw [3] (fun i wr => ∃ k : Nat, k ≤ n ∧ i = .int .i64 k ∧ Below w.heap.size w wr ∧ Bk wr w.heap.size 63 #[.int .i64 L, .int .u32 S, .slice A n c]) (fun i _ => n - (intOf i).toNat)
      case atStart => exact ⟨0, Nat.zero_le _, rfl, L0.out, K0.out⟩
      case round =>
        obtain ⟨k, hk, rfl, hbel, hbk⟩ := hrel
        have HB := Lib.hid hbel
        have HK := Lib.hid hbk
        obtain ⟨k0, k1, k2⟩ := Bk.three hbk
        have HR := Lib.hid (show Nums wr B A l from Rd.below HA.out (hbel.mono hB))
        clear hbel hbk
        by_cases hlt : k < n
        · have hlt' : (k : Int) < (n : Int) := by omega
          have hk0 : (0 : Int) ≤ (k : Int) := Int.natCast_nonneg _
          obtain ⟨b, o, rfl, hb, hcc⟩ := HR.out.at_ (k := k) (by rw [← HN.out]; exact hlt)
          have c0 := hcc k (by rw [← HN.out]; exact hlt)
          generalize (l[k]'(by rw [← HN.out]; exact hlt)) = x at *
          by_cases hx0 : x < 0
          · have d0 : decide (x < 0) = true := decide_eq_true hx0
            clear hcc
            go_wp2_with fail
            go_quiet (fail)
            go_wp2_with fail
            go_ret
            exact ⟨⟨_, rfl⟩, below_drewN HB.out _⟩
          · have d0 : decide (x < 0) = false := decide_eq_false hx0
            by_cases hx1 : 1099511627776 ≤ x
            · have d1 : decide (1099511627776 ≤ x) = true := decide_eq_true hx1
              clear hcc
              go_wp2_with fail
              go_quiet (fail)
              go_wp2_with fail
              go_ret
              exact ⟨⟨_, rfl⟩, below_drewN HB.out _⟩
            · have d1 : decide (1099511627776 ≤ x) = false := decide_eq_false hx1
              by_cases hkz : k = 0
              · subst hkz
                rw [Nat.add_zero] at c0
                clear hcc
                go_wp2_with fail
                go_quiet (fail)
                go_wp2_with fail
                go_roundw
                case rel => exact ⟨1, by omega, by go_num, below_drewN HB.out _, HK.out.drewN _⟩
                case measure => simp [intOf]; omega
              · have c1 := hcc (k - 1) (by rw [← HN.out]; omega)
                generalize (l[k - 1]'(by rw [← HN.out]; omega)) = y at *
                have d2 : decide (0 < k) = true := decide_eq_true (by omega)
                have e1 : (k : Int) - 1 = ((k - 1 : Nat) : Int) := by omega
                have e2 : IntKind.i64.wrap ((k : Int) - 1) = (k : Int) - 1 := IntWalk.i64_in _ ⟨by omega, by omega⟩
                have e3 : ((k : Int) - 1).toNat = k - 1 := by omega
                have e4 : (k : Int) - 1 < (n : Int) := by omega
                have e5 : (0 : Int) ≤ (k : Int) - 1 := by omega
                clear hcc
                by_cases hxy : x ≤ y
                · have d3 : decide (x ≤ y) = true := decide_eq_true hxy
                  go_wp2_with fail
                  go_quiet (fail)
                  go_wp2_with fail
                  go_ret
                  exact ⟨⟨_, rfl⟩, below_drewN HB.out _⟩
                · have d3 : decide (x ≤ y) = false := decide_eq_false hxy
                  go_wp2_with fail
                  go_quiet (fail)
                  go_wp2_with fail
                  go_roundw
                  case rel => exact ⟨k + 1, by omega, by go_num, below_drewN HB.out _, HK.out.drewN _⟩
                  case measure => simp [intOf]; omega
        · obtain rfl : k = n := by omega
          go_wp2_with fail
          go_ret
          exact ⟨⟨_, rfl⟩, HB.out⟩
    · go_wp2_with fail
      go_ret
      exact ⟨⟨_, rfl⟩, L0.out⟩
  · go_wp2_with fail
    go_ret
    exact ⟨⟨_, rfl⟩, L0.out⟩
end Go.Proofs.Ytfeicdflkpgbnaa
