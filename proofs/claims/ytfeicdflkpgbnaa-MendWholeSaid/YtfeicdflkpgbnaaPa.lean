/-
  PLAIN: the sum of 32 bits, bit by bit and by table: no program in sight.
-/
import Derived.Below
namespace Go.Proofs.Ytfeicdflkpgbnaa

/-- One step of the sum. -/
def stepN (x : Nat) : Nat := if x % 2 = 1 then (x / 2) ^^^ 3988292384 else x / 2
/-- k steps. -/
def stepsN : Nat → Nat → Nat
  | 0, x => x
  | k + 1, x => stepN (stepsN k x)
/-- Eight steps. -/
def eightN (x : Nat) : Nat := stepsN 8 x
/-- The sum goes on with bytes, no turn at its ends. -/
def feedN (x : Nat) (l : List UInt8) : Nat := l.foldl (fun y b => eightN (y ^^^ b.toNat)) x
/-- The sum of bytes. -/
def sumN (l : List UInt8) : Nat := feedN 4294967295 l ^^^ 4294967295

theorem xor_lt32 {a b : Nat} (ha : a < 4294967296) (hb : b < 4294967296) : a ^^^ b < 4294967296 := Nat.xor_lt_two_pow (n := 32) ha hb
theorem byte32 (b : UInt8) : b.toNat < 4294967296 := Nat.lt_trans b.toNat_lt (by decide)

theorem stepN_lt {x : Nat} (h : x < 4294967296) : stepN x < 4294967296 := by
  unfold stepN
  split
  · exact xor_lt32 (by omega) (by decide)
  · omega
theorem stepsN_lt {x : Nat} (h : x < 4294967296) : ∀ k, stepsN k x < 4294967296
  | 0 => h
  | k + 1 => stepN_lt (stepsN_lt h k)
theorem eightN_lt {x : Nat} (h : x < 4294967296) : eightN x < 4294967296 := stepsN_lt h 8
theorem feedN_lt (l : List UInt8) : ∀ {x : Nat}, x < 4294967296 → feedN x l < 4294967296 := by
  induction l with
  | nil => exact fun h => h
  | cons b l ih => exact fun h => ih (eightN_lt (xor_lt32 h (byte32 b)))
theorem sumN_lt (l : List UInt8) : sumN l < 4294967296 := xor_lt32 (feedN_lt l (by decide)) (by decide)

theorem feedN_snoc (x : Nat) (l : List UInt8) (b : UInt8) : feedN x (l ++ [b]) = eightN (feedN x l ^^^ b.toNat) := by
  simp [feedN]

theorem xor_half (a b : Nat) : (a ^^^ b) / 2 = a / 2 ^^^ b / 2 := by
  have h := Nat.shiftRight_xor_distrib (a := a) (b := b) (i := 1)
  simpa [Nat.shiftRight_eq_div_pow] using h
theorem xor_odd (a b : Nat) : (a ^^^ b) % 2 = (a % 2 + b % 2) % 2 := by
  have h := Nat.xor_mod_two_pow (a := a) (b := b) (n := 1)
  simp only [Nat.pow_one] at h
  rw [h]
  have ha : a % 2 = 0 ∨ a % 2 = 1 := by omega
  have hb : b % 2 = 0 ∨ b % 2 = 1 := by omega
  rcases ha with ha | ha <;> rcases hb with hb | hb <;> rw [ha, hb] <;> rfl

theorem stepN_xor (a b : Nat) : stepN (a ^^^ b) = stepN a ^^^ stepN b := by
  unfold stepN
  rw [xor_odd, xor_half]
  have ha : a % 2 = 0 ∨ a % 2 = 1 := by omega
  have hb : b % 2 = 0 ∨ b % 2 = 1 := by omega
  rcases ha with ha | ha <;> rcases hb with hb | hb <;> simp [ha, hb]
  · rw [Nat.xor_assoc]
  · rw [Nat.xor_assoc, Nat.xor_assoc, Nat.xor_comm (b / 2) 3988292384]
  · rw [Nat.xor_assoc (a / 2), ← Nat.xor_assoc 3988292384, Nat.xor_comm 3988292384 (b / 2), Nat.xor_assoc (b / 2), Nat.xor_self, Nat.xor_zero]
theorem stepsN_xor (a b : Nat) : ∀ k, stepsN k (a ^^^ b) = stepsN k a ^^^ stepsN k b
  | 0 => rfl
  | k + 1 => by simp only [stepsN]; rw [stepsN_xor a b k, stepN_xor]
theorem stepN_even (a : Nat) : stepN (2 * a) = a := by
  unfold stepN
  rw [if_neg (by omega)]
  omega
theorem eightN_high (h : Nat) : eightN (256 * h) = h := by
  unfold eightN
  simp only [stepsN]
  rw [show 256 * h = 2 * (2 * (2 * (2 * (2 * (2 * (2 * (2 * h))))))) by omega]
  simp only [stepN_even]
theorem split_xor (x : Nat) : x = 256 * (x / 256) ^^^ x % 256 := by
  have h := Nat.two_pow_add_eq_or_of_lt (i := 8) (b := x % 256) (by omega) (x / 256)
  have h2 : 2 ^ 8 * (x / 256) ||| x % 256 = 256 * (x / 256) ^^^ x % 256 := by
    apply Nat.eq_of_testBit_eq
    intro i
    rw [Nat.testBit_or, Nat.testBit_xor, show (256 : Nat) = 2 ^ 8 from rfl, Nat.testBit_two_pow_mul, Nat.testBit_mod_two_pow]
    by_cases hi : i < 8
    · have : ¬ 8 ≤ i := by omega
      simp [hi, this]
    · simp [hi]
  rw [← h2, ← h]
  omega
/-- A byte's eight steps by the table of what eight steps make of each byte. -/
theorem eightN_table (x c : Nat) : eightN (x ^^^ c) = x / 256 ^^^ eightN (x % 256 ^^^ c) := by
  have h1 : eightN (x ^^^ c) = eightN (256 * (x / 256)) ^^^ eightN (x % 256 ^^^ c) := by
    unfold eightN
    rw [← stepsN_xor (256 * (x / 256)) (x % 256 ^^^ c) 8, ← Nat.xor_assoc, ← split_xor]
  rw [h1, eightN_high]
theorem table_small {x c : Nat} (hc : c < 256) : x % 256 ^^^ c < 256 := Nat.xor_lt_two_pow (n := 8) (by omega) hc

end Go.Proofs.Ytfeicdflkpgbnaa
