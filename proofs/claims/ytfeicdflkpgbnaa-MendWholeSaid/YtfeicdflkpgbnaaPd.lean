/-
  PLAIN: what a block is: a head read from bytes, a block opened. No program in sight.
-/
import Derived.Test.YtfeicdflkpgbnaaPc
namespace Go.Proofs.Ytfeicdflkpgbnaa
open Go.RowKit

/-- A field's bytes as a number, the lowest first. -/
def leV : List UInt8 → Nat
  | [] => 0
  | b :: l => b.toNat + 256 * leV l
/-- descantref22.At. -/
def at4 (bs : List UInt8) (k : Nat) : Nat := leV ((bs.drop k).take 4)

/-- A head's fields. -/
structure Hd where
  kind : Int
  index : Int
  length : Int
  step : Int
  bound : Int
  last : Bool
  link : Int
  size : Int

/-- A head as cells. -/
def Hd.cells (h : Hd) : List Value := [.int .i64 h.kind, .int .i64 h.index, .int .i64 h.length, .int .i64 h.step, .int .i64 h.bound, .bool h.last, .int .u32 h.link, .int .i64 h.size]

/-- Does a number lie between two? -/
def wB (x lo hi : Int) : Bool := decide (lo ≤ x ∧ x ≤ hi)
/-- May a head be? -/
def rightB (h : Hd) : Bool :=
  wB h.kind 1 3 && wB h.index 0 4294967295 && wB h.length 1 65536 && wB h.step 1 2147483648 && wB h.bound 0 (wrap64 (h.step.tdiv 2)) && wB h.size 0 16777216 &&
    !(h.last && h.kind != 1) && !(h.link != 0 && h.kind != 2) && !(h.step != 1 && h.kind == 3)

/-- Byte k, as a number. -/
def byN (bs : List UInt8) (k : Nat) : Nat := (bs.getD k 0).toNat
/-- The head that lies at the beginning of bytes. -/
def hdOf (bs : List UInt8) : Hd := ⟨byN bs 2, at4 bs 4, at4 bs 8, at4 bs 12, at4 bs 16, byN bs 3 == 1, at4 bs 20, at4 bs 24⟩
/-- Do bytes, as far as there are some, begin as a block does? -/
def startB (bs : List UInt8) : Bool := !(decide (0 < bs.length) && byN bs 0 != 222) && !(decide (1 < bs.length) && byN bs 1 != 92)
/-- Get: the head, if there is one. -/
def getB (bs : List UInt8) : Bool :=
  startB bs && decide (32 ≤ bs.length) && decide (sumN (bs.take 28) = at4 bs 28) && decide (byN bs 3 ≤ 1) && rightB (hdOf bs)
/-- Open: is there a block? -/
def openB (bs : List UInt8) : Bool :=
  getB bs && decide (36 + (hdOf bs).size ≤ bs.length) && decide (sumN (bs.take (32 + (hdOf bs).size.toNat)) = at4 bs (32 + (hdOf bs).size.toNat))

end Go.Proofs.Ytfeicdflkpgbnaa
