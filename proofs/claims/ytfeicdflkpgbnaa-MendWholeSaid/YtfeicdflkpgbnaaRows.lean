/-
  No cell of these rows narrows 'for every input' (looked for: loops, veiled, ifaces, maps, wideKeys, modest, calm, conditions, laid).
  DERIVED. THE GIVEN ROWS OF THIS SEAT. 4 by the template 'for every input the law returns true; each argument reads behind the call as it read before'; 0 by the template 'total and deterministic' (their statements: YtfeicdflkpgbnaaTotals.lean).
  GIVEN WITH THE SEED: the statements are not yours to turn. If you find one false, say at which input.
  Laid BY PROGRAM, IN A SANDBOX (cutbox-rows.mjs): the forced cells as the released guide's own fill.sh prints them over the translation c55c1b675eafa93f… (all of the seat's roots in one cut). By AI agents, Wed Nov 11 2026. No macro, syntax, notation, axiom, sorry.
-/
import Derived.Test.YtfeicdflkpgbnaaChecked
import GoSem.Claim
import GoSem.ClaimJoined
import GoSem.ClaimMapViews
import Derived.JoinedTies
import Derived.KernelRfl
namespace Go.Proofs.Ytfeicdflkpgbnaa
/- THE CELL 'sum', in the pinned program and in every row, IS THE sha256 OF THE DUMP (.gsa) THAT YtfeicdflkpgbnaaProg.lean LOADS. Nothing in Lean hashes anything: it is a label: what it is worth is what the hold of that sum in a sandbox is worth. -/
noncomputable def Try.pinned : Pinned := { name := "ytfeicdflkpgbnaa", sum := "c55c1b675eafa93f2e5db64bb0c462b772795fa1fcf07c00e4aa462ae8fc11d6", checked := Try.checked }
namespace Rows
def none {H : Type} : Left H := { results := [], args := [] }

/-- 'descantlaw30.MendScans': WHATEVER THE INPUT: true; the input reads as it did. -/
def mendScansSpec : ChangeSpec := { name := "mendScans", fn := fun _ => fun
  | [d] => { results := [.lit (.bool true)], args := [d] }
  | _ => none }
def mendScansRow : OpenClaim := { program := "ytfeicdflkpgbnaa", sum := "c55c1b675eafa93f2e5db64bb0c462b772795fa1fcf07c00e4aa462ae8fc11d6", func := "descant/descantlaw30.MendScans", spec := "mendScans", unfollowed := true, recurses := true, apart := false }
def MendScansSaid : Prop := mendScansRow.holds Try.pinned (OpenSpec.ofChange mendScansSpec)

/-- ITS FALSE NEIGHBOUR: 'it returns false'. Refute it at one input. -/
def mendScansWrong : ChangeSpec := { name := "mendScans", fn := fun _ => fun
  | [d] => { results := [.lit (.bool false)], args := [d] }
  | _ => none }
def MendScansWrongFalsely : Prop := mendScansRow.holds Try.pinned (OpenSpec.ofChange mendScansWrong)

/-- 'descantlaw30.MendFinds': WHATEVER THE INPUT: true; the input reads as it did. -/
def mendFindsSpec : ChangeSpec := { name := "mendFinds", fn := fun _ => fun
  | [d1, d2] => { results := [.lit (.bool true)], args := [d1, d2] }
  | _ => none }
def mendFindsRow : OpenClaim := { program := "ytfeicdflkpgbnaa", sum := "c55c1b675eafa93f2e5db64bb0c462b772795fa1fcf07c00e4aa462ae8fc11d6", func := "descant/descantlaw30.MendFinds", spec := "mendFinds", unfollowed := true, recurses := true, apart := false }
def MendFindsSaid : Prop := mendFindsRow.holds Try.pinned (OpenSpec.ofChange mendFindsSpec)

/-- ITS FALSE NEIGHBOUR: 'it returns false'. Refute it at one input. -/
def mendFindsWrong : ChangeSpec := { name := "mendFinds", fn := fun _ => fun
  | [d1, d2] => { results := [.lit (.bool false)], args := [d1, d2] }
  | _ => none }
def MendFindsWrongFalsely : Prop := mendFindsRow.holds Try.pinned (OpenSpec.ofChange mendFindsWrong)

/-- 'descantlaw30.MendOrders': WHATEVER THE INPUT: true; the input reads as it did. -/
def mendOrdersSpec : ChangeSpec := { name := "mendOrders", fn := fun _ => fun
  | [d1, d2, d3] => { results := [.lit (.bool true)], args := [d1, d2, d3] }
  | _ => none }
def mendOrdersRow : OpenClaim := { program := "ytfeicdflkpgbnaa", sum := "c55c1b675eafa93f2e5db64bb0c462b772795fa1fcf07c00e4aa462ae8fc11d6", func := "descant/descantlaw30.MendOrders", spec := "mendOrders", unfollowed := true, recurses := true, apart := false }
def MendOrdersSaid : Prop := mendOrdersRow.holds Try.pinned (OpenSpec.ofChange mendOrdersSpec)

/-- ITS FALSE NEIGHBOUR: 'it returns false'. Refute it at one input. -/
def mendOrdersWrong : ChangeSpec := { name := "mendOrders", fn := fun _ => fun
  | [d1, d2, d3] => { results := [.lit (.bool false)], args := [d1, d2, d3] }
  | _ => none }
def MendOrdersWrongFalsely : Prop := mendOrdersRow.holds Try.pinned (OpenSpec.ofChange mendOrdersWrong)

/-- 'descantlaw30.MendWhole': WHATEVER THE INPUT: true; the input reads as it did. -/
def mendWholeSpec : ChangeSpec := { name := "mendWhole", fn := fun _ => fun
  | [d] => { results := [.lit (.bool true)], args := [d] }
  | _ => none }
def mendWholeRow : OpenClaim := { program := "ytfeicdflkpgbnaa", sum := "c55c1b675eafa93f2e5db64bb0c462b772795fa1fcf07c00e4aa462ae8fc11d6", func := "descant/descantlaw30.MendWhole", spec := "mendWhole", unfollowed := true, recurses := true, apart := false }
def MendWholeSaid : Prop := mendWholeRow.holds Try.pinned (OpenSpec.ofChange mendWholeSpec)

/-- ITS FALSE NEIGHBOUR: 'it returns false'. Refute it at one input. -/
def mendWholeWrong : ChangeSpec := { name := "mendWhole", fn := fun _ => fun
  | [d] => { results := [.lit (.bool false)], args := [d] }
  | _ => none }
def MendWholeWrongFalsely : Prop := mendWholeRow.holds Try.pinned (OpenSpec.ofChange mendWholeWrong)

/- THE SECOND FORM. 'bulk': how many values and letters a reading holds, each counted each time it is reached (what is shared counts as often as it is met; a slice's spare places count too). A statement '..UptoSaid' is the law's where the arguments, and the package variables that the reading takes, are together of bulk at most 1048576: NARROWER than '..Said'. Prove '..Said' where nothing that the law and all that it calls make is longer than what came in: it says more and counts as full. Else prove '..UptoSaid'. A law counts once. -/
mutual
def uptoBulk {H : Type} : DataW H → Nat
  | .lit (.string bytes) => bytes.length + 1
  | .lit _ => 1
  | .nil => 1
  | .ptr d => uptoBulk d + 1
  | .slice elems spare => uptoBulkAll elems + uptoBulkAll spare + 1
  | .agg parts => uptoBulkAll parts + 1
  | .iface _ d => uptoBulk d + 1
  | .map entries => uptoBulkEntries entries + 1
  | .held _ => 1
def uptoBulkAll {H : Type} : List (DataW H) → Nat
  | [] => 0
  | d :: r => uptoBulk d + uptoBulkAll r
def uptoBulkEntries {H : Type} : List (Lit × DataW H) → Nat
  | [] => 0
  | x :: r => uptoBulkEntry x + uptoBulkEntries r
def uptoBulkEntry {H : Type} : Lit × DataW H → Nat
  | (.string bytes, d) => bytes.length + uptoBulk d + 1
  | (_, d) => uptoBulk d + 1
 end
def uptoSmall : (H : Type) → List (DataW H) → Bool := fun _ ds => decide (uptoBulkAll ds ≤ 1048576)
def OpenSpec.upto (s : _root_.Go.ChangeSpec) : _root_.Go.OpenSpec := { _root_.Go.OpenSpec.ofChange s with cond := some uptoSmall }

/-- 'descantlaw30.MendScans', WHERE WHAT IT READS IS OF BULK AT MOST 1048576: true; the input reads as it did. -/
def mendScansUptoRow : OpenClaim := { program := "ytfeicdflkpgbnaa", sum := "c55c1b675eafa93f2e5db64bb0c462b772795fa1fcf07c00e4aa462ae8fc11d6", func := "descant/descantlaw30.MendScans", spec := "mendScans", unfollowed := true, recurses := true, apart := false, narrowed := true }
def MendScansUptoSaid : Prop := mendScansUptoRow.holds Try.pinned (OpenSpec.upto mendScansSpec)

/-- 'descantlaw30.MendFinds', WHERE WHAT IT READS IS OF BULK AT MOST 1048576: true; the input reads as it did. -/
def mendFindsUptoRow : OpenClaim := { program := "ytfeicdflkpgbnaa", sum := "c55c1b675eafa93f2e5db64bb0c462b772795fa1fcf07c00e4aa462ae8fc11d6", func := "descant/descantlaw30.MendFinds", spec := "mendFinds", unfollowed := true, recurses := true, apart := false, narrowed := true }
def MendFindsUptoSaid : Prop := mendFindsUptoRow.holds Try.pinned (OpenSpec.upto mendFindsSpec)

/-- 'descantlaw30.MendOrders', WHERE WHAT IT READS IS OF BULK AT MOST 1048576: true; the input reads as it did. -/
def mendOrdersUptoRow : OpenClaim := { program := "ytfeicdflkpgbnaa", sum := "c55c1b675eafa93f2e5db64bb0c462b772795fa1fcf07c00e4aa462ae8fc11d6", func := "descant/descantlaw30.MendOrders", spec := "mendOrders", unfollowed := true, recurses := true, apart := false, narrowed := true }
def MendOrdersUptoSaid : Prop := mendOrdersUptoRow.holds Try.pinned (OpenSpec.upto mendOrdersSpec)

/-- 'descantlaw30.MendWhole', WHERE WHAT IT READS IS OF BULK AT MOST 1048576: true; the input reads as it did. -/
def mendWholeUptoRow : OpenClaim := { program := "ytfeicdflkpgbnaa", sum := "c55c1b675eafa93f2e5db64bb0c462b772795fa1fcf07c00e4aa462ae8fc11d6", func := "descant/descantlaw30.MendWhole", spec := "mendWhole", unfollowed := true, recurses := true, apart := false, narrowed := true }
def MendWholeUptoSaid : Prop := mendWholeUptoRow.holds Try.pinned (OpenSpec.upto mendWholeSpec)

end Rows
end Go.Proofs.Ytfeicdflkpgbnaa
