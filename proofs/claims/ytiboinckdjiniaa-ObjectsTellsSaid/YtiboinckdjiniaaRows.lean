/-
  No cell of these rows narrows 'for every input' (looked for: loops, veiled, ifaces, maps, wideKeys, modest, calm, conditions, laid).
  DERIVED. THE GIVEN ROWS OF THIS SEAT. 6 by the template 'for every input the law returns true; each argument reads behind the call as it read before'; 0 by the template 'total and deterministic' (their statements: YtiboinckdjiniaaTotals.lean).
  GIVEN WITH THE SEED: the statements are not yours to turn. If you find one false, say at which input.
  Laid BY PROGRAM, IN A SANDBOX (cutbox-rows.mjs): the forced cells as the released guide's own fill.sh prints them over the translation 3e5bfa4941c4b148… (all of the seat's roots in one cut). By AI agents, Wed Nov 11 2026. No macro, syntax, notation, axiom, sorry.
-/
import Derived.Test.YtiboinckdjiniaaChecked
import GoSem.Claim
import GoSem.ClaimJoined
import GoSem.ClaimMapViews
import Derived.JoinedTies
import Derived.KernelRfl
namespace Go.Proofs.Ytiboinckdjiniaa
/- THE CELL 'sum', in the pinned program and in every row, IS THE sha256 OF THE DUMP (.gsa) THAT YtiboinckdjiniaaProg.lean LOADS. Nothing in Lean hashes anything: it is a label: what it is worth is what the hold of that sum in a sandbox is worth. -/
noncomputable def Try.pinned : Pinned := { name := "ytiboinckdjiniaa", sum := "3e5bfa4941c4b148c81f5ba89d7202ec03c67d746c84c564ee4d688fe3d8c0e0", checked := Try.checked }
namespace Rows
def none {H : Type} : Left H := { results := [], args := [] }

/-- 'cromlechlaw06.ObjectsTells': WHATEVER THE INPUT: true; the input reads as it did. -/
def objectsTellsSpec : ChangeSpec := { name := "objectsTells", fn := fun _ => fun
  | [d1, d2, d3, d4, d5, d6, d7, d8] => { results := [.lit (.bool true)], args := [d1, d2, d3, d4, d5, d6, d7, d8] }
  | _ => none }
def objectsTellsRow : OpenClaim := { program := "ytiboinckdjiniaa", sum := "3e5bfa4941c4b148c81f5ba89d7202ec03c67d746c84c564ee4d688fe3d8c0e0", func := "cromlech/cromlechlaw06.ObjectsTells", spec := "objectsTells", unfollowed := true, recurses := true, apart := false }
def ObjectsTellsSaid : Prop := objectsTellsRow.holds Try.pinned (OpenSpec.ofChange objectsTellsSpec)

/-- ITS FALSE NEIGHBOUR: 'it returns false'. Refute it at one input. -/
def objectsTellsWrong : ChangeSpec := { name := "objectsTells", fn := fun _ => fun
  | [d1, d2, d3, d4, d5, d6, d7, d8] => { results := [.lit (.bool false)], args := [d1, d2, d3, d4, d5, d6, d7, d8] }
  | _ => none }
def ObjectsTellsWrongFalsely : Prop := objectsTellsRow.holds Try.pinned (OpenSpec.ofChange objectsTellsWrong)

/-- 'cromlechlaw06.ObjectsBack': WHATEVER THE INPUT: true; the input reads as it did. -/
def objectsBackSpec : ChangeSpec := { name := "objectsBack", fn := fun _ => fun
  | [d] => { results := [.lit (.bool true)], args := [d] }
  | _ => none }
def objectsBackRow : OpenClaim := { program := "ytiboinckdjiniaa", sum := "3e5bfa4941c4b148c81f5ba89d7202ec03c67d746c84c564ee4d688fe3d8c0e0", func := "cromlech/cromlechlaw06.ObjectsBack", spec := "objectsBack", unfollowed := true, recurses := true, apart := false }
def ObjectsBackSaid : Prop := objectsBackRow.holds Try.pinned (OpenSpec.ofChange objectsBackSpec)

/-- ITS FALSE NEIGHBOUR: 'it returns false'. Refute it at one input. -/
def objectsBackWrong : ChangeSpec := { name := "objectsBack", fn := fun _ => fun
  | [d] => { results := [.lit (.bool false)], args := [d] }
  | _ => none }
def ObjectsBackWrongFalsely : Prop := objectsBackRow.holds Try.pinned (OpenSpec.ofChange objectsBackWrong)

/-- 'cromlechlaw06.ObjectsOld': WHATEVER THE INPUT: true; the input reads as it did. -/
def objectsOldSpec : ChangeSpec := { name := "objectsOld", fn := fun _ => fun
  | [d] => { results := [.lit (.bool true)], args := [d] }
  | _ => none }
def objectsOldRow : OpenClaim := { program := "ytiboinckdjiniaa", sum := "3e5bfa4941c4b148c81f5ba89d7202ec03c67d746c84c564ee4d688fe3d8c0e0", func := "cromlech/cromlechlaw06.ObjectsOld", spec := "objectsOld", unfollowed := true, recurses := true, apart := false }
def ObjectsOldSaid : Prop := objectsOldRow.holds Try.pinned (OpenSpec.ofChange objectsOldSpec)

/-- ITS FALSE NEIGHBOUR: 'it returns false'. Refute it at one input. -/
def objectsOldWrong : ChangeSpec := { name := "objectsOld", fn := fun _ => fun
  | [d] => { results := [.lit (.bool false)], args := [d] }
  | _ => none }
def ObjectsOldWrongFalsely : Prop := objectsOldRow.holds Try.pinned (OpenSpec.ofChange objectsOldWrong)

/-- 'cromlechlaw06.ObjectsParts': WHATEVER THE INPUT: true; the input reads as it did. -/
def objectsPartsSpec : ChangeSpec := { name := "objectsParts", fn := fun _ => fun
  | [d1, d2] => { results := [.lit (.bool true)], args := [d1, d2] }
  | _ => none }
def objectsPartsRow : OpenClaim := { program := "ytiboinckdjiniaa", sum := "3e5bfa4941c4b148c81f5ba89d7202ec03c67d746c84c564ee4d688fe3d8c0e0", func := "cromlech/cromlechlaw06.ObjectsParts", spec := "objectsParts", unfollowed := true, recurses := true, apart := false }
def ObjectsPartsSaid : Prop := objectsPartsRow.holds Try.pinned (OpenSpec.ofChange objectsPartsSpec)

/-- ITS FALSE NEIGHBOUR: 'it returns false'. Refute it at one input. -/
def objectsPartsWrong : ChangeSpec := { name := "objectsParts", fn := fun _ => fun
  | [d1, d2] => { results := [.lit (.bool false)], args := [d1, d2] }
  | _ => none }
def ObjectsPartsWrongFalsely : Prop := objectsPartsRow.holds Try.pinned (OpenSpec.ofChange objectsPartsWrong)

/-- 'cromlechlaw06.ObjectsSlots': WHATEVER THE INPUT: true; the input reads as it did. -/
def objectsSlotsSpec : ChangeSpec := { name := "objectsSlots", fn := fun _ => fun
  | [d1, d2, d3] => { results := [.lit (.bool true)], args := [d1, d2, d3] }
  | _ => none }
def objectsSlotsRow : OpenClaim := { program := "ytiboinckdjiniaa", sum := "3e5bfa4941c4b148c81f5ba89d7202ec03c67d746c84c564ee4d688fe3d8c0e0", func := "cromlech/cromlechlaw06.ObjectsSlots", spec := "objectsSlots", unfollowed := true, recurses := true, apart := false }
def ObjectsSlotsSaid : Prop := objectsSlotsRow.holds Try.pinned (OpenSpec.ofChange objectsSlotsSpec)

/-- ITS FALSE NEIGHBOUR: 'it returns false'. Refute it at one input. -/
def objectsSlotsWrong : ChangeSpec := { name := "objectsSlots", fn := fun _ => fun
  | [d1, d2, d3] => { results := [.lit (.bool false)], args := [d1, d2, d3] }
  | _ => none }
def ObjectsSlotsWrongFalsely : Prop := objectsSlotsRow.holds Try.pinned (OpenSpec.ofChange objectsSlotsWrong)

/-- 'cromlechlaw06.ObjectsLay': WHATEVER THE INPUT: true; the input reads as it did. -/
def objectsLaySpec : ChangeSpec := { name := "objectsLay", fn := fun _ => fun
  | [d1, d2, d3] => { results := [.lit (.bool true)], args := [d1, d2, d3] }
  | _ => none }
def objectsLayRow : OpenClaim := { program := "ytiboinckdjiniaa", sum := "3e5bfa4941c4b148c81f5ba89d7202ec03c67d746c84c564ee4d688fe3d8c0e0", func := "cromlech/cromlechlaw06.ObjectsLay", spec := "objectsLay", unfollowed := true, recurses := true, apart := false }
def ObjectsLaySaid : Prop := objectsLayRow.holds Try.pinned (OpenSpec.ofChange objectsLaySpec)

/-- ITS FALSE NEIGHBOUR: 'it returns false'. Refute it at one input. -/
def objectsLayWrong : ChangeSpec := { name := "objectsLay", fn := fun _ => fun
  | [d1, d2, d3] => { results := [.lit (.bool false)], args := [d1, d2, d3] }
  | _ => none }
def ObjectsLayWrongFalsely : Prop := objectsLayRow.holds Try.pinned (OpenSpec.ofChange objectsLayWrong)

/- THE SECOND FORM. 'bulk': how many values and letters a reading holds, each counted each time it is reached (what is shared counts as often as it is met; a slice's spare places count too). A statement '..UptoSaid' is the law's where the arguments, and the package variables that the reading takes, are together of bulk at most 1048576: NARROWER than '..Said'. Prove '..Said' where nothing that the law and all that it calls make is longer than what came in: it says more and counts as full. Else prove '..UptoSaid'. A law counts once. -/
mutual
def uptoBulk {H : Type} : DataW H → Nat
  | .lit (.string bytes) => bytes.length + 1
  | .lit _ => 1
  | .nil => 1
  | .ptr d => uptoBulk d + 1
  | .slice elems spare => uptoBulkAll elems + uptoBulkAll spare + 1
  | .agg parts => uptoBulkAll parts + 1
  | .iface _ d => uptoBulk d + 1
  | .map entries => uptoBulkEntries entries + 1
  | .held _ => 1
def uptoBulkAll {H : Type} : List (DataW H) → Nat
  | [] => 0
  | d :: r => uptoBulk d + uptoBulkAll r
def uptoBulkEntries {H : Type} : List (Lit × DataW H) → Nat
  | [] => 0
  | x :: r => uptoBulkEntry x + uptoBulkEntries r
def uptoBulkEntry {H : Type} : Lit × DataW H → Nat
  | (.string bytes, d) => bytes.length + uptoBulk d + 1
  | (_, d) => uptoBulk d + 1
 end
def uptoSmall : (H : Type) → List (DataW H) → Bool := fun _ ds => decide (uptoBulkAll ds ≤ 1048576)
def OpenSpec.upto (s : _root_.Go.ChangeSpec) : _root_.Go.OpenSpec := { _root_.Go.OpenSpec.ofChange s with cond := some uptoSmall }

/-- 'cromlechlaw06.ObjectsTells', WHERE WHAT IT READS IS OF BULK AT MOST 1048576: true; the input reads as it did. -/
def objectsTellsUptoRow : OpenClaim := { program := "ytiboinckdjiniaa", sum := "3e5bfa4941c4b148c81f5ba89d7202ec03c67d746c84c564ee4d688fe3d8c0e0", func := "cromlech/cromlechlaw06.ObjectsTells", spec := "objectsTells", unfollowed := true, recurses := true, apart := false, narrowed := true }
def ObjectsTellsUptoSaid : Prop := objectsTellsUptoRow.holds Try.pinned (OpenSpec.upto objectsTellsSpec)

/-- 'cromlechlaw06.ObjectsBack', WHERE WHAT IT READS IS OF BULK AT MOST 1048576: true; the input reads as it did. -/
def objectsBackUptoRow : OpenClaim := { program := "ytiboinckdjiniaa", sum := "3e5bfa4941c4b148c81f5ba89d7202ec03c67d746c84c564ee4d688fe3d8c0e0", func := "cromlech/cromlechlaw06.ObjectsBack", spec := "objectsBack", unfollowed := true, recurses := true, apart := false, narrowed := true }
def ObjectsBackUptoSaid : Prop := objectsBackUptoRow.holds Try.pinned (OpenSpec.upto objectsBackSpec)

/-- 'cromlechlaw06.ObjectsOld', WHERE WHAT IT READS IS OF BULK AT MOST 1048576: true; the input reads as it did. -/
def objectsOldUptoRow : OpenClaim := { program := "ytiboinckdjiniaa", sum := "3e5bfa4941c4b148c81f5ba89d7202ec03c67d746c84c564ee4d688fe3d8c0e0", func := "cromlech/cromlechlaw06.ObjectsOld", spec := "objectsOld", unfollowed := true, recurses := true, apart := false, narrowed := true }
def ObjectsOldUptoSaid : Prop := objectsOldUptoRow.holds Try.pinned (OpenSpec.upto objectsOldSpec)

/-- 'cromlechlaw06.ObjectsParts', WHERE WHAT IT READS IS OF BULK AT MOST 1048576: true; the input reads as it did. -/
def objectsPartsUptoRow : OpenClaim := { program := "ytiboinckdjiniaa", sum := "3e5bfa4941c4b148c81f5ba89d7202ec03c67d746c84c564ee4d688fe3d8c0e0", func := "cromlech/cromlechlaw06.ObjectsParts", spec := "objectsParts", unfollowed := true, recurses := true, apart := false, narrowed := true }
def ObjectsPartsUptoSaid : Prop := objectsPartsUptoRow.holds Try.pinned (OpenSpec.upto objectsPartsSpec)

/-- 'cromlechlaw06.ObjectsSlots', WHERE WHAT IT READS IS OF BULK AT MOST 1048576: true; the input reads as it did. -/
def objectsSlotsUptoRow : OpenClaim := { program := "ytiboinckdjiniaa", sum := "3e5bfa4941c4b148c81f5ba89d7202ec03c67d746c84c564ee4d688fe3d8c0e0", func := "cromlech/cromlechlaw06.ObjectsSlots", spec := "objectsSlots", unfollowed := true, recurses := true, apart := false, narrowed := true }
def ObjectsSlotsUptoSaid : Prop := objectsSlotsUptoRow.holds Try.pinned (OpenSpec.upto objectsSlotsSpec)

/-- 'cromlechlaw06.ObjectsLay', WHERE WHAT IT READS IS OF BULK AT MOST 1048576: true; the input reads as it did. -/
def objectsLayUptoRow : OpenClaim := { program := "ytiboinckdjiniaa", sum := "3e5bfa4941c4b148c81f5ba89d7202ec03c67d746c84c564ee4d688fe3d8c0e0", func := "cromlech/cromlechlaw06.ObjectsLay", spec := "objectsLay", unfollowed := true, recurses := true, apart := false, narrowed := true }
def ObjectsLayUptoSaid : Prop := objectsLayUptoRow.holds Try.pinned (OpenSpec.upto objectsLaySpec)

end Rows
end Go.Proofs.Ytiboinckdjiniaa
