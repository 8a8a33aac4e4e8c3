/-
  No cell of these rows narrows 'for every input' (looked for: loops, veiled, ifaces, maps, wideKeys, modest, calm, conditions, laid).
  DERIVED. THE GIVEN ROWS OF THIS SEAT. 6 by the template 'for every input the law returns true; each argument reads behind the call as it read before'; 0 by the template 'total and deterministic' (their statements: YtnhpjlgmkfbojaaTotals.lean).
  GIVEN WITH THE SEED: the statements are not yours to turn. If you find one false, say at which input.
  Laid BY PROGRAM, IN A SANDBOX (cutbox-rows.mjs): the forced cells as the released guide's own fill.sh prints them over the translation 2d940d692056bf0d… (all of the seat's roots in one cut). By AI agents, Wed Nov 11 2026. No macro, syntax, notation, axiom, sorry.
-/
import Derived.Test.YtnhpjlgmkfbojaaChecked
import GoSem.Claim
import GoSem.ClaimJoined
import GoSem.ClaimMapViews
import Derived.JoinedTies
import Derived.KernelRfl
namespace Go.Proofs.Ytnhpjlgmkfbojaa
/- THE CELL 'sum', in the pinned program and in every row, IS THE sha256 OF THE DUMP (.gsa) THAT YtnhpjlgmkfbojaaProg.lean LOADS. Nothing in Lean hashes anything: it is a label: what it is worth is what the hold of that sum in a sandbox is worth. -/
noncomputable def Try.pinned : Pinned := { name := "ytnhpjlgmkfbojaa", sum := "2d940d692056bf0de7c1244abf8fb771462676c0af1ad22932c6c07b19d789f8", checked := Try.checked }
namespace Rows
def none {H : Type} : Left H := { results := [], args := [] }

/-- 'cromlechlaw05.HeaderTells': WHATEVER THE INPUT: true; the input reads as it did. -/
def headerTellsSpec : ChangeSpec := { name := "headerTells", fn := fun _ => fun
  | [d1, d2, d3] => { results := [.lit (.bool true)], args := [d1, d2, d3] }
  | _ => none }
def headerTellsRow : OpenClaim := { program := "ytnhpjlgmkfbojaa", sum := "2d940d692056bf0de7c1244abf8fb771462676c0af1ad22932c6c07b19d789f8", func := "cromlech/cromlechlaw05.HeaderTells", spec := "headerTells", apart := false }
def HeaderTellsSaid : Prop := headerTellsRow.holds Try.pinned (OpenSpec.ofChange headerTellsSpec)

/-- ITS FALSE NEIGHBOUR: 'it returns false'. Refute it at one input. -/
def headerTellsWrong : ChangeSpec := { name := "headerTells", fn := fun _ => fun
  | [d1, d2, d3] => { results := [.lit (.bool false)], args := [d1, d2, d3] }
  | _ => none }
def HeaderTellsWrongFalsely : Prop := headerTellsRow.holds Try.pinned (OpenSpec.ofChange headerTellsWrong)

/-- 'cromlechlaw05.HeaderBack': WHATEVER THE INPUT: true; the input reads as it did. -/
def headerBackSpec : ChangeSpec := { name := "headerBack", fn := fun _ => fun
  | [d1, d2, d3, d4] => { results := [.lit (.bool true)], args := [d1, d2, d3, d4] }
  | _ => none }
def headerBackRow : OpenClaim := { program := "ytnhpjlgmkfbojaa", sum := "2d940d692056bf0de7c1244abf8fb771462676c0af1ad22932c6c07b19d789f8", func := "cromlech/cromlechlaw05.HeaderBack", spec := "headerBack", apart := false }
def HeaderBackSaid : Prop := headerBackRow.holds Try.pinned (OpenSpec.ofChange headerBackSpec)

/-- ITS FALSE NEIGHBOUR: 'it returns false'. Refute it at one input. -/
def headerBackWrong : ChangeSpec := { name := "headerBack", fn := fun _ => fun
  | [d1, d2, d3, d4] => { results := [.lit (.bool false)], args := [d1, d2, d3, d4] }
  | _ => none }
def HeaderBackWrongFalsely : Prop := headerBackRow.holds Try.pinned (OpenSpec.ofChange headerBackWrong)

/-- 'cromlechlaw05.HeaderForms': WHATEVER THE INPUT: true; the input reads as it did. -/
def headerFormsSpec : ChangeSpec := { name := "headerForms", fn := fun _ => fun
  | [d] => { results := [.lit (.bool true)], args := [d] }
  | _ => none }
def headerFormsRow : OpenClaim := { program := "ytnhpjlgmkfbojaa", sum := "2d940d692056bf0de7c1244abf8fb771462676c0af1ad22932c6c07b19d789f8", func := "cromlech/cromlechlaw05.HeaderForms", spec := "headerForms", apart := false }
def HeaderFormsSaid : Prop := headerFormsRow.holds Try.pinned (OpenSpec.ofChange headerFormsSpec)

/-- ITS FALSE NEIGHBOUR: 'it returns false'. Refute it at one input. -/
def headerFormsWrong : ChangeSpec := { name := "headerForms", fn := fun _ => fun
  | [d] => { results := [.lit (.bool false)], args := [d] }
  | _ => none }
def HeaderFormsWrongFalsely : Prop := headerFormsRow.holds Try.pinned (OpenSpec.ofChange headerFormsWrong)

/-- 'cromlechlaw05.HeaderOrder': WHATEVER THE INPUT: true; the input reads as it did. -/
def headerOrderSpec : ChangeSpec := { name := "headerOrder", fn := fun _ => fun
  | [d1, d2, d3, d4] => { results := [.lit (.bool true)], args := [d1, d2, d3, d4] }
  | _ => none }
def headerOrderRow : OpenClaim := { program := "ytnhpjlgmkfbojaa", sum := "2d940d692056bf0de7c1244abf8fb771462676c0af1ad22932c6c07b19d789f8", func := "cromlech/cromlechlaw05.HeaderOrder", spec := "headerOrder", apart := false }
def HeaderOrderSaid : Prop := headerOrderRow.holds Try.pinned (OpenSpec.ofChange headerOrderSpec)

/-- ITS FALSE NEIGHBOUR: 'it returns false'. Refute it at one input. -/
def headerOrderWrong : ChangeSpec := { name := "headerOrder", fn := fun _ => fun
  | [d1, d2, d3, d4] => { results := [.lit (.bool false)], args := [d1, d2, d3, d4] }
  | _ => none }
def HeaderOrderWrongFalsely : Prop := headerOrderRow.holds Try.pinned (OpenSpec.ofChange headerOrderWrong)

/-- 'cromlechlaw05.HeaderSlots': WHATEVER THE INPUT: true; the input reads as it did. -/
def headerSlotsSpec : ChangeSpec := { name := "headerSlots", fn := fun _ => fun
  | [d] => { results := [.lit (.bool true)], args := [d] }
  | _ => none }
def headerSlotsRow : OpenClaim := { program := "ytnhpjlgmkfbojaa", sum := "2d940d692056bf0de7c1244abf8fb771462676c0af1ad22932c6c07b19d789f8", func := "cromlech/cromlechlaw05.HeaderSlots", spec := "headerSlots", apart := false }
def HeaderSlotsSaid : Prop := headerSlotsRow.holds Try.pinned (OpenSpec.ofChange headerSlotsSpec)

/-- ITS FALSE NEIGHBOUR: 'it returns false'. Refute it at one input. -/
def headerSlotsWrong : ChangeSpec := { name := "headerSlots", fn := fun _ => fun
  | [d] => { results := [.lit (.bool false)], args := [d] }
  | _ => none }
def HeaderSlotsWrongFalsely : Prop := headerSlotsRow.holds Try.pinned (OpenSpec.ofChange headerSlotsWrong)

/-- 'cromlechlaw05.HeaderNext': WHATEVER THE INPUT: true; the input reads as it did. -/
def headerNextSpec : ChangeSpec := { name := "headerNext", fn := fun _ => fun
  | [d1, d2] => { results := [.lit (.bool true)], args := [d1, d2] }
  | _ => none }
def headerNextRow : OpenClaim := { program := "ytnhpjlgmkfbojaa", sum := "2d940d692056bf0de7c1244abf8fb771462676c0af1ad22932c6c07b19d789f8", func := "cromlech/cromlechlaw05.HeaderNext", spec := "headerNext", apart := false }
def HeaderNextSaid : Prop := headerNextRow.holds Try.pinned (OpenSpec.ofChange headerNextSpec)

/-- ITS FALSE NEIGHBOUR: 'it returns false'. Refute it at one input. -/
def headerNextWrong : ChangeSpec := { name := "headerNext", fn := fun _ => fun
  | [d1, d2] => { results := [.lit (.bool false)], args := [d1, d2] }
  | _ => none }
def HeaderNextWrongFalsely : Prop := headerNextRow.holds Try.pinned (OpenSpec.ofChange headerNextWrong)

/- THE SECOND FORM. 'bulk': how many values and letters a reading holds, each counted each time it is reached (what is shared counts as often as it is met; a slice's spare places count too). A statement '..UptoSaid' is the law's where the arguments, and the package variables that the reading takes, are together of bulk at most 1048576: NARROWER than '..Said'. Prove '..Said' where nothing that the law and all that it calls make is longer than what came in: it says more and counts as full. Else prove '..UptoSaid'. A law counts once. -/
mutual
def uptoBulk {H : Type} : DataW H → Nat
  | .lit (.string bytes) => bytes.length + 1
  | .lit _ => 1
  | .nil => 1
  | .ptr d => uptoBulk d + 1
  | .slice elems spare => uptoBulkAll elems + uptoBulkAll spare + 1
  | .agg parts => uptoBulkAll parts + 1
  | .iface _ d => uptoBulk d + 1
  | .map entries => uptoBulkEntries entries + 1
  | .held _ => 1
def uptoBulkAll {H : Type} : List (DataW H) → Nat
  | [] => 0
  | d :: r => uptoBulk d + uptoBulkAll r
def uptoBulkEntries {H : Type} : List (Lit × DataW H) → Nat
  | [] => 0
  | x :: r => uptoBulkEntry x + uptoBulkEntries r
def uptoBulkEntry {H : Type} : Lit × DataW H → Nat
  | (.string bytes, d) => bytes.length + uptoBulk d + 1
  | (_, d) => uptoBulk d + 1
 end
def uptoSmall : (H : Type) → List (DataW H) → Bool := fun _ ds => decide (uptoBulkAll ds ≤ 1048576)
def OpenSpec.upto (s : _root_.Go.ChangeSpec) : _root_.Go.OpenSpec := { _root_.Go.OpenSpec.ofChange s with cond := some uptoSmall }

/-- 'cromlechlaw05.HeaderTells', WHERE WHAT IT READS IS OF BULK AT MOST 1048576: true; the input reads as it did. -/
def headerTellsUptoRow : OpenClaim := { program := "ytnhpjlgmkfbojaa", sum := "2d940d692056bf0de7c1244abf8fb771462676c0af1ad22932c6c07b19d789f8", func := "cromlech/cromlechlaw05.HeaderTells", spec := "headerTells", apart := false, narrowed := true }
def HeaderTellsUptoSaid : Prop := headerTellsUptoRow.holds Try.pinned (OpenSpec.upto headerTellsSpec)

/-- 'cromlechlaw05.HeaderBack', WHERE WHAT IT READS IS OF BULK AT MOST 1048576: true; the input reads as it did. -/
def headerBackUptoRow : OpenClaim := { program := "ytnhpjlgmkfbojaa", sum := "2d940d692056bf0de7c1244abf8fb771462676c0af1ad22932c6c07b19d789f8", func := "cromlech/cromlechlaw05.HeaderBack", spec := "headerBack", apart := false, narrowed := true }
def HeaderBackUptoSaid : Prop := headerBackUptoRow.holds Try.pinned (OpenSpec.upto headerBackSpec)

/-- 'cromlechlaw05.HeaderForms', WHERE WHAT IT READS IS OF BULK AT MOST 1048576: true; the input reads as it did. -/
def headerFormsUptoRow : OpenClaim := { program := "ytnhpjlgmkfbojaa", sum := "2d940d692056bf0de7c1244abf8fb771462676c0af1ad22932c6c07b19d789f8", func := "cromlech/cromlechlaw05.HeaderForms", spec := "headerForms", apart := false, narrowed := true }
def HeaderFormsUptoSaid : Prop := headerFormsUptoRow.holds Try.pinned (OpenSpec.upto headerFormsSpec)

/-- 'cromlechlaw05.HeaderOrder', WHERE WHAT IT READS IS OF BULK AT MOST 1048576: true; the input reads as it did. -/
def headerOrderUptoRow : OpenClaim := { program := "ytnhpjlgmkfbojaa", sum := "2d940d692056bf0de7c1244abf8fb771462676c0af1ad22932c6c07b19d789f8", func := "cromlech/cromlechlaw05.HeaderOrder", spec := "headerOrder", apart := false, narrowed := true }
def HeaderOrderUptoSaid : Prop := headerOrderUptoRow.holds Try.pinned (OpenSpec.upto headerOrderSpec)

/-- 'cromlechlaw05.HeaderSlots', WHERE WHAT IT READS IS OF BULK AT MOST 1048576: true; the input reads as it did. -/
def headerSlotsUptoRow : OpenClaim := { program := "ytnhpjlgmkfbojaa", sum := "2d940d692056bf0de7c1244abf8fb771462676c0af1ad22932c6c07b19d789f8", func := "cromlech/cromlechlaw05.HeaderSlots", spec := "headerSlots", apart := false, narrowed := true }
def HeaderSlotsUptoSaid : Prop := headerSlotsUptoRow.holds Try.pinned (OpenSpec.upto headerSlotsSpec)

/-- 'cromlechlaw05.HeaderNext', WHERE WHAT IT READS IS OF BULK AT MOST 1048576: true; the input reads as it did. -/
def headerNextUptoRow : OpenClaim := { program := "ytnhpjlgmkfbojaa", sum := "2d940d692056bf0de7c1244abf8fb771462676c0af1ad22932c6c07b19d789f8", func := "cromlech/cromlechlaw05.HeaderNext", spec := "headerNext", apart := false, narrowed := true }
def HeaderNextUptoSaid : Prop := headerNextUptoRow.holds Try.pinned (OpenSpec.upto headerNextSpec)

end Rows
end Go.Proofs.Ytnhpjlgmkfbojaa
