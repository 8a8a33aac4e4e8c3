/- Maps of the call's own, keyed by uint64, as functions. Any program. No conditions. -/
import Derived.Test.YtlncengggmgdgaaGreatGr
import Derived.Maps.OwnSet
import Derived.Maps.OwnOps
set_option linter.unusedVariables false
set_option linter.unusedSimpArgs false
namespace Go.Proofs.YtlncengggmgdgaaGreat.mp
open Go Go.RowKit gr
open Go.Maps (Keyed)
variable {P : Program} {k : TypeId} {W : World} {b n : Nat} {f : Int → Option Value}
section
variable (w : World) {ops : Array Oper} {rest : List Oper} {o : Oper} {a : Act} {Q : Exit → Act → World → Prop}
end
end Go.Proofs.YtlncengggmgdgaaGreat.mp
