/- ObjectsLay: the walk, of raw numbers as they came in. No conditions. -/
import Derived.Test.YtiboinckdjiniaaSh
import Derived.Test.YtiboinckdjiniaaOp
namespace Go.Proofs.Ytiboinckdjiniaa.ob
open Go.RowKit Go.Proofs.Ytiboinckdjiniaa.hd
set_option linter.unusedVariables false
theorem lay_all (r : Rw) (at' x : Int) (w : World) (hr : RawOk w r) (h3 : i64In at') (hx : 0 ≤ x ∧ x < 18446744073709551616) :
    Calls Try.prog 8 #[rawV r.sz r.pt r.sl r.g, .int .i64 at', .int .u64 x] w fun e w' => e = .returned (.bool true) ∧ Below w.heap.size w w' :=
  lay_walk r.sz r.pt r.sl r.g at' x r.zs w hr.sl hr.sz hr.pt h3 hx
end Go.Proofs.Ytiboinckdjiniaa.ob
