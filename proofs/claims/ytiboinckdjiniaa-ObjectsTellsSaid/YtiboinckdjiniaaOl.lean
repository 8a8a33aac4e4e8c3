/- ObjectsTells: the walk, its arguments in the shell's order. No conditions. -/
import Derived.Test.YtiboinckdjiniaaOk
namespace Go.Proofs.Ytiboinckdjiniaa.ob
open Go.RowKit Go.Proofs.Ytiboinckdjiniaa.hd
theorem tells_walk_arg (v0 : Value) (z0 : List Int) (v1 : Value) (L : List Rw) (wh x : Int) (v4 : Value) (ss : List (Int × Int)) (v5 : Value) (os : List Ob) (sz pt : Int) (v7 : Value) (z7 : List Int) (w : World) (h0 : RowIn w v0 z0) (hL : RawsIn w v1 L) (h2 : i64In wh) (hx : 0 ≤ x ∧ x < 18446744073709551616) (h4 : SRowIn w v4 ss) (h5 : ORowIn w v5 os) (h61 : i64In sz) (h62 : i64In pt) (h7 : RowIn w v7 z7) :
    Calls Try.prog 3 #[v0, v1, .int .i64 wh, .int .u64 x, v4, v5, .agg #[.int .i64 sz, .int .i64 pt], v7] w fun e w' => e = .returned (.bool true) ∧ Below w.heap.size w w' :=
  tells_walk_law v0 v1 v4 v5 v7 z0 L wh x ss os sz pt z7 w h0 hL h2 hx h4 h5 h61 h62 h7
end Go.Proofs.Ytiboinckdjiniaa.ob
