/- frames.Put. LONE=1. No conditions. -/
import Derived.Test.YtlncengggmgdgaaGreatG18
import Derived.Test.YtlncengggmgdgaaGreatG23
import Derived.WalkMore
import Derived.Deep.RegionHeld3
import Derived.Deep.RegionWith
set_option linter.unusedVariables false
set_option linter.unusedSimpArgs false
namespace Go.Proofs.YtlncengggmgdgaaGreat.fr
open Go.RowKit cm cw
variable {HC : Code}
attribute [local irreducible] par.ah
theorem dN(l:List Nat):(dL l).size=l.length:=by unfold dL;rw[strOfNums_size];simp
def zN(id:Nat)(body:ByteArray):ByteArray:=dL [id]++dL (bM body.size)++body
def jD(id:Nat)(body:ByteArray):ByteArray:=zN id body++jM (ni (au (zN id body)))
theorem XZ(b:Nat)(x:Nat)(W:World)(h:W.cell? ⟨b,0,none⟩=some (.int .u8 (x:Int))):
  (convert 92 9 (.slice (some ⟨b,0,none⟩) 1 1)).run (par.ah HC) W=.ok (.string (dL [x])) W:=by
 refine run_convert_bytes_arg (P:=(par.ah HC)) W 92 5 ((par.aB HC 92).trans Tryz.underlying92) ((par.aB HC 5).trans Tryz.underlying5) b 0 1 1 [(x:Int)] rfl (λi hi=> ?_) 9 ((par.aB HC 9).trans Tryz.underlying9)
 obtain rfl:i=0:=by omega
 exact h
theorem kC(A B:ByteArray)(h:A.size+B.size<1000000000000):∀w:World,(Op.stringOp .add A B).run (par.ah HC) w=.ok (.string (A++B)) w:=λw=>run_string_add_sum w A B (by omega)
end Go.Proofs.YtlncengggmgdgaaGreat.fr
