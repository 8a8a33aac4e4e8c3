/- cut.next, cut.holds. LONE=1. No conditions. -/
import Derived.Test.YtpgjploaliefdaaGreatG17
import Derived.Deep.RegionHeld3
import Derived.Laws.StructEq
namespace Go.Proofs.YtpgjploaliefdaaGreat.fr
open Go.RowKit cm cw
set_option linter.unusedVariables false
set_option linter.unusedSimpArgs false
def cutV(a b s:Int):Value:=.agg #[.int .i64 a,.int .i64 b,.int .i64 s]
theorem acB{W w1:World}(hb:Below W.heap.size W w1){p0 p1 p2:Addr}{u0 u1 u2:Value}(h:W.cell? p0=some u0/\W.cell? p1=some u1/\W.cell? p2=some u2):
  w1.cell? p0=some u0/\w1.cell? p1=some u1/\w1.cell? p2=some u2:=⟨ah hb h.1,ah hb h.2.1,ah hb h.2.2⟩
def gbE(s:ByteArray)(c:Int×Int×Int):Bool:=s.extract c.2.2.toNat (c.2.2+4).toNat==jM (iR (aQ (s.extract c.1.toNat c.2.2.toNat)))
theorem afl{s:ByteArray}{c:Int×Int×Int}(h0:0<=c.1)(h1:0<=c.2.1)(h2:c.1<=c.2.2)(h3:c.2.2+4<=(s.size:Int)):∃a b n:Nat,c=((a:Int),(b:Int),(n:Int))/\a<=n/\n+4<=s.size:=by
 obtain⟨x,y,z⟩:=c
 dsimp only at*
 obtain⟨a,rfl⟩:=Int.eq_ofNat_of_zero_le h0
 obtain⟨b,rfl⟩:=Int.eq_ofNat_of_zero_le h1
 obtain⟨n,rfl⟩:=Int.eq_ofNat_of_zero_le (show 0<=z by omega)
 exact⟨a,b,n,rfl,by omega,by omega⟩
end Go.Proofs.YtpgjploaliefdaaGreat.fr
