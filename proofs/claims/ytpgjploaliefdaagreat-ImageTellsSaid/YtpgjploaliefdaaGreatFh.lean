/- frames.Put. LONE=1. No conditions. -/
import Derived.Test.YtpgjploaliefdaaGreatFf
import Derived.WalkMore
import Derived.Deep.RegionHeld3
import Derived.Deep.RegionWith
namespace Go.Proofs.YtpgjploaliefdaaGreat.fr
open Go.RowKit cm cw
set_option linter.unusedVariables false
set_option linter.unusedSimpArgs false
theorem aF(l:List Nat):(aG l).size=l.length:=by unfold aG;rw[strOfNums_size];simp
def oN(id:Nat)(body:ByteArray):ByteArray:=aG [id]++aG (aW body.size)++body
def fF(id:Nat)(body:ByteArray):ByteArray:=oN id body++jM (iR (aQ (oN id body)))
theorem OU(b:Nat)(x:Nat)(W:World)(h:W.cell? ⟨b,0,none⟩=some (.int .u8 (x:Int))):
  (convert 91 9 (.slice (some ⟨b,0,none⟩) 1 1)).run Tryz.prog W=.ok (.string (aG [x])) W:=by
 refine run_convert_bytes_arg (P:=Tryz.prog) W 91 5 Tryz.underlying91 Tryz.underlying5 b 0 1 1 [(x:Int)] rfl (λi hi=> ?_) 9 Tryz.underlying9
 obtain rfl:i=0:=by omega
 exact h
theorem gI(A B:ByteArray)(h:A.size+B.size<1000000000000):∀w:World,(Op.stringOp .add A B).run Tryz.prog w=.ok (.string (A++B)) w:=λw=>run_string_add_sum w A B (by omega)
set_option maxRecDepth 100000 in
set_option maxHeartbeats 4000000 in
theorem Vp(id:Nat)(body:ByteArray)(w:World)(h1:1<=id)(h2:id<=127)(hs:body.size<100000000000):
  Calls Tryz.prog 60 #[.int .i64 id,.string body] w λe w'=>e=.returned (.tuple #[.string (fF id body),.int .i64 0])/\Below w.heap.size w w':=by
 have hw8:IntKind.u8.wrap (id:Int)=(id:Int):=II _ (by omega)
 have hw64:IntKind.u64.wrap (body.size:Int)=(body.size:Int):=Am _ (by omega)
 have hbig:¬127<(id:Int):=by omega
 have hcv:∀(n:Nat)(W':World),W'.cell? ⟨n,0,none⟩=some (.int .u8 (id:Int))->(convert 91 9 (.slice (some ⟨n,0,none⟩) 1 1)).run Tryz.prog W'=.ok (.string (aG [id])) W':=λn W' h=>OU _ id _ h
 have hAs:(aG [id]).size=1:=aF _
 have hBs:(aG (aW body.size)).size<=10:=by rw[aF];exact aX (by omega)
 have HF:Hid (fF id body=oN id body++jM (iR (aQ (oN id body)))):=Lib.hid rfl
 have HH:Hid (oN id body=aG [id]++aG (aW body.size)++body):=Lib.hid rfl
 have HP:=Lib.hid (put_any body.size)
 generalize aG [id]=A at*
 generalize aG (aW body.size)=B at*
 have Vq:=gI A B (by omega)
 have ad2:=gI (A++B) body (by simp;omega)
 have hHs:(A++B++body).size<=maxLen:=by unfold maxLen;simp;omega
 have hS:=zq (aQ (A++B++body)) (c:=0) (by omega) (nD _)
 change iR (aQ (A++B++body))<_ at hS
 generalize hX:iR (aQ (A++B++body))=X at*
 have HX:=Lib.hid hX
 have HZ:=Lib.hid (J5 X)
 have hZs:(jM X).size=4:=by unfold jM;rw[aF];simp[le4]
 have HF2:Hid (fF id body=A++B++body++jM X):=Lib.hid (by rw[HF.out,HH.out,hX])
 clear hX HF HH
 generalize jM X=Z at*
 have ad3:=gI (A++B++body) Z (by simp;omega)
 go_enter Tryz.func60,Tryz.ntmps60
 go_wp2_with fail
 go_region_with
  (first
   |(go_at_call 45;refine(HP.out _ (by omega)).mono ?_;rintro e w1 ⟨rfl,k1⟩;obtain⟨k1c,k1f⟩:=vF k1;have k1z:=k1.size))
 all_goals
  clear hcv HP Vq ad2
  go_wp2_with fail
  refine(sum_any _ _ hHs).mono ?_
  rintro e w2 ⟨rfl,k2⟩
  rw[HX.out]
  go_wp2_with fail
  refine(HZ.out _ hS).mono ?_
  rintro e w3 ⟨rfl,k3⟩
  go_wp2_with fail
  go_ret2
  exact⟨by rw[HF2.out];rfl,by exact bm⟩
theorem Vr(id:Int)(body:ByteArray)(w:World)(h:id<1\/127<id):
  Calls Tryz.prog 60 #[.int .i64 id,.string body] w λe w'=>e=.returned (.tuple #[.string ⟨#[]⟩,.int .i64 1])/\Below w.heap.size w w':=by
 by_cases h1:id<1
 ·go_enter Tryz.func60,Tryz.ntmps60
  go_wp2_with fail
  all_goals first|(exfalso;omega)|(go_ret2;exact⟨rfl,by exact bm⟩)
 ·have h2:127<id:=by omega
  have h3:1<=id:=by omega
  go_enter Tryz.func60,Tryz.ntmps60
  go_wp2_with fail
  all_goals first|(exfalso;omega)|(go_ret2;exact⟨rfl,by exact bm⟩)
end Go.Proofs.YtpgjploaliefdaaGreat.fr
