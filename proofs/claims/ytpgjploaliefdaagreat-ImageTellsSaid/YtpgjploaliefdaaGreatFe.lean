/- varint.Take. LONE=1. No conditions. -/
import Derived.Test.YtpgjploaliefdaaGreatFc
import Derived.WalkMore
import Derived.OwnWalk
namespace Go.Proofs.YtpgjploaliefdaaGreat.fr
open Go.RowKit cm cw
set_option linter.unusedVariables false
set_option linter.unusedSimpArgs false
inductive VT where
 |ok (v n:Nat)
 |short
 |form
def vt(n v:Nat):List Nat->VT
 |[]=>.short
 |b::t=>if(n=9/\2<=b)\/(0<n/\b=0)then .form else if b<128 then .ok (v+b*128^n) (n+1)else vt (n+1) (v+(b-128)*128^n) t
def ak6(at_:Nat):VT->Value
 | .ok v n=>.tuple #[.int .u64 (v:Int),.int .i64 ((at_+n:Nat):Int),.int .i64 0]
 | .short=>.tuple #[.int .u64 0,.int .i64 0,.int .i64 2]
 | .form=>.tuple #[.int .u64 0,.int .i64 0,.int .i64 3]
theorem Zb{s:ByteArray}{p:Nat}(h:p<s.size):(aQ s).drop p=s[p].toNat::(aQ s).drop (p+1):=by
 have hl:p<(aQ s).length:=by rw[nC];exact h
 rw[List.drop_eq_getElem_cons hl]
 congr 1
 simp[aQ]
 rfl
theorem ahi{v d k:Nat}(hk:k<=9)(hv:v<128^k)(hd:d*128^k<18446744073709551616):bits .or .u64 (v:Int) (IntKind.u64.wrap ((d:Int)*2^(7*k)))=((v+d*128^k:Nat):Int):=by
 have e:(128:Nat)^k=2^(7*k):=by rw[Nat.pow_mul]
 have e2:(d:Int)*2^(7*k)=((d*128^k:Nat):Int):=by rw[e];push_cast;rfl
 rw[e2,Am _ (by omega)]
 rw[e]at hv hd⊢
 have hv2:v<18446744073709551616:=Nat.lt_of_lt_of_le hv (Nat.le_trans (Nat.pow_le_pow_right (by omega) (show 7*k<=63 by omega)) (by decide))
 rw[u64_or_nat v _ hv2 hd]
 have:=Nat.two_pow_add_eq_or_of_lt hv d
 rw[Nat.mul_comm]at this
 rw[Nat.or_comm,<-this,Nat.add_comm]
end Go.Proofs.YtpgjploaliefdaaGreat.fr
