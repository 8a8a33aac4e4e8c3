/- The reference of layer 6: small functions. No conditions. -/
import Derived.Test.YtpgjploaliefdaaOo
namespace Go.Proofs.Ytpgjploaliefdaa.ob
open Go.RowKit Go.Proofs.Ytpgjploaliefdaa.hd
set_option linter.unusedVariables false
set_option linter.unusedSimpArgs false
def rowOk (o : Ob) (ys : List Int) (k : Nat) : Prop := ∀ i, i < k → slotOk o i (ys.getD i 0) = true
theorem rowOk_succ {o : Ob} {ys : List Int} {k : Nat} (h : rowOk o ys k) : slotOk o k (ys.getD k 0) = true → rowOk o ys (k + 1) := fun g i hi => by
  by_cases e : i < k
  · exact h i e
  · obtain rfl : i = k := by omega
    exact g
theorem rowOk_bad {o : Ob} {ys : List Int} {k n : Nat} (h : k < n) : slotOk o k (ys.getD k 0) = false → ¬ rowOk o ys n := fun g q => by
  have := q k h; rw [g] at this; cases this
def SlotsPost (o : Ob) (ys : List Int) (S : Nat) (e : Ending) : Prop := (rowOk o ys S ∧ e = .returned (.int .i64 0)) ∨ (¬ rowOk o ys S ∧ e = .returned (.int .i64 3))
end Go.Proofs.Ytpgjploaliefdaa.ob
