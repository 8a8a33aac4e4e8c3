/- objects.Lay; Slots of raw numbers. No conditions. -/
import Derived.Test.YtpgjploaliefdaaSb
import Derived.Test.YtpgjploaliefdaaRa
namespace Go.Proofs.Ytpgjploaliefdaa.ob
open Go.RowKit Go.Proofs.Ytpgjploaliefdaa.hd
set_option linter.unusedVariables false
set_option linter.unusedSimpArgs false
/-- The first p of the slots may all be pointers'. -/
def ptrsOk (ys : List Int) (p : Nat) : Prop := ∀ i, i < p → ptrB (ys.getD i 0) = true
theorem ptrsOk_succ {ys : List Int} {k : Nat} (h : ptrsOk ys k) : ptrB (ys.getD k 0) = true → ptrsOk ys (k + 1) := fun g i hi => by
  by_cases e : i < k
  · exact h i e
  · obtain rfl : i = k := by omega
    exact g
theorem ptrsOk_bad {ys : List Int} {k n : Nat} (h : k < n) : ptrB (ys.getD k 0) = false → ¬ ptrsOk ys n := fun g q => by
  have := q k h; rw [g] at this; cases this
def layOk (s p : Int) (ys : List Int) : Prop := rightB s p = true ∧ (ys.length : Int) = s
/-- What Lay hands back. -/
def LayPost (B : Nat) (s p : Int) (ys : List Int) (e : Ending) (W : World) : Prop :=
  (¬ layOk s p ys ∧ e = .returned (.tuple #[.slice none 0 0, .int .i64 1])) ∨
  (layOk s p ys ∧ ¬ ptrsOk ys p.toNat ∧ e = .returned (.tuple #[.slice none 0 0, .int .i64 3])) ∨
  (layOk s p ys ∧ ptrsOk ys p.toNat ∧ ∃ v, e = .returned (.tuple #[v, .int .i64 0]) ∧ OwnNums W B v (packV s p :: ys))
theorem packE_ok {s p : Int} (h : rightB s p = true) : packE s p = 0 := by simp [packE, h]
theorem packE_no {s p : Int} (h : rightB s p = false) : packE s p = 1 := by simp [packE, h]
/-- A slice of raw numbers that came in. -/
def RawIn (W : World) (sl : Value) (zs : List Int) : Prop := ∃ (ad : Option Addr) (n cap : Nat), sl = .slice ad n cap ∧ n < 9223372036854775808 ∧ (∀ i, i < n → ∃ x, ad = some x ∧ (x.add i).block < W.heap.size ∧ W.cell? (x.add i) = some (.int .u64 (zs.getD i 0))) ∧ Small zs
theorem RawIn.tr {W w : World} {sl : Value} {zs : List Int} (h : RawIn W sl zs) (hb : Below W.heap.size W w) : RawIn w sl zs := by
  obtain ⟨ad, n, cap, e, h1, h2, h3⟩ := h
  refine ⟨ad, n, cap, e, h1, fun i hi => ?_, h3⟩
  obtain ⟨x, e1, e2, e3⟩ := h2 i hi
  exact ⟨x, e1, Nat.lt_of_lt_of_le e2 hb.size, cell_tr hb e3⟩
theorem or3_in {w : Int} (h1 : 0 ≤ w) (h2 : w < 18446744073709551616) : ptrB (bits .or .u64 w 3) = true ∧ 0 ≤ bits .or .u64 w 3 ∧ bits .or .u64 w 3 < 18446744073709551616 := by
  obtain ⟨A, rfl⟩ := Int.eq_ofNat_of_zero_le h1
  have hA : A < 2 ^ 64 := by omega
  have e : bits .or .u64 (A : Int) 3 = ((A ||| 3 : Nat) : Int) := u64_or_nat A 3 (by omega) (by omega)
  have hx : A ||| 3 < 2 ^ 64 := Nat.or_lt_two_pow hA (by omega)
  have h3 : 3 ≤ A ||| 3 := Nat.right_le_or
  have h4 : (A ||| 3) % 2 = 1 := by
    have := Nat.or_mod_two_pow (a := A) (b := 3) (n := 1)
    simp only [Nat.pow_one] at this
    rw [this]
    rcases Nat.mod_two_eq_zero_or_one A with h | h <;> rw [h] <;> rfl
  rw [e]
  refine ⟨?_, by omega, by omega⟩
  unfold ptrB
  rw [decide_eq_true_eq]
  omega
/-- Slots that may be. -/
structure SlotsOf (S p : Nat) (ys : List Int) : Prop where
  len : ys.length = S
  ptrs : ptrsOk ys p
  small : Small ys
theorem small_snoc {ys : List Int} {x : Int} (h : Small ys) (h1 : 0 ≤ x) (h2 : x < 18446744073709551616) : Small (ys ++ [x]) := by
  intro i
  by_cases e : i < ys.length
  · have := h i
    simp only [List.getD, List.getElem?_append_left e] at this ⊢
    exact this
  · by_cases e2 : i = ys.length
    · subst e2; simp [List.getD]; omega
    · simp [List.getD, List.getElem?_append_right (Nat.le_of_not_lt e), List.getElem?_eq_none (show [x].length ≤ i - ys.length by simp; omega)]
theorem small_nil : Small [] := fun i => by simp
theorem ptrs_snoc {ys : List Int} {x : Int} {k p : Nat} (hk : ys.length = k) (h : ptrsOk ys (min k p)) (hx : k < p → ptrB x = true) : ptrsOk (ys ++ [x]) (min (k + 1) p) := by
  intro i hi
  by_cases e : i < ys.length
  · have := h i (by omega)
    simp only [List.getD, List.getElem?_append_left e] at this ⊢
    exact this
  · have e2 : i = ys.length := by omega
    subst e2
    simp [List.getD]
    exact hx (by omega)
end Go.Proofs.Ytpgjploaliefdaa.ob
