/- Small lemmas on worlds. -/
import Derived.Test.YtpgjploaliefdaaGreatProg
import Derived.WalkKit
import Derived.WalkSpells
import Derived.WalkLawsBesides
import Derived.Lib.Hide
namespace Go.Proofs.YtpgjploaliefdaaGreat
open Go.RowKit
set_option linter.unusedVariables false
set_option linter.unusedSimpArgs false
@[simp, go_sem] theorem ltp2 (n : Nat) : n < n + 1 + 1 := by omega
@[simp, go_sem] theorem lep2 (n : Nat) : n ≤ n + 1 + 1 := by omega
@[simp, go_sem] theorem nep2 (n : Nat) : ¬ n = n + 1 + 1 := by omega
@[simp, go_sem] theorem neq2 (n : Nat) : ¬ n + 1 + 1 = n := by omega
@[simp, go_sem] theorem ltp3 (n : Nat) : n < n + 1 + 1 + 1 := by omega
@[simp, go_sem] theorem lep3 (n : Nat) : n ≤ n + 1 + 1 + 1 := by omega
@[simp, go_sem] theorem nep3 (n : Nat) : ¬ n = n + 1 + 1 + 1 := by omega
@[simp, go_sem] theorem neq3 (n : Nat) : ¬ n + 1 + 1 + 1 = n := by omega
@[simp, go_sem] theorem ltp4 (n : Nat) : n < n + 1 + 1 + 1 + 1 := by omega
@[simp, go_sem] theorem lep4 (n : Nat) : n ≤ n + 1 + 1 + 1 + 1 := by omega
@[simp, go_sem] theorem nep4 (n : Nat) : ¬ n = n + 1 + 1 + 1 + 1 := by omega
@[simp, go_sem] theorem neq4 (n : Nat) : ¬ n + 1 + 1 + 1 + 1 = n := by omega
@[simp, go_sem] theorem ltp5 (n : Nat) : n < n + 1 + 1 + 1 + 1 + 1 := by omega
@[simp, go_sem] theorem lep5 (n : Nat) : n ≤ n + 1 + 1 + 1 + 1 + 1 := by omega
@[simp, go_sem] theorem nep5 (n : Nat) : ¬ n = n + 1 + 1 + 1 + 1 + 1 := by omega
@[simp, go_sem] theorem neq5 (n : Nat) : ¬ n + 1 + 1 + 1 + 1 + 1 = n := by omega
@[simp, go_sem] theorem ltp6 (n : Nat) : n < n + 1 + 1 + 1 + 1 + 1 + 1 := by omega
@[simp, go_sem] theorem lep6 (n : Nat) : n ≤ n + 1 + 1 + 1 + 1 + 1 + 1 := by omega
@[simp, go_sem] theorem nep6 (n : Nat) : ¬ n = n + 1 + 1 + 1 + 1 + 1 + 1 := by omega
@[simp, go_sem] theorem neq6 (n : Nat) : ¬ n + 1 + 1 + 1 + 1 + 1 + 1 = n := by omega
@[simp, go_sem] theorem ltp7 (n : Nat) : n < n + 1 + 1 + 1 + 1 + 1 + 1 + 1 := by omega
@[simp, go_sem] theorem lep7 (n : Nat) : n ≤ n + 1 + 1 + 1 + 1 + 1 + 1 + 1 := by omega
@[simp, go_sem] theorem nep7 (n : Nat) : ¬ n = n + 1 + 1 + 1 + 1 + 1 + 1 + 1 := by omega
@[simp, go_sem] theorem neq7 (n : Nat) : ¬ n + 1 + 1 + 1 + 1 + 1 + 1 + 1 = n := by omega
@[simp, go_sem] theorem ltp8 (n : Nat) : n < n + 1 + 1 + 1 + 1 + 1 + 1 + 1 + 1 := by omega
@[simp, go_sem] theorem lep8 (n : Nat) : n ≤ n + 1 + 1 + 1 + 1 + 1 + 1 + 1 + 1 := by omega
@[simp, go_sem] theorem nep8 (n : Nat) : ¬ n = n + 1 + 1 + 1 + 1 + 1 + 1 + 1 + 1 := by omega
@[simp, go_sem] theorem neq8 (n : Nat) : ¬ n + 1 + 1 + 1 + 1 + 1 + 1 + 1 + 1 = n := by omega
@[simp, go_sem] theorem ltp9 (n : Nat) : n < n + 1 + 1 + 1 + 1 + 1 + 1 + 1 + 1 + 1 := by omega
@[simp, go_sem] theorem lep9 (n : Nat) : n ≤ n + 1 + 1 + 1 + 1 + 1 + 1 + 1 + 1 + 1 := by omega
@[simp, go_sem] theorem nep9 (n : Nat) : ¬ n = n + 1 + 1 + 1 + 1 + 1 + 1 + 1 + 1 + 1 := by omega
@[simp, go_sem] theorem neq9 (n : Nat) : ¬ n + 1 + 1 + 1 + 1 + 1 + 1 + 1 + 1 + 1 = n := by omega
@[simp, go_sem] theorem ltp10 (n : Nat) : n < n + 1 + 1 + 1 + 1 + 1 + 1 + 1 + 1 + 1 + 1 := by omega
@[simp, go_sem] theorem lep10 (n : Nat) : n ≤ n + 1 + 1 + 1 + 1 + 1 + 1 + 1 + 1 + 1 + 1 := by omega
@[simp, go_sem] theorem nep10 (n : Nat) : ¬ n = n + 1 + 1 + 1 + 1 + 1 + 1 + 1 + 1 + 1 + 1 := by omega
@[simp, go_sem] theorem neq10 (n : Nat) : ¬ n + 1 + 1 + 1 + 1 + 1 + 1 + 1 + 1 + 1 + 1 = n := by omega
@[simp, go_sem] theorem ltp11 (n : Nat) : n < n + 1 + 1 + 1 + 1 + 1 + 1 + 1 + 1 + 1 + 1 + 1 := by omega
@[simp, go_sem] theorem lep11 (n : Nat) : n ≤ n + 1 + 1 + 1 + 1 + 1 + 1 + 1 + 1 + 1 + 1 + 1 := by omega
@[simp, go_sem] theorem nep11 (n : Nat) : ¬ n = n + 1 + 1 + 1 + 1 + 1 + 1 + 1 + 1 + 1 + 1 + 1 := by omega
@[simp, go_sem] theorem neq11 (n : Nat) : ¬ n + 1 + 1 + 1 + 1 + 1 + 1 + 1 + 1 + 1 + 1 + 1 = n := by omega
@[simp, go_sem] theorem ltp12 (n : Nat) : n < n + 1 + 1 + 1 + 1 + 1 + 1 + 1 + 1 + 1 + 1 + 1 + 1 := by omega
@[simp, go_sem] theorem lep12 (n : Nat) : n ≤ n + 1 + 1 + 1 + 1 + 1 + 1 + 1 + 1 + 1 + 1 + 1 + 1 := by omega
@[simp, go_sem] theorem nep12 (n : Nat) : ¬ n = n + 1 + 1 + 1 + 1 + 1 + 1 + 1 + 1 + 1 + 1 + 1 + 1 := by omega
@[simp, go_sem] theorem neq12 (n : Nat) : ¬ n + 1 + 1 + 1 + 1 + 1 + 1 + 1 + 1 + 1 + 1 + 1 + 1 = n := by omega
@[simp, go_sem] theorem ltp13 (n : Nat) : n < n + 1 + 1 + 1 + 1 + 1 + 1 + 1 + 1 + 1 + 1 + 1 + 1 + 1 := by omega
@[simp, go_sem] theorem lep13 (n : Nat) : n ≤ n + 1 + 1 + 1 + 1 + 1 + 1 + 1 + 1 + 1 + 1 + 1 + 1 + 1 := by omega
@[simp, go_sem] theorem nep13 (n : Nat) : ¬ n = n + 1 + 1 + 1 + 1 + 1 + 1 + 1 + 1 + 1 + 1 + 1 + 1 + 1 := by omega
@[simp, go_sem] theorem neq13 (n : Nat) : ¬ n + 1 + 1 + 1 + 1 + 1 + 1 + 1 + 1 + 1 + 1 + 1 + 1 + 1 = n := by omega
@[simp, go_sem] theorem ltp14 (n : Nat) : n < n + 1 + 1 + 1 + 1 + 1 + 1 + 1 + 1 + 1 + 1 + 1 + 1 + 1 + 1 := by omega
@[simp, go_sem] theorem lep14 (n : Nat) : n ≤ n + 1 + 1 + 1 + 1 + 1 + 1 + 1 + 1 + 1 + 1 + 1 + 1 + 1 + 1 := by omega
@[simp, go_sem] theorem nep14 (n : Nat) : ¬ n = n + 1 + 1 + 1 + 1 + 1 + 1 + 1 + 1 + 1 + 1 + 1 + 1 + 1 + 1 := by omega
@[simp, go_sem] theorem neq14 (n : Nat) : ¬ n + 1 + 1 + 1 + 1 + 1 + 1 + 1 + 1 + 1 + 1 + 1 + 1 + 1 + 1 = n := by omega
@[simp, go_sem] theorem ltp15 (n : Nat) : n < n + 1 + 1 + 1 + 1 + 1 + 1 + 1 + 1 + 1 + 1 + 1 + 1 + 1 + 1 + 1 := by omega
@[simp, go_sem] theorem lep15 (n : Nat) : n ≤ n + 1 + 1 + 1 + 1 + 1 + 1 + 1 + 1 + 1 + 1 + 1 + 1 + 1 + 1 + 1 := by omega
@[simp, go_sem] theorem nep15 (n : Nat) : ¬ n = n + 1 + 1 + 1 + 1 + 1 + 1 + 1 + 1 + 1 + 1 + 1 + 1 + 1 + 1 + 1 := by omega
@[simp, go_sem] theorem neq15 (n : Nat) : ¬ n + 1 + 1 + 1 + 1 + 1 + 1 + 1 + 1 + 1 + 1 + 1 + 1 + 1 + 1 + 1 = n := by omega
@[simp, go_sem] theorem ltp16 (n : Nat) : n < n + 1 + 1 + 1 + 1 + 1 + 1 + 1 + 1 + 1 + 1 + 1 + 1 + 1 + 1 + 1 + 1 := by omega
@[simp, go_sem] theorem lep16 (n : Nat) : n ≤ n + 1 + 1 + 1 + 1 + 1 + 1 + 1 + 1 + 1 + 1 + 1 + 1 + 1 + 1 + 1 + 1 := by omega
@[simp, go_sem] theorem nep16 (n : Nat) : ¬ n = n + 1 + 1 + 1 + 1 + 1 + 1 + 1 + 1 + 1 + 1 + 1 + 1 + 1 + 1 + 1 + 1 := by omega
@[simp, go_sem] theorem neq16 (n : Nat) : ¬ n + 1 + 1 + 1 + 1 + 1 + 1 + 1 + 1 + 1 + 1 + 1 + 1 + 1 + 1 + 1 + 1 = n := by omega
@[simp, go_sem] theorem ltp17 (n : Nat) : n < n + 1 + 1 + 1 + 1 + 1 + 1 + 1 + 1 + 1 + 1 + 1 + 1 + 1 + 1 + 1 + 1 + 1 := by omega
@[simp, go_sem] theorem lep17 (n : Nat) : n ≤ n + 1 + 1 + 1 + 1 + 1 + 1 + 1 + 1 + 1 + 1 + 1 + 1 + 1 + 1 + 1 + 1 + 1 := by omega
@[simp, go_sem] theorem nep17 (n : Nat) : ¬ n = n + 1 + 1 + 1 + 1 + 1 + 1 + 1 + 1 + 1 + 1 + 1 + 1 + 1 + 1 + 1 + 1 + 1 := by omega
@[simp, go_sem] theorem neq17 (n : Nat) : ¬ n + 1 + 1 + 1 + 1 + 1 + 1 + 1 + 1 + 1 + 1 + 1 + 1 + 1 + 1 + 1 + 1 + 1 = n := by omega
@[simp, go_sem] theorem ltp18 (n : Nat) : n < n + 1 + 1 + 1 + 1 + 1 + 1 + 1 + 1 + 1 + 1 + 1 + 1 + 1 + 1 + 1 + 1 + 1 + 1 := by omega
@[simp, go_sem] theorem lep18 (n : Nat) : n ≤ n + 1 + 1 + 1 + 1 + 1 + 1 + 1 + 1 + 1 + 1 + 1 + 1 + 1 + 1 + 1 + 1 + 1 + 1 := by omega
@[simp, go_sem] theorem nep18 (n : Nat) : ¬ n = n + 1 + 1 + 1 + 1 + 1 + 1 + 1 + 1 + 1 + 1 + 1 + 1 + 1 + 1 + 1 + 1 + 1 + 1 := by omega
@[simp, go_sem] theorem neq18 (n : Nat) : ¬ n + 1 + 1 + 1 + 1 + 1 + 1 + 1 + 1 + 1 + 1 + 1 + 1 + 1 + 1 + 1 + 1 + 1 + 1 = n := by omega
@[simp, go_sem] theorem ltp19 (n : Nat) : n < n + 1 + 1 + 1 + 1 + 1 + 1 + 1 + 1 + 1 + 1 + 1 + 1 + 1 + 1 + 1 + 1 + 1 + 1 + 1 := by omega
@[simp, go_sem] theorem lep19 (n : Nat) : n ≤ n + 1 + 1 + 1 + 1 + 1 + 1 + 1 + 1 + 1 + 1 + 1 + 1 + 1 + 1 + 1 + 1 + 1 + 1 + 1 := by omega
@[simp, go_sem] theorem nep19 (n : Nat) : ¬ n = n + 1 + 1 + 1 + 1 + 1 + 1 + 1 + 1 + 1 + 1 + 1 + 1 + 1 + 1 + 1 + 1 + 1 + 1 + 1 := by omega
@[simp, go_sem] theorem neq19 (n : Nat) : ¬ n + 1 + 1 + 1 + 1 + 1 + 1 + 1 + 1 + 1 + 1 + 1 + 1 + 1 + 1 + 1 + 1 + 1 + 1 + 1 = n := by omega
@[simp, go_sem] theorem ltp20 (n : Nat) : n < n + 1 + 1 + 1 + 1 + 1 + 1 + 1 + 1 + 1 + 1 + 1 + 1 + 1 + 1 + 1 + 1 + 1 + 1 + 1 + 1 := by omega
@[simp, go_sem] theorem lep20 (n : Nat) : n ≤ n + 1 + 1 + 1 + 1 + 1 + 1 + 1 + 1 + 1 + 1 + 1 + 1 + 1 + 1 + 1 + 1 + 1 + 1 + 1 + 1 := by omega
@[simp, go_sem] theorem nep20 (n : Nat) : ¬ n = n + 1 + 1 + 1 + 1 + 1 + 1 + 1 + 1 + 1 + 1 + 1 + 1 + 1 + 1 + 1 + 1 + 1 + 1 + 1 + 1 := by omega
@[simp, go_sem] theorem neq20 (n : Nat) : ¬ n + 1 + 1 + 1 + 1 + 1 + 1 + 1 + 1 + 1 + 1 + 1 + 1 + 1 + 1 + 1 + 1 + 1 + 1 + 1 + 1 = n := by omega
@[simp, go_sem] theorem ltp21 (n : Nat) : n < n + 1 + 1 + 1 + 1 + 1 + 1 + 1 + 1 + 1 + 1 + 1 + 1 + 1 + 1 + 1 + 1 + 1 + 1 + 1 + 1 + 1 := by omega
@[simp, go_sem] theorem lep21 (n : Nat) : n ≤ n + 1 + 1 + 1 + 1 + 1 + 1 + 1 + 1 + 1 + 1 + 1 + 1 + 1 + 1 + 1 + 1 + 1 + 1 + 1 + 1 + 1 := by omega
@[simp, go_sem] theorem nep21 (n : Nat) : ¬ n = n + 1 + 1 + 1 + 1 + 1 + 1 + 1 + 1 + 1 + 1 + 1 + 1 + 1 + 1 + 1 + 1 + 1 + 1 + 1 + 1 + 1 := by omega
@[simp, go_sem] theorem neq21 (n : Nat) : ¬ n + 1 + 1 + 1 + 1 + 1 + 1 + 1 + 1 + 1 + 1 + 1 + 1 + 1 + 1 + 1 + 1 + 1 + 1 + 1 + 1 + 1 = n := by omega
@[simp, go_sem] theorem ltp22 (n : Nat) : n < n + 1 + 1 + 1 + 1 + 1 + 1 + 1 + 1 + 1 + 1 + 1 + 1 + 1 + 1 + 1 + 1 + 1 + 1 + 1 + 1 + 1 + 1 := by omega
@[simp, go_sem] theorem lep22 (n : Nat) : n ≤ n + 1 + 1 + 1 + 1 + 1 + 1 + 1 + 1 + 1 + 1 + 1 + 1 + 1 + 1 + 1 + 1 + 1 + 1 + 1 + 1 + 1 + 1 := by omega
@[simp, go_sem] theorem nep22 (n : Nat) : ¬ n = n + 1 + 1 + 1 + 1 + 1 + 1 + 1 + 1 + 1 + 1 + 1 + 1 + 1 + 1 + 1 + 1 + 1 + 1 + 1 + 1 + 1 + 1 := by omega
@[simp, go_sem] theorem neq22 (n : Nat) : ¬ n + 1 + 1 + 1 + 1 + 1 + 1 + 1 + 1 + 1 + 1 + 1 + 1 + 1 + 1 + 1 + 1 + 1 + 1 + 1 + 1 + 1 + 1 = n := by omega
@[simp, go_sem] theorem ltp23 (n : Nat) : n < n + 1 + 1 + 1 + 1 + 1 + 1 + 1 + 1 + 1 + 1 + 1 + 1 + 1 + 1 + 1 + 1 + 1 + 1 + 1 + 1 + 1 + 1 + 1 := by omega
@[simp, go_sem] theorem lep23 (n : Nat) : n ≤ n + 1 + 1 + 1 + 1 + 1 + 1 + 1 + 1 + 1 + 1 + 1 + 1 + 1 + 1 + 1 + 1 + 1 + 1 + 1 + 1 + 1 + 1 + 1 := by omega
@[simp, go_sem] theorem nep23 (n : Nat) : ¬ n = n + 1 + 1 + 1 + 1 + 1 + 1 + 1 + 1 + 1 + 1 + 1 + 1 + 1 + 1 + 1 + 1 + 1 + 1 + 1 + 1 + 1 + 1 + 1 := by omega
@[simp, go_sem] theorem neq23 (n : Nat) : ¬ n + 1 + 1 + 1 + 1 + 1 + 1 + 1 + 1 + 1 + 1 + 1 + 1 + 1 + 1 + 1 + 1 + 1 + 1 + 1 + 1 + 1 + 1 + 1 = n := by omega
@[simp, go_sem] theorem ltp24 (n : Nat) : n < n + 1 + 1 + 1 + 1 + 1 + 1 + 1 + 1 + 1 + 1 + 1 + 1 + 1 + 1 + 1 + 1 + 1 + 1 + 1 + 1 + 1 + 1 + 1 + 1 := by omega
@[simp, go_sem] theorem lep24 (n : Nat) : n ≤ n + 1 + 1 + 1 + 1 + 1 + 1 + 1 + 1 + 1 + 1 + 1 + 1 + 1 + 1 + 1 + 1 + 1 + 1 + 1 + 1 + 1 + 1 + 1 + 1 := by omega
@[simp, go_sem] theorem nep24 (n : Nat) : ¬ n = n + 1 + 1 + 1 + 1 + 1 + 1 + 1 + 1 + 1 + 1 + 1 + 1 + 1 + 1 + 1 + 1 + 1 + 1 + 1 + 1 + 1 + 1 + 1 + 1 := by omega
@[simp, go_sem] theorem neq24 (n : Nat) : ¬ n + 1 + 1 + 1 + 1 + 1 + 1 + 1 + 1 + 1 + 1 + 1 + 1 + 1 + 1 + 1 + 1 + 1 + 1 + 1 + 1 + 1 + 1 + 1 + 1 = n := by omega
theorem cell_tr {W w1 : World} (hb : Below W.heap.size W w1) {p : Addr} {v : Value} (h : W.cell? p = some v) : w1.cell? p = some v := by
  have hlt : p.block < W.heap.size := by
    rcases Nat.lt_or_ge p.block W.heap.size with h1 | h1
    · exact h1
    · simp [World.cell?, Array.getElem?_eq_none h1] at h
  rw [hb.cell hlt]; exact h
theorem s2_tr {W w1 : World} (hb : Below W.heap.size W w1) {p q : Addr} {v u : Value} (h : W.cell? p = some v ∧ W.cell? q = some u) : w1.cell? p = some v ∧ w1.cell? q = some u := ⟨cell_tr hb h.1, cell_tr hb h.2⟩
theorem bcell {W w1 : World} (hb : Below W.heap.size W w1) : (∀ b o, b < W.heap.size → w1.cell? ⟨b, o, none⟩ = W.cell? ⟨b, o, none⟩) ∧ (∀ b o, b < W.heap.size → w1.frozen? ⟨b, o, none⟩ = W.frozen? ⟨b, o, none⟩) :=
  ⟨fun b o h => hb.cell (p := ⟨b, o, none⟩) h, fun b o h => hb.frozen (p := ⟨b, o, none⟩) h⟩
theorem retB {a b : Bool} {Q : Prop} (h : a = b) (hq : Q) : Ending.returned (.bool a) = .returned (.bool b) ∧ Q := by subst h; exact ⟨rfl, hq⟩
theorem retI {k : IntKind} {a b : Int} {Q : Prop} (h : a = b) (hq : Q) : Ending.returned (.int k a) = .returned (.int k b) ∧ Q := by subst h; exact ⟨rfl, hq⟩
theorem retII {k k' : IntKind} {a b c d : Int} {Q : Prop} (h : a = b) (h' : c = d) (hq : Q) : Ending.returned (.tuple #[.int k a, .int k' c]) = .returned (.tuple #[.int k b, .int k' d]) ∧ Q := by subst h; subst h'; exact ⟨rfl, hq⟩
theorem kp_alloc {a w : World} (h : Below a.heap.size a w) (o : Obj) : Below a.heap.size a (w.alloc o) := h.alloc h.size o
theorem kp_drew {a w : World} (h : Below a.heap.size a w) : Below a.heap.size a w.drew := h.drew
theorem kp_tr {a W w : World} (h : Below a.heap.size a W) (k : Below W.heap.size W w) : Below a.heap.size a w := h.trans (k.mono h.size)
theorem kp_set {a w : World} (h : Below a.heap.size a w) {p : Addr} (hp : a.heap.size ≤ p.block) (u : Value) : Below a.heap.size a (w.setCell p u) := h.setCell hp u
/-- A block of the call's own: its cells, none frozen. (A plain def: the walk does not look behind it.) -/
def Blk (w : World) (n : Nat) (cs : Array Value) (T : TypeId) : Prop := w.heap[n]? = some (.cells cs T (0, 0))
theorem Blk.lt {w : World} {n : Nat} {cs : Array Value} {T : TypeId} (h : Blk w n cs T) : n < w.heap.size := by
  unfold Blk at h
  rcases Nat.lt_or_ge n w.heap.size with h1 | h1
  · exact h1
  · rw [Array.getElem?_eq_none h1] at h; cases h
theorem Blk.get {w : World} {n : Nat} {cs : Array Value} {T : TypeId} (h : Blk w n cs T) : n < w.heap.size ∧ (∀ i, w.cell? ⟨n, i, none⟩ = cs[i]?) ∧ ∀ i, w.frozen? ⟨n, i, none⟩ = false := by
  refine ⟨h.lt, fun i => ?_, fun i => ?_⟩
  · unfold Blk at h; simp [World.cell?, h]
  · unfold Blk at h; simp [World.frozen?, h]
theorem Blk.new (w : World) (cs : Array Value) (T : TypeId) : Blk (w.alloc (.cells cs T)) w.heap.size cs T := by
  unfold Blk; show (w.heap.push _)[w.heap.size]? = _; simp
theorem Blk.mk {w : World} {n : Nat} {cs : Array Value} {T : TypeId} (h : n = w.heap.size) : Blk (w.alloc (.cells cs T)) n cs T := by subst h; exact Blk.new w cs T
theorem Blk.tr {W w : World} {n : Nat} {cs : Array Value} {T : TypeId} (h : Blk W n cs T) (hb : Below W.heap.size W w) : Blk w n cs T := (hb.block n h.lt).trans h
theorem Blk.alloc {w : World} {n : Nat} {cs : Array Value} {T : TypeId} (h : Blk w n cs T) (o : Obj) : Blk (w.alloc o) n cs T := (Below.heap_alloc w o n h.lt).trans h
theorem Blk.drew {w : World} {n : Nat} {cs : Array Value} {T : TypeId} (h : Blk w n cs T) : Blk w.drew n cs T := h
theorem Blk.other {w : World} {n : Nat} {cs : Array Value} {T : TypeId} (h : Blk w n cs T) {p : Addr} (hp : n ≠ p.block) (v : Value) : Blk (w.setCell p v) n cs T := (Below.heap_setCell w p v n hp).trans h
theorem Blk.set {w : World} {n : Nat} {cs : Array Value} {T : TypeId} (h : Blk w n cs T) (i : Nat) (v : Value) : Blk (w.setCell ⟨n, i, none⟩ v) n (cs.setIfInBounds i v) T := by
  unfold Blk at h ⊢
  simp only [World.setCell, Array.getElem?_modify, if_pos, h]
  simp
theorem Blk.raw {w : World} {n : Nat} {cs : Array Value} {T : TypeId} (h : Blk w n cs T) : w.heap[n]? = some (.cells cs T (0, 0)) := h
theorem Blk.of {w : World} {n : Nat} {cs : Array Value} {T : TypeId} (h : w.heap[n]? = some (.cells cs T (0, 0))) : Blk w n cs T := h
attribute [irreducible] Blk
theorem wfb_i64 {n : Int} (h : (Lit.int .i64 n).wf = true) : -9223372036854775808 ≤ n ∧ n < 9223372036854775808 := by
  simp [Lit.wf, IntKind.min, IntKind.max, IntKind.signed, IntKind.bits] at h; omega
theorem wfb_u64 {n : Int} (h : (Lit.int .u64 n).wf = true) : 0 ≤ n ∧ n < 18446744073709551616 := by
  simp [Lit.wf, IntKind.min, IntKind.max, IntKind.signed, IntKind.bits] at h; omega
theorem wfb_u32 {n : Int} (h : (Lit.int .u32 n).wf = true) : 0 ≤ n ∧ n < 4294967296 := by
  simp [Lit.wf, IntKind.min, IntKind.max, IntKind.signed, IntKind.bits] at h; omega
theorem wfb_u8 {n : Int} (h : (Lit.int .u8 n).wf = true) : 0 ≤ n ∧ n < 256 := by
  simp [Lit.wf, IntKind.min, IntKind.max, IntKind.signed, IntKind.bits] at h; omega
/-- A slice of integers that came in: nil, or a row of 'cap' cells. -/
def IsRow (k : IntKind) (w : World) (a : Option Addr) (len cap : Nat) (zs : List Int) : Prop :=
  (a = none ∧ len = 0 ∧ cap = 0 ∧ zs = []) ∨
  ∃ x, a = some x ∧ len ≤ cap ∧ cap ≤ maxLen ∧ zs.length = cap ∧ (∀ i, i < zs.length → w.cell? (x.add i) = some (.int k (zs.getD i 0))) ∧ ∀ n ∈ zs, (Lit.int k n).wf = true
/-- Of what was there, only block n may have turned. -/
structure Only (n : Nat) (w w' : World) : Prop where
  os : w'.os = w.os
  tape : w'.tape = w.tape
  output : w'.output = w.output
  size : w.heap.size ≤ w'.heap.size
  block : ∀ k, k < w.heap.size → k ≠ n → w'.heap[k]? = w.heap[k]?
theorem Only.refl (n : Nat) (w : World) : Only n w w := ⟨rfl, rfl, rfl, Nat.le_refl _, fun _ _ _ => rfl⟩
theorem Only.trans {n : Nat} {a b c : World} (h : Only n a b) (k : Only n b c) : Only n a c :=
  ⟨k.os.trans h.os, k.tape.trans h.tape, k.output.trans h.output, Nat.le_trans h.size k.size, fun i hi hn => (k.block i (Nat.lt_of_lt_of_le hi h.size) hn).trans (h.block i hi hn)⟩
theorem Only.drew {n : Nat} {a w : World} (h : Only n a w) : Only n a w.drew := ⟨h.os, h.tape, h.output, h.size, h.block⟩
theorem Only.alloc {n : Nat} {a w : World} (h : Only n a w) (o : Obj) : Only n a (w.alloc o) :=
  h.trans ⟨rfl, rfl, rfl, by simp, fun k hk _ => Below.heap_alloc _ _ _ hk⟩
theorem Only.set {n : Nat} {a w : World} (h : Only n a w) (i : Nat) (u : Value) : Only n a (w.setCell ⟨n, i, none⟩ u) :=
  h.trans ⟨rfl, rfl, rfl, by simp [World.setCell], fun k _ hn => Below.heap_setCell _ _ _ _ hn⟩
theorem Only.below {n : Nat} {a W w : World} (hb : Below a.heap.size a W) (h : Only n W w) (hn : a.heap.size ≤ n) : Below a.heap.size a w :=
  hb.trans ⟨h.os, h.tape, h.output, h.size, fun k hk => h.block k (Nat.lt_of_lt_of_le hk hb.size) (by omega)⟩
theorem Only.of_below {n : Nat} {W w : World} (h : Below W.heap.size W w) : Only n W w := ⟨h.os, h.tape, h.output, h.size, fun k hk _ => h.block k hk⟩
theorem Blk.only {W w : World} {n m : Nat} {cs : Array Value} {T : TypeId} (h : Blk W n cs T) (ho : Only m W w) (hn : n ≠ m) : Blk w n cs T := by
  have hl := h.lt
  unfold Blk at h ⊢
  exact (ho.block n hl hn).trans h
theorem fix_get {cs : Array Value} {i j : Nat} {v : Value} (h : i ≠ j) : (cs.setIfInBounds i v)[j]? = cs[j]? := by simp [h]
theorem fix_same {cs : Array Value} {i : Nat} {v : Value} (h : i < cs.size) : (cs.setIfInBounds i v)[i]? = some v := by simp [h]
theorem wr_u32 (n : Int) (h : 0 ≤ n ∧ n < 4294967296) : IntKind.u32.wrap n = n := by
  simp only [IntKind.wrap, IntKind.signed, IntKind.bits]; simp; omega
theorem wr_u64 (n : Int) (h : 0 ≤ n ∧ n < 18446744073709551616) : IntKind.u64.wrap n = n := by
  simp only [IntKind.wrap, IntKind.signed, IntKind.bits]; simp; omega
theorem wr_u8 (n : Int) (h : 0 ≤ n ∧ n < 256) : IntKind.u8.wrap n = n := by
  simp only [IntKind.wrap, IntKind.signed, IntKind.bits]; simp; omega
theorem wr_i64 (n : Int) (h : -9223372036854775808 ≤ n ∧ n < 9223372036854775808) : IntKind.i64.wrap n = n := by
  simp only [IntKind.wrap, IntKind.signed, IntKind.bits]; simp; omega
end Go.Proofs.YtpgjploaliefdaaGreat
