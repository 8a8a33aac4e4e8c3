/- Small lemmas on worlds. -/
import Derived.Test.YtpgjploaliefdaaGreatProg
import Derived.WalkKit
import Derived.WalkSpells
import Derived.WalkLawsBesides
import Derived.Lib.Hide
namespace Go.Proofs.YtpgjploaliefdaaGreat
open Go.RowKit
set_option linter.unusedVariables false
set_option linter.unusedSimpArgs false
@[simp, go_sem] theorem ltp2 (n : Nat) : n < n + 1 + 1 := by omega
@[simp, go_sem] theorem lep2 (n : Nat) : n ≤ n + 1 + 1 := by omega
@[simp, go_sem] theorem nep2 (n : Nat) : ¬ n = n + 1 + 1 := by omega
@[simp, go_sem] theorem neq2 (n : Nat) : ¬ n + 1 + 1 = n := by omega
@[simp, go_sem] theorem ltp3 (n : Nat) : n < n + 1 + 1 + 1 := by omega
@[simp, go_sem] theorem lep3 (n : Nat) : n ≤ n + 1 + 1 + 1 := by omega
@[simp, go_sem] theorem nep3 (n : Nat) : ¬ n = n + 1 + 1 + 1 := by omega
@[simp, go_sem] theorem neq3 (n : Nat) : ¬ n + 1 + 1 + 1 = n := by omega
@[simp, go_sem] theorem ltp4 (n : Nat) : n < n + 1 + 1 + 1 + 1 := by omega
@[simp, go_sem] theorem lep4 (n : Nat) : n ≤ n + 1 + 1 + 1 + 1 := by omega
@[simp, go_sem] theorem nep4 (n : Nat) : ¬ n = n + 1 + 1 + 1 + 1 := by omega
@[simp, go_sem] theorem neq4 (n : Nat) : ¬ n + 1 + 1 + 1 + 1 = n := by omega
@[simp, go_sem] theorem ltp5 (n : Nat) : n < n + 1 + 1 + 1 + 1 + 1 := by omega
@[simp, go_sem] theorem lep5 (n : Nat) : n ≤ n + 1 + 1 + 1 + 1 + 1 := by omega
@[simp, go_sem] theorem nep5 (n : Nat) : ¬ n = n + 1 + 1 + 1 + 1 + 1 := by omega
@[simp, go_sem] theorem neq5 (n : Nat) : ¬ n + 1 + 1 + 1 + 1 + 1 = n := by omega
@[simp, go_sem] theorem ltp6 (n : Nat) : n < n + 1 + 1 + 1 + 1 + 1 + 1 := by omega
@[simp, go_sem] theorem lep6 (n : Nat) : n ≤ n + 1 + 1 + 1 + 1 + 1 + 1 := by omega
@[simp, go_sem] theorem nep6 (n : Nat) : ¬ n = n + 1 + 1 + 1 + 1 + 1 + 1 := by omega
@[simp, go_sem] theorem neq6 (n : Nat) : ¬ n + 1 + 1 + 1 + 1 + 1 + 1 = n := by omega
@[simp, go_sem] theorem ltp7 (n : Nat) : n < n + 1 + 1 + 1 + 1 + 1 + 1 + 1 := by omega
@[simp, go_sem] theorem lep7 (n : Nat) : n ≤ n + 1 + 1 + 1 + 1 + 1 + 1 + 1 := by omega
@[simp, go_sem] theorem nep7 (n : Nat) : ¬ n = n + 1 + 1 + 1 + 1 + 1 + 1 + 1 := by omega
@[simp, go_sem] theorem neq7 (n : Nat) : ¬ n + 1 + 1 + 1 + 1 + 1 + 1 + 1 = n := by omega
@[simp, go_sem] theorem ltp8 (n : Nat) : n < n + 1 + 1 + 1 + 1 + 1 + 1 + 1 + 1 := by omega
@[simp, go_sem] theorem lep8 (n : Nat) : n ≤ n + 1 + 1 + 1 + 1 + 1 + 1 + 1 + 1 := by omega
@[simp, go_sem] theorem nep8 (n : Nat) : ¬ n = n + 1 + 1 + 1 + 1 + 1 + 1 + 1 + 1 := by omega
@[simp, go_sem] theorem neq8 (n : Nat) : ¬ n + 1 + 1 + 1 + 1 + 1 + 1 + 1 + 1 = n := by omega
@[simp, go_sem] theorem ltp9 (n : Nat) : n < n + 1 + 1 + 1 + 1 + 1 + 1 + 1 + 1 + 1 := by omega
@[simp, go_sem] theorem lep9 (n : Nat) : n ≤ n + 1 + 1 + 1 + 1 + 1 + 1 + 1 + 1 + 1 := by omega
@[simp, go_sem] theorem nep9 (n : Nat) : ¬ n = n + 1 + 1 + 1 + 1 + 1 + 1 + 1 + 1 + 1 := by omega
@[simp, go_sem] theorem neq9 (n : Nat) : ¬ n + 1 + 1 + 1 + 1 + 1 + 1 + 1 + 1 + 1 = n := by omega
@[simp, go_sem] theorem ltp10 (n : Nat) : n < n + 1 + 1 + 1 + 1 + 1 + 1 + 1 + 1 + 1 + 1 := by omega
@[simp, go_sem] theorem lep10 (n : Nat) : n ≤ n + 1 + 1 + 1 + 1 + 1 + 1 + 1 + 1 + 1 + 1 := by omega
@[simp, go_sem] theorem nep10 (n : Nat) : ¬ n = n + 1 + 1 + 1 + 1 + 1 + 1 + 1 + 1 + 1 + 1 := by omega
@[simp, go_sem] theorem neq10 (n : Nat) : ¬ n + 1 + 1 + 1 + 1 + 1 + 1 + 1 + 1 + 1 + 1 = n := by omega
@[simp, go_sem] theorem ltp11 (n : Nat) : n < n + 1 + 1 + 1 + 1 + 1 + 1 + 1 + 1 + 1 + 1 + 1 := by omega
@[simp, go_sem] theorem lep11 (n : Nat) : n ≤ n + 1 + 1 + 1 + 1 + 1 + 1 + 1 + 1 + 1 + 1 + 1 := by omega
@[simp, go_sem] theorem nep11 (n : Nat) : ¬ n = n + 1 + 1 + 1 + 1 + 1 + 1 + 1 + 1 + 1 + 1 + 1 := by omega
@[simp, go_sem] theorem neq11 (n : Nat) : ¬ n + 1 + 1 + 1 + 1 + 1 + 1 + 1 + 1 + 1 + 1 + 1 = n := by omega
@[simp, go_sem] theorem ltp12 (n : Nat) : n < n + 1 + 1 + 1 + 1 + 1 + 1 + 1 + 1 + 1 + 1 + 1 + 1 := by omega
@[simp, go_sem] theorem lep12 (n : Nat) : n ≤ n + 1 + 1 + 1 + 1 + 1 + 1 + 1 + 1 + 1 + 1 + 1 + 1 := by omega
@[simp, go_sem] theorem nep12 (n : Nat) : ¬ n = n + 1 + 1 + 1 + 1 + 1 + 1 + 1 + 1 + 1 + 1 + 1 + 1 := by omega
@[simp, go_sem] theorem neq12 (n : Nat) : ¬ n + 1 + 1 + 1 + 1 + 1 + 1 + 1 + 1 + 1 + 1 + 1 + 1 = n := by omega
@[simp, go_sem] theorem ltp13 (n : Nat) : n < n + 1 + 1 + 1 + 1 + 1 + 1 + 1 + 1 + 1 + 1 + 1 + 1 + 1 := by omega
@[simp, go_sem] theorem lep13 (n : Nat) : n ≤ n + 1 + 1 + 1 + 1 + 1 + 1 + 1 + 1 + 1 + 1 + 1 + 1 + 1 := by omega
@[simp, go_sem] theorem nep13 (n : Nat) : ¬ n = n + 1 + 1 + 1 + 1 + 1 + 1 + 1 + 1 + 1 + 1 + 1 + 1 + 1 := by omega
@[simp, go_sem] theorem neq13 (n : Nat) : ¬ n + 1 + 1 + 1 + 1 + 1 + 1 + 1 + 1 + 1 + 1 + 1 + 1 + 1 = n := by omega
@[simp, go_sem] theorem ltp14 (n : Nat) : n < n + 1 + 1 + 1 + 1 + 1 + 1 + 1 + 1 + 1 + 1 + 1 + 1 + 1 + 1 := by omega
@[simp, go_sem] theorem lep14 (n : Nat) : n ≤ n + 1 + 1 + 1 + 1 + 1 + 1 + 1 + 1 + 1 + 1 + 1 + 1 + 1 + 1 := by omega
@[simp, go_sem] theorem nep14 (n : Nat) : ¬ n = n + 1 + 1 + 1 + 1 + 1 + 1 + 1 + 1 + 1 + 1 + 1 + 1 + 1 + 1 := by omega
@[simp, go_sem] theorem neq14 (n : Nat) : ¬ n + 1 + 1 + 1 + 1 + 1 + 1 + 1 + 1 + 1 + 1 + 1 + 1 + 1 + 1 = n := by omega
@[simp, go_sem] theorem ltp15 (n : Nat) : n < n + 1 + 1 + 1 + 1 + 1 + 1 + 1 + 1 + 1 + 1 + 1 + 1 + 1 + 1 + 1 := by omega
@[simp, go_sem] theorem lep15 (n : Nat) : n ≤ n + 1 + 1 + 1 + 1 + 1 + 1 + 1 + 1 + 1 + 1 + 1 + 1 + 1 + 1 + 1 := by omega
@[simp, go_sem] theorem nep15 (n : Nat) : ¬ n = n + 1 + 1 + 1 + 1 + 1 + 1 + 1 + 1 + 1 + 1 + 1 + 1 + 1 + 1 + 1 := by omega
@[simp, go_sem] theorem neq15 (n : Nat) : ¬ n + 1 + 1 + 1 + 1 + 1 + 1 + 1 + 1 + 1 + 1 + 1 + 1 + 1 + 1 + 1 = n := by omega
@[simp, go_sem] theorem ltp16 (n : Nat) : n < n + 1 + 1 + 1 + 1 + 1 + 1 + 1 + 1 + 1 + 1 + 1 + 1 + 1 + 1 + 1 + 1 := by omega
@[simp, go_sem] theorem lep16 (n : Nat) : n ≤ n + 1 + 1 + 1 + 1 + 1 + 1 + 1 + 1 + 1 + 1 + 1 + 1 + 1 + 1 + 1 + 1 := by omega
@[simp, go_sem] theorem nep16 (n : Nat) : ¬ n = n + 1 + 1 + 1 + 1 + 1 + 1 + 1 + 1 + 1 + 1 + 1 + 1 + 1 + 1 + 1 + 1 := by omega
@[simp, go_sem] theorem neq16 (n : Nat) : ¬ n + 1 + 1 + 1 + 1 + 1 + 1 + 1 + 1 + 1 + 1 + 1 + 1 + 1 + 1 + 1 + 1 = n := by omega
@[simp, go_sem] theorem ltp17 (n : Nat) : n < n + 1 + 1 + 1 + 1 + 1 + 1 + 1 + 1 + 1 + 1 + 1 + 1 + 1 + 1 + 1 + 1 + 1 := by omega
@[simp, go_sem] theorem lep17 (n : Nat) : n ≤ n + 1 + 1 + 1 + 1 + 1 + 1 + 1 + 1 + 1 + 1 + 1 + 1 + 1 + 1 + 1 + 1 + 1 := by omega
@[simp, go_sem] theorem nep17 (n : Nat) : ¬ n = n + 1 + 1 + 1 + 1 + 1 + 1 + 1 + 1 + 1 + 1 + 1 + 1 + 1 + 1 + 1 + 1 + 1 := by omega
@[simp, go_sem] theorem neq17 (n : Nat) : ¬ n + 1 + 1 + 1 + 1 + 1 + 1 + 1 + 1 + 1 + 1 + 1 + 1 + 1 + 1 + 1 + 1 + 1 = n := by omega
@[simp, go_sem] theorem ltp18 (n : Nat) : n < n + 1 + 1 + 1 + 1 + 1 + 1 + 1 + 1 + 1 + 1 + 1 + 1 + 1 + 1 + 1 + 1 + 1 + 1 := by omega
@[simp, go_sem] theorem lep18 (n : Nat) : n ≤ n + 1 + 1 + 1 + 1 + 1 + 1 + 1 + 1 + 1 + 1 + 1 + 1 + 1 + 1 + 1 + 1 + 1 + 1 := by omega
@[simp, go_sem] theorem nep18 (n : Nat) : ¬ n = n + 1 + 1 + 1 + 1 + 1 + 1 + 1 + 1 + 1 + 1 + 1 + 1 + 1 + 1 + 1 + 1 + 1 + 1 := by omega
@[simp, go_sem] theorem neq18 (n : Nat) : ¬ n + 1 + 1 + 1 + 1 + 1 + 1 + 1 + 1 + 1 + 1 + 1 + 1 + 1 + 1 + 1 + 1 + 1 + 1 = n := by omega
@[simp, go_sem] theorem ltp19 (n : Nat) : n < n + 1 + 1 + 1 + 1 + 1 + 1 + 1 + 1 + 1 + 1 + 1 + 1 + 1 + 1 + 1 + 1 + 1 + 1 + 1 := by omega
@[simp, go_sem] theorem lep19 (n : Nat) : n ≤ n + 1 + 1 + 1 + 1 + 1 + 1 + 1 + 1 + 1 + 1 + 1 + 1 + 1 + 1 + 1 + 1 + 1 + 1 + 1 := by omega
@[simp, go_sem] theorem nep19 (n : Nat) : ¬ n = n + 1 + 1 + 1 + 1 + 1 + 1 + 1 + 1 + 1 + 1 + 1 + 1 + 1 + 1 + 1 + 1 + 1 + 1 + 1 := by omega
@[simp, go_sem] theorem neq19 (n : Nat) : ¬ n + 1 + 1 + 1 + 1 + 1 + 1 + 1 + 1 + 1 + 1 + 1 + 1 + 1 + 1 + 1 + 1 + 1 + 1 + 1 = n := by omega
@[simp, go_sem] theorem ltp20 (n : Nat) : n < n + 1 + 1 + 1 + 1 + 1 + 1 + 1 + 1 + 1 + 1 + 1 + 1 + 1 + 1 + 1 + 1 + 1 + 1 + 1 + 1 := by omega
@[simp, go_sem] theorem lep20 (n : Nat) : n ≤ n + 1 + 1 + 1 + 1 + 1 + 1 + 1 + 1 + 1 + 1 + 1 + 1 + 1 + 1 + 1 + 1 + 1 + 1 + 1 + 1 := by omega
@[simp, go_sem] theorem nep20 (n : Nat) : ¬ n = n + 1 + 1 + 1 + 1 + 1 + 1 + 1 + 1 + 1 + 1 + 1 + 1 + 1 + 1 + 1 + 1 + 1 + 1 + 1 + 1 := by omega
@[simp, go_sem] theorem neq20 (n : Nat) : ¬ n + 1 + 1 + 1 + 1 + 1 + 1 + 1 + 1 + 1 + 1 + 1 + 1 + 1 + 1 + 1 + 1 + 1 + 1 + 1 + 1 = n := by omega
@[simp, go_sem] theorem ltp21 (n : Nat) : n < n + 1 + 1 + 1 + 1 + 1 + 1 + 1 + 1 + 1 + 1 + 1 + 1 + 1 + 1 + 1 + 1 + 1 + 1 + 1 + 1 + 1 := by omega
@[simp, go_sem] theorem lep21 (n : Nat) : n ≤ n + 1 + 1 + 1 + 1 + 1 + 1 + 1 + 1 + 1 + 1 + 1 + 1 + 1 + 1 + 1 + 1 + 1 + 1 + 1 + 1 + 1 := by omega
@[simp, go_sem] theorem nep21 (n : Nat) : ¬ n = n + 1 + 1 + 1 + 1 + 1 + 1 + 1 + 1 + 1 + 1 + 1 + 1 + 1 + 1 + 1 + 1 + 1 + 1 + 1 + 1 + 1 := by omega
@[simp, go_sem] theorem neq21 (n : Nat) : ¬ n + 1 + 1 + 1 + 1 + 1 + 1 + 1 + 1 + 1 + 1 + 1 + 1 + 1 + 1 + 1 + 1 + 1 + 1 + 1 + 1 + 1 = n := by omega
@[simp, go_sem] theorem ltp22 (n : Nat) : n < n + 1 + 1 + 1 + 1 + 1 + 1 + 1 + 1 + 1 + 1 + 1 + 1 + 1 + 1 + 1 + 1 + 1 + 1 + 1 + 1 + 1 + 1 := by omega
@[simp, go_sem] theorem lep22 (n : Nat) : n ≤ n + 1 + 1 + 1 + 1 + 1 + 1 + 1 + 1 + 1 + 1 + 1 + 1 + 1 + 1 + 1 + 1 + 1 + 1 + 1 + 1 + 1 + 1 := by omega
@[simp, go_sem] theorem nep22 (n : Nat) : ¬ n = n + 1 + 1 + 1 + 1 + 1 + 1 + 1 + 1 + 1 + 1 + 1 + 1 + 1 + 1 + 1 + 1 + 1 + 1 + 1 + 1 + 1 + 1 := by omega
@[simp, go_sem] theorem neq22 (n : Nat) : ¬ n + 1 + 1 + 1 + 1 + 1 + 1 + 1 + 1 + 1 + 1 + 1 + 1 + 1 + 1 + 1 + 1 + 1 + 1 + 1 + 1 + 1 + 1 = n := by omega
@[simp, go_sem] theorem ltp23 (n : Nat) : n < n + 1 + 1 + 1 + 1 + 1 + 1 + 1 + 1 + 1 + 1 + 1 + 1 + 1 + 1 + 1 + 1 + 1 + 1 + 1 + 1 + 1 + 1 + 1 := by omega
@[simp, go_sem] theorem lep23 (n : Nat) : n ≤ n + 1 + 1 + 1 + 1 + 1 + 1 + 1 + 1 + 1 + 1 + 1 + 1 + 1 + 1 + 1 + 1 + 1 + 1 + 1 + 1 + 1 + 1 + 1 := by omega
@[simp, go_sem] theorem nep23 (n : Nat) : ¬ n = n + 1 + 1 + 1 + 1 + 1 + 1 + 1 + 1 + 1 + 1 + 1 + 1 + 1 + 1 + 1 + 1 + 1 + 1 + 1 + 1 + 1 + 1 + 1 := by omega
@[simp, go_sem] theorem neq23 (n : Nat) : ¬ n + 1 + 1 + 1 + 1 + 1 + 1 + 1 + 1 + 1 + 1 + 1 + 1 + 1 + 1 + 1 + 1 + 1 + 1 + 1 + 1 + 1 + 1 + 1 = n := by omega
@[simp, go_sem] theorem ltp24 (n : Nat) : n < n + 1 + 1 + 1 + 1 + 1 + 1 + 1 + 1 + 1 + 1 + 1 + 1 + 1 + 1 + 1 + 1 + 1 + 1 + 1 + 1 + 1 + 1 + 1 + 1 := by omega
@[simp, go_sem] theorem lep24 (n : Nat) : n ≤ n + 1 + 1 + 1 + 1 + 1 + 1 + 1 + 1 + 1 + 1 + 1 + 1 + 1 + 1 + 1 + 1 + 1 + 1 + 1 + 1 + 1 + 1 + 1 + 1 := by omega
@[simp, go_sem] theorem nep24 (n : Nat) : ¬ n = n + 1 + 1 + 1 + 1 + 1 + 1 + 1 + 1 + 1 + 1 + 1 + 1 + 1 + 1 + 1 + 1 + 1 + 1 + 1 + 1 + 1 + 1 + 1 + 1 := by omega
@[simp, go_sem] theorem neq24 (n : Nat) : ¬ n + 1 + 1 + 1 + 1 + 1 + 1 + 1 + 1 + 1 + 1 + 1 + 1 + 1 + 1 + 1 + 1 + 1 + 1 + 1 + 1 + 1 + 1 + 1 + 1 = n := by omega
theorem cell_tr {W w1 : World} (hb : Below W.heap.size W w1) {p : Addr} {v : Value} (h : W.cell? p = some v) : w1.cell? p = some v := by
 have hlt : p.block < W.heap.size := by
  rcases Nat.lt_or_ge p.block W.heap.size with h1 | h1
  ·exact h1
  ·simp [World.cell?, Array.getElem?_eq_none h1] at h
 rw [hb.cell hlt]; exact h
theorem s2_tr {W w1 : World} (hb : Below W.heap.size W w1) {p q : Addr} {v u : Value} (h : W.cell? p = some v ∧ W.cell? q = some u) : w1.cell? p = some v ∧ w1.cell? q = some u := ⟨cell_tr hb h.1, cell_tr hb h.2⟩
theorem bcell {W w1 : World} (hb : Below W.heap.size W w1) : (∀ b o, b < W.heap.size → w1.cell? ⟨b, o, none⟩ = W.cell? ⟨b, o, none⟩) ∧ (∀ b o, b < W.heap.size → w1.frozen? ⟨b, o, none⟩ = W.frozen? ⟨b, o, none⟩) :=
 ⟨fun b o h => hb.cell (p := ⟨b, o, none⟩) h, fun b o h => hb.frozen (p := ⟨b, o, none⟩) h⟩
theorem retB {a b : Bool} {Q : Prop} (h : a = b) (hq : Q) : Ending.returned (.bool a) = .returned (.bool b) ∧ Q := by subst h; exact ⟨rfl, hq⟩
theorem retI {k : IntKind} {a b : Int} {Q : Prop} (h : a = b) (hq : Q) : Ending.returned (.int k a) = .returned (.int k b) ∧ Q := by subst h; exact ⟨rfl, hq⟩
theorem retII {k k' : IntKind} {a b c d : Int} {Q : Prop} (h : a = b) (h' : c = d) (hq : Q) : Ending.returned (.tuple #[.int k a, .int k' c]) = .returned (.tuple #[.int k b, .int k' d]) ∧ Q := by subst h; subst h'; exact ⟨rfl, hq⟩
theorem kp_alloc {a w : World} (h : Below a.heap.size a w) (o : Obj) : Below a.heap.size a (w.alloc o) := h.alloc h.size o
theorem kp_drew {a w : World} (h : Below a.heap.size a w) : Below a.heap.size a w.drew := h.drew
theorem kp_tr {a W w : World} (h : Below a.heap.size a W) (k : Below W.heap.size W w) : Below a.heap.size a w := h.trans (k.mono h.size)
theorem kp_set {a w : World} (h : Below a.heap.size a w) {p : Addr} (hp : a.heap.size ≤ p.block) (u : Value) : Below a.heap.size a (w.setCell p u) := h.setCell hp u
def Blk (w : World) (n : Nat) (cs : Array Value) (T : TypeId) : Prop := w.heap[n]? = some (.cells cs T (0, 0))
theorem Blk.lt {w : World} {n : Nat} {cs : Array Value} {T : TypeId} (h : Blk w n cs T) : n < w.heap.size := by
 unfold Blk at h
 rcases Nat.lt_or_ge n w.heap.size with h1 | h1
 ·exact h1
 ·rw [Array.getElem?_eq_none h1] at h; cases h
theorem Blk.get {w : World} {n : Nat} {cs : Array Value} {T : TypeId} (h : Blk w n cs T) : n < w.heap.size ∧ (∀ i, w.cell? ⟨n, i, none⟩ = cs[i]?) ∧ ∀ i, w.frozen? ⟨n, i, none⟩ = false := by
 refine ⟨h.lt, fun i => ?_, fun i => ?_⟩
 ·unfold Blk at h; simp [World.cell?, h]
 ·unfold Blk at h; simp [World.frozen?, h]
theorem Blk.new (w : World) (cs : Array Value) (T : TypeId) : Blk (w.alloc (.cells cs T)) w.heap.size cs T := by
 unfold Blk; show (w.heap.push _)[w.heap.size]? = _; simp
theorem Blk.mk {w : World} {n : Nat} {cs : Array Value} {T : TypeId} (h : n = w.heap.size) : Blk (w.alloc (.cells cs T)) n cs T := by subst h; exact Blk.new w cs T
theorem Blk.tr {W w : World} {n : Nat} {cs : Array Value} {T : TypeId} (h : Blk W n cs T) (hb : Below W.heap.size W w) : Blk w n cs T := (hb.block n h.lt).trans h
theorem Blk.alloc {w : World} {n : Nat} {cs : Array Value} {T : TypeId} (h : Blk w n cs T) (o : Obj) : Blk (w.alloc o) n cs T := (Below.heap_alloc w o n h.lt).trans h
theorem Blk.drew {w : World} {n : Nat} {cs : Array Value} {T : TypeId} (h : Blk w n cs T) : Blk w.drew n cs T := h
theorem Blk.other {w : World} {n : Nat} {cs : Array Value} {T : TypeId} (h : Blk w n cs T) {p : Addr} (hp : n ≠ p.block) (v : Value) : Blk (w.setCell p v) n cs T := (Below.heap_setCell w p v n hp).trans h
theorem Blk.set {w : World} {n : Nat} {cs : Array Value} {T : TypeId} (h : Blk w n cs T) (i : Nat) (v : Value) : Blk (w.setCell ⟨n, i, none⟩ v) n (cs.setIfInBounds i v) T := by
 unfold Blk at h ⊢
 simp only [World.setCell, Array.getElem?_modify, if_pos, h]
 simp
theorem Blk.raw {w : World} {n : Nat} {cs : Array Value} {T : TypeId} (h : Blk w n cs T) : w.heap[n]? = some (.cells cs T (0, 0)) := h
theorem Blk.of {w : World} {n : Nat} {cs : Array Value} {T : TypeId} (h : w.heap[n]? = some (.cells cs T (0, 0))) : Blk w n cs T := h
theorem bk {w : World} {n : Nat} {cs : Array Value} {T : TypeId} (h : Blk w n cs T := by (repeat (first | with_reducible assumption | exact Blk.mk rfl | exact Blk.mk (by simp) | refine Blk.drew ?_ | refine Blk.alloc ?_ _ | refine Blk.tr ?_ (by with_reducible assumption)))) : Blk w n cs T := h
theorem bm {n : Nat} {a w : World} (h : Below n a w := by (repeat (first | with_reducible exact Below.refl _ _ | with_reducible refine kp_alloc ?_ _ | with_reducible refine kp_drew ?_ | with_reducible refine below_drewN ?_ _ | with_reducible refine kp_set ?_ (by first | omega | (simp; done) | (simp; omega)) _ | with_reducible refine kp_tr ?_ (by with_reducible assumption)))) : Below n a w := h
attribute [irreducible] Blk
theorem wfb_i64 {n : Int} (h : (Lit.int .i64 n).wf = true) : -9223372036854775808 ≤ n ∧ n < 9223372036854775808 := by
 simp [Lit.wf, IntKind.min, IntKind.max, IntKind.signed, IntKind.bits] at h; omega
theorem wfb_u64 {n : Int} (h : (Lit.int .u64 n).wf = true) : 0 ≤ n ∧ n < 18446744073709551616 := by
 simp [Lit.wf, IntKind.min, IntKind.max, IntKind.signed, IntKind.bits] at h; omega
theorem wfb_u32 {n : Int} (h : (Lit.int .u32 n).wf = true) : 0 ≤ n ∧ n < 4294967296 := by
 simp [Lit.wf, IntKind.min, IntKind.max, IntKind.signed, IntKind.bits] at h; omega
theorem wfb_u8 {n : Int} (h : (Lit.int .u8 n).wf = true) : 0 ≤ n ∧ n < 256 := by
 simp [Lit.wf, IntKind.min, IntKind.max, IntKind.signed, IntKind.bits] at h; omega
def IsRow (k : IntKind) (w : World) (a : Option Addr) (len cap : Nat) (zs : List Int) : Prop :=
 (a = none ∧ len = 0 ∧ cap = 0 ∧ zs = []) ∨
 ∃ x, a = some x ∧ len ≤ cap ∧ cap ≤ maxLen ∧ zs.length = cap ∧ (∀ i, i < zs.length → w.cell? (x.add i) = some (.int k (zs.getD i 0))) ∧ ∀ n ∈ zs, (Lit.int k n).wf = true
structure Only (n : Nat) (w w' : World) : Prop where
 os : w'.os = w.os
 tape : w'.tape = w.tape
 output : w'.output = w.output
 size : w.heap.size ≤ w'.heap.size
 block : ∀ k, k < w.heap.size → k ≠ n → w'.heap[k]? = w.heap[k]?
theorem Only.refl (n : Nat) (w : World) : Only n w w := ⟨rfl, rfl, rfl, Nat.le_refl _, fun _ _ _ => rfl⟩
theorem Only.trans {n : Nat} {a b c : World} (h : Only n a b) (k : Only n b c) : Only n a c :=
 ⟨k.os.trans h.os, k.tape.trans h.tape, k.output.trans h.output, Nat.le_trans h.size k.size, fun i hi hn => (k.block i (Nat.lt_of_lt_of_le hi h.size) hn).trans (h.block i hi hn)⟩
theorem Only.drew {n : Nat} {a w : World} (h : Only n a w) : Only n a w.drew := ⟨h.os, h.tape, h.output, h.size, h.block⟩
theorem Only.alloc {n : Nat} {a w : World} (h : Only n a w) (o : Obj) : Only n a (w.alloc o) :=
 h.trans ⟨rfl, rfl, rfl, by simp, fun k hk _ => Below.heap_alloc _ _ _ hk⟩
theorem Only.set {n : Nat} {a w : World} (h : Only n a w) (i : Nat) (u : Value) : Only n a (w.setCell ⟨n, i, none⟩ u) :=
 h.trans ⟨rfl, rfl, rfl, by simp [World.setCell], fun k _ hn => Below.heap_setCell _ _ _ _ hn⟩
theorem Only.below {n : Nat} {a W w : World} (hb : Below a.heap.size a W) (h : Only n W w) (hn : a.heap.size ≤ n) : Below a.heap.size a w :=
 hb.trans ⟨h.os, h.tape, h.output, h.size, fun k hk => h.block k (Nat.lt_of_lt_of_le hk hb.size) (by omega)⟩
theorem Only.of_below {n : Nat} {W w : World} (h : Below W.heap.size W w) : Only n W w := ⟨h.os, h.tape, h.output, h.size, fun k hk _ => h.block k hk⟩
theorem Blk.only {W w : World} {n m : Nat} {cs : Array Value} {T : TypeId} (h : Blk W n cs T) (ho : Only m W w) (hn : n ≠ m) : Blk w n cs T := by
 have hl := h.lt
 unfold Blk at h ⊢
 exact (ho.block n hl hn).trans h
theorem fix_get {cs : Array Value} {i j : Nat} {v : Value} (h : i ≠ j) : (cs.setIfInBounds i v)[j]? = cs[j]? := by simp [h]
theorem fix_same {cs : Array Value} {i : Nat} {v : Value} (h : i < cs.size) : (cs.setIfInBounds i v)[i]? = some v := by simp [h]
theorem wr_u32 (n : Int) (h : 0 ≤ n ∧ n < 4294967296) : IntKind.u32.wrap n = n := by
 simp only [IntKind.wrap, IntKind.signed, IntKind.bits]; simp; omega
theorem wr_u64 (n : Int) (h : 0 ≤ n ∧ n < 18446744073709551616) : IntKind.u64.wrap n = n := by
 simp only [IntKind.wrap, IntKind.signed, IntKind.bits]; simp; omega
theorem wr_u8 (n : Int) (h : 0 ≤ n ∧ n < 256) : IntKind.u8.wrap n = n := by
 simp only [IntKind.wrap, IntKind.signed, IntKind.bits]; simp; omega
theorem wr_i64 (n : Int) (h : -9223372036854775808 ≤ n ∧ n < 9223372036854775808) : IntKind.i64.wrap n = n := by
 simp only [IntKind.wrap, IntKind.signed, IntKind.bits]; simp; omega
end Go.Proofs.YtpgjploaliefdaaGreat
namespace Go.Proofs.YtpgjploaliefdaaGreat.hd
open Go.RowKit
set_option linter.unusedVariables false
set_option linter.unusedSimpArgs false
def rightB (s p : Int) : Bool := decide (0 ≤ s ∧ s ≤ 255 ∧ 0 ≤ p ∧ p ≤ s)
theorem rightB_t {s p : Int} (h : rightB s p = true) : 0 ≤ s ∧ s ≤ 255 ∧ 0 ≤ p ∧ p ≤ s := by simpa [rightB] using h
def packV (s p : Int) : Int := if rightB s p then 2 * s + 131072 * p else 0
def packE (s p : Int) : Int := if rightB s p then 0 else 1
def unOk (w : Int) : Bool := decide (w % 2 = 0) && rightB (w / 2 % 65536) (w / 131072)
def unS (w : Int) : Int := if unOk w then w / 2 % 65536 else 0
def unP (w : Int) : Int := if unOk w then w / 131072 else 0
def unE (w : Int) : Int := if unOk w then 0 else 3
def refOk (a : Int) : Bool := decide (1 ≤ a ∧ a ≤ 9223372036854775807)
def refV (a : Int) : Int := if refOk a then 2 * a + 1 else 0
def refE (a : Int) : Int := if refOk a then 0 else 1
def adV (w : Int) : Int := if w % 2 = 0 ∨ w = 1 then 0 else w / 2
def adE (w : Int) : Int := if w = 0 then 6 else if w % 2 = 0 ∨ w = 1 then 3 else 0
theorem right_any (s p : Int) (w : World) :
  Calls Tryz.prog 74 #[.agg #[.int .i64 s, .int .i64 p]] w fun e w' => e = .returned (.bool (rightB s p)) ∧ Below w.heap.size w w' := by
 go_enter Tryz.func74, Tryz.ntmps74
 go_wp2
 all_goals go_ret
 all_goals exact retB (by unfold rightB; rw [Bool.eq_iff_iff]; simp; try omega) ((Below.refl _ _).alloc (Nat.le_refl _) _)
theorem rrref_any (s p : Int) (w : World) :
  Calls Tryz.prog 70 #[.agg #[.int .i64 s, .int .i64 p]] w fun e w' => e = .returned (.bool (rightB s p)) ∧ Below w.heap.size w w' := by
 go_enter Tryz.func70, Tryz.ntmps70
 go_wp2
 all_goals go_ret
 all_goals exact retB (by unfold rightB; rw [Bool.eq_iff_iff]; simp; try omega) ((Below.refl _ _).alloc (Nat.le_refl _) _)
theorem packref_any (s p : Int) (w : World) :
  Calls Tryz.prog 40 #[.agg #[.int .i64 s, .int .i64 p]] w fun e w' => e = .returned (.tuple #[.int .u64 (packV s p), .int .i64 (packE s p)]) ∧ Below w.heap.size w w' := by
 rcases hr : rightB s p with _ | _
 ·go_enter Tryz.func40, Tryz.ntmps40
  go_wp2_with (go_at_call 70; refine (rrref_any _ _ _).mono ?_; rintro e w1 ⟨rfl, hb⟩)
  go_ret2
  exact retII (by simp [packV, hr]) (by simp [packE, hr]) (((Below.refl _ _).alloc (Nat.le_refl _) _).trans (hb.mono (by simp)))
 ·obtain ⟨h1, h2, h3, h4⟩ := rightB_t hr
  go_enter Tryz.func40, Tryz.ntmps40
  go_wp2_with fail
  refine (rrref_any _ _ _).mono ?_; rintro e w1 ⟨rfl, hb⟩
  obtain ⟨hc, hf⟩ := bcell hb
  go_wp2_with fail
  go_ret2
  exact retII (by simp [packV, hr]; try omega) (by simp [packE, hr]) (((Below.refl _ _).alloc (Nat.le_refl _) _).trans (hb.mono (by simp)))
theorem refOk_t {a : Int} (h : refOk a = true) : 1 ≤ a ∧ a ≤ 9223372036854775807 := by simpa [refOk] using h
theorem refOk_f {a : Int} (h : refOk a = false) : a < 1 ∨ 9223372036854775807 < a := by simp [refOk] at h; omega
theorem addr_any (a : Int) (w : World) (h1 : 0 ≤ a) (h2 : a < 18446744073709551616) :
  Calls Tryz.prog 52 #[.int .u64 a] w fun e w' => e = .returned (.tuple #[.int .u64 (adV a), .int .i64 (adE a)]) ∧ w = w' := by
 go_enter Tryz.func52, Tryz.ntmps52
 go_wp2
 all_goals go_ret2
 all_goals exact retII (by unfold adV; ((try simp only [beq_iff_eq, beq_eq_false_iff_ne, ne_eq] at *); (repeat' split) <;> omega)) (by unfold adE; ((try simp only [beq_iff_eq, beq_eq_false_iff_ne, ne_eq] at *); (repeat' split) <;> omega)) rfl
theorem addrref_any (a : Int) (w : World) (h1 : 0 ≤ a) (h2 : a < 18446744073709551616) :
  Calls Tryz.prog 53 #[.int .u64 a] w fun e w' => e = .returned (.tuple #[.int .u64 (adV a), .int .i64 (adE a)]) ∧ w = w' := by
 go_enter Tryz.func53, Tryz.ntmps53
 go_wp2
 all_goals go_ret2
 all_goals exact retII (by unfold adV; ((try simp only [beq_iff_eq, beq_eq_false_iff_ne, ne_eq] at *); (repeat' split) <;> omega)) (by unfold adE; ((try simp only [beq_iff_eq, beq_eq_false_iff_ne, ne_eq] at *); (repeat' split) <;> omega)) rfl
theorem unOk_of {a : Int} {b : Bool} (h : a % 2 = 0) (hb : (!rightB (a / 2 % 65536) (a / 131072)) = b) : unOk a = !b := by
 rw [← hb]; simp [unOk, h]
theorem unOk_odd {a : Int} (h : ¬ a % 2 = 0) : unOk a = false := by simp [unOk, h]
theorem unpack_any (a : Int) (w : World) (h1 : 0 ≤ a) (h2 : a < 18446744073709551616) :
  Calls Tryz.prog 124 #[.int .u64 a] w fun e w' => e = .returned (.tuple #[.agg #[.int .i64 (unS a), .int .i64 (unP a)], .int .i64 (unE a)]) ∧ Below w.heap.size w w' := by
 by_cases h3 : a % 2 = 0
 ·go_enter Tryz.func124, Tryz.ntmps124
  go_wp2_with fail
  refine (right_any _ _ _).mono ?_; rintro e w1 ⟨rfl, hb⟩
  obtain ⟨hbc, hbf⟩ := bcell hb
  have hbz := hb.size
  go_wp2_with fail
  ·rename_i hq
   have hu := unOk_of h3 hq
   refine bodyPost_ret (v := .tuple #[.agg #[.int .i64 0, .int .i64 0], .int .i64 3]) (by simp only [results, Tryz.results124]; go_simp) rfl ⟨?_, ?_⟩
   ·simp [unS, unP, unE, hu]
   ·exact bm
  ·rename_i hq
   have hu := unOk_of h3 hq
   refine bodyPost_ret (v := .tuple #[.agg #[.int .i64 (a / 2 % 65536), .int .i64 (a / 131072)], .int .i64 0]) (by simp only [results, Tryz.results124]; go_simp) rfl ⟨?_, ?_⟩
   ·simp [unS, unP, unE, hu]
   ·exact bm
 ·have hu := unOk_odd h3
  go_enter Tryz.func124, Tryz.ntmps124
  go_wp2_with fail
  refine bodyPost_ret (v := .tuple #[.agg #[.int .i64 0, .int .i64 0], .int .i64 3]) (by simp only [results, Tryz.results124]; go_simp) rfl ⟨?_, ?_⟩
  ·simp [unS, unP, unE, hu]
  ·exact bm
theorem packE_01 (s p : Int) : packE s p = 0 ↔ rightB s p = true := by unfold packE; split <;> simp_all
theorem unOk_ref {a : Int} (h1 : 0 ≤ a) (h2 : a < 18446744073709551616) : unOk a = decide (packE (a / 2 % 65536) (a / 131072 % 65536) = 0 ∧ packV (a / 2 % 65536) (a / 131072 % 65536) = a) := by
 rw [Bool.eq_iff_iff, decide_eq_true_eq, packE_01]
 simp only [unOk, rightB, packV, Bool.and_eq_true, decide_eq_true_eq]
 constructor
 ·intro h
  have e : a / 131072 % 65536 = a / 131072 := by omega
  rw [e, if_pos (by omega)]
  omega
 ·rintro ⟨h, k⟩
  rw [if_pos h] at k
  omega
theorem unP_ref {a : Int} (h1 : 0 ≤ a) (h2 : a < 18446744073709551616) (h : unOk a = true) : a / 131072 % 65536 = a / 131072 := by
 simp only [unOk, rightB, Bool.and_eq_true, decide_eq_true_eq] at h; omega
theorem unpackref_any (a : Int) (w : World) (h1 : 0 ≤ a) (h2 : a < 18446744073709551616) :
  Calls Tryz.prog 72 #[.int .u64 a] w fun e w' => e = .returned (.tuple #[.agg #[.int .i64 (unS a), .int .i64 (unP a)], .int .i64 (unE a)]) ∧ Below w.heap.size w w' := by
 have g1 : 0 ≤ packV (a / 2 % 65536) (a / 131072 % 65536) := by unfold packV rightB; split <;> simp_all <;> omega
 have HO := Lib.hid (unOk_ref h1 h2)
 have HP := Lib.hid (unP_ref h1 h2)
 go_enter Tryz.func72, Tryz.ntmps72
 go_wp2_with fail
 refine (packref_any _ _ _).mono ?_; rintro e w1 ⟨rfl, hb⟩
 obtain ⟨hbc, hbf⟩ := bcell hb
 have hbz := hb.size
 go_wp2_with fail
 ·rename_i hq1 hq2
  have hu : unOk a = false := by rw [HO.out]; simp at hq2 ⊢; intro _; exact hq2
  refine bodyPost_ret (v := .tuple #[.agg #[.int .i64 0, .int .i64 0], .int .i64 3]) (by simp only [results, Tryz.results72]; go_simp) rfl ⟨?_, ?_⟩
  ·simp [unS, unP, unE, hu]
  ·exact bm
 ·rename_i hq1 hq2
  have hu : unOk a = true := by rw [HO.out]; simp at hq2 ⊢; exact ⟨hq1, hq2⟩
  refine bodyPost_ret (v := .tuple #[.agg #[.int .i64 (a / 2 % 65536), .int .i64 (a / 131072 % 65536)], .int .i64 0]) (by simp only [results, Tryz.results72]; go_simp) rfl ⟨?_, ?_⟩
  ·have := HP.out hu; simp [unS, unP, unE, hu, this]
  ·exact bm
 ·rename_i hq1
  have hu : unOk a = false := by rw [HO.out]; simp [hq1]
  refine bodyPost_ret (v := .tuple #[.agg #[.int .i64 0, .int .i64 0], .int .i64 3]) (by simp only [results, Tryz.results72]; go_simp) rfl ⟨?_, ?_⟩
  ·simp [unS, unP, unE, hu]
  ·exact bm
theorem rightB_mk {s p : Int} (h : 0 ≤ s ∧ s ≤ 255 ∧ 0 ≤ p ∧ p ≤ s) : rightB s p = true := by simp [rightB, h]
theorem unpack_ok (s p : Int) (w : World) (h : 0 ≤ s ∧ s ≤ 255 ∧ 0 ≤ p ∧ p ≤ s) :
  Calls Tryz.prog 124 #[.int .u64 (2 * s + 131072 * p)] w fun e w' => e = .returned (.tuple #[.agg #[.int .i64 s, .int .i64 p], .int .i64 0]) ∧ Below w.heap.size w w' := by
 have h3 : unOk (2 * s + 131072 * p) = true := by simp [unOk, rightB]; omega
 refine (unpack_any _ w (by omega) (by omega)).mono fun e w' ⟨h1, h2⟩ => ⟨?_, h2⟩
 rw [h1]; simp [unS, unP, unE, h3]; omega
theorem addr_ok (a : Int) (w : World) (h : 1 ≤ a ∧ a ≤ 9223372036854775807) :
  Calls Tryz.prog 52 #[.int .u64 (2 * a + 1)] w fun e w' => e = .returned (.tuple #[.int .u64 a, .int .i64 0]) ∧ w = w' :=
 (addr_any _ w (by omega) (by omega)).mono fun e w' ⟨h1, h2⟩ => ⟨by
  rw [h1]; simp only [adV, adE]; rw [if_neg (by omega), if_neg (by omega), if_neg (by omega)]; rw [show (2 * a + 1) / 2 = a from by omega], h2⟩
theorem nat_or1 (n : Nat) : n ||| 1 = 2 * (n / 2) + 1 := by
 have h1 : (n ||| 1) / 2 = n / 2 := by rw [Nat.or_div_two]; simp
 have h2 : (n ||| 1) % 2 = 1 := by rw [Nat.or_mod_two_eq_one]; simp
 omega
theorem or1_u64 (n : Int) (h1 : 0 ≤ n) (h2 : n < 18446744073709551616) : bits .or .u64 n 1 = 2 * (n / 2) + 1 := by
 obtain ⟨k, rfl⟩ := Int.eq_ofNat_of_zero_le h1
 have := u64_or_nat k 1 (by omega) (by omega)
 rw [show ((1 : Nat) : Int) = 1 from rfl] at this
 rw [this, nat_or1]; omega
theorem or1_ex (x : Int) (h1 : 0 ≤ x ∧ x < 18446744073709551616) : ∃ p : Int, bits .or .u64 (x / 2) 1 = p ∧ 1 ≤ p ∧ p ≤ 9223372036854775807 :=
 ⟨_, or1_u64 (x / 2) (by omega) (by omega), by omega, by omega⟩
end Go.Proofs.YtpgjploaliefdaaGreat.hd
namespace Go.Proofs.YtpgjploaliefdaaGreat.ob
open Go.RowKit hd
set_option linter.unusedVariables false
set_option linter.unusedSimpArgs false
def ptrB (x : Int) : Bool := decide (x = 0 ∨ (x % 2 = 1 ∧ x ≠ 1))
theorem ptrB_eq (x : Int) : ptrB x = (decide (x = 0) || decide (adE x = 0)) := by
 unfold ptrB adE
 rw [Bool.eq_iff_iff]
 simp
 repeat' split
 all_goals omega
theorem pointer_any (x : Int) (w : World) (h1 : 0 ≤ x) (h2 : x < 18446744073709551616) :
  Calls Tryz.prog 144 #[.int .u64 x] w fun e w' => e = .returned (.bool (ptrB x)) ∧ w = w' := by
 have HP := Lib.hid (ptrB_eq x)
 go_enter Tryz.func144, Tryz.ntmps144
 go_wp2_with fail
 refine (addr_any x _ h1 h2).mono ?_; rintro e ww ⟨rfl, rfl⟩
 generalize adE x = E at *
 go_wp2_with fail
 all_goals go_ret
 all_goals (refine ⟨?_, rfl⟩; rw [HP.out]; simp_all; try rw [Bool.eq_iff_iff]; try simp_all)
def wrongV (k : Int) : Value := .iface 192 (.agg #[.int .i64 k])
structure Ob where
 pos : Int
 s : Int
 p : Int
 g : Bool
 t : Int
def oV (o : Ob) : Value := .agg #[.int .i64 o.pos, .int .i64 o.s, .int .i64 o.p, .bool o.g, .int .u64 o.t]
theorem fn_nil (W : World) : Sem.run Tryz.prog (binOp .neq 193 .nilFunc .nilFunc) W = .ok (.bool false) W := by kernel_rfl
theorem fn_some (f : Fn) (a c : Array Value) (W : World) : Sem.run Tryz.prog (binOp .neq 193 (.func f a c) .nilFunc) W = .ok (.bool true) W := by kernel_rfl
def BeginPost (pos : Nat) (x : Int) (e : Ending) : Prop := unOk x = true ∧ e = .returned (oV ⟨pos, unS x, unP x, false, 0⟩) ∨ unOk x = false ∧ e = .panicked [{ v := wrongV 3, recovered := false }]
set_option maxHeartbeats 1000000 in
theorem begin_nil (b off len cap pos : Nat) (x : Int) (w : World) (hp : pos < len) (hl : len < 9223372036854775808) (hx : w.cell? ⟨b, off + pos, none⟩ = some (.int .u64 x)) (h1 : 0 ≤ x) (h2 : x < 18446744073709551616) :
  Calls Tryz.prog 136 #[.slice (some ⟨b, off, none⟩) len cap, .int .i64 pos, .nilFunc] w fun e w' => BeginPost pos x e ∧ Below w.heap.size w w' := by
 have hlt : b < w.heap.size := World.block_lt_of_cell? _ _ hx
 have hn0 : b ≠ w.heap.size := by omega
 have hn1 : b ≠ w.heap.size + 1 := by omega
 have hs0 : b < w.heap.size + 1 := by omega
 have hs1 : b < w.heap.size + 1 + 1 := by omega
 go_enter Tryz.func136, Tryz.ntmps136
 go_wp2_with fail
 refine (addr_any x _ h1 h2).mono ?_; rintro e ww ⟨rfl, rfl⟩
 have hnn := fn_nil
 rcases hu : unOk x with _ | _
 ·have hE : unE x = 3 := by simp [unE, hu]
  go_wp2_with fail
  refine (unpack_any x _ h1 h2).mono ?_; rintro e w1 ⟨rfl, k1⟩
  rw [hE]
  go_wp2_with fail
  refine ⟨rfl, .inr ⟨hu, rfl⟩, ?_⟩
  exact bm
 ·have hE : unE x = 0 := by simp [unE, hu]
  go_wp2_with fail
  refine (unpack_any x _ h1 h2).mono ?_; rintro e w1 ⟨rfl, k1⟩
  rw [hE]
  have Ko : Blk w1 (w.heap.size + 1) #[.int .i64 pos, .int .i64 0, .int .i64 0, .bool false, .int .u64 0] 58 := Blk.tr (by exact bk) k1
  have Kr : Blk w1 w.heap.size #[.int .i64 0, .int .i64 0, .int .i64 0, .bool false, .int .u64 0] 58 := Blk.tr (by exact bk) k1
  obtain ⟨lo, co, fo⟩ := Ko.get
  obtain ⟨lr, cr, fr⟩ := Kr.get
  go_wp2_with fail
  refine bodyPost_ret (v := oV ⟨pos, unS x, unP x, false, 0⟩) (by simp only [results, Tryz.results136]; go_simp; rfl) rfl ⟨.inl ⟨hu, rfl⟩, ?_⟩
  exact bm
def slotOk (o : Ob) (i : Nat) (x : Int) : Bool := if o.g then decide (x = 0) else (!decide ((i : Int) < o.p) || ptrB x)
def slotsOk (o : Ob) (zs : List Int) (k : Nat) : Prop := ∀ i, i < k → slotOk o i (zs.getD (o.pos.toNat + 1 + i) 0) = true
def HoldPost (o : Ob) (pos S len : Nat) (zs : List Int) (e : Ending) : Prop := len < pos + 1 + S ∧ e = .panicked [{ v := wrongV 2, recovered := false }] ∨ pos + 1 + S ≤ len ∧ slotsOk o zs S ∧ e = .returned (.tuple #[]) ∨ pos + 1 + S ≤ len ∧ ¬ slotsOk o zs S ∧ e = .panicked [{ v := wrongV 3, recovered := false }]
theorem slotsOk_succ {o : Ob} {zs : List Int} {k : Nat} (h : slotsOk o zs k) : slotOk o k (zs.getD (o.pos.toNat + 1 + k) 0) = true → slotsOk o zs (k + 1) := fun g i hi => by
 by_cases e : i < k
 ·exact h i e
 ·obtain rfl : i = k := by omega
  exact g
theorem slotsOk_bad {o : Ob} {zs : List Int} {k n : Nat} (h : k < n) : slotOk o k (zs.getD (o.pos.toNat + 1 + k) 0) = false → ¬ slotsOk o zs n := fun g q => by
 have := q k h; rw [g] at this; cases this
set_option maxHeartbeats 2000000 in
theorem hold_any (b off len cap pos S : Nat) (p t : Int) (g : Bool) (zs : List Int) (w : World) (hp : pos < len) (hc : len ≤ cap) (hl : cap < 9223372036854775808) (hS : S ≤ 255) (hx : ∀ i, i < len → w.cell? ⟨b, off + i, none⟩ = some (.int .u64 (zs.getD i 0))) (hz : ∀ i, 0 ≤ zs.getD i 0 ∧ zs.getD i 0 < 18446744073709551616) :
  Calls Tryz.prog 137 #[.slice (some ⟨b, off, none⟩) len cap, oV ⟨pos, S, p, g, t⟩] w fun e w' => HoldPost ⟨pos, S, p, g, t⟩ pos S len zs e ∧ Below w.heap.size w w' := by
 have hx0 := hx pos hp
 have hlt : b < w.heap.size := World.block_lt_of_cell? _ _ hx0
 have hn0 : b ≠ w.heap.size := by omega
 have hs0 : b < w.heap.size + 1 := by omega
 unfold oV
 go_enter Tryz.func137, Tryz.ntmps137
 clear hx0
 have HX := Lib.hid hx
 have HZ := Lib.hid hz
 clear hx hz
 by_cases hcap : cap = pos + 1
 ·obtain rfl : len = cap := by omega
  subst hcap
  by_cases hS0 : S = 0
  ·subst hS0
   go_wp2_with fail
   go_loop [26] (fun i => i = .int .i64 0) (fun _ => 0)
   case atStart => rfl
   case round =>
    subst hrel
    go_wp2_with fail
    go_end0
    refine ⟨.inr (.inl ⟨by omega, fun i hi => by omega, rfl⟩), ?_⟩
    exact bm
  ·have h1 : (0 : Int) < (S : Int) := by omega
   go_wp2_with fail
   refine ⟨rfl, .inl ⟨by omega, rfl⟩, ?_⟩
   exact bm
 ·have hcp : 0 < cap - (pos + 1) := by omega
  by_cases hsh : len < pos + 1 + S
  ·have h1 : (((len - (pos + 1) : Nat) : Int)) < (S : Int) := by omega
   go_wp2_with fail
   refine ⟨rfl, .inl ⟨by omega, rfl⟩, ?_⟩
   exact bm
  ·have h1 : ¬ (((len - (pos + 1) : Nat) : Int)) < (S : Int) := by omega
   clear h1
   have hSl : S ≤ len - (pos + 1) := by omega
   go_wp2_with fail
   rw [show decide (len - (pos + 1) < S) = false from decide_eq_false (by omega)]
   go_loop [26] (fun i => ∃ k : Nat, k ≤ S ∧ i = .int .i64 k ∧ Hid (slotsOk ⟨pos, S, p, g, t⟩ zs k)) (fun i => S - (intOf i).toNat)
   case atStart => exact ⟨0, Nat.zero_le _, rfl, fun i hi => by omega⟩
   case round =>
    obtain ⟨k, hk, rfl, hok⟩ := hrel
    by_cases hlk : k < S
    ·have hxk := HX.out (pos + 1 + k) (by omega)
     have hzk := HZ.out (pos + 1 + k)
     rw [show off + (pos + 1 + k) = off + (pos + 1) + k from by omega] at hxk
     have HG := Lib.hid (slotsOk_succ (o := ⟨pos, S, p, g, t⟩) (zs := zs) hok.out)
     have HB := Lib.hid (slotsOk_bad (o := ⟨pos, S, p, g, t⟩) (zs := zs) (n := S) hlk)
     simp only [Int.toNat_natCast] at HG HB
     generalize zs.getD (pos + 1 + k) 0 = x at *
     have hmeas : S - (intOf (.int .i64 ((k : Int) + 1))).toNat < S - (intOf (.int .i64 (k : Int))).toNat := by simp [intOf]; omega
     cases g with
     | true =>
      by_cases hx0 : x = 0
      ·have hxb : (x == 0) = true := by simp [hx0]
       go_wp2_with fail
       exact ⟨⟨k + 1, by omega, by go_num, HG.out (by simp [slotOk, hx0])⟩, by simp [intOf]; omega⟩
      ·have hxb : (x == 0) = false := by simp [hx0]
       go_wp2_with fail
       refine ⟨rfl, .inr (.inr ⟨by omega, HB.out (by simp [slotOk, hx0]), rfl⟩), ?_⟩
       exact bm
     | false =>
      by_cases hkp : (k : Int) < p
      ·have hkd : decide ((k : Int) < p) = true := decide_eq_true hkp
       go_wp2_with fail
       refine (pointer_any x _ hzk.1 hzk.2).mono ?_; rintro e ww ⟨rfl, rfl⟩
       rcases hpb : ptrB x with _ | _
       ·go_wp2_with fail
        refine ⟨rfl, .inr (.inr ⟨by omega, HB.out (by simp [slotOk, hkp, hpb]), rfl⟩), ?_⟩
        exact bm
       ·go_wp2_with fail
        exact ⟨⟨k + 1, by omega, by go_num, HG.out (by simp [slotOk, hpb])⟩, by simp [intOf]; omega⟩
      ·have hkd : decide ((k : Int) < p) = false := decide_eq_false hkp
       go_wp2_with fail
       exact ⟨⟨k + 1, by omega, by go_num, HG.out (by simp [slotOk, hkp])⟩, by simp [intOf]; omega⟩
    ·obtain rfl : k = S := by omega
     go_wp2_with fail
     go_end0
     refine ⟨.inr (.inl ⟨by omega, hok.out, rfl⟩), ?_⟩
     exact bm
end Go.Proofs.YtpgjploaliefdaaGreat.ob
