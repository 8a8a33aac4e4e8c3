/- Part 26 of what the proofs stand on: lemmas on worlds, on goroutines, contracts of functions. No conditions. -/
import Derived.Test.YtgfgoflhmikalaaM25
import Derived.Test.YtgfgoflhmikalaaProg
import Derived.WalkKit
import Derived.WalkSpells
import Derived.WalkLawsBesides
import Derived.Lib.Hide
import Derived.RegionCalls
import Derived.Deep.RegionHeld3
import Derived.KernelRfl
namespace Go.Proofs.Ytgfgoflhmikalaa
open Go.RowKit
set_option linter.unusedVariables false
set_option linter.unusedSimpArgs false
@[simp, go_sem] theorem ltp2 (n : Nat) : n < n + 1 + 1 := by omega
@[simp, go_sem] theorem lep2 (n : Nat) : n ≤ n + 1 + 1 := by omega
@[simp, go_sem] theorem nep2 (n : Nat) : ¬ n = n + 1 + 1 := by omega
@[simp, go_sem] theorem neq2 (n : Nat) : ¬ n + 1 + 1 = n := by omega
@[simp, go_sem] theorem ltp3 (n : Nat) : n < n + 1 + 1 + 1 := by omega
@[simp, go_sem] theorem lep3 (n : Nat) : n ≤ n + 1 + 1 + 1 := by omega
@[simp, go_sem] theorem nep3 (n : Nat) : ¬ n = n + 1 + 1 + 1 := by omega
@[simp, go_sem] theorem neq3 (n : Nat) : ¬ n + 1 + 1 + 1 = n := by omega
@[simp, go_sem] theorem ltp4 (n : Nat) : n < n + 1 + 1 + 1 + 1 := by omega
@[simp, go_sem] theorem lep4 (n : Nat) : n ≤ n + 1 + 1 + 1 + 1 := by omega
@[simp, go_sem] theorem nep4 (n : Nat) : ¬ n = n + 1 + 1 + 1 + 1 := by omega
@[simp, go_sem] theorem neq4 (n : Nat) : ¬ n + 1 + 1 + 1 + 1 = n := by omega
@[simp, go_sem] theorem ltp5 (n : Nat) : n < n + 1 + 1 + 1 + 1 + 1 := by omega
@[simp, go_sem] theorem lep5 (n : Nat) : n ≤ n + 1 + 1 + 1 + 1 + 1 := by omega
@[simp, go_sem] theorem nep5 (n : Nat) : ¬ n = n + 1 + 1 + 1 + 1 + 1 := by omega
@[simp, go_sem] theorem neq5 (n : Nat) : ¬ n + 1 + 1 + 1 + 1 + 1 = n := by omega
@[simp, go_sem] theorem ltp6 (n : Nat) : n < n + 1 + 1 + 1 + 1 + 1 + 1 := by omega
@[simp, go_sem] theorem lep6 (n : Nat) : n ≤ n + 1 + 1 + 1 + 1 + 1 + 1 := by omega
@[simp, go_sem] theorem nep6 (n : Nat) : ¬ n = n + 1 + 1 + 1 + 1 + 1 + 1 := by omega
@[simp, go_sem] theorem neq6 (n : Nat) : ¬ n + 1 + 1 + 1 + 1 + 1 + 1 = n := by omega
@[simp, go_sem] theorem ltp7 (n : Nat) : n < n + 1 + 1 + 1 + 1 + 1 + 1 + 1 := by omega
@[simp, go_sem] theorem lep7 (n : Nat) : n ≤ n + 1 + 1 + 1 + 1 + 1 + 1 + 1 := by omega
@[simp, go_sem] theorem nep7 (n : Nat) : ¬ n = n + 1 + 1 + 1 + 1 + 1 + 1 + 1 := by omega
@[simp, go_sem] theorem neq7 (n : Nat) : ¬ n + 1 + 1 + 1 + 1 + 1 + 1 + 1 = n := by omega
@[simp, go_sem] theorem ltp8 (n : Nat) : n < n + 1 + 1 + 1 + 1 + 1 + 1 + 1 + 1 := by omega
@[simp, go_sem] theorem lep8 (n : Nat) : n ≤ n + 1 + 1 + 1 + 1 + 1 + 1 + 1 + 1 := by omega
@[simp, go_sem] theorem nep8 (n : Nat) : ¬ n = n + 1 + 1 + 1 + 1 + 1 + 1 + 1 + 1 := by omega
@[simp, go_sem] theorem neq8 (n : Nat) : ¬ n + 1 + 1 + 1 + 1 + 1 + 1 + 1 + 1 = n := by omega
@[simp, go_sem] theorem ltp9 (n : Nat) : n < n + 1 + 1 + 1 + 1 + 1 + 1 + 1 + 1 + 1 := by omega
@[simp, go_sem] theorem lep9 (n : Nat) : n ≤ n + 1 + 1 + 1 + 1 + 1 + 1 + 1 + 1 + 1 := by omega
@[simp, go_sem] theorem nep9 (n : Nat) : ¬ n = n + 1 + 1 + 1 + 1 + 1 + 1 + 1 + 1 + 1 := by omega
@[simp, go_sem] theorem neq9 (n : Nat) : ¬ n + 1 + 1 + 1 + 1 + 1 + 1 + 1 + 1 + 1 = n := by omega
@[simp, go_sem] theorem ltp10 (n : Nat) : n < n + 1 + 1 + 1 + 1 + 1 + 1 + 1 + 1 + 1 + 1 := by omega
@[simp, go_sem] theorem lep10 (n : Nat) : n ≤ n + 1 + 1 + 1 + 1 + 1 + 1 + 1 + 1 + 1 + 1 := by omega
@[simp, go_sem] theorem nep10 (n : Nat) : ¬ n = n + 1 + 1 + 1 + 1 + 1 + 1 + 1 + 1 + 1 + 1 := by omega
@[simp, go_sem] theorem neq10 (n : Nat) : ¬ n + 1 + 1 + 1 + 1 + 1 + 1 + 1 + 1 + 1 + 1 = n := by omega
@[simp, go_sem] theorem ltp11 (n : Nat) : n < n + 1 + 1 + 1 + 1 + 1 + 1 + 1 + 1 + 1 + 1 + 1 := by omega
@[simp, go_sem] theorem lep11 (n : Nat) : n ≤ n + 1 + 1 + 1 + 1 + 1 + 1 + 1 + 1 + 1 + 1 + 1 := by omega
@[simp, go_sem] theorem nep11 (n : Nat) : ¬ n = n + 1 + 1 + 1 + 1 + 1 + 1 + 1 + 1 + 1 + 1 + 1 := by omega
@[simp, go_sem] theorem neq11 (n : Nat) : ¬ n + 1 + 1 + 1 + 1 + 1 + 1 + 1 + 1 + 1 + 1 + 1 = n := by omega
@[simp, go_sem] theorem ltp12 (n : Nat) : n < n + 1 + 1 + 1 + 1 + 1 + 1 + 1 + 1 + 1 + 1 + 1 + 1 := by omega
@[simp, go_sem] theorem lep12 (n : Nat) : n ≤ n + 1 + 1 + 1 + 1 + 1 + 1 + 1 + 1 + 1 + 1 + 1 + 1 := by omega
@[simp, go_sem] theorem nep12 (n : Nat) : ¬ n = n + 1 + 1 + 1 + 1 + 1 + 1 + 1 + 1 + 1 + 1 + 1 + 1 := by omega
@[simp, go_sem] theorem neq12 (n : Nat) : ¬ n + 1 + 1 + 1 + 1 + 1 + 1 + 1 + 1 + 1 + 1 + 1 + 1 = n := by omega
@[simp, go_sem] theorem ltp13 (n : Nat) : n < n + 1 + 1 + 1 + 1 + 1 + 1 + 1 + 1 + 1 + 1 + 1 + 1 + 1 := by omega
@[simp, go_sem] theorem lep13 (n : Nat) : n ≤ n + 1 + 1 + 1 + 1 + 1 + 1 + 1 + 1 + 1 + 1 + 1 + 1 + 1 := by omega
@[simp, go_sem] theorem nep13 (n : Nat) : ¬ n = n + 1 + 1 + 1 + 1 + 1 + 1 + 1 + 1 + 1 + 1 + 1 + 1 + 1 := by omega
@[simp, go_sem] theorem neq13 (n : Nat) : ¬ n + 1 + 1 + 1 + 1 + 1 + 1 + 1 + 1 + 1 + 1 + 1 + 1 + 1 = n := by omega
@[simp, go_sem] theorem ltp14 (n : Nat) : n < n + 1 + 1 + 1 + 1 + 1 + 1 + 1 + 1 + 1 + 1 + 1 + 1 + 1 + 1 := by omega
@[simp, go_sem] theorem lep14 (n : Nat) : n ≤ n + 1 + 1 + 1 + 1 + 1 + 1 + 1 + 1 + 1 + 1 + 1 + 1 + 1 + 1 := by omega
@[simp, go_sem] theorem nep14 (n : Nat) : ¬ n = n + 1 + 1 + 1 + 1 + 1 + 1 + 1 + 1 + 1 + 1 + 1 + 1 + 1 + 1 := by omega
@[simp, go_sem] theorem neq14 (n : Nat) : ¬ n + 1 + 1 + 1 + 1 + 1 + 1 + 1 + 1 + 1 + 1 + 1 + 1 + 1 + 1 = n := by omega
@[simp, go_sem] theorem ltp15 (n : Nat) : n < n + 1 + 1 + 1 + 1 + 1 + 1 + 1 + 1 + 1 + 1 + 1 + 1 + 1 + 1 + 1 := by omega
@[simp, go_sem] theorem lep15 (n : Nat) : n ≤ n + 1 + 1 + 1 + 1 + 1 + 1 + 1 + 1 + 1 + 1 + 1 + 1 + 1 + 1 + 1 := by omega
@[simp, go_sem] theorem nep15 (n : Nat) : ¬ n = n + 1 + 1 + 1 + 1 + 1 + 1 + 1 + 1 + 1 + 1 + 1 + 1 + 1 + 1 + 1 := by omega
@[simp, go_sem] theorem neq15 (n : Nat) : ¬ n + 1 + 1 + 1 + 1 + 1 + 1 + 1 + 1 + 1 + 1 + 1 + 1 + 1 + 1 + 1 = n := by omega
@[simp, go_sem] theorem ltp16 (n : Nat) : n < n + 1 + 1 + 1 + 1 + 1 + 1 + 1 + 1 + 1 + 1 + 1 + 1 + 1 + 1 + 1 + 1 := by omega
@[simp, go_sem] theorem lep16 (n : Nat) : n ≤ n + 1 + 1 + 1 + 1 + 1 + 1 + 1 + 1 + 1 + 1 + 1 + 1 + 1 + 1 + 1 + 1 := by omega
@[simp, go_sem] theorem nep16 (n : Nat) : ¬ n = n + 1 + 1 + 1 + 1 + 1 + 1 + 1 + 1 + 1 + 1 + 1 + 1 + 1 + 1 + 1 + 1 := by omega
@[simp, go_sem] theorem neq16 (n : Nat) : ¬ n + 1 + 1 + 1 + 1 + 1 + 1 + 1 + 1 + 1 + 1 + 1 + 1 + 1 + 1 + 1 + 1 = n := by omega
@[simp, go_sem] theorem ltp17 (n : Nat) : n < n + 1 + 1 + 1 + 1 + 1 + 1 + 1 + 1 + 1 + 1 + 1 + 1 + 1 + 1 + 1 + 1 + 1 := by omega
@[simp, go_sem] theorem lep17 (n : Nat) : n ≤ n + 1 + 1 + 1 + 1 + 1 + 1 + 1 + 1 + 1 + 1 + 1 + 1 + 1 + 1 + 1 + 1 + 1 := by omega
@[simp, go_sem] theorem nep17 (n : Nat) : ¬ n = n + 1 + 1 + 1 + 1 + 1 + 1 + 1 + 1 + 1 + 1 + 1 + 1 + 1 + 1 + 1 + 1 + 1 := by omega
@[simp, go_sem] theorem neq17 (n : Nat) : ¬ n + 1 + 1 + 1 + 1 + 1 + 1 + 1 + 1 + 1 + 1 + 1 + 1 + 1 + 1 + 1 + 1 + 1 = n := by omega
@[simp, go_sem] theorem ltp18 (n : Nat) : n < n + 1 + 1 + 1 + 1 + 1 + 1 + 1 + 1 + 1 + 1 + 1 + 1 + 1 + 1 + 1 + 1 + 1 + 1 := by omega
@[simp, go_sem] theorem lep18 (n : Nat) : n ≤ n + 1 + 1 + 1 + 1 + 1 + 1 + 1 + 1 + 1 + 1 + 1 + 1 + 1 + 1 + 1 + 1 + 1 + 1 := by omega
@[simp, go_sem] theorem nep18 (n : Nat) : ¬ n = n + 1 + 1 + 1 + 1 + 1 + 1 + 1 + 1 + 1 + 1 + 1 + 1 + 1 + 1 + 1 + 1 + 1 + 1 := by omega
@[simp, go_sem] theorem neq18 (n : Nat) : ¬ n + 1 + 1 + 1 + 1 + 1 + 1 + 1 + 1 + 1 + 1 + 1 + 1 + 1 + 1 + 1 + 1 + 1 + 1 = n := by omega
@[simp, go_sem] theorem ltp19 (n : Nat) : n < n + 1 + 1 + 1 + 1 + 1 + 1 + 1 + 1 + 1 + 1 + 1 + 1 + 1 + 1 + 1 + 1 + 1 + 1 + 1 := by omega
@[simp, go_sem] theorem lep19 (n : Nat) : n ≤ n + 1 + 1 + 1 + 1 + 1 + 1 + 1 + 1 + 1 + 1 + 1 + 1 + 1 + 1 + 1 + 1 + 1 + 1 + 1 := by omega
@[simp, go_sem] theorem nep19 (n : Nat) : ¬ n = n + 1 + 1 + 1 + 1 + 1 + 1 + 1 + 1 + 1 + 1 + 1 + 1 + 1 + 1 + 1 + 1 + 1 + 1 + 1 := by omega
@[simp, go_sem] theorem neq19 (n : Nat) : ¬ n + 1 + 1 + 1 + 1 + 1 + 1 + 1 + 1 + 1 + 1 + 1 + 1 + 1 + 1 + 1 + 1 + 1 + 1 + 1 = n := by omega
@[simp, go_sem] theorem ltp20 (n : Nat) : n < n + 1 + 1 + 1 + 1 + 1 + 1 + 1 + 1 + 1 + 1 + 1 + 1 + 1 + 1 + 1 + 1 + 1 + 1 + 1 + 1 := by omega
@[simp, go_sem] theorem lep20 (n : Nat) : n ≤ n + 1 + 1 + 1 + 1 + 1 + 1 + 1 + 1 + 1 + 1 + 1 + 1 + 1 + 1 + 1 + 1 + 1 + 1 + 1 + 1 := by omega
@[simp, go_sem] theorem nep20 (n : Nat) : ¬ n = n + 1 + 1 + 1 + 1 + 1 + 1 + 1 + 1 + 1 + 1 + 1 + 1 + 1 + 1 + 1 + 1 + 1 + 1 + 1 + 1 := by omega
@[simp, go_sem] theorem neq20 (n : Nat) : ¬ n + 1 + 1 + 1 + 1 + 1 + 1 + 1 + 1 + 1 + 1 + 1 + 1 + 1 + 1 + 1 + 1 + 1 + 1 + 1 + 1 = n := by omega
@[simp, go_sem] theorem ltp21 (n : Nat) : n < n + 1 + 1 + 1 + 1 + 1 + 1 + 1 + 1 + 1 + 1 + 1 + 1 + 1 + 1 + 1 + 1 + 1 + 1 + 1 + 1 + 1 := by omega
@[simp, go_sem] theorem lep21 (n : Nat) : n ≤ n + 1 + 1 + 1 + 1 + 1 + 1 + 1 + 1 + 1 + 1 + 1 + 1 + 1 + 1 + 1 + 1 + 1 + 1 + 1 + 1 + 1 := by omega
@[simp, go_sem] theorem nep21 (n : Nat) : ¬ n = n + 1 + 1 + 1 + 1 + 1 + 1 + 1 + 1 + 1 + 1 + 1 + 1 + 1 + 1 + 1 + 1 + 1 + 1 + 1 + 1 + 1 := by omega
@[simp, go_sem] theorem neq21 (n : Nat) : ¬ n + 1 + 1 + 1 + 1 + 1 + 1 + 1 + 1 + 1 + 1 + 1 + 1 + 1 + 1 + 1 + 1 + 1 + 1 + 1 + 1 + 1 = n := by omega
@[simp, go_sem] theorem ltp22 (n : Nat) : n < n + 1 + 1 + 1 + 1 + 1 + 1 + 1 + 1 + 1 + 1 + 1 + 1 + 1 + 1 + 1 + 1 + 1 + 1 + 1 + 1 + 1 + 1 := by omega
@[simp, go_sem] theorem lep22 (n : Nat) : n ≤ n + 1 + 1 + 1 + 1 + 1 + 1 + 1 + 1 + 1 + 1 + 1 + 1 + 1 + 1 + 1 + 1 + 1 + 1 + 1 + 1 + 1 + 1 := by omega
@[simp, go_sem] theorem nep22 (n : Nat) : ¬ n = n + 1 + 1 + 1 + 1 + 1 + 1 + 1 + 1 + 1 + 1 + 1 + 1 + 1 + 1 + 1 + 1 + 1 + 1 + 1 + 1 + 1 + 1 := by omega
@[simp, go_sem] theorem neq22 (n : Nat) : ¬ n + 1 + 1 + 1 + 1 + 1 + 1 + 1 + 1 + 1 + 1 + 1 + 1 + 1 + 1 + 1 + 1 + 1 + 1 + 1 + 1 + 1 + 1 = n := by omega
@[simp, go_sem] theorem ltp23 (n : Nat) : n < n + 1 + 1 + 1 + 1 + 1 + 1 + 1 + 1 + 1 + 1 + 1 + 1 + 1 + 1 + 1 + 1 + 1 + 1 + 1 + 1 + 1 + 1 + 1 := by omega
@[simp, go_sem] theorem lep23 (n : Nat) : n ≤ n + 1 + 1 + 1 + 1 + 1 + 1 + 1 + 1 + 1 + 1 + 1 + 1 + 1 + 1 + 1 + 1 + 1 + 1 + 1 + 1 + 1 + 1 + 1 := by omega
@[simp, go_sem] theorem nep23 (n : Nat) : ¬ n = n + 1 + 1 + 1 + 1 + 1 + 1 + 1 + 1 + 1 + 1 + 1 + 1 + 1 + 1 + 1 + 1 + 1 + 1 + 1 + 1 + 1 + 1 + 1 := by omega
@[simp, go_sem] theorem neq23 (n : Nat) : ¬ n + 1 + 1 + 1 + 1 + 1 + 1 + 1 + 1 + 1 + 1 + 1 + 1 + 1 + 1 + 1 + 1 + 1 + 1 + 1 + 1 + 1 + 1 + 1 = n := by omega
@[simp, go_sem] theorem ltp24 (n : Nat) : n < n + 1 + 1 + 1 + 1 + 1 + 1 + 1 + 1 + 1 + 1 + 1 + 1 + 1 + 1 + 1 + 1 + 1 + 1 + 1 + 1 + 1 + 1 + 1 + 1 := by omega
@[simp, go_sem] theorem lep24 (n : Nat) : n ≤ n + 1 + 1 + 1 + 1 + 1 + 1 + 1 + 1 + 1 + 1 + 1 + 1 + 1 + 1 + 1 + 1 + 1 + 1 + 1 + 1 + 1 + 1 + 1 + 1 := by omega
@[simp, go_sem] theorem nep24 (n : Nat) : ¬ n = n + 1 + 1 + 1 + 1 + 1 + 1 + 1 + 1 + 1 + 1 + 1 + 1 + 1 + 1 + 1 + 1 + 1 + 1 + 1 + 1 + 1 + 1 + 1 + 1 := by omega
@[simp, go_sem] theorem neq24 (n : Nat) : ¬ n + 1 + 1 + 1 + 1 + 1 + 1 + 1 + 1 + 1 + 1 + 1 + 1 + 1 + 1 + 1 + 1 + 1 + 1 + 1 + 1 + 1 + 1 + 1 + 1 = n := by omega
theorem cell_tr {W w1 : World} (hb : Below W.heap.size W w1) {p : Addr} {v : Value} (h : W.cell? p = some v) : w1.cell? p = some v := by
  have hlt : p.block < W.heap.size := by
    rcases Nat.lt_or_ge p.block W.heap.size with h1 | h1
    · exact h1
    · simp [World.cell?, Array.getElem?_eq_none h1] at h
  rw [hb.cell hlt]; exact h
theorem s2_tr {W w1 : World} (hb : Below W.heap.size W w1) {p q : Addr} {v u : Value} (h : W.cell? p = some v ∧ W.cell? q = some u) : w1.cell? p = some v ∧ w1.cell? q = some u := ⟨cell_tr hb h.1, cell_tr hb h.2⟩
theorem bcell {W w1 : World} (hb : Below W.heap.size W w1) : (∀ b o, b < W.heap.size → w1.cell? ⟨b, o, none⟩ = W.cell? ⟨b, o, none⟩) ∧ (∀ b o, b < W.heap.size → w1.frozen? ⟨b, o, none⟩ = W.frozen? ⟨b, o, none⟩) :=
  ⟨fun b o h => hb.cell (p := ⟨b, o, none⟩) h, fun b o h => hb.frozen (p := ⟨b, o, none⟩) h⟩
theorem retB {a b : Bool} {Q : Prop} (h : a = b) (hq : Q) : Ending.returned (.bool a) = .returned (.bool b) ∧ Q := by subst h; exact ⟨rfl, hq⟩
theorem retI {k : IntKind} {a b : Int} {Q : Prop} (h : a = b) (hq : Q) : Ending.returned (.int k a) = .returned (.int k b) ∧ Q := by subst h; exact ⟨rfl, hq⟩
theorem retII {k k' : IntKind} {a b c d : Int} {Q : Prop} (h : a = b) (h' : c = d) (hq : Q) : Ending.returned (.tuple #[.int k a, .int k' c]) = .returned (.tuple #[.int k b, .int k' d]) ∧ Q := by subst h; subst h'; exact ⟨rfl, hq⟩
theorem kp_alloc {a w : World} (h : Below a.heap.size a w) (o : Obj) : Below a.heap.size a (w.alloc o) := h.alloc h.size o
theorem kp_drew {a w : World} (h : Below a.heap.size a w) : Below a.heap.size a w.drew := h.drew
theorem kp_tr {a W w : World} (h : Below a.heap.size a W) (k : Below W.heap.size W w) : Below a.heap.size a w := h.trans (k.mono h.size)
theorem kp_set {a w : World} (h : Below a.heap.size a w) {p : Addr} (hp : a.heap.size ≤ p.block) (u : Value) : Below a.heap.size a (w.setCell p u) := h.setCell hp u
/-- A block of the call's own: its cells, none frozen. (A plain def: the walk does not look behind it.) -/
def Blk (w : World) (n : Nat) (cs : Array Value) (T : TypeId) : Prop := w.heap[n]? = some (.cells cs T (0, 0))
theorem Blk.lt {w : World} {n : Nat} {cs : Array Value} {T : TypeId} (h : Blk w n cs T) : n < w.heap.size := by
  unfold Blk at h
  rcases Nat.lt_or_ge n w.heap.size with h1 | h1
  · exact h1
  · rw [Array.getElem?_eq_none h1] at h; cases h
theorem Blk.get {w : World} {n : Nat} {cs : Array Value} {T : TypeId} (h : Blk w n cs T) : n < w.heap.size ∧ (∀ i, w.cell? ⟨n, i, none⟩ = cs[i]?) ∧ ∀ i, w.frozen? ⟨n, i, none⟩ = false := by
  refine ⟨h.lt, fun i => ?_, fun i => ?_⟩
  · unfold Blk at h; simp [World.cell?, h]
  · unfold Blk at h; simp [World.frozen?, h]
theorem Blk.new (w : World) (cs : Array Value) (T : TypeId) : Blk (w.alloc (.cells cs T)) w.heap.size cs T := by
  unfold Blk; show (w.heap.push _)[w.heap.size]? = _; simp
theorem Blk.mk {w : World} {n : Nat} {cs : Array Value} {T : TypeId} (h : n = w.heap.size) : Blk (w.alloc (.cells cs T)) n cs T := by subst h; exact Blk.new w cs T
theorem Blk.tr {W w : World} {n : Nat} {cs : Array Value} {T : TypeId} (h : Blk W n cs T) (hb : Below W.heap.size W w) : Blk w n cs T := (hb.block n h.lt).trans h
theorem Blk.alloc {w : World} {n : Nat} {cs : Array Value} {T : TypeId} (h : Blk w n cs T) (o : Obj) : Blk (w.alloc o) n cs T := (Below.heap_alloc w o n h.lt).trans h
theorem Blk.drew {w : World} {n : Nat} {cs : Array Value} {T : TypeId} (h : Blk w n cs T) : Blk w.drew n cs T := h
theorem Blk.other {w : World} {n : Nat} {cs : Array Value} {T : TypeId} (h : Blk w n cs T) {p : Addr} (hp : n ≠ p.block) (v : Value) : Blk (w.setCell p v) n cs T := (Below.heap_setCell w p v n hp).trans h
theorem Blk.set {w : World} {n : Nat} {cs : Array Value} {T : TypeId} (h : Blk w n cs T) (i : Nat) (v : Value) : Blk (w.setCell ⟨n, i, none⟩ v) n (cs.setIfInBounds i v) T := by
  unfold Blk at h ⊢
  simp only [World.setCell, Array.getElem?_modify, if_pos, h]
  simp
theorem Blk.raw {w : World} {n : Nat} {cs : Array Value} {T : TypeId} (h : Blk w n cs T) : w.heap[n]? = some (.cells cs T (0, 0)) := h
theorem Blk.of {w : World} {n : Nat} {cs : Array Value} {T : TypeId} (h : w.heap[n]? = some (.cells cs T (0, 0))) : Blk w n cs T := h
attribute [irreducible] Blk
theorem wfb_i64 {n : Int} (h : (Lit.int .i64 n).wf = true) : -9223372036854775808 ≤ n ∧ n < 9223372036854775808 := by
  simp [Lit.wf, IntKind.min, IntKind.max, IntKind.signed, IntKind.bits] at h; omega
theorem wfb_u64 {n : Int} (h : (Lit.int .u64 n).wf = true) : 0 ≤ n ∧ n < 18446744073709551616 := by
  simp [Lit.wf, IntKind.min, IntKind.max, IntKind.signed, IntKind.bits] at h; omega
theorem wfb_u32 {n : Int} (h : (Lit.int .u32 n).wf = true) : 0 ≤ n ∧ n < 4294967296 := by
  simp [Lit.wf, IntKind.min, IntKind.max, IntKind.signed, IntKind.bits] at h; omega
theorem wfb_u8 {n : Int} (h : (Lit.int .u8 n).wf = true) : 0 ≤ n ∧ n < 256 := by
  simp [Lit.wf, IntKind.min, IntKind.max, IntKind.signed, IntKind.bits] at h; omega
/-- A slice of integers that came in: nil, or a row of 'cap' cells. -/
def IsRow (k : IntKind) (w : World) (a : Option Addr) (len cap : Nat) (zs : List Int) : Prop :=
  (a = none ∧ len = 0 ∧ cap = 0 ∧ zs = []) ∨
  ∃ x, a = some x ∧ len ≤ cap ∧ cap ≤ maxLen ∧ zs.length = cap ∧ (∀ i, i < zs.length → w.cell? (x.add i) = some (.int k (zs.getD i 0))) ∧ ∀ n ∈ zs, (Lit.int k n).wf = true
/-- Of what was there, only block n may have turned. -/
structure Only (n : Nat) (w w' : World) : Prop where
  os : w'.os = w.os
  tape : w'.tape = w.tape
  output : w'.output = w.output
  size : w.heap.size ≤ w'.heap.size
  block : ∀ k, k < w.heap.size → k ≠ n → w'.heap[k]? = w.heap[k]?
theorem Only.refl (n : Nat) (w : World) : Only n w w := ⟨rfl, rfl, rfl, Nat.le_refl _, fun _ _ _ => rfl⟩
theorem Only.trans {n : Nat} {a b c : World} (h : Only n a b) (k : Only n b c) : Only n a c :=
  ⟨k.os.trans h.os, k.tape.trans h.tape, k.output.trans h.output, Nat.le_trans h.size k.size, fun i hi hn => (k.block i (Nat.lt_of_lt_of_le hi h.size) hn).trans (h.block i hi hn)⟩
theorem Only.drew {n : Nat} {a w : World} (h : Only n a w) : Only n a w.drew := ⟨h.os, h.tape, h.output, h.size, h.block⟩
theorem Only.alloc {n : Nat} {a w : World} (h : Only n a w) (o : Obj) : Only n a (w.alloc o) :=
  h.trans ⟨rfl, rfl, rfl, by simp, fun k hk _ => Below.heap_alloc _ _ _ hk⟩
theorem Only.set {n : Nat} {a w : World} (h : Only n a w) (i : Nat) (u : Value) : Only n a (w.setCell ⟨n, i, none⟩ u) :=
  h.trans ⟨rfl, rfl, rfl, by simp [World.setCell], fun k _ hn => Below.heap_setCell _ _ _ _ hn⟩
theorem Only.below {n : Nat} {a W w : World} (hb : Below a.heap.size a W) (h : Only n W w) (hn : a.heap.size ≤ n) : Below a.heap.size a w :=
  hb.trans ⟨h.os, h.tape, h.output, h.size, fun k hk => h.block k (Nat.lt_of_lt_of_le hk hb.size) (by omega)⟩
theorem Only.of_below {n : Nat} {W w : World} (h : Below W.heap.size W w) : Only n W w := ⟨h.os, h.tape, h.output, h.size, fun k hk _ => h.block k hk⟩
theorem Blk.only {W w : World} {n m : Nat} {cs : Array Value} {T : TypeId} (h : Blk W n cs T) (ho : Only m W w) (hn : n ≠ m) : Blk w n cs T := by
  have hl := h.lt
  unfold Blk at h ⊢
  exact (ho.block n hl hn).trans h
theorem fix_get {cs : Array Value} {i j : Nat} {v : Value} (h : i ≠ j) : (cs.setIfInBounds i v)[j]? = cs[j]? := by simp [h]
theorem fix_same {cs : Array Value} {i : Nat} {v : Value} (h : i < cs.size) : (cs.setIfInBounds i v)[i]? = some v := by simp [h]
theorem wr_u32 (n : Int) (h : 0 ≤ n ∧ n < 4294967296) : IntKind.u32.wrap n = n := by
  simp only [IntKind.wrap, IntKind.signed, IntKind.bits]; simp; omega
theorem wr_u64 (n : Int) (h : 0 ≤ n ∧ n < 18446744073709551616) : IntKind.u64.wrap n = n := by
  simp only [IntKind.wrap, IntKind.signed, IntKind.bits]; simp; omega
theorem wr_u8 (n : Int) (h : 0 ≤ n ∧ n < 256) : IntKind.u8.wrap n = n := by
  simp only [IntKind.wrap, IntKind.signed, IntKind.bits]; simp; omega
theorem wr_i64 (n : Int) (h : -9223372036854775808 ≤ n ∧ n < 9223372036854775808) : IntKind.i64.wrap n = n := by
  simp only [IntKind.wrap, IntKind.signed, IntKind.bits]; simp; omega
end Go.Proofs.Ytgfgoflhmikalaa

namespace Go.Proofs.Ytgfgoflhmikalaa.par
open Go Go.RowKit
set_option linter.unusedVariables false
set_option linter.unusedSimpArgs false
variable {HC : Code}
attribute [local irreducible] Go.Proofs.Ytgfgoflhmikalaa.par.loneP
set_option maxRecDepth 100000
theorem lfunLock : (loneP HC).funcs[91]? = some { Try.f91 with body := some (muxBody 0 1) } := by
  rw [lone_funcs]
  exact lone_lock HC
theorem lfunUnlock : (loneP HC).funcs[92]? = some { Try.f92 with body := some (muxBody 1 0) } := by
  rw [lone_funcs]
  exact lone_unlock HC
theorem alloc_mux (w : World) : Sem.run (loneP HC) (zeroValue 101) w = .ok (.agg #[.int .i32 0, .int .u32 0]) w := by
  rw [lon_zero]
  kernel_rfl
theorem mux_eq (a : Addr) (w : World) {v : Value} (hc : w.cell? a = some v) :
    Sem.run (loneP HC) (binOp .eql 144 (.pointer (some a)) (.pointer (some ⟨w.heap.size, 0, none⟩))) (w.alloc muxO) = .ok (.bool false) (w.alloc muxO) := by
  obtain ⟨c, e, f, ho, hs⟩ : ∃ c e f, w.heap[a.block]? = some (.cells c e f) ∧ c.size ≠ 0 := by
    unfold World.cell? at hc
    cases ho : w.heap[a.block]? with
    | none => rw [ho] at hc; simp at hc
    | some o =>
      rw [ho] at hc
      cases o <;> first | (simp at hc; done) | skip
      rename_i c e f
      refine ⟨c, e, f, rfl, fun h0 => ?_⟩
      dsimp only at hc
      split at hc
      · cases hc
      · have := (Array.getElem?_eq_some_iff.1 hc).1
        omega
  have hlt : a.block < w.heap.size := (Array.getElem?_eq_some_iff.1 ho).1
  have hold : (w.alloc muxO).heap[a.block]? = some (.cells c e f) := by
    show (w.heap.push _)[a.block]? = _
    rw [Array.getElem?_push, if_neg (by omega)]
    exact ho
  have hnew : (w.alloc muxO).heap[w.heap.size]? = some muxO := by
    show (w.heap.push _)[w.heap.size]? = _
    rw [Array.getElem?_push, if_pos rfl]
  have h1 := same_new (P := loneP HC) (ad := a) (q := ⟨w.heap.size, 0, none⟩) hnew (by dsimp only; omega) hold hs
  have h6 : (Op.equalIn 10000 144 (.pointer (some a)) (.pointer (some ⟨w.heap.size, 0, none⟩))).run (loneP HC) (w.alloc muxO) = .ok false (w.alloc muxO) := ((eq_ptr 9999 _ _ _).1).trans h1.1
  simp [go_sem, binOp, Op.equal, Op.maxDepth]
  rw [h6]
  rfl
theorem lone_lk (n o : Nat) (w : World) (hc : w.cell? ⟨n, o, none⟩ = some (.int .i32 0)) (hz : w.frozen? ⟨n, o, none⟩ = false) :
    Calls (Go.Proofs.Ytgfgoflhmikalaa.par.loneP HC) 91 #[.pointer (some ⟨n, o, none⟩)] w fun e w' => e = .returned (.tuple #[]) ∧ w' = (w.setCell ⟨n, o, none⟩ (.int .i32 1)).alloc muxO := by
  have hb := mux_eq (HC := HC) _ w hc
  have hn : n < w.heap.size := par.block_lt hc
  go_enter (lfunLock (HC := HC)), Try.ntmps91
  simp only [muxBody, mrest1, mrest2, mops0, mops1, mops2, op0]
  go_wp2
  exact bodyPost_ret (results_none rfl _ _ _) rfl ⟨rfl, rfl⟩
theorem lone_unlk (n o : Nat) (w : World) (hc : w.cell? ⟨n, o, none⟩ = some (.int .i32 1)) (hz : w.frozen? ⟨n, o, none⟩ = false) :
    Calls (Go.Proofs.Ytgfgoflhmikalaa.par.loneP HC) 92 #[.pointer (some ⟨n, o, none⟩)] w fun e w' => e = .returned (.tuple #[]) ∧ w' = (w.setCell ⟨n, o, none⟩ (.int .i32 0)).alloc muxO := by
  have hb := mux_eq (HC := HC) _ w hc
  have hn : n < w.heap.size := par.block_lt hc
  go_enter (lfunUnlock (HC := HC)), Try.ntmps92
  simp only [muxBody, mrest1, mrest2, mops0, mops1, mops2, op0]
  go_wp2
  exact bodyPost_ret (results_none rfl _ _ _) rfl ⟨rfl, rfl⟩
end Go.Proofs.Ytgfgoflhmikalaa.par

namespace Go.Proofs.Ytgfgoflhmikalaa.cm
set_option linter.unusedVariables false
set_option linter.unusedSimpArgs false
variable {HC : Code}
attribute [local irreducible] Go.Proofs.Ytgfgoflhmikalaa.par.loneP

def poly : Nat := 3988292384
def top32 : Nat := 4294967295
def halfN (c : Nat) : Nat := if c % 2 = 1 then (c / 2) ^^^ poly else c / 2
def iter (f : Nat → Nat) : Nat → Nat → Nat
  | 0, c => c
  | k + 1, c => iter f k (f c)
def zeroN (c : Nat) : Nat := iter halfN 8 c
def upN (c b : Nat) : Nat := zeroN (c ^^^ b)
def feedN (c : Nat) (l : List Nat) : Nat := l.foldl upN c
def moreN (c : Nat) (l : List Nat) : Nat := feedN (c ^^^ top32) l ^^^ top32
def sumN (l : List Nat) : Nat := moreN 0 l
/-- A text as a number, the first byte the lowest. -/
def numN : List Nat → Nat
  | [] => 0
  | b :: l => b ^^^ (256 * numN l)

attribute [irreducible] poly top32
theorem iter_add (f : Nat → Nat) (a b c : Nat) : iter f (a + b) c = iter f b (iter f a c) := by
  induction a generalizing c with
  | zero => simp [iter]
  | succ a ih => rw [Nat.succ_add]; simp [iter, ih]
theorem iter_succ' (f : Nat → Nat) (k c : Nat) : iter f (k + 1) c = f (iter f k c) := by
  rw [iter_add]; rfl
theorem iter_mul (f : Nat → Nat) (m k c : Nat) : iter (iter f m) k c = iter f (m * k) c := by
  induction k generalizing c with
  | zero => simp [iter]
  | succ k ih =>
    show iter (iter f m) k (iter f m c) = _
    rw [ih, ← iter_add, show m * (k + 1) = m + m * k from by rw [Nat.mul_succ]; omega]

theorem xor_swap (a b c d : Nat) : (a ^^^ b) ^^^ (c ^^^ d) = (a ^^^ c) ^^^ (b ^^^ d) := by
  rw [Nat.xor_assoc, Nat.xor_assoc, ← Nat.xor_assoc b, ← Nat.xor_assoc c, Nat.xor_comm b c]
theorem xor_eq_zero {a b : Nat} (h : a ^^^ b = 0) : a = b := by
  have h2 : (a ^^^ b) ^^^ b = 0 ^^^ b := by rw [h]
  rw [Nat.xor_assoc, Nat.xor_self] at h2
  simpa using h2
theorem xor_cancel (a b : Nat) : (a ^^^ b) ^^^ b = a := by rw [Nat.xor_assoc, Nat.xor_self]; simp
theorem xor_can {a b c : Nat} (h : a ^^^ c = b ^^^ c) : a = b := by rw [← xor_cancel a c, h, xor_cancel]

theorem halfN_xor (a b : Nat) : halfN (a ^^^ b) = halfN a ^^^ halfN b := by
  have h2 := @Nat.xor_mod_two_eq_one a b
  have h3 : (a ^^^ b) / 2 = a / 2 ^^^ b / 2 := Nat.xor_div_two
  unfold halfN
  by_cases ha : a % 2 = 1 <;> by_cases hb : b % 2 = 1
  · rw [if_neg (by rw [h2]; simp [ha, hb]), if_pos ha, if_pos hb, h3, xor_swap, Nat.xor_self]; simp
  · rw [if_pos (by rw [h2]; simp [ha, hb]), if_pos ha, if_neg hb, h3, Nat.xor_assoc, Nat.xor_comm (b / 2), ← Nat.xor_assoc]
  · rw [if_pos (by rw [h2]; simp [ha, hb]), if_neg ha, if_pos hb, h3, Nat.xor_assoc]
  · rw [if_neg (by rw [h2]; simp [ha, hb]), if_neg ha, if_neg hb, h3]
theorem halfN_zero : halfN 0 = 0 := rfl
theorem halfN_dbl (x : Nat) : halfN (2 * x) = x := by
  unfold halfN; rw [if_neg (by omega)]; omega
theorem halfN_lt {c : Nat} (h : c < 4294967296) : halfN c < 4294967296 := by
  unfold halfN poly
  split
  · exact Nat.xor_lt_two_pow (n := 32) (by omega) (by omega)
  · omega
theorem halfN_ker {c : Nat} (h : c < 4294967296) (h0 : halfN c = 0) : c = 0 := by
  unfold halfN at h0
  split at h0
  · have := xor_eq_zero h0
    unfold poly at this; omega
  · omega
theorem iter_xor (k a b : Nat) : iter halfN k (a ^^^ b) = iter halfN k a ^^^ iter halfN k b := by
  induction k generalizing a b with
  | zero => rfl
  | succ k ih => simp [iter, halfN_xor, ih]
theorem iter_zero (k : Nat) : iter halfN k 0 = 0 := by
  induction k with
  | zero => rfl
  | succ k ih => simp [iter, halfN_zero, ih]
theorem iter_lt (k : Nat) {c : Nat} (h : c < 4294967296) : iter halfN k c < 4294967296 := by
  induction k generalizing c with
  | zero => exact h
  | succ k ih => exact ih (halfN_lt h)
theorem iter_ker (k : Nat) {c : Nat} (h : c < 4294967296) (h0 : iter halfN k c = 0) : c = 0 := by
  induction k generalizing c with
  | zero => exact h0
  | succ k ih => exact halfN_ker h (ih (halfN_lt h) h0)
theorem iter_inj (k : Nat) {a b : Nat} (ha : a < 4294967296) (hb : b < 4294967296) (h : iter halfN k a = iter halfN k b) : a = b := by
  apply xor_eq_zero
  refine iter_ker k (Nat.xor_lt_two_pow (n := 32) ha hb) ?_
  rw [iter_xor, h, Nat.xor_self]
theorem iter_pow (k x : Nat) : iter halfN k (2 ^ k * x) = x := by
  induction k generalizing x with
  | zero => simp [iter]
  | succ k ih =>
    rw [show 2 ^ (k + 1) * x = 2 * (2 ^ k * x) from by rw [Nat.pow_succ]; rw [Nat.mul_comm (2 ^ k) 2, Nat.mul_assoc]]
    simp [iter, halfN_dbl, ih]
theorem zeroN_xor (a b : Nat) : zeroN (a ^^^ b) = zeroN a ^^^ zeroN b := iter_xor 8 a b
theorem zeroN_lt {c : Nat} (h : c < 4294967296) : zeroN c < 4294967296 := iter_lt 8 h
theorem zeroN_256 (x : Nat) : zeroN (256 * x) = x := iter_pow 8 x
theorem zeroN_zero : zeroN 0 = 0 := iter_zero 8
theorem iter_zeroN (k c : Nat) : iter zeroN k c = iter halfN (8 * k) c := iter_mul halfN 8 k c
theorem iterz_xor (k a b : Nat) : iter zeroN k (a ^^^ b) = iter zeroN k a ^^^ iter zeroN k b := by simp only [iter_zeroN, iter_xor]
theorem iterz_lt (k : Nat) {c : Nat} (h : c < 4294967296) : iter zeroN k c < 4294967296 := by rw [iter_zeroN]; exact iter_lt _ h
theorem iterz_inj (k : Nat) {a b : Nat} (ha : a < 4294967296) (hb : b < 4294967296) (h : iter zeroN k a = iter zeroN k b) : a = b := by
  rw [iter_zeroN, iter_zeroN] at h; exact iter_inj _ ha hb h

theorem split_lo (c k : Nat) : c = (c % 2 ^ k) ^^^ (2 ^ k * (c / 2 ^ k)) := by
  apply Nat.eq_of_testBit_eq
  intro i
  rw [Nat.testBit_xor, Nat.testBit_mod_two_pow, Nat.mul_comm, Nat.testBit_mul_two_pow, Nat.testBit_div_two_pow]
  by_cases h : i < k
  · simp [h, Nat.not_le.2 h]
  · have : i - k + k = i := by omega
    simp [h, this]; omega
theorem split_byte (c : Nat) : c = (c % 256) ^^^ (256 * (c / 256)) := split_lo c 8
/-- What the table makes of a number and a byte. -/
theorem table_up (c b : Nat) : zeroN ((c % 256) ^^^ b) ^^^ (c / 256) = upN c b := by
  have h : c ^^^ b = ((c % 256) ^^^ b) ^^^ (256 * (c / 256)) := by
    conv => lhs; rw [split_byte c]
    rw [Nat.xor_assoc, Nat.xor_comm (256 * (c / 256)) b, ← Nat.xor_assoc]
  unfold upN
  rw [h, zeroN_xor (c % 256 ^^^ b), zeroN_256]
theorem xor_byte_lt {a b : Nat} (ha : a < 256) (hb : b < 256) : a ^^^ b < 256 := Nat.xor_lt_two_pow (n := 8) ha hb
theorem xor32_lt {a b : Nat} (ha : a < 4294967296) (hb : b < 4294967296) : a ^^^ b < 4294967296 := Nat.xor_lt_two_pow (n := 32) ha hb
theorem upN_lt {c b : Nat} (hc : c < 4294967296) (hb : b < 256) : upN c b < 4294967296 := zeroN_lt (xor32_lt hc (by omega))
theorem feedN_lt (l : List Nat) {c : Nat} (hc : c < 4294967296) (hl : ∀ b ∈ l, b < 256) : feedN c l < 4294967296 := by
  induction l generalizing c with
  | nil => exact hc
  | cons b l ih => exact ih (upN_lt hc (hl b (by simp))) (fun x hx => hl x (by simp [hx]))
theorem moreN_lt (l : List Nat) {c : Nat} (hc : c < 4294967296) (hl : ∀ b ∈ l, b < 256) : moreN c l < 4294967296 :=
  xor32_lt (feedN_lt l (xor32_lt hc (by unfold top32; omega)) hl) (by unfold top32; omega)
theorem feedN_append (c : Nat) (a b : List Nat) : feedN c (a ++ b) = feedN (feedN c a) b := by simp [feedN, List.foldl_append]
theorem feedN_snoc (c : Nat) (a : List Nat) (x : Nat) : feedN c (a ++ [x]) = upN (feedN c a) x := by simp [feedN, List.foldl_append]
/-- THE KEY: taking up a text is so many halvings of the number put together with the text's number. -/
theorem feedN_num (c : Nat) (l : List Nat) : feedN c l = iter zeroN l.length (c ^^^ numN l) := by
  induction l generalizing c with
  | nil => simp [feedN, numN, iter]
  | cons b l ih =>
    show feedN (upN c b) l = iter zeroN (l.length + 1) (c ^^^ numN (b :: l))
    rw [ih]
    show _ = iter zeroN l.length (zeroN (c ^^^ (b ^^^ 256 * numN l)))
    rw [← Nat.xor_assoc, zeroN_xor, zeroN_256]; rfl
theorem feedN_xor (c d : Nat) (l : List Nat) : feedN (c ^^^ d) l = iter zeroN l.length c ^^^ feedN d l := by
  rw [feedN_num, feedN_num, Nat.xor_assoc, iterz_xor]
def combineN (a b n : Nat) : Nat := iter zeroN n a ^^^ b
theorem moreN_append (c : Nat) (a b : List Nat) : moreN c (a ++ b) = moreN (moreN c a) b := by
  unfold moreN
  rw [feedN_append, xor_cancel]
theorem sum_append (a b : List Nat) : sumN (a ++ b) = combineN (sumN a) (sumN b) b.length := by
  unfold sumN combineN
  rw [moreN_append]
  show feedN (moreN 0 a ^^^ top32) b ^^^ top32 = _
  rw [feedN_xor, Nat.xor_assoc]
  show _ = _ ^^^ (feedN (0 ^^^ top32) b ^^^ top32)
  simp
theorem combine_assoc (a b c n m : Nat) : combineN (combineN a b n) c m = combineN a (combineN b c m) (n + m) := by
  unfold combineN
  rw [iterz_xor, ← iter_add, Nat.xor_assoc]
theorem sum_zeros (k : Nat) : combineN 0 (sumN (List.replicate k 0)) k = sumN (List.replicate k 0) := by
  unfold combineN
  rw [iter_zeroN, iter_zero]; simp
/-- A number's four bytes, the lowest first. -/
def le4 (c : Nat) : List Nat := [c % 256, c / 256 % 256, c / 65536 % 256, c / 16777216 % 256]
theorem num_le4 (c : Nat) (h : c < 4294967296) : numN (le4 c) = c := by
  have e1 := split_byte c
  have e2 := split_byte (c / 256)
  have e3 := split_byte (c / 256 / 256)
  have e4 : c / 256 / 256 / 256 = c / 16777216 % 256 := by omega
  have e5 : c / 256 / 256 = c / 65536 := by omega
  unfold le4
  simp only [numN]
  simp only [Nat.mul_zero, Nat.xor_zero]
  rw [← e4, ← e5, ← e3, ← e2, ← e1]
theorem feed_own (s : Nat) (h : s < 4294967296) : feedN (s ^^^ top32) (le4 s) = iter zeroN 4 top32 := by
  rw [feedN_num, num_le4 _ h, Nat.xor_comm s top32, xor_cancel]
  rfl
theorem sum_ends (a : List Nat) (h : sumN a < 4294967296) : sumN (a ++ le4 (sumN a)) = iter zeroN 4 top32 ^^^ top32 := by
  have e : sumN (a ++ le4 (sumN a)) = moreN (sumN a) (le4 (sumN a)) := moreN_append 0 a _
  rw [e]
  show feedN (sumN a ^^^ top32) (le4 (sumN a)) ^^^ top32 = _
  rw [feed_own _ h]
theorem sum_tail_inj (a : List Nat) (ha : ∀ b ∈ a, b < 256) {x y : Nat} (hx : x < 4294967296) (hy : y < 4294967296) : sumN (a ++ le4 x) = sumN (a ++ le4 y) ↔ x = y := by
  constructor
  · intro h
    unfold sumN at h
    rw [moreN_append, moreN_append] at h
    generalize hs : moreN 0 a = s at h
    have hs' : s < 4294967296 := by rw [← hs]; exact moreN_lt a (by omega) ha
    unfold moreN at h
    have h2 := xor_can h
    rw [feedN_num, feedN_num, num_le4 _ hx, num_le4 _ hy] at h2
    have hl : (le4 x).length = (le4 y).length := rfl
    rw [hl] at h2
    have hF : s ^^^ top32 < 4294967296 := xor32_lt hs' (by unfold top32; omega)
    have h3 := iterz_inj _ (xor32_lt hF hx) (xor32_lt hF hy) h2
    rw [Nat.xor_comm _ x, Nat.xor_comm _ y] at h3
    exact xor_can h3
  · rintro rfl; rfl
/-- Texts as long, whose numbers are unlike in 32 bits at most that stand side by side. -/
theorem burst (a b : List Nat) (hl : a.length = b.length) (k T : Nat) (hk : k ≤ 8 * a.length) (hT : T < 4294967296) (hd : numN a ^^^ numN b = 2 ^ k * T) : sumN a = sumN b ↔ T = 0 := by
  have h1 : sumN a ^^^ sumN b = iter halfN (8 * a.length - k) T := by
    unfold sumN moreN
    rw [xor_swap, Nat.xor_self, Nat.xor_zero, feedN_num, feedN_num, ← hl, iter_zeroN, iter_zeroN, ← iter_xor, xor_swap, Nat.xor_self, Nat.zero_xor, hd]
    rw [show 8 * a.length = k + (8 * a.length - k) from by omega, iter_add, iter_pow]
    congr 1; omega
  constructor
  · intro h
    rw [h, Nat.xor_self] at h1
    exact iter_ker _ hT h1.symm
  · rintro rfl
    rw [iter_zero] at h1
    exact xor_eq_zero h1
attribute [irreducible] halfN
end Go.Proofs.Ytgfgoflhmikalaa.cm
