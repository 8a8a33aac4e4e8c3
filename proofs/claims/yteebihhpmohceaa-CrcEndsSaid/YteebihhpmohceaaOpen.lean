/- Opening arguments: arrays. No conditions. -/
import Derived.WalkKit
import Derived.ProofKit
import Derived.OpenShut
import Derived.Lib.SmallJoins
namespace Go.Proofs.Yteebihhpmohceaa
open Go.ChangeShapes Go.WideShapes Go.ChangeAt Go.RowKit Go.Joins
section
variable {H : Type} {enc : TypeId × Value → H} {P : Program} {w : World} {base : Nat} {spare : Nat → Bool} {held : Bool}
theorem open_arr4 {r : Reach} {b0 : Nat} {t e : TypeId} {k : IntKind} {v : Value} {d : DataW H} {p : List MemPlace} (ht : P.underlying t = some (.array 4 e)) (he : P.underlying e = some (.int k)) (hC : P.cellsOf t = 4) (hE : P.cellsOf e = 1)
    (hv : Value.okWide P w r b0 t v) (h : DataW.Trod enc P w base spare held t v d p) :
    ∃ n0 n1 n2 n3 : Int, v = .agg #[.int k n0, .int k n1, .int k n2, .int k n3] ∧ (Lit.int k n0).wf = true ∧ (Lit.int k n1).wf = true ∧ (Lit.int k n2).wf = true ∧ (Lit.int k n3).wf = true := by
  simp only [Value.okWide, ht] at hv
  obtain ⟨cs, rfl, hsz, _⟩ := hv
  obtain ⟨c0, c1, c2, c3, rfl⟩ := array4 (hsz.trans hC)
  obtain ⟨fuel, hf⟩ := h
  obtain ⟨xs, m, _, _, _, hl, hx⟩ := DataW.trod_array ht hf
  have get : ∀ i (hi : i < 4) (c : Value), (((Value.agg #[c0, c1, c2, c3]).cells.toList.drop (i * P.cellsOf e)).take (P.cellsOf e)) = [c] → ∃ n, c = .int k n ∧ (Lit.int k n).wf = true := by
    intro i hi c hc
    have h1 := hx i hi
    rw [hc] at h1
    obtain ⟨x, hxs⟩ : ∃ x, xs[i]? = some x := ⟨_, List.getElem?_eq_getElem (by omega)⟩
    rw [hxs] at h1
    obtain ⟨n, e1, _, e3⟩ := DataW.trod_int he h1
    simp at e1
    exact ⟨n, e1, e3⟩
  obtain ⟨n0, rfl, w0⟩ := get 0 (by omega) c0 (by simp [Value.cells, hE])
  obtain ⟨n1, rfl, w1⟩ := get 1 (by omega) c1 (by simp [Value.cells, hE])
  obtain ⟨n2, rfl, w2⟩ := get 2 (by omega) c2 (by simp [Value.cells, hE])
  obtain ⟨n3, rfl, w3⟩ := get 3 (by omega) c3 (by simp [Value.cells, hE])
  exact ⟨n0, n1, n2, n3, rfl, w0, w1, w2, w3⟩
end
end Go.Proofs.Yteebihhpmohceaa
