/- Opening arguments: []uint64. No conditions. -/
import Derived.Test.YtiboinckdjiniaaOp
import Derived.Test.YtiboinckdjiniaaSz
namespace Go.Proofs.Ytiboinckdjiniaa.ob
open Go.ChangeShapes Go.WideShapes Go.ChangeAt Go.RowKit Go.Joins
set_option linter.unusedVariables false
set_option linter.unusedSimpArgs false
/-- A slice of numbers that came in, of whatever length. -/
def RowIn (W : World) (v : Value) (zs : List Int) : Prop := ∃ (ad : Option Addr) (b off n cap : Nat), v = .slice ad n cap ∧ (0 < n → ad = some ⟨b, off, none⟩ ∧ b < W.heap.size) ∧ (ad = none → cap = 0) ∧ n ≤ cap ∧ cap < 9223372036854775808 ∧ zs.length = n ∧ WordsAt W b off n zs ∧ Small zs
theorem RowIn.tr {W w : World} {v : Value} {zs : List Int} (h : RowIn W v zs) (hb : Below W.heap.size W w) : RowIn w v zs := by
  obtain ⟨ad, b, off, n, cap, e, h1, h2, h3, h4, h5, h6, h7⟩ := h
  refine ⟨ad, b, off, n, cap, e, fun h0 => ⟨(h1 h0).1, Nat.lt_of_lt_of_le (h1 h0).2 hb.size⟩, h2, h3, h4, h5, ?_, h7⟩
  rcases Nat.eq_zero_or_pos n with h0 | h0
  · subst h0; exact WordsAt.none _ _ _ _
  · exact h6.block (hb.block b (h1 h0).2)
theorem small_take {zs : List Int} (h : Small zs) (m : Nat) : Small (zs.take m) := fun i => by
  have := h i
  simp only [List.getD, List.getElem?_take] at this ⊢
  split
  · exact this
  · simp
theorem RowIn.cut {W : World} {ad : Option Addr} {n cap : Nat} {zs : List Int} (h : RowIn W (.slice ad n cap) zs) (h0 : 0 < W.heap.size) {m : Nat} (hm : m ≤ n) (hm2 : m < 1000000000000) : NumsIn W (.slice ad m cap) (zs.take m) := by
  obtain ⟨ad', b, off, n', cap', e, h1, h2, h3, h4, h5, h6, h7⟩ := h
  simp at e
  obtain ⟨rfl, rfl, rfl⟩ := e
  have hl : (zs.take m).length = m := by simp; omega
  rcases Nat.eq_zero_or_pos m with hm0 | hm0
  · subst hm0
    exact ⟨ad, 0, 0, cap, by simp, ⟨fun h => by simp at h, h2⟩, by simp, ⟨h4, by simp⟩, h0, by simpa using WordsAt.none _ _ _ _⟩
  · refine ⟨ad, b, off, cap, by rw [hl], ⟨fun _ => (h1 (by omega)).1, h2⟩, by omega, ⟨h4, by omega⟩, (h1 (by omega)).2, words_of fun i hi => ?_⟩
    rw [hl] at hi
    rw [h6.at i (by omega)]
    simp [List.getD, List.getElem?_take, hi]
section
variable {H : Type} {enc : TypeId × Value → H} {w : World} {base : Nat} {spare : Nat → Bool} {held : Bool}
theorem nums_arg {r : Reach} {b0 : Nat} {v : Value} {d : DataW H} {p : List MemPlace} (hv : Value.okWide Try.prog w r b0 22 v) (h : DataW.Trod enc Try.prog w base spare held 22 v d p) :
    ∃ zs, RowIn w v zs := by
  obtain ⟨ad, len, cap, rfl⟩ := okWide_slice Try.underlying22 hv
  obtain ⟨fuel, hf⟩ := h
  rcases open_ints Try.underlying22 Try.underlying24 (by kernel_rfl) hf with ⟨hcs, _⟩ | ⟨a, len', cap', zs, hcs, _, hl, hm, hz, _, hcell, hwf⟩
  · simp [Value.cells] at hcs
    obtain ⟨rfl, rfl, rfl⟩ := hcs
    exact ⟨[], none, 0, 0, 0, 0, rfl, fun h => by omega, fun _ => rfl, Nat.le_refl _, by decide, rfl, WordsAt.none _ _ _ _, small_nil⟩
  · simp [Value.cells] at hcs
    obtain ⟨rfl, rfl, rfl⟩ := hcs
    have hlz : len ≤ zs.length := by rw [hz]; split <;> omega
    refine ⟨zs.take len, some a, a.block, a.off, len, cap, rfl, fun h0 => ?_, (fun e => by cases e), hl, (by unfold maxLen at hm; omega), (by simp; omega), ?_, small_take (small_wf hwf) _⟩
    · have h1 := hcell 0 (by omega)
      have e0 : a.add 0 = a := by unfold Addr.add; simp
      rw [e0] at h1
      exact ⟨by rw [← spot_of h1], World.block_lt_of_cell? _ _ h1⟩
    · refine words_of fun i hi => ?_
      have h1 := hcell 0 (by omega)
      have e0 : a.add 0 = a := by unfold Addr.add; simp
      rw [e0] at h1
      have hs := spot_of h1
      have h2 := hcell i (by omega)
      have e : a.add i = ⟨a.block, a.off + i, none⟩ := by
        obtain ⟨b, o, s⟩ := a
        have hs2 : s = none := by simpa using hs
        subst hs2
        unfold Addr.add
        split <;> simp_all
      rw [e] at h2
      rw [h2]
      simp [List.getD, List.getElem?_take, hi]
end
end Go.Proofs.Ytiboinckdjiniaa.ob
