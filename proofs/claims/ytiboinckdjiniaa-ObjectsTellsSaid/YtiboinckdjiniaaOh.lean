/- Opening arguments: []api.Shape. No conditions. -/
import Derived.Test.YtiboinckdjiniaaOg
namespace Go.Proofs.Ytiboinckdjiniaa.ob
open Go.ChangeShapes Go.WideShapes Go.ChangeAt Go.RowKit Go.Joins
set_option linter.unusedVariables false
set_option linter.unusedSimpArgs false
section
variable {H : Type} {enc : TypeId × Value → H} {w : World} {base : Nat} {spare : Nat → Bool} {held : Bool}
theorem shape_cells {n : Nat} {cs : List Value} {y : DataW H × List MemPlace} (h : DataW.trod enc Try.prog w base spare held n 28 cs = some y) :
    ∃ s p : Int, cs = [.int .i64 s, .int .i64 p] ∧ i64In s ∧ i64In p := by
  obtain ⟨y0, y1, m, rfl, hl, h0, h1⟩ := trod_struct2 Try.underlying28 h
  have hC : Program.cellsOf Try.prog 28 = 2 := by kernel_rfl
  have hi : Program.cellsOf Try.prog 3 = 1 := by kernel_rfl
  rw [hC] at hl
  match cs, hl with
  | [c0, c1], _ =>
    have h0' : DataW.trod enc Try.prog w base spare held m 3 (([c0, c1].drop 0).take (Program.cellsOf Try.prog 3)) = some y0 := h0
    have h1' : DataW.trod enc Try.prog w base spare held m 3 (([c0, c1].drop 1).take (Program.cellsOf Try.prog 3)) = some y1 := h1
    rw [hi] at h0' h1'
    simp only [List.drop_zero, List.drop_succ_cons, List.take_succ_cons, List.take_zero] at h0' h1'
    obtain ⟨a0, e0, _, w0⟩ := DataW.trod_int Try.underlying3 h0'
    obtain ⟨a1, e1, _, w1⟩ := DataW.trod_int Try.underlying3 h1'
    simp at e0 e1
    subst e0 e1
    exact ⟨a0, a1, rfl, wf_i64 w0, wf_i64 w1⟩
theorem choose_sp {n : Nat} {p : Nat → Int × Int → Prop} (h : ∀ i, i < n → ∃ x, p i x) : ∃ l : List (Int × Int), l.length = n ∧ ∀ i, i < n → p i (l.getD i (0, 0)) := by
  induction n with
  | zero => exact ⟨[], rfl, fun i hi => by omega⟩
  | succ n ih =>
    obtain ⟨l, hl, hp⟩ := ih (fun i hi => h i (by omega))
    obtain ⟨x, hx⟩ := h n (by omega)
    refine ⟨l ++ [x], by simp [hl], fun i hi => ?_⟩
    by_cases e : i < n
    · have := hp i e
      simpa [List.getD, List.getElem?_append_left (show i < l.length by omega)] using this
    · obtain rfl : i = n := by omega
      simpa [List.getD, ← hl] using hx
/-- A slice of shapes that came in. -/
def SRowIn (W : World) (v : Value) (ss : List (Int × Int)) : Prop := ∃ (ad : Option Addr) (b off n cap : Nat), v = .slice ad n cap ∧ (0 < n → ad = some ⟨b, off, none⟩ ∧ b < W.heap.size) ∧ (ad = none → cap = 0) ∧ n ≤ cap ∧ cap < 9223372036854775808 ∧ ss.length = n ∧ ShapesAt W b off n ss
theorem shapes_arg {r : Reach} {b0 : Nat} {v : Value} {d : DataW H} {p : List MemPlace} (hv : Value.okWide Try.prog w r b0 25 v) (h : DataW.Trod enc Try.prog w base spare held 25 v d p) :
    ∃ l, SRowIn w v l := by
  obtain ⟨ad, len, cap, rfl⟩ := okWide_slice Try.underlying25 hv
  obtain ⟨fuel, hf⟩ := h
  have hC : Program.cellsOf Try.prog 28 = 2 := by kernel_rfl
  rcases Go.Deep.open_slice Try.underlying25 hf with ⟨hcs, _⟩ | ⟨a, len', cap', m, n, D, Pl, hcs, _, hl, hm, hmm, _, hx⟩
  · simp [Value.cells] at hcs
    obtain ⟨rfl, rfl, rfl⟩ := hcs
    exact ⟨[], none, 0, 0, 0, 0, rfl, fun h => by omega, fun _ => rfl, Nat.le_refl _, by decide, rfl, ShapesAt.none _ _ _ _⟩
  · simp [Value.cells] at hcs
    obtain ⟨rfl, rfl, rfl⟩ := hcs
    have hml : len ≤ m := by rw [hmm]; split <;> omega
    have key : ∀ i, i < len → ∃ x : Int × Int, w.cell? ((a.add (i * 2)).add 0) = some (.int .i64 x.1) ∧ w.cell? ((a.add (i * 2)).add 1) = some (.int .i64 x.2) := by
      intro i hi
      obtain ⟨cs', h1, h2⟩ := hx i (by omega)
      rw [hC] at h1
      obtain ⟨_, _, hcell⟩ := World.cells?_some h1
      obtain ⟨s, p, rfl, _⟩ := shape_cells h2
      exact ⟨(s, p), hcell 0 (by omega), hcell 1 (by omega)⟩
    obtain ⟨l, hll, hp⟩ := choose_sp key
    have hspot : 0 < len → a = ⟨a.block, a.off, none⟩ ∧ a.block < w.heap.size := fun h0 => by
      have h1 := (hp 0 h0).1
      rw [Nat.zero_mul] at h1
      have e0 : (a.add 0).add 0 = a := by unfold Addr.add; simp
      rw [e0] at h1
      exact ⟨spot_of h1, World.block_lt_of_cell? _ _ h1⟩
    refine ⟨l, some a, a.block, a.off, len, cap, rfl, fun h0 => ⟨by rw [← (hspot h0).1], (hspot h0).2⟩, (fun e => by cases e), hl, (by unfold maxLen at hm; omega), hll, ?_⟩
    unfold ShapesAt
    intro i hi
    obtain ⟨c0, c1⟩ := hp i hi
    have hs := (hspot (by omega)).1
    have e : ∀ j, (a.add (i * 2)).add j = ⟨a.block, a.off + i * 2 + j, none⟩ := by
      intro j
      obtain ⟨b, o, s⟩ := a
      have hs2 : s = none := by simpa using hs
      subst hs2
      unfold Addr.add
      by_cases h1 : i * 2 = 0 <;> by_cases h2 : j = 0 <;> simp [h1, h2]
    rw [e] at c0 c1
    exact ⟨c0, c1⟩
end
end Go.Proofs.Ytiboinckdjiniaa.ob
