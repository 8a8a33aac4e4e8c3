/- Opening arguments: []api.Object. No conditions. -/
import Derived.Test.YtiboinckdjiniaaOh
namespace Go.Proofs.Ytiboinckdjiniaa.ob
open Go.ChangeShapes Go.WideShapes Go.ChangeAt Go.RowKit Go.Joins
set_option linter.unusedVariables false
set_option linter.unusedSimpArgs false
section
variable {H : Type} {enc : TypeId × Value → H} {w : World} {base : Nat} {spare : Nat → Bool} {held : Bool}
theorem ob_cells {n : Nat} {cs : List Value} {y : DataW H × List MemPlace} (h : DataW.trod enc Try.prog w base spare held n 53 cs = some y) :
    ∃ o : Ob, cs = obCells o ∧ i64In o.pos ∧ i64In o.s ∧ i64In o.p := by
  obtain ⟨y0, y1, y2, y3, m, rfl, hl, h0, h1, h2, h3⟩ := trod_struct4 Try.underlying53 h
  have hC : Program.cellsOf Try.prog 53 = 5 := by kernel_rfl
  have hi : Program.cellsOf Try.prog 3 = 1 := by kernel_rfl
  have hs : Program.cellsOf Try.prog 28 = 2 := by kernel_rfl
  have hb : Program.cellsOf Try.prog 4 = 1 := by kernel_rfl
  have hu : Program.cellsOf Try.prog 24 = 1 := by kernel_rfl
  rw [hC] at hl
  match cs, hl with
  | [c0, c1, c2, c3, c4], _ =>
    have h0' : DataW.trod enc Try.prog w base spare held m 3 (([c0, c1, c2, c3, c4].drop 0).take (Program.cellsOf Try.prog 3)) = some y0 := h0
    have h1' : DataW.trod enc Try.prog w base spare held m 28 (([c0, c1, c2, c3, c4].drop 1).take (Program.cellsOf Try.prog 28)) = some y1 := h1
    have h2' : DataW.trod enc Try.prog w base spare held m 4 (([c0, c1, c2, c3, c4].drop 3).take (Program.cellsOf Try.prog 4)) = some y2 := h2
    have h3' : DataW.trod enc Try.prog w base spare held m 24 (([c0, c1, c2, c3, c4].drop 4).take (Program.cellsOf Try.prog 24)) = some y3 := h3
    rw [hi] at h0'
    rw [hs] at h1'
    rw [hb] at h2'
    rw [hu] at h3'
    simp only [List.drop_zero, List.drop_succ_cons, List.take_succ_cons, List.take_zero] at h0' h1' h2' h3'
    obtain ⟨a0, e0, _, w0⟩ := DataW.trod_int Try.underlying3 h0'
    obtain ⟨s, p, e1, ws, wp⟩ := shape_cells h1'
    obtain ⟨b3, e2, _⟩ := DataW.trod_bool Try.underlying4 h2'
    obtain ⟨a4, e3, _, w4⟩ := DataW.trod_int Try.underlying24 h3'
    simp at e0 e1 e2 e3
    obtain ⟨rfl, rfl⟩ := e1
    subst e0 e2 e3
    exact ⟨⟨a0, s, p, b3, a4⟩, rfl, wf_i64 w0, ws, wp⟩
theorem choose_ob {n : Nat} {p : Nat → Ob → Prop} (h : ∀ i, i < n → ∃ x, p i x) : ∃ l : List Ob, l.length = n ∧ ∀ i, i < n → p i (obD l i) := by
  induction n with
  | zero => exact ⟨[], rfl, fun i hi => by omega⟩
  | succ n ih =>
    obtain ⟨l, hl, hp⟩ := ih (fun i hi => h i (by omega))
    obtain ⟨x, hx⟩ := h n (by omega)
    refine ⟨l ++ [x], by simp [hl], fun i hi => ?_⟩
    unfold obD at *
    by_cases e : i < n
    · have := hp i e
      simpa [List.getD, List.getElem?_append_left (show i < l.length by omega)] using this
    · obtain rfl : i = n := by omega
      simpa [List.getD, ← hl] using hx
/-- A slice of objects that came in. -/
def ORowIn (W : World) (v : Value) (l : List Ob) : Prop := ∃ (ad : Option Addr) (b off n cap : Nat), v = .slice ad n cap ∧ (0 < n → ad = some ⟨b, off, none⟩ ∧ b < W.heap.size) ∧ (ad = none → cap = 0) ∧ n ≤ cap ∧ cap < 9223372036854775808 ∧ l.length = n ∧ ObjsAt W b off n l
theorem objs_arg {r : Reach} {b0 : Nat} {v : Value} {d : DataW H} {p : List MemPlace} (hv : Value.okWide Try.prog w r b0 26 v) (h : DataW.Trod enc Try.prog w base spare held 26 v d p) :
    ∃ l, ORowIn w v l := by
  obtain ⟨ad, len, cap, rfl⟩ := okWide_slice Try.underlying26 hv
  obtain ⟨fuel, hf⟩ := h
  have hC : Program.cellsOf Try.prog 53 = 5 := by kernel_rfl
  rcases Go.Deep.open_slice Try.underlying26 hf with ⟨hcs, _⟩ | ⟨a, len', cap', m, n, D, Pl, hcs, _, hl, hm, hmm, _, hx⟩
  · simp [Value.cells] at hcs
    obtain ⟨rfl, rfl, rfl⟩ := hcs
    exact ⟨[], none, 0, 0, 0, 0, rfl, fun h => by omega, fun _ => rfl, Nat.le_refl _, by decide, rfl, ObjsAt.none _ _ _ _⟩
  · simp [Value.cells] at hcs
    obtain ⟨rfl, rfl, rfl⟩ := hcs
    have hml : len ≤ m := by rw [hmm]; split <;> omega
    have key : ∀ i, i < len → ∃ o : Ob, ∀ j, j < 5 → w.cell? ((a.add (i * 5)).add j) = (obCells o)[j]? := by
      intro i hi
      obtain ⟨cs', h1, h2⟩ := hx i (by omega)
      rw [hC] at h1
      obtain ⟨_, _, hcell⟩ := World.cells?_some h1
      obtain ⟨o, rfl, _⟩ := ob_cells h2
      exact ⟨o, hcell⟩
    obtain ⟨l, hll, hp⟩ := choose_ob key
    have hspot : 0 < len → a = ⟨a.block, a.off, none⟩ ∧ a.block < w.heap.size := fun h0 => by
      have h1 := hp 0 h0 0 (by omega)
      rw [Nat.zero_mul] at h1
      have e0 : (a.add 0).add 0 = a := by unfold Addr.add; simp
      rw [e0] at h1
      have h2 : w.cell? a = some (.int .i64 (obD l 0).pos) := h1
      exact ⟨spot_of h2, World.block_lt_of_cell? _ _ h2⟩
    refine ⟨l, some a, a.block, a.off, len, cap, rfl, fun h0 => ⟨by rw [← (hspot h0).1], (hspot h0).2⟩, (fun e => by cases e), hl, (by unfold maxLen at hm; omega), hll, ObjsAt.of fun i hi => ?_⟩
    have hc := hp i hi
    have hs := (hspot (by omega)).1
    have e : ∀ j, (a.add (i * 5)).add j = ⟨a.block, a.off + i * 5 + j, none⟩ := by
      intro j
      obtain ⟨b, o, s⟩ := a
      have hs2 : s = none := by simpa using hs
      subst hs2
      unfold Addr.add
      by_cases h1 : i * 5 = 0 <;> by_cases h2 : j = 0 <;> simp [h1, h2]
    simp only [e] at hc
    exact ⟨hc 0 (by omega), hc 1 (by omega), hc 2 (by omega), hc 3 (by omega), hc 4 (by omega)⟩
end
end Go.Proofs.Ytiboinckdjiniaa.ob
