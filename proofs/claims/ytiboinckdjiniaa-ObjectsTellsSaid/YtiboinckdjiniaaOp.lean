/- Opening arguments: Raw, []Raw. No conditions. -/
import Derived.Test.YtiboinckdjiniaaSc
import Derived.WalkKit
import Derived.ProofKit
import Derived.OpenShut
import Derived.Lib.SmallJoins
import Derived.Deep.Slices
namespace Go.Proofs.Ytiboinckdjiniaa.ob
open Go.ChangeShapes Go.WideShapes Go.ChangeAt Go.RowKit Go.Joins
set_option linter.unusedVariables false
set_option linter.unusedSimpArgs false
/-- Raw numbers of an object, as they came in. -/
structure Rw where
  sz : Int
  pt : Int
  sl : Value
  g : Bool
  zs : List Int
def i64In (x : Int) : Prop := -9223372036854775808 ≤ x ∧ x < 9223372036854775808
structure RawOk (W : World) (r : Rw) : Prop where
  sl : RawIn W r.sl r.zs
  sz : i64In r.sz
  pt : i64In r.pt
def rwD (l : List Rw) (i : Nat) : Rw := l.getD i ⟨0, 0, .slice none 0 0, false, []⟩
def RawsAt (W : World) (b off n : Nat) (l : List Rw) : Prop := ∀ i, i < n → W.cell? ⟨b, off + i * 4, none⟩ = some (.int .i64 (rwD l i).sz) ∧ W.cell? ⟨b, off + i * 4 + 1, none⟩ = some (.int .i64 (rwD l i).pt) ∧ W.cell? ⟨b, off + i * 4 + 2, none⟩ = some (rwD l i).sl ∧ W.cell? ⟨b, off + i * 4 + 3, none⟩ = some (.bool (rwD l i).g) ∧ RawOk W (rwD l i)
def RawsIn (W : World) (v : Value) (l : List Rw) : Prop := ∃ (ad : Option Addr) (b off cap : Nat), v = .slice ad l.length cap ∧ (0 < l.length → ad = some ⟨b, off, none⟩ ∧ b < W.heap.size) ∧ l.length ≤ cap ∧ cap < 9223372036854775808 ∧ RawsAt W b off l.length l
theorem spot_of {w : World} {a : Addr} {v : Value} (h : w.cell? a = some v) : a = ⟨a.block, a.off, none⟩ := by
  obtain ⟨b, o, s⟩ := a
  cases s with
  | none => rfl
  | some s => unfold World.cell? at h; dsimp only at h; split at h <;> simp at h
section
variable {H : Type} {enc : TypeId × Value → H} {w : World} {base : Nat} {spare : Nat → Bool} {held : Bool}
theorem wf_i64 {n : Int} (h : (Lit.int .i64 n).wf = true) : i64In n := wfb_i64 h
theorem small_wf {zs : List Int} (h : ∀ n ∈ zs, (Lit.int .u64 n).wf = true) : Small zs := fun i => by
  by_cases e : i < zs.length
  · have := wfb_u64 (h zs[i] (List.getElem_mem e))
    simpa [List.getD, e] using this
  · simp [List.getD, List.getElem?_eq_none (Nat.le_of_not_lt e)]
theorem rawin_cell {n : Nat} {c : Value} {y : DataW H × List MemPlace} (h : DataW.trod enc Try.prog w base spare held n 22 [c] = some y) : ∃ zs, RawIn w c zs := by
  rcases open_ints Try.underlying22 Try.underlying24 (by kernel_rfl) h with ⟨hcs, _⟩ | ⟨a, len, cap, zs, hcs, _, hl, hm, hz, _, hcell, hwf⟩
  · simp at hcs
    subst hcs
    exact ⟨[], none, 0, 0, rfl, by decide, fun i hi => by omega, fun i => by simp⟩
  · simp at hcs
    subst hcs
    refine ⟨zs, some a, len, cap, rfl, by unfold maxLen at hm; omega, fun i hi => ?_, small_wf hwf⟩
    have hi2 : i < zs.length := by rw [hz]; split <;> omega
    exact ⟨a, rfl, World.block_lt_of_cell? _ _ (hcell i hi2), hcell i hi2⟩
theorem raw_cells {n : Nat} {cs : List Value} {y : DataW H × List MemPlace} (h : DataW.trod enc Try.prog w base spare held n 50 cs = some y) :
    ∃ r : Rw, cs = [.int .i64 r.sz, .int .i64 r.pt, r.sl, .bool r.g] ∧ RawOk w r := by
  obtain ⟨y0, y1, y2, y3, m, rfl, hl, h0, h1, h2, h3⟩ := trod_struct4 Try.underlying50 h
  have hC : Program.cellsOf Try.prog 50 = 4 := by kernel_rfl
  have hi : Program.cellsOf Try.prog 3 = 1 := by kernel_rfl
  have hs : Program.cellsOf Try.prog 22 = 1 := by kernel_rfl
  have hb : Program.cellsOf Try.prog 4 = 1 := by kernel_rfl
  rw [hC] at hl
  match cs, hl with
  | [c0, c1, c2, c3], _ =>
    have h0' : DataW.trod enc Try.prog w base spare held m 3 (([c0, c1, c2, c3].drop 0).take (Program.cellsOf Try.prog 3)) = some y0 := h0
    have h1' : DataW.trod enc Try.prog w base spare held m 3 (([c0, c1, c2, c3].drop 1).take (Program.cellsOf Try.prog 3)) = some y1 := h1
    have h2' : DataW.trod enc Try.prog w base spare held m 22 (([c0, c1, c2, c3].drop 2).take (Program.cellsOf Try.prog 22)) = some y2 := h2
    have h3' : DataW.trod enc Try.prog w base spare held m 4 (([c0, c1, c2, c3].drop 3).take (Program.cellsOf Try.prog 4)) = some y3 := h3
    rw [hi] at h0' h1'
    rw [hs] at h2'
    rw [hb] at h3'
    simp only [List.drop_zero, List.drop_succ_cons, List.take_succ_cons, List.take_zero] at h0' h1' h2' h3'
    obtain ⟨a0, e0, _, w0⟩ := DataW.trod_int Try.underlying3 h0'
    obtain ⟨a1, e1, _, w1⟩ := DataW.trod_int Try.underlying3 h1'
    obtain ⟨b3, e3, _⟩ := DataW.trod_bool Try.underlying4 h3'
    obtain ⟨zs, hz⟩ := rawin_cell h2'
    simp at e0 e1 e3
    subst e0 e1 e3
    exact ⟨⟨a0, a1, c2, b3, zs⟩, rfl, ⟨hz, wf_i64 w0, wf_i64 w1⟩⟩
theorem raw_arg {r : Reach} {b0 : Nat} {v : Value} {d : DataW H} {p : List MemPlace} (hv : Value.okWide Try.prog w r b0 50 v) (h : DataW.Trod enc Try.prog w base spare held 50 v d p) :
    ∃ r : Rw, v = rawV r.sz r.pt r.sl r.g ∧ RawOk w r := by
  obtain ⟨cs, rfl, hsz⟩ := okWide_struct Try.underlying50 hv
  obtain ⟨fuel, hf⟩ := h
  obtain ⟨r, hcs, hok⟩ := raw_cells hf
  refine ⟨r, ?_, hok⟩
  unfold rawV
  congr 1
  cases cs
  simpa [Value.cells] using hcs
theorem choose_rw {n : Nat} {p : Nat → Rw → Prop} (h : ∀ i, i < n → ∃ x, p i x) : ∃ l : List Rw, l.length = n ∧ ∀ i, i < n → p i (rwD l i) := by
  induction n with
  | zero => exact ⟨[], rfl, fun i hi => by omega⟩
  | succ n ih =>
    obtain ⟨l, hl, hp⟩ := ih (fun i hi => h i (by omega))
    obtain ⟨x, hx⟩ := h n (by omega)
    refine ⟨l ++ [x], by simp [hl], fun i hi => ?_⟩
    by_cases e : i < n
    · have := hp i e
      unfold rwD at this ⊢
      simpa [List.getD, List.getElem?_append_left (show i < l.length by omega)] using this
    · obtain rfl : i = n := by omega
      unfold rwD
      simpa [List.getD, ← hl] using hx
theorem raws_arg {r : Reach} {b0 : Nat} {v : Value} {d : DataW H} {p : List MemPlace} (hv : Value.okWide Try.prog w r b0 23 v) (h : DataW.Trod enc Try.prog w base spare held 23 v d p) :
    ∃ l : List Rw, RawsIn w v l := by
  obtain ⟨ad, len, cap, rfl⟩ := okWide_slice Try.underlying23 hv
  obtain ⟨fuel, hf⟩ := h
  have hC : Program.cellsOf Try.prog 50 = 4 := by kernel_rfl
  rcases Go.Deep.open_slice Try.underlying23 hf with ⟨hcs, _⟩ | ⟨a, len', cap', m, n, D, Pl, hcs, _, hl, hm, hmm, _, hx⟩
  · simp [Value.cells] at hcs
    obtain ⟨rfl, rfl, rfl⟩ := hcs
    exact ⟨[], none, 0, 0, 0, rfl, fun h => by simp at h, Nat.le_refl _, by decide, fun i hi => by simp at hi⟩
  · simp [Value.cells] at hcs
    obtain ⟨rfl, rfl, rfl⟩ := hcs
    have hml : len ≤ m := by rw [hmm]; split <;> omega
    have key : ∀ i, i < len → ∃ r : Rw, w.cell? ((a.add (i * 4)).add 0) = some (.int .i64 r.sz) ∧ w.cell? ((a.add (i * 4)).add 1) = some (.int .i64 r.pt) ∧ w.cell? ((a.add (i * 4)).add 2) = some r.sl ∧ w.cell? ((a.add (i * 4)).add 3) = some (.bool r.g) ∧ RawOk w r := by
      intro i hi
      obtain ⟨cs', h1, h2⟩ := hx i (by omega)
      rw [hC] at h1
      obtain ⟨_, _, hcell⟩ := World.cells?_some h1
      obtain ⟨r, rfl, hok⟩ := raw_cells h2
      exact ⟨r, hcell 0 (by omega), hcell 1 (by omega), hcell 2 (by omega), hcell 3 (by omega), hok⟩
    obtain ⟨l, hll, hp⟩ := choose_rw key
    refine ⟨l, some a, a.block, a.off, cap, by rw [hll], fun h0 => ?_, by omega, by unfold maxLen at hm; omega, ?_⟩
    · have h1 := (hp 0 (by omega)).1
      rw [Nat.zero_mul] at h1
      have e0 : (a.add 0).add 0 = a := by unfold Addr.add; simp
      rw [e0] at h1
      exact ⟨by rw [← spot_of h1], World.block_lt_of_cell? _ _ h1⟩
    · intro i hi
      rw [hll] at hi
      obtain ⟨c0, c1, c2, c3, hok⟩ := hp i hi
      have h1 := (hp 0 (by omega)).1
      rw [Nat.zero_mul] at h1
      have e0 : (a.add 0).add 0 = a := by unfold Addr.add; simp
      rw [e0] at h1
      have hspot := spot_of h1
      have e : ∀ j, (a.add (i * 4)).add j = ⟨a.block, a.off + i * 4 + j, none⟩ := by
        intro j
        obtain ⟨b, o, s⟩ := a
        have hs : s = none := by simpa using hspot
        subst hs
        unfold Addr.add
        by_cases h1 : i * 4 = 0 <;> by_cases h2 : j = 0 <;> simp [h1, h2]
      rw [e] at c0 c1 c2 c3
      exact ⟨c0, c1, c2, c3, hok⟩
end
end Go.Proofs.Ytiboinckdjiniaa.ob
