/- The laws' awake. No conditions. -/
import Derived.Test.YtpgjploaliefdaaGreatSd
namespace Go.Proofs.YtpgjploaliefdaaGreat.ob
open Go.RowKit Go.Proofs.YtpgjploaliefdaaGreat.hd
set_option linter.unusedVariables false
set_option linter.unusedSimpArgs false
theorem small_of {ys : List Int} (h : ∀ x ∈ ys, 0 ≤ x ∧ x < 18446744073709551616) : Small ys := fun i => by
  by_cases e : i < ys.length
  · have := h ys[i] (List.getElem_mem e)
    simpa [List.getD, e] using this
  · simp [List.getD, List.getElem?_eq_none (Nat.le_of_not_lt e)]
theorem walk_in (v : Value) (zs : List Int) (w : World) (h : NumsIn w v zs) (hz : Small zs) :
    Calls Tryz.prog 107 #[v] w fun e W' => WalkedAs (w.heap.size + 6) (walkF bgN zs zs.length (zs.length + 1) 0 0 []) e W' ∧ Below w.heap.size w W' := by
  obtain ⟨ad, b, off, cap, rfl, ⟨a1, a2⟩, a3, a4, a5, a6⟩ := h
  exact Walk_any b off _ cap ad zs a1 a3 a4 hz w a6
/-- Shapes that are read. -/
def ShapesIn (W : World) (v : Value) (ss : List (Int × Int)) : Prop := ∃ (ad : Option Addr) (b off cap : Nat), v = .slice ad ss.length cap ∧ ((0 < ss.length → ad = some ⟨b, off, none⟩) ∧ (ad = none → cap = 0)) ∧ ss.length ≤ cap ∧ (cap < 9223372036854775808 ∧ ss.length < 1000000000000) ∧ b < W.heap.size ∧ ShapesAt W b off ss.length ss
theorem ShapesIn.tr {W w : World} {v : Value} {zs : List (Int × Int)} (h : ShapesIn W v zs) (hb : Below W.heap.size W w) : ShapesIn w v zs := by
  obtain ⟨ad, b, off, cap, e, h1, h2, h3, h4, h5⟩ := h
  exact ⟨ad, b, off, cap, e, h1, h2, h3, Nat.lt_of_lt_of_le h4 hb.size, h5.block (hb.block b h4)⟩
theorem ShapesIn.nil {W : World} (h : 0 < W.heap.size) : ShapesIn W (.slice none 0 0) [] := ⟨none, 0, 0, 0, rfl, ⟨fun h => by simp at h, fun _ => rfl⟩, Nat.le_refl _, by simp, h, ShapesAt.none _ _ _ _⟩
def oldF (zs : List Int) (ss : List (Int × Int)) : Res := oldRes ss.length (walkF (bgO ss.length ss) zs zs.length (zs.length + 1) 0 0 [])
def newF (zs : List Int) : Res := walkF bgN zs zs.length (zs.length + 1) 0 0 []
theorem walkold_in (v u : Value) (zs : List Int) (ss : List (Int × Int)) (w : World) (h : NumsIn w v zs) (hz : Small zs) (hs : ShapesIn w u ss) :
    Calls Tryz.prog 109 #[v, u] w fun e W' => (∃ B, w.heap.size ≤ B ∧ WalkedAs B (oldF zs ss) e W') ∧ Below w.heap.size w W' := by
  obtain ⟨ad, b, off, cap, rfl, ⟨a1, a2⟩, a3, a4, a5, a6⟩ := h
  obtain ⟨ad', b', off', cap', rfl, ⟨a1', a2'⟩, a3', a4', a5', a6'⟩ := hs
  exact WalkOld_any b off _ cap ad zs a1 a3 a4 hz b' off' _ cap' ad' ss a1' (by omega) w a6 a6' a5 a5'
theorem obs_form {W : World} {B : Nat} {v : Value} {l : List Ob} (h : ObsAt W B v l) : ∃ va vc, v = .slice va l.length vc := by
  rcases h.2 with ⟨rfl, h1⟩ | ⟨g, cap, cur, rfl, _⟩
  · rw [h1]; exact ⟨_, _, rfl⟩
  · exact ⟨_, _, rfl⟩
theorem obs_tr {W w : World} {B : Nat} {v : Value} {l : List Ob} (h : ObsAt W B v l) (hb : Below W.heap.size W w) : ObsAt w B v l := by
  refine World.ownsRow.kept h (below_grown hb none) ?_
  rcases hv : v.ownBlock with _ | k
  · exact .inl rfl
  · exact .inr (fun e => by cases e)
theorem flatO_get (l : List Ob) (i j : Nat) (hi : i < l.length) (hj : j < 5) : (flatO l)[i * 5 + j]? = (obCells (obD l i))[j]? := by
  induction l generalizing i with
  | nil => simp at hi
  | cons o l ih =>
    cases i with
    | zero =>
      simp only [flatO, Nat.zero_mul, Nat.zero_add]
      rw [List.getElem?_append_left (by simp [obCells]; omega)]
      rfl
    | succ i =>
      simp only [flatO]
      rw [List.getElem?_append_right (by simp [obCells]; omega)]
      have : (i + 1) * 5 + j - (obCells o).length = i * 5 + j := by simp [obCells]; omega
      rw [this, ih i (by simpa using hi)]
      rfl
theorem obs_sees {W : World} {B : Nat} {v : Value} {l : List Ob} (h : ObsAt W B v l) (h0 : 0 < W.heap.size) (hl : l.length < 1000000000000) : ObjsIn W v l := by
  rcases h.2 with ⟨rfl, h1⟩ | ⟨g, cap, cur, rfl, h1, h2, h3, h4, h5, h6⟩
  · have hz : l = [] := List.eq_nil_of_length_eq_zero h1
    subst hz
    exact ObjsIn.nil h0
  · refine ⟨some ⟨g, 0, none⟩, g, 0, cap, rfl, ⟨fun _ => rfl, fun e => by cases e⟩, h3, ⟨by unfold maxLen at h4; omega, hl⟩, ?_, ObjsAt.of fun i hi => ?_⟩
    · rcases Nat.lt_or_ge g W.heap.size with h7 | h7
      · exact h7
      · rw [Array.getElem?_eq_none h7] at h2; cases h2
    · have key : ∀ j u, j < 5 → (obCells (obD l i))[j]? = some u → W.cell? ⟨g, 0 + i * 5 + j, none⟩ = some u := by
        intro j u hj hu
        have h7 := World.ownsRow.cells h (g := g) rfl (i * 5 + j) u (by rw [flatO_get l i j hi hj]; exact hu)
        have e : (⟨g, 0, none⟩ : Addr).add (i * 5 + j) = ⟨g, 0 + i * 5 + j, none⟩ := by unfold Addr.add; split <;> simp_all
        rw [e] at h7
        exact h7
      exact ⟨key 0 _ (by omega) rfl, key 1 _ (by omega) rfl, key 2 _ (by omega) rfl, key 3 _ (by omega) rfl, key 4 _ (by omega) rfl⟩
theorem words_lit (w : World) (xs : List Int) (b : Nat) (h : Blk w b (xs.map (fun n : Int => Value.int .u64 n)).toArray 24) (n : Nat) (hn : n ≤ xs.length) (h0 : 0 < n) (hl : xs.length < 1000000) : NumsIn w (.slice (some ⟨b, 0, none⟩) n xs.length) (xs.take n) := by
  obtain ⟨lb, cb, fb⟩ := h.get
  have hlen : (xs.take n).length = n := by simp; omega
  refine ⟨some ⟨b, 0, none⟩, b, 0, xs.length, by rw [hlen], ⟨fun _ => rfl, fun e => by cases e⟩, by omega, by omega, lb, words_of fun i hi => ?_⟩
  rw [cb (0 + i), hlen] at *
  have hi2 : i < xs.length := by omega
  simp [List.getD, List.getElem?_take, hi2]
  rw [if_pos (by omega)]
  simp
end Go.Proofs.YtpgjploaliefdaaGreat.ob
