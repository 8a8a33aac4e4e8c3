/- For ObjectsTells: rows that came in, cut; uniform answers of both. No conditions. -/
import Derived.Test.YtiboinckdjiniaaOi
import Derived.Test.YtiboinckdjiniaaRf
import Derived.Test.YtiboinckdjiniaaSf
import Derived.Test.YtiboinckdjiniaaSr
namespace Go.Proofs.Ytiboinckdjiniaa.ob
open Go.RowKit Go.Proofs.Ytiboinckdjiniaa.hd
set_option linter.unusedVariables false
set_option linter.unusedSimpArgs false
theorem ShapesAt_take {W : World} {b off n m : Nat} {l : List (Int × Int)} (h : ShapesAt W b off n l) (hm : m ≤ n) : ShapesAt W b off m (l.take m) := by
  unfold ShapesAt at *
  intro i hi
  have := h i (by omega)
  simpa [List.getD, List.getElem?_take, hi] using this
theorem ObjsAt_take {W : World} {b off n m : Nat} {l : List Ob} (h : ObjsAt W b off n l) (hm : m ≤ n) : ObjsAt W b off m (l.take m) := by
  refine ObjsAt.of fun i hi => ?_
  have := h.at i (by omega)
  simpa [obD, List.getD, List.getElem?_take, hi] using this
theorem SRowIn.tr {W w : World} {v : Value} {zs : List (Int × Int)} (h : SRowIn W v zs) (hb : Below W.heap.size W w) : SRowIn w v zs := by
  obtain ⟨ad, b, off, n, cap, e, h1, h2, h3, h4, h5, h6⟩ := h
  refine ⟨ad, b, off, n, cap, e, fun h0 => ⟨(h1 h0).1, Nat.lt_of_lt_of_le (h1 h0).2 hb.size⟩, h2, h3, h4, h5, ?_⟩
  rcases Nat.eq_zero_or_pos n with h0 | h0
  · subst h0; exact ShapesAt.none _ _ _ _
  · exact h6.block (hb.block b (h1 h0).2)
theorem SRowIn.cut {W : World} {ad : Option Addr} {n cap : Nat} {zs : List (Int × Int)} (h : SRowIn W (.slice ad n cap) zs) (h0 : 0 < W.heap.size) {m : Nat} (hm : m ≤ n) (hm2 : m < 1000000000000) : ShapesIn W (.slice ad m cap) (zs.take m) := by
  obtain ⟨ad', b, off, n', cap', e, h1, h2, h3, h4, h5, h6⟩ := h
  simp at e
  obtain ⟨rfl, rfl, rfl⟩ := e
  have hl : (zs.take m).length = m := by simp; omega
  rcases Nat.eq_zero_or_pos m with hm0 | hm0
  · subst hm0
    exact ⟨ad, 0, 0, cap, by simp, ⟨fun h => by simp at h, h2⟩, by simp, ⟨h4, by simp⟩, h0, by simpa using ShapesAt.none _ _ _ _⟩
  · refine ⟨ad, b, off, cap, by rw [hl], ⟨fun _ => (h1 (by omega)).1, h2⟩, by omega, ⟨h4, by omega⟩, (h1 (by omega)).2, ?_⟩
    rw [hl]
    exact ShapesAt_take h6 hm
theorem ORowIn.tr {W w : World} {v : Value} {zs : List (Ob)} (h : ORowIn W v zs) (hb : Below W.heap.size W w) : ORowIn w v zs := by
  obtain ⟨ad, b, off, n, cap, e, h1, h2, h3, h4, h5, h6⟩ := h
  refine ⟨ad, b, off, n, cap, e, fun h0 => ⟨(h1 h0).1, Nat.lt_of_lt_of_le (h1 h0).2 hb.size⟩, h2, h3, h4, h5, ?_⟩
  rcases Nat.eq_zero_or_pos n with h0 | h0
  · subst h0; exact ObjsAt.none _ _ _ _
  · exact h6.block (hb.block b (h1 h0).2)
theorem ORowIn.cut {W : World} {ad : Option Addr} {n cap : Nat} {zs : List (Ob)} (h : ORowIn W (.slice ad n cap) zs) (h0 : 0 < W.heap.size) {m : Nat} (hm : m ≤ n) (hm2 : m < 1000000000000) : ObjsIn W (.slice ad m cap) (zs.take m) := by
  obtain ⟨ad', b, off, n', cap', e, h1, h2, h3, h4, h5, h6⟩ := h
  simp at e
  obtain ⟨rfl, rfl, rfl⟩ := e
  have hl : (zs.take m).length = m := by simp; omega
  rcases Nat.eq_zero_or_pos m with hm0 | hm0
  · subst hm0
    exact ⟨ad, 0, 0, cap, by simp, ⟨fun h => by simp at h, h2⟩, by simp, ⟨h4, by simp⟩, h0, by simpa using ObjsAt.none _ _ _ _⟩
  · refine ⟨ad, b, off, cap, by rw [hl], ⟨fun _ => (h1 (by omega)).1, h2⟩, by omega, ⟨h4, by omega⟩, (h1 (by omega)).2, ?_⟩
    rw [hl]
    exact ObjsAt_take h6 hm
theorem walkF_len {bg : Nat → Nat → Int → Option (Ob × Nat)} {zs : List Int} {len : Nat} {l : List Ob} {k2 : Nat} : ∀ {f k pos : Nat} {acc : List Ob}, acc.length ≤ pos → pos ≤ len → walkF bg zs len f k pos acc = .ok l k2 → l.length ≤ len
  | 0, k, pos, acc, _, _, h => by cases h
  | f + 1, k, pos, acc, ha, hp, h => by
    by_cases hlt : pos < len
    · rw [walkF_step hlt] at h
      rcases hb : bg k pos (zs.getD pos 0) with _ | ⟨o, k'⟩
      · rw [hb] at h; cases h
      · rw [hb] at h
        dsimp only at h
        by_cases h1 : len < pos + 1 + o.s.toNat
        · rw [if_pos h1] at h; cases h
        · rw [if_neg h1] at h
          by_cases h2 : slotsB o zs o.s.toNat = true
          · rw [if_pos h2] at h
            exact walkF_len (by simp; omega) (by omega) h
          · rw [if_neg h2] at h; cases h
    · rw [walkF_end hlt] at h
      cases h
      omega
def resL : Res → List Ob
  | .ok l _ => l
  | .err _ _ => []
def resC : Res → Int
  | .ok _ _ => 0
  | .err c _ => c
theorem newF_len (zs : List Int) : (resL (newF zs)).length ≤ zs.length := by
  rcases h : newF zs with ⟨l, k⟩ | ⟨c, k⟩
  · exact walkF_len (bg := bgN) (pos := 0) (acc := []) (by simp) (Nat.zero_le _) h
  · exact Nat.zero_le _
theorem oldF_len (zs : List Int) (ss : List (Int × Int)) : (resL (oldF zs ss)).length ≤ zs.length := by
  unfold oldF
  rcases h : walkF (bgO ss.length ss) zs zs.length (zs.length + 1) 0 0 [] with ⟨l, k⟩ | ⟨c, k⟩
  · have := walkF_len (pos := 0) (acc := []) (by simp) (Nat.zero_le _) h
    unfold oldRes
    dsimp only
    split
    · exact Nat.zero_le _
    · exact this
  · exact Nat.zero_le _
theorem walked_out {B : Nat} {r : Res} {e : Ending} {W : World} (h : WalkedAs B r e W) (h0 : 0 < W.heap.size) (hl : (resL r).length < 1000000000000) : ∃ v, e = .returned (.tuple #[v, .int .i64 (resC r)]) ∧ ObjsIn W v (resL r) := by
  rcases r with ⟨l, k⟩ | ⟨c, k⟩
  · obtain ⟨v, rfl, ho⟩ := h
    exact ⟨v, rfl, obs_sees ho h0 hl⟩
  · obtain rfl := h
    exact ⟨_, rfl, ObjsIn.nil h0⟩
def kinL (r : Option (List Int)) : List Int := r.getD []
def kinC : Option (List Int) → Int
  | none => 1
  | some _ => 0
theorem kinds_out {B : Nat} {r : Option (List Int)} {e : Ending} {W : World} (h : KindsPost B r e W) (h0 : 0 < W.heap.size) (hl : (kinL r).length < 1000000000000) : ∃ v, e = .returned (.tuple #[v, .int .i64 (kinC r)]) ∧ IntsIn W v (kinL r) := by
  rcases r with _ | ks
  · obtain rfl := h
    exact ⟨_, rfl, IntsIn.nil h0⟩
  · obtain ⟨v, rfl, ho⟩ := h
    exact ⟨v, rfl, ho.sees h0 hl⟩
theorem kindsF_le {len : Nat} : ∀ {l : List Ob} {acc : List Int}, acc.length ≤ len → (kinL (kindsF len l acc)).length ≤ len
  | [], acc, h => by
    unfold kindsF kinL
    split
    · simpa using h
    · simp
  | o :: l, acc, h => by
    unfold kindsF
    split
    · simp [kinL]
    · rename_i hk
      refine kindsF_le ?_
      unfold kindBad at hk
      simp [kindO_len]
      omega
theorem lay_out (s p : Int) (ys : List Int) (hl : ys.length < 1000000) : ∃ (c : Int) (l : List Int), ∀ B e W, 0 < W.heap.size → LayPost B s p ys e W → ∃ v, e = .returned (.tuple #[v, .int .i64 c]) ∧ NumsIn W v l := by
  by_cases h1 : layOk s p ys
  · by_cases h2 : ptrsOk ys p.toNat
    · refine ⟨0, packV s p :: ys, fun B e W h0 h => ?_⟩
      rcases h with ⟨g, _⟩ | ⟨_, g, _⟩ | ⟨_, _, v, rfl, ho⟩
      · exact absurd h1 g
      · exact absurd h2 g
      · exact ⟨v, rfl, ho.sees h0 (by simp; omega)⟩
    · refine ⟨3, [], fun B e W h0 h => ?_⟩
      rcases h with ⟨g, _⟩ | ⟨_, _, rfl⟩ | ⟨_, g, _⟩
      · exact absurd h1 g
      · exact ⟨_, rfl, NumsIn.nil h0⟩
      · exact absurd g h2
  · refine ⟨1, [], fun B e W h0 h => ?_⟩
    rcases h with ⟨_, rfl⟩ | ⟨g, _⟩ | ⟨g, _⟩
    · exact ⟨_, rfl, NumsIn.nil h0⟩
    · exact absurd g h1
    · exact absurd g h1
theorem cut_slice {W : World} {v : Value} {ss : List (Int × Int)} (h : SRowIn W v ss) : ∃ ad n cap, v = .slice ad n cap ∧ n ≤ cap ∧ cap < 9223372036854775808 ∧ (ad = none → cap = 0) ∧ ss.length = n := by
  obtain ⟨ad, b, off, n, cap, e, h1, h2, h3, h4, h5, h6⟩ := h
  exact ⟨ad, n, cap, e, h3, h4, h2, h5⟩
theorem cut_sliceO {W : World} {v : Value} {ss : List Ob} (h : ORowIn W v ss) : ∃ ad n cap, v = .slice ad n cap ∧ n ≤ cap ∧ cap < 9223372036854775808 ∧ (ad = none → cap = 0) ∧ ss.length = n := by
  obtain ⟨ad, b, off, n, cap, e, h1, h2, h3, h4, h5, h6⟩ := h
  exact ⟨ad, n, cap, e, h3, h4, h2, h5⟩
theorem cut_sliceN {W : World} {v : Value} {ss : List Int} (h : RowIn W v ss) : ∃ ad n cap, v = .slice ad n cap ∧ n ≤ cap ∧ cap < 9223372036854775808 ∧ (ad = none → cap = 0) ∧ ss.length = n ∧ Small ss := by
  obtain ⟨ad, b, off, n, cap, e, h1, h2, h3, h4, h5, h6, h7⟩ := h
  exact ⟨ad, n, cap, e, h3, h4, h2, h5, h7⟩
end Go.Proofs.Ytiboinckdjiniaa.ob
