/- Rows of objects that grow; where pieces lie. No conditions. -/
import Derived.Test.YtiboinckdjiniaaSv
namespace Go.Proofs.Ytiboinckdjiniaa.ob
open Go.RowKit Go.Proofs.Ytiboinckdjiniaa.hd
set_option linter.unusedVariables false
set_option linter.unusedSimpArgs false
theorem flatO_len (l : List Ob) : (flatO l).length = l.length * 5 := by
  induction l with
  | nil => rfl
  | cons a l ih => simp [flatO, obCells, ih]; omega
theorem flatO_app (l m : List Ob) : flatO (l ++ m) = flatO l ++ flatO m := by
  induction l with
  | nil => rfl
  | cons a l ih => simp [flatO, ih]
theorem flatO_one (l : List Ob) : ∀ u ∈ flatO l, u.oneCell' = true := by
  induction l with
  | nil => intro u hu; cases hu
  | cons a l ih =>
    intro u hu
    rcases List.mem_append.1 (show u ∈ obCells a ++ flatO l from hu) with h | h
    · simp [obCells] at h
      rcases h with rfl | rfl | rfl | rfl | rfl <;> rfl
    · exact ih u h
theorem src_objs {w : World} {u : Value} {ys : List Ob} (h : ObjsIn w u ys) : (u = .slice none 0 0 ∧ ys.length = 0 ∧ flatO ys = []) ∨ ∃ ad c, u = .slice (some ad) ys.length c ∧ ∀ j y, (flatO ys)[j]? = some y → w.cell? (ad.add j) = some y := by
  obtain ⟨ad, b, off, cap, rfl, ⟨h1, h2⟩, h3, h4, h5, h6⟩ := h
  rcases ad with _ | ad
  · have hz : ys = [] := by
      rcases Nat.eq_zero_or_pos ys.length with e | e
      · exact List.eq_nil_of_length_eq_zero e
      · cases h1 e
    subst hz
    rw [h2 rfl]
    exact .inl ⟨rfl, rfl, rfl⟩
  · refine .inr ⟨ad, cap, rfl, fun j y hj => ?_⟩
    have hl : j < ys.length * 5 := by
      rcases Nat.lt_or_ge j (ys.length * 5) with e | e
      · exact e
      · rw [List.getElem?_eq_none (by rw [flatO_len]; exact e)] at hj; cases hj
    have h7 := h1 (by omega)
    cases h7
    have e : (⟨b, off, none⟩ : Addr).add j = ⟨b, off + j, none⟩ := by unfold Addr.add; split <;> simp_all
    rw [e]
    obtain ⟨c0, c1, c2, c3, c4⟩ := h6.at (j / 5) (by omega)
    have hm : j % 5 = 0 ∨ j % 5 = 1 ∨ j % 5 = 2 ∨ j % 5 = 3 ∨ j % 5 = 4 := by omega
    have hf := flatO_get ys (j / 5) (j % 5) (by omega) (by omega)
    rw [show j / 5 * 5 + j % 5 = j from by omega, hj] at hf
    rcases hm with hm | hm | hm | hm | hm
    · rw [hm] at hf; simp [obCells] at hf; rw [show off + j = off + j / 5 * 5 from by omega, c0, hf]
    · rw [hm] at hf; simp [obCells] at hf; rw [show off + j = off + j / 5 * 5 + 1 from by omega, c1, hf]
    · rw [hm] at hf; simp [obCells] at hf; rw [show off + j = off + j / 5 * 5 + 2 from by omega, c2, hf]
    · rw [hm] at hf; simp [obCells] at hf; rw [show off + j = off + j / 5 * 5 + 3 from by omega, c3, hf]
    · rw [hm] at hf; simp [obCells] at hf; rw [show off + j = off + j / 5 * 5 + 4 from by omega, c4, hf]
theorem app_objs {ops : Array Oper} {rest : List Oper} {o : Oper} {a : Act} {Q : Exit → Act → World → Prop} (w : World) (hw : Region.wanted o (yielded ops a.tmps) = true) (s x : Operand)
    (ho : o.op = .call { callee := .builtin .append, args := #[s, x], argTypes := #[26, 26] })
    (B : Nat) (v u : Value) (xs ys : List Ob) (hs : a.eval s = v) (hx : a.eval x = u) (hown : ObsAt w B v xs) (hys : ObjsIn w u ys) (hbig : xs.length + ys.length < 1000000000) (hB : B ≤ w.heap.size)
    (h : ∀ v' w', ObsAt w' B v' (xs ++ ys) → w.grownBy w' v.ownBlock → (v'.ownBlock = v.ownBlock ∨ v'.ownBlock = some w.heap.size) → wpList Try.prog ops Q rest (a.put o.dst v') w') : wpList Try.prog ops Q (o :: rest) a w := by
  obtain ⟨i0, hi, hz0, hz1, hz2⟩ := info_parts info_ob
  refine append_any w hw s x _ ho B 53 i0 (.agg #[.int .i64 0, .int .i64 0, .int .i64 0, .bool false, .int .u64 0]) 5 40 Try.underlying26 hi hz0 hz1 hz2 rfl (by decide) v xs.length (flatO xs) hs hown u ys.length (flatO ys) hx (src_objs hys) (flatO_len ys) (flatO_one ys) (by unfold maxLen; omega) (by omega) hB ?_
  intro v' w' h2 h3 h4
  refine h v' w' ?_ h3 h4
  unfold ObsAt
  rw [flatO_app]
  simpa using h2
theorem ObsAt.nil (W : World) (B : Nat) : ObsAt W B (.slice none 0 0) [] := World.ownsRow_nil _ _ _ _
theorem obs_own {w W0 W W' : World} {v : Value} {zs : List Ob} (hb : Below w.heap.size w W) (ho : ObsAt W0 w.heap.size v zs) (hg : W.grownBy W' v.ownBlock) : Below w.heap.size w W' := by
  have hol := World.ownsRow.lt ho
  exact ⟨hg.os.trans hb.os, hg.tape.trans hb.tape, hg.output.trans hb.output, Nat.le_trans hb.size hg.size, fun j hj => (hg.block j (Nat.lt_of_lt_of_le hj hb.size) (fun e => by have := hol j e.symm; omega)).trans (hb.block j hj)⟩
/-- Objects so much further on. -/
def shiftO (k : Nat) (o : Ob) : Ob := { o with pos := o.pos + k }
theorem obs_shift (l : List Pc) (k : Nat) : ∀ pos, (obsAt pos l).map (shiftO k) = obsAt (pos + k) l := by
  induction l with
  | nil => intro pos; rfl
  | cons c l ih =>
    intro pos
    simp only [obsAt, List.map_cons, ih]
    rw [show pos + 1 + c.s + k = pos + k + 1 + c.s from by omega]
    congr 1
/-- Where the pieces begin. -/
def posOf (l : List Pc) (i : Nat) : Nat := (wordsOf (l.take i)).length
theorem pos_lt (l : List Pc) {i j : Nat} (hij : i < j) (hj : j ≤ l.length) : posOf l i < posOf l j := by
  have e : l.take j = l.take i ++ (l.take j).drop i := by
    have := List.take_append_drop i (l.take j)
    rw [List.take_take, Nat.min_eq_left (by omega)] at this
    exact this.symm
  unfold posOf
  rw [e, wordsOf_app, List.length_append]
  have := len_words (l := (l.take j).drop i)
  have hl : ((l.take j).drop i).length = j - i := by simp; omega
  omega
/-- The last one of the first i pieces that begins at k, or -1. -/
def nF (l : List Pc) (k : Nat) : Nat → Int
  | 0 => -1
  | i + 1 => if posOf l i = k then (i : Int) else nF l k i
theorem nF_none {l : List Pc} {k : Nat} : ∀ {m : Nat}, (∀ i, i < m → posOf l i ≠ k) → nF l k m = -1
  | 0, _ => rfl
  | m + 1, h => by
    unfold nF
    rw [if_neg (h m (by omega))]
    exact nF_none fun i hi => h i (by omega)
theorem nF_one {l : List Pc} {k i0 : Nat} : ∀ {m : Nat}, i0 < m → posOf l i0 = k → (∀ i, i < m → posOf l i = k → i = i0) → nF l k m = i0
  | 0, h, _, _ => by omega
  | m + 1, h, hp, hu => by
    unfold nF
    split
    · rename_i e
      rw [hu m (by omega) e]
    · rename_i e
      have : i0 ≠ m := fun q => e (q ▸ hp)
      exact nF_one (by omega) hp fun i hi => hu i (by omega)
/-- A cut between two pieces, or within one. -/
def CutCase (l : List Pc) (k : Nat) : Prop :=
  (∃ a b, l = a ++ b ∧ k = (wordsOf a).length ∧ nF l k l.length = if a.length < l.length then (a.length : Int) else -1) ∨
  ((∃ t, newF ((wordsOf l).take k) = .err 2 t) ∧ nF l k l.length = -1 ∧ k < (wordsOf l).length)
theorem pos_app (a b : List Pc) : posOf (a ++ b) a.length = (wordsOf a).length := by simp [posOf]
theorem cut_case {l : List Pc} (hg : Good l) (hn : ∀ c ∈ l, c.g = false) {k : Nat} (hk : k ≤ (wordsOf l).length) : CutCase l k := by
  have bound : ∀ a b, l = a ++ b → k = (wordsOf a).length → CutCase l k := by
    intro a b e hk
    refine .inl ⟨a, b, e, hk, ?_⟩
    have hp : posOf l a.length = k := by rw [e, hk]; exact pos_app a b
    have hal : a.length ≤ l.length := by rw [e]; simp
    have hu : ∀ i, i < l.length → posOf l i = k → i = a.length := by
      intro i hi hpi
      rcases Nat.lt_trichotomy i a.length with h | h | h
      · have := pos_lt l h hal; omega
      · exact h
      · have := pos_lt l h (by omega); omega
    by_cases h : a.length < l.length
    · rw [if_pos h]; exact nF_one h hp hu
    · rw [if_neg h]
      exact nF_none fun i hi hpi => by have := hu i hi hpi; omega
  rcases Nat.lt_or_ge k (wordsOf l).length with h | h
  · obtain ⟨a, c, b, j, e, hj, hkj⟩ := split_at hg h
    rcases Nat.eq_zero_or_pos j with h0 | h0
    · exact bound a (c :: b) e (by omega)
    · subst e
      have hga := good_left hg
      have hc := (good_right hg) c List.mem_cons_self
      refine .inr ⟨?_, ?_, h⟩
      · rw [hkj]
        exact cut_short hga (fun d hd => hn d (List.mem_append_left _ hd)) hc (hn c (List.mem_append_right _ List.mem_cons_self)) h0 hj
      · refine nF_none fun i hi hpi => ?_
        have h1 : posOf (a ++ c :: b) a.length = (wordsOf a).length := pos_app a (c :: b)
        have h2 : posOf (a ++ c :: b) (a.length + 1) = (wordsOf a).length + 1 + c.s := by
          have := pos_app (a ++ [c]) b
          simp only [List.append_assoc, List.singleton_append, List.length_append, List.length_singleton] at this
          rw [this, words_snoc]
          simp [hc.len]; omega
        rcases Nat.lt_or_ge i (a.length + 1) with q | q
        · rcases Nat.lt_or_ge i a.length with q2 | q2
          · have := pos_lt (a ++ c :: b) q2 (by simp); omega
          · obtain rfl : i = a.length := by omega
            omega
        · rcases Nat.eq_or_lt_of_le q with q2 | q2
          · rw [← q2] at hpi; omega
          · have := pos_lt (a ++ c :: b) q2 (by omega); omega
  · exact bound l [] (by simp) (by omega)
end Go.Proofs.Ytiboinckdjiniaa.ob
