/- Pieces: more plain laws. No conditions. -/
import Derived.Test.YtiboinckdjiniaaSr
namespace Go.Proofs.Ytiboinckdjiniaa.ob
open Go.RowKit Go.Proofs.Ytiboinckdjiniaa.hd
set_option linter.unusedVariables false
set_option linter.unusedSimpArgs false
theorem small_app {a b : List Int} (ha : Small a) (hb : Small b) : Small (a ++ b) := by
  intro i
  by_cases e : i < a.length
  · have := ha i
    simp only [List.getD, List.getElem?_append_left e] at this ⊢
    exact this
  · have := hb (i - a.length)
    simp only [List.getD, List.getElem?_append_right (Nat.le_of_not_lt e)] at this ⊢
    exact this
theorem small_cons {x : Int} {b : List Int} (hx : 0 ≤ x ∧ x < 18446744073709551616) (hb : Small b) : Small (x :: b) := by
  intro i
  cases i with
  | zero => simpa using hx
  | succ i => simpa using hb i
theorem head_in {c : Pc} (hc : PcGood c) : 0 ≤ c.h ∧ c.h < 18446744073709551616 := by
  rcases Bool.eq_false_or_eq_true c.g with hg | hg
  · obtain ⟨t, h1, h2, h3, _⟩ := hc.gone hg
    omega
  · rw [(hc.new hg).1]
    exact pack_in (by have := hc.s6; omega) hc.ps
theorem words_small {l : List Pc} (h : Good l) : Small (wordsOf l) := by
  induction l with
  | nil => exact small_nil
  | cons c l ih =>
    rw [wordsOf_cons]
    exact small_cons (head_in (h c List.mem_cons_self)) (small_app (h c List.mem_cons_self).small (ih fun d hd => h d (List.mem_cons_of_mem _ hd)))
theorem first_gone : ∀ {l : List Pc}, shapesOf l ≠ [] → ∃ a c b, l = a ++ c :: b ∧ c.g = true ∧ ∀ d ∈ a, d.g = false
  | [], h => absurd rfl h
  | c :: l, h => by
    rcases Bool.eq_false_or_eq_true c.g with hg | hg
    · exact ⟨[], c, l, rfl, hg, fun d hd => by cases hd⟩
    · obtain ⟨a, c', b, rfl, h1, h2⟩ := first_gone (l := l) (by simpa [shapesOf, hg] using h)
      refine ⟨c :: a, c', b, rfl, h1, fun d hd => ?_⟩
      rcases List.mem_cons.1 hd with rfl | hd
      · exact hg
      · exact h2 d hd
theorem last_gone : ∀ {l : List Pc}, shapesOf l ≠ [] → ∃ a c b, l = a ++ c :: b ∧ c.g = true ∧ shapesOf b = []
  | [], h => absurd rfl h
  | c :: l, h => by
    by_cases hl : shapesOf l = []
    · rcases Bool.eq_false_or_eq_true c.g with hg | hg
      · exact ⟨[], c, l, rfl, hg, hl⟩
      · exact absurd (by rw [← hl]; simp [shapesOf, hg]) h
    · obtain ⟨a, c', b, rfl, h1, h2⟩ := last_gone hl
      exact ⟨c :: a, c', b, rfl, h1, h2⟩
theorem good_left {a b : List Pc} (h : Good (a ++ b)) : Good a := fun c hc => h c (List.mem_append_left _ hc)
theorem good_right {a b : List Pc} (h : Good (a ++ b)) : Good b := fun c hc => h c (List.mem_append_right _ hc)
/-- Behind the pieces ahead of it one stands at a piece's header. -/
theorem at_new {a b : List Pc} {zs : List Int} (hg : Good a) (hn : ∀ c ∈ a, c.g = false) (hz : LiesAt zs 0 (wordsOf a)) (hl : (wordsOf a).length ≤ zs.length) :
    newF zs = walkF bgN zs zs.length ((zs.length - (wordsOf a).length) + ((wordsOf a).length - a.length) + 1) 0 (wordsOf a).length (obsAt 0 a) := by
  have h0 := len_words (l := a)
  unfold newF
  rw [show zs.length + 1 = (zs.length - (wordsOf a).length + ((wordsOf a).length - a.length) + 1) + a.length from by omega]
  rw [walk_new hg hn hz (by omega)]
  simp
theorem lies_pre (a b : List Int) : LiesAt (a ++ b) 0 a := by
  intro j hj
  simp only [List.getD, Nat.zero_add]
  rw [List.getElem?_append_left hj]
theorem head_at (a b : List Int) (x : Int) : (a ++ x :: b).getD a.length 0 = x := by simp [List.getD]
theorem new_gone {l : List Pc} (hg : Good l) (h : shapesOf l ≠ []) : ∃ k, newF (wordsOf l) = .err 3 k := by
  obtain ⟨a, c, b, rfl, h1, h2⟩ := first_gone h
  have e : wordsOf (a ++ c :: b) = wordsOf a ++ c.h :: (c.ys ++ wordsOf b) := by rw [wordsOf_app, wordsOf_cons]
  rw [e]
  rw [at_new (b := c :: b) (good_left hg) h2 (lies_pre _ _) (by simp)]
  rw [walkF_step (by simp), head_at]
  have hc := (good_right hg) c List.mem_cons_self
  obtain ⟨t, _, _, h3, _⟩ := hc.gone h1
  have : bgN 0 (wordsOf a).length c.h = none := by
    unfold bgN
    rw [if_neg (by rw [h3]; simp [unOk])]
  rw [this]
  exact ⟨_, rfl⟩
theorem old_short {l : List Pc} (hg : Good l) (h : shapesOf l ≠ []) : ∃ k, oldF (wordsOf l) (shapesOf l).dropLast = .err 3 k := by
  obtain ⟨a, c, b, rfl, h1, h2⟩ := last_gone h
  have hs : shapesOf (a ++ c :: b) = shapesOf a ++ [((c.s : Int), (c.p : Int))] := by
    rw [shapesOf_app]
    have : shapesOf (c :: b) = ((c.s : Int), (c.p : Int)) :: shapesOf b := by simp [shapesOf, h1]
    rw [this, h2]
  rw [hs, List.dropLast_concat]
  have e : wordsOf (a ++ c :: b) = wordsOf a ++ c.h :: (c.ys ++ wordsOf b) := by rw [wordsOf_app, wordsOf_cons]
  rw [e]
  have h0 := len_words (l := a)
  unfold oldF
  have hlen : (wordsOf a ++ c.h :: (c.ys ++ wordsOf b)).length = (wordsOf a).length + ((c.ys ++ wordsOf b).length + 1) := by simp
  rw [show (wordsOf a ++ c.h :: (c.ys ++ wordsOf b)).length + 1 = (((wordsOf a).length - a.length) + ((c.ys ++ wordsOf b).length + 1) + 1) + a.length from by omega]
  rw [walk_old (good_left hg) (lies_pre _ _) (by simp) (fun j hj => by simp) (by simp)]
  rw [walkF_step (by simp)]
  simp only [Nat.zero_add]
  rw [head_at]
  have hc := (good_right hg) c List.mem_cons_self
  obtain ⟨t, ht, _, h3, _⟩ := hc.gone h1
  have : bgO (shapesOf a).length (shapesOf a) (shapesOf a).length (wordsOf a).length c.h = none := by
    unfold bgO
    rw [h3, if_pos (adE_odd ht).1, if_neg (by omega)]
  rw [this]
  exact ⟨_, rfl⟩
theorem obs_take (l : List Pc) (hg : Good l) (k : Nat) (hk : k < l.length) : obD (obsAt 0 l) k = obOf (wordsOf (l.take k)).length (pcD l k) := by
  have e : l = l.take k ++ pcD l k :: l.drop (k + 1) := by
    have h1 : l.drop k = pcD l k :: l.drop (k + 1) := by
      rw [List.drop_eq_getElem_cons hk]; simp [pcD, List.getD, hk]
    rw [← h1, List.take_append_drop]
  have ht : Good (l.take k) := fun c hc => hg c (List.mem_of_mem_take hc)
  have h2 : obsAt 0 l = obsAt 0 (l.take k) ++ obsAt (0 + (wordsOf (l.take k)).length) (pcD l k :: l.drop (k + 1)) := by
    rw [← obsAt_app _ _ ht, ← e]
  rw [h2]
  have hlen : (obsAt 0 (l.take k)).length = k := by rw [obsAt_len]; simp; omega
  unfold obD
  simp only [List.getD]
  rw [List.getElem?_append_right (by omega), hlen]
  simp [obsAt]
theorem words_take (l : List Pc) (hg : Good l) (k : Nat) (hk : k < l.length) : (wordsOf (l.take (k + 1))).length = (wordsOf (l.take k)).length + 1 + (pcD l k).s := by
  have h1 : l.take (k + 1) = l.take k ++ [pcD l k] := by
    rw [List.take_add_one]; simp [pcD, List.getD, hk]
  rw [h1, words_snoc]
  have : pcD l k ∈ l := by unfold pcD; simp [List.getD, hk]
  have := (hg _ this).len
  simp; omega
theorem ShapesIn.take {W : World} {ad : Option Addr} {n cap : Nat} {ss : List (Int × Int)} (h : ShapesIn W (.slice ad n cap) ss) {m : Nat} (hm : m ≤ n) : ShapesIn W (.slice ad m cap) (ss.take m) := by
  obtain ⟨ad', b, off, cap', e, ⟨h1, h2⟩, h3, h4, h5, h6⟩ := h
  simp at e
  obtain ⟨rfl, rfl, rfl⟩ := e
  have hl : (ss.take m).length = m := by simp; omega
  refine ⟨ad, b, off, cap, by rw [hl], ⟨fun h => h1 (by omega), h2⟩, by omega, by omega, h5, ?_⟩
  unfold ShapesAt
  intro i hi
  rw [hl] at hi
  have := h6.at i (by omega)
  have e : (ss.take m).getD i (0, 0) = ss.getD i (0, 0) := by simp [List.getD, List.getElem?_take, hi]
  rw [e]
  exact this
theorem NumsIn.part {W : World} {ad : Option Addr} {n cap : Nat} {zs : List Int} (h : NumsIn W (.slice ad n cap) zs) {m : Nat} (hm : m ≤ n) : NumsIn W (.slice ad m cap) (zs.take m) := by
  obtain ⟨ad', b, off, cap', e, ⟨h1, h2⟩, h3, h4, h5, h6⟩ := h
  simp at e
  obtain ⟨rfl, rfl, rfl⟩ := e
  have hl : (zs.take m).length = m := by simp; omega
  refine ⟨ad, b, off, cap, by rw [hl], ⟨fun h => h1 (by omega), h2⟩, by omega, by omega, h5, words_of fun i hi => ?_⟩
  rw [hl] at hi
  have := h6.at i (by omega)
  have e : (zs.take m).getD i 0 = zs.getD i 0 := by simp [List.getD, List.getElem?_take, hi]
  rw [e]
  exact this
theorem NumsIn.len {W : World} {ad : Option Addr} {n cap : Nat} {zs : List Int} (h : NumsIn W (.slice ad n cap) zs) : n = zs.length ∧ n ≤ cap ∧ cap < 9223372036854775808 := by
  obtain ⟨ad', b, off, cap', e, _, h3, h4, _⟩ := h
  simp at e
  obtain ⟨rfl, rfl, rfl⟩ := e
  exact ⟨rfl, h3, h4.1⟩
theorem ShapesIn.len {W : World} {ad : Option Addr} {n cap : Nat} {zs : List (Int × Int)} (h : ShapesIn W (.slice ad n cap) zs) : n = zs.length ∧ n ≤ cap ∧ cap < 9223372036854775808 := by
  obtain ⟨ad', b, off, cap', e, _, h3, h4, _⟩ := h
  simp at e
  obtain ⟨rfl, rfl, rfl⟩ := e
  exact ⟨rfl, h3, h4.1⟩
theorem ObjsIn.form {W : World} {v : Value} {l : List Ob} (h : ObjsIn W v l) : ∃ va vc, v = .slice va l.length vc := by
  obtain ⟨ad', b, off, cap', e, _⟩ := h
  exact ⟨_, _, e⟩
end Go.Proofs.Ytiboinckdjiniaa.ob
