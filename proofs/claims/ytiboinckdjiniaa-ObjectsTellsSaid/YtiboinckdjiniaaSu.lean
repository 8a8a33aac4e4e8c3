/- Pieces: kinds, a word that is turned, words that are cut. No conditions. -/
import Derived.Test.YtiboinckdjiniaaSs
namespace Go.Proofs.Ytiboinckdjiniaa.ob
open Go.RowKit Go.Proofs.Ytiboinckdjiniaa.hd
set_option linter.unusedVariables false
set_option linter.unusedSimpArgs false
def kindC (c : Pc) : List Int := 1 :: (List.range c.s).map (kd c.p)
def kindsOf (l : List Pc) : List Int := l.flatMap kindC
theorem kindC_len (c : Pc) : (kindC c).length = c.s + 1 := by simp [kindC]
theorem kindsOf_cons (c : Pc) (l : List Pc) : kindsOf (c :: l) = kindC c ++ kindsOf l := by simp [kindsOf]
theorem kindsOf_app (a b : List Pc) : kindsOf (a ++ b) = kindsOf a ++ kindsOf b := by simp [kindsOf]
theorem kinds_words {l : List Pc} (h : Good l) : (kindsOf l).length = (wordsOf l).length := by
  induction l with
  | nil => rfl
  | cons c l ih =>
    have hc := (h c List.mem_cons_self).len
    rw [kindsOf_cons, wordsOf_cons]
    simp [kindC_len, hc, ih fun d hd => h d (List.mem_cons_of_mem _ hd)]
    omega
theorem kinds_go {l : List Pc} : ∀ {acc : List Int} {len : Nat}, Good l → acc.length + (wordsOf l).length = len → kindsF len (obsAt acc.length l) acc = some (acc ++ kindsOf l) := by
  induction l with
  | nil => intro acc len _ h; simp [obsAt, kindsF, kindsOf, wordsOf] at h ⊢; exact h
  | cons c l ih =>
    intro acc len hg h
    have hc := hg c List.mem_cons_self
    have h6 := hc.s6
    have hps := hc.ps
    have hw : (wordsOf (c :: l)).length = 1 + c.s + (wordsOf l).length := by rw [wordsOf_cons]; simp [hc.len]; omega
    have hr : rightB (c.s : Int) (c.p : Int) = true := rightB_mk (by omega)
    have hb : ¬ kindBad len acc (obOf acc.length c) := by
      unfold kindBad obOf
      dsimp only
      rw [hr]
      simp
      omega
    have hk : kindO (obOf acc.length c) = kindC c := by simp [kindO, kindC, obOf]
    simp only [obsAt, kindsF]
    rw [if_neg hb, hk]
    have e : (acc ++ kindC c).length = acc.length + 1 + c.s := by simp [kindC_len]; omega
    have := ih (acc := acc ++ kindC c) (len := len) (fun d hd => hg d (List.mem_cons_of_mem _ hd)) (by omega)
    rw [e] at this
    rw [this, kindsOf_cons, List.append_assoc]
theorem kinds_all {l : List Pc} (h : Good l) : kindsF (wordsOf l).length (obsAt 0 l) [] = some (kindsOf l) := by
  have := kinds_go (acc := []) (len := (wordsOf l).length) h (by simp)
  simpa using this
theorem split_at : ∀ {l : List Pc} {k : Nat}, Good l → k < (wordsOf l).length → ∃ a c b j, l = a ++ c :: b ∧ j ≤ c.s ∧ k = (wordsOf a).length + j
  | [], k, _, h => by simp [wordsOf] at h
  | c :: l, k, hg, h => by
    have hc := (hg c List.mem_cons_self).len
    by_cases hk : k ≤ c.s
    · exact ⟨[], c, l, k, rfl, hk, by simp [wordsOf]⟩
    · have hw : (wordsOf (c :: l)).length = 1 + c.s + (wordsOf l).length := by rw [wordsOf_cons]; simp [hc]; omega
      obtain ⟨a, c', b, j, rfl, hj, he⟩ := split_at (l := l) (k := k - 1 - c.s) (fun d hd => hg d (List.mem_cons_of_mem _ hd)) (by omega)
      refine ⟨c :: a, c', b, j, rfl, hj, ?_⟩
      rw [wordsOf_cons]
      simp [hc]
      omega
theorem set_mid (a b c : List Int) (j : Nat) (x : Int) (hj : j < b.length) : (a ++ b ++ c).set (a.length + j) x = a ++ b.set j x ++ c := by
  rw [List.append_assoc, List.set_append, if_neg (by omega)]
  rw [show a.length + j - a.length = j from by omega]
  rw [List.set_append, if_pos hj, List.append_assoc]
theorem words_mid (a b : List Pc) (c : Pc) : wordsOf (a ++ c :: b) = wordsOf a ++ (c.h :: c.ys) ++ wordsOf b := by
  rw [wordsOf_app, wordsOf_cons]; simp
theorem getD_mid (a b c : List Int) (j : Nat) (hj : j < b.length) : (a ++ b ++ c).getD (a.length + j) 0 = b.getD j 0 := by
  simp only [List.getD]
  rw [List.getElem?_append_left (by simp; omega), List.getElem?_append_right (by omega)]
  congr 2
  omega
/-- A piece with a slot turned. -/
def turn (c : Pc) (i : Nat) (x : Int) : Pc := { c with ys := c.ys.set i x }
theorem turn_good {c : Pc} (hc : PcGood c) (hg : c.g = false) {i : Nat} (hi : i < c.s) {x : Int} (hx : 0 ≤ x ∧ x < 18446744073709551616) (hp : i < c.p → ptrB x = true) : PcGood (turn c i x) := by
  refine ⟨by simp [turn, hc.len], hc.s6, hc.ps, small_set hc.small hx i, fun h => ⟨(hc.new hg).1, ?_⟩, fun h => absurd h (by simp [turn, hg])⟩
  exact (ptrs_set (by rw [hc.len]; exact hi) (hc.new hg).2).2 hp
theorem obs_turn (a b : List Pc) (c : Pc) (i : Nat) (x : Int) (ha : Good a) : obsAt 0 (a ++ turn c i x :: b) = obsAt 0 (a ++ c :: b) := by
  rw [obsAt_app _ _ ha, obsAt_app _ _ ha]
  rfl
/-- What a turned word is, and what Walk tells then. -/
def SlotCase (l : List Pc) (k : Nat) (x : Int) : Prop :=
  ((kindsOf l).getD k 0 = 3 ∧ newF ((wordsOf l).set k x) = .ok (obsAt 0 l) 0) ∨
  ((kindsOf l).getD k 0 = 2 ∧ ptrB x = true ∧ newF ((wordsOf l).set k x) = .ok (obsAt 0 l) 0) ∨
  ((kindsOf l).getD k 0 = 2 ∧ ptrB x = false ∧ ∃ t, newF ((wordsOf l).set k x) = .err 3 t) ∨
  ((kindsOf l).getD k 0 = 1 ∧ (x % 2 = 0 ∨ (x % 2 = 1 ∧ ∃ t, newF ((wordsOf l).set k x) = .err 3 t)))
theorem slot_case {l : List Pc} (hg : Good l) (hn : ∀ c ∈ l, c.g = false) {k : Nat} (hk : k < (wordsOf l).length) {x : Int} (hx : 0 ≤ x ∧ x < 18446744073709551616) : SlotCase l k x := by
  obtain ⟨a, c, b, j, rfl, hj, rfl⟩ := split_at hg hk
  have hga := good_left hg
  have hna : ∀ d ∈ a, d.g = false := fun d hd => hn d (List.mem_append_left _ hd)
  have hc := (good_right hg) c List.mem_cons_self
  have hcg := hn c (List.mem_append_right _ List.mem_cons_self)
  have hlen : (c.h :: c.ys).length = c.s + 1 := by simp [hc.len]
  have hw : (wordsOf (a ++ c :: b)).set ((wordsOf a).length + j) x = wordsOf a ++ (c.h :: c.ys).set j x ++ wordsOf b := by
    rw [words_mid]; exact set_mid _ _ _ _ _ (by omega)
  have hkd : (kindsOf (a ++ c :: b)).getD ((wordsOf a).length + j) 0 = (kindC c).getD j 0 := by
    rw [kindsOf_app, kindsOf_cons, ← kinds_words hga, ← List.append_assoc]
    exact getD_mid _ _ _ _ (by rw [kindC_len]; omega)
  unfold SlotCase
  rw [hw, hkd]
  cases j with
  | zero =>
    refine .inr (.inr (.inr ⟨by simp [kindC], ?_⟩))
    rcases (show x % 2 = 0 ∨ x % 2 = 1 by omega) with h | h
    · exact .inl h
    · refine .inr ⟨h, ?_⟩
      have e : wordsOf a ++ (c.h :: c.ys).set 0 x ++ wordsOf b = wordsOf a ++ x :: (c.ys ++ wordsOf b) := by simp
      rw [e, at_new (b := []) hga hna (lies_pre _ _) (by simp), walkF_step (by simp), head_at]
      have : bgN 0 (wordsOf a).length x = none := by
        unfold bgN
        rw [if_neg (by simp [unOk]; omega)]
      rw [this]
      exact ⟨_, rfl⟩
  | succ i =>
    have hi : i < c.s := by omega
    have e : wordsOf a ++ (c.h :: c.ys).set (i + 1) x ++ wordsOf b = wordsOf (a ++ turn c i x :: b) := by
      rw [words_mid]; rfl
    have hk2 : (kindC c).getD (i + 1) 0 = kd c.p i := by simp [kindC, List.getD, hi]
    rw [e, hk2]
    have okc : (i < c.p → ptrB x = true) → newF (wordsOf (a ++ turn c i x :: b)) = .ok (obsAt 0 (a ++ c :: b)) 0 := by
      intro hp
      have hg2 : Good (a ++ turn c i x :: b) := by
        intro d hd
        rcases List.mem_append.1 hd with h | h
        · exact hga d h
        · rcases List.mem_cons.1 h with rfl | h
          · exact turn_good hc hcg hi hx hp
          · exact hg d (List.mem_append_right _ (List.mem_cons_of_mem _ h))
      have hn2 : ∀ d ∈ a ++ turn c i x :: b, d.g = false := by
        intro d hd
        rcases List.mem_append.1 hd with h | h
        · exact hna d h
        · rcases List.mem_cons.1 h with rfl | h
          · exact hcg
          · exact hn d (List.mem_append_right _ (List.mem_cons_of_mem _ h))
      rw [new_all hg2 hn2, obs_turn _ _ _ _ _ hga]
    by_cases hip : i < c.p
    · have hkd2 : kd c.p i = 2 := if_pos (by omega)
      rcases hpb : ptrB x with _ | _
      · refine .inr (.inr (.inl ⟨hkd2, rfl, ?_⟩))
        have e2 : wordsOf (a ++ turn c i x :: b) = wordsOf a ++ c.h :: (c.ys.set i x ++ wordsOf b) := by rw [words_mid]; simp [turn]
        rw [e2, at_new (b := []) hga hna (lies_pre _ _) (by simp), walkF_step (by simp), head_at, bgN_new hc hcg]
        have e3 : (obOf (wordsOf a).length c).s.toNat = c.s := by simp [obOf]
        simp only [e3]
        have hll : (wordsOf a ++ c.h :: (c.ys.set i x ++ wordsOf b)).length = (wordsOf a).length + (1 + c.s + (wordsOf b).length) := by simp [hc.len]; omega
        rw [if_neg (by omega)]
        have hsl : ¬ slotsB (obOf (wordsOf a).length c) (wordsOf a ++ c.h :: (c.ys.set i x ++ wordsOf b)) c.s = true := by
          rw [slotsB_iff]
          intro q
          have h1 := q i hi
          have e4 : (obOf (wordsOf a).length c).pos.toNat + 1 + i = (wordsOf a).length + (i + 1) := by simp [obOf]; omega
          have e5 : (wordsOf a ++ c.h :: (c.ys.set i x ++ wordsOf b)).getD ((wordsOf a).length + (i + 1)) 0 = x := by
            simp only [List.getD]
            rw [List.getElem?_append_right (by omega), show (wordsOf a).length + (i + 1) - (wordsOf a).length = i + 1 from by omega, List.getElem?_cons_succ, List.getElem?_append_left (by simp [hc.len]; omega)]
            simp [hc.len, hi]
          rw [e4, e5] at h1
          simp only [slotOk, obOf, hcg, hpb] at h1
          simp at h1
          omega
        rw [if_neg hsl]
        exact ⟨_, rfl⟩
      · exact .inr (.inl ⟨hkd2, rfl, okc fun _ => hpb⟩)
    · exact .inl ⟨if_neg (by omega), okc fun h => absurd h hip⟩
/-- Words that are cut within a piece are too short. -/
theorem cut_short {a b : List Pc} {c : Pc} (hga : Good a) (hna : ∀ d ∈ a, d.g = false) (hc : PcGood c) (hcg : c.g = false) {j : Nat} (hj1 : 1 ≤ j) (hj2 : j ≤ c.s) : ∃ t, newF ((wordsOf (a ++ c :: b)).take ((wordsOf a).length + j)) = .err 2 t := by
  obtain ⟨i, rfl⟩ : ∃ i, j = i + 1 := ⟨j - 1, by omega⟩
  have e : (wordsOf (a ++ c :: b)).take ((wordsOf a).length + (i + 1)) = wordsOf a ++ c.h :: c.ys.take i := by
    rw [words_mid, List.append_assoc, List.take_append]
    rw [List.take_of_length_le (by omega), show (wordsOf a).length + (i + 1) - (wordsOf a).length = i + 1 from by omega]
    simp only [List.cons_append, List.take_succ_cons]
    rw [List.take_append_of_le_length (by rw [hc.len]; omega)]
  rw [e, at_new (b := []) hga hna (lies_pre _ _) (by simp), walkF_step (by simp), head_at, bgN_new hc hcg]
  have e3 : (obOf (wordsOf a).length c).s.toNat = c.s := by simp [obOf]
  simp only [e3]
  rw [if_pos (by simp; omega)]
  exact ⟨_, rfl⟩
theorem cut_between (a b : List Pc) : (wordsOf (a ++ b)).take (wordsOf a).length = wordsOf a ∧ (wordsOf (a ++ b)).drop (wordsOf a).length = wordsOf b := by
  rw [wordsOf_app]; simp
end Go.Proofs.Ytiboinckdjiniaa.ob
