/- Counting kinds; small contracts. No conditions. -/
import Derived.Test.YtiboinckdjiniaaSx
namespace Go.Proofs.Ytiboinckdjiniaa.ob
open Go.RowKit Go.Proofs.Ytiboinckdjiniaa.hd
set_option linter.unusedVariables false
set_option linter.unusedSimpArgs false
def cnt (κ : Int) (l : List Int) : Nat := (l.filter fun x => decide (x = κ)).length
theorem cnt_app (κ : Int) (a b : List Int) : cnt κ (a ++ b) = cnt κ a + cnt κ b := by simp [cnt]
theorem cnt_take (κ : Int) (l : List Int) (q : Nat) (hq : q < l.length) : cnt κ (l.take (q + 1)) = cnt κ (l.take q) + if l.getD q 0 = κ then 1 else 0 := by
  rw [List.take_add_one, cnt_app]
  simp only [List.getElem?_eq_getElem hq, Option.toList_some, List.getD, Option.getD_some]
  congr 1
  unfold cnt
  split <;> simp_all
theorem cnt_kd2 (p s : Nat) : cnt 2 ((List.range s).map (kd p)) = min s p := by
  induction s with
  | zero => simp [cnt]
  | succ s ih =>
    rw [List.range_succ, List.map_append, cnt_app, ih]
    by_cases h : s < p
    · have : kd (p : Int) s = 2 := if_pos (by omega)
      simp [cnt, this]; omega
    · have : kd (p : Int) s = 3 := if_neg (by omega)
      simp [cnt, this]; omega
theorem cnt_kd1 (p : Int) (s : Nat) : cnt 1 ((List.range s).map (kd p)) = 0 := by
  induction s with
  | zero => simp [cnt]
  | succ s ih =>
    rw [List.range_succ, List.map_append, cnt_app, ih]
    have : kd p s = 2 ∨ kd p s = 3 := by unfold kd; split <;> simp
    rcases this with h | h <;> simp [cnt, h]
def sumP : List Pc → Nat
  | [] => 0
  | c :: l => c.p + sumP l
theorem sumP_app (a b : List Pc) : sumP (a ++ b) = sumP a + sumP b := by
  induction a with
  | nil => simp [sumP]
  | cons c a ih => simp [sumP, ih]; omega
theorem cnt_heads {l : List Pc} : cnt 1 (kindsOf l) = l.length := by
  induction l with
  | nil => rfl
  | cons c l ih =>
    rw [kindsOf_cons, cnt_app, ih]
    have : cnt 1 (kindC c) = 1 := by
      unfold kindC
      rw [show (1 : Int) :: (List.range c.s).map (kd c.p) = [1] ++ (List.range c.s).map (kd c.p) from rfl, cnt_app, cnt_kd1]
      rfl
    rw [this]; simp; omega
theorem cnt_ptrs {l : List Pc} (h : Good l) : cnt 2 (kindsOf l) = sumP l := by
  induction l with
  | nil => rfl
  | cons c l ih =>
    rw [kindsOf_cons, cnt_app, ih fun d hd => h d (List.mem_cons_of_mem _ hd)]
    have : cnt 2 (kindC c) = c.p := by
      unfold kindC
      rw [show (1 : Int) :: (List.range c.s).map (kd c.p) = [1] ++ (List.range c.s).map (kd c.p) from rfl, cnt_app, cnt_kd2]
      have := (h c List.mem_cons_self).ps
      simp [cnt]; omega
    rw [this]; rfl
theorem sumP_take (l : List Pc) (q : Nat) (hq : q < l.length) : sumP (l.take (q + 1)) = sumP (l.take q) + (pcD l q).p := by
  rw [List.take_add_one, sumP_app]
  simp [List.getElem?_eq_getElem hq, pcD, List.getD, sumP]
theorem sumP_le {l : List Pc} (h : Good l) : sumP l ≤ 6 * l.length := by
  induction l with
  | nil => simp [sumP]
  | cons c l ih =>
    have := ih fun d hd => h d (List.mem_cons_of_mem _ hd)
    have h1 := (h c List.mem_cons_self).ps
    have h2 := (h c List.mem_cons_self).s6
    simp [sumP]; omega
theorem cnt_le (κ : Int) (l : List Int) : cnt κ l ≤ l.length := List.length_filter_le _ _
theorem obs_p (l : List Pc) (hg : Good l) (i : Nat) (hi : i < l.length) : (obD (obsAt 0 l) i).p = ((pcD l i).p : Int) := by
  rw [obs_take l hg i hi]; rfl
theorem no_shapes {l : List Pc} (h : ∀ c ∈ l, c.g = false) : shapesOf l = [] := by
  induction l with
  | nil => rfl
  | cons c l ih =>
    have := h c List.mem_cons_self
    have h2 := ih fun d hd => h d (List.mem_cons_of_mem _ hd)
    unfold shapesOf at h2 ⊢
    simp [this, h2]
theorem obs_snoc (l : List Pc) (c : Pc) (hg : Good l) : obsAt 0 (l ++ [c]) = obsAt 0 l ++ [obOf (wordsOf l).length c] := by
  rw [obsAt_app _ _ hg]; simp [obsAt]
theorem shape_any2 (sz pt : Int) (sl : Value) (g : Bool) (w : World) (hsl : sl.oneCell' = true) (h1 : i64In sz) (h2 : i64In pt) {S p : Nat} (e1 : pickI sz 7 = (S : Int)) (e2 : pickI pt ((S : Int) + 1) = (p : Int)) :
    Calls Try.prog 23 #[.agg #[.int .i64 sz, .int .i64 pt, sl, .bool g]] w fun e w' => e = .returned (.agg #[.int .i64 (S : Int), .int .i64 (p : Int)]) ∧ Below w.heap.size w w' := by
  refine (shape_any sz pt sl g w hsl h1 h2).mono ?_
  rintro e w' ⟨rfl, hb⟩
  rw [e1, e2]
  exact ⟨rfl, hb⟩
theorem lay_any2 (S p : Nat) (u : Value) (ys : List Int) (w : World) (hu : NumsIn w u ys) (hso : SlotsOf S p ys) (hS : S ≤ 6) (hp : p ≤ S) :
    Calls Try.prog 20 #[.agg #[.int .i64 (S : Int), .int .i64 (p : Int)], u] w fun e w' => (∃ va vc, e = .returned (.tuple #[.slice va (S + 1) vc, .int .i64 0]) ∧ OwnNums w' w.heap.size (.slice va (S + 1) vc) (packV S p :: ys)) ∧ Below w.heap.size w w' := by
  refine (lay_any S p u ys w hu hso.small (by omega) (by omega)).mono ?_
  rintro e w' ⟨h, hb⟩
  obtain ⟨v, rfl, ho⟩ := lay_ok h (by omega) hp hso.len hso.ptrs
  obtain ⟨va, l, vc, rfl, hl⟩ := ho.form
  have : l = S + 1 := by rw [hl]; simp [hso.len]
  subst this
  exact ⟨⟨va, vc, rfl, ho⟩, hb⟩
theorem obs_lt {W : World} {B : Nat} {v : Value} {zs : List Ob} (h : ObsAt W B v zs) {N : Nat} (hN : W.heap.size ≤ N) : ∀ k, v.ownBlock = some k → k < N := fun k hk => by have := World.ownsRow.lt h k hk; omega
theorem obs_row {W w : World} {B : Nat} {v : Value} {zs : List Ob} {r : Option Nat} (h : ObsAt W B v zs) (hg : W.grownBy w r) (hr : v.ownBlock = none ∨ v.ownBlock ≠ r) : ObsAt w B v zs := World.ownsRow.kept h hg hr
end Go.Proofs.Ytiboinckdjiniaa.ob
