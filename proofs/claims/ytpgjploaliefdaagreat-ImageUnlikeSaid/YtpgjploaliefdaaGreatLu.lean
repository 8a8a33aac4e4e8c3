/- Rows of numbers, read and of one's own: append, as a statement and as a step. No conditions. -/
import Derived.Test.YtpgjploaliefdaaGreatLx
import Derived.Test.YtpgjploaliefdaaGreatG06
namespace Go.Proofs.YtpgjploaliefdaaGreat.lx
open Go Go.RowKit gr ob
set_option linter.unusedVariables false
set_option linter.unusedSimpArgs false
theorem enI_len (x : Int) : (enI x).length = 1 := rfl
theorem enU_len (x : Int) : (enU x).length = 1 := rfl
theorem enI_one (x : Int) : ∀ u ∈ enI x, u.oneCell' = true := fun u hu => by
 obtain rfl := List.mem_singleton.1 hu
 rfl
theorem enU_one (x : Int) : ∀ u ∈ enU x, u.oneCell' = true := fun u hu => by
 obtain rfl := List.mem_singleton.1 hu
 rfl
theorem app_u {ops : Array Oper} {rest : List Oper} {o : Oper} {a : Act} {Q : Exit → Act → World → Prop} (w : World) (hw : Region.wanted o (yielded ops a.tmps) = true) (s x : Operand)
  (ho : o.op = .call { callee := .builtin .append, args := #[s, x], argTypes := #[29, 29] })
  (B : Nat) (v u : Value) (xs ys : List Int) (hs : a.eval s = v) (hx : a.eval x = u) (hown : OwnR 24 1 enU w B v xs) (hys : RIn 1 enU w u ys) (hbig : xs.length + ys.length < 100000000000) (hB : B ≤ w.heap.size)
  (h : ∀ v' w', OwnR 24 1 enU w' B v' (xs ++ ys) → w.grownBy w' v.ownBlock → (v'.ownBlock = v.ownBlock ∨ v'.ownBlock = some w.heap.size) → wpList Tryz.prog ops Q rest (a.put o.dst v') w') : wpList Tryz.prog ops Q (o :: rest) a w :=
 app_g (α := Int) (k := 1) (en := enU) w hw s x _ ho enU_len enU_one _ 8 Tryz.underlying29 info_u64 rfl (by decide) (by decide) B v u xs ys hs hx hown hys hbig hB h
theorem step_u {ops : Array Oper} {o : Oper} {a : Act} {Q : Exit → Act → World → Prop} {w : World} {K : Act → World → Prop} {E : Prop} (hg : o.guard = none) (s x : Operand)
  (ho : o.op = .call { callee := .builtin .append, args := #[s, x], argTypes := #[29, 29] })
  (B : Nat) (v u : Value) (xs ys : List Int) (hs : a.eval s = v) (hx : a.eval x = u) (hown : OwnR 24 1 enU w B v xs) (hys : RIn 1 enU w u ys) (hbig : xs.length + ys.length < 100000000000) (hB : B ≤ w.heap.size)
  (h : ∀ v' w', OwnR 24 1 enU w' B v' (xs ++ ys) → w.grownBy w' v.ownBlock → (v'.ownBlock = v.ownBlock ∨ v'.ownBlock = some w.heap.size) → K (a.put o.dst v') w') :
  if Region.wanted o (yielded ops a.tmps) = true then Oper.wp Tryz.prog o a w K Q else E :=
 step_g (α := Int) (k := 1) (en := enU) hg s x _ ho enU_len enU_one _ 8 Tryz.underlying29 info_u64 rfl (by decide) (by decide) B v u xs ys hs hx hown hys hbig hB h
theorem one_u (w : World) (x : Int) {m : Nat} (hm : m = w.heap.size) : RIn 1 enU (w.alloc (.cells #[.int .u64 x] 24)) (.slice (some ⟨m, 0, none⟩) 1 1) [x] := one_g w x _ rfl _ hm
theorem app_i {ops : Array Oper} {rest : List Oper} {o : Oper} {a : Act} {Q : Exit → Act → World → Prop} (w : World) (hw : Region.wanted o (yielded ops a.tmps) = true) (s x : Operand)
  (ho : o.op = .call { callee := .builtin .append, args := #[s, x], argTypes := #[23, 23] })
  (B : Nat) (v u : Value) (xs ys : List Int) (hs : a.eval s = v) (hx : a.eval x = u) (hown : OwnR 3 1 enI w B v xs) (hys : RIn 1 enI w u ys) (hbig : xs.length + ys.length < 100000000000) (hB : B ≤ w.heap.size)
  (h : ∀ v' w', OwnR 3 1 enI w' B v' (xs ++ ys) → w.grownBy w' v.ownBlock → (v'.ownBlock = v.ownBlock ∨ v'.ownBlock = some w.heap.size) → wpList Tryz.prog ops Q rest (a.put o.dst v') w') : wpList Tryz.prog ops Q (o :: rest) a w :=
 app_g (α := Int) (k := 1) (en := enI) w hw s x _ ho enI_len enI_one _ 8 Tryz.underlying23 info_int rfl (by decide) (by decide) B v u xs ys hs hx hown hys hbig hB h
theorem step_i {ops : Array Oper} {o : Oper} {a : Act} {Q : Exit → Act → World → Prop} {w : World} {K : Act → World → Prop} {E : Prop} (hg : o.guard = none) (s x : Operand)
  (ho : o.op = .call { callee := .builtin .append, args := #[s, x], argTypes := #[23, 23] })
  (B : Nat) (v u : Value) (xs ys : List Int) (hs : a.eval s = v) (hx : a.eval x = u) (hown : OwnR 3 1 enI w B v xs) (hys : RIn 1 enI w u ys) (hbig : xs.length + ys.length < 100000000000) (hB : B ≤ w.heap.size)
  (h : ∀ v' w', OwnR 3 1 enI w' B v' (xs ++ ys) → w.grownBy w' v.ownBlock → (v'.ownBlock = v.ownBlock ∨ v'.ownBlock = some w.heap.size) → K (a.put o.dst v') w') :
  if Region.wanted o (yielded ops a.tmps) = true then Oper.wp Tryz.prog o a w K Q else E :=
 step_g (α := Int) (k := 1) (en := enI) hg s x _ ho enI_len enI_one _ 8 Tryz.underlying23 info_int rfl (by decide) (by decide) B v u xs ys hs hx hown hys hbig hB h
theorem one_i (w : World) (x : Int) {m : Nat} (hm : m = w.heap.size) : RIn 1 enI (w.alloc (.cells #[.int .i64 x] 3)) (.slice (some ⟨m, 0, none⟩) 1 1) [x] := one_g w x _ rfl _ hm
theorem nums_of {W : World} {v : Value} {zs : List Int} (h : RIn 1 enU W v zs) (h0 : 0 < W.heap.size) (hl : zs.length < 1000000000000) : NumsIn W v zs := by
 obtain ⟨ad, b, off, cap, rfl, h1, h2, h3, h4, h5, h6⟩ := h.form
 rcases Nat.eq_zero_or_pos zs.length with hz | hz
 ·have : zs = [] := List.eq_nil_of_length_eq_zero hz
  subst this
  exact ⟨ad, 0, 0, cap, rfl, ⟨fun h => by simp at h, h2⟩, Nat.zero_le _, ⟨h4, hl⟩, h0, WordsAt.none _ _ _ _⟩
 ·have := h1 hz
  subst this
  refine ⟨_, b, off, cap, rfl, ⟨fun _ => rfl, h2⟩, h3, ⟨h4, hl⟩, h5 hz, words_of fun i hi => ?_⟩
  have h7 := h6.at (i := i) (x := zs[i]) (List.getElem?_eq_getElem hi) 0 (.int .u64 zs[i]) rfl
  rw [show b = b from rfl] at h7
  simpa [List.getD, hi] using h7
theorem of_nums {W : World} {v : Value} {zs : List Int} (h : NumsIn W v zs) : RIn 1 enU W v zs := by
 obtain ⟨ad, b, off, cap, rfl, ⟨h1, h2⟩, h3, ⟨h4, h4'⟩, h5, h6⟩ := h
 refine RIn.mk (ad := ad) (b := b) (off := off) (cap := cap) rfl h1 h2 h3 h4 (fun _ => h5) fun i j x y hx hy => ?_
 have hi : i < zs.length := by
  rcases Nat.lt_or_ge i zs.length with h | h
  ·exact h
  ·rw [List.getElem?_eq_none h] at hx; cases hx
 have hj : j = 0 := by
  rcases j with _ | j
  ·rfl
  ·simp [enU] at hy
 subst hj
 have hy : Value.int .u64 x = y := by simpa [enU] using hy
 rw [Nat.mul_one, Nat.add_zero, h6.at i hi, ← hy]
 rw [List.getElem?_eq_getElem hi] at hx
 cases hx
 simp [List.getD, hi]
end Go.Proofs.YtpgjploaliefdaaGreat.lx
