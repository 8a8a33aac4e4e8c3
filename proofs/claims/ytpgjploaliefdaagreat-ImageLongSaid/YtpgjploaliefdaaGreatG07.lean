/- Arguments of a law, opened. No conditions. -/
import Derived.Test.YtpgjploaliefdaaGreatGr
import Derived.WalkKit
import Derived.ProofKit
import Derived.OpenShut
import Derived.Lib.SmallJoins
import Derived.Deep.Slices
import Derived.Test.YtpgjploaliefdaaGreatSb
namespace Go.Proofs.YtpgjploaliefdaaGreat.lx
open Go.ChangeShapes Go.WideShapes Go.ChangeAt Go.RowKit Go.Joins Go.Proofs.YtpgjploaliefdaaGreat.gr
set_option linter.unusedVariables false
set_option linter.unusedSimpArgs false
theorem spot_of {w : World} {a : Addr} {v : Value} (h : w.cell? a = some v) : a = ⟨a.block, a.off, none⟩ := by
  obtain ⟨b, o, s⟩ := a
  cases s with
  | none => rfl
  | some s => unfold World.cell? at h; dsimp only at h; split at h <;> simp at h
theorem choose_l {α : Type} {n : Nat} {p : Nat → α → Prop} (h : ∀ i, i < n → ∃ x, p i x) : ∃ l : List α, l.length = n ∧ ∀ i x, l[i]? = some x → p i x := by
  induction n with
  | zero => exact ⟨[], rfl, fun i x hx => by simp at hx⟩
  | succ n ih =>
    obtain ⟨l, hl, hp⟩ := ih (fun i hi => h i (by omega))
    obtain ⟨x, hx⟩ := h n (by omega)
    refine ⟨l ++ [x], by simp [hl], fun i y hy => ?_⟩
    by_cases e : i < n
    · rw [List.getElem?_append_left (by omega)] at hy
      exact hp i y hy
    · rw [List.getElem?_append_right (by omega)] at hy
      by_cases e2 : i = n
      · subst e2
        rw [hl, Nat.sub_self] at hy
        simp at hy
        rw [← hy]
        exact hx
      · rw [List.getElem?_eq_none (by simp; omega)] at hy
        cases hy
section
variable {H : Type} {enc : TypeId × Value → H} {w : World} {base : Nat} {spare : Nat → Bool} {held : Bool} {P : Program}
theorem rin_arg {α : Type} {k : Nat} {en : α → List Value} {ok : α → Prop} {T E : TypeId} {r : Reach} {b0 : Nat} {v : Value} {d : DataW H} {p : List MemPlace} (hT : P.underlying T = some (.slice E)) (hC : P.cellsOf E = k) (hk0 : 0 < k)
    (hrd : ∀ (n : Nat) (cs : List Value) (y : DataW H × List MemPlace), DataW.trod enc P w base spare held n E cs = some y → ∃ x : α, cs = en x ∧ (en x).length = k ∧ ok x)
    (hv : Value.okWide P w r b0 T v) (h : DataW.Trod enc P w base spare held T v d p) : ∃ l : List α, RIn k en w v l ∧ ∀ x ∈ l, ok x := by
  obtain ⟨ad, len, cap, rfl⟩ := okWide_slice hT hv
  obtain ⟨fuel, hf⟩ := h
  rcases Go.Deep.open_slice hT hf with ⟨hcs, _⟩ | ⟨a, len', cap', m, n, D, Pl, hcs, _, hl, hm, hmm, _, hx⟩
  · simp [Value.cells] at hcs
    obtain ⟨rfl, rfl, rfl⟩ := hcs
    exact ⟨[], RIn.nil, fun x hx => by simp at hx⟩
  · simp [Value.cells] at hcs
    obtain ⟨rfl, rfl, rfl⟩ := hcs
    have hml : len ≤ m := by rw [hmm]; split <;> omega
    have key : ∀ i, i < len → ∃ x : α, (∀ j y, (en x)[j]? = some y → w.cell? ((a.add (i * k)).add j) = some y) ∧ (en x).length = k ∧ ok x := by
      intro i hi
      obtain ⟨cs', h1, h2⟩ := hx i (by omega)
      rw [hC] at h1
      obtain ⟨_, hz, hcell⟩ := World.cells?_some h1
      obtain ⟨x, rfl, hlk, hok⟩ := hrd _ _ _ h2
      refine ⟨x, fun j y hy => ?_, hlk, hok⟩
      have hj : j < (en x).length := by
        rcases Nat.lt_or_ge j (en x).length with h | h
        · exact h
        · rw [List.getElem?_eq_none h] at hy; cases hy
      rw [hcell j (by omega), hy]
    obtain ⟨l, hll, hp⟩ := choose_l key
    refine ⟨l, ?_, fun x hx => ?_⟩
    · have hspot : 0 < len → a = ⟨a.block, a.off, none⟩ ∧ a.block < w.heap.size := fun h0 => by
        have hx0 : l[0]? = some l[0] := List.getElem?_eq_getElem (by omega)
        obtain ⟨h1, h2, _⟩ := hp 0 _ hx0
        have hlt : 0 < (en l[0]).length := by omega
        have h3 := h1 0 _ (List.getElem?_eq_getElem hlt)
        rw [Nat.zero_mul] at h3
        have e0 : (a.add 0).add 0 = a := by unfold Addr.add; simp
        rw [e0] at h3
        exact ⟨spot_of h3, World.block_lt_of_cell? _ _ h3⟩
      refine RIn.mk (ad := some a) (b := a.block) (off := a.off) (cap := cap) (by rw [hll]) (fun h0 => by rw [← (hspot (by omega)).1]) (fun e => by cases e) (by omega) (by unfold maxLen at hm; omega) (fun h0 => (hspot (by omega)).2) (fun i j x y hx hy => ?_)
      have hi : i < len := by
        rcases Nat.lt_or_ge i l.length with h | h
        · omega
        · rw [List.getElem?_eq_none h] at hx; cases hx
      have h1 := (hp i x hx).1 j y hy
      have hs := (hspot (by omega)).1
      have e : (a.add (i * k)).add j = ⟨a.block, a.off + i * k + j, none⟩ := by
        obtain ⟨b, o, s⟩ := a
        have hs2 : s = none := by simpa using hs
        subst hs2
        unfold Addr.add
        by_cases h1 : i * k = 0 <;> by_cases h2 : j = 0 <;> simp [h1, h2]
      rw [← e]
      exact h1
    · obtain ⟨i, hi, rfl⟩ := List.getElem_of_mem hx
      exact (hp i _ (List.getElem?_eq_getElem hi)).2.2
def enI (n : Int) : List Value := [.int .i64 n]
def enU (n : Int) : List Value := [.int .u64 n]
def enS (s : ByteArray) : List Value := [.string s]
theorem int_cells {k : IntKind} {E : TypeId} (hE : P.underlying E = some (.int k)) {n : Nat} {cs : List Value} {y : DataW H × List MemPlace} (h : DataW.trod enc P w base spare held n E cs = some y) : ∃ x : Int, cs = [.int k x] ∧ (Lit.int k x).wf = true := by
  obtain ⟨a0, e0, _, w0⟩ := DataW.trod_int hE h
  exact ⟨a0, e0, w0⟩
theorem str_cells {E : TypeId} (hE : P.underlying E = some .string) {n : Nat} {cs : List Value} {y : DataW H × List MemPlace} (h : DataW.trod enc P w base spare held n E cs = some y) : ∃ s : ByteArray, cs = [.string s] ∧ s.size ≤ maxLen := by
  obtain ⟨a0, e0, _, w0⟩ := DataW.trod_string hE h
  exact ⟨a0, e0, w0⟩
theorem ints_arg {r : Reach} {b0 : Nat} {v : Value} {d : DataW H} {p : List MemPlace} {T E : TypeId} (hT : P.underlying T = some (.slice E)) (hE : P.underlying E = some (.int .i64)) (hC : P.cellsOf E = 1) (hv : Value.okWide P w r b0 T v) (h : DataW.Trod enc P w base spare held T v d p) :
    ∃ l : List Int, RIn 1 enI w v l ∧ ∀ x ∈ l, -9223372036854775808 ≤ x ∧ x < 9223372036854775808 :=
  rin_arg hT hC (by omega) (fun n cs y h => by
    obtain ⟨x, rfl, hw⟩ := int_cells hE h
    exact ⟨x, rfl, rfl, wfb_i64 hw⟩) hv h
theorem nums_arg {r : Reach} {b0 : Nat} {v : Value} {d : DataW H} {p : List MemPlace} {T E : TypeId} (hT : P.underlying T = some (.slice E)) (hE : P.underlying E = some (.int .u64)) (hC : P.cellsOf E = 1) (hv : Value.okWide P w r b0 T v) (h : DataW.Trod enc P w base spare held T v d p) :
    ∃ l : List Int, RIn 1 enU w v l ∧ ∀ x ∈ l, 0 ≤ x ∧ x < 18446744073709551616 :=
  rin_arg hT hC (by omega) (fun n cs y h => by
    obtain ⟨x, rfl, hw⟩ := int_cells hE h
    exact ⟨x, rfl, rfl, wfb_u64 hw⟩) hv h
theorem strs_arg {r : Reach} {b0 : Nat} {v : Value} {d : DataW H} {p : List MemPlace} {T E : TypeId} (hT : P.underlying T = some (.slice E)) (hE : P.underlying E = some .string) (hC : P.cellsOf E = 1) (hv : Value.okWide P w r b0 T v) (h : DataW.Trod enc P w base spare held T v d p) :
    ∃ l : List ByteArray, RIn 1 enS w v l ∧ ∀ x ∈ l, x.size ≤ maxLen :=
  rin_arg hT hC (by omega) (fun n cs y h => by
    obtain ⟨x, rfl, hw⟩ := str_cells hE h
    exact ⟨x, rfl, rfl, hw⟩) hv h
end
end Go.Proofs.YtpgjploaliefdaaGreat.lx

namespace Go.Proofs.YtpgjploaliefdaaGreat.lx
open Go Go.RowKit Go.Proofs.YtpgjploaliefdaaGreat.gr Go.Proofs.YtpgjploaliefdaaGreat.ob
set_option linter.unusedVariables false
set_option linter.unusedSimpArgs false
theorem enI_len (x : Int) : (enI x).length = 1 := rfl
theorem enU_len (x : Int) : (enU x).length = 1 := rfl
theorem enI_one (x : Int) : ∀ u ∈ enI x, u.oneCell' = true := fun u hu => by
  obtain rfl := List.mem_singleton.1 hu
  rfl
theorem enU_one (x : Int) : ∀ u ∈ enU x, u.oneCell' = true := fun u hu => by
  obtain rfl := List.mem_singleton.1 hu
  rfl
theorem app_u {ops : Array Oper} {rest : List Oper} {o : Oper} {a : Act} {Q : Exit → Act → World → Prop} (w : World) (hw : Region.wanted o (yielded ops a.tmps) = true) (s x : Operand)
    (ho : o.op = .call { callee := .builtin .append, args := #[s, x], argTypes := #[29, 29] })
    (B : Nat) (v u : Value) (xs ys : List Int) (hs : a.eval s = v) (hx : a.eval x = u) (hown : OwnR 24 1 enU w B v xs) (hys : RIn 1 enU w u ys) (hbig : xs.length + ys.length < 100000000000) (hB : B ≤ w.heap.size)
    (h : ∀ v' w', OwnR 24 1 enU w' B v' (xs ++ ys) → w.grownBy w' v.ownBlock → (v'.ownBlock = v.ownBlock ∨ v'.ownBlock = some w.heap.size) → wpList Tryz.prog ops Q rest (a.put o.dst v') w') : wpList Tryz.prog ops Q (o :: rest) a w :=
  app_g (α := Int) (k := 1) (en := enU) w hw s x _ ho enU_len enU_one _ 8 Tryz.underlying29 info_u64 rfl (by decide) (by decide) B v u xs ys hs hx hown hys hbig hB h
theorem step_u {ops : Array Oper} {o : Oper} {a : Act} {Q : Exit → Act → World → Prop} {w : World} {K : Act → World → Prop} {E : Prop} (hg : o.guard = none) (s x : Operand)
    (ho : o.op = .call { callee := .builtin .append, args := #[s, x], argTypes := #[29, 29] })
    (B : Nat) (v u : Value) (xs ys : List Int) (hs : a.eval s = v) (hx : a.eval x = u) (hown : OwnR 24 1 enU w B v xs) (hys : RIn 1 enU w u ys) (hbig : xs.length + ys.length < 100000000000) (hB : B ≤ w.heap.size)
    (h : ∀ v' w', OwnR 24 1 enU w' B v' (xs ++ ys) → w.grownBy w' v.ownBlock → (v'.ownBlock = v.ownBlock ∨ v'.ownBlock = some w.heap.size) → K (a.put o.dst v') w') :
    if Region.wanted o (yielded ops a.tmps) = true then Oper.wp Tryz.prog o a w K Q else E :=
  step_g (α := Int) (k := 1) (en := enU) hg s x _ ho enU_len enU_one _ 8 Tryz.underlying29 info_u64 rfl (by decide) (by decide) B v u xs ys hs hx hown hys hbig hB h
theorem one_u (w : World) (x : Int) {m : Nat} (hm : m = w.heap.size) : RIn 1 enU (w.alloc (.cells #[.int .u64 x] 24)) (.slice (some ⟨m, 0, none⟩) 1 1) [x] := one_g w x _ rfl _ hm
theorem app_i {ops : Array Oper} {rest : List Oper} {o : Oper} {a : Act} {Q : Exit → Act → World → Prop} (w : World) (hw : Region.wanted o (yielded ops a.tmps) = true) (s x : Operand)
    (ho : o.op = .call { callee := .builtin .append, args := #[s, x], argTypes := #[23, 23] })
    (B : Nat) (v u : Value) (xs ys : List Int) (hs : a.eval s = v) (hx : a.eval x = u) (hown : OwnR 3 1 enI w B v xs) (hys : RIn 1 enI w u ys) (hbig : xs.length + ys.length < 100000000000) (hB : B ≤ w.heap.size)
    (h : ∀ v' w', OwnR 3 1 enI w' B v' (xs ++ ys) → w.grownBy w' v.ownBlock → (v'.ownBlock = v.ownBlock ∨ v'.ownBlock = some w.heap.size) → wpList Tryz.prog ops Q rest (a.put o.dst v') w') : wpList Tryz.prog ops Q (o :: rest) a w :=
  app_g (α := Int) (k := 1) (en := enI) w hw s x _ ho enI_len enI_one _ 8 Tryz.underlying23 info_int rfl (by decide) (by decide) B v u xs ys hs hx hown hys hbig hB h
theorem step_i {ops : Array Oper} {o : Oper} {a : Act} {Q : Exit → Act → World → Prop} {w : World} {K : Act → World → Prop} {E : Prop} (hg : o.guard = none) (s x : Operand)
    (ho : o.op = .call { callee := .builtin .append, args := #[s, x], argTypes := #[23, 23] })
    (B : Nat) (v u : Value) (xs ys : List Int) (hs : a.eval s = v) (hx : a.eval x = u) (hown : OwnR 3 1 enI w B v xs) (hys : RIn 1 enI w u ys) (hbig : xs.length + ys.length < 100000000000) (hB : B ≤ w.heap.size)
    (h : ∀ v' w', OwnR 3 1 enI w' B v' (xs ++ ys) → w.grownBy w' v.ownBlock → (v'.ownBlock = v.ownBlock ∨ v'.ownBlock = some w.heap.size) → K (a.put o.dst v') w') :
    if Region.wanted o (yielded ops a.tmps) = true then Oper.wp Tryz.prog o a w K Q else E :=
  step_g (α := Int) (k := 1) (en := enI) hg s x _ ho enI_len enI_one _ 8 Tryz.underlying23 info_int rfl (by decide) (by decide) B v u xs ys hs hx hown hys hbig hB h
theorem one_i (w : World) (x : Int) {m : Nat} (hm : m = w.heap.size) : RIn 1 enI (w.alloc (.cells #[.int .i64 x] 3)) (.slice (some ⟨m, 0, none⟩) 1 1) [x] := one_g w x _ rfl _ hm
/-- Numbers that read so. -/
theorem nums_of {W : World} {v : Value} {zs : List Int} (h : RIn 1 enU W v zs) (h0 : 0 < W.heap.size) (hl : zs.length < 1000000000000) : NumsIn W v zs := by
  obtain ⟨ad, b, off, cap, rfl, h1, h2, h3, h4, h5, h6⟩ := h.form
  rcases Nat.eq_zero_or_pos zs.length with hz | hz
  · have : zs = [] := List.eq_nil_of_length_eq_zero hz
    subst this
    exact ⟨ad, 0, 0, cap, rfl, ⟨fun h => by simp at h, h2⟩, Nat.zero_le _, ⟨h4, hl⟩, h0, WordsAt.none _ _ _ _⟩
  · have := h1 hz
    subst this
    refine ⟨_, b, off, cap, rfl, ⟨fun _ => rfl, h2⟩, h3, ⟨h4, hl⟩, h5 hz, words_of fun i hi => ?_⟩
    have h7 := h6.at (i := i) (x := zs[i]) (List.getElem?_eq_getElem hi) 0 (.int .u64 zs[i]) rfl
    rw [show b = b from rfl] at h7
    simpa [List.getD, hi] using h7
theorem of_nums {W : World} {v : Value} {zs : List Int} (h : NumsIn W v zs) : RIn 1 enU W v zs := by
  obtain ⟨ad, b, off, cap, rfl, ⟨h1, h2⟩, h3, ⟨h4, h4'⟩, h5, h6⟩ := h
  refine RIn.mk (ad := ad) (b := b) (off := off) (cap := cap) rfl h1 h2 h3 h4 (fun _ => h5) fun i j x y hx hy => ?_
  have hi : i < zs.length := by
    rcases Nat.lt_or_ge i zs.length with h | h
    · exact h
    · rw [List.getElem?_eq_none h] at hx; cases hx
  have hj : j = 0 := by
    rcases j with _ | j
    · rfl
    · simp [enU] at hy
  subst hj
  have hy : Value.int .u64 x = y := by simpa [enU] using hy
  rw [Nat.mul_one, Nat.add_zero, h6.at i hi, ← hy]
  rw [List.getElem?_eq_getElem hi] at hx
  cases hx
  simp [List.getD, hi]
end Go.Proofs.YtpgjploaliefdaaGreat.lx
