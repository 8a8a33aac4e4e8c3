/- Part 33 of what the proofs stand on: lemmas on worlds, on goroutines, contracts of functions. No conditions. -/
import Derived.Test.YtgfgoflhmikalaaM32
import Derived.Maps.AppendAt
import Derived.Laws.AppendOwn
import Derived.Laws.OwnMore
namespace Go.Proofs.Ytgfgoflhmikalaa.gr
open Go.RowKit
set_option linter.unusedVariables false
set_option linter.unusedSimpArgs false
theorem append_g {P : Program} {ops : Array Oper} {rest : List Oper} {o : Oper} {a : Act} {Q : Exit → Act → World → Prop} (w : World) (hw : Region.wanted o (yielded ops a.tmps) = true) (s x : Operand) (t : TypeId)
    (ho : o.op = .call { callee := .builtin .append, args := #[s, x], argTypes := #[t, t] })
    (base : Nat) (e : TypeId) (i : TypeInfo) (z : Value) (size bytes : Nat) (ht : P.underlying t = some (.slice e)) (hi : P.info? e = some i) (hz : i.zero = some z)
    (hsize : i.size = size) (hby : i.bytes = bytes) (hzs : z.cells.size = size) (hsz : 0 < size)
    (v : Value) (n : Nat) (xs : List Value) (hs : a.eval s = v) (hown : w.ownsRow base e size v n xs)
    (u : Value) (m : Nat) (news : List Value) (hx : a.eval x = u) (hsrc : (u = .slice none 0 0 ∧ m = 0 ∧ news = []) ∨ ∃ ad c, u = .slice (some ad) m c ∧ ∀ j y, news[j]? = some y → w.cell? (ad.add j) = some y)
    (hl : news.length = m * size) (h1 : ∀ u ∈ news, u.oneCell' = true)
    (h63 : n + m ≤ maxLen) (hbytes : (n + m) * bytes ≤ 140737488355328) (hbase : base ≤ w.heap.size)
    (h : ∀ v' w', w'.ownsRow base e size v' (n + m) (xs ++ news) → w.grownBy w' v.ownBlock → (v'.ownBlock = v.ownBlock ∨ v'.ownBlock = some w.heap.size) → wpList P ops Q rest (a.put o.dst v') w') : wpList P ops Q (o :: rest) a w := by
  refine wpList_step fun K hK => ?_
  rw [if_pos hw]
  rcases hsrc with ⟨rfl, rfl, rfl⟩ | ⟨ad, c, rfl, hnews⟩
  · have hr := run_append_owned_none (P := P) (w := w) base t o.type e i size ht hi v n xs hown
    unfold Oper.wp execOp
    simp only [ho, resolve, invoke, builtin, Sem.run_bind, Sem.run_pure, Result.andThen_ok, List.map_toArray, List.map_cons, List.map_nil, hs, hx, hr]
    exact hK _ _ (h v w (by simpa using hown) ⟨rfl, rfl, rfl, Nat.le_refl _, fun _ _ _ => rfl⟩ (.inl rfl))
  · obtain ⟨v', w', hr, h2, h3, h4, h5⟩ := run_append_own_at (P := P) w base t o.type e i z size bytes ht hi hz hsize hby hzs hsz v n xs hown ad m c news hl hnews h1 h63 hbytes hbase
    unfold Oper.wp execOp
    simp only [ho, resolve, invoke, builtin, Sem.run_bind, Sem.run_pure, Result.andThen_ok, List.map_toArray, List.map_cons, List.map_nil, hs, hx, hr]
    exact hK _ _ (h v' w' h2 h3 h5)
theorem below_gr {A B : World} (h : Below A.heap.size A B) (row : Option Nat) : A.grownBy B row := ⟨h.os, h.tape, h.output, h.size, fun k hk _ => h.block k hk⟩
/-- Worlds that differ above C alone, or in a block of one's own. -/
theorem gr_below {C : Nat} {w w' : World} {v : Value} {W : World} (hg : w.grownBy w' v.ownBlock) (hb : Below C W w) (hC : C ≤ W.heap.size) (ho : ∀ k, v.ownBlock = some k → C ≤ k) : Below C W w' :=
  ⟨hg.os.trans hb.os, hg.tape.trans hb.tape, hg.output.trans hb.output, Nat.le_trans hb.size hg.size, fun j hj => (hg.block j (by have := hb.size; omega) (fun e => by have := ho _ e.symm; omega)).trans (hb.block j hj)⟩
theorem b_alloc {C : Nat} {W w : World} (h : Below C W w) (hC : C ≤ W.heap.size) (o : Obj) : Below C W (w.alloc o) :=
  ⟨h.os, h.tape, h.output, by have := h.size; show _ ≤ (w.heap.push _).size; simp; omega, fun j hj => (Below.heap_alloc w o j (by have := h.size; omega)).trans (h.block j hj)⟩
/-- A block that is not the row's own is as it was. -/
theorem gr_blk {w w' : World} {v : Value} (hg : w.grownBy w' v.ownBlock) {n : Nat} {cs : Array Value} {T : TypeId} (h : Blk w n cs T) (hn : ∀ k, v.ownBlock = some k → k ≠ n) : Blk w' n cs T :=
  Blk.of ((hg.block n h.lt (fun e => hn _ e.symm rfl)).trans h.raw)
section
variable {α : Type}
/-- A slice that reads so; each thing takes k cells. -/
def RIn (k : Nat) (en : α → List Value) (W : World) (v : Value) (zs : List α) : Prop :=
  ∃ (ad : Option Addr) (b off cap : Nat), v = .slice ad zs.length cap ∧ ((0 < zs.length → ad = some ⟨b, off, none⟩) ∧ (ad = none → cap = 0)) ∧ zs.length ≤ cap ∧ cap < 9223372036854775808 ∧ (0 < zs.length → b < W.heap.size) ∧
    ∀ (i j : Nat) (x : α) (y : Value), zs[i]? = some x → (en x)[j]? = some y → W.cell? ⟨b, off + i * k + j, none⟩ = some y
variable {k : Nat} {en : α → List Value}
theorem RIn.tr {W w : World} {v : Value} {zs : List α} (h : RIn k en W v zs) (hb : Below W.heap.size W w) : RIn k en w v zs := by
  obtain ⟨ad, b, off, cap, e, h1, h2, h3, h4, h5⟩ := h
  exact ⟨ad, b, off, cap, e, h1, h2, h3, fun h => Nat.lt_of_lt_of_le (h4 h) hb.size, fun i j x y hx hy => cell_tr hb (h5 i j x y hx hy)⟩
theorem RIn.nil {W : World} : RIn k en W (.slice none 0 0) [] := ⟨none, 0, 0, 0, rfl, ⟨fun h => by simp at h, fun _ => rfl⟩, Nat.le_refl _, by decide, fun h => by simp at h, fun i j x y hx => by simp at hx⟩
theorem RIn.alloc {W : World} {v : Value} {zs : List α} (h : RIn k en W v zs) (o : Obj) : RIn k en (W.alloc o) v zs := h.tr ((Below.refl _ _).alloc (Nat.le_refl _) _)
theorem RIn.drew {W : World} {v : Value} {zs : List α} (h : RIn k en W v zs) : RIn k en W.drew v zs := h.tr (Below.refl _ _).drew
theorem zero_add_eq (z i k j : Nat) (h : z = 0) : z + i * k + j = i * k + j := by omega
theorem flat_get {hk : ∀ x : α, (en x).length = k} : ∀ (zs : List α) (i j : Nat) (x : α) (y : Value), zs[i]? = some x → (en x)[j]? = some y → (zs.flatMap en)[i * k + j]? = some y
  | [], i, j, x, y, h, _ => by simp at h
  | z :: zs, 0, j, x, y, h, h2 => by
    simp at h
    subst h
    have hj : j < (en z).length := by
      rcases Nat.lt_or_ge j (en z).length with h | h
      · exact h
      · simp [h] at h2
    rw [List.flatMap_cons, Nat.zero_mul, Nat.zero_add, List.getElem?_append_left hj, h2]
  | z :: zs, i + 1, j, x, y, h, h2 => by
    have := flat_get (hk := hk) zs i j x y (by simpa using h) h2
    rw [List.flatMap_cons, List.getElem?_append_right (by rw [hk, Nat.succ_mul]; omega), hk]
    rw [show (i + 1) * k + j - k = i * k + j from by rw [Nat.succ_mul]; omega]
    exact this
theorem flat_len {hk : ∀ x : α, (en x).length = k} (zs : List α) : (zs.flatMap en).length = zs.length * k := by
  induction zs with
  | nil => simp
  | cons z zs ih => rw [List.flatMap_cons, List.length_append, ih, hk, List.length_cons, Nat.succ_mul, Nat.add_comm]
/-- A slice of one's own. -/
def OwnR (T : TypeId) (k : Nat) (en : α → List Value) (W : World) (B : Nat) (v : Value) (zs : List α) : Prop := W.ownsRow B T k v zs.length (zs.flatMap en)
variable {T : TypeId}
theorem OwnR.nil (W : World) (B : Nat) : OwnR T k en W B (.slice none 0 0) [] := World.ownsRow_nil _ _ _ _
theorem OwnR.tr {W w : World} {B : Nat} {v : Value} {zs : List α} (h : OwnR T k en W B v zs) (hb : Below W.heap.size W w) : OwnR T k en w B v zs := by
  refine World.ownsRow.kept h (below_gr hb none) ?_
  rcases hv : v.ownBlock with _ | k
  · exact .inl rfl
  · exact .inr (fun e => by cases e)
theorem OwnR.lift {W : World} {B C : Nat} {v : Value} {zs : List α} (h : OwnR T k en W B v zs) (hb : C ≤ B) : OwnR T k en W C v zs := by
  refine ⟨h.1, ?_⟩
  rcases h.2 with h | ⟨g, cap, cur, h1, h2, h3⟩
  · exact .inl h
  · exact .inr ⟨g, cap, cur, h1, by omega, h3⟩
theorem OwnR.block {W : World} {B : Nat} {v : Value} {zs : List α} (h : OwnR T k en W B v zs) : ∀ k, v.ownBlock = some k → B ≤ k := by
  intro k hk
  rcases h.2 with ⟨rfl, _⟩ | ⟨g, cap, cur, rfl, h2, _⟩
  · cases hk
  · cases hk
    exact h2
theorem OwnR.lt {W : World} {B : Nat} {v : Value} {zs : List α} (h : OwnR T k en W B v zs) : ∀ g, v.ownBlock = some g → g < W.heap.size := by
  intro g hg
  rcases h.2 with ⟨rfl, _⟩ | ⟨g', cap, cur, rfl, h1, h2, h3⟩
  · cases hg
  · obtain rfl : g' = g := by injection hg
    rcases Nat.lt_or_ge g' W.heap.size with h7 | h7
    · exact h7
    · rw [Array.getElem?_eq_none h7] at h2; cases h2
theorem OwnR.form {W : World} {B : Nat} {v : Value} {zs : List α} (h : OwnR T k en W B v zs) (hk : ∀ x : α, (en x).length = k) : ∃ (ad : Option Addr) (cap : Nat), v = .slice ad zs.length cap ∧ zs.length ≤ cap ∧ cap < 9223372036854775808 ∧ (ad = none → cap = 0) ∧
    (0 < zs.length → ∃ g, ad = some ⟨g, 0, none⟩ ∧ B ≤ g ∧ g < W.heap.size ∧ ∀ (i j : Nat) (x : α) (y : Value), zs[i]? = some x → (en x)[j]? = some y → W.cell? ⟨g, i * k + j, none⟩ = some y) := by
  rcases h.2 with ⟨rfl, h1⟩ | ⟨g, cap, cur, rfl, h1, h2, h3, h4, h5, h6⟩
  · exact ⟨none, 0, by rw [h1], by omega, by decide, fun _ => rfl, fun h => by omega⟩
  · refine ⟨some ⟨g, 0, none⟩, cap, rfl, h3, by unfold maxLen at h4; omega, (fun e => by cases e), fun _ => ⟨g, rfl, h1, ?_, fun i j x y hx hy => ?_⟩⟩
    · rcases Nat.lt_or_ge g W.heap.size with h7 | h7
      · exact h7
      · rw [Array.getElem?_eq_none h7] at h2; cases h2
    · have h7 := World.ownsRow.cells h (g := g) rfl (i * k + j) y (flat_get (hk := hk) zs i j x y hx hy)
      have e : (⟨g, 0, none⟩ : Addr).add (i * k + j) = ⟨g, i * k + j, none⟩ := by unfold Addr.add; split <;> simp_all
      rw [e] at h7
      exact h7
theorem OwnR.sees {W : World} {B : Nat} {v : Value} {zs : List α} (h : OwnR T k en W B v zs) (hk : ∀ x : α, (en x).length = k) : RIn k en W v zs := by
  rcases h.2 with ⟨rfl, h1⟩ | ⟨g, cap, cur, rfl, h1, h2, h3, h4, h5, h6⟩
  · have hz : zs = [] := List.eq_nil_of_length_eq_zero h1
    subst hz
    exact RIn.nil
  · refine ⟨some ⟨g, 0, none⟩, g, 0, cap, rfl, ⟨fun _ => rfl, fun e => by cases e⟩, h3, by unfold maxLen at h4; omega, fun _ => ?_, fun i j x y hx hy => ?_⟩
    · rcases Nat.lt_or_ge g W.heap.size with h7 | h7
      · exact h7
      · rw [Array.getElem?_eq_none h7] at h2; cases h2
    · have h7 := World.ownsRow.cells h (g := g) rfl (i * k + j) y (flat_get (hk := hk) zs i j x y hx hy)
      have e : (⟨g, 0, none⟩ : Addr).add (i * k + j) = ⟨g, i * k + j, none⟩ := by unfold Addr.add; split <;> simp_all
      rw [e] at h7
      rw [Nat.zero_add]
      exact h7
theorem src_g {w : World} {u : Value} {ys : List α} (h : RIn k en w u ys) (hk : ∀ x : α, (en x).length = k) : (u = .slice none 0 0 ∧ ys.length = 0 ∧ (ys.flatMap en) = []) ∨ ∃ ad c, u = .slice (some ad) ys.length c ∧ ∀ j y, (ys.flatMap en)[j]? = some y → w.cell? (ad.add j) = some y := by
  obtain ⟨ad, b, off, cap, rfl, ⟨h1, h2⟩, h3, h4, h5, h6⟩ := h
  rcases ad with _ | ad
  · have hz : ys = [] := by
      rcases Nat.eq_zero_or_pos ys.length with e | e
      · exact List.eq_nil_of_length_eq_zero e
      · cases h1 e
    subst hz
    rw [h2 rfl]
    exact .inl ⟨rfl, rfl, rfl⟩
  · refine .inr ⟨ad, cap, rfl, fun j y hj => ?_⟩
    have hjl : j < ys.length * k := by
      rw [← flat_len (hk := hk)]
      rcases Nat.lt_or_ge j (ys.flatMap en).length with e | e
      · exact e
      · rw [List.getElem?_eq_none e] at hj; cases hj
    have hk0 : 0 < k := by
      rcases Nat.eq_zero_or_pos k with e | e
      · subst e; simp at hjl
      · exact e
    have hi : j / k < ys.length := (Nat.div_lt_iff_lt_mul hk0).2 hjl
    have hm : j % k < k := Nat.mod_lt _ hk0
    have hjj : j / k * k + j % k = j := by rw [Nat.mul_comm]; exact Nat.div_add_mod j k
    have hx : ys[j / k]? = some ys[j / k] := List.getElem?_eq_getElem hi
    have hy : (en ys[j / k])[j % k]? = some y := by
      have hm2 : j % k < (en ys[j / k]).length := by rw [hk]; exact hm
      have := flat_get (hk := hk) ys (j / k) (j % k) _ _ hx (List.getElem?_eq_getElem hm2)
      rw [hjj, hj] at this
      rw [List.getElem?_eq_getElem hm2]
      exact this.symm
    have h7 := h1 (Nat.lt_of_le_of_lt (Nat.zero_le _) hi)
    cases h7
    have e : (⟨b, off, none⟩ : Addr).add j = ⟨b, off + j / k * k + j % k, none⟩ := by
      rw [Nat.add_assoc, hjj]
      unfold Addr.add; split <;> simp_all
    rw [e]
    exact h6 _ _ _ _ hx hy
theorem app_g {P : Program} {ops : Array Oper} {rest : List Oper} {o : Oper} {a : Act} {Q : Exit → Act → World → Prop} (w : World) (hw : Region.wanted o (yielded ops a.tmps) = true) (s x : Operand) (t : TypeId)
    (ho : o.op = .call { callee := .builtin .append, args := #[s, x], argTypes := #[t, t] })
    (hk : ∀ x : α, (en x).length = k) (h1 : ∀ x : α, ∀ u ∈ en x, u.oneCell' = true) (z : Value) (bytes : Nat) (ht : P.underlying t = some (.slice T))
    (hi : (P.info? T).map (fun i => (i.zero, i.size, i.bytes)) = some (some z, k, bytes)) (hzs : z.cells.size = k) (hk0 : 0 < k) (hby : bytes ≤ 1000)
    (B : Nat) (v u : Value) (xs ys : List α) (hs : a.eval s = v) (hx : a.eval x = u) (hown : OwnR T k en w B v xs) (hys : RIn k en w u ys) (hbig : xs.length + ys.length < 100000000000) (hB : B ≤ w.heap.size)
    (h : ∀ v' w', OwnR T k en w' B v' (xs ++ ys) → w.grownBy w' v.ownBlock → (v'.ownBlock = v.ownBlock ∨ v'.ownBlock = some w.heap.size) → wpList P ops Q rest (a.put o.dst v') w') : wpList P ops Q (o :: rest) a w := by
  obtain ⟨i0, hi, hz0, hz1, hz2⟩ := info_parts hi
  have hmul : (xs.length + ys.length) * bytes ≤ 100000000000 * 1000 := Nat.mul_le_mul (by omega) hby
  refine append_g w hw s x t ho B T i0 z k bytes ht hi hz0 hz1 hz2 hzs hk0 v xs.length (xs.flatMap en) hs hown u ys.length (ys.flatMap en) hx (src_g hys hk) (flat_len (hk := hk) ys) (fun u hu => ?_) (by unfold maxLen; omega) (by omega) hB ?_
  · obtain ⟨x, _, hx2⟩ := List.mem_flatMap.1 hu
    exact h1 x u hx2
  · intro v' w' h2 h3 h4
    refine h v' w' ?_ h3 h4
    unfold OwnR
    rw [List.length_append, List.flatMap_append]
    exact h2
/-- Append as a step of a region that draws. -/
theorem step_g0 {P : Program} {ops : Array Oper} {o : Oper} {a : Act} {Q : Exit → Act → World → Prop} {w : World} {K : Act → World → Prop} {E : Prop} (hg : o.guard = none) (s x : Operand) (t : TypeId)
    (ho : o.op = .call { callee := .builtin .append, args := #[s, x], argTypes := #[t, t] })
    (base : Nat) (e : TypeId) (i : TypeInfo) (z : Value) (size bytes : Nat) (ht : P.underlying t = some (.slice e)) (hi : P.info? e = some i) (hz : i.zero = some z)
    (hsize : i.size = size) (hby : i.bytes = bytes) (hzs : z.cells.size = size) (hsz : 0 < size)
    (v : Value) (n : Nat) (xs : List Value) (hs : a.eval s = v) (hown : w.ownsRow base e size v n xs)
    (u : Value) (m : Nat) (news : List Value) (hx : a.eval x = u) (hsrc : (u = .slice none 0 0 ∧ m = 0 ∧ news = []) ∨ ∃ ad c, u = .slice (some ad) m c ∧ ∀ j y, news[j]? = some y → w.cell? (ad.add j) = some y)
    (hl : news.length = m * size) (h1 : ∀ u ∈ news, u.oneCell' = true)
    (h63 : n + m ≤ maxLen) (hbytes : (n + m) * bytes ≤ 140737488355328) (hbase : base ≤ w.heap.size)
    (h : ∀ v' w', w'.ownsRow base e size v' (n + m) (xs ++ news) → w.grownBy w' v.ownBlock → (v'.ownBlock = v.ownBlock ∨ v'.ownBlock = some w.heap.size) → K (a.put o.dst v') w') :
    if Region.wanted o (yielded ops a.tmps) = true then Oper.wp P o a w K Q else E := by
  have hw : Region.wanted o (yielded ops a.tmps) = true := by simp [Region.wanted, hg]
  rw [if_pos hw]
  rcases hsrc with ⟨rfl, rfl, rfl⟩ | ⟨ad, c, rfl, hnews⟩
  · have hr := run_append_owned_none (P := P) (w := w) base t o.type e i size ht hi v n xs hown
    unfold Oper.wp execOp
    simp only [ho, resolve, invoke, builtin, Sem.run_bind, Sem.run_pure, Result.andThen_ok, List.map_toArray, List.map_cons, List.map_nil, hs, hx, hr]
    exact h v w (by simpa using hown) ⟨rfl, rfl, rfl, Nat.le_refl _, fun _ _ _ => rfl⟩ (.inl rfl)
  · obtain ⟨v', w', hr, h2, h3, h4, h5⟩ := run_append_own_at (P := P) w base t o.type e i z size bytes ht hi hz hsize hby hzs hsz v n xs hown ad m c news hl hnews h1 h63 hbytes hbase
    unfold Oper.wp execOp
    simp only [ho, resolve, invoke, builtin, Sem.run_bind, Sem.run_pure, Result.andThen_ok, List.map_toArray, List.map_cons, List.map_nil, hs, hx, hr]
    exact h v' w' h2 h3 h5
theorem step_g {P : Program} {ops : Array Oper} {o : Oper} {a : Act} {Q : Exit → Act → World → Prop} {w : World} {K : Act → World → Prop} {E : Prop} (hg : o.guard = none) (s x : Operand) (t : TypeId)
    (ho : o.op = .call { callee := .builtin .append, args := #[s, x], argTypes := #[t, t] })
    (hk : ∀ x : α, (en x).length = k) (h1 : ∀ x : α, ∀ u ∈ en x, u.oneCell' = true) (z : Value) (bytes : Nat) (ht : P.underlying t = some (.slice T))
    (hi : (P.info? T).map (fun i => (i.zero, i.size, i.bytes)) = some (some z, k, bytes)) (hzs : z.cells.size = k) (hk0 : 0 < k) (hby : bytes ≤ 1000)
    (B : Nat) (v u : Value) (xs ys : List α) (hs : a.eval s = v) (hx : a.eval x = u) (hown : OwnR T k en w B v xs) (hys : RIn k en w u ys) (hbig : xs.length + ys.length < 100000000000) (hB : B ≤ w.heap.size)
    (h : ∀ v' w', OwnR T k en w' B v' (xs ++ ys) → w.grownBy w' v.ownBlock → (v'.ownBlock = v.ownBlock ∨ v'.ownBlock = some w.heap.size) → K (a.put o.dst v') w') :
    if Region.wanted o (yielded ops a.tmps) = true then Oper.wp P o a w K Q else E := by
  obtain ⟨i0, hi, hz0, hz1, hz2⟩ := info_parts hi
  have hmul : (xs.length + ys.length) * bytes ≤ 100000000000 * 1000 := Nat.mul_le_mul (by omega) hby
  refine step_g0 hg s x t ho B T i0 z k bytes ht hi hz0 hz1 hz2 hzs hk0 v xs.length (xs.flatMap en) hs hown u ys.length (ys.flatMap en) hx (src_g hys hk) (flat_len (hk := hk) ys) (fun u hu => ?_) (by unfold maxLen; omega) (by omega) hB ?_
  · obtain ⟨x, _, hx2⟩ := List.mem_flatMap.1 hu
    exact h1 x u hx2
  · intro v' w' h2 h3 h4
    refine h v' w' ?_ h3 h4
    unfold OwnR
    rw [List.length_append, List.flatMap_append]
    exact h2
/-- One thing, in a block of its own. -/
theorem one_g (w : World) (x : α) (cs : Array Value) (hc : cs.toList = en x) (T' : TypeId) {m : Nat} (hm : m = w.heap.size) : RIn k en (w.alloc (.cells cs T')) (.slice (some ⟨m, 0, none⟩) 1 1) [x] := by
  subst hm
  refine ⟨some ⟨w.heap.size, 0, none⟩, w.heap.size, 0, 1, rfl, ⟨fun _ => rfl, fun e => by cases e⟩, Nat.le_refl _, by decide, fun _ => by simp, fun i j x' y hx hy => ?_⟩
  have hi : i = 0 := by
    rcases i with _ | i
    · rfl
    · simp at hx
  subst hi
  simp at hx
  subst hx
  have : cs[j]? = some y := by rw [← hy, ← hc]; simp
  simp [this]
/-- A part of a slice. -/
theorem RIn.part {W : World} {ad : Option Addr} {n cap : Nat} {zs : List α} (h : RIn k en W (.slice ad n cap) zs) (lo hi : Nat) (h1 : lo ≤ hi) (h2 : hi ≤ n) :
    n = zs.length ∧ ∃ (b off : Nat), (0 < hi - lo → ad = some ⟨b, off, none⟩) ∧ RIn k en W (.slice (if hi - lo = 0 ∧ ad = none then none else some ⟨b, off + lo * k, none⟩) (hi - lo) (cap - lo)) ((zs.take hi).drop lo) := by
  obtain ⟨ad', b, off, cap', e, ⟨h3, h3'⟩, h4, h5, h6, h7⟩ := h
  cases e
  have hl : ((zs.take hi).drop lo).length = hi - lo := by simp; omega
  refine ⟨rfl, b, off, fun h => h3 (by omega), ?_⟩
  refine ⟨_, b, off + lo * k, cap - lo, by rw [hl], ⟨fun h => ?_, fun h => ?_⟩, by omega, by omega, fun h => h6 (by omega), fun i j x y hx hy => ?_⟩
  · rw [hl] at h
    rw [if_neg (by omega)]
  · split at h
    · rename_i h8
      rw [h3' h8.2]
      omega
    · cases h
  · have hi2 : i < hi - lo := by
      rcases Nat.lt_or_ge i (hi - lo) with h | h
      · exact h
      · rw [List.getElem?_eq_none (by omega)] at hx; cases hx
    have hx2 : zs[lo + i]? = some x := by
      rw [List.getElem?_drop, List.getElem?_take] at hx
      rw [if_pos (by omega)] at hx
      exact hx
    have := h7 (lo + i) j x y hx2 hy
    rw [Nat.add_mul] at this
    rw [← this]
    congr 2
    omega
theorem RIn.at {W : World} {b off n cap : Nat} {zs : List α} (h : RIn k en W (.slice (some ⟨b, off, none⟩) n cap) zs) {i : Nat} {x : α} (hi : zs[i]? = some x) : ∀ (j : Nat) (y : Value), (en x)[j]? = some y → W.cell? ⟨b, off + i * k + j, none⟩ = some y := by
  obtain ⟨ad', b', off', cap', e, ⟨h3, h3'⟩, h4, h5, h6, h7⟩ := h
  have hpos : 0 < zs.length := by
    rcases Nat.eq_zero_or_pos zs.length with h | h
    · have : zs = [] := List.eq_nil_of_length_eq_zero h
      subst this
      simp at hi
    · exact h
  have e2 := h3 hpos
  subst e2
  cases e
  exact fun j y hy => h7 i j x y hi hy
theorem RIn.form {W : World} {v : Value} {zs : List α} (h : RIn k en W v zs) : ∃ (ad : Option Addr) (b off cap : Nat), v = .slice ad zs.length cap ∧ (0 < zs.length → ad = some ⟨b, off, none⟩) ∧ (ad = none → cap = 0) ∧ zs.length ≤ cap ∧ cap < 9223372036854775808 ∧ (0 < zs.length → b < W.heap.size) ∧ RIn k en W (.slice ad zs.length cap) zs := by
  have h0 := h
  obtain ⟨ad, b, off, cap, rfl, ⟨h1, h2⟩, h3, h4, h5, h6⟩ := h
  exact ⟨ad, b, off, cap, rfl, h1, h2, h3, h4, h5, h0⟩
theorem RIn.mk {W : World} {v : Value} {zs : List α} {ad : Option Addr} {b off cap : Nat} (h0 : v = .slice ad zs.length cap) (h1 : 0 < zs.length → ad = some ⟨b, off, none⟩) (h2 : ad = none → cap = 0) (h3 : zs.length ≤ cap) (h4 : cap < 9223372036854775808) (h5 : 0 < zs.length → b < W.heap.size)
    (h6 : ∀ (i j : Nat) (x : α) (y : Value), zs[i]? = some x → (en x)[j]? = some y → W.cell? ⟨b, off + i * k + j, none⟩ = some y) : RIn k en W v zs := ⟨ad, b, off, cap, h0, ⟨h1, h2⟩, h3, h4, h5, h6⟩
end
attribute [irreducible] RIn OwnR
end Go.Proofs.Ytgfgoflhmikalaa.gr

namespace Go.Proofs.Ytgfgoflhmikalaa.fr
open Go.RowKit Go.Proofs.Ytgfgoflhmikalaa.cm Go.Proofs.Ytgfgoflhmikalaa.cw Go.Proofs.Ytgfgoflhmikalaa.ga Go.Proofs.Ytgfgoflhmikalaa.gr
set_option linter.unusedVariables false
set_option linter.unusedSimpArgs false
variable {HC : Code}
attribute [local irreducible] Go.Proofs.Ytgfgoflhmikalaa.par.loneP
def encC (c : Cut) : List Value := [.int .i64 (c.1 : Int), .int .i64 (c.2.1 : Int), .int .i64 (c.2.2 : Int)]
def encF (f : Int × ByteArray) : List Value := [.int .i64 f.1, .string f.2]
/-- All cuts from some place on, and the error behind them. -/
def cutsW (l : List Nat) (p : Nat) : List Cut × Int :=
  if p < l.length then match hr : rd l p with
    | .bad e => ([], e)
    | .ok a b n => ((a, b, n) :: (cutsW l (n + 4)).1, (cutsW l (n + 4)).2)
  else ([], 0)
termination_by l.length - p
decreasing_by all_goals (have := rd_ok hr; omega)
theorem cutsW_end {l : List Nat} {p : Nat} (h : ¬ p < l.length) : cutsW l p = ([], 0) := by rw [cutsW, if_neg h]
theorem cutsW_bad {l : List Nat} {p : Nat} {e : Int} (h : p < l.length) (hr : rd l p = .bad e) : cutsW l p = ([], e) := by
  rw [cutsW, if_pos h]
  split
  · rename_i e' he; rw [hr] at he; cases he; rfl
  · rename_i a b n he; rw [hr] at he; cases he
theorem cutsW_ok {l : List Nat} {p a b n : Nat} (h : p < l.length) (hr : rd l p = .ok a b n) : cutsW l p = ((a, b, n) :: (cutsW l (n + 4)).1, (cutsW l (n + 4)).2) := by
  rw [cutsW, if_pos h]
  split
  · rename_i e' he; rw [hr] at he; cases he
  · rename_i a' b' n' he; rw [hr] at he; cases he; rfl
theorem cutsW_is (s : ByteArray) : ∀ (k p : Nat), s.size - p ≤ k → ∀ c ∈ (cutsW (bytesN s) p).1, CutIs s c := by
  intro k
  induction k with
  | zero =>
    intro p hk c hc
    rw [cutsW_end (by rw [bytesN_len]; omega)] at hc
    cases hc
  | succ k ih =>
    intro p hk c hc
    by_cases h : p < (bytesN s).length
    · cases hr : rd (bytesN s) p with
      | bad e => rw [cutsW_bad h hr] at hc; cases hc
      | ok a b n =>
        rw [cutsW_ok h hr] at hc
        obtain ⟨h1, h2, h3, h4, h5⟩ := rd_ok hr
        rw [bytesN_len] at h5
        rcases List.mem_cons.1 hc with rfl | hc
        · exact ⟨h3, h4, h5⟩
        · exact ih (n + 4) (by omega) c hc
    · rw [cutsW_end h] at hc; cases hc
theorem cutsW_err (l : List Nat) : ∀ (k p : Nat), l.length - p ≤ k → (cutsW l p).2 = 0 ∨ (cutsW l p).2 = 2 ∨ (cutsW l p).2 = 3 := by
  intro k
  induction k with
  | zero =>
    intro p hk
    rw [cutsW_end (by omega)]
    exact .inl rfl
  | succ k ih =>
    intro p hk
    by_cases h : p < l.length
    · cases hr : rd l p with
      | bad e =>
        rw [cutsW_bad h hr]
        exact .inr (rd_bad hr)
      | ok a b n =>
        rw [cutsW_ok h hr]
        obtain ⟨h1, h2, h3, h4, h5⟩ := rd_ok hr
        exact ih (n + 4) (by omega)
    · rw [cutsW_end h]; exact .inl rfl
def frOf (s : ByteArray) (c : Cut) : Int × ByteArray := (((bytesN s).getD c.1 0 : Nat), s.extract c.2.1 c.2.2)
/-- What frames.All says. -/
def allR (s : ByteArray) : List (Int × ByteArray) × Int :=
  if (cutsW (bytesN s) 0).1.all (fun c => gbE s (cI3 c)) then (if (cutsW (bytesN s) 0).2 = 0 then ((cutsW (bytesN s) 0).1.map (frOf s), 0) else ([], (cutsW (bytesN s) 0).2)) else ([], 4)
theorem own_cuts {W : World} {B : Nat} {v : Value} {cs : List Cut} (h : OwnR 65 3 encC W B v cs) : CutsIn W v cs := by
  obtain ⟨ad, cap, rfl, h1, h2, h3, h4⟩ := h.form (fun _ => rfl)
  refine ⟨ad, cap, rfl, h1, h2, fun h0 => ?_⟩
  obtain ⟨g, rfl, _, _, h5⟩ := h4 h0
  refine ⟨g, rfl, fun i hi => ?_⟩
  have hx : cs[i]? = some (cs.getD i (0, 0, 0)) := by simp [List.getD, hi]
  exact ⟨h5 i 0 _ _ hx rfl, h5 i 1 _ _ hx rfl, h5 i 2 _ _ hx rfl⟩
theorem frame_any2 (s : ByteArray) (a b n : Nat) (w : World) (hs : s.size < 1000000000000) (h1 : a < s.size) (h2 : b ≤ n) (h3 : n ≤ s.size) :
    Calls (Go.Proofs.Ytgfgoflhmikalaa.par.loneP HC) 34 #[.agg #[.int .i64 a, .int .i64 b, .int .i64 n], .string s] w fun e w' => e = .returned (.agg #[.int .i64 (((bytesN s).getD a 0 : Nat) : Int), .string (s.extract b n)]) ∧ Below w.heap.size w w' := by
  have hg : (bytesN s).getD a 0 = s[a].toNat := by
    have hl : a < (bytesN s).length := by rw [bytesN_len]; exact h1
    rw [List.getD, List.getElem?_eq_getElem hl]
    simp [bytesN]
    rfl
  rw [hg]
  exact frame_any s a b n w hs h1 h2 h3
theorem own_form {W : World} {B : Nat} {v : Value} {cs : List Cut} (h : OwnR 65 3 encC W B v cs) : ∃ (ad : Option Addr) (cap : Nat), v = .slice ad cs.length cap ∧ cs.length ≤ cap ∧ cap < 9223372036854775808 ∧ (ad = none → cap = 0) ∧
    (0 < cs.length → ∃ g, ad = some ⟨g, 0, none⟩ ∧ g < W.heap.size ∧ ∀ i, i < cs.length → W.cell? ⟨g, i * 3, none⟩ = some (.int .i64 ((cs.getD i (0, 0, 0)).1 : Int)) ∧ W.cell? ⟨g, i * 3 + 1, none⟩ = some (.int .i64 ((cs.getD i (0, 0, 0)).2.1 : Int)) ∧ W.cell? ⟨g, i * 3 + 2, none⟩ = some (.int .i64 ((cs.getD i (0, 0, 0)).2.2 : Int))) := by
  obtain ⟨ad, cap, rfl, h1, h2, h3, h4⟩ := h.form (fun _ => rfl)
  refine ⟨ad, cap, rfl, h1, h2, h3, fun h0 => ?_⟩
  obtain ⟨g, rfl, _, h6, h5⟩ := h4 h0
  refine ⟨g, rfl, h6, fun i hi => ?_⟩
  have hx : cs[i]? = some (cs.getD i (0, 0, 0)) := by simp [List.getD, hi]
  exact ⟨h5 i 0 _ _ hx rfl, h5 i 1 _ _ hx rfl, h5 i 2 _ _ hx rfl⟩
theorem info_cut : ((Go.Proofs.Ytgfgoflhmikalaa.par.loneP HC).info? 65).map (fun i => (i.zero, i.size, i.bytes)) = some (some (.agg #[.int .i64 0, .int .i64 0, .int .i64 0]), 3, 24) := by kernel_rfl
theorem info_frame : ((Go.Proofs.Ytgfgoflhmikalaa.par.loneP HC).info? 27).map (fun i => (i.zero, i.size, i.bytes)) = some (some (.agg #[.int .i64 0, .string ⟨#[]⟩]), 2, 24) := by kernel_rfl
theorem enc_one {f : Cut} : ∀ u ∈ encC f, u.oneCell' = true := by intro u hu; simp [encC] at hu; rcases hu with rfl | rfl | rfl <;> rfl
theorem encF_one {f : Int × ByteArray} : ∀ u ∈ encF f, u.oneCell' = true := by intro u hu; simp [encF] at hu; rcases hu with rfl | rfl <;> rfl
theorem app_cut {ops : Array Oper} {rest : List Oper} {o : Oper} {a : Act} {Q : Exit → Act → World → Prop} (w : World) (hw : Region.wanted o (yielded ops a.tmps) = true) (s x : Operand)
    (ho : o.op = .call { callee := .builtin .append, args := #[s, x], argTypes := #[63, 63] })
    (B : Nat) (v u : Value) (xs : List Cut) (y : Cut) (hs : a.eval s = v) (hx : a.eval x = u) (hown : OwnR 65 3 encC w B v xs) (hys : RIn 3 encC w u [y]) (hbig : xs.length + 1 < 100000000000) (hB : B ≤ w.heap.size)
    (h : ∀ v' w', OwnR 65 3 encC w' B v' (xs ++ [y]) → w.grownBy w' v.ownBlock → (v'.ownBlock = v.ownBlock ∨ v'.ownBlock = some w.heap.size) → wpList (Go.Proofs.Ytgfgoflhmikalaa.par.loneP HC) ops Q rest (a.put o.dst v') w') : wpList (Go.Proofs.Ytgfgoflhmikalaa.par.loneP HC) ops Q (o :: rest) a w :=
  app_g (α := Cut) (k := 3) (en := encC) w hw s x _ ho (fun _ => rfl) (fun _ => enc_one) _ 24 ((Go.Proofs.Ytgfgoflhmikalaa.par.lon_underlying HC 63).trans Try.underlying63) info_cut rfl (by decide) (by decide) B v u xs [y] hs hx hown hys hbig hB h
theorem app_frame {ops : Array Oper} {rest : List Oper} {o : Oper} {a : Act} {Q : Exit → Act → World → Prop} (w : World) (hw : Region.wanted o (yielded ops a.tmps) = true) (s x : Operand)
    (ho : o.op = .call { callee := .builtin .append, args := #[s, x], argTypes := #[22, 22] })
    (B : Nat) (v u : Value) (xs : List (Int × ByteArray)) (y : Int × ByteArray) (hs : a.eval s = v) (hx : a.eval x = u) (hown : OwnR 27 2 encF w B v xs) (hys : RIn 2 encF w u [y]) (hbig : xs.length + 1 < 100000000000) (hB : B ≤ w.heap.size)
    (h : ∀ v' w', OwnR 27 2 encF w' B v' (xs ++ [y]) → w.grownBy w' v.ownBlock → (v'.ownBlock = v.ownBlock ∨ v'.ownBlock = some w.heap.size) → wpList (Go.Proofs.Ytgfgoflhmikalaa.par.loneP HC) ops Q rest (a.put o.dst v') w') : wpList (Go.Proofs.Ytgfgoflhmikalaa.par.loneP HC) ops Q (o :: rest) a w :=
  app_g (α := Int × ByteArray) (k := 2) (en := encF) w hw s x _ ho (fun _ => rfl) (fun _ => encF_one) _ 24 ((Go.Proofs.Ytgfgoflhmikalaa.par.lon_underlying HC 22).trans Try.underlying22) info_frame rfl (by decide) (by decide) B v u xs [y] hs hx hown hys hbig hB h
set_option maxRecDepth 100000 in
set_option maxHeartbeats 8000000 in
theorem all_any (hEq : HC = par.Hm) (s : ByteArray) (w : World) (hs : s.size < 10000000000) :
    Calls (Go.Proofs.Ytgfgoflhmikalaa.par.loneP HC) 16 #[.string s] w fun e w' => ∃ v, e = .returned (.tuple #[v, .int .i64 (allR s).2]) ∧ RIn 2 encF w' v (allR s).1 ∧ Below w.heap.size w w' := by
  have HE := Lib.hid (hold_any hEq s)
  clear hEq
  have HC2 := Lib.hid (cutsW_is s s.size 0 (by omega))
  have HA : Hid (allR s = if (cutsW (bytesN s) 0).1.all (fun c => gbE s (cI3 c)) then (if (cutsW (bytesN s) 0).2 = 0 then ((cutsW (bytesN s) 0).1.map (frOf s), 0) else ([], (cutsW (bytesN s) 0).2)) else ([], 4)) := Lib.hid rfl
  generalize hT : cutsW (bytesN s) 0 = T at *
  go_enter (Go.Proofs.Ytgfgoflhmikalaa.par.lfun16 (H := HC)), Try.ntmps16
  go_wp2_with fail
  go_loopw [4, 5, 6] (fun cv wr at_ wd => ∃ (cs : List Cut) (p : Nat), p ≤ s.size ∧ at_ = .int .i64 p ∧ wr = .int .i64 0 ∧ Hid (T = (cs ++ (cutsW (bytesN s) p).1, (cutsW (bytesN s) p).2)) ∧ Hid (OwnR 65 3 encC wd w.heap.size cv cs) ∧ cs.length ≤ p ∧ Hid (Below w.heap.size w wd)) (fun _ _ at_ _ => s.size - (intOf at_).toNat)
  case atStart => exact ⟨[], 0, Nat.zero_le _, rfl, rfl, Lib.hid (by rw [← hT]; rfl), Lib.hid (OwnR.nil _ _), by simp, Lib.hid (Below.refl _ _)⟩
  case round =>
    clear hT
    obtain ⟨cs, p, hp, rfl, rfl, hcw, ho, hcl, hb⟩ := hrel
    by_cases hlp : p < s.size
    · have HR := Lib.hid (read_any (HC := HC) s p)
      have hok := @rd_ok (bytesN s) p
      have hbad := @rd_bad (bytesN s) p
      have hcb := @cutsW_bad (bytesN s) p
      have hco := @cutsW_ok (bytesN s) p
      rw [bytesN_len] at hok hcb hco
      generalize rd (bytesN s) p = R at *
      rcases R with ⟨a, b, n⟩ | e
      · obtain ⟨rfl, h1, h2, h3, h4⟩ := hok rfl
        have hnew : Hid (T = ((cs ++ [(a, b, n)]) ++ (cutsW (bytesN s) (n + 4)).1, (cutsW (bytesN s) (n + 4)).2)) := Lib.hid (by rw [hcw.out, hco hlp rfl]; simp)
        clear hok hbad hcb hco hcw
        go_wp2_with fail
        refine (HR.out _ (by omega) (by omega)).mono ?_; rintro e' w1 ⟨rfl, k1⟩
        unfold rdV
        have HN := Lib.hid (next_any (HC := HC) (a : Int) (b : Int) (n : Int))
        have HO1 : Hid (OwnR 65 3 encC w1 w.heap.size u4 cs) := Lib.hid (ho.out.tr k1)
        have HB1 : Hid (Below w.heap.size w w1) := Lib.hid (kp_tr hb.out k1)
        clear k1 ho hb
        have K1 := Blk.new w1 #[.int .i64 (a : Int), .int .i64 (b : Int), .int .i64 (n : Int)] 65
        go_wp2_with (at_builtin; refine app_cut _ rfl _ _ rfl w.heap.size _ _ cs (a, b, n) rfl rfl ?c0 ?c1 ?c2 ?c3 ?c4)
        case c0 => exact HO1.out.tr (by (repeat (first | with_reducible exact Below.refl _ _ | with_reducible refine kp_alloc ?_ _ | with_reducible refine kp_drew ?_ | with_reducible refine kp_set ?_ (by first | omega | (simp; done) | (simp; omega)) _ | with_reducible refine kp_tr ?_ (by with_reducible assumption))))
        case c1 => refine one_g _ (a, b, n) _ rfl _ ?_; simp
        case c2 => omega
        case c3 => have := HB1.out.size; simp; omega
        case c4 =>
        intro v' w2 ho2 hg hat
        have K2 := gr_blk hg (K1.alloc (.cells #[.int .i64 (a : Int), .int .i64 (b : Int), .int .i64 (n : Int)] 65)) (fun k hk e => by have := HO1.out.lt k hk; omega)
        have H2 : Hid (OwnR 65 3 encC w2 w.heap.size v' (cs ++ [(a, b, n)])) := Lib.hid ho2
        have H3 : Hid (Below w.heap.size w w2) := Lib.hid (gr_below hg (b_alloc (b_alloc HB1.out (Nat.le_refl _) _) (Nat.le_refl _) _) (Nat.le_refl _) HO1.out.block)
        clear ho2 hg hat K1 HO1 HB1
        generalize w1.heap.size = m1 at *
        obtain ⟨l2, c2, f2⟩ := K2.get
        go_wp2_with fail
        refine (HN.out _ (by omega) (by omega)).mono ?_; rintro e' w3 ⟨rfl, k3⟩
        have H4 : Hid (OwnR 65 3 encC w3 w.heap.size v' (cs ++ [(a, b, n)])) := Lib.hid (H2.out.tr k3)
        have H5 : Hid (Below w.heap.size w w3) := Lib.hid (kp_tr H3.out k3)
        clear k3 H2 H3 K2 l2 c2 f2
        go_wp2_with fail
        exact ⟨⟨cs ++ [(a, b, n)], n + 4, by omega, by first | rfl | go_num, rfl, hnew, H4, by simp; omega, H5⟩, by simp [intOf]; omega⟩
      · have he := hbad rfl
        have he0 : ¬ e = 0 := by omega
        have hT := hcw.out
        rw [hcb hlp rfl, List.append_nil] at hT
        subst hT
        clear hok hbad hcb hco hcw
        dsimp only at HA HC2
        go_wp2_with fail
        refine (HR.out _ (by omega) (by omega)).mono ?_; rintro e' w1 ⟨rfl, k1⟩
        unfold rdV
        have HO1 : Hid (OwnR 65 3 encC w1 w.heap.size u4 cs) := Lib.hid (ho.out.tr k1)
        have HB1 : Hid (Below w.heap.size w w1) := Lib.hid (kp_tr hb.out k1)
        clear k1 ho hb
        go_wp2_with fail
        refine (HE.out _ cs _ (by omega) (by omega) (own_cuts (HO1.out.tr (by (repeat (first | with_reducible exact Below.refl _ _ | with_reducible refine kp_alloc ?_ _ | with_reducible refine kp_drew ?_ | with_reducible refine kp_set ?_ (by first | omega | (simp; done) | (simp; omega)) _ | with_reducible refine kp_tr ?_ (by with_reducible assumption)))))) HC2.out).mono ?_; rintro e' w2 ⟨rfl, k2⟩
        have HB2 : Hid (Below w.heap.size w w2) := Lib.hid (by have := HB1.out; (repeat (first | with_reducible exact Below.refl _ _ | with_reducible refine kp_alloc ?_ _ | with_reducible refine kp_drew ?_ | with_reducible refine kp_set ?_ (by first | omega | (simp; done) | (simp; omega)) _ | with_reducible refine kp_tr ?_ (by with_reducible assumption))))
        clear k2 HB1 HO1 HE HC2
        generalize cs.all (fun c => gbE s (cI3 c)) = G at *
        rw [if_neg he0] at HA
        rcases G with _ | _
        · have HA2 : Hid (allR s = ([], 4)) := HA
          go_wp2_with fail
          go_ret2
          exact ⟨_, by rw [HA2.out]; rfl, by rw [HA2.out]; exact RIn.nil, HB2.out⟩
        · have HA2 : Hid (allR s = ([], e)) := HA
          go_wp2_with fail
          go_ret2
          exact ⟨_, by rw [HA2.out]; rfl, by rw [HA2.out]; exact RIn.nil, HB2.out⟩
    · obtain rfl : p = s.size := by omega
      have hT := hcw.out
      rw [cutsW_end (by rw [bytesN_len]; omega), List.append_nil] at hT
      subst hT
      clear hcw
      dsimp only at HA HC2
      rw [if_pos rfl] at HA
      go_wp2_with fail
      refine (HE.out _ cs _ (by omega) (by omega) (own_cuts ho.out) HC2.out).mono ?_; rintro e' w2 ⟨rfl, k2⟩
      have HB2 : Hid (Below w.heap.size w w2) := Lib.hid (kp_tr hb.out k2)
      have HO2 : Hid (OwnR 65 3 encC w2 w.heap.size u4 cs) := Lib.hid (ho.out.tr k2)
      clear k2 hb ho HE
      generalize cs.all (fun c => gbE s (cI3 c)) = G at *
      rcases G with _ | _
      · have HA2 : Hid (allR s = ([], 4)) := HA
        go_wp2_with fail
        go_ret2
        exact ⟨_, by rw [HA2.out]; rfl, by rw [HA2.out]; exact RIn.nil, HB2.out⟩
      · have HA2 : Hid (allR s = (cs.map (frOf s), 0)) := HA
        clear HA
        obtain ⟨ad, cap, rfl, q1, q2, q3, q4⟩ := own_form HO2.out
        have HQ := Lib.hid q4
        clear q3 q4
        go_wp2_with fail
        go_loopw [9, 40] (fun lv i wr => ∃ k : Nat, k ≤ cs.length ∧ i = .int .i64 k ∧ Hid (OwnR 27 2 encF wr w2.heap.size lv ((cs.take k).map (frOf s))) ∧ Hid (Below w2.heap.size w2 wr)) (fun _ i _ => cs.length - (intOf i).toNat)
        case atStart => exact ⟨0, Nat.zero_le _, rfl, Lib.hid (OwnR.nil _ _), Lib.hid (Below.refl _ _)⟩
        case round =>
          obtain ⟨k, hk, rfl, ho, hb⟩ := hrel
          by_cases hlk : k < cs.length
          · obtain ⟨g, rfl, hgl, h5⟩ := HQ.out (by omega)
            obtain ⟨e0, e1, e2⟩ := h5 k hlk
            obtain ⟨o1, o2, o3⟩ := HC2.out (cs.getD k (0, 0, 0)) (by simp [List.getD, hlk])
            have hsn : Hid ((cs.take (k + 1)).map (frOf s) = (cs.take k).map (frOf s) ++ [frOf s (cs.getD k (0, 0, 0))]) := Lib.hid (by rw [List.take_add_one, List.map_append]; simp [List.getD, hlk])
            replace e0 := cell_tr hb.out e0
            replace e1 := cell_tr hb.out e1
            replace e2 := cell_tr hb.out e2
            have hgl2 : g < wr.heap.size := Nat.lt_of_lt_of_le hgl hb.out.size
            clear h5
            generalize cs.getD k (0, 0, 0) = c at *
            obtain ⟨x, y, z⟩ := c
            dsimp only at *
            have HF := Lib.hid (fun W => frame_any2 (HC := HC) s x y z W (by omega) (by omega) o2 (by omega))
            have hfr : frOf s (x, y, z) = ((((bytesN s).getD x 0 : Nat) : Int), s.extract y z) := rfl
            rw [hfr] at hsn
            have hll : ((cs.take k).map (frOf s)).length + 1 < 100000000000 := by simp; omega
            generalize (cs.take k).map (frOf s) = done at *
            generalize (bytesN s).getD x 0 = X at *
            generalize s.extract y z = Z at *
            clear hfr
            go_wp2_with fail
            refine (HF.out _).mono ?_; rintro e' w3 ⟨rfl, k3⟩
            have HO3 : Hid (OwnR 27 2 encF w3 w2.heap.size u9 done) := Lib.hid (ho.out.tr (by (repeat (first | with_reducible exact Below.refl _ _ | with_reducible refine kp_alloc ?_ _ | with_reducible refine kp_drew ?_ | with_reducible refine kp_set ?_ (by first | omega | (simp; done) | (simp; omega)) _ | with_reducible refine kp_tr ?_ (by with_reducible assumption)))))
            have HB3 : Hid (Below w2.heap.size w2 w3) := Lib.hid (by have := hb.out; (repeat (first | with_reducible exact Below.refl _ _ | with_reducible refine kp_alloc ?_ _ | with_reducible refine kp_drew ?_ | with_reducible refine kp_set ?_ (by first | omega | (simp; done) | (simp; omega)) _ | with_reducible refine kp_tr ?_ (by with_reducible assumption))))
            clear k3 ho hb HF
            go_wp2_with (at_builtin; refine app_frame _ rfl _ _ rfl w2.heap.size _ _ done ((X : Int), Z) rfl rfl ?d0 ?d1 hll ?d3 ?d4)
            case d0 => exact HO3.out.tr (by (repeat (first | with_reducible exact Below.refl _ _ | with_reducible refine kp_alloc ?_ _ | with_reducible refine kp_drew ?_ | with_reducible refine kp_set ?_ (by first | omega | (simp; done) | (simp; omega)) _ | with_reducible refine kp_tr ?_ (by with_reducible assumption))))
            case d1 => refine one_g _ ((X : Int), Z) _ rfl _ ?_; try simp
            case d3 => have := HB3.out.size; simp; omega
            case d4 =>
            intro v' w4 ho4 hg hat
            have H2 : Hid (OwnR 27 2 encF w4 w2.heap.size v' (done ++ [((X : Int), Z)])) := Lib.hid ho4
            have H3 : Hid (Below w2.heap.size w2 w4) := Lib.hid (gr_below hg (b_alloc HB3.out (Nat.le_refl _) _) (Nat.le_refl _) HO3.out.block)
            clear ho4 hg hat HO3 HB3
            go_wp2_with fail
            exact ⟨⟨k + 1, by omega, by go_num, Lib.hid (by rw [hsn.out]; exact H2.out), H3⟩, by simp [intOf]; omega⟩
          · obtain rfl : k = cs.length := by omega
            have ho2 := ho.out
            rw [List.take_length] at ho2
            have HO3 := Lib.hid ho2
            have HB3 : Hid (Below w.heap.size w wr) := Lib.hid (kp_tr HB2.out hb.out)
            clear ho ho2 hb HQ
            go_wp2_with fail
            go_ret2
            exact ⟨_, by rw [HA2.out]; rfl, by rw [HA2.out]; exact HO3.out.sees (fun _ => rfl), HB3.out⟩
end Go.Proofs.Ytgfgoflhmikalaa.fr
