/- Rows of one's own; append; pick, Shape. No conditions. -/
import Derived.Test.YtpgjploaliefdaaGreatSa
import Derived.Maps.AppendAt
import Derived.Laws.AppendOwn
import Derived.Laws.OwnMore
namespace Go.Proofs.YtpgjploaliefdaaGreat.ob
open Go.RowKit Go.Proofs.YtpgjploaliefdaaGreat.hd
set_option linter.unusedVariables false
set_option linter.unusedSimpArgs false
theorem append_any {P : Program} {ops : Array Oper} {rest : List Oper} {o : Oper} {a : Act} {Q : Exit → Act → World → Prop} (w : World) (hw : Region.wanted o (yielded ops a.tmps) = true) (s x : Operand) (t : TypeId)
    (ho : o.op = .call { callee := .builtin .append, args := #[s, x], argTypes := #[t, t] })
    (base : Nat) (e : TypeId) (i : TypeInfo) (z : Value) (size bytes : Nat) (ht : P.underlying t = some (.slice e)) (hi : P.info? e = some i) (hz : i.zero = some z)
    (hsize : i.size = size) (hby : i.bytes = bytes) (hzs : z.cells.size = size) (hsz : 0 < size)
    (v : Value) (n : Nat) (xs : List Value) (hs : a.eval s = v) (hown : w.ownsRow base e size v n xs)
    (u : Value) (m : Nat) (news : List Value) (hx : a.eval x = u) (hsrc : (u = .slice none 0 0 ∧ m = 0 ∧ news = []) ∨ ∃ ad c, u = .slice (some ad) m c ∧ ∀ j y, news[j]? = some y → w.cell? (ad.add j) = some y)
    (hl : news.length = m * size) (h1 : ∀ u ∈ news, u.oneCell' = true)
    (h63 : n + m ≤ maxLen) (hbytes : (n + m) * bytes ≤ 140737488355328) (hbase : base ≤ w.heap.size)
    (h : ∀ v' w', w'.ownsRow base e size v' (n + m) (xs ++ news) → w.grownBy w' v.ownBlock → (v'.ownBlock = v.ownBlock ∨ v'.ownBlock = some w.heap.size) → wpList P ops Q rest (a.put o.dst v') w') : wpList P ops Q (o :: rest) a w := by
  refine wpList_step fun K hK => ?_
  rw [if_pos hw]
  rcases hsrc with ⟨rfl, rfl, rfl⟩ | ⟨ad, c, rfl, hnews⟩
  · have hr := run_append_owned_none (P := P) (w := w) base t o.type e i size ht hi v n xs hown
    unfold Oper.wp execOp
    simp only [ho, resolve, invoke, builtin, Sem.run_bind, Sem.run_pure, Result.andThen_ok, List.map_toArray, List.map_cons, List.map_nil, hs, hx, hr]
    exact hK _ _ (h v w (by simpa using hown) ⟨rfl, rfl, rfl, Nat.le_refl _, fun _ _ _ => rfl⟩ (.inl rfl))
  · obtain ⟨v', w', hr, h2, h3, h4, h5⟩ := run_append_own_at (P := P) w base t o.type e i z size bytes ht hi hz hsize hby hzs hsz v n xs hown ad m c news hl hnews h1 h63 hbytes hbase
    unfold Oper.wp execOp
    simp only [ho, resolve, invoke, builtin, Sem.run_bind, Sem.run_pure, Result.andThen_ok, List.map_toArray, List.map_cons, List.map_nil, hs, hx, hr]
    exact hK _ _ (h v' w' h2 h3 h5)
theorem info_u64 : (Tryz.prog.info? 24).map (fun i => (i.zero, i.size, i.bytes)) = some (some (.int .u64 0), 1, 8) := by kernel_rfl
theorem info_int : (Tryz.prog.info? 3).map (fun i => (i.zero, i.size, i.bytes)) = some (some (.int .i64 0), 1, 8) := by kernel_rfl
/-- A slice of numbers of one's own. -/
def OwnNums (W : World) (B : Nat) (v : Value) (zs : List Int) : Prop := W.ownsRow B 24 1 v zs.length (zs.map (fun n : Int => Value.int .u64 n))
theorem OwnNums.nil (W : World) (B : Nat) : OwnNums W B (.slice none 0 0) [] := World.ownsRow_nil _ _ _ _
theorem OwnNums.tr {W w : World} {B : Nat} {v : Value} {zs : List Int} (h : OwnNums W B v zs) (hb : Below W.heap.size W w) : OwnNums w B v zs := by
  refine World.ownsRow.kept h (below_grown hb none) ?_
  rcases hv : v.ownBlock with _ | k
  · exact .inl rfl
  · exact .inr (fun e => by cases e)
theorem OwnNums.lift {W : World} {B C : Nat} {v : Value} {zs : List Int} (h : OwnNums W B v zs) (hb : C ≤ B) : OwnNums W C v zs := by
  refine ⟨h.1, ?_⟩
  rcases h.2 with h | ⟨g, cap, cur, h1, h2, h3⟩
  · exact .inl h
  · exact .inr ⟨g, cap, cur, h1, by omega, h3⟩
theorem OwnNums.sees {W : World} {B : Nat} {v : Value} {zs : List Int} (h : OwnNums W B v zs) (h0 : 0 < W.heap.size) (hl : zs.length < 1000000000000) : NumsIn W v zs := by
  rcases h.2 with ⟨rfl, h1⟩ | ⟨g, cap, cur, rfl, h1, h2, h3, h4, h5, h6⟩
  · have hz : zs = [] := List.eq_nil_of_length_eq_zero h1
    subst hz
    exact NumsIn.nil h0
  · refine ⟨some ⟨g, 0, none⟩, g, 0, cap, rfl, ⟨fun _ => rfl, fun e => by cases e⟩, h3, ⟨by unfold maxLen at h4; omega, hl⟩, ?_, words_of fun i hi => ?_⟩
    · rcases Nat.lt_or_ge g W.heap.size with h7 | h7
      · exact h7
      · rw [Array.getElem?_eq_none h7] at h2; cases h2
    · have h7 := World.ownsRow.cells h (g := g) rfl i (.int .u64 (zs.getD i 0)) (by simp [List.getD, List.getElem?_eq_getElem hi])
      have e : (⟨g, 0, none⟩ : Addr).add i = ⟨g, i, none⟩ := by unfold Addr.add; split <;> simp_all
      rw [e] at h7
      simpa using h7
theorem src_OwnNums {w : World} {u : Value} {ys : List Int} (h : NumsIn w u ys) : (u = .slice none 0 0 ∧ ys.length = 0 ∧ (ys.map (fun n : Int => Value.int .u64 n)) = []) ∨ ∃ ad c, u = .slice (some ad) ys.length c ∧ ∀ j y, (ys.map (fun n : Int => Value.int .u64 n))[j]? = some y → w.cell? (ad.add j) = some y := by
  obtain ⟨ad, b, off, cap, rfl, ⟨h1, h2⟩, h3, h4, h5, h6⟩ := h
  rcases ad with _ | ad
  · have hz : ys = [] := by
      rcases Nat.eq_zero_or_pos ys.length with e | e
      · exact List.eq_nil_of_length_eq_zero e
      · cases h1 e
    subst hz
    rw [h2 rfl]
    exact .inl ⟨rfl, rfl, rfl⟩
  · refine .inr ⟨ad, cap, rfl, fun j y hj => ?_⟩
    have hl : j < ys.length := by
      rcases Nat.lt_or_ge j ys.length with e | e
      · exact e
      · simp [e] at hj
    have h7 := h1 (by omega)
    cases h7
    have e : (⟨b, off, none⟩ : Addr).add j = ⟨b, off + j, none⟩ := by unfold Addr.add; split <;> simp_all
    rw [e, h6.at j hl, ← hj]
    simp [List.getD, hl]
theorem one_OwnNums (ys : List Int) : ∀ u ∈ ys.map (fun n : Int => Value.int .u64 n), u.oneCell' = true := by
  intro u hu
  obtain ⟨b, _, rfl⟩ := List.mem_map.1 hu
  rfl
theorem app_OwnNums {ops : Array Oper} {rest : List Oper} {o : Oper} {a : Act} {Q : Exit → Act → World → Prop} (w : World) (hw : Region.wanted o (yielded ops a.tmps) = true) (s x : Operand)
    (ho : o.op = .call { callee := .builtin .append, args := #[s, x], argTypes := #[29, 29] })
    (B : Nat) (v u : Value) (xs ys : List Int) (hs : a.eval s = v) (hx : a.eval x = u) (hown : OwnNums w B v xs) (hys : NumsIn w u ys) (hbig : xs.length + ys.length < 1000000000000) (hB : B ≤ w.heap.size)
    (h : ∀ v' w', OwnNums w' B v' (xs ++ ys) → w.grownBy w' v.ownBlock → (v'.ownBlock = v.ownBlock ∨ v'.ownBlock = some w.heap.size) → wpList Tryz.prog ops Q rest (a.put o.dst v') w') : wpList Tryz.prog ops Q (o :: rest) a w := by
  obtain ⟨i0, hi, hz0, hz1, hz2⟩ := info_parts info_u64
  refine append_any w hw s x _ ho B 24 i0 (.int .u64 0) 1 8 Tryz.underlying29 hi hz0 hz1 hz2 rfl (by decide) v xs.length (xs.map (fun n : Int => Value.int .u64 n)) hs hown u ys.length (ys.map (fun n : Int => Value.int .u64 n)) hx (src_OwnNums hys) (by simp) (one_OwnNums ys) (by unfold maxLen; omega) (by omega) hB ?_
  intro v' w' h2 h3 h4
  refine h v' w' ?_ h3 h4
  unfold OwnNums
  simpa using h2
/-- A slice of numbers of one's own. -/
def OwnInts (W : World) (B : Nat) (v : Value) (zs : List Int) : Prop := W.ownsRow B 3 1 v zs.length (zs.map (fun n : Int => Value.int .i64 n))
theorem OwnInts.nil (W : World) (B : Nat) : OwnInts W B (.slice none 0 0) [] := World.ownsRow_nil _ _ _ _
theorem OwnInts.tr {W w : World} {B : Nat} {v : Value} {zs : List Int} (h : OwnInts W B v zs) (hb : Below W.heap.size W w) : OwnInts w B v zs := by
  refine World.ownsRow.kept h (below_grown hb none) ?_
  rcases hv : v.ownBlock with _ | k
  · exact .inl rfl
  · exact .inr (fun e => by cases e)
theorem OwnInts.lift {W : World} {B C : Nat} {v : Value} {zs : List Int} (h : OwnInts W B v zs) (hb : C ≤ B) : OwnInts W C v zs := by
  refine ⟨h.1, ?_⟩
  rcases h.2 with h | ⟨g, cap, cur, h1, h2, h3⟩
  · exact .inl h
  · exact .inr ⟨g, cap, cur, h1, by omega, h3⟩
theorem OwnInts.sees {W : World} {B : Nat} {v : Value} {zs : List Int} (h : OwnInts W B v zs) (h0 : 0 < W.heap.size) (hl : zs.length < 1000000000000) : IntsIn W v zs := by
  rcases h.2 with ⟨rfl, h1⟩ | ⟨g, cap, cur, rfl, h1, h2, h3, h4, h5, h6⟩
  · have hz : zs = [] := List.eq_nil_of_length_eq_zero h1
    subst hz
    exact IntsIn.nil h0
  · refine ⟨some ⟨g, 0, none⟩, g, 0, cap, rfl, ⟨fun _ => rfl, fun e => by cases e⟩, h3, ⟨by unfold maxLen at h4; omega, hl⟩, ?_, ints_of fun i hi => ?_⟩
    · rcases Nat.lt_or_ge g W.heap.size with h7 | h7
      · exact h7
      · rw [Array.getElem?_eq_none h7] at h2; cases h2
    · have h7 := World.ownsRow.cells h (g := g) rfl i (.int .i64 (zs.getD i 0)) (by simp [List.getD, List.getElem?_eq_getElem hi])
      have e : (⟨g, 0, none⟩ : Addr).add i = ⟨g, i, none⟩ := by unfold Addr.add; split <;> simp_all
      rw [e] at h7
      simpa using h7
theorem src_OwnInts {w : World} {u : Value} {ys : List Int} (h : IntsIn w u ys) : (u = .slice none 0 0 ∧ ys.length = 0 ∧ (ys.map (fun n : Int => Value.int .i64 n)) = []) ∨ ∃ ad c, u = .slice (some ad) ys.length c ∧ ∀ j y, (ys.map (fun n : Int => Value.int .i64 n))[j]? = some y → w.cell? (ad.add j) = some y := by
  obtain ⟨ad, b, off, cap, rfl, ⟨h1, h2⟩, h3, h4, h5, h6⟩ := h
  rcases ad with _ | ad
  · have hz : ys = [] := by
      rcases Nat.eq_zero_or_pos ys.length with e | e
      · exact List.eq_nil_of_length_eq_zero e
      · cases h1 e
    subst hz
    rw [h2 rfl]
    exact .inl ⟨rfl, rfl, rfl⟩
  · refine .inr ⟨ad, cap, rfl, fun j y hj => ?_⟩
    have hl : j < ys.length := by
      rcases Nat.lt_or_ge j ys.length with e | e
      · exact e
      · simp [e] at hj
    have h7 := h1 (by omega)
    cases h7
    have e : (⟨b, off, none⟩ : Addr).add j = ⟨b, off + j, none⟩ := by unfold Addr.add; split <;> simp_all
    rw [e, h6.at j hl, ← hj]
    simp [List.getD, hl]
theorem one_OwnInts (ys : List Int) : ∀ u ∈ ys.map (fun n : Int => Value.int .i64 n), u.oneCell' = true := by
  intro u hu
  obtain ⟨b, _, rfl⟩ := List.mem_map.1 hu
  rfl
theorem app_OwnInts {ops : Array Oper} {rest : List Oper} {o : Oper} {a : Act} {Q : Exit → Act → World → Prop} (w : World) (hw : Region.wanted o (yielded ops a.tmps) = true) (s x : Operand)
    (ho : o.op = .call { callee := .builtin .append, args := #[s, x], argTypes := #[23, 23] })
    (B : Nat) (v u : Value) (xs ys : List Int) (hs : a.eval s = v) (hx : a.eval x = u) (hown : OwnInts w B v xs) (hys : IntsIn w u ys) (hbig : xs.length + ys.length < 1000000000000) (hB : B ≤ w.heap.size)
    (h : ∀ v' w', OwnInts w' B v' (xs ++ ys) → w.grownBy w' v.ownBlock → (v'.ownBlock = v.ownBlock ∨ v'.ownBlock = some w.heap.size) → wpList Tryz.prog ops Q rest (a.put o.dst v') w') : wpList Tryz.prog ops Q (o :: rest) a w := by
  obtain ⟨i0, hi, hz0, hz1, hz2⟩ := info_parts info_int
  refine append_any w hw s x _ ho B 3 i0 (.int .i64 0) 1 8 Tryz.underlying23 hi hz0 hz1 hz2 rfl (by decide) v xs.length (xs.map (fun n : Int => Value.int .i64 n)) hs hown u ys.length (ys.map (fun n : Int => Value.int .i64 n)) hx (src_OwnInts hys) (by simp) (one_OwnInts ys) (by unfold maxLen; omega) (by omega) hB ?_
  intro v' w' h2 h3 h4
  refine h v' w' ?_ h3 h4
  unfold OwnInts
  simpa using h2
/-- One number more, out of a block of its own. -/
theorem one_nums (w : World) (x : Int) : NumsIn (w.alloc (.cells #[.int .u64 x] 24)) (.slice (some ⟨w.heap.size, 0, none⟩) 1 1) [x] :=
  ⟨some ⟨w.heap.size, 0, none⟩, w.heap.size, 0, 1, rfl, ⟨fun _ => rfl, fun e => by cases e⟩, Nat.le_refl _, by simp, by simp, words_of fun i hi => by
    have : i = 0 := by simp at hi; exact hi
    subst this; simp⟩
theorem one_ints (w : World) (x : Int) : IntsIn (w.alloc (.cells #[.int .i64 x] 3)) (.slice (some ⟨w.heap.size, 0, none⟩) 1 1) [x] :=
  ⟨some ⟨w.heap.size, 0, none⟩, w.heap.size, 0, 1, rfl, ⟨fun _ => rfl, fun e => by cases e⟩, Nat.le_refl _, by simp, by simp, ints_of fun i hi => by
    have : i = 0 := by simp at hi; exact hi
    subst this; simp⟩
theorem own_one (w : World) (x : Int) : OwnNums (w.alloc (.cells #[.int .u64 x] 24)) w.heap.size (.slice (some ⟨w.heap.size, 0, none⟩) 1 1) [x] := by
  refine ⟨by simp, .inr ⟨w.heap.size, 1, #[.int .u64 x], rfl, Nat.le_refl _, by show (w.heap.push _)[w.heap.size]? = _; simp, Nat.le_refl _, by unfold maxLen; omega, rfl, rfl⟩⟩
def pickI (c n : Int) : Int := (if c < 0 then -(c+1) else c) % n
theorem pickI_in (c : Int) {n : Int} (h : 0 < n) : 0 ≤ pickI c n ∧ pickI c n < n := ⟨Int.emod_nonneg _ (by omega), Int.emod_lt_of_pos _ h⟩
theorem pick_any (c n : Int) (w : World) (hn : 1 ≤ n) (hn2 : n < 1000000) (h1 : -9223372036854775808 ≤ c) (h2 : c < 9223372036854775808) :
    Calls Tryz.prog 69 #[.int .i64 c, .int .i64 n] w fun e w' => e = .returned (.int .i64 (pickI c n)) ∧ w = w' := by
  by_cases h : c < 0
  · have HP : Hid (pickI c n = -(c+1) % n) := by unfold pickI; rw [if_pos h]; rfl
    go_enter Tryz.func69, Tryz.ntmps69
    go_wp2
    go_ret
    exact retI (by rw [HP.out, ← Int.neg_tmod, Int.tmod_eq_emod_of_nonneg (by omega)]) rfl
  · have HP : Hid (pickI c n = c % n) := by unfold pickI; rw [if_neg h]; rfl
    go_enter Tryz.func69, Tryz.ntmps69
    go_wp2
    go_ret
    exact retI (by rw [HP.out]; try rw [Int.tmod_eq_emod_of_nonneg (by omega)]) rfl
def rawV (sz pt : Int) (sl : Value) (g : Bool) : Value := .agg #[.int .i64 sz, .int .i64 pt, sl, .bool g]
theorem shape_any (sz pt : Int) (sl : Value) (g : Bool) (w : World) (hsl : sl.oneCell' = true) (h1 : -9223372036854775808 ≤ sz ∧ sz < 9223372036854775808) (h2 : -9223372036854775808 ≤ pt ∧ pt < 9223372036854775808) :
    Calls Tryz.prog 39 #[rawV sz pt sl g] w fun e w' => e = .returned (.agg #[.int .i64 (pickI sz 7), .int .i64 (pickI pt (pickI sz 7 + 1))]) ∧ Below w.heap.size w w' := by
  unfold rawV
  obtain ⟨hS1, hS2⟩ := pickI_in sz (n := 7) (by omega)
  go_enter Tryz.func39, Tryz.ntmps39
  go_wp2_with fail
  refine (pick_any _ _ _ (by omega) (by omega) h1.1 h1.2).mono ?_; rintro e ww ⟨rfl, rfl⟩
  go_wp2_with fail
  refine (pick_any _ _ _ (by omega) (by omega) h2.1 h2.2).mono ?_; rintro e ww ⟨rfl, rfl⟩
  go_wp2_with fail
  refine bodyPost_ret (v := .agg #[.int .i64 (pickI sz 7), .int .i64 (pickI pt (pickI sz 7 + 1))]) (by simp only [results, Tryz.results39]; go_simp) rfl ⟨rfl, ?_⟩
  (repeat (first | with_reducible exact Below.refl _ _ | with_reducible refine kp_alloc ?_ _ | with_reducible refine kp_drew ?_ | with_reducible refine kp_set ?_ (by first | omega | (simp; done) | (simp; omega)) _ | with_reducible refine kp_tr ?_ (by with_reducible assumption)))
end Go.Proofs.YtpgjploaliefdaaGreat.ob
