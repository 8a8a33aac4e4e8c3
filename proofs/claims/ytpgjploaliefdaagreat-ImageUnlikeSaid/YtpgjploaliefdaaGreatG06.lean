/- Rows of one's own; append; pick, Shape. No conditions. -/
import Derived.Test.YtpgjploaliefdaaGreatSa
import Derived.Maps.AppendAt
import Derived.Laws.AppendOwn
import Derived.Laws.OwnMore
import Derived.Test.YtpgjploaliefdaaGreatG05
namespace Go.Proofs.YtpgjploaliefdaaGreat.ob
open Go.RowKit hd
set_option linter.unusedVariables false
set_option linter.unusedSimpArgs false
theorem append_any {P : Program} {ops : Array Oper} {rest : List Oper} {o : Oper} {a : Act} {Q : Exit → Act → World → Prop} (w : World) (hw : Region.wanted o (yielded ops a.tmps) = true) (s x : Operand) (t : TypeId)
  (ho : o.op = .call { callee := .builtin .append, args := #[s, x], argTypes := #[t, t] })
  (base : Nat) (e : TypeId) (i : TypeInfo) (z : Value) (size bytes : Nat) (ht : P.underlying t = some (.slice e)) (hi : P.info? e = some i) (hz : i.zero = some z)
  (hsize : i.size = size) (hby : i.bytes = bytes) (hzs : z.cells.size = size) (hsz : 0 < size)
  (v : Value) (n : Nat) (xs : List Value) (hs : a.eval s = v) (hown : w.ownsRow base e size v n xs)
  (u : Value) (m : Nat) (news : List Value) (hx : a.eval x = u) (hsrc : (u = .slice none 0 0 ∧ m = 0 ∧ news = []) ∨ ∃ ad c, u = .slice (some ad) m c ∧ ∀ j y, news[j]? = some y → w.cell? (ad.add j) = some y)
  (hl : news.length = m * size) (h1 : ∀ u ∈ news, u.oneCell' = true)
  (h63 : n + m ≤ maxLen) (hbytes : (n + m) * bytes ≤ 140737488355328) (hbase : base ≤ w.heap.size)
  (h : ∀ v' w', w'.ownsRow base e size v' (n + m) (xs ++ news) → w.grownBy w' v.ownBlock → (v'.ownBlock = v.ownBlock ∨ v'.ownBlock = some w.heap.size) → wpList P ops Q rest (a.put o.dst v') w') : wpList P ops Q (o :: rest) a w := by
 refine wpList_step fun K hK => ?_
 rw [if_pos hw]
 rcases hsrc with ⟨rfl, rfl, rfl⟩ | ⟨ad, c, rfl, hnews⟩
 ·have hr := run_append_owned_none (P := P) (w := w) base t o.type e i size ht hi v n xs hown
  unfold Oper.wp execOp
  simp only [ho, resolve, invoke, builtin, Sem.run_bind, Sem.run_pure, Result.andThen_ok, List.map_toArray, List.map_cons, List.map_nil, hs, hx, hr]
  exact hK _ _ (h v w (by simpa using hown) ⟨rfl, rfl, rfl, Nat.le_refl _, fun _ _ _ => rfl⟩ (.inl rfl))
 ·obtain ⟨v', w', hr, h2, h3, h4, h5⟩ := run_append_own_at (P := P) w base t o.type e i z size bytes ht hi hz hsize hby hzs hsz v n xs hown ad m c news hl hnews h1 h63 hbytes hbase
  unfold Oper.wp execOp
  simp only [ho, resolve, invoke, builtin, Sem.run_bind, Sem.run_pure, Result.andThen_ok, List.map_toArray, List.map_cons, List.map_nil, hs, hx, hr]
  exact hK _ _ (h v' w' h2 h3 h5)
theorem info_u64 : (Tryz.prog.info? 24).map (fun i => (i.zero, i.size, i.bytes)) = some (some (.int .u64 0), 1, 8) := by kernel_rfl
theorem info_int : (Tryz.prog.info? 3).map (fun i => (i.zero, i.size, i.bytes)) = some (some (.int .i64 0), 1, 8) := by kernel_rfl
def OwnNums (W : World) (B : Nat) (v : Value) (zs : List Int) : Prop := W.ownsRow B 24 1 v zs.length (zs.map (fun n : Int => Value.int .u64 n))
theorem OwnNums.nil (W : World) (B : Nat) : OwnNums W B (.slice none 0 0) [] := World.ownsRow_nil _ _ _ _
theorem OwnNums.tr {W w : World} {B : Nat} {v : Value} {zs : List Int} (h : OwnNums W B v zs) (hb : Below W.heap.size W w) : OwnNums w B v zs := by
 refine World.ownsRow.kept h (below_grown hb none) ?_
 rcases hv : v.ownBlock with _ | k
 ·exact .inl rfl
 ·exact .inr (fun e => by cases e)
theorem OwnNums.lift {W : World} {B C : Nat} {v : Value} {zs : List Int} (h : OwnNums W B v zs) (hb : C ≤ B) : OwnNums W C v zs := by
 refine ⟨h.1, ?_⟩
 rcases h.2 with h | ⟨g, cap, cur, h1, h2, h3⟩
 ·exact .inl h
 ·exact .inr ⟨g, cap, cur, h1, by omega, h3⟩
theorem OwnNums.sees {W : World} {B : Nat} {v : Value} {zs : List Int} (h : OwnNums W B v zs) (h0 : 0 < W.heap.size) (hl : zs.length < 1000000000000) : NumsIn W v zs := by
 rcases h.2 with ⟨rfl, h1⟩ | ⟨g, cap, cur, rfl, h1, h2, h3, h4, h5, h6⟩
 ·have hz : zs = [] := List.eq_nil_of_length_eq_zero h1
  subst hz
  exact NumsIn.nil h0
 ·refine ⟨some ⟨g, 0, none⟩, g, 0, cap, rfl, ⟨fun _ => rfl, fun e => by cases e⟩, h3, ⟨by unfold maxLen at h4; omega, hl⟩, ?_, words_of fun i hi => ?_⟩
  ·rcases Nat.lt_or_ge g W.heap.size with h7 | h7
   ·exact h7
   ·rw [Array.getElem?_eq_none h7] at h2; cases h2
  ·have h7 := World.ownsRow.cells h (g := g) rfl i (.int .u64 (zs.getD i 0)) (by simp [List.getD, List.getElem?_eq_getElem hi])
   have e : (⟨g, 0, none⟩ : Addr).add i = ⟨g, i, none⟩ := by unfold Addr.add; split <;> simp_all
   rw [e] at h7
   simpa using h7
theorem src_OwnNums {w : World} {u : Value} {ys : List Int} (h : NumsIn w u ys) : (u = .slice none 0 0 ∧ ys.length = 0 ∧ (ys.map (fun n : Int => Value.int .u64 n)) = []) ∨ ∃ ad c, u = .slice (some ad) ys.length c ∧ ∀ j y, (ys.map (fun n : Int => Value.int .u64 n))[j]? = some y → w.cell? (ad.add j) = some y := by
 obtain ⟨ad, b, off, cap, rfl, ⟨h1, h2⟩, h3, h4, h5, h6⟩ := h
 rcases ad with _ | ad
 ·have hz : ys = [] := by
   rcases Nat.eq_zero_or_pos ys.length with e | e
   ·exact List.eq_nil_of_length_eq_zero e
   ·cases h1 e
  subst hz
  rw [h2 rfl]
  exact .inl ⟨rfl, rfl, rfl⟩
 ·refine .inr ⟨ad, cap, rfl, fun j y hj => ?_⟩
  have hl : j < ys.length := by
   rcases Nat.lt_or_ge j ys.length with e | e
   ·exact e
   ·simp [e] at hj
  have h7 := h1 (by omega)
  cases h7
  have e : (⟨b, off, none⟩ : Addr).add j = ⟨b, off + j, none⟩ := by unfold Addr.add; split <;> simp_all
  rw [e, h6.at j hl, ← hj]
  simp [List.getD, hl]
theorem one_OwnNums (ys : List Int) : ∀ u ∈ ys.map (fun n : Int => Value.int .u64 n), u.oneCell' = true := by
 intro u hu
 obtain ⟨b, _, rfl⟩ := List.mem_map.1 hu
 rfl
theorem app_OwnNums {ops : Array Oper} {rest : List Oper} {o : Oper} {a : Act} {Q : Exit → Act → World → Prop} (w : World) (hw : Region.wanted o (yielded ops a.tmps) = true) (s x : Operand)
  (ho : o.op = .call { callee := .builtin .append, args := #[s, x], argTypes := #[29, 29] })
  (B : Nat) (v u : Value) (xs ys : List Int) (hs : a.eval s = v) (hx : a.eval x = u) (hown : OwnNums w B v xs) (hys : NumsIn w u ys) (hbig : xs.length + ys.length < 1000000000000) (hB : B ≤ w.heap.size)
  (h : ∀ v' w', OwnNums w' B v' (xs ++ ys) → w.grownBy w' v.ownBlock → (v'.ownBlock = v.ownBlock ∨ v'.ownBlock = some w.heap.size) → wpList Tryz.prog ops Q rest (a.put o.dst v') w') : wpList Tryz.prog ops Q (o :: rest) a w := by
 obtain ⟨i0, hi, hz0, hz1, hz2⟩ := info_parts info_u64
 refine append_any w hw s x _ ho B 24 i0 (.int .u64 0) 1 8 Tryz.underlying29 hi hz0 hz1 hz2 rfl (by decide) v xs.length (xs.map (fun n : Int => Value.int .u64 n)) hs hown u ys.length (ys.map (fun n : Int => Value.int .u64 n)) hx (src_OwnNums hys) (by simp) (one_OwnNums ys) (by unfold maxLen; omega) (by omega) hB ?_
 intro v' w' h2 h3 h4
 refine h v' w' ?_ h3 h4
 unfold OwnNums
 simpa using h2
def OwnInts (W : World) (B : Nat) (v : Value) (zs : List Int) : Prop := W.ownsRow B 3 1 v zs.length (zs.map (fun n : Int => Value.int .i64 n))
theorem OwnInts.nil (W : World) (B : Nat) : OwnInts W B (.slice none 0 0) [] := World.ownsRow_nil _ _ _ _
theorem OwnInts.tr {W w : World} {B : Nat} {v : Value} {zs : List Int} (h : OwnInts W B v zs) (hb : Below W.heap.size W w) : OwnInts w B v zs := by
 refine World.ownsRow.kept h (below_grown hb none) ?_
 rcases hv : v.ownBlock with _ | k
 ·exact .inl rfl
 ·exact .inr (fun e => by cases e)
theorem OwnInts.lift {W : World} {B C : Nat} {v : Value} {zs : List Int} (h : OwnInts W B v zs) (hb : C ≤ B) : OwnInts W C v zs := by
 refine ⟨h.1, ?_⟩
 rcases h.2 with h | ⟨g, cap, cur, h1, h2, h3⟩
 ·exact .inl h
 ·exact .inr ⟨g, cap, cur, h1, by omega, h3⟩
theorem OwnInts.sees {W : World} {B : Nat} {v : Value} {zs : List Int} (h : OwnInts W B v zs) (h0 : 0 < W.heap.size) (hl : zs.length < 1000000000000) : IntsIn W v zs := by
 rcases h.2 with ⟨rfl, h1⟩ | ⟨g, cap, cur, rfl, h1, h2, h3, h4, h5, h6⟩
 ·have hz : zs = [] := List.eq_nil_of_length_eq_zero h1
  subst hz
  exact IntsIn.nil h0
 ·refine ⟨some ⟨g, 0, none⟩, g, 0, cap, rfl, ⟨fun _ => rfl, fun e => by cases e⟩, h3, ⟨by unfold maxLen at h4; omega, hl⟩, ?_, ints_of fun i hi => ?_⟩
  ·rcases Nat.lt_or_ge g W.heap.size with h7 | h7
   ·exact h7
   ·rw [Array.getElem?_eq_none h7] at h2; cases h2
  ·have h7 := World.ownsRow.cells h (g := g) rfl i (.int .i64 (zs.getD i 0)) (by simp [List.getD, List.getElem?_eq_getElem hi])
   have e : (⟨g, 0, none⟩ : Addr).add i = ⟨g, i, none⟩ := by unfold Addr.add; split <;> simp_all
   rw [e] at h7
   simpa using h7
theorem src_OwnInts {w : World} {u : Value} {ys : List Int} (h : IntsIn w u ys) : (u = .slice none 0 0 ∧ ys.length = 0 ∧ (ys.map (fun n : Int => Value.int .i64 n)) = []) ∨ ∃ ad c, u = .slice (some ad) ys.length c ∧ ∀ j y, (ys.map (fun n : Int => Value.int .i64 n))[j]? = some y → w.cell? (ad.add j) = some y := by
 obtain ⟨ad, b, off, cap, rfl, ⟨h1, h2⟩, h3, h4, h5, h6⟩ := h
 rcases ad with _ | ad
 ·have hz : ys = [] := by
   rcases Nat.eq_zero_or_pos ys.length with e | e
   ·exact List.eq_nil_of_length_eq_zero e
   ·cases h1 e
  subst hz
  rw [h2 rfl]
  exact .inl ⟨rfl, rfl, rfl⟩
 ·refine .inr ⟨ad, cap, rfl, fun j y hj => ?_⟩
  have hl : j < ys.length := by
   rcases Nat.lt_or_ge j ys.length with e | e
   ·exact e
   ·simp [e] at hj
  have h7 := h1 (by omega)
  cases h7
  have e : (⟨b, off, none⟩ : Addr).add j = ⟨b, off + j, none⟩ := by unfold Addr.add; split <;> simp_all
  rw [e, h6.at j hl, ← hj]
  simp [List.getD, hl]
theorem one_OwnInts (ys : List Int) : ∀ u ∈ ys.map (fun n : Int => Value.int .i64 n), u.oneCell' = true := by
 intro u hu
 obtain ⟨b, _, rfl⟩ := List.mem_map.1 hu
 rfl
theorem app_OwnInts {ops : Array Oper} {rest : List Oper} {o : Oper} {a : Act} {Q : Exit → Act → World → Prop} (w : World) (hw : Region.wanted o (yielded ops a.tmps) = true) (s x : Operand)
  (ho : o.op = .call { callee := .builtin .append, args := #[s, x], argTypes := #[23, 23] })
  (B : Nat) (v u : Value) (xs ys : List Int) (hs : a.eval s = v) (hx : a.eval x = u) (hown : OwnInts w B v xs) (hys : IntsIn w u ys) (hbig : xs.length + ys.length < 1000000000000) (hB : B ≤ w.heap.size)
  (h : ∀ v' w', OwnInts w' B v' (xs ++ ys) → w.grownBy w' v.ownBlock → (v'.ownBlock = v.ownBlock ∨ v'.ownBlock = some w.heap.size) → wpList Tryz.prog ops Q rest (a.put o.dst v') w') : wpList Tryz.prog ops Q (o :: rest) a w := by
 obtain ⟨i0, hi, hz0, hz1, hz2⟩ := info_parts info_int
 refine append_any w hw s x _ ho B 3 i0 (.int .i64 0) 1 8 Tryz.underlying23 hi hz0 hz1 hz2 rfl (by decide) v xs.length (xs.map (fun n : Int => Value.int .i64 n)) hs hown u ys.length (ys.map (fun n : Int => Value.int .i64 n)) hx (src_OwnInts hys) (by simp) (one_OwnInts ys) (by unfold maxLen; omega) (by omega) hB ?_
 intro v' w' h2 h3 h4
 refine h v' w' ?_ h3 h4
 unfold OwnInts
 simpa using h2
theorem one_nums (w : World) (x : Int) : NumsIn (w.alloc (.cells #[.int .u64 x] 24)) (.slice (some ⟨w.heap.size, 0, none⟩) 1 1) [x] :=
 ⟨some ⟨w.heap.size, 0, none⟩, w.heap.size, 0, 1, rfl, ⟨fun _ => rfl, fun e => by cases e⟩, Nat.le_refl _, by simp, by simp, words_of fun i hi => by
  have : i = 0 := by simp at hi; exact hi
  subst this; simp⟩
theorem one_ints (w : World) (x : Int) : IntsIn (w.alloc (.cells #[.int .i64 x] 3)) (.slice (some ⟨w.heap.size, 0, none⟩) 1 1) [x] :=
 ⟨some ⟨w.heap.size, 0, none⟩, w.heap.size, 0, 1, rfl, ⟨fun _ => rfl, fun e => by cases e⟩, Nat.le_refl _, by simp, by simp, ints_of fun i hi => by
  have : i = 0 := by simp at hi; exact hi
  subst this; simp⟩
theorem own_one (w : World) (x : Int) : OwnNums (w.alloc (.cells #[.int .u64 x] 24)) w.heap.size (.slice (some ⟨w.heap.size, 0, none⟩) 1 1) [x] := by
 refine ⟨by simp, .inr ⟨w.heap.size, 1, #[.int .u64 x], rfl, Nat.le_refl _, by show (w.heap.push _)[w.heap.size]? = _; simp, Nat.le_refl _, by unfold maxLen; omega, rfl, rfl⟩⟩
def pickI (c n : Int) : Int := (if c < 0 then -(c+1) else c) % n
theorem pickI_in (c : Int) {n : Int} (h : 0 < n) : 0 ≤ pickI c n ∧ pickI c n < n := ⟨Int.emod_nonneg _ (by omega), Int.emod_lt_of_pos _ h⟩
theorem pick_any (c n : Int) (w : World) (hn : 1 ≤ n) (hn2 : n < 1000000) (h1 : -9223372036854775808 ≤ c) (h2 : c < 9223372036854775808) :
  Calls Tryz.prog 69 #[.int .i64 c, .int .i64 n] w fun e w' => e = .returned (.int .i64 (pickI c n)) ∧ w = w' := by
 by_cases h : c < 0
 ·have HP : Hid (pickI c n = -(c+1) % n) := by unfold pickI; rw [if_pos h]; rfl
  go_enter Tryz.func69, Tryz.ntmps69
  go_wp2
  go_ret
  exact retI (by rw [HP.out, ← Int.neg_tmod, Int.tmod_eq_emod_of_nonneg (by omega)]) rfl
 ·have HP : Hid (pickI c n = c % n) := by unfold pickI; rw [if_neg h]; rfl
  go_enter Tryz.func69, Tryz.ntmps69
  go_wp2
  go_ret
  exact retI (by rw [HP.out]; try rw [Int.tmod_eq_emod_of_nonneg (by omega)]) rfl
def rawV (sz pt : Int) (sl : Value) (g : Bool) : Value := .agg #[.int .i64 sz, .int .i64 pt, sl, .bool g]
theorem shape_any (sz pt : Int) (sl : Value) (g : Bool) (w : World) (hsl : sl.oneCell' = true) (h1 : -9223372036854775808 ≤ sz ∧ sz < 9223372036854775808) (h2 : -9223372036854775808 ≤ pt ∧ pt < 9223372036854775808) :
  Calls Tryz.prog 39 #[rawV sz pt sl g] w fun e w' => e = .returned (.agg #[.int .i64 (pickI sz 7), .int .i64 (pickI pt (pickI sz 7 + 1))]) ∧ Below w.heap.size w w' := by
 unfold rawV
 obtain ⟨hS1, hS2⟩ := pickI_in sz (n := 7) (by omega)
 go_enter Tryz.func39, Tryz.ntmps39
 go_wp2_with fail
 refine (pick_any _ _ _ (by omega) (by omega) h1.1 h1.2).mono ?_; rintro e ww ⟨rfl, rfl⟩
 go_wp2_with fail
 refine (pick_any _ _ _ (by omega) (by omega) h2.1 h2.2).mono ?_; rintro e ww ⟨rfl, rfl⟩
 go_wp2_with fail
 refine bodyPost_ret (v := .agg #[.int .i64 (pickI sz 7), .int .i64 (pickI pt (pickI sz 7 + 1))]) (by simp only [results, Tryz.results39]; go_simp) rfl ⟨rfl, ?_⟩
 exact bm
end Go.Proofs.YtpgjploaliefdaaGreat.ob
namespace Go.Proofs.YtpgjploaliefdaaGreat.ob
open Go.RowKit hd
set_option linter.unusedVariables false
set_option linter.unusedSimpArgs false
def ptrsOk (ys : List Int) (p : Nat) : Prop := ∀ i, i < p → ptrB (ys.getD i 0) = true
theorem ptrsOk_succ {ys : List Int} {k : Nat} (h : ptrsOk ys k) : ptrB (ys.getD k 0) = true → ptrsOk ys (k + 1) := fun g i hi => by
 by_cases e : i < k
 ·exact h i e
 ·obtain rfl : i = k := by omega
  exact g
theorem ptrsOk_bad {ys : List Int} {k n : Nat} (h : k < n) : ptrB (ys.getD k 0) = false → ¬ ptrsOk ys n := fun g q => by
 have := q k h; rw [g] at this; cases this
def layOk (s p : Int) (ys : List Int) : Prop := rightB s p = true ∧ (ys.length : Int) = s
def LayPost (B : Nat) (s p : Int) (ys : List Int) (e : Ending) (W : World) : Prop :=
 (¬ layOk s p ys ∧ e = .returned (.tuple #[.slice none 0 0, .int .i64 1])) ∨
 (layOk s p ys ∧ ¬ ptrsOk ys p.toNat ∧ e = .returned (.tuple #[.slice none 0 0, .int .i64 3])) ∨
 (layOk s p ys ∧ ptrsOk ys p.toNat ∧ ∃ v, e = .returned (.tuple #[v, .int .i64 0]) ∧ OwnNums W B v (packV s p :: ys))
theorem packE_ok {s p : Int} (h : rightB s p = true) : packE s p = 0 := by simp [packE, h]
theorem packE_no {s p : Int} (h : rightB s p = false) : packE s p = 1 := by simp [packE, h]
def RawIn (W : World) (sl : Value) (zs : List Int) : Prop := ∃ (ad : Option Addr) (n cap : Nat), sl = .slice ad n cap ∧ n < 9223372036854775808 ∧ (∀ i, i < n → ∃ x, ad = some x ∧ (x.add i).block < W.heap.size ∧ W.cell? (x.add i) = some (.int .u64 (zs.getD i 0))) ∧ Small zs
theorem RawIn.tr {W w : World} {sl : Value} {zs : List Int} (h : RawIn W sl zs) (hb : Below W.heap.size W w) : RawIn w sl zs := by
 obtain ⟨ad, n, cap, e, h1, h2, h3⟩ := h
 refine ⟨ad, n, cap, e, h1, fun i hi => ?_, h3⟩
 obtain ⟨x, e1, e2, e3⟩ := h2 i hi
 exact ⟨x, e1, Nat.lt_of_lt_of_le e2 hb.size, cell_tr hb e3⟩
theorem or3_in {w : Int} (h1 : 0 ≤ w) (h2 : w < 18446744073709551616) : ptrB (bits .or .u64 w 3) = true ∧ 0 ≤ bits .or .u64 w 3 ∧ bits .or .u64 w 3 < 18446744073709551616 := by
 obtain ⟨A, rfl⟩ := Int.eq_ofNat_of_zero_le h1
 have hA : A < 2 ^ 64 := by omega
 have e : bits .or .u64 (A : Int) 3 = ((A ||| 3 : Nat) : Int) := u64_or_nat A 3 (by omega) (by omega)
 have hx : A ||| 3 < 2 ^ 64 := Nat.or_lt_two_pow hA (by omega)
 have h3 : 3 ≤ A ||| 3 := Nat.right_le_or
 have h4 : (A ||| 3) % 2 = 1 := by
  have := Nat.or_mod_two_pow (a := A) (b := 3) (n := 1)
  simp only [Nat.pow_one] at this
  rw [this]
  rcases Nat.mod_two_eq_zero_or_one A with h | h <;> rw [h] <;> rfl
 rw [e]
 refine ⟨?_, by omega, by omega⟩
 unfold ptrB
 rw [decide_eq_true_eq]
 omega
structure SlotsOf (S p : Nat) (ys : List Int) : Prop where
 len : ys.length = S
 ptrs : ptrsOk ys p
 small : Small ys
theorem small_snoc {ys : List Int} {x : Int} (h : Small ys) (h1 : 0 ≤ x) (h2 : x < 18446744073709551616) : Small (ys ++ [x]) := by
 intro i
 by_cases e : i < ys.length
 ·have := h i
  simp only [List.getD, List.getElem?_append_left e] at this ⊢
  exact this
 ·by_cases e2 : i = ys.length
  ·subst e2; simp [List.getD]; omega
  ·simp [List.getD, List.getElem?_append_right (Nat.le_of_not_lt e), List.getElem?_eq_none (show [x].length ≤ i - ys.length by simp; omega)]
theorem small_nil : Small [] := fun i => by simp
theorem ptrs_snoc {ys : List Int} {x : Int} {k p : Nat} (hk : ys.length = k) (h : ptrsOk ys (min k p)) (hx : k < p → ptrB x = true) : ptrsOk (ys ++ [x]) (min (k + 1) p) := by
 intro i hi
 by_cases e : i < ys.length
 ·have := h i (by omega)
  simp only [List.getD, List.getElem?_append_left e] at this ⊢
  exact this
 ·have e2 : i = ys.length := by omega
  subst e2
  simp [List.getD]
  exact hx (by omega)
set_option maxHeartbeats 1000000 in
theorem slots_raw (sz pt : Int) (sl : Value) (g : Bool) (zs : List Int) (w : World) (hs : RawIn w sl zs) (h1 : -9223372036854775808 ≤ sz ∧ sz < 9223372036854775808) (h2 : -9223372036854775808 ≤ pt ∧ pt < 9223372036854775808) :
  Calls Tryz.prog 41 #[rawV sz pt sl g] w fun e w' => (∃ v ys, e = .returned v ∧ OwnNums w' w.heap.size v ys ∧ SlotsOf (pickI sz 7).toNat (pickI pt (pickI sz 7 + 1)).toNat ys) ∧ Below w.heap.size w w' := by
 have hone : sl.oneCell' = true := by obtain ⟨_, _, _, rfl, _⟩ := hs; rfl
 obtain ⟨ad, n, cap, rfl, hn, hc, hz⟩ := hs
 have HC := Lib.hid hc
 have HZ := Lib.hid hz
 clear hc hz
 obtain ⟨hS1, hS2⟩ := pickI_in sz (n := 7) (by omega)
 obtain ⟨hP1, hP2⟩ := pickI_in pt (n := pickI sz 7 + 1) (by omega)
 go_enter Tryz.func41, Tryz.ntmps41
 unfold rawV
 go_wp2_with fail
 refine (shape_any sz pt _ g _ hone h1 h2).mono ?_; rintro e w1 ⟨rfl, k1⟩
 generalize hSS : pickI sz 7 = sI at *
 generalize hPP : pickI pt (sI + 1) = pI at *
 obtain ⟨S, rfl⟩ := Int.eq_ofNat_of_zero_le hS1
 obtain ⟨p, rfl⟩ := Int.eq_ofNat_of_zero_le hP1
 have HSP : Hid (pickI sz 7 = (S : Int) ∧ pickI pt ((S : Int) + 1) = (p : Int)) := ⟨hSS, hPP⟩
 clear hSS hPP
 have Kx : Blk w1 w.heap.size #[.int .i64 sz, .int .i64 pt, .slice ad n cap, .bool g] 83 := Blk.tr (by exact bk) k1
 have HB1 : Below w.heap.size w w1 := by exact bm
 clear k1
 have Ks := Blk.new w1 #[.int .i64 S, .int .i64 p] 56
 replace Kx := Kx.alloc (.cells #[.int .i64 S, .int .i64 p] 56)
 have HB2 : Below w.heap.size w (w1.alloc (.cells #[.int .i64 S, .int .i64 p] 56)) := by exact bm
 have hs1 := HB1.size
 go_wp2_with fail
 generalize hW2 : w1.alloc (.cells #[.int .i64 S, .int .i64 p] 56) = w2 at *
 clear hW2 HB1
 go_loopw [5, 4] (fun i v wr => ∃ (k : Nat) (ys : List Int), k ≤ S ∧ i = .int .i64 k ∧ ys.length = k ∧ Hid (ptrsOk ys (min k p)) ∧ Hid (Small ys) ∧ OwnNums wr w2.heap.size v ys ∧ Below w2.heap.size w2 wr) (fun i _ _ => S - (intOf i).toNat)
 case atStart => exact ⟨0, [], Nat.zero_le _, rfl, rfl, fun i hi => by omega, small_nil, OwnNums.nil _ _, Below.refl _ _⟩
 case round =>
  obtain ⟨k, ys, hk, rfl, hyl, hpo, hsm, hown, hbr⟩ := hrel
  replace Kx := Kx.tr hbr
  replace Ks := Ks.tr hbr
  obtain ⟨lx, cx, fx⟩ := Kx.get
  obtain ⟨ls, cs, fs⟩ := Ks.get
  have cs0 := cs 0
  have cs1 := cs 1
  have HO := Lib.hid hown
  have HBR := Lib.hid hbr
  have hws := hbr.size
  clear hown hbr
  by_cases hlk : k < S
  ·by_cases hkn : k < n
   ·have hknI : (k : Int) < (n : Int) := by omega
    obtain ⟨x0, rfl, hxl, hxc⟩ := HC.out k hkn
    have hxk := cell_tr (HB2.trans (HBR.out.mono HB2.size)) hxc
    have hzk := HZ.out k
    clear hxc
    generalize zs.getD k 0 = x at *
    by_cases hkp : k < p
    ·have hkpI : (k : Int) < (p : Int) := by omega
     go_wp2_with fail
     refine (ptrref_any x _ hzk.1 hzk.2).mono ?_; rintro e ww ⟨rfl, rfl⟩
     rcases hpb : ptrB x with _ | _
     ·have h3 := or3_in hzk.1 hzk.2
      go_wp2_with (at_builtin; refine app_OwnNums _ rfl _ _ rfl w2.heap.size _ (.slice (some ⟨wr.heap.size, 0, none⟩) 1 1) ys [(bits .or .u64 x 3)] rfl rfl (HO.out.tr ((Below.refl _ _).alloc (Nat.le_refl _) _)) (one_nums _ _) ?c0 ?c1 ?c2)
      case c0 => first | omega | (simp; omega)
      case c1 => exact Nat.le_trans hws (by simp)
      case c2 =>
      intro v' w3 ho hg hat
      have hol := World.ownsRow.lt HO.out
      go_wp2_with fail
      refine ⟨⟨k + 1, ys ++ [(bits .or .u64 x 3)], by omega, by go_num, by simp; omega, ptrs_snoc hyl hpo.out (fun h => h3.1), small_snoc hsm.out h3.2.1 h3.2.2, ho, ?_⟩, by simp [intOf]; omega⟩
      have hB3 := HBR.out
      exact ⟨hg.os.trans hB3.os, hg.tape.trans hB3.tape, hg.output.trans hB3.output, Nat.le_trans hB3.size (Nat.le_trans (by simp) hg.size), fun j hj => (hg.block j (by simp; omega) (fun e => by have := hol j e.symm; omega)).trans ((Below.heap_alloc _ _ _ (by omega)).trans (hB3.block j hj))⟩
     ·go_wp2_with (at_builtin; refine app_OwnNums _ rfl _ _ rfl w2.heap.size _ (.slice (some ⟨wr.heap.size, 0, none⟩) 1 1) ys [x] rfl rfl (HO.out.tr ((Below.refl _ _).alloc (Nat.le_refl _) _)) (one_nums _ _) ?c0 ?c1 ?c2)
      case c0 => first | omega | (simp; omega)
      case c1 => exact Nat.le_trans hws (by simp)
      case c2 =>
      intro v' w3 ho hg hat
      have hol := World.ownsRow.lt HO.out
      go_wp2_with fail
      refine ⟨⟨k + 1, ys ++ [x], by omega, by go_num, by simp; omega, ptrs_snoc hyl hpo.out (fun h => hpb), small_snoc hsm.out hzk.1 hzk.2, ho, ?_⟩, by simp [intOf]; omega⟩
      have hB3 := HBR.out
      exact ⟨hg.os.trans hB3.os, hg.tape.trans hB3.tape, hg.output.trans hB3.output, Nat.le_trans hB3.size (Nat.le_trans (by simp) hg.size), fun j hj => (hg.block j (by simp; omega) (fun e => by have := hol j e.symm; omega)).trans ((Below.heap_alloc _ _ _ (by omega)).trans (hB3.block j hj))⟩
    ·have hkpI : ¬ (k : Int) < (p : Int) := by omega
     go_wp2_with (at_builtin; refine app_OwnNums _ rfl _ _ rfl w2.heap.size _ (.slice (some ⟨wr.heap.size, 0, none⟩) 1 1) ys [x] rfl rfl (HO.out.tr ((Below.refl _ _).alloc (Nat.le_refl _) _)) (one_nums _ _) ?c0 ?c1 ?c2)
     case c0 => first | omega | (simp; omega)
     case c1 => exact Nat.le_trans hws (by simp)
     case c2 =>
     intro v' w3 ho hg hat
     have hol := World.ownsRow.lt HO.out
     go_wp2_with fail
     refine ⟨⟨k + 1, ys ++ [x], by omega, by go_num, by simp; omega, ptrs_snoc hyl hpo.out (fun h => absurd h hkp), small_snoc hsm.out hzk.1 hzk.2, ho, ?_⟩, by simp [intOf]; omega⟩
     have hB3 := HBR.out
     exact ⟨hg.os.trans hB3.os, hg.tape.trans hB3.tape, hg.output.trans hB3.output, Nat.le_trans hB3.size (Nat.le_trans (by simp) hg.size), fun j hj => (hg.block j (by simp; omega) (fun e => by have := hol j e.symm; omega)).trans ((Below.heap_alloc _ _ _ (by omega)).trans (hB3.block j hj))⟩
   ·have hknI : ¬ (k : Int) < (n : Int) := by omega
    have hp0 : ptrB 0 = true := by decide
    by_cases hkp : k < p
    ·have hkpI : (k : Int) < (p : Int) := by omega
     go_wp2_with fail
     refine (ptrref_any 0 _ (by omega) (by omega)).mono ?_; rintro e ww ⟨rfl, rfl⟩
     rw [hp0]
     go_wp2_with (at_builtin; refine app_OwnNums _ rfl _ _ rfl w2.heap.size _ (.slice (some ⟨wr.heap.size, 0, none⟩) 1 1) ys [0] rfl rfl (HO.out.tr ((Below.refl _ _).alloc (Nat.le_refl _) _)) (one_nums _ _) ?c0 ?c1 ?c2)
     case c0 => first | omega | (simp; omega)
     case c1 => exact Nat.le_trans hws (by simp)
     case c2 =>
     intro v' w3 ho hg hat
     have hol := World.ownsRow.lt HO.out
     go_wp2_with fail
     refine ⟨⟨k + 1, ys ++ [0], by omega, by go_num, by simp; omega, ptrs_snoc hyl hpo.out (fun h => (by decide)), small_snoc hsm.out (by omega) (by omega), ho, ?_⟩, by simp [intOf]; omega⟩
     have hB3 := HBR.out
     exact ⟨hg.os.trans hB3.os, hg.tape.trans hB3.tape, hg.output.trans hB3.output, Nat.le_trans hB3.size (Nat.le_trans (by simp) hg.size), fun j hj => (hg.block j (by simp; omega) (fun e => by have := hol j e.symm; omega)).trans ((Below.heap_alloc _ _ _ (by omega)).trans (hB3.block j hj))⟩
    ·have hkpI : ¬ (k : Int) < (p : Int) := by omega
     go_wp2_with (at_builtin; refine app_OwnNums _ rfl _ _ rfl w2.heap.size _ (.slice (some ⟨wr.heap.size, 0, none⟩) 1 1) ys [0] rfl rfl (HO.out.tr ((Below.refl _ _).alloc (Nat.le_refl _) _)) (one_nums _ _) ?c0 ?c1 ?c2)
     case c0 => first | omega | (simp; omega)
     case c1 => exact Nat.le_trans hws (by simp)
     case c2 =>
     intro v' w3 ho hg hat
     have hol := World.ownsRow.lt HO.out
     go_wp2_with fail
     refine ⟨⟨k + 1, ys ++ [0], by omega, by go_num, by simp; omega, ptrs_snoc hyl hpo.out (fun h => (by decide)), small_snoc hsm.out (by omega) (by omega), ho, ?_⟩, by simp [intOf]; omega⟩
     have hB3 := HBR.out
     exact ⟨hg.os.trans hB3.os, hg.tape.trans hB3.tape, hg.output.trans hB3.output, Nat.le_trans hB3.size (Nat.le_trans (by simp) hg.size), fun j hj => (hg.block j (by simp; omega) (fun e => by have := hol j e.symm; omega)).trans ((Below.heap_alloc _ _ _ (by omega)).trans (hB3.block j hj))⟩
  ·obtain rfl : k = S := by omega
   go_wp2_with fail
   go_ret
   refine ⟨⟨_, ys, rfl, HO.out.lift HB2.size, ⟨by have := HSP.out.1; omega, ?_, hsm.out⟩⟩, HB2.trans (HBR.out.mono HB2.size)⟩
   have h5 := hpo.out
   rw [Nat.min_eq_right (by omega)] at h5
   rw [HSP.out.1, HSP.out.2]
   exact h5
end Go.Proofs.YtpgjploaliefdaaGreat.ob
namespace Go.Proofs.YtpgjploaliefdaaGreat.ob
open Go.RowKit hd
set_option linter.unusedVariables false
set_option linter.unusedSimpArgs false
def kd (p : Int) (j : Nat) : Int := if (j : Int) < p then 2 else 3
def kindO (o : Ob) : List Int := 1 :: (List.range o.s.toNat).map (kd o.p)
def kindBad (len : Nat) (acc : List Int) (o : Ob) : Prop := o.pos ≠ acc.length ∨ (len : Int) ≤ o.pos ∨ rightB o.s o.p = false ∨ (len : Int) - o.pos - 1 < o.s
instance (len : Nat) (acc : List Int) (o : Ob) : Decidable (kindBad len acc o) := by unfold kindBad; infer_instance
def kindsF (len : Nat) : List Ob → List Int → Option (List Int)
 | [], acc => if acc.length = len then some acc else none
 | o :: l, acc => if kindBad len acc o then none else kindsF len l (acc ++ kindO o)
def KindsPost (B : Nat) (r : Option (List Int)) (e : Ending) (W : World) : Prop :=
 match r with
 | none => e = .returned (.tuple #[.slice none 0 0, .int .i64 1])
 | some ks => ∃ v, e = .returned (.tuple #[v, .int .i64 0]) ∧ OwnInts W B v ks
theorem drop_ob {os : List Ob} {k : Nat} (h : k < os.length) : os.drop k = obD os k :: os.drop (k + 1) := by
 rw [List.drop_eq_getElem_cons h]; simp [obD, List.getD, h]
theorem grown_own {w W W' : World} {v : Value} {zs : List Int} (hb : Below w.heap.size w W) (ho : OwnInts W w.heap.size v zs) (hg : W.grownBy W' v.ownBlock) : Below w.heap.size w W' := by
 have hol := World.ownsRow.lt ho
 exact ⟨hg.os.trans hb.os, hg.tape.trans hb.tape, hg.output.trans hb.output, Nat.le_trans hb.size hg.size, fun j hj => (hg.block j (Nat.lt_of_lt_of_le hj hb.size) (fun e => by have := hol j e.symm; omega)).trans (hb.block j hj)⟩
theorem blk_row {W w : World} {n : Nat} {cs : Array Value} {T : TypeId} {r : Option Nat} (h : Blk W n cs T) (hg : W.grownBy w r) (hn : r ≠ some n) : Blk w n cs T := Blk.of ((hg.block n h.lt (fun e => hn e.symm)).trans h.raw)
theorem kinds_len {p : Int} {acc : List Int} {j : Nat} : (acc ++ 1 :: (List.range j).map (kd p)).length = acc.length + 1 + j := by simp; omega
theorem kinds_snoc {p : Int} {acc : List Int} {j : Nat} {x : Int} (h : kd p j = x) : acc ++ 1 :: ((List.range j).map (kd p) ++ [x]) = acc ++ 1 :: (List.range (j + 1)).map (kd p) := by
 rw [List.range_succ, List.map_append]; simp [h]
theorem OwnInts.form {W : World} {B : Nat} {v : Value} {zs : List Int} (h : OwnInts W B v zs) : ∃ va vc, v = .slice va zs.length vc := by
 rcases h.2 with ⟨rfl, h1⟩ | ⟨g, cap, cur, rfl, _⟩
 ·rw [h1]; exact ⟨_, _, rfl⟩
 ·exact ⟨_, _, rfl⟩
theorem OwnInts.form2 {W : World} {B : Nat} {v : Value} {zs : List Int} (h : OwnInts W B v zs) : ∃ va l vc, v = .slice va l vc := by
 obtain ⟨a, c, h⟩ := h.form
 exact ⟨a, _, c, h⟩
set_option maxRecDepth 100000 in
set_option maxHeartbeats 4000000 in
theorem kinds_any (ad : Option Addr) (len cap : Nat) (v0 : Value) (os : List Ob) (w : World) (hlen : len < 1000000000000) (ho : ObjsIn w v0 os) :
  Calls Tryz.prog 43 #[.slice ad len cap, v0] w fun e w' => KindsPost w.heap.size (kindsF len os []) e w' ∧ Below w.heap.size w w' := by
 obtain ⟨ad', b, off, cap', rfl, ⟨a1, a2⟩, a3, a4, a5, a6⟩ := ho
 have HA := Lib.hid a1
 have HC := Lib.hid a6
 clear a1 a2 a6
 generalize hn : os.length = n at *
 have HN := Lib.hid hn
 clear hn
 go_enter Tryz.func43, Tryz.ntmps43
 go_wp2_with fail
 go_loopw [12, 6] (fun i v wr => ∃ (k : Nat) (acc : List Int), k ≤ n ∧ i = .int .i64 k ∧ acc.length ≤ len ∧ Hid (kindsF len os [] = kindsF len (os.drop k) acc) ∧ OwnInts wr w.heap.size v acc ∧ Below w.heap.size w wr) (fun i _ _ => n - (intOf i).toNat)
 case atStart => exact ⟨0, [], Nat.zero_le _, rfl, Nat.zero_le _, rfl, OwnInts.nil _ _, Below.refl _ _⟩
 case round =>
  obtain ⟨k, acc, hk, rfl, hal, hres, hown, hbr⟩ := hrel
  obtain ⟨va, vc, rfl⟩ := hown.form
  have HO := Lib.hid hown
  have HBR := Lib.hid hbr
  have hws := hbr.size
  by_cases hlk : k < n
  ·obtain rfl := HA.out (by omega)
   have hxk := (HC.out.block (hbr.block b a5)).at k hlk
   have HS := Lib.hid (hres.out.trans (by rw [drop_ob (by have := HN.out; omega)]; rfl : kindsF len (os.drop k) acc = if kindBad len acc (obD os k) then none else kindsF len (os.drop (k + 1)) (acc ++ kindO (obD os k))))
   clear hown hbr hres
   generalize obD os k = o at *
   obtain ⟨p0, s, p, g, t⟩ := o
   obtain ⟨x0, x1, x2, x3, x4⟩ := hxk
   dsimp only at x0 x1 x2 x3 x4
   generalize hm : acc.length = m at *
   have HM := Lib.hid hm
   by_cases h1 : p0 = m
   ·subst h1
    have hb1 : ((m : Int) == (m : Int)) = true := by simp
    by_cases h2 : len ≤ m
    ·have h2i : (len : Int) ≤ (m : Int) := by omega
     have HR : Hid (kindsF len os [] = none) := HS.out.trans (if_pos (.inr (.inl h2i)))
     go_wp2_with fail
     go_ret2
     refine ⟨by rw [HR.out]; rfl, ?_⟩
     have := HBR.out
     exact bm
    ·have h2i : (m : Int) < (len : Int) := by omega
     rcases h3 : rightB s p with _ | _
     ·have HR : Hid (kindsF len os [] = none) := HS.out.trans (if_pos (.inr (.inr (.inl h3))))
      go_wp2_with fail
      refine (right_any s p _).mono ?_; rintro e w1 ⟨rfl, k1⟩
      rw [h3]
      go_wp2_with fail
      go_ret2
      refine ⟨by rw [HR.out]; rfl, ?_⟩
      have := HBR.out
      exact bm
     ·obtain ⟨r1, r2, r3, r4⟩ := rightB_t h3
      obtain ⟨S, rfl⟩ := Int.eq_ofNat_of_zero_le r1
      obtain ⟨P, rfl⟩ := Int.eq_ofNat_of_zero_le r3
      have Ko0 : Blk (wr.alloc (.cells #[.int .i64 m, .int .i64 S, .int .i64 P, .bool g, .int .u64 t] 58)) wr.heap.size #[.int .i64 m, .int .i64 S, .int .i64 P, .bool g, .int .u64 t] 58 := Blk.new _ _ _
      by_cases h4 : (len : Int) - m - 1 < S
      ·have HR : Hid (kindsF len os [] = none) := HS.out.trans (if_pos (.inr (.inr (.inr h4))))
       go_wp2_with fail
       refine (right_any S P _).mono ?_; rintro e w1 ⟨rfl, k1⟩
       rw [h3]
       have Ko := Ko0.tr k1
       clear Ko0
       obtain ⟨lo, co, fo⟩ := Ko.get
       go_wp2_with fail
       go_ret2
       refine ⟨by rw [HR.out]; rfl, ?_⟩
       have := HBR.out
       exact bm
      ·have HR : Hid (kindsF len os [] = kindsF len (os.drop (k + 1)) (acc ++ kindO ⟨m, S, P, g, t⟩)) := HS.out.trans (if_neg (by rintro (q | q | q | q) <;> dsimp only at q <;> first | omega | (rw [h3] at q; cases q)))
       have hr : ¬ (len : Int) - m - 1 < S := h4
       go_wp2_with fail
       refine (right_any S P _).mono ?_; rintro e w1 ⟨rfl, k1⟩
       rw [h3]
       have Ko := Ko0.tr k1
       clear Ko0
       have HB1 : Below w.heap.size w w1 := by have := HBR.out; exact bm
       have HO1 : Hid (OwnInts w1 w.heap.size (.slice va m vc) acc) := (HO.out.tr ((Below.refl _ _).alloc (Nat.le_refl _) (.cells #[.int .i64 m, .int .i64 S, .int .i64 P, .bool g, .int .u64 t] 58))).tr k1
       have hob : (Value.slice va m vc).ownBlock ≠ some wr.heap.size := fun e => by have := World.ownsRow.lt HO.out _ e; omega
       obtain ⟨lo, co, fo⟩ := Ko.get
       have HB1h := Lib.hid HB1
       have hs1 := HB1.size
       have HOB := Lib.hid hob
       have HKo := Lib.hid Ko
       clear HB1 hob Ko k1 HO HBR
       go_wp2_with (at_builtin; refine app_OwnInts _ rfl _ _ rfl w.heap.size (.slice va m vc) (.slice (some ⟨w1.heap.size, 0, none⟩) 1 1) acc [1] rfl rfl (HO1.out.tr ((Below.refl _ _).alloc (Nat.le_refl _) _)) (one_ints _ _) ?c0 ?c1 ?c2)
       case c0 => have := HM.out; first | omega | (simp; omega)
       case c1 => first | omega | (simp; omega)
       case c2 =>
       intro v2 w2 ho2 hg2 hat2
       have hne2 : Hid (v2.ownBlock ≠ some wr.heap.size) := fun e => by
        rcases hat2 with h | h
        ·rw [h] at e; exact HOB.out e
        ·rw [h] at e; simp at e; omega
       have HKo2 := Lib.hid (blk_row (HKo.out.alloc (.cells #[.int .i64 1] 3)) hg2 HOB.out)
       have HB2 : Hid (Below w.heap.size w w2) := grown_own (HB1h.out.alloc hs1 _) (HO1.out.tr ((Below.refl _ _).alloc (Nat.le_refl _) _)) hg2
       have HO2 := Lib.hid ho2
       have HM2 : Hid (acc.length = m) := HM.out
       clear ho2 hg2 hat2 HOB HKo HO1 HB1h lo co fo
       generalize hoB : wr.heap.size = oB at *
       clear hoB
       obtain ⟨lo, co, fo⟩ := HKo2.out.get
       go_wp2_with fail
       go_loopw [52, 6] (fun i v wr2 => ∃ j : Nat, j ≤ S ∧ i = .int .i64 j ∧ Hid (OwnInts wr2 w.heap.size v (acc ++ 1 :: (List.range j).map (kd P))) ∧ Hid (Blk wr2 oB #[.int .i64 m, .int .i64 S, .int .i64 P, .bool g, .int .u64 t] 58) ∧ Hid (v.ownBlock ≠ some oB) ∧ Hid (Below w.heap.size w wr2)) (fun i _ _ => S - (intOf i).toNat)
       case atStart => exact ⟨0, Nat.zero_le _, rfl, HO2.out, HKo2.out, hne2.out, HB2.out⟩
       case round =>
        obtain ⟨j, hj, rfl, ho3, hk3, hne3, hb3⟩ := hrel
        clear lo co fo
        obtain ⟨lo, co, fo⟩ := hk3.out.get
        have hs3 := hb3.out.size
        by_cases hjS : j < S
        ·by_cases hjP : j < P
         ·have hjI : (j : Int) < (P : Int) := by omega
          have hkd : Hid (kd P j = 2) := if_pos hjI
          obtain ⟨va3, l3, vc3, hv3⟩ := ho3.out.form2
          subst hv3
          go_wp2_with (at_builtin; refine app_OwnInts _ rfl _ _ rfl w.heap.size (.slice va3 l3 vc3) (.slice (some ⟨wr.heap.size, 0, none⟩) 1 1) (acc ++ 1 :: (List.range j).map (kd P)) [2] rfl rfl (ho3.out.tr ((Below.refl _ _).alloc (Nat.le_refl _) _)) (one_ints _ _) ?c0 ?c1 ?c2)
          case c0 => have := HM2.out; first | omega | (simp; omega)
          case c1 => first | omega | (simp; omega)
          case c2 =>
          intro v4 w4 ho4 hg4 hat4
          have hne4 : Hid (v4.ownBlock ≠ some oB) := fun e => by
           rcases hat4 with h | h
           ·rw [h] at e; exact hne3.out e
           ·rw [h] at e; simp at e; omega
          have HK4 := Lib.hid (blk_row (hk3.out.alloc (.cells #[.int .i64 2] 3)) hg4 hne3.out)
          have HB4 : Hid (Below w.heap.size w w4) := grown_own (hb3.out.alloc hs3 _) (ho3.out.tr ((Below.refl _ _).alloc (Nat.le_refl _) _)) hg4
          rw [kinds_snoc hkd.out] at ho4
          have HO4 := Lib.hid ho4
          clear ho4 hg4 hat4 lo co fo
          go_wp2_with fail
          exact ⟨⟨j + 1, by omega, by go_num, HO4.out, HK4.out, hne4.out, HB4.out⟩, by simp [intOf]; omega⟩
         ·have hjI : ¬ (j : Int) < (P : Int) := by omega
          have hkd : Hid (kd P j = 3) := if_neg hjI
          obtain ⟨va3, l3, vc3, hv3⟩ := ho3.out.form2
          subst hv3
          go_wp2_with (at_builtin; refine app_OwnInts _ rfl _ _ rfl w.heap.size (.slice va3 l3 vc3) (.slice (some ⟨wr.heap.size, 0, none⟩) 1 1) (acc ++ 1 :: (List.range j).map (kd P)) [3] rfl rfl (ho3.out.tr ((Below.refl _ _).alloc (Nat.le_refl _) _)) (one_ints _ _) ?c0 ?c1 ?c2)
          case c0 => have := HM2.out; first | omega | (simp; omega)
          case c1 => first | omega | (simp; omega)
          case c2 =>
          intro v4 w4 ho4 hg4 hat4
          have hne4 : Hid (v4.ownBlock ≠ some oB) := fun e => by
           rcases hat4 with h | h
           ·rw [h] at e; exact hne3.out e
           ·rw [h] at e; simp at e; omega
          have HK4 := Lib.hid (blk_row (hk3.out.alloc (.cells #[.int .i64 3] 3)) hg4 hne3.out)
          have HB4 : Hid (Below w.heap.size w w4) := grown_own (hb3.out.alloc hs3 _) (ho3.out.tr ((Below.refl _ _).alloc (Nat.le_refl _) _)) hg4
          rw [kinds_snoc hkd.out] at ho4
          have HO4 := Lib.hid ho4
          clear ho4 hg4 hat4 lo co fo
          go_wp2_with fail
          exact ⟨⟨j + 1, by omega, by go_num, HO4.out, HK4.out, hne4.out, HB4.out⟩, by simp [intOf]; omega⟩
        ·obtain rfl : j = S := by omega
         go_wp2_with fail
         trace_state
         refine ⟨⟨k + 1, acc ++ kindO ⟨m, j, P, g, t⟩, by omega, by go_num, ?_, HR.out, ho3.out, hb3.out⟩, by simp [intOf]; omega⟩
         have := HM2.out
         simp [kindO]; omega
   ·have h1b : (p0 == (m : Int)) = false := beq_eq_false_iff_ne.mpr h1
    have HR : Hid (kindsF len os [] = none) := HS.out.trans (if_pos (.inl (by show p0 ≠ _; rw [hm]; exact h1)))
    go_wp2_with fail
    go_ret2
    refine ⟨by rw [HR.out]; rfl, ?_⟩
    have := HBR.out
    exact bm
  ·obtain rfl : k = n := by omega
   have HR : Hid (kindsF len os [] = if acc.length = len then some acc else none) := hres.out.trans (by rw [List.drop_of_length_le (by have := HN.out; omega)]; rfl)
   clear hown hbr hres
   generalize hm : acc.length = m at *
   clear hm
   by_cases hml : m = len
   ·subst hml
    have hb1 : ((m : Int) == (m : Int)) = true := by simp
    go_wp2_with fail
    go_ret2
    exact ⟨by rw [HR.out]; first | rw [if_pos rfl] | rw [if_pos trivial]; exact ⟨_, rfl, HO.out⟩, HBR.out⟩
   ·have hb1 : ((m : Int) == (len : Int)) = false := beq_eq_false_iff_ne.mpr (by omega)
    go_wp2_with fail
    go_ret2
    exact ⟨by rw [HR.out, if_neg hml]; rfl, HBR.out⟩
end Go.Proofs.YtpgjploaliefdaaGreat.ob
