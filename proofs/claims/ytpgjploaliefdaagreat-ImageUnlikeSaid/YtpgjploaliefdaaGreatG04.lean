/- objects.walk: its deferred closure, and the walk itself. No conditions. -/
import Derived.Test.YtpgjploaliefdaaGreatOw
import Derived.Recover
import Derived.RecoverIn
import Derived.RegionIn
import Derived.Defers
import Derived.OwnWalk
import Derived.Maps.AppendAt
import Derived.Laws.AppendOwn
namespace Go.Proofs.YtpgjploaliefdaaGreat.ob
open Go.RowKit Go.Shelf hd rt
set_option linter.unusedVariables false
set_option linter.unusedSimpArgs false
attribute [local go_sem] Oper.semAt_some
theorem if_nil (W : World) : Sem.run Tryz.prog (binOp .neq 20 .nilIface .nilIface) W = .ok (.bool false) W := by kernel_rfl
theorem if_some (k : Int) (W : World) : Sem.run Tryz.prog (binOp .neq 20 (.iface 192 (.agg #[.int .i64 k])) .nilIface) W = .ok (.bool true) W := by kernel_rfl
theorem catch_idle (n : Nat) (p q : Addr) (w : World) :
  CallsDIn Fence.wide n Tryz.prog 129 #[.pointer (some p), .pointer (some q)] .returning w fun e u' w' => e = .returned (.tuple #[]) ∧ u' = .returning ∧ w' = w := by
 refine callsDIn_of_wpSIn Tryz.func129 rfl trivial fun c₀ cs hu => ?_
 apply wpSIn_seq
 apply wpSIn_region
 simp [wpOpsSIn, go_sem, recoverD, hu, Tryz.ntmps129, Exit.thenS]
 have hnn := if_nil
 refine wpSIn_of_wpIn rfl ?_
 show Code.wpIn _ _ _ _ _ { tmps := #[.pointer (some p), .pointer (some q), .nilIface, undef, undef, .nilIface, undef, undef, undef, undef, undef, undef, undef, undef, undef, undef, undef, undef], defers := [] } w
 gi_wp2
 trace_state
 exact ⟨rfl, .returning, by cases c₀; simp_all, _, results_none rfl _ _ _, rfl, rfl, rfl⟩
theorem assert_wrong (k : Int) (W : World) : Sem.run Tryz.prog (Instr.typeAssert (.iface 192 (.agg #[.int .i64 k])) 20 192 true) W = .ok (.tuple #[.agg #[.int .i64 k], .bool true]) W := by kernel_rfl
structure Keep2 (p q : Nat) (w w' : World) : Prop where
 os : w'.os = w.os
 tape : w'.tape = w.tape
 output : w'.output = w.output
 size : w.heap.size ≤ w'.heap.size
 block : ∀ k, k < w.heap.size → k ≠ p → k ≠ q → w'.heap[k]? = w.heap[k]?
theorem Keep2.refl (p q : Nat) (w : World) : Keep2 p q w w := ⟨rfl, rfl, rfl, Nat.le_refl _, fun _ _ _ _ => rfl⟩
theorem Keep2.alloc {p q : Nat} {a w : World} (h : Keep2 p q a w) (o : Obj) : Keep2 p q a (w.alloc o) :=
 ⟨h.os, h.tape, h.output, by have := h.size; simp; omega, fun k hk h1 h2 => (Below.heap_alloc w o k (Nat.lt_of_lt_of_le hk h.size)).trans (h.block k hk h1 h2)⟩
theorem Keep2.drew {p q : Nat} {a w : World} (h : Keep2 p q a w) : Keep2 p q a w.drew := ⟨h.os, h.tape, h.output, h.size, h.block⟩
theorem Keep2.set {p q : Nat} {a w : World} (h : Keep2 p q a w) (b : Addr) (hb : b.block = p ∨ b.block = q ∨ a.heap.size ≤ b.block) (v : Value) : Keep2 p q a (w.setCell b v) :=
 ⟨h.os, h.tape, h.output, by simpa using h.size, fun k hk h1 h2 => (Below.heap_setCell w b v k (by omega)).trans (h.block k hk h1 h2)⟩
set_option maxHeartbeats 4000000 in
theorem catch_thrown (n : Nat) (p q : Nat) (x y : Value) (k : Int) (w : World) (hp : Blk w p #[x] 28) (hq : Blk w q #[y] 36) (hpq : p ≠ q) :
  CallsDIn Fence.wide n Tryz.prog 129 #[.pointer (some ⟨p, 0, none⟩), .pointer (some ⟨q, 0, none⟩)] (.panicking [{ v := wrongV k, recovered := false }]) w fun e u' w' => e = .returned (.tuple #[]) ∧ u' = .panicking [{ v := wrongV k, recovered := true }] ∧ Blk w' p #[.slice none 0 0] 28 ∧ Blk w' q #[.int .i64 k] 36 ∧ Keep2 p q w w' := by
 refine callsDIn_of_wpSIn Tryz.func129 rfl trivial fun c₀ cs hu => ?_
 unfold wrongV at *
 obtain ⟨lp, cp, fp⟩ := hp.get
 obtain ⟨lq, cq, fq⟩ := hq.get
 have cp0 := cp 0
 have cq0 := cq 0
 apply wpSIn_seq
 apply wpSIn_region
 simp [wpOpsSIn, go_sem, recoverD, hu, Tryz.ntmps129, Exit.thenS]
 have hnn := if_some k
 refine wpSIn_of_wpIn rfl ?_
 show Code.wpIn _ _ _ _ _ { tmps := #[.pointer (some ⟨p, 0, none⟩), .pointer (some ⟨q, 0, none⟩), .iface 192 (.agg #[.int .i64 k]), undef, undef, .iface 192 (.agg #[.int .i64 k]), undef, undef, undef, undef, undef, undef, undef, undef, undef, undef, undef, undef], defers := [] } w
 have hta := assert_wrong k
 have hn0 : p ≠ w.heap.size := by omega
 have hn1 : q ≠ w.heap.size := by omega
 have hn2 : q ≠ p := fun e => hpq e.symm
 have hn3 : w.heap.size ≠ p := by omega
 have hn4 : w.heap.size ≠ q := by omega
 gi_wp2
 gi_region
 gi_wp2
 refine ⟨rfl, _, rfl, _, results_none rfl _ _ _, rfl, rfl, ?_, ?_, ?_⟩
 ·exact (((hp.set 0 (.slice none 0 0)).other (p := ⟨q, 0, none⟩) hpq _).alloc _).drew
 ·exact (((hq.other (p := ⟨p, 0, none⟩) hn2 (.slice none 0 0)).set 0 (.int .i64 k)).alloc _).drew
 ·exact ((((Keep2.refl p q w).set ⟨p, 0, none⟩ (.inl rfl) _).set ⟨q, 0, none⟩ (.inr (.inl rfl)) _).alloc _).drew
theorem each_any (sv gv : Value) (w : World) (hg : gv = .nilFunc ∨ ∃ f a c, gv = .func f a c) (hs : ∃ a l c, sv = .slice a l c) :
  Calls Tryz.prog 130 #[sv, gv] w fun e w' => e = .returned (.func (.func 135) #[] #[.pointer (some ⟨w.heap.size, 0, none⟩), .pointer (some ⟨w.heap.size + 1, 0, none⟩)]) ∧ w' = (w.alloc (.cells #[sv] 29)).alloc (.cells #[gv] 193) := by
 have hmf : ∀ (fn : Fn) (first cap : Array Value) (w : World), (Instr.makeFunc fn first cap).run Tryz.prog w = .ok (.func fn first cap) w := fun _ _ _ _ => rfl
 obtain ⟨a, l, c, rfl⟩ := hs
 rcases hg with rfl | ⟨f, a2, c2, rfl⟩
 ·go_enter Tryz.func130, Tryz.ntmps130
  go_wp2_with fail
  go_ret
  exact ⟨rfl, rfl⟩
 ·go_enter Tryz.func130, Tryz.ntmps130
  go_wp2_with fail
  go_ret
  exact ⟨rfl, rfl⟩
def obCells (o : Ob) : List Value := [.int .i64 o.pos, .int .i64 o.s, .int .i64 o.p, .bool o.g, .int .u64 o.t]
def flatO : List Ob → List Value
 | [] => []
 | o :: l => obCells o ++ flatO l
theorem flatO_snoc (l : List Ob) (o : Ob) : flatO (l ++ [o]) = flatO l ++ obCells o := by
 induction l with
 | nil => simp [flatO]
 | cons a l ih => simp [flatO, ih]
def ObsAt (W : World) (B : Nat) (v : Value) (l : List Ob) : Prop := W.ownsRow B 58 5 v l.length (flatO l)
theorem info_ob : (Tryz.prog.info? 58).map (fun i => (i.zero, i.size, i.bytes)) = some (some (.agg #[.int .i64 0, .int .i64 0, .int .i64 0, .bool false, .int .u64 0]), 5, 40) := by kernel_rfl
structure WalkI (w : World) (row : Option Nat) (xs : List Ob) (W : World) : Prop where
 l : ∃ v, Blk W w.heap.size #[v] 28 ∧ ObsAt W (w.heap.size + 6) v xs
 e : Blk W (w.heap.size + 1) #[.int .i64 0] 36
 g : w.grownBy W row
theorem WalkI.grown {w : World} {row : Option Nat} (hrow : ∀ r, row = some r → r < w.heap.size) {xs : List Ob} {A B : World} (h : WalkI w row xs A) (hg : A.grownBy B row) : WalkI w row xs B := by
 obtain ⟨⟨v, h1, h2⟩, h3, h4⟩ := h
 have hne : ∀ k, w.heap.size ≤ k → some k ≠ row := fun k hk e => by have := hrow k e.symm; omega
 refine ⟨⟨v, Blk.of ((hg.block _ h1.lt (hne _ (Nat.le_refl _))).trans h1.raw), World.ownsRow.kept h2 hg ?_⟩, Blk.of ((hg.block _ h3.lt (hne _ (by omega))).trans h3.raw), h4.trans hg⟩
 rcases hv : v.ownBlock with _ | k
 ·exact .inl rfl
 ·exact .inr (hne k (by have := (World.ownsRow.lt h2 k hv).1; omega))
theorem WalkI.put {w : World} {row : Option Nat} {xs : List Ob} {A : World} (h : WalkI w row xs A) {l : Nat} {o : Obj} (o' : Obj) (hl : w.heap.size + 4 ≤ l) (ho : A.heap[l]? = some o) (hc : o.isCells = false) : WalkI w row xs (A.putObj l o') := by
 obtain ⟨⟨v, h1, h2⟩, h3, h4⟩ := h
 have hg := grownBy_putObj' A l o'
 refine ⟨⟨v, Blk.of ((World.putObj_heap_other (by omega)).trans h1.raw), World.ownsRow.kept h2 hg ?_⟩, Blk.of ((World.putObj_heap_other (by omega)).trans h3.raw), ⟨h4.os, h4.tape, h4.output, by simpa using h4.size, fun k hk hne => (World.putObj_heap_other (by omega)).trans (h4.block k hk hne)⟩⟩
 rcases hv : v.ownBlock with _ | k
 ·exact .inl rfl
 ·refine .inr (fun e => ?_)
  cases e
  rcases h2.2 with ⟨rfl, _⟩ | ⟨g, cap, cur, rfl, _, hgg, _⟩
  ·simp [Value.ownBlock] at hv
  ·simp [Value.ownBlock] at hv
   subst hv
   rw [ho] at hgg; cases hgg; cases hc
end Go.Proofs.YtpgjploaliefdaaGreat.ob
namespace Go.Proofs.YtpgjploaliefdaaGreat.ob
open Go.RowKit Go.Shelf hd rt
set_option linter.unusedVariables false
set_option linter.unusedSimpArgs false
attribute [local go_sem] Oper.semAt_some
theorem Blk.putObj {w : World} {n l : Nat} {cs : Array Value} {T : TypeId} (h : Blk w n cs T) (hl : n ≠ l) (o : Obj) : Blk (w.putObj l o) n cs T := Blk.of ((World.putObj_heap_other hl).trans h.raw)
theorem _root_.Go.World.grownBy.over {w A B : World} {row r : Option Nat} (h : w.grownBy A row) (k : A.grownBy B r) (hr : ∀ j, r = some j → w.heap.size ≤ j) : w.grownBy B row :=
 ⟨k.os.trans h.os, k.tape.trans h.tape, k.output.trans h.output, Nat.le_trans h.size k.size, fun i hi hne => (k.block i (Nat.lt_of_lt_of_le hi h.size) (fun e => by have := hr i e.symm; omega)).trans (h.block i hi hne)⟩
theorem ob_news (w : World) (o : Ob) (T : TypeId) : ∀ j u, (obCells o)[j]? = some u → (w.alloc (.cells #[.int .i64 o.pos, .int .i64 o.s, .int .i64 o.p, .bool o.g, .int .u64 o.t] T)).cell? ((⟨w.heap.size, 0, none⟩ : Addr).add j) = some u := by
 intro j u hj
 have e : (⟨w.heap.size, 0, none⟩ : Addr).add j = ⟨w.heap.size, j, none⟩ := by unfold Addr.add; split <;> simp_all
 rw [e, World.cell?_alloc_new, ← hj]
 simp [obCells]
theorem WalkI.two {w : World} {row : Option Nat} (hrow : ∀ r, row = some r → r < w.heap.size) {xs : List Ob} {A B : World} (h : WalkI w row xs A) (hg : A.grownBy B row) :
  ∃ v, (∀ k, v.ownBlock = some k → w.heap.size + 6 ≤ k ∧ k < A.heap.size) ∧ Blk B w.heap.size #[v] 28 ∧ ObsAt B (w.heap.size + 6) v xs ∧ Blk B (w.heap.size + 1) #[.int .i64 0] 36 ∧ w.grownBy B row := by
 obtain ⟨⟨v, h1, h2⟩, h3, h4⟩ := h
 have hne : ∀ k, w.heap.size ≤ k → some k ≠ row := fun k hk e => by have := hrow k e.symm; omega
 refine ⟨v, fun k hk => World.ownsRow.lt h2 k hk, Blk.of ((hg.block _ h1.lt (hne _ (Nat.le_refl _))).trans h1.raw), World.ownsRow.kept h2 hg ?_, Blk.of ((hg.block _ h3.lt (hne _ (by omega))).trans h3.raw), h4.trans hg⟩
 rcases hv : v.ownBlock with _ | k
 ·exact .inl rfl
 ·exact .inr (hne k (by have := (World.ownsRow.lt h2 k hv).1; omega))
theorem grown_put {w W : World} {row : Option Nat} (h : w.grownBy W row) {l : Nat} (hl : w.heap.size ≤ l) (o : Obj) : w.grownBy (W.putObj l o) row :=
 ⟨h.os, h.tape, h.output, by simpa using h.size, fun k hk hne => (World.putObj_heap_other (by omega)).trans (h.block k hk hne)⟩
theorem obs_put {W : World} {B l : Nat} {v : Value} {xs : List Ob} (h : ObsAt W B v xs) (hl : ∃ ob, W.heap[l]? = some ob ∧ ob.isCells = false) (o : Obj) : ObsAt (W.putObj l o) B v xs := by
 refine World.ownsRow.kept h (grownBy_putObj' W l o) ?_
 rcases hv : v.ownBlock with _ | k
 ·exact .inl rfl
 ·refine .inr (fun e => ?_)
  cases e
  obtain ⟨ob, ho, hc⟩ := hl
  rcases h.2 with ⟨rfl, _⟩ | ⟨g, cap, cur, rfl, _, hgg, _⟩
  ·simp [Value.ownBlock] at hv
  ·simp [Value.ownBlock] at hv
   subst hv
   rw [ho] at hgg; cases hgg; cases hc
def WalkPost (w : World) (St : Nat → World → Prop) (r : Res) (e : Ending) (W' : World) : Prop :=
 match r with
 | .ok l k => St k W' ∧ ∃ v, e = .returned (.tuple #[v, .int .i64 0]) ∧ ObsAt W' (w.heap.size + 6) v l
 | .err c k => St k W' ∧ e = .returned (.tuple #[.slice none 0 0, .int .i64 c])
set_option maxRecDepth 100000 in
set_option maxHeartbeats 4000000 in
theorem walk_any (b off len cap : Nat) (ad : Option Addr) (zs : List Int) (gv : Value) (St : Nat → World → Prop) (bg : Nat → Nat → Int → Option (Ob × Nat)) (row : Option Nat) (hok : BeginOk b off len cap zs gv St bg row)
  (had : 0 < len → ad = some ⟨b, off, none⟩) (hlc : len ≤ cap) (hcap : cap < 9223372036854775808 ∧ len < 1000000000000) (hz : ∀ i, 0 ≤ zs.getD i 0 ∧ zs.getD i 0 < 18446744073709551616)
  (hgv : gv = .nilFunc ∨ ∃ f a c, gv = .func f a c) (w : World) (hW : WordsAt w b off len zs) (hSt : St 0 w) (hrow : ∀ r, row = some r → r < w.heap.size ∧ r ≠ b)
  (hStk : ∀ k A B, St k A → (∀ j, j < w.heap.size → B.heap[j]? = A.heap[j]?) → St k B) :
  Calls Tryz.prog 122 #[.slice ad len cap, gv] w fun e W' => w.grownBy W' row ∧ WalkPost w St (walkF bg zs len (len + 1) 0 0 []) e W' := by
 obtain ⟨i0, hi, hz0, hz1, hz2⟩ := info_parts info_ob
 have hmf : ∀ (fn : Fn) (first cap : Array Value) (w : World), (Instr.makeFunc fn first cap).run Tryz.prog w = .ok (.func fn first cap) w := fun _ _ _ _ => rfl
 refine (callsIn_wide (n := 5)).1 ?_
 refine callsIn_of_wp_marks Tryz.func122 rfl trivial ?_ rfl
 simp only [Tryz.ntmps122, List.size_toArray, List.length_cons, List.length_nil, Nat.reduceAdd, Nat.reduceSub, Array.replicate_succ, Array.replicate_zero, List.push_toArray, List.append_toArray, List.nil_append, List.cons_append]
 gi_wp2_with fail
 refine ⟨trivial, (callsIn_wide.2 (each_any _ _ _ hgv ⟨_, _, _, rfl⟩)).mono ?_⟩
 rintro e w1 ⟨rfl, rfl⟩
 gi_wp2_with fail
 obtain ⟨W0, hW0⟩ : ∃ W0, ((((w.alloc (.cells #[.slice none 0 0] 28)).alloc (.cells #[.int .i64 0] 36)).alloc (.cells #[.slice ad len cap] 29)).alloc (.cells #[gv] 193)) = W0 := ⟨_, rfl⟩
 rw [hW0]
 have hB0 : Below w.heap.size w W0 := by rw [← hW0]; exact bm
 have b0 : Blk W0 w.heap.size #[.slice none 0 0] 28 := by rw [← hW0]; exact (((Blk.new _ _ _).alloc _).alloc _).alloc _
 have b1 : Blk W0 (w.heap.size + 1) #[.int .i64 0] 36 := by rw [← hW0]; exact ((Blk.mk (by simp)).alloc _).alloc _
 have b2 : Blk W0 (w.heap.size + 1 + 1) #[.slice ad len cap] 29 := by rw [← hW0]; exact (Blk.mk (by simp)).alloc _
 have b3 : Blk W0 (w.heap.size + 1 + 1 + 1) #[gv] 193 := by rw [← hW0]; exact Blk.mk (by simp)
 have hsz : W0.heap.size = w.heap.size + 4 := by rw [← hW0]; simp
 clear hW0
 have hrow1 : ∀ r, row = some r → r < w.heap.size := fun r e => (hrow r e).1
 have hE : EachAt b off len cap zs gv (.slice ad len cap) St (w.heap.size + 1 + 1) (w.heap.size + 1 + 1 + 1) 0 W0 := by
  refine ⟨?_, hStk _ _ _ hSt hB0.block, b2, b3⟩
  rcases Nat.eq_zero_or_pos len with h | h
  ·subst h; exact WordsAt.none _ _ _ _
  ·exact hW.block (hB0.block b (hW.lt h))
 refine wpIn_rangeFunc_thrown (w := W0) rfl (by omega) (gf := 135) (lb := #[.pointer (some ⟨w.heap.size + 1 + 1, 0, none⟩), .pointer (some ⟨w.heap.size + 1 + 1 + 1, 0, none⟩)]) rfl trivial (enters_of Tryz.func135 (by kernel_rfl) rfl)
  (fun r e => by have := hrow1 r e; omega)
  (each1_throws 4 (by omega) b off len cap ad zs gv St bg row hok had hlc (by omega) hz (fun S hS => by omega) W0 w.heap.size (w.heap.size + 1 + 1) (w.heap.size + 1 + 1 + 1) (by omega) (by omega) (fun h => by have := hW.lt h; omega) (fun r e => by have := hrow r e; exact ⟨by omega, by omega, this.2⟩) ?hStK hE)
  (fun _ => rfl) (WalkI w row) (fun s A B h hg => h.grown hrow1 hg) (fun s A l o o' h hl ho hc => h.put o' (by omega) ho hc) ?hSp ?h0 ?hround ?hdone ?hthrown
 case hStK =>
  intro k A W1 W' hs h hk
  exact hStk _ _ _ h fun j hj => hk.2 j (by omega) (.inl ⟨by omega, by omega⟩)
 case hSp =>
  rintro s A l o o' ⟨k, h1, h2⟩ hl ho hc
  exact ⟨k, h1, hStk _ _ _ h2 fun j hj => World.putObj_heap_other (by omega)⟩
 case h0 => exact ⟨⟨_, b0, World.ownsRow_nil _ _ _ _⟩, b1, below_grown hB0 row⟩
 case hround =>
  intro pre x A W1 hIA hlen hszA hg hnD hnL
  obtain ⟨v, hown0, hl, hrw, he, hgg⟩ := hIA.two hrow1 hg
  rw [hsz] at hszA hnD hnL ⊢
  obtain ⟨p0, s, p, g, t⟩ := x
  simp only [oV]
  gi_wp2
  refine ⟨?_, ?_, fun o Wb hWb => ?_⟩
  ·exact Below.heap_alloc _ _ _ (by have := hg.size; omega)
  ·exact Below.heap_alloc _ _ _ (by have := hg.size; omega)
  have hlb : Blk Wb w.heap.size #[v] 28 := by rw [hWb]; exact Blk.putObj (hl.alloc _) (by omega) _
  have hxb : Blk Wb W1.heap.size #[.int .i64 p0, .int .i64 s, .int .i64 p, .bool g, .int .u64 t] 58 := by rw [hWb]; exact Blk.putObj (Blk.new _ _ _) (by have := hg.size; omega) _
  have hI2 : w.grownBy Wb row := by rw [hWb]; exact grown_put (AllocG hgg _) (by omega) _
  have hrb : ObsAt Wb (w.heap.size + 6) v pre := by rw [hWb]; exact obs_put (World.ownsRow.alloc hrw _) (by obtain ⟨ob, h1, h2⟩ := hnL; exact ⟨ob, (Below.heap_alloc _ _ _ (Array.getElem?_eq_some_iff.1 h1).1).trans h1, h2⟩) _
  have heb : Blk Wb (w.heap.size + 1) #[.int .i64 0] 36 := by rw [hWb]; exact Blk.putObj (he.alloc _) (by omega) _
  have hszb : Wb.heap.size = W1.heap.size + 1 := by rw [hWb]; simp
  have hbk : Hid (∀ k, k < W1.heap.size → k ≠ w.heap.size + 4 + 1 → Wb.heap[k]? = W1.heap[k]?) := fun k hk hne => by rw [hWb]; exact (World.putObj_heap_other hne).trans (Below.heap_alloc _ _ _ hk)
  clear hWb
  obtain ⟨ll, cl, fl⟩ := hlb.get
  obtain ⟨lx, cx, fx⟩ := hxb.get
  have cl0 := cl 0
  obtain ⟨va, vn, vc, rfl⟩ : ∃ a n c, v = .slice a n c := by
   rcases hrw.2 with ⟨rfl, _⟩ | ⟨g, cap, cur, rfl, _⟩
   ·exact ⟨_, _, _, rfl⟩
   ·exact ⟨_, _, _, rfl⟩
  have hhide := Lib.hid hszb
  clear hszb
  gi_wp2_with (first | (gi_at_builtin; refine wpListIn_append_own _ rfl _ _ 28 rfl (w.heap.size + 6) 58 i0 _ 5 40 Tryz.underlying28 hi hz0 hz1 hz2 rfl (by decide) _ _ _ rfl (World.ownsRow.alloc hrb _) ⟨Wb.heap.size, 0, none⟩ 1 1 (obCells ⟨p0, s, p, g, t⟩) rfl rfl ?c0 ?c1 ?c2 ?c3 ?c4 ?_))
  case c0 => exact ob_news _ _ _
  case c1 => intro u hu; simp [obCells] at hu; rcases hu with rfl | rfl | rfl | rfl | rfl <;> rfl
  case c2 => unfold maxLen; omega
  case c3 => omega
  case c4 => have := hhide.out; have := hg.size; simp; omega
  intro v' w2 hown hgrow hnil
  obtain ⟨g', cap', rfl⟩ := ownsRow_succ hown
  have hne : ∀ k, (k < w.heap.size + 6 ∨ A.heap.size ≤ k) → some k ≠ (Value.slice va vn vc).ownBlock := fun k hk e => by have := hown0 k e.symm; omega
  have hl2 : Blk w2 w.heap.size #[.slice va vn vc] 28 := Blk.of ((hgrow.block _ (by simp; omega) (hne _ (by omega))).trans (hlb.alloc _).raw)
  have he2 : Blk w2 (w.heap.size + 1) #[.int .i64 0] 36 := Blk.of ((hgrow.block _ (by have := heb.lt; simp; omega) (hne _ (by omega))).trans (heb.alloc _).raw)
  have hg2 : w.grownBy w2 row := (AllocG hI2 _).over hgrow (fun k e => by have := hown0 k e; omega)
  have hH := Lib.hid hgrow
  have hH2 := Lib.hid hown
  have hH3 := Lib.hid hne
  clear ll cl fl lx cx fx cl0 hgrow hown hnil hne
  obtain ⟨ll, cl, fl⟩ := hl2.get
  have cl0 := cl 0
  gi_wp2
  have hgrow := hH.out
  have hne := hH3.out
  have hbk' := hbk.out
  have hszb := hhide.out
  have hgs := hg.size
  have keep : ∀ k, k < Wb.heap.size → k ≠ w.heap.size → (k < w.heap.size + 6 ∨ A.heap.size ≤ k) → (w2.setCell ⟨w.heap.size, 0, none⟩ (.slice (some ⟨g', 0, none⟩) (pre.length + 1) cap')).heap[k]? = Wb.heap[k]? := fun k hk h1 h2 =>
   (Below.heap_setCell _ _ _ k h1).trans ((hgrow.block k (by simp; omega) (hne k h2)).trans (Below.heap_alloc _ _ _ hk))
  refine ⟨keep _ (by omega) (by omega) (by omega), keep _ (by omega) (by omega) (by omega), ⟨?_, fun k hk hor => ?_⟩, ⟨⟨_, hl2.set 0 _, ?_⟩, he2.other (by simp) _, ?_⟩⟩
  ·have := hgrow.size; simp at this ⊢; omega
  ·rcases hor with ⟨h1, h2⟩ | h1
   ·exact (keep k (by omega) h2 (by omega)).trans (hbk' k hk (by omega))
   ·exact (keep k (by omega) (by omega) (.inr h1)).trans (hbk' k hk (by omega))
  ·have h7 := World.ownsRow.kept hH2.out (grownBy_setCell' w2 w.heap.size (.slice (some ⟨g', 0, none⟩) (pre.length + 1) cap')) (.inr (fun e => by have := (World.ownsRow.lt hH2.out w.heap.size e).1; omega))
   unfold ObsAt
   rw [flatO_snoc, List.length_append]
   exact h7
  ·exact hg2.over (grownBy_setCell' w2 w.heap.size _) (fun k e => by cases e; exact Nat.le_refl _)
 case hdone =>
  rintro xs W ⟨k, hr, hst⟩ ⟨⟨v, hl, hrw⟩, he, hgg⟩ hK
  obtain ⟨va, vn, vc, rfl⟩ : ∃ a n c, v = .slice a n c := by
   rcases hrw.2 with ⟨rfl, _⟩ | ⟨g, cap, cur, rfl, _⟩
   ·exact ⟨_, _, _, rfl⟩
   ·exact ⟨_, _, _, rfl⟩
  rw [hsz] at hK ⊢
  dsimp only
  have hne1 : w.heap.size ≠ w.heap.size + 1 := by omega
  have hne2 : w.heap.size + 1 ≠ w.heap.size := by omega
  have hHr := Lib.hid hr
  have hHK := Lib.hid hK
  obtain ⟨ll, cl, fl⟩ := hl.get
  obtain ⟨le, ce, fe⟩ := he.get
  have cl0 := cl 0
  have ce0 := ce 0
  clear hr hK
  gi_wp2
  have hK2 : ((W.setCell ⟨w.heap.size, 0, none⟩ (.slice va vn vc)).setCell ⟨w.heap.size + 1, 0, none⟩ (.int .i64 0)).heap[w.heap.size + 4]? = some (.deferred (some [])) :=
   (Below.heap_setCell _ _ _ _ (by simp)).trans ((Below.heap_setCell _ _ _ _ (by simp)).trans hHK.out)
  refine ⟨by simp, .inl ⟨_, _, rfl, run_takeDeferred hK2, ?_⟩⟩
  refine ⟨by simp, .inr ⟨fun _ => by omega, _, _, 129, #[.pointer (some ⟨w.heap.size, 0, none⟩), .pointer (some ⟨w.heap.size + 1, 0, none⟩)], rfl, by simp [invoke, go_sem], fun _ _ => trivial, (catch_idle _ _ _ _).mono ?_⟩⟩
  rintro e u' w'' ⟨rfl, rfl, rfl⟩
  have gl : Blk (((W.setCell ⟨w.heap.size, 0, none⟩ (.slice va vn vc)).setCell ⟨w.heap.size + 1, 0, none⟩ (.int .i64 0)).putObj (w.heap.size + 4) (.deferred none)) w.heap.size #[.slice va vn vc] 28 := Blk.putObj ((hl.set 0 _).other (by simp) _) (by omega) _
  have ge : Blk (((W.setCell ⟨w.heap.size, 0, none⟩ (.slice va vn vc)).setCell ⟨w.heap.size + 1, 0, none⟩ (.int .i64 0)).putObj (w.heap.size + 4) (.deferred none)) (w.heap.size + 1) #[.int .i64 0] 36 := Blk.putObj ((he.other (by simp) _).set 0 _) (by omega) _
  have gg : w.grownBy (((W.setCell ⟨w.heap.size, 0, none⟩ (.slice va vn vc)).setCell ⟨w.heap.size + 1, 0, none⟩ (.int .i64 0)).putObj (w.heap.size + 4) (.deferred none)) row :=
   grown_put ((hgg.over (grownBy_setCell' _ _ _) (fun k e => by cases e; omega)).over (grownBy_setCell' _ _ _) (fun k e => by cases e; omega)) (by omega) _
  have gs : St k (((W.setCell ⟨w.heap.size, 0, none⟩ (.slice va vn vc)).setCell ⟨w.heap.size + 1, 0, none⟩ (.int .i64 0)).putObj (w.heap.size + 4) (.deferred none)) := hStk _ _ _ hst fun j hj =>
   (World.putObj_heap_other (by omega)).trans ((Below.heap_setCell _ _ _ _ (by show j ≠ w.heap.size + 1; omega)).trans (Below.heap_setCell _ _ _ _ (by show j ≠ w.heap.size; omega)))
  have go : ObsAt (((W.setCell ⟨w.heap.size, 0, none⟩ (.slice va vn vc)).setCell ⟨w.heap.size + 1, 0, none⟩ (.int .i64 0)).putObj (w.heap.size + 4) (.deferred none)) (w.heap.size + 6) (.slice va vn vc) xs := by
   have hb : ∀ k, (Value.slice va vn vc).ownBlock = some k → w.heap.size + 6 ≤ k := fun k hk => (World.ownsRow.lt hrw k hk).1
   refine World.ownsRow.kept (World.ownsRow.kept (World.ownsRow.kept hrw (grownBy_setCell' _ _ _) (.inr fun e => ?_)) (grownBy_setCell' _ _ _) (.inr fun e => ?_)) (grownBy_putObj' _ _ _) (.inr fun e => ?_)
   ·have := hb _ e; omega
   ·have := hb _ e; omega
   ·have := hb _ e; omega
  generalize (((W.setCell ⟨w.heap.size, 0, none⟩ (.slice va vn vc)).setCell ⟨w.heap.size + 1, 0, none⟩ (.int .i64 0)).putObj (w.heap.size + 4) (.deferred none)) = Z at *
  obtain ⟨zl, zc, zf⟩ := gl.get
  obtain ⟨yl, yc, yf⟩ := ge.get
  have zc0 := zc 0
  have yc0 := yc 0
  refine ⟨.tuple #[.slice va vn vc, .int .i64 0], by simp only [results, Tryz.results122]; go_simp, gg, ?_⟩
  rw [hHr.out]
  exact ⟨gs, _, rfl, go⟩
 case hthrown =>
  rintro chain pre W ⟨c, k, hr, rfl, hst⟩ ⟨⟨v, hl, hrw⟩, he, hgg⟩ hK
  rw [hsz] at hK ⊢
  dsimp only
  have hHr := Lib.hid hr
  have hHK := Lib.hid hK
  clear hr hK
  gi_wp2
  refine ⟨by simp, .inl ⟨_, _, rfl, run_takeDeferred hHK.out, ?_⟩⟩
  have gl := Blk.putObj hl (l := w.heap.size + 4) (by omega) (.deferred none)
  have ge := Blk.putObj he (l := w.heap.size + 4) (by omega) (.deferred none)
  have gg := grown_put hgg (l := w.heap.size + 4) (by omega) (.deferred none)
  have gs : St k (W.putObj (w.heap.size + 4) (.deferred none)) := hStk _ _ _ hst fun j hj => World.putObj_heap_other (by omega)
  generalize W.putObj (w.heap.size + 4) (.deferred none) = Z at *
  refine ⟨by simp, .inr ⟨fun _ => by omega, _, _, 129, #[.pointer (some ⟨w.heap.size, 0, none⟩), .pointer (some ⟨w.heap.size + 1, 0, none⟩)], rfl, by simp [invoke, go_sem], fun _ _ => trivial, (catch_thrown _ _ _ _ _ _ _ gl ge (by omega)).mono ?_⟩⟩
  rintro e u' w'' ⟨rfl, rfl, ql, qe, qk⟩
  obtain ⟨zl, zc, zf⟩ := ql.get
  obtain ⟨yl, yc, yf⟩ := qe.get
  have zc0 := zc 0
  have yc0 := yc 0
  refine ⟨.tuple #[.slice none 0 0, .int .i64 c], by simp only [results, Tryz.results122]; go_simp, ?_, ?_⟩
  ·exact ⟨qk.os.trans gg.os, qk.tape.trans gg.tape, qk.output.trans gg.output, Nat.le_trans gg.size qk.size, fun i hi hne => (qk.block i (Nat.lt_of_lt_of_le hi gg.size) (by omega) (by omega)).trans (gg.block i hi hne)⟩
  ·rw [hHr.out]
   exact ⟨hStk _ _ _ gs fun j hj => qk.block j (Nat.lt_of_lt_of_le hj gg.size) (by omega) (by omega), rfl⟩
end Go.Proofs.YtpgjploaliefdaaGreat.ob
