/- objects.walk: its deferred closure, and the walk itself. No conditions. -/
import Derived.Test.YtpgjploaliefdaaOw
import Derived.Recover
import Derived.RecoverIn
import Derived.RegionIn
import Derived.Defers
import Derived.OwnWalk
import Derived.Maps.AppendAt
import Derived.Laws.AppendOwn
namespace Go.Proofs.Ytpgjploaliefdaa.ob
open Go.RowKit Go.Shelf Go.Proofs.Ytpgjploaliefdaa.hd Go.Proofs.Ytpgjploaliefdaa.rt
set_option linter.unusedVariables false
set_option linter.unusedSimpArgs false
attribute [local go_sem] Oper.semAt_some
theorem if_nil (W : World) : Sem.run Try.prog (binOp .neq 20 .nilIface .nilIface) W = .ok (.bool false) W := by kernel_rfl
theorem if_some (k : Int) (W : World) : Sem.run Try.prog (binOp .neq 20 (.iface 127 (.agg #[.int .i64 k])) .nilIface) W = .ok (.bool true) W := by kernel_rfl
theorem catch_idle (n : Nat) (p q : Addr) (w : World) :
    CallsDIn Fence.wide n Try.prog 66 #[.pointer (some p), .pointer (some q)] .returning w fun e u' w' => e = .returned (.tuple #[]) ∧ u' = .returning ∧ w' = w := by
  refine callsDIn_of_wpSIn Try.func66 rfl trivial fun c₀ cs hu => ?_
  apply wpSIn_seq
  apply wpSIn_region
  simp [wpOpsSIn, go_sem, recoverD, hu, Try.ntmps66, Exit.thenS]
  have hnn := if_nil
  refine wpSIn_of_wpIn rfl ?_
  show Code.wpIn _ _ _ _ _ { tmps := #[.pointer (some p), .pointer (some q), .nilIface, undef, undef, .nilIface, undef, undef, undef, undef, undef, undef, undef, undef, undef, undef, undef, undef], defers := [] } w
  gi_wp2
  trace_state
  exact ⟨rfl, .returning, by cases c₀; simp_all, _, results_none rfl _ _ _, rfl, rfl, rfl⟩
theorem assert_wrong (k : Int) (W : World) : Sem.run Try.prog (Instr.typeAssert (.iface 127 (.agg #[.int .i64 k])) 20 127 true) W = .ok (.tuple #[.agg #[.int .i64 k], .bool true]) W := by kernel_rfl
/-- Of what was there, only blocks p and q may have turned. -/
structure Keep2 (p q : Nat) (w w' : World) : Prop where
  os : w'.os = w.os
  tape : w'.tape = w.tape
  output : w'.output = w.output
  size : w.heap.size ≤ w'.heap.size
  block : ∀ k, k < w.heap.size → k ≠ p → k ≠ q → w'.heap[k]? = w.heap[k]?
theorem Keep2.refl (p q : Nat) (w : World) : Keep2 p q w w := ⟨rfl, rfl, rfl, Nat.le_refl _, fun _ _ _ _ => rfl⟩
theorem Keep2.alloc {p q : Nat} {a w : World} (h : Keep2 p q a w) (o : Obj) : Keep2 p q a (w.alloc o) :=
  ⟨h.os, h.tape, h.output, by have := h.size; simp; omega, fun k hk h1 h2 => (Below.heap_alloc w o k (Nat.lt_of_lt_of_le hk h.size)).trans (h.block k hk h1 h2)⟩
theorem Keep2.drew {p q : Nat} {a w : World} (h : Keep2 p q a w) : Keep2 p q a w.drew := ⟨h.os, h.tape, h.output, h.size, h.block⟩
theorem Keep2.set {p q : Nat} {a w : World} (h : Keep2 p q a w) (b : Addr) (hb : b.block = p ∨ b.block = q ∨ a.heap.size ≤ b.block) (v : Value) : Keep2 p q a (w.setCell b v) :=
  ⟨h.os, h.tape, h.output, by simpa using h.size, fun k hk h1 h2 => (Below.heap_setCell w b v k (by omega)).trans (h.block k hk h1 h2)⟩
set_option maxHeartbeats 4000000 in
theorem catch_thrown (n : Nat) (p q : Nat) (x y : Value) (k : Int) (w : World) (hp : Blk w p #[x] 37) (hq : Blk w q #[y] 26) (hpq : p ≠ q) :
    CallsDIn Fence.wide n Try.prog 66 #[.pointer (some ⟨p, 0, none⟩), .pointer (some ⟨q, 0, none⟩)] (.panicking [{ v := wrongV k, recovered := false }]) w fun e u' w' => e = .returned (.tuple #[]) ∧ u' = .panicking [{ v := wrongV k, recovered := true }] ∧ Blk w' p #[.slice none 0 0] 37 ∧ Blk w' q #[.int .i64 k] 26 ∧ Keep2 p q w w' := by
  refine callsDIn_of_wpSIn Try.func66 rfl trivial fun c₀ cs hu => ?_
  unfold wrongV at *
  obtain ⟨lp, cp, fp⟩ := hp.get
  obtain ⟨lq, cq, fq⟩ := hq.get
  have cp0 := cp 0
  have cq0 := cq 0
  apply wpSIn_seq
  apply wpSIn_region
  simp [wpOpsSIn, go_sem, recoverD, hu, Try.ntmps66, Exit.thenS]
  have hnn := if_some k
  refine wpSIn_of_wpIn rfl ?_
  show Code.wpIn _ _ _ _ _ { tmps := #[.pointer (some ⟨p, 0, none⟩), .pointer (some ⟨q, 0, none⟩), .iface 127 (.agg #[.int .i64 k]), undef, undef, .iface 127 (.agg #[.int .i64 k]), undef, undef, undef, undef, undef, undef, undef, undef, undef, undef, undef, undef], defers := [] } w
  have hta := assert_wrong k
  have hn0 : p ≠ w.heap.size := by omega
  have hn1 : q ≠ w.heap.size := by omega
  have hn2 : q ≠ p := fun e => hpq e.symm
  have hn3 : w.heap.size ≠ p := by omega
  have hn4 : w.heap.size ≠ q := by omega
  gi_wp2
  gi_region
  gi_wp2
  refine ⟨rfl, _, rfl, _, results_none rfl _ _ _, rfl, rfl, ?_, ?_, ?_⟩
  · exact (((hp.set 0 (.slice none 0 0)).other (p := ⟨q, 0, none⟩) hpq _).alloc _).drew
  · exact (((hq.other (p := ⟨p, 0, none⟩) hn2 (.slice none 0 0)).set 0 (.int .i64 k)).alloc _).drew
  · exact ((((Keep2.refl p q w).set ⟨p, 0, none⟩ (.inl rfl) _).set ⟨q, 0, none⟩ (.inr (.inl rfl)) _).alloc _).drew
theorem each_any (sv gv : Value) (w : World) (hg : gv = .nilFunc ∨ ∃ f a c, gv = .func f a c) (hs : ∃ a l c, sv = .slice a l c) :
    Calls Try.prog 67 #[sv, gv] w fun e w' => e = .returned (.func (.func 72) #[] #[.pointer (some ⟨w.heap.size, 0, none⟩), .pointer (some ⟨w.heap.size + 1, 0, none⟩)]) ∧ w' = (w.alloc (.cells #[sv] 22)).alloc (.cells #[gv] 128) := by
  have hmf : ∀ (fn : Fn) (first cap : Array Value) (w : World), (Instr.makeFunc fn first cap).run Try.prog w = .ok (.func fn first cap) w := fun _ _ _ _ => rfl
  obtain ⟨a, l, c, rfl⟩ := hs
  rcases hg with rfl | ⟨f, a2, c2, rfl⟩
  · go_enter Try.func67, Try.ntmps67
    go_wp2_with fail
    go_ret
    exact ⟨rfl, rfl⟩
  · go_enter Try.func67, Try.ntmps67
    go_wp2_with fail
    go_ret
    exact ⟨rfl, rfl⟩
def obCells (o : Ob) : List Value := [.int .i64 o.pos, .int .i64 o.s, .int .i64 o.p, .bool o.g, .int .u64 o.t]
def flatO : List Ob → List Value
  | [] => []
  | o :: l => obCells o ++ flatO l
theorem flatO_snoc (l : List Ob) (o : Ob) : flatO (l ++ [o]) = flatO l ++ obCells o := by
  induction l with
  | nil => simp [flatO]
  | cons a l ih => simp [flatO, ih]
/-- A slice of objects of one's own. -/
def ObsAt (W : World) (B : Nat) (v : Value) (l : List Ob) : Prop := W.ownsRow B 36 5 v l.length (flatO l)
theorem info_ob : (Try.prog.info? 36).map (fun i => (i.zero, i.size, i.bytes)) = some (some (.agg #[.int .i64 0, .int .i64 0, .int .i64 0, .bool false, .int .u64 0]), 5, 40) := by kernel_rfl
/-- What the walk keeps between two rounds. -/
structure WalkI (w : World) (row : Option Nat) (xs : List Ob) (W : World) : Prop where
  l : ∃ v, Blk W w.heap.size #[v] 37 ∧ ObsAt W (w.heap.size + 6) v xs
  e : Blk W (w.heap.size + 1) #[.int .i64 0] 26
  g : w.grownBy W row
theorem WalkI.grown {w : World} {row : Option Nat} (hrow : ∀ r, row = some r → r < w.heap.size) {xs : List Ob} {A B : World} (h : WalkI w row xs A) (hg : A.grownBy B row) : WalkI w row xs B := by
  obtain ⟨⟨v, h1, h2⟩, h3, h4⟩ := h
  have hne : ∀ k, w.heap.size ≤ k → some k ≠ row := fun k hk e => by have := hrow k e.symm; omega
  refine ⟨⟨v, Blk.of ((hg.block _ h1.lt (hne _ (Nat.le_refl _))).trans h1.raw), World.ownsRow.kept h2 hg ?_⟩, Blk.of ((hg.block _ h3.lt (hne _ (by omega))).trans h3.raw), h4.trans hg⟩
  rcases hv : v.ownBlock with _ | k
  · exact .inl rfl
  · exact .inr (hne k (by have := (World.ownsRow.lt h2 k hv).1; omega))
theorem WalkI.put {w : World} {row : Option Nat} {xs : List Ob} {A : World} (h : WalkI w row xs A) {l : Nat} {o : Obj} (o' : Obj) (hl : w.heap.size + 4 ≤ l) (ho : A.heap[l]? = some o) (hc : o.isCells = false) : WalkI w row xs (A.putObj l o') := by
  obtain ⟨⟨v, h1, h2⟩, h3, h4⟩ := h
  have hg := grownBy_putObj' A l o'
  refine ⟨⟨v, Blk.of ((World.putObj_heap_other (by omega)).trans h1.raw), World.ownsRow.kept h2 hg ?_⟩, Blk.of ((World.putObj_heap_other (by omega)).trans h3.raw), ⟨h4.os, h4.tape, h4.output, by simpa using h4.size, fun k hk hne => (World.putObj_heap_other (by omega)).trans (h4.block k hk hne)⟩⟩
  rcases hv : v.ownBlock with _ | k
  · exact .inl rfl
  · refine .inr (fun e => ?_)
    cases e
    rcases h2.2 with ⟨rfl, _⟩ | ⟨g, cap, cur, rfl, _, hgg, _⟩
    · simp [Value.ownBlock] at hv
    · simp [Value.ownBlock] at hv
      subst hv
      rw [ho] at hgg; cases hgg; cases hc
end Go.Proofs.Ytpgjploaliefdaa.ob
