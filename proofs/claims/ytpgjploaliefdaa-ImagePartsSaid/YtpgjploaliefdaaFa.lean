/- Rows of bytes of one's own; words.PutHalf. LONE=1. No conditions. -/
import Derived.Test.YtpgjploaliefdaaCx
import Derived.Test.YtpgjploaliefdaaCm
import Derived.Laws.BytesArg
import Derived.Laws.IdiomStrings
import Derived.Laws.AppendOwn
import Derived.Maps.AppendAt
import Derived.Laws.OwnMore
namespace Go.Proofs.Ytpgjploaliefdaa.fr
open Go.RowKit Go.Proofs.Ytpgjploaliefdaa.cm Go.Proofs.Ytpgjploaliefdaa.cw
set_option linter.unusedVariables false
set_option linter.unusedSimpArgs false
theorem append_any {P : Program} {ops : Array Oper} {rest : List Oper} {o : Oper} {a : Act} {Q : Exit → Act → World → Prop} (w : World) (hw : Region.wanted o (yielded ops a.tmps) = true) (s x : Operand) (t : TypeId)
    (ho : o.op = .call { callee := .builtin .append, args := #[s, x], argTypes := #[t, t] })
    (base : Nat) (e : TypeId) (i : TypeInfo) (z : Value) (size bytes : Nat) (ht : P.underlying t = some (.slice e)) (hi : P.info? e = some i) (hz : i.zero = some z)
    (hsize : i.size = size) (hby : i.bytes = bytes) (hzs : z.cells.size = size) (hsz : 0 < size)
    (v : Value) (n : Nat) (xs : List Value) (hs : a.eval s = v) (hown : w.ownsRow base e size v n xs)
    (u : Value) (m : Nat) (news : List Value) (hx : a.eval x = u) (hsrc : (u = .slice none 0 0 ∧ m = 0 ∧ news = []) ∨ ∃ ad c, u = .slice (some ad) m c ∧ ∀ j y, news[j]? = some y → w.cell? (ad.add j) = some y)
    (hl : news.length = m * size) (h1 : ∀ u ∈ news, u.oneCell' = true)
    (h63 : n + m ≤ maxLen) (hbytes : (n + m) * bytes ≤ 140737488355328) (hbase : base ≤ w.heap.size)
    (h : ∀ v' w', w'.ownsRow base e size v' (n + m) (xs ++ news) → w.grownBy w' v.ownBlock → (v'.ownBlock = v.ownBlock ∨ v'.ownBlock = some w.heap.size) → wpList P ops Q rest (a.put o.dst v') w') : wpList P ops Q (o :: rest) a w := by
  refine wpList_step fun K hK => ?_
  rw [if_pos hw]
  rcases hsrc with ⟨rfl, rfl, rfl⟩ | ⟨ad, c, rfl, hnews⟩
  · have hr := run_append_owned_none (P := P) (w := w) base t o.type e i size ht hi v n xs hown
    unfold Oper.wp execOp
    simp only [ho, resolve, invoke, builtin, Sem.run_bind, Sem.run_pure, Result.andThen_ok, List.map_toArray, List.map_cons, List.map_nil, hs, hx, hr]
    exact hK _ _ (h v w (by simpa using hown) ⟨rfl, rfl, rfl, Nat.le_refl _, fun _ _ _ => rfl⟩ (.inl rfl))
  · obtain ⟨v', w', hr, h2, h3, h4, h5⟩ := run_append_own_at (P := P) w base t o.type e i z size bytes ht hi hz hsize hby hzs hsz v n xs hown ad m c news hl hnews h1 h63 hbytes hbase
    unfold Oper.wp execOp
    simp only [ho, resolve, invoke, builtin, Sem.run_bind, Sem.run_pure, Result.andThen_ok, List.map_toArray, List.map_cons, List.map_nil, hs, hx, hr]
    exact hK _ _ (h v' w' h2 h3 h5)
theorem below_grown {A B : World} (h : Below A.heap.size A B) (row : Option Nat) : A.grownBy B row := ⟨h.os, h.tape, h.output, h.size, fun k hk _ => h.block k hk⟩
/-- Worlds that differ above B alone, or in a block of one's own. -/
theorem grown_below {C : Nat} {w w' : World} {v : Value} {W : World} (hg : w.grownBy w' v.ownBlock) (hb : Below C W w) (hC : C ≤ W.heap.size) (ho : ∀ k, v.ownBlock = some k → C ≤ k) : Below C W w' :=
  ⟨hg.os.trans hb.os, hg.tape.trans hb.tape, hg.output.trans hb.output, Nat.le_trans hb.size hg.size, fun j hj => (hg.block j (by have := hb.size; omega) (fun e => by have := ho _ e.symm; omega)).trans (hb.block j hj)⟩
theorem bel_alloc {C : Nat} {W w : World} (h : Below C W w) (hC : C ≤ W.heap.size) (o : Obj) : Below C W (w.alloc o) :=
  ⟨h.os, h.tape, h.output, by have := h.size; show _ ≤ (w.heap.push _).size; simp; omega, fun j hj => (Below.heap_alloc w o j (by have := h.size; omega)).trans (h.block j hj)⟩
def byteV (x : Nat) : Value := .int .u8 (x : Int)
/-- A slice of bytes of one's own. -/
def OwnB (W : World) (B : Nat) (v : Value) (zs : List Nat) : Prop := W.ownsRow B 5 1 v zs.length (zs.map byteV)
theorem OwnB.nil (W : World) (B : Nat) : OwnB W B (.slice none 0 0) [] := World.ownsRow_nil _ _ _ _
theorem OwnB.tr {W w : World} {B : Nat} {v : Value} {zs : List Nat} (h : OwnB W B v zs) (hb : Below W.heap.size W w) : OwnB w B v zs := by
  refine World.ownsRow.kept h (below_grown hb none) ?_
  rcases hv : v.ownBlock with _ | k
  · exact .inl rfl
  · exact .inr (fun e => by cases e)
theorem OwnB.lift {W : World} {B C : Nat} {v : Value} {zs : List Nat} (h : OwnB W B v zs) (hb : C ≤ B) : OwnB W C v zs := by
  refine ⟨h.1, ?_⟩
  rcases h.2 with h | ⟨g, cap, cur, h1, h2, h3⟩
  · exact .inl h
  · exact .inr ⟨g, cap, cur, h1, by omega, h3⟩
theorem OwnB.block {W : World} {B : Nat} {v : Value} {zs : List Nat} (h : OwnB W B v zs) : ∀ k, v.ownBlock = some k → B ≤ k := by
  intro k hk
  rcases h.2 with ⟨rfl, _⟩ | ⟨g, cap, cur, rfl, h2, _⟩
  · cases hk
  · cases hk
    exact h2
theorem OwnB.str {W : World} {B : Nat} {v : Value} {zs : List Nat} (h : OwnB W B v zs) (hz : 0 < zs.length) :
    (convert 42 9 v).run Try.prog W = .ok (.string (strOfNums (zs.map fun b : Nat => (b : Int)))) W := by
  rcases h.2 with ⟨rfl, h1⟩ | ⟨g, cap, cur, rfl, h1, h2, h3, h4, h5, h6⟩
  · omega
  · refine run_convert_bytes_arg (P := Try.prog) W 42 5 Try.underlying42 Try.underlying5 g 0 zs.length cap (zs.map fun b : Nat => (b : Int)) (by simp) (fun i hi => ?_) 9 Try.underlying9
    have h7 := World.ownsRow.cells h (g := g) rfl i (byteV (zs.getD i 0)) (by simp [List.getD, List.getElem?_eq_getElem hi])
    have e : (⟨g, 0, none⟩ : Addr).add i = ⟨g, i, none⟩ := by unfold Addr.add; split <;> simp_all
    rw [e] at h7
    rw [Nat.zero_add, h7]
    simp [byteV, List.getD, hi]
theorem info_u8 : (Try.prog.info? 5).map (fun i => (i.zero, i.size, i.bytes)) = some (some (.int .u8 0), 1, 1) := by kernel_rfl
theorem app_B {ops : Array Oper} {rest : List Oper} {o : Oper} {a : Act} {Q : Exit → Act → World → Prop} (w : World) (hw : Region.wanted o (yielded ops a.tmps) = true) (s x : Operand)
    (ho : o.op = .call { callee := .builtin .append, args := #[s, x], argTypes := #[42, 42] })
    (B : Nat) (v : Value) (xs : List Nat) (y n c : Nat) (hs : a.eval s = v) (hx : a.eval x = .slice (some ⟨n, 0, none⟩) 1 c) (hown : OwnB w B v xs) (hc : w.cell? ⟨n, 0, none⟩ = some (byteV y)) (hbig : xs.length + 1 < 1000000000000) (hB : B ≤ w.heap.size)
    (h : ∀ v' w', OwnB w' B v' (xs ++ [y]) → w.grownBy w' v.ownBlock → (v'.ownBlock = v.ownBlock ∨ v'.ownBlock = some w.heap.size) → wpList Try.prog ops Q rest (a.put o.dst v') w') : wpList Try.prog ops Q (o :: rest) a w := by
  obtain ⟨i0, hi, hz0, hz1, hz2⟩ := info_parts info_u8
  refine append_any w hw s x _ ho B 5 i0 (.int .u8 0) 1 1 Try.underlying42 hi hz0 hz1 hz2 rfl (by decide) v xs.length (xs.map byteV) hs hown _ 1 [byteV y] hx (.inr ⟨_, _, rfl, fun j z hj => ?_⟩) rfl (fun u hu => ?_) (by unfold maxLen; omega) (by omega) hB ?_
  · rcases j with _ | j
    · cases hj
      exact hc
    · simp at hj
  · obtain rfl := List.mem_singleton.1 hu
    rfl
  · intro v' w' h2 h3 h4
    refine h v' w' ?_ h3 h4
    unfold OwnB
    simpa using h2
end Go.Proofs.Ytpgjploaliefdaa.fr
