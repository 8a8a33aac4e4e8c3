/- Part 29 of what the proofs stand on: lemmas on worlds, on goroutines, contracts of functions. No conditions. -/
import Derived.Test.YtgfgoflhmikalaaM28
import Derived.Shelf.Strings.BuilderF
import Derived.Shelf.Strconv.Clone
namespace Go.Proofs.Ytgfgoflhmikalaa.ga
open Go.RowKit Go.Proofs.Ytgfgoflhmikalaa.par
set_option linter.unusedVariables false
set_option linter.unusedSimpArgs false
variable {HC : Code}
attribute [local irreducible] Go.Proofs.Ytgfgoflhmikalaa.par.loneP
def ren : Shelf.Ren := ⟨fun | 166 => 23 | 240 => 36 | 276 => 51 | 169 => 24 | 316 => 74 | _ => 0, fun | 0 => 0 | 3 => 3 | 4 => 4 | 5 => 5 | 9 => 9 | 20 => 20 | 37 => 45 | 70 => 51 | 72 => 53 | 75 => 55 | 80 => 58 | 127 => 73 | 164 => 93 | _ => 0, id⟩
theorem lays240 : Lays.n240 (Go.Proofs.Ytgfgoflhmikalaa.par.loneP HC) ren where
  mixed := by kernel_rfl
  f240 := (lfun36 (H := HC)).trans (congrArg some (by kernel_rfl))
  f276 := (lfun51 (H := HC)).trans (congrArg some (by kernel_rfl))
  t0 := ((Go.Proofs.Ytgfgoflhmikalaa.par.lon_underlying HC 0).trans Try.underlying0)
  a0 := fun w => (lon_isAgg HC 0 w).trans (Try.isAgg0 w)
  z0 := fun w => (lon_sizeOf HC 0 w).trans (Try.sizeOf0 w)
  v0 := fun w => (lon_zero HC 0 w).trans (Try.zeroValue0 w)
  t4 := ((Go.Proofs.Ytgfgoflhmikalaa.par.lon_underlying HC 4).trans Try.underlying4)
  a4 := fun w => (lon_isAgg HC 4 w).trans (Try.isAgg4 w)
  z4 := fun w => (lon_sizeOf HC 4 w).trans (Try.sizeOf4 w)
  v4 := fun w => (lon_zero HC 4 w).trans (Try.zeroValue4 w)
  t9 := ((Go.Proofs.Ytgfgoflhmikalaa.par.lon_underlying HC 9).trans Try.underlying9)
  a9 := fun w => (lon_isAgg HC 9 w).trans (Try.isAgg9 w)
  z9 := fun w => (lon_sizeOf HC 9 w).trans (Try.sizeOf9 w)
  v9 := fun w => (lon_zero HC 9 w).trans (Try.zeroValue9 w)
  t20 := ((Go.Proofs.Ytgfgoflhmikalaa.par.lon_underlying HC 20).trans Try.underlying20)
  a20 := fun w => (lon_isAgg HC 20 w).trans (Try.isAgg20 w)
  z20 := fun w => (lon_sizeOf HC 20 w).trans (Try.sizeOf20 w)
  v20 := fun w => (lon_zero HC 20 w).trans (Try.zeroValue20 w)
  t70 := ((Go.Proofs.Ytgfgoflhmikalaa.par.lon_underlying HC 51).trans Try.underlying51)
  a70 := fun w => (lon_isAgg HC 51 w).trans (Try.isAgg51 w)
  z70 := fun w => (lon_sizeOf HC 51 w).trans (Try.sizeOf51 w)
  v70 := fun w => (lon_zero HC 51 w).trans (Try.zeroValue51 w)
  t72 := ((Go.Proofs.Ytgfgoflhmikalaa.par.lon_underlying HC 53).trans Try.underlying53)
  a72 := fun w => (lon_isAgg HC 53 w).trans (Try.isAgg53 w)
  z72 := fun w => (lon_sizeOf HC 53 w).trans (Try.sizeOf53 w)
  v72 := fun w => (lon_zero HC 53 w).trans (Try.zeroValue53 w)
  t164 := ((Go.Proofs.Ytgfgoflhmikalaa.par.lon_underlying HC 93).trans Try.underlying93)
  a164 := fun w => (lon_isAgg HC 93 w).trans (Try.isAgg93 w)
  z164 := fun w => (lon_sizeOf HC 93 w).trans (Try.sizeOf93 w)
  v164 := fun w => (lon_zero HC 93 w).trans (Try.zeroValue93 w)
theorem lays166 : Lays.n166 (Go.Proofs.Ytgfgoflhmikalaa.par.loneP HC) ren where
  mixed := by kernel_rfl
  f166 := (lfun23 (H := HC)).trans (congrArg some (by kernel_rfl))
  f240 := (lfun36 (H := HC)).trans (congrArg some (by kernel_rfl))
  f276 := (lfun51 (H := HC)).trans (congrArg some (by kernel_rfl))
  t0 := ((Go.Proofs.Ytgfgoflhmikalaa.par.lon_underlying HC 0).trans Try.underlying0)
  a0 := fun w => (lon_isAgg HC 0 w).trans (Try.isAgg0 w)
  z0 := fun w => (lon_sizeOf HC 0 w).trans (Try.sizeOf0 w)
  v0 := fun w => (lon_zero HC 0 w).trans (Try.zeroValue0 w)
  t3 := ((Go.Proofs.Ytgfgoflhmikalaa.par.lon_underlying HC 3).trans Try.underlying3)
  a3 := fun w => (lon_isAgg HC 3 w).trans (Try.isAgg3 w)
  z3 := fun w => (lon_sizeOf HC 3 w).trans (Try.sizeOf3 w)
  v3 := fun w => (lon_zero HC 3 w).trans (Try.zeroValue3 w)
  t4 := ((Go.Proofs.Ytgfgoflhmikalaa.par.lon_underlying HC 4).trans Try.underlying4)
  a4 := fun w => (lon_isAgg HC 4 w).trans (Try.isAgg4 w)
  z4 := fun w => (lon_sizeOf HC 4 w).trans (Try.sizeOf4 w)
  v4 := fun w => (lon_zero HC 4 w).trans (Try.zeroValue4 w)
  t9 := ((Go.Proofs.Ytgfgoflhmikalaa.par.lon_underlying HC 9).trans Try.underlying9)
  a9 := fun w => (lon_isAgg HC 9 w).trans (Try.isAgg9 w)
  z9 := fun w => (lon_sizeOf HC 9 w).trans (Try.sizeOf9 w)
  v9 := fun w => (lon_zero HC 9 w).trans (Try.zeroValue9 w)
  t20 := ((Go.Proofs.Ytgfgoflhmikalaa.par.lon_underlying HC 20).trans Try.underlying20)
  a20 := fun w => (lon_isAgg HC 20 w).trans (Try.isAgg20 w)
  z20 := fun w => (lon_sizeOf HC 20 w).trans (Try.sizeOf20 w)
  v20 := fun w => (lon_zero HC 20 w).trans (Try.zeroValue20 w)
  t37 := ((Go.Proofs.Ytgfgoflhmikalaa.par.lon_underlying HC 45).trans Try.underlying45)
  a37 := fun w => (lon_isAgg HC 45 w).trans (Try.isAgg45 w)
  z37 := fun w => (lon_sizeOf HC 45 w).trans (Try.sizeOf45 w)
  v37 := fun w => (lon_zero HC 45 w).trans (Try.zeroValue45 w)
  t70 := ((Go.Proofs.Ytgfgoflhmikalaa.par.lon_underlying HC 51).trans Try.underlying51)
  a70 := fun w => (lon_isAgg HC 51 w).trans (Try.isAgg51 w)
  z70 := fun w => (lon_sizeOf HC 51 w).trans (Try.sizeOf51 w)
  v70 := fun w => (lon_zero HC 51 w).trans (Try.zeroValue51 w)
  t72 := ((Go.Proofs.Ytgfgoflhmikalaa.par.lon_underlying HC 53).trans Try.underlying53)
  a72 := fun w => (lon_isAgg HC 53 w).trans (Try.isAgg53 w)
  z72 := fun w => (lon_sizeOf HC 53 w).trans (Try.sizeOf53 w)
  v72 := fun w => (lon_zero HC 53 w).trans (Try.zeroValue53 w)
  t75 := ((Go.Proofs.Ytgfgoflhmikalaa.par.lon_underlying HC 55).trans Try.underlying55)
  a75 := fun w => (lon_isAgg HC 55 w).trans (Try.isAgg55 w)
  z75 := fun w => (lon_sizeOf HC 55 w).trans (Try.sizeOf55 w)
  v75 := fun w => (lon_zero HC 55 w).trans (Try.zeroValue55 w)
  t164 := ((Go.Proofs.Ytgfgoflhmikalaa.par.lon_underlying HC 93).trans Try.underlying93)
  a164 := fun w => (lon_isAgg HC 93 w).trans (Try.isAgg93 w)
  z164 := fun w => (lon_sizeOf HC 93 w).trans (Try.sizeOf93 w)
  v164 := fun w => (lon_zero HC 93 w).trans (Try.zeroValue93 w)
theorem lays169 : Lays.n169 (Go.Proofs.Ytgfgoflhmikalaa.par.loneP HC) ren where
  mixed := by kernel_rfl
  f169 := (lfun24 (H := HC)).trans (congrArg some (by kernel_rfl))
  t0 := ((Go.Proofs.Ytgfgoflhmikalaa.par.lon_underlying HC 0).trans Try.underlying0)
  a0 := fun w => (lon_isAgg HC 0 w).trans (Try.isAgg0 w)
  z0 := fun w => (lon_sizeOf HC 0 w).trans (Try.sizeOf0 w)
  v0 := fun w => (lon_zero HC 0 w).trans (Try.zeroValue0 w)
  t3 := ((Go.Proofs.Ytgfgoflhmikalaa.par.lon_underlying HC 3).trans Try.underlying3)
  a3 := fun w => (lon_isAgg HC 3 w).trans (Try.isAgg3 w)
  z3 := fun w => (lon_sizeOf HC 3 w).trans (Try.sizeOf3 w)
  v3 := fun w => (lon_zero HC 3 w).trans (Try.zeroValue3 w)
  t9 := ((Go.Proofs.Ytgfgoflhmikalaa.par.lon_underlying HC 9).trans Try.underlying9)
  a9 := fun w => (lon_isAgg HC 9 w).trans (Try.isAgg9 w)
  z9 := fun w => (lon_sizeOf HC 9 w).trans (Try.sizeOf9 w)
  v9 := fun w => (lon_zero HC 9 w).trans (Try.zeroValue9 w)
  t37 := ((Go.Proofs.Ytgfgoflhmikalaa.par.lon_underlying HC 45).trans Try.underlying45)
  a37 := fun w => (lon_isAgg HC 45 w).trans (Try.isAgg45 w)
  z37 := fun w => (lon_sizeOf HC 45 w).trans (Try.sizeOf45 w)
  v37 := fun w => (lon_zero HC 45 w).trans (Try.zeroValue45 w)
  t70 := ((Go.Proofs.Ytgfgoflhmikalaa.par.lon_underlying HC 51).trans Try.underlying51)
  a70 := fun w => (lon_isAgg HC 51 w).trans (Try.isAgg51 w)
  z70 := fun w => (lon_sizeOf HC 51 w).trans (Try.sizeOf51 w)
  v70 := fun w => (lon_zero HC 51 w).trans (Try.zeroValue51 w)
  t72 := ((Go.Proofs.Ytgfgoflhmikalaa.par.lon_underlying HC 53).trans Try.underlying53)
  a72 := fun w => (lon_isAgg HC 53 w).trans (Try.isAgg53 w)
  z72 := fun w => (lon_sizeOf HC 53 w).trans (Try.sizeOf53 w)
  v72 := fun w => (lon_zero HC 53 w).trans (Try.zeroValue53 w)
  t127 := ((Go.Proofs.Ytgfgoflhmikalaa.par.lon_underlying HC 73).trans Try.underlying73)
  a127 := fun w => (lon_isAgg HC 73 w).trans (Try.isAgg73 w)
  z127 := fun w => (lon_sizeOf HC 73 w).trans (Try.sizeOf73 w)
  v127 := fun w => (lon_zero HC 73 w).trans (Try.zeroValue73 w)
theorem lays316 : Lays.n316 (Go.Proofs.Ytgfgoflhmikalaa.par.loneP HC) ren where
  mixed := by kernel_rfl
  f316 := (lfun74 (H := HC)).trans (congrArg some (by kernel_rfl))
  t0 := ((Go.Proofs.Ytgfgoflhmikalaa.par.lon_underlying HC 0).trans Try.underlying0)
  a0 := fun w => (lon_isAgg HC 0 w).trans (Try.isAgg0 w)
  z0 := fun w => (lon_sizeOf HC 0 w).trans (Try.sizeOf0 w)
  v0 := fun w => (lon_zero HC 0 w).trans (Try.zeroValue0 w)
  t3 := ((Go.Proofs.Ytgfgoflhmikalaa.par.lon_underlying HC 3).trans Try.underlying3)
  a3 := fun w => (lon_isAgg HC 3 w).trans (Try.isAgg3 w)
  z3 := fun w => (lon_sizeOf HC 3 w).trans (Try.sizeOf3 w)
  v3 := fun w => (lon_zero HC 3 w).trans (Try.zeroValue3 w)
  t4 := ((Go.Proofs.Ytgfgoflhmikalaa.par.lon_underlying HC 4).trans Try.underlying4)
  a4 := fun w => (lon_isAgg HC 4 w).trans (Try.isAgg4 w)
  z4 := fun w => (lon_sizeOf HC 4 w).trans (Try.sizeOf4 w)
  v4 := fun w => (lon_zero HC 4 w).trans (Try.zeroValue4 w)
  t9 := ((Go.Proofs.Ytgfgoflhmikalaa.par.lon_underlying HC 9).trans Try.underlying9)
  a9 := fun w => (lon_isAgg HC 9 w).trans (Try.isAgg9 w)
  z9 := fun w => (lon_sizeOf HC 9 w).trans (Try.sizeOf9 w)
  v9 := fun w => (lon_zero HC 9 w).trans (Try.zeroValue9 w)
  t37 := ((Go.Proofs.Ytgfgoflhmikalaa.par.lon_underlying HC 45).trans Try.underlying45)
  a37 := fun w => (lon_isAgg HC 45 w).trans (Try.isAgg45 w)
  z37 := fun w => (lon_sizeOf HC 45 w).trans (Try.sizeOf45 w)
  v37 := fun w => (lon_zero HC 45 w).trans (Try.zeroValue45 w)
  t127 := ((Go.Proofs.Ytgfgoflhmikalaa.par.lon_underlying HC 73).trans Try.underlying73)
  a127 := fun w => (lon_isAgg HC 73 w).trans (Try.isAgg73 w)
  z127 := fun w => (lon_sizeOf HC 73 w).trans (Try.sizeOf73 w)
  v127 := fun w => (lon_zero HC 73 w).trans (Try.zeroValue73 w)
theorem laysM316 : LaysM.n316 (Go.Proofs.Ytgfgoflhmikalaa.par.loneP HC) ren := { lays316 with
  t5 := ((Go.Proofs.Ytgfgoflhmikalaa.par.lon_underlying HC 5).trans Try.underlying5),
  a5 := fun w => (lon_isAgg HC 5 w).trans (Try.isAgg5 w),
  z5 := fun w => (lon_sizeOf HC 5 w).trans (Try.sizeOf5 w),
  v5 := fun w => (lon_zero HC 5 w).trans (Try.zeroValue5 w),
  i0 := by kernel_rfl,
  i3 := by kernel_rfl,
  i4 := by kernel_rfl,
  i5 := by kernel_rfl,
  i9 := by kernel_rfl,
  i37 := by kernel_rfl,
  i127 := by kernel_rfl }
theorem layX72 : Builder.X72 (Go.Proofs.Ytgfgoflhmikalaa.par.loneP HC) ren where
  sizeBuilder := by kernel_rfl
  liesBuilder := by kernel_rfl
theorem layX : Builder.Extra (Go.Proofs.Ytgfgoflhmikalaa.par.loneP HC) ren := { layX72 with
  t5 := ((Go.Proofs.Ytgfgoflhmikalaa.par.lon_underlying HC 5).trans Try.underlying5),
  a5 := fun w => (lon_isAgg HC 5 w).trans (Try.isAgg5 w),
  z5 := fun w => (lon_sizeOf HC 5 w).trans (Try.sizeOf5 w),
  v5 := fun w => (lon_zero HC 5 w).trans (Try.zeroValue5 w),
  infoByte := by kernel_rfl,
  cellsByte := by kernel_rfl,
  sizeByte := by kernel_rfl,
  neB5 := by decide }

theorem slclone_any (s : ByteArray) (w : World) (h : s.size ≤ 281474976710656) :
    Calls (Go.Proofs.Ytgfgoflhmikalaa.par.loneP HC) 74 #[.string s] w fun e w' => e = .returned (.string s) ∧ Below w.heap.size w w' := Any.stringslite_Clone laysM316 s w h
theorem clone_any (s : ByteArray) (w : World) (h : s.size ≤ 281474976710656) :
    Calls (Go.Proofs.Ytgfgoflhmikalaa.par.loneP HC) 50 #[.string s] w fun e w' => e = .returned (.string s) ∧ Below w.heap.size w w' := by
  go_enter (Go.Proofs.Ytgfgoflhmikalaa.par.lfun50 (H := HC)), Try.ntmps50
  go_wp2_with fail
  refine (slclone_any s _ h).mono ?_; rintro e w1 ⟨rfl, k1⟩
  go_wp2_with fail
  go_ret
  exact ⟨rfl, k1⟩
/-- A builder of one's own. -/
def Bld (B b : Nat) (l : List UInt8) (w : World) : Prop := Lib.IsBuilderF 53 5 B b (Lib.byteCells l) w
theorem at_tr {T e : TypeId} {B b : Nat} {p : Value} {bs : List Value} {w w' : World} (h : Lib.BuilderAtF T e B b p bs w) (hb : Below w.heap.size w w') : Lib.BuilderAtF T e B b p bs w' := by
  have hl := h.lt
  obtain ⟨h1, v, h2, h3, h4⟩ := h
  refine ⟨h1, v, (hb.block b hl).trans h2, World.ownsRowF.kept h3 (row := none) ⟨hb.os, hb.tape, hb.output, hb.size, fun k hk _ => hb.block k hk⟩ ?_, h4⟩
  rcases hv : v.ownBlock with _ | k
  · exact .inl rfl
  · exact .inr (fun e => by cases e)
theorem Bld.tr {B b : Nat} {l : List UInt8} {w w' : World} (h : Bld B b l w) (hb : Below w.heap.size w w') : Bld B b l w' := h.elim (fun h => .inl (at_tr h hb)) (fun h => .inr (at_tr h hb))
theorem Bld.fresh (w : World) : Bld w.heap.size w.heap.size [] (w.alloc (.cells #[.pointer none, .slice none 0 0] 53)) := Lib.IsBuilderF.of (Lib.fresh_isBuilder _ _ w)
theorem write_any (B b : Nat) (l : List UInt8) (s : ByteArray) (w : World) (h : Bld B b l w) (hlen : l.length + s.size < 100000000000000) (hB : B ≤ w.heap.size) :
    Calls (Go.Proofs.Ytgfgoflhmikalaa.par.loneP HC) 23 #[.pointer (some ⟨b, 0, none⟩), .string s] w fun e w' => e = .returned (.tuple #[.int .i64 s.size, .nilIface]) ∧ Bld B b (l ++ s.data.toList) w' ∧ Below B w w' := by
  refine (Any.Builder_WriteString_f lays166 layX B b (Lib.byteCells l) s w h (by rw [Lib.byteCells_length]; omega) hB).mono ?_
  rintro e w' ⟨rfl, h1, h2⟩
  refine ⟨rfl, .inr ?_, h2⟩
  have e : Lib.byteCells (l ++ s.data.toList) = Lib.byteCells l ++ Lib.strCells s := by simp [Lib.byteCells, Lib.strCells]
  rw [e]
  exact h1
theorem string_any (B b : Nat) (l : List UInt8) (w : World) (h : Bld B b l w) (hB : B ≤ w.heap.size) :
    Calls (Go.Proofs.Ytgfgoflhmikalaa.par.loneP HC) 24 #[.pointer (some ⟨b, 0, none⟩)] w fun e w' => e = .returned (.string ⟨l.toArray⟩) ∧ Bld B b l w' ∧ Below B w w' :=
  Any.Builder_String_any_f lays169 layX B b l w h hB
attribute [irreducible] Bld
end Go.Proofs.Ytgfgoflhmikalaa.ga

namespace Go.Proofs.Ytgfgoflhmikalaa.par
open Go Go.Conc
set_option linter.unusedVariables false
set_option linter.unusedSimpArgs false
set_option maxRecDepth 100000
/-! ### operations, told or dead -/
section
variable {P : Program} {tl : List Frame} {R : FuncId → Value → World → Prop}
def Dich (P : Program) (s : Sem Next) (u : World) (Q : Value → World → Prop) : Prop :=
  (∀ τ, ∃ h w es, badHalt h ∧ s.runT P (tp u τ) #[] = (.halt h w, es)) ∨ ∃ v u2 es, u.drawn ≤ u2.drawn ∧ (∀ τ, s.run P (tp u τ) = .ok (.value v) (tp u2 τ)) ∧ (∀ τ, s.events P (tp u τ) #[] = es) ∧ Q v u2
theorem come_dich {b : Frame} {a : Act} {k : List Item} {cs : List Frame} {u : World} {s0 : LS} {ops : Array Oper} {i : Nat} {rest : List Nat} {o : Oper} (ho : ops[i]? = some o) (hw : Region.wanted o (yielded ops a.tmps) = true) (hk : b.kind ≠ .early) {Q : Value → World → Prop} (hd : Dich P (execOp a.eval o) u Q)
    (h : Come P tl R s0 (b.at a (.inRegion ops (i :: rest) :: k)) cs u) : ∃ v u2, Q v u2 ∧ Come P tl R s0 (b.at (a.put o.dst v) (.inRegion ops rest :: k)) cs u2 := by
  rcases hd with hd | ⟨v, u2, es, h1, h2, h3, h4⟩
  · exact (come_halt ho hw hk hd h).elim
  · exact ⟨v, u2, h4, come_value (es := seen P b.fn es) ho hw hk h1 h2 (fun τ => by unfold listed; rw [h3 τ]) h⟩
end
attribute [local irreducible] loneP
section
variable {H : Code} {ρ : Operand → Value} {u : World} {d : Option Tmp} {t' : TypeId}
/-- An operation that is known. -/
theorem Dich.ok {P : Program} {s : Sem Next} {u u2 : World} {v : Value} {es : Array Event} {Q : Value → World → Prop} (hd : u.drawn ≤ u2.drawn) (h1 : ∀ τ, s.run P (tp u τ) = .ok (.value v) (tp u2 τ)) (h2 : ∀ τ, s.events P (tp u τ) #[] = es) (hQ : Q v u2) : Dich P s u Q := .inr ⟨v, u2, es, hd, h1, h2, hQ⟩
abbrev opLen (d : Option Tmp) (x : Operand) (t : TypeId) : Oper := op0 d (.call { callee := .builtin .len, args := #[x], argTypes := #[t] }) 3
set_option maxHeartbeats 4000000 in
theorem d_len (x : Operand) : Dich (loneP H) (execOp ρ (opLen d x 63)) u (fun v u2 => u = u2 ∧ ∃ ad n c, ρ x = .slice ad n c ∧ v = .int .i64 (n : Nat)) := by
  cases hx : ρ x
  case slice ad n c =>
    refine .ok (v := .int .i64 n) (u2 := u) (es := #[]) (Nat.le_refl _) (fun τ => ?_) (fun τ => ?_) ⟨rfl, ad, n, c, rfl, rfl⟩
    · simp [execOp, op0, resolve, invoke, builtin, hx, go_sem]
    · simp [execOp, op0, resolve, invoke, builtin, hx, go_sem]
  all_goals
    refine .inl fun τ => ?_
    simp [execOp, op0, resolve, invoke, builtin, Builtin.len_, Builtin.lenOf, hx, go_sem]
    trivial
set_option maxHeartbeats 4000000 in
theorem d_lens (x : Operand) : Dich (loneP H) (execOp ρ (opLen d x 9)) u (fun v u2 => u = u2 ∧ ∃ s, ρ x = .string s ∧ v = .int .i64 (s.size : Nat)) := by
  cases hx : ρ x
  case string s =>
    refine .ok (v := .int .i64 s.size) (u2 := u) (es := #[]) (Nat.le_refl _) (fun τ => ?_) (fun τ => ?_) ⟨rfl, s, rfl, rfl⟩
    · simp [execOp, op0, resolve, invoke, builtin, hx, go_sem]
    · simp [execOp, op0, resolve, invoke, builtin, Builtin.len_, hx, go_sem]
  all_goals
    refine .inl fun τ => ?_
    simp [execOp, op0, resolve, invoke, builtin, Builtin.len_, Builtin.lenOf, hx, go_sem]
    trivial
/-- A comparison with a number. -/
theorem d_leq (x y : Operand) {m : Int} (hm : ρ x = .int .i64 m) : Dich (loneP H) (execOp ρ (op0 d (.binOp .leq 3 x y 3) 4)) u (fun v u2 => u = u2 ∧ ∃ n : Int, ρ y = .int .i64 n ∧ v = .bool (decide (m ≤ n))) := by
  cases hy : ρ y
  case int k n =>
    by_cases hk : k = .i64
    · subst hk
      refine .ok (v := .bool (decide (m ≤ n))) (u2 := u) (es := #[]) (Nat.le_refl _) (fun τ => ?_) (fun τ => ?_) ⟨rfl, n, rfl, rfl⟩
      · simp [execOp, op0, hm, hy, go_sem]
      · simp [execOp, op0, hm, hy, go_sem]
    · refine .inl fun τ => ?_
      have hk2 : ¬ (.i64 : IntKind) = k := fun e => hk e.symm
      simp [execOp, op0, binOp, hm, hy, hk2, go_sem]
      trivial
  all_goals
    refine .inl fun τ => ?_
    simp [execOp, op0, binOp, hm, hy, go_sem]
    trivial
abbrev opCap (d : Option Tmp) (x : Operand) : Oper := op0 d (.call { callee := .builtin .cap, args := #[x], argTypes := #[63] }) 3
theorem d_cap (x : Operand) {ad : Option Addr} {n c : Nat} (hx : ρ x = .slice ad n c) : Dich (loneP H) (execOp ρ (opCap d x)) u (fun v u2 => u = u2 ∧ v = .int .i64 (c : Nat)) := by
  refine .ok (v := .int .i64 c) (u2 := u) (es := #[]) (Nat.le_refl _) (fun τ => ?_) (fun τ => ?_) ⟨rfl, rfl⟩
  · simp [execOp, op0, resolve, invoke, builtin, Builtin.cap_, hx, go_sem]
  · simp [execOp, op0, resolve, invoke, builtin, Builtin.cap_, hx, go_sem]
abbrev opData (d : Option Tmp) (x : Operand) : Oper := op0 d (.call { callee := .builtin .unsafeSliceData, args := #[x], argTypes := #[63] }) 0
theorem data_none (ats : Array TypeId) (t : TypeId) (n c : Nat) : Builtin.unsafeSliceData_ ats t #[.slice none n c] = pure (.pointer none) := rfl
theorem data_some (ats : Array TypeId) (t : TypeId) (p : Addr) (n c : Nat) (hc : c ≠ 0) : Builtin.unsafeSliceData_ ats t #[.slice (some p) n c] = pure (.pointer (some p)) := by
  show (if c ≠ 0 then _ else _) = _
  rw [if_pos hc]
theorem d_data (x : Operand) {ad : Option Addr} {n c : Nat} (hx : ρ x = .slice ad n c) (hc : c ≠ 0) : Dich (loneP H) (execOp ρ (opData d x)) u (fun v u2 => u = u2 ∧ v = .pointer ad) := by
  have e : Builtin.unsafeSliceData_ #[63] 0 #[.slice ad n c] = pure (.pointer ad) := by
    cases ad with
    | none => exact data_none _ _ _ _
    | some p => exact data_some _ _ _ _ _ hc
  refine .ok (v := .pointer ad) (u2 := u) (es := #[]) (Nat.le_refl _) (fun τ => ?_) (fun τ => ?_) ⟨rfl, rfl⟩
  · simp [execOp, op0, resolve, invoke, builtin, hx, e, go_sem]
  · simp [execOp, op0, resolve, invoke, builtin, hx, e, go_sem]
theorem eq_nil (k : Nat) (ad : Option Addr) (w : World) : (Op.equalIn (k + 1) 144 (.pointer ad) (.pointer none)).run (loneP H) w = .ok ad.isNone w ∧ (Op.equalIn (k + 1) 144 (.pointer ad) (.pointer none)).events (loneP H) w #[] = #[] := by
  unfold Op.equalIn
  cases ad with
  | none =>
    constructor
    · simp [go_sem]
    · simp [go_sem]
  | some p =>
    constructor
    · simp [go_sem]
    · simp [go_sem]
theorem d_nil (x y : Operand) {ad : Option Addr} (hx : ρ x = .pointer ad) (hy : ρ y = .pointer none) : Dich (loneP H) (execOp ρ (op0 d (.binOp .eql 144 x y 144) 4)) u (fun v u2 => u = u2 ∧ v = .bool ad.isNone) := by
  refine .ok (v := .bool ad.isNone) (u2 := u) (es := #[]) (Nat.le_refl _) (fun τ => ?_) (fun τ => ?_) ⟨rfl, rfl⟩
  · have h6 := (eq_nil (H := H) 9999 ad (tp u τ)).1
    cases ad <;> (simp [execOp, op0, hx, hy, binOp, Op.equal, Op.maxDepth, go_sem]; rw [h6]; rfl)
  · have h6 := (eq_nil (H := H) 9999 ad (tp u τ)).2
    cases ad <;> (simp [execOp, op0, hx, hy, binOp, Op.equal, Op.maxDepth, go_sem]; exact h6)
theorem d_index (x y : Operand) {p : Addr} {n c i : Nat} (hx : ρ x = .slice (some p) n c) (hy : ρ y = .int .i64 (i : Nat)) (hi : i < n) : Dich (loneP H) (execOp ρ (op0 d (.indexAddr 63 x y) 0)) u (fun v u2 => u = u2 ∧ v = .pointer (some (p.add (i * 3)))) := by
  refine .ok (v := .pointer (some (p.add (i * 3)))) (u2 := u) (es := #[]) (Nat.le_refl _) (fun τ => ?_) (fun τ => ?_) ⟨rfl, rfl⟩
  · simp [execOp, op0, hx, hy, hi, go_sem]
  · simp [execOp, op0, hx, hy, hi, go_sem]
theorem d_field (x : Operand) {v0 v1 v2 : Value} (hx : ρ x = .agg #[v0, v1, v2]) (j : Nat) (hj : j < 3) : Dich (loneP H) (execOp ρ (op0 d (.field 65 x j) 3)) u (fun v u2 => u = u2 ∧ #[v0, v1, v2].getD j undef = v) := by
  refine .ok (v := #[v0, v1, v2].getD j undef) (u2 := u) (es := #[]) (Nat.le_refl _) (fun τ => ?_) (fun τ => ?_) ⟨rfl, rfl⟩
  · match j, hj with
    | 0, _ => simp [execOp, op0, Instr.field, part, asAgg, hx, go_sem]
    | 1, _ => simp [execOp, op0, Instr.field, part, asAgg, hx, go_sem]
    | 2, _ => simp [execOp, op0, Instr.field, part, asAgg, hx, go_sem]
  · match j, hj with
    | 0, _ => simp [execOp, op0, Instr.field, part, asAgg, hx, go_sem]
    | 1, _ => simp [execOp, op0, Instr.field, part, asAgg, hx, go_sem]
    | 2, _ => simp [execOp, op0, Instr.field, part, asAgg, hx, go_sem]
theorem d_add (x y : Operand) {m n : Int} (hx : ρ x = .int .i64 m) (hy : ρ y = .int .i64 n) : Dich (loneP H) (execOp ρ (op0 d (.binOp .add 3 x y 3) 3)) u (fun v u2 => u = u2 ∧ v = .int .i64 (IntKind.i64.wrap (m + n))) := by
  refine .ok (v := .int .i64 (IntKind.i64.wrap (m + n))) (u2 := u) (es := #[]) (Nat.le_refl _) (fun τ => ?_) (fun τ => ?_) ⟨rfl, rfl⟩
  · simp [execOp, op0, hx, hy, go_sem]
  · simp [execOp, op0, hx, hy, go_sem]
theorem d_lss (x y : Operand) {m n : Int} (hx : ρ x = .int .i64 m) (hy : ρ y = .int .i64 n) : Dich (loneP H) (execOp ρ (op0 d (.binOp .lss 3 x y 3) 4)) u (fun v u2 => u = u2 ∧ v = .bool (decide (m < n))) := by
  refine .ok (v := .bool (decide (m < n))) (u2 := u) (es := #[]) (Nat.le_refl _) (fun τ => ?_) (fun τ => ?_) ⟨rfl, rfl⟩
  · simp [execOp, op0, hx, hy, go_sem]
  · simp [execOp, op0, hx, hy, go_sem]
theorem d_move (x : Operand) {v : Value} (hx : ρ x = v) (t : TypeId) : Dich (loneP H) (execOp ρ (op0 d (.move x) t)) u (fun v' u2 => u = u2 ∧ v' = v) := by
  refine .ok (v := v) (u2 := u) (es := #[]) (Nat.le_refl _) (fun τ => ?_) (fun τ => ?_) ⟨rfl, rfl⟩
  · simp [execOp, op0, hx, go_sem]
  · simp [execOp, op0, hx, go_sem]
theorem d_assign (x : Operand) {v : Value} (hx : ρ x = v) (t : TypeId) : Dich (loneP H) (execOp ρ (op0 d (.assign x) t)) u (fun v' u2 => u = u2 ∧ v' = v) := by
  refine .ok (v := v) (u2 := u) (es := #[]) (Nat.le_refl _) (fun τ => ?_) (fun τ => ?_) ⟨rfl, rfl⟩
  · simp [execOp, op0, hx, go_sem]
  · simp [execOp, op0, hx, go_sem]
theorem d_mux : Dich (loneP H) (execOp ρ (op0 d (.alloc 101) 0)) u (fun v u2 => u2 = u.alloc muxO ∧ v = .pointer (some ⟨u.heap.size, 0, none⟩)) := by
  refine .ok (v := .pointer (some ⟨u.heap.size, 0, none⟩)) (u2 := u.alloc muxO) (es := #[]) (show u.drawn ≤ (u.alloc muxO).drawn from Nat.le_refl _) (fun τ => ?_) (fun τ => ?_) ⟨rfl, rfl⟩
  · simp [execOp, op0, go_sem]
    exact ⟨rfl, rfl⟩
  · simp [execOp, op0, go_sem]
theorem far_cells {p : Addr} {c : Array Value} {e : TypeId} {f : Nat × Nat} (ho : u.heap[p.block]? = some (.cells c e f)) (hc : u.cell? p = none) (at' : Bool) : ∃ h, badHalt h ∧ u.farLoad (loneP H) p at' = .error h := by
  unfold World.farLoad
  rw [ho]
  dsimp only
  refine ⟨_, ?_, rfl⟩
  simp [World.noCell, ho, badHalt]
theorem d_load1 (x : Operand) {p : Addr} (hx : ρ x = .pointer (some p)) (hr : Tame u p.block) : Dich (loneP H) (execOp ρ (op0 d (.load 3 x) 3)) u (fun v u2 => u = u2 ∧ ((∃ w, u.cell? p = some w) ∨ ∃ a t, u.heap[p.block]? = some (.view a t))) := by
  have hcell : ∀ τ, (tp u τ).cell? p = u.cell? p := fun _ => rfl
  cases hc : u.cell? p with
  | some v =>
    refine .ok (v := v) (u2 := u) (es := #[⟨.cell p, false, false⟩]) (Nat.le_refl _) (fun τ => ?_) (fun τ => ?_) ⟨rfl, .inl ⟨v, rfl⟩⟩
    · simp [execOp, op0, hx, Instr.loadAt, Instr.sureAddr, go_sem, hcell, hc]
    · simp [execOp, op0, hx, Instr.loadAt, Instr.sureAddr, go_sem, hcell, hc]
  | none =>
    have hfar : ∀ τ, (tp u τ).farLoad (loneP H) p (Mode.plain == Mode.atomic) = u.farLoad (loneP H) p (Mode.plain == Mode.atomic) := fun τ => farLoad_tape _ _ _ _ τ
    cases hfl : u.farLoad (loneP H) p (Mode.plain == Mode.atomic) with
    | error e =>
      have hbad : badHalt e := by
        unfold World.farLoad at hfl
        rcases hr with ⟨c, e', f, ho⟩ | ⟨a', t, ho⟩ | ⟨a', l, ho⟩
        · rw [ho] at hfl
          cases hfl
          simp [World.noCell, ho, badHalt]
        · rw [ho] at hfl
          dsimp only at hfl
          split at hfl
          · cases hfl
          · cases hfl; trivial
        · rw [ho] at hfl
          cases hfl
          simp [World.noCell, ho, badHalt]
      refine .inl fun τ => ?_
      simp [execOp, op0, hx, Instr.loadAt, Instr.sureAddr, go_sem, hcell, hc, hfar, hfl]
      exact hbad
    | ok r =>
      have hv : ∃ a t, u.heap[p.block]? = some (.view a t) := by
        unfold World.farLoad at hfl
        rcases hr with ⟨c, e', f, ho⟩ | ⟨a', t, ho⟩ | ⟨a', l, ho⟩
        · rw [ho] at hfl; cases hfl
        · exact ⟨a', t, ho⟩
        · rw [ho] at hfl; cases hfl
      refine .ok (v := r.1) (u2 := u) (es := (execOp ρ (op0 d (.load 3 x) 3)).events (loneP H) u #[]) (Nat.le_refl _) (fun τ => ?_) (fun τ => ?_) ⟨rfl, .inr hv⟩
      · simp [execOp, op0, hx, Instr.loadAt, Instr.sureAddr, go_sem, hcell, hc, hfar, hfl]
      · simp [execOp, op0, hx, Instr.loadAt, Instr.sureAddr, go_sem, hcell, hc, hfar, hfl]
/-- It is no view. -/
theorem d_fresh (x y : Operand) {p q : Addr} (hx : ρ x = .pointer (some p)) (hy : ρ y = .pointer (some q)) (hq : u.heap[q.block]? = some muxO) (hne : p.block ≠ q.block) (hl : (∃ w, u.cell? p = some w) ∨ ∃ a t, u.heap[p.block]? = some (.view a t)) :
    Dich (loneP H) (execOp ρ (op0 d (.binOp .eql 144 x y 144) 4)) u (fun v u2 => u = u2 ∧ ∃ c e f, u.heap[p.block]? = some (.cells c e f)) := by
  rcases hl with ⟨v, hc⟩ | ⟨a, t, hv⟩
  · obtain ⟨c, e, f, ho, hs⟩ : ∃ c e f, u.heap[p.block]? = some (.cells c e f) ∧ c.size ≠ 0 := by
      unfold World.cell? at hc
      cases ho : u.heap[p.block]? with
      | none => rw [ho] at hc; simp at hc
      | some o =>
        rw [ho] at hc
        cases o <;> first | (simp at hc; done) | skip
        rename_i c e f
        refine ⟨c, e, f, rfl, fun h0 => ?_⟩
        dsimp only at hc
        split at hc
        · cases hc
        · have := (Array.getElem?_eq_some_iff.1 hc).1
          omega
    refine .ok (v := .bool false) (u2 := u) (es := #[]) (Nat.le_refl _) (fun τ => ?_) (fun τ => ?_) ⟨rfl, c, e, f, ho⟩
    · have h6 := ((eq_ptr (H := H) 9999 p q (tp u τ)).1).trans (same_new (w := tp u τ) hq hne ho hs).1
      simp [execOp, op0, hx, hy, binOp, Op.equal, Op.maxDepth, go_sem]
      rw [h6]
      rfl
    · have h6 := ((eq_ptr (H := H) 9999 p q (tp u τ)).2).trans (same_new (w := tp u τ) hq hne ho hs).2
      simp [execOp, op0, hx, hy, binOp, Op.equal, Op.maxDepth, go_sem]
      exact h6
  · refine .inl fun τ => ?_
    have h6 := ((eq_ptr (H := H) 9999 p q (tp u τ)).1).trans (same_view (w := tp u τ) hne hv)
    simp [execOp, op0, hx, hy, binOp, Op.equal, Op.maxDepth, go_sem]
    exact ⟨.unsupported (.unsafePointer "memory seen as another type"), trivial, _, by rw [h6]; rfl⟩
theorem d_load3 (x : Operand) {p : Addr} {c : Array Value} {e : TypeId} {f : Nat × Nat} (hx : ρ x = .pointer (some p)) (ho : u.heap[p.block]? = some (.cells c e f)) :
    Dich (loneP H) (execOp ρ (op0 d (.load 65 x) 65)) u (fun v u2 => u = u2 ∧ ∃ v0 v1 v2, u.cell? p = some v0 ∧ u.cell? ⟨p.block, p.off + 1, none⟩ = some v1 ∧ u.cell? ⟨p.block, p.off + 2, none⟩ = some v2 ∧ v = .agg #[v0, v1, v2]) := by
  have hcell : ∀ a τ, (tp u τ).cell? a = u.cell? a := fun _ _ => rfl
  have hfar : ∀ a τ, (tp u τ).farLoad (loneP H) a (Mode.plain == Mode.atomic) = u.farLoad (loneP H) a (Mode.plain == Mode.atomic) := fun a τ => farLoad_tape _ _ _ _ τ
  have hmiss : ∀ a : Addr, a.block = p.block → u.cell? a = none → ∃ h, badHalt h ∧ u.farLoad (loneP H) a (Mode.plain == Mode.atomic) = .error h := fun a ha hn => far_cells (c := c) (e := e) (f := f) (by rw [ha]; exact ho) hn _
  cases h0 : u.cell? p with
  | none =>
    obtain ⟨h, hbad, hf⟩ := hmiss _ rfl h0
    refine .inl fun τ => ?_
    simp [execOp, op0, hx, Instr.loadAt, Instr.sureAddr, loadVar, loadCells, loadCellsFrom, go_sem, hcell, h0, hfar, hf]
    exact hbad
  | some v0 =>
    cases h1 : u.cell? ⟨p.block, p.off + 1, none⟩ with
    | none =>
      obtain ⟨h, hbad, hf⟩ := hmiss ⟨p.block, p.off + 1, none⟩ rfl h1
      refine .inl fun τ => ?_
      simp [execOp, op0, hx, Instr.loadAt, Instr.sureAddr, loadVar, loadCells, loadCellsFrom, go_sem, hcell, h0, h1, hfar, hf]
      exact hbad
    | some v1 =>
      cases h2 : u.cell? ⟨p.block, p.off + 2, none⟩ with
      | none =>
        obtain ⟨h, hbad, hf⟩ := hmiss ⟨p.block, p.off + 2, none⟩ rfl h2
        refine .inl fun τ => ?_
        simp [execOp, op0, hx, Instr.loadAt, Instr.sureAddr, loadVar, loadCells, loadCellsFrom, go_sem, hcell, h0, h1, h2, hfar, hf]
        exact hbad
      | some v2 =>
        refine .ok (v := .agg #[v0, v1, v2]) (u2 := u) (es := (execOp ρ (op0 d (.load 65 x) 65)).events (loneP H) u #[]) (Nat.le_refl _) (fun τ => ?_) (fun τ => ?_) ⟨rfl, v0, v1, v2, rfl, rfl, rfl, rfl⟩
        · simp [execOp, op0, hx, Instr.loadAt, Instr.sureAddr, loadVar, loadCells, loadCellsFrom, go_sem, hcell, h0, h1, h2]
        · simp [execOp, op0, hx, Instr.loadAt, Instr.sureAddr, loadVar, loadCells, loadCellsFrom, go_sem, hcell, h0, h1, h2]
end
end Go.Proofs.Ytgfgoflhmikalaa.par

namespace Go.Proofs.Ytgfgoflhmikalaa.par
open Go Go.Conc
set_option linter.unusedVariables false
set_option linter.unusedSimpArgs false
section
variable {P : Program} {k : FuncId}
/-- From a frame that calls the refused function as it leaves, it does not come to be deep. -/
theorem doomed2 (hk : RefusedAt P k) {x : Frame} (hx : x.defers = [⟨.fn (.func k) #[], #[]⟩]) (hm : x.mode ≠ .run) (w : World) : ∀ N fr' cs' w', 2 ≤ cs'.length → runN P N (lone x [] w) = .next (lone fr' cs' w') → False := by
  intro N fr' cs' w' hl hN
  obtain ⟨y, w1, o, w2, h1, h2⟩ := dooms hk hx hm w
  rcases N with _ | _ | N
  · simp only [runN] at hN
    injection hN with hN
    have := (lone_inj hN).2.1
    subst this
    simp at hl
  · simp only [runN, h1] at hN
    injection hN with hN
    have := (lone_inj hN).2.1
    subst this
    simp at hl
  · simp only [runN, h1, h2] at hN
    cases hN
theorem c0_doomed2 (hk : RefusedAt P k) (w : World) : ∀ N fr' cs' w', 2 ≤ cs'.length → runN P N (lone (c0 k) [] w) = .next (lone fr' cs' w') → False := by
  intro N fr' cs' w' hl hN
  rcases N with _ | N
  · simp only [runN] at hN
    injection hN with hN
    have := (lone_inj hN).2.1
    subst this
    simp at hl
  · have h1 : step P (lone (c0 k) [] w) = .next (lone { c0 k with mode := .returning } [] w) := step_of (es := #[]) (by rw [run_step rfl]; rfl)
    simp only [runN, h1] at hN
    exact doomed2 hk (x := { c0 k with mode := .returning }) rfl (by simp) w N fr' cs' w' hl hN
theorem after_end2 (hk : RefusedAt P k) {fr : Frame} {u : World} {v : Value} (hl : fr.leaving P u (.returned v)) : ∀ N fr' cs' w', 2 ≤ cs'.length → runN P N (lone fr [c0 k] u) = .next (lone fr' cs' w') → False := by
  intro N fr' cs' w' h2 hN
  rcases N with _ | N
  · simp only [runN] at hN
    injection hN with hN
    have := (lone_inj hN).2.1
    subst this
    simp at h2
  · have h1 : step P (lone fr [c0 k] u) = .next (lone ((c0 k).finish v) [] u) := step_leave_returned hl
    simp only [runN, h1] at hN
    have e : (c0 k).finish v = c0 k := rfl
    rw [e] at hN
    exact c0_doomed2 hk u N fr' cs' w' h2 hN
variable {R : FuncId → Value → World → Prop} {τ : Nat → Question → Nat}
/-- The tree holds what the machine comes to. -/
theorem lt_path (hk : RefusedAt P k) (hR : ∀ g v w, R g v w → ∃ fn t, P.funcs[g]? = some fn ∧ fn.results = #[.tmp t]) {fr' : Frame} {C : List Frame} {w' : World} (hC : 1 ≤ C.length) : ∀ (N : Nat) (fr : Frame) (cs : List Frame) (u : World), LT P [c0 k] R fr cs u → runN P N (lone fr (cs ++ [c0 k]) (tp u τ)) = .next (lone fr' (C ++ [c0 k]) w') →
    ∃ u', w' = tp u' τ ∧ LT P [c0 k] R fr' C u' ∧ ((fr', C, u') = (fr, cs, u) ∨ Relation.TransGen (Desc P [c0 k]) (fr', C, u') (fr, cs, u)) := by
  intro N
  induction N with
  | zero =>
    intro fr cs u h hN
    simp only [runN] at hN
    injection hN with hN
    obtain ⟨e1, e2, e3⟩ := lone_inj hN
    have e4 := List.append_cancel_right e2
    subst e1 e4 e3
    exact ⟨u, rfl, h, .inl rfl⟩
  | succ N ih =>
    intro fr cs u h hN
    cases h with
    | stop hl hr =>
      exfalso
      rename_i v τ1
      obtain ⟨h1, h2, h3, fn, h4, h5⟩ := hl
      obtain ⟨fn', t, h6, h7⟩ := hR _ _ _ hr
      obtain rfl := Option.some.inj (h4.symm.trans h6)
      rw [results_tmp h7] at h5
      injection h5 with h5 _
      have hl' : fr.leaving P (tp u τ) (.returned v) := ⟨h1, h2, h3, fn, h4, by rw [results_tmp h7, h5]⟩
      have hN' : runN P (N + 1) (lone fr [c0 k] (tp u τ)) = .next (lone fr' (C ++ [c0 k]) w') := hN
      exact after_end2 hk hl' (N + 1) fr' (C ++ [c0 k]) w' (by simp; omega) hN'
    | step hn f c v h ih2 =>
      obtain ⟨hd, es, hs⟩ := h τ
      have hst := step_of (hs τ (fun _ _ _ => rfl))
      simp only [runN, hst] at hN
      obtain ⟨u', e1, e2, e3⟩ := ih _ _ _ (ih2 τ) hN
      have hde : Desc P [c0 k] (f τ, c τ, v τ) (fr, cs, u) := ⟨hn, τ, hd, es, hs⟩
      exact ⟨u', e1, e2, .inr (e3.elim (fun e => e ▸ .single hde) fun e => .tail e hde)⟩
theorem come_enter {tl : List Frame} {b : Frame} {a : Act} {kk : List Item} {cs : List Frame} {u : World} {s0 : LS} {ops : Array Oper} {i : Nat} {rest : List Nat} {o : Oper} {f : FuncId} {fn : Func} {args : Array Operand} {ats : Array TypeId} (ho : ops[i]? = some o) (hw : Region.wanted o (yielded ops a.tmps) = true) (hk : b.kind ≠ .early) (hop : o.op = .call { callee := .value (.func f), args, argTypes := ats })
    (hf : P.funcs[f]? = some fn) (hname : (fn.name == "runtime.NumGoroutine") = false) (hb : fn.body.isNone = false) {vs : Array Value} (hv : args.map a.eval = vs) (h : Come P tl R s0 (b.at a (.inRegion ops (i :: rest) :: kk)) cs u) : Come P tl R s0 (Frame.enter P f vs .normal) (b.at a (.inRegion ops (i :: rest) :: kk) :: cs) u :=
  h.go rfl (Nat.le_refl _) fun τ => by
    have h1 : listed P b.fn a o (tp u τ) = #[] := by unfold listed; rw [events_call_body hop hf hname hb]; exact seen_none P _
    show stepG P true (G (b.at a (.inRegion ops (i :: rest) :: kk)) (cs ++ tl)) (tp u τ) = _
    rw [stepG_enter ho hw hk (run_call_body hop hf hname hb), h1, hv]
    rfl
/-- THROUGH A CALL. -/
theorem come_calls (hk : RefusedAt P k) (hR : ∀ g v w, R g v w → ∃ fn t, P.funcs[g]? = some fn ∧ fn.results = #[.tmp t]) {f : FuncId} {args : Array Value} {fn : Func} {t : Tmp} (hf : P.funcs[f]? = some fn) (hr : fn.results = #[.tmp t]) {u : World} {Rf : Value → World → Prop} (hC : Calls P f args u (fun e w => ∃ v, e = .returned v ∧ Rf v w))
    {s0 : LS} {c : Frame} {cs : List Frame} (h : Come P [c0 k] R s0 (Frame.enter P f args .normal) (c :: cs) u) : ∃ v u', Rf v u' ∧ Come P [c0 k] R s0 (c.finish v) cs u' := by
  obtain ⟨e, w', fr', ⟨v, rfl, hv⟩, hcom, hfn, hl⟩ := hC ((c :: cs) ++ [c0 k])
  obtain ⟨N, hN⟩ : Steps P _ _ := hcom
  obtain ⟨u', e1, e2, e3⟩ := lt_path (τ := u.tape) hk hR (C := c :: cs) (by simp) N _ _ _ h.lt hN
  obtain ⟨h1, h2, h3, fn', h4, h5⟩ := hl
  rw [hfn] at h4
  obtain rfl := Option.some.inj (h4.symm.trans hf)
  rw [results_tmp hr] at h5
  injection h5 with h5 _
  refine ⟨v, w', hv, ?_⟩
  have h6 : Come P [c0 k] R s0 fr' (c :: cs) u' := ⟨e2, e3.elim (fun e => h.desc.elim (fun e' => .inl (e.trans e')) fun x => .inr (e ▸ x)) fun x => .inr (h.desc.elim (fun e' => e' ▸ x) fun y => .trans x y)⟩
  have hn : ¬ AtEndL fr' (c :: cs) := fun x => by cases x.1
  have hs : ∀ τ, stepG P true (G fr' ((c :: cs) ++ [c0 k])) (tp u' τ) = .go (G (c.finish v) (cs ++ [c0 k])) (tp w' τ) (seen P fr'.fn #[] ++ #[]) := fun τ => by
    have hrun : (results fn' fr'.tmps).runT P (tp u' τ) #[] = (.ok v (tp u' τ), #[]) := by
      rw [Sem.runT_eq, results_tmp hr, events_results_tmp hr, h5]
    rw [unwind_step (by rw [h1]; exact FrameMode.noConfusion)]
    show unwind P true fr' (c :: (cs ++ [c0 k])) none (tp u' τ) = _
    rw [un_ret h2 h1 (by rw [hfn]; exact hf) hrun, dr_normal h3, e1]
    rfl
  have hd : u'.drawn ≤ w'.drawn := by rw [e1]; exact Nat.le_refl _
  exact ⟨h6.lt.go hn hd hs, .inr (h6.desc.elim (fun e => e ▸ .single (desc_go hn hd hs)) fun x => .trans (.single (desc_go hn hd hs)) x)⟩
end
end Go.Proofs.Ytgfgoflhmikalaa.par
