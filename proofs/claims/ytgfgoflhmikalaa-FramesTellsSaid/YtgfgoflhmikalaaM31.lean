/- Part 31 of what the proofs stand on: lemmas on worlds, on goroutines, contracts of functions. No conditions. -/
import Derived.Test.YtgfgoflhmikalaaM30
namespace Go.Proofs.Ytgfgoflhmikalaa.par
open Go Go.Conc Go.RowKit Go.Conc.Lib Go.ConcR.Gen Go.ConcN.Gen
open Go.ConcR (stA smA WgAt KK rd wr mk DC0)
set_option linter.unusedVariables false
set_option linter.unusedSimpArgs false
section
variable {P : Program} {main : Bool} {U : Nat → Prop} {Stop : (Nat → Prop) → Nat → Goroutine → World → Prop}
abbrev Gu1U (U : Nat → Prop) : (Nat → Prop) → World → World → Array Event → Prop := fun O w w' es => Gu1 O w w' es ∧ Av U es
theorem gu1_none (O : Nat → Prop) (w : World) : Gu1U U O w w #[] := ⟨⟨rfl, rfl, rfl, Nat.le_refl _, fun _ _ _ => rfl, fun e he => absurd he (by simp)⟩, fun e he => absurd he (by simp)⟩
/-- A step that leaves the world as it is. -/
theorem OT.ctl {O : Nat → Prop} {g g' : Goroutine} {w : World} (hr : g.status = .running) (h : ∀ w, stepG P main g w = .go g' w #[]) (hn : OT P main Env1 (Gu1U U) Stop O 0 g' w) : OT P main Env1 (Gu1U U) Stop O 0 g w := by
  refine OT.mk hr fun w₁ he => ⟨g', w₁, #[], h w₁, gu1_none O w₁, ?_⟩
  rw [grow_same rfl]
  exact OT.rely (EnvT.trans ry1) hn he
/-- An operation that makes a block. -/
theorem OT.new {O : Nat → Prop} {g : Goroutine} {w : World} (hr : g.status = .running) (g' : Nat → Goroutine) (o : Obj) (h : ∀ w, stepG P main g w = .go (g' w.heap.size) (w.alloc o) #[]) (hn : ∀ w₁, Env1 O w w₁ → OT P main Env1 (Gu1U U) Stop (grow O w₁ (w₁.alloc o)) 0 (g' w.heap.size) (w₁.alloc o)) : OT P main Env1 (Gu1U U) Stop O 0 g w := by
  refine OT.mk hr fun w₁ he => ?_
  have hh : w₁.heap = w.heap := he.live
  refine ⟨_, _, _, h w₁, ⟨⟨rfl, rfl, rfl, ?_, fun b hb _ => ?_, fun e he => absurd he (by simp)⟩, fun e he => absurd he (by simp)⟩, ?_⟩
  · show w₁.heap.size ≤ (w₁.heap.push _).size
    simp
  · show (w₁.heap.push _)[b]? = _
    rw [Array.getElem?_push, if_neg (by omega)]
  · rw [hh]
    exact hn w₁ he
end
/-- What has been made so far. -/
structure Made (H : Array Obj) (W w : World) : Prop where
  heap : w.heap = H
  tape : w.tape = W.tape
  os : w.os = W.os
  output : w.output = W.output
theorem Made.env {H : Array Obj} {W w w₁ : World} {O : Nat → Prop} (h : Made H W w) (he : Env1 O w w₁) : Made H W w₁ := ⟨Eq.trans he.live h.heap, he.env.tape.trans h.tape, he.env.os.trans h.os, he.env.output.trans h.output⟩
theorem Made.alloc {H : Array Obj} {W w : World} (h : Made H W w) (o : Obj) : Made (H.push o) W (w.alloc o) := ⟨by show w.heap.push o = _; rw [h.heap], h.tape, h.os, h.output⟩
noncomputable def opsH0 : Array Oper := match bodyH with | .seq (.region _ ops _) _ => ops | _ => #[]
noncomputable def restH1 : Code := match bodyH with | .seq _ c => c | _ => .skip
noncomputable def opsH1 : Array Oper := match restH1 with | .seq (.region _ ops _) _ => ops | _ => #[]
noncomputable def restH2 : Code := match restH1 with | .seq _ c => c | _ => .skip
noncomputable def opsH2 : Array Oper := match restH2 with | .seq (.region _ ops _) _ => ops | _ => #[]
theorem body_H : bodyH = .seq (.region 0 opsH0 false) restH1 := by kernel_rfl
theorem rest_H1 : restH1 = .seq (.region 1 opsH1 false) restH2 := by kernel_rfl
theorem rest_H2 : restH2 = .seq (.region 2 opsH2 false) phaseH := by kernel_rfl
theorem boxH (t : TypeId) (k : Tmp) (a : Act) (hz : ∀ w, (sizeOf t).run Try.prog w = .ok (a.eval (.tmp k)).cells.size w) (he : ∀ w, (sizeOf t).events Try.prog w #[] = #[]) (d : Option Tmp) (ps : String) (w : World) : (execOp a.eval ⟨d, .box t (.tmp k), 0, ps, #[], none⟩).run Try.prog w = .ok (.value (.pointer (some ⟨w.heap.size, 0, none⟩))) (w.alloc (.cells (a.eval (.tmp k)).cells t)) ∧ (execOp a.eval ⟨d, .box t (.tmp k), 0, ps, #[], none⟩).events Try.prog w #[] = #[] := by
  unfold execOp
  constructor
  · simp [go_sem]
  · simp [go_sem]
theorem allocH (t : TypeId) (cs : Array Value) (ρ : Operand → Value) (hz : ∀ w, (zeroValue t).run Try.prog w = .ok (.agg cs) w) (he : ∀ w, (zeroValue t).events Try.prog w #[] = #[]) (d : Option Tmp) (ps : String) (w : World) : (execOp ρ ⟨d, .alloc t, 0, ps, #[], none⟩).run Try.prog w = .ok (.value (.pointer (some ⟨w.heap.size, 0, none⟩))) (w.alloc (.cells cs t)) ∧ (execOp ρ ⟨d, .alloc t, 0, ps, #[], none⟩).events Try.prog w #[] = #[] := by
  unfold execOp
  constructor
  · simp [go_sem, hz]
  · simp [go_sem, hz, he]
section
variable {main : Bool} {U : Nat → Prop} {Stop : (Nat → Prop) → Nat → Goroutine → World → Prop}
theorem step_new {b : Frame} {a : Act} {ops : Array Oper} {i : Nat} {rest : List Nat} {k : List Item} {cs : List Frame} {o : Oper} {ob : World → Obj} (ho : ops[i]? = some o) (hw : Region.wanted o (yielded ops a.tmps) = true) (hk : b.kind ≠ .early) (w : World)
    (h : (execOp a.eval o).run Try.prog w = .ok (.value (.pointer (some ⟨w.heap.size, 0, none⟩))) (w.alloc (ob w)) ∧ (execOp a.eval o).events Try.prog w #[] = #[]) :
    stepG Try.prog main (G (b.at a (.inRegion ops (i :: rest) :: k)) cs) w = .go (G (b.at (a.put o.dst (.pointer (some ⟨w.heap.size, 0, none⟩))) (.inRegion ops rest :: k)) cs) (w.alloc (ob w)) #[] := by
  rw [stepG_value ho hw hk h.1]
  unfold listed
  rw [h.2]
  rw [seen_none]
def H1 (w : World) (s : ByteArray) : Array Obj := w.heap.push (.cells #[.string s] 9)
def H2 (w : World) (s : ByteArray) (vl : Value) : Array Obj := (H1 w s).push (.cells #[vl] 63)
def H3 (w : World) (s : ByteArray) (vl : Value) : Array Obj := (H2 w s vl).push (.cells #[.int .u64 0, .int .u32 0] 85)
def H4 (w : World) (s : ByteArray) (vl : Value) : Array Obj := (H3 w s vl).push (.cells #[.int .i64 0] 87)
set_option maxRecDepth 100000 in
/-- hold, entered in the crowd: to its phase. -/
theorem hold_tree {O : Nat → Prop} {w : World} {cs : List Frame} {s : ByteArray} {ad : Option Addr} {n cap : Nat} {vl : Value} (hvl : vl = .slice ad n cap) :
    OT Try.prog true Env1 (Gu1U U) (fun O d g wf => d = 0 ∧ g.status = .running ∧ AtStartH (.string s) vl w.heap.size (w.heap.size + 1) (w.heap.size + 2) (w.heap.size + 3) cs g ∧ Made (H4 w s vl) w wf) O 0 (G (Frame.enter Try.prog 33 #[.string s, vl] .normal) cs) w := by
  rw [enter_at _ Try.func33 (show Try.f33.body = some bodyH by kernel_rfl)]
  have e0 : opsH0[0]? = some ⟨some 2, .box 9 (.tmp 0), 0, "frames.go:59", #[], none⟩ := by kernel_rfl
  have e1 : opsH0[1]? = some ⟨some 3, .box 63 (.tmp 1), 0, "frames.go:59", #[], none⟩ := by kernel_rfl
  have e2 : opsH0[2]? = some ⟨some 4, .assign (.const (.bool false)), 4, "frames.go:59", #[], none⟩ := by kernel_rfl
  have e3 : opsH1[0]? = some ⟨some 5, .alloc 85, 0, "frames.go:60", #[], none⟩ := by kernel_rfl
  have e4 : opsH2[0]? = some ⟨some 6, .alloc 87, 0, "frames.go:61", #[], none⟩ := by kernel_rfl
  have r0 : List.range opsH0.size = [0, 1, 2] := by kernel_rfl
  have r1 : List.range opsH1.size = [0] := by kernel_rfl
  have r2 : List.range opsH2.size = [0] := by kernel_rfl
  have nn : Try.f33.ntmps = 17 := rfl
  rw [nn]
  have hT : (#[.string s, vl] ++ Array.replicate (17 - #[.string s, vl].size) undef : Array Value) = #[.string s, vl, undef, undef, undef, undef, undef, undef, undef, undef, undef, undef, undef, undef, undef, undef, undef] := by
    simp [Array.replicate_succ]
  rw [hT]
  rw [body_H]
  clear hT nn
  generalize hA0 : (⟨#[.string s, vl, undef, undef, undef, undef, undef, undef, undef, undef, undef, undef, undef, undef, undef, undef, undef], []⟩ : Act) = A0
  show OT _ _ _ _ _ O 0 (G (bH.at A0 _) cs) w
  refine OT.ctl rfl (fun w => stepG_seq) ?_
  refine OT.ctl rfl (fun w => stepG_region) ?_
  rw [r0]
  have v0 : A0.eval (.tmp 0) = .string s := by rw [← hA0]; rfl
  have v1 : A0.eval (.tmp 1) = vl := by rw [← hA0]; rfl
  have c0 : (A0.eval (.tmp 0)).cells = #[.string s] := by rw [v0]; rfl
  refine OT.new rfl (fun m => G (bH.at (A0.put (some 2) (.pointer (some ⟨m, 0, none⟩))) [.inRegion opsH0 [1, 2], .code restH1]) cs) (.cells #[.string s] 9) (fun w => by
    have h := boxH 9 0 A0 (fun w => by rw [c0]; kernel_rfl) (fun w => by kernel_rfl) (some 2) "frames.go:59" w
    rw [c0] at h
    exact step_new (ob := fun _ => .cells #[.string s] 9) e0 rfl (by k_ne) w h) fun w1 he1 => ?_
  have m1 : Made (H1 w s) w (w1.alloc (.cells #[.string s] 9)) := (Made.env ⟨rfl, rfl, rfl, rfl⟩ he1).alloc _
  have n1 : (w1.alloc (.cells #[.string s] 9)).heap.size = w.heap.size + 1 := by rw [m1.heap]; simp [H1]
  generalize (w1.alloc (.cells #[.string s] 9)) = z1 at *
  generalize grow O w1 z1 = O1
  generalize hA1 : A0.put (some 2) (.pointer (some ⟨w.heap.size, 0, none⟩)) = A1
  have v2 : A1.eval (.tmp 1) = vl := by rw [← hA1, ← hA0]; rfl
  have c1 : (A1.eval (.tmp 1)).cells = #[vl] := by rw [v2, hvl]; rfl
  refine OT.new rfl (fun m => G (bH.at (A1.put (some 3) (.pointer (some ⟨m, 0, none⟩))) [.inRegion opsH0 [2], .code restH1]) cs) (.cells #[vl] 63) (fun w => by
    have h := boxH 63 1 A1 (fun w => by rw [c1]; kernel_rfl) (fun w => by kernel_rfl) (some 3) "frames.go:59" w
    rw [c1] at h
    exact step_new (ob := fun _ => .cells #[vl] 63) e1 rfl (by k_ne) w h) fun w2 he2 => ?_
  rw [n1]
  have m2 : Made (H2 w s vl) w (w2.alloc (.cells #[vl] 63)) := (m1.env he2).alloc _
  have n2 : (w2.alloc (.cells #[vl] 63)).heap.size = w.heap.size + 2 := by rw [m2.heap]; simp [H1, H2]
  generalize (w2.alloc (.cells #[vl] 63)) = z2 at *
  generalize grow O1 w2 z2 = O2
  generalize hA2 : A1.put (some 3) (.pointer (some ⟨w.heap.size + 1, 0, none⟩)) = A2
  refine OT.ctl (g' := G (bH.at (A2.put (some 4) (.bool false)) [.inRegion opsH0 [], .code restH1]) cs) rfl (fun v => by
    rw [stepG_value (v := .bool false) (w' := v) e2 rfl (by k_ne) (by unfold execOp; simp [go_sem, Act.eval])]
    have : (execOp A2.eval ⟨some 4, .assign (.const (.bool false)), 4, "frames.go:59", #[], none⟩).events Try.prog v #[] = #[] := by unfold execOp; simp [go_sem]
    unfold listed
    rw [this, seen_none]) ?_
  generalize hA3 : A2.put (some 4) (.bool false) = A3
  refine OT.ctl rfl (fun w => stepG_region_end) ?_
  rw [rest_H1]
  refine OT.ctl rfl (fun w => stepG_seq) ?_
  refine OT.ctl rfl (fun w => stepG_region) ?_
  rw [r1]
  refine OT.new rfl (fun m => G (bH.at (A3.put (some 5) (.pointer (some ⟨m, 0, none⟩))) [.inRegion opsH1 [], .code restH2]) cs) (.cells #[.int .u64 0, .int .u32 0] 85) (fun v => step_new (ob := fun _ => .cells #[.int .u64 0, .int .u32 0] 85) e3 rfl (by k_ne) v (allocH _ _ _ (fun w => by kernel_rfl) (fun w => by kernel_rfl) _ _ v)) fun w3 he3 => ?_
  rw [n2]
  have m3 : Made (H3 w s vl) w (w3.alloc (.cells #[.int .u64 0, .int .u32 0] 85)) := (m2.env he3).alloc _
  have n3 : (w3.alloc (.cells #[.int .u64 0, .int .u32 0] 85)).heap.size = w.heap.size + 3 := by rw [m3.heap]; simp [H1, H2, H3]
  generalize (w3.alloc (.cells #[.int .u64 0, .int .u32 0] 85)) = z3 at *
  generalize grow O2 w3 z3 = O3
  generalize hA4 : A3.put (some 5) (.pointer (some ⟨w.heap.size + 2, 0, none⟩)) = A4
  refine OT.ctl rfl (fun w => stepG_region_end) ?_
  rw [rest_H2]
  refine OT.ctl rfl (fun w => stepG_seq) ?_
  refine OT.ctl rfl (fun w => stepG_region) ?_
  rw [r2]
  refine OT.new rfl (fun m => G (bH.at (A4.put (some 6) (.pointer (some ⟨m, 0, none⟩))) [.inRegion opsH2 [], .code phaseH]) cs) (.cells #[.int .i64 0] 87) (fun v => step_new (ob := fun _ => .cells #[.int .i64 0] 87) e4 rfl (by k_ne) v (allocH _ _ _ (fun w => by kernel_rfl) (fun w => by kernel_rfl) _ _ v)) fun w4 he4 => ?_
  rw [n3]
  have m4 : Made (H4 w s vl) w (w4.alloc (.cells #[.int .i64 0] 87)) := (m3.env he4).alloc _
  generalize (w4.alloc (.cells #[.int .i64 0] 87)) = z4 at *
  refine OT.ctl rfl (fun w => stepG_region_end) ?_
  refine .stop fun wf hf => ⟨rfl, rfl, ⟨undef, undef, undef, undef, undef, undef, undef, undef, undef, undef, ?_⟩, m4.env hf⟩
  rw [← hA4, ← hA3, ← hA2, ← hA1, ← hA0]
  rfl
end
end Go.Proofs.Ytgfgoflhmikalaa.par

namespace Go.Proofs.Ytgfgoflhmikalaa.par
open Go Go.Conc Go.RowKit Go.Conc.Lib Go.ConcR.Gen Go.ConcN.Gen
open Go.ConcR (stA smA WgAt KK rd wr mk DC0)
set_option linter.unusedVariables false
set_option linter.unusedSimpArgs false
set_option maxRecDepth 100000
theorem x_ldI_x : Extern.findNext Try.f73 = none := by rfl
theorem x_ldI_f : Extern.find Try.f73 = some (Extern.Atomic.loadT (.int .i64)) := by rfl
section
variable {A : Par} {I : World → Prop} {vs vl : Value} {bs bl : Nat} {cs : List Frame}
/-- hold's frame as it returns. -/
def AtRetH (b : Bool) (cs : List Frame) (g : Goroutine) : Prop := ∃ (T : Array Value) (todo : List Item), g = G { bH.at ⟨T, []⟩ todo with mode := .returning } cs ∧ T.getD 4 undef = .bool b
/-- The load of what went wrong. -/
def AtLoadH (I : World → Prop) (wB : Nat) (cs : List Frame) (g : Goroutine) (w : World) : Prop :=
  g.status = .running ∧ ∀ v : Int, w.cell? ⟨wB, 0, none⟩ = some (.int .i64 v) → ∃ g', stepG Try.prog true g w = .go g' w #[rd ⟨wB, 0, none⟩] ∧ ∃ m, GoI Try.prog true I (fun g _ => AtRetH (v == 0) cs g) m g'
theorem hold_load {g : Goroutine} (hg : Par.EndH A vs vl bs bl cs g) : GoI Try.prog true I (AtLoadH I A.wB cs) 60 g := by
  obtain ⟨x7, x8, x9, x10, x11, x12, x13, x14, x15, x16, rfl⟩ := hg
  simp only [phaseH, bodyH, Try.f33, Option.getD_some, loopH, restH, T17, ops9, end10]
  repeat (first | (with_reducible apply gi_seq) | (with_reducible apply gi_regend) | ((with_reducible apply gi_region); simp only [List.size_toArray, List.length_cons, List.length_nil, Nat.reduceAdd, Nat.zero_add, List.range, List.range.loop]) | (with_reducible apply gi_codeskip) | (with_reducible apply gi_inBlock) | (with_reducible apply gi_ret) | (with_reducible apply gi_ended) | ((with_reducible refine gi_value (v := ?_) (o := ?_) ?_ ?_ ?_ (fun _ _ => ?_) (fun _ _ => ?_) ?_); rotate_left 2; (focus exact rfl); (focus exact rfl); (focus k_ne); (focus (go_simp; (try w_num); first | done | exact rfl)); (focus (simp [go_sem, *]; done)); walk_nrm) | (refine gi_call rfl rfl (by k_ne) rfl Try.func49 (by kernel_rfl) rfl ?_; walk_nrmf Try.f49))
  refine GoD.halt fun w h => ⟨rfl, fun v hc => ?_⟩
  refine ⟨_, stepG_load_atomic rfl rfl (by k_ne) rfl Try.func73 (by kernel_rfl) (by kernel_rfl) x_ldI_x .i64 x_ldI_f rfl hc, 60, ?_⟩
  clear hc h w
  walk_nrm
  repeat (first | (with_reducible apply gi_seq) | (with_reducible apply gi_regend) | ((with_reducible apply gi_region); simp only [List.size_toArray, List.length_cons, List.length_nil, Nat.reduceAdd, Nat.zero_add, List.range, List.range.loop]) | (with_reducible apply gi_codeskip) | (with_reducible apply gi_inBlock) | (with_reducible apply gi_ret) | (with_reducible apply gi_ended) | ((with_reducible refine gi_value (v := ?_) (o := ?_) ?_ ?_ ?_ (fun _ _ => ?_) (fun _ _ => ?_) ?_); rotate_left 2; (focus exact rfl); (focus exact rfl); (focus k_ne); (focus (go_simp; (try w_num); first | done | exact rfl)); (focus (simp [go_sem, *]; done)); walk_nrm) | (refine gi_leave1 rfl rfl Try.func49 rfl ?_; walk_nrm))
  exact GoD.halt fun w h => ⟨_, _, rfl, rfl⟩
end
end Go.Proofs.Ytgfgoflhmikalaa.par

namespace Go.Proofs.Ytgfgoflhmikalaa.par
open Go Go.Conc Go.RowKit Go.Conc.Lib Go.ConcR.Gen Go.ConcN.Gen
open Go.ConcR (stA smA WgAt KK rd wr mk DC0)
set_option linter.unusedVariables false
set_option linter.unusedSimpArgs false
theorem unt_low {U : Nat → Prop} {B : Nat} {t : Trace} (h : ∀ op ∈ t, op.act.low B) (hU : ∀ b, U b → B ≤ b) : UnT U t := fun op hop =>
  ⟨fun x hx hl => low_touch (h op hop) hx (hl.imp hU), fun a ha hu => by
    have h1 := h op hop
    rw [ha] at h1
    have h2 : a.block < B := h1
    have := hU _ hu
    omega⟩
theorem unt_rel {U : Nat → Prop} {t : Trace} {a : Addr} (h : UnT U t) (ha : U a.block) : NoRelease a t := fun i hi => by
  unfold Trace.act? at hi
  obtain ⟨op, h1, h2⟩ := Option.map_eq_some_iff.1 hi
  exact (h op (Array.mem_of_getElem? h1)).2 a h2 ha
section
variable {w w1 : World} {s : ByteArray} {vl : Value}
theorem H4_size : (H4 w s vl).size = w.heap.size + 4 := by simp [H4, H3, H2, H1]
theorem H4_old {b : Nat} (h : b < w.heap.size) : (H4 w s vl)[b]? = w.heap[b]? := by
  unfold H4 H3 H2 H1
  rw [Array.getElem?_push, if_neg (by first | (simp; done) | (simp; omega)), Array.getElem?_push, if_neg (by first | (simp; done) | (simp; omega)), Array.getElem?_push, if_neg (by first | (simp; done) | (simp; omega)), Array.getElem?_push, if_neg (by omega)]
theorem H4_0 : (H4 w s vl)[w.heap.size]? = some (.cells #[.string s] 9) := by
  unfold H4 H3 H2 H1
  rw [Array.getElem?_push, if_neg (by first | (simp; done) | (simp; omega)), Array.getElem?_push, if_neg (by first | (simp; done) | (simp; omega)), Array.getElem?_push, if_neg (by simp), Array.getElem?_push, if_pos rfl]
theorem H4_1 : (H4 w s vl)[w.heap.size + 1]? = some (.cells #[vl] 63) := by
  unfold H4 H3 H2 H1
  rw [Array.getElem?_push, if_neg (by simp), Array.getElem?_push, if_neg (by simp), Array.getElem?_push, if_pos (by simp)]
theorem H4_2 : (H4 w s vl)[w.heap.size + 2]? = some (.cells #[.int .u64 0, .int .u32 0] 85) := by
  unfold H4 H3 H2 H1
  rw [Array.getElem?_push, if_neg (by simp), Array.getElem?_push, if_pos (by simp)]
theorem H4_3 : (H4 w s vl)[w.heap.size + 3]? = some (.cells #[.int .i64 0] 87) := by
  unfold H4 H3 H2 H1
  rw [Array.getElem?_push, if_pos (by simp)]
end
/-- The load, and the return. -/
theorem hold_out {A : Par} {O : Nat → Prop} {w : World} {v : Int} {c : Frame} {cs : List Frame} {g : Goroutine} {vs vl : Value} {bs bl : Nat} (hO : O A.wB) (hw : w.heap[A.wB]? = some (.cells #[.int .i64 v] 87)) (hg : Par.EndH A vs vl bs bl (c :: cs) g) :
    OT Try.prog true Env1 (Gu1U none1) (fun O' d g w' => d = 0 ∧ g.status = .running ∧ g = G (c.finish (.bool (v == 0))) cs ∧ w'.heap = w.heap ∧ w'.tape = w.tape ∧ w'.os = w.os ∧ w'.output = w.output) O 0 g w := by
  have hE : ∀ {O : Nat → Prop} {a b : World}, Env1 O a b → b.heap = a.heap := fun he => he.live
  -- what stays
  let I : World → Prop := fun x => x.heap = w.heap ∧ x.tape = w.tape ∧ x.os = w.os ∧ x.output = w.output
  have hI : ∀ (O : Nat → Prop) a b, Env1 O a b → I a → I b := fun O a b he h => ⟨(hE he).trans h.1, he.env.tape.trans h.2.1, he.env.os.trans h.2.2.1, he.env.output.trans h.2.2.2⟩
  have h1 := @hold_load A I vs vl bs bl (c :: cs) g hg
  refine OT.bind2 (GoD.quiet (I := I) (EnvT.refl ry1) (hI O) (fun w => gu1_none O w) h1 (⟨rfl, rfl, rfl, rfl⟩ : I w) (d := 0)) fun O1 d1 g1 w1 hall => ?_
  obtain ⟨rfl, rfl, _⟩ := hall w1 (EnvT.refl ry1 _ _)
  refine OT.mk (hall w1 (EnvT.refl ry1 _ _)).2.2.2.1 fun w₁ he => ?_
  obtain ⟨_, _, hI1, _, hst⟩ := hall w₁ he
  have hc : w₁.cell? ⟨A.wB, 0, none⟩ = some (.int .i64 v) := by
    unfold World.cell?
    dsimp only
    rw [hI1.1, hw]
    rfl
  obtain ⟨g2, e2, m, h2⟩ := hst v hc
  refine ⟨g2, w₁, _, e2, ⟨⟨rfl, rfl, rfl, Nat.le_refl _, fun _ _ _ => rfl, fun e he => ?_⟩, fun e he => ⟨fun x hx hl => by obtain ⟨b, h, _⟩ := inB.two hl hl; exact h, fun a ha => id⟩⟩, ?_⟩
  · rw [Array.mem_singleton] at he
    subst he
    exact .inl (.inl hO)
  · rw [grow_same rfl, deafBehind_still (fun e he => by rw [Array.mem_singleton] at he; subst he; exact ⟨by simp [rd], by simp [rd]⟩)]
    refine OT.bind2 (GoD.quiet (I := I) (EnvT.refl ry1) (hI O1) (fun w => gu1_none O1 w) h2 hI1 (d := 0)) fun O3 d3 g3 w3 hall3 => ?_
    obtain ⟨rfl, rfl, hI3, T, todo, rfl, h4⟩ := hall3 w3 (EnvT.refl ry1 _ _)
    have hv : (results Try.f33 T).run Try.prog w3 = .ok (T.getD 4 undef) w3 := results_tmp (by rfl) _ _ _
    refine OT.ctl (g' := G (c.finish (.bool (v == 0))) cs) rfl (fun z => ?_) (.stop fun w4 he4 => ⟨rfl, rfl, rfl, (hE he4).trans hI3.1, he4.env.tape.trans hI3.2.1, he4.env.os.trans hI3.2.2.1, he4.env.output.trans hI3.2.2.2⟩)
    rw [← h4]
    exact stepG_leave rfl rfl Try.func33 (results_tmp (by rfl) _ _ _) (events_results_tmp (by rfl) _ _)
set_option maxRecDepth 100000 in
/-- FRAMES.HOLD, CALLED BY GOROUTINE 0 BESIDE LEAVERS. -/
theorem hold_law (K : Machine → Trace → Prop) (hback : ∀ m t m' ops, stepT Try.prog m = (.next m', ops) → K m' (t ++ ops) → K m t) {S : Nat → Prop} {gs : Array Goroutine} {w : World} {sl : Option (Nat × Nat)} {t : Trace} {O : Nat → Prop} {q : Nat → Nat}
    (hc : Camp Try.prog S gs w t O q) {s : ByteArray} {ad : Option Addr} {n cap b off : Nat} {c : Frame} {cs : List Frame} (ha : gs[0]? = some (G (Frame.enter Try.prog 33 #[.string s, .slice ad n cap] .normal) (c :: cs))) (hgl : (Try.prog).toTables.globals.size ≤ w.heap.size)
    (hn : n < 1000000000000) (had : 0 < n → ad = some ⟨b, off, none⟩ ∧ b < w.heap.size ∧ ¬ S b) {cu : Nat → Int × Int × Int} {gb : Nat → Bool}
    (hcells : ∀ i, i < n → w.cell? ⟨b, off + i * 3, none⟩ = some (.int .i64 (cu i).1) ∧ w.cell? ⟨b, off + i * 3 + 1, none⟩ = some (.int .i64 (cu i).2.1) ∧ w.cell? ⟨b, off + i * 3 + 2, none⟩ = some (.int .i64 (cu i).2.2))
    (hone : ∀ i, i < n → ∀ u : World, (Try.prog).toTables.globals.size ≤ u.heap.size → Calls (loneP Hw) 46 #[.agg #[.int .i64 (cu i).1, .int .i64 (cu i).2.1, .int .i64 (cu i).2.2], .string s] u (fun e _ => e = .returned (.bool (gb i))))
    (hfin : ∀ gs' w' sl' t' q' S' (v : Bool), (v = true ↔ ∀ i, i < n → gb i = true) → Camp Try.prog S' gs' w' t' O q' → gs'[0]? = some (G (c.finish (.bool v)) cs) → (∀ b, S' b → S b ∨ w.heap.size ≤ b) → SameW (fun b => b < w.heap.size ∧ ¬ S b) w w' → K (crowd gs' w' sl') t') : K (crowd gs w sl) t := by
  have hOl : ∀ b, O b → b < w.heap.size := fun b hb => hc.ge.lt 0 b ⟨rfl, hb⟩
  have hOs : ∀ b, O b → ¬ S b := fun b hb => hc.ge.sh 0 b ⟨rfl, hb⟩
  have hSl : ∀ b, S b → b < w.heap.size := hc.ge.shlt
  refine beside_law K hback (fun b => b = w.heap.size + 2 ∨ b = w.heap.size + 3) (fun _ g wf => AtStartH (.string s) (.slice ad n cap) w.heap.size (w.heap.size + 1) (w.heap.size + 2) (w.heap.size + 3) (c :: cs) g ∧ Made (H4 w s (.slice ad n cap)) w wf) ?_ gs w sl t O q _ hc (unt_low hc.ti.seen fun b hb => by omega) ha (hold_tree rfl)
  intro gs1 w1 sl1 t1 O1 q1 a1 hc1 hu1 ha1 _ hF1
  obtain ⟨hst, hm⟩ := hF1 w1 (EnvT.refl ry1 _ _)
  have hz1 : w1.heap.size = w.heap.size + 4 := by rw [hm.heap, H4_size]
  have hold1 : ∀ b, b < w.heap.size → w1.heap[b]? = w.heap[b]? := fun b hb => by rw [hm.heap, H4_old hb]
  let A : Par := { P := Try.prog, N0 := gs1.size, Wg := w.heap.size + 2, wB := w.heap.size + 3, S0 := S, B1 := w.heap.size + 4, tW := link.tWg, tB := 87, bnd := n, gd := fun k => ∀ i, i < n → i % 4 = k → gb i = true, Wz := w1 }
  have hRd : ∀ b, b < w.heap.size → ¬ S b → A.Rd b := fun b hb hs => ⟨by show b < w.heap.size + 4; omega, by show b ≠ w.heap.size + 2; omega, by show b ≠ w.heap.size + 3; omega, hs⟩
  have hcell1 : ∀ bb o, bb < w.heap.size → w1.cell? ⟨bb, o, none⟩ = w.cell? ⟨bb, o, none⟩ := fun bb o hb => by
    unfold World.cell?
    dsimp only
    rw [hold1 bb hb]
  have J : A.Jobs (w.heap.size + 1) w.heap.size n cap b off ad s cu gb := by
    refine ⟨rfl, rfl, by show w.heap.size + 3 ≠ w.heap.size + 2; omega, fun j hj fb hfb => ?_, by show w.heap.size + 4 ≤ w1.heap.size; omega⟩
    have hfb' : w.heap.size + 4 ≤ fb := hfb
    refine ⟨rfl, rfl, by show w.heap.size + 3 ≠ w.heap.size + 2; omega, fun hs => ?_, ⟨by show w.heap.size + 1 < w.heap.size + 4; omega, by show w.heap.size + 1 ≠ w.heap.size + 2; omega, by show w.heap.size + 1 ≠ w.heap.size + 3; omega, fun hs => by have := hSl _ hs; omega⟩,
      ⟨by show w.heap.size < w.heap.size + 4; omega, by show w.heap.size ≠ w.heap.size + 2; omega, by show w.heap.size ≠ w.heap.size + 3; omega, fun hs => by have := hSl _ hs; omega⟩, fun h0 => ⟨(had h0).1, hRd b (had h0).2.1 (had h0).2.2⟩, hn, ?_, ?_, fun i hi => ?_, Iff.rfl, rfl, fun i hi fr cs' O w2 hO hl hv hmode => ?_⟩
    · rcases hs with hs | hs | hs
      · have := hSl _ hs; omega
      · have : fb = w.heap.size + 2 := hs; omega
      · have : fb = w.heap.size + 3 := hs; omega
    · show w1.heap[w.heap.size + 1]? = _
      rw [hm.heap, H4_1]
    · show w1.heap[w.heap.size]? = _
      rw [hm.heap, H4_0]
    · have hb := (had (by omega)).2.1
      obtain ⟨h1, h2, h3⟩ := hcells i hi
      exact ⟨(hcell1 _ _ hb).trans h1, (hcell1 _ _ hb).trans h2, (hcell1 _ _ hb).trans h3⟩
    · exact Par.holds_tree rfl (by show w.heap.size + 4 ≤ w1.heap.size; omega) (by show _ ≤ w1.heap.size; omega) (hone i hi) fr cs' O w2 hO hl hv
  have hW : WgAt A.tW A.Wg w1 0 0 := by
    show w1.heap[w.heap.size + 2]? = _
    rw [hm.heap, H4_2]
    rfl
  have hB : A.WB 0 w1 := by
    show w1.heap[w.heap.size + 3]? = _
    rw [hm.heap, H4_3]
  have hl : A.Live w1 := ⟨⟨⟨_, _, hW⟩, _, hB⟩, ⟨rfl, rfl, rfl, Nat.le_refl _, fun _ _ => rfl⟩⟩
  refine Par.phase_law (A := A) (Anch := A.AnchH (.string s) (.slice ad n cap) w.heap.size (w.heap.size + 1) (c :: cs)) (FinS := A.FinH (.string s) (.slice ad n cap) w.heap.size (w.heap.size + 1) (c :: cs)) hc1.pos (by show w.heap.size + 2 ≠ w.heap.size + 3; omega) (by show 4 * n < _; omega) K hback J.anch (fun _ _ _ _ h => h.run) ?_ (q := q1) (a := a1) (O := O1) hc1 rfl ha1 hW hB hl hu1 (unt_rel hu1 (.inl rfl)) (by show w.heap.size + 4 ≤ w1.heap.size; omega) (Om := fun _ => False) (fun _ h => h.elim) (J.start hl hst)
  intro gs2 w2 sl2 t2 q2 a2 O2 hc2 _ ha2 _ hv hl2 hF2
  obtain ⟨v, hv2, hvi⟩ := hv
  obtain ⟨_, hend⟩ := hF2 w2 (EnvT.refl Par.ryA _ _)
  have hc3 : Camp Try.prog (fun b => S b ∨ b = w.heap.size + 2) gs2 w2 t2 (fun b => O b ∨ b = w.heap.size + 3) q2 := by
    refine Camp.reO hc2 (fun b hb => ?_) (fun b hb => ?_)
    · have h1 : w1.heap.size ≤ w2.heap.size := hl2.2.size
      rcases hb with hb | rfl
      · have := hOl b hb; omega
      · omega
    · rcases hb with hb | rfl
      · have := hOl b hb
        intro hs
        rcases hs with hs | hs
        · exact hOs b hb hs
        · have : b = w.heap.size + 2 := hs; omega
      · intro hs
        rcases hs with hs | hs
        · have := hSl _ hs; omega
        · have : w.heap.size + 3 = w.heap.size + 2 := hs; omega
  refine beside_law K hback none1 (fun _ g w' => g = G (c.finish (.bool (v == 0))) cs ∧ w'.heap = w2.heap ∧ w'.tape = w2.tape ∧ w'.os = w2.os ∧ w'.output = w2.output) ?_ gs2 w2 sl2 t2 _ q2 a2 hc3 (unt_low hc3.ti.seen fun b hb => hb.elim) ha2 (hold_out (A := A) (.inr rfl) hv2 hend)
  intro gs4 w4 sl4 t4 O4 q4 a4 hc4 _ ha4 _ hF4
  obtain ⟨rfl, e1, e2, e3, e4⟩ := hF4 w4 (EnvT.refl ry1 _ _)
  have hz2 : w1.heap.size ≤ w2.heap.size := hl2.2.size
  refine hfin gs4 w4 sl4 t4 q4 _ (v == 0) ?_ (Camp.reO hc4 (fun b hb => by have := hOl b hb; rw [e1]; omega) fun b hb hs => ?_) ha4 (fun b hs => hs.imp id fun h => by have : b = w.heap.size + 2 := h; omega) ⟨e2.trans (hl2.2.tape.trans hm.tape), e3.trans (hl2.2.os.trans hm.os), e4.trans (hl2.2.output.trans hm.output), by rw [e1]; omega, fun b hb => ?_⟩
  · rw [beq_iff_eq, hvi]
    refine ⟨fun h i hi => h (i % 4) (Nat.mod_lt _ (by omega)) i hi rfl, fun h k _ i hi _ => h i hi⟩
  · have := hOl b hb
    rcases hs with hs | hs
    · exact hOs b hb hs
    · have : b = w.heap.size + 2 := hs; omega
  · rw [e1, hl2.2.heap b (hRd b hb.1 hb.2)]
    exact hold1 b hb.1
end Go.Proofs.Ytgfgoflhmikalaa.par

namespace Go.Proofs.Ytgfgoflhmikalaa.par
open Go Go.Conc
set_option linter.unusedVariables false
set_option linter.unusedSimpArgs false
/-- The run ends well. -/
def EndsWell (Post : Value → World → Prop) (m : Machine) (t : Trace) : Prop := ∃ N last o w' t', runNT Try.prog (N + 1) m t = (.ended o w', t') ∧ runN Try.prog N m = .next last ∧ step Try.prog last = .ended o w' ∧ Conc.Good Try.prog Post last o w' t'
theorem ends_back {Post : Value → World → Prop} (m : Machine) (t : Trace) (m' : Machine) (ops : Trace) (h : stepT Try.prog m = (.next m', ops)) (hk : EndsWell Post m' (t ++ ops)) : EndsWell Post m t := by
  obtain ⟨N, last, o, w', t', h1, h2, h3, h4⟩ := hk
  refine ⟨N + 1, last, o, w', t', ?_, ?_, h3, h4⟩
  · show runNT Try.prog (N + 1 + 1) m t = _
    rw [runNT]
    simp only [h]
    exact h1
  · have hs : step Try.prog m = .next m' := by
      unfold step
      rw [h]
    simp only [runN, hs]
    exact h2
section
variable {R : FuncId → Value → World → Prop} {W0 : World} {Dz : Nat → Prop}
/-- The old blocks that may be named are named as they are. -/
def JI (Dz : Nat → Prop) (σ : Nat → Nat) (D : Nat → Prop) : Prop := ∀ r, Dz r → D r ∧ σ r = r
theorem JI.up {σ σ1 : Nat → Nat} {D D1 : Nat → Prop} (hu : Up σ D σ1 D1) (h : JI Dz σ D) : JI Dz σ1 D1 := fun r hr => ⟨(hu r (h r hr).1).1, by rw [(hu r (h r hr).1).2]; exact (h r hr).2⟩
abbrev tl0 : List Frame := [c0 44]
/-- Where the transfer stops: at the lone run's end, or at hold's entry. -/
def FinE (R : FuncId → Value → World → Prop) (W0 : World) (Dz : Nat → Prop) (s0 : LS) (O : Nat → Prop) (g : Goroutine) (w : World) : Prop :=
  ∃ σ D s fr cs, JI Dz σ D ∧ O = img σ D ∧ LT (loneP Hm) tl0 R s.1 s.2.1 s.2.2 ∧ Rel (Try.prog).toTables (loneF Hm) (Try.prog).funcs Sp W0 σ D s fr cs w ∧ AtEndL s.1 s.2.1 ∧ g = G fr cs
def FinH (R : FuncId → Value → World → Prop) (W0 : World) (Dz : Nat → Prop) (s0 : LS) (O : Nat → Prop) (g : Goroutine) (w : World) : Prop :=
  ∃ σ D s fr cs a a', JI Dz σ D ∧ O = img σ D ∧ RelS (Try.prog).toTables (loneF Hm) (Try.prog).funcs Sp W0 σ D 33 a a' .normal s fr cs w ∧ Relation.TransGen (Desc (loneP Hm) tl0) (Frame.enter (loneP Hm) 33 a .normal, s.1 :: s.2.1, s.2.2) s0 ∧
    LT (loneP Hm) tl0 R (Frame.enter (loneP Hm) 33 a .normal) (s.1 :: s.2.1) s.2.2 ∧ g = G (Frame.enter Try.prog 33 a' .normal) (fr :: cs)
def FinT (R : FuncId → Value → World → Prop) (W0 : World) (Dz : Nat → Prop) (s0 : LS) (O : Nat → Prop) (d : Nat) (g : Goroutine) (w : World) : Prop := d = 0 ∧ g.status = .running ∧ (FinE R W0 Dz s0 O g w ∨ FinH R W0 Dz s0 O g w)
theorem Rel.env {σ : Nat → Nat} {D : Nat → Prop} {s : LS} {fr : Frame} {cs : List Frame} {w w₁ : World} (h : Rel (Try.prog).toTables (loneF Hm) (Try.prog).funcs Sp W0 σ D s fr cs w) (he : Env1 (img σ D) w w₁) : Rel (Try.prog).toTables (loneF Hm) (Try.prog).funcs Sp W0 σ D s fr cs w₁ := ⟨h.sit.env he.env, h.fr, h.cs⟩
theorem main_tree {s0 : LS} (hlt : LT (loneP Hm) tl0 R s0.1 s0.2.1 s0.2.2) {σ : Nat → Nat} {D : Nat → Prop} {fr : Frame} {cs : List Frame} {w : World} (hj : JI Dz σ D) (hr : Rel (Try.prog).toTables (loneF Hm) (Try.prog).funcs Sp W0 σ D s0 fr cs w) :
    OT Try.prog true Env1 (Gu1U none1) (FinT R W0 Dz s0) (img σ D) 0 (G fr cs) w := by
  have hE : ∀ O w w₁, Env1 O w w₁ → Env0 O w w₁ := fun _ _ _ h => h.env
  have hG2 : ∀ (O : Nat → Prop) w w' es, Gu0 O w w' es → Gu1U none1 O w w' es := fun O w w' es h => ⟨⟨h.tape, h.os, h.output, h.size, h.kept, fun e he => .inl (h.evs e he)⟩, fun e he => ⟨fun x hx hl => by obtain ⟨b, h, _⟩ := inB.two hl hl; exact h, fun a _ => id⟩⟩
  have h := transfer (JI Dz) (fun _ _ _ _ hu h => h.up hu) (T := (Try.prog).toTables) (F' := loneF Hm) (F := (Try.prog).funcs) (Sp := Sp) (main := true) (W0 := W0) (tl := tl0) (tail := []) (R := R) (Fin := FinT R W0 Dz s0) zp (lone_bod Hm) hE (EnvT.refl ry1) (fun O w w' es h _ => hG2 O w w' es h) s0 ?_ ?_ s0 (.inl rfl) hlt σ D fr cs w hj hr
  · rw [List.append_nil] at h
    exact h
  · intro σ D s fr cs w hj h0 hlt hr hend
    rw [List.append_nil]
    exact .stop fun w₁ he => ⟨rfl, rfl, .inl ⟨σ, D, s, fr, cs, hj, rfl, hlt, hr.env he, hend, rfl⟩⟩
  · intro σ D f a a' kind s fr cs w hj hd hlt hr hnext
    have hsp := hr.sp
    unfold Sp special at hsp
    simp only [List.mem_cons, List.not_mem_nil, or_false] at hsp
    rcases hsp with rfl | rfl | rfl
    · rcases hr.kinds with rfl | rfl
      · rw [List.append_nil]
        exact .stop fun w₁ he => ⟨rfl, rfl, .inr ⟨σ, D, s, fr, cs, a, a', hj, rfl, ⟨hr.sp, hr.both, hr.kinds, hr.args, hr.rel.env he, hr.deferred, hr.normal, hr.nodef, hr.size⟩, hd, hlt, rfl⟩⟩
      · have := hr.nodef rfl
        unfold nd at this
        simp at this
    · exact lock_spec hE (EnvT.refl ry1) hG2 hr.kinds hlt hr.args hr.rel fun s2 fr2 cs2 w2 hd hr2 => hnext σ D s2 fr2 cs2 w2 hj hd hr2
    · exact unlock_spec hE (EnvT.refl ry1) hG2 hr.kinds hlt hr.args hr.rel fun s2 fr2 cs2 w2 hd hr2 => hnext σ D s2 fr2 cs2 w2 hj hd hr2
/-- The two worlds behind a call that named nothing old. -/
theorem Sit.jump {σ : Nat → Nat} {D : Nat → Prop} {T : Tables} {u u' w w' : World} (h : Sit σ D T W0 u w) (hu : RowKit.Below u.heap.size u u') (hw : ∀ r, D r → w'.heap[σ r]? = w.heap[σ r]?) (hs : w.heap.size ≤ w'.heap.size) : Sit σ D T W0 u' w' := by
  have hb : ∀ r, D r → u'.heap[r]? = u.heap[r]? := fun r hr => hu.block r (h.bound r hr)
  refine ⟨⟨fun r o hr ho => ?_, fun r hr hle => ?_, Nat.le_trans h.wr.low hu.size, fun a ha hlt z hz hc => ?_⟩, h.inj, h.glob, fun r hr => Nat.lt_of_lt_of_le (h.bound r hr) hu.size, Nat.le_trans h.gu hu.size, Nat.le_trans h.gw hs⟩
  · rw [hb r hr] at ho
    obtain ⟨o', h1, h2⟩ := h.wr.obj r o hr ho
    exact ⟨o', by rw [hw r hr]; exact h1, h2⟩
  · have := h.bound r hr
    have := hu.size
    omega
  · rw [← h.wr.orig a ha hlt z hz (by rw [← hc]; unfold World.cell?; rw [hb _ ha])]
    unfold World.cell?
    dsimp only
    rw [hw _ ha]
/-- What is asked of the lone end. -/
def EndOk (R : FuncId → Value → World → Prop) (W0 : World) (Dz : Nat → Prop) (Post : Value → World → Prop) : Prop :=
  ∀ σ D s fr w, JI Dz σ D → LT (loneP Hm) tl0 R s.1 s.2.1 s.2.2 → AtEndL s.1 s.2.1 → Rel (Try.prog).toTables (loneF Hm) (Try.prog).funcs Sp W0 σ D s fr [] w → SameW (fun b => b < W0.heap.size ∧ ¬ Dz b) W0 w →
    ∃ v, stepG Try.prog true (G fr []) w = .ended (.done v) w #[] ∧ Post v w
/-- FROM ANY PLACE TO THE END. -/
theorem main_go {Post : Value → World → Prop} (hR : ∀ g v w, R g v w → ∃ fn t, (loneP Hm).funcs[g]? = some fn ∧ fn.results = #[.tmp t]) {gb : ByteArray → Int × Int × Int → Bool} (hHo : ∀ s : ByteArray, s.size < 1000000000000 → HoldsAt s (gb s))
    (hone : ∀ (s : ByteArray) (c : Int × Int × Int) (u : World), s.size < 1000000000000 → 0 ≤ c.1 → 0 ≤ c.2.1 → c.1 ≤ c.2.2 → c.2.2 + 4 ≤ (s.size : Int) → Calls (loneP Hw) 46 #[.agg #[.int .i64 c.1, .int .i64 c.2.1, .int .i64 c.2.2], .string s] u (fun e _ => e = .returned (.bool (gb s c))))
    (hEnd : EndOk R W0 Dz Post) : ∀ s0 : LS, LT (loneP Hm) tl0 R s0.1 s0.2.1 s0.2.2 → ∀ (S : Nat → Prop) (σ : Nat → Nat) (D : Nat → Prop) (fr : Frame) (cs : List Frame) (gs : Array Goroutine) (w : World) (sl : Option (Nat × Nat)) (t : Trace) (q : Nat → Nat),
      JI Dz σ D → Rel (Try.prog).toTables (loneF Hm) (Try.prog).funcs Sp W0 σ D s0 fr cs w → Camp Try.prog S gs w t (img σ D) q → gs[0]? = some (G fr cs) → (∀ b, S b → W0.heap.size ≤ b) → SameW (fun b => b < W0.heap.size ∧ ¬ Dz b) W0 w → (∀ b, img σ D b → Dz b ∨ W0.heap.size ≤ b) →
      EndsWell Post (crowd gs w sl) t := by
  intro s0 hlt0
  have hacc : Acc (Relation.TransGen (Desc (loneP Hm) tl0)) s0 := Acc.transGen (acc_of_lt hlt0 s0.2.2.tape)
  induction hacc with
  | intro s0 _ ih =>
  intro S σ D fr cs gs w sl t q hj hr hc ha hS hsame hown
  refine beside_law (EndsWell Post) ends_back none1 (fun O g w => (FinE R W0 Dz s0 O g w ∨ FinH R W0 Dz s0 O g w) ∧ SameW (fun b => b < W0.heap.size ∧ ¬ Dz b) W0 w ∧ ∀ b, O b → Dz b ∨ W0.heap.size ≤ b) ?_ gs w sl t (img σ D) q (G fr cs) hc (unt_low hc.ti.seen fun b hb => hb.elim) ha
    (OT.weaken (fun O d g w ⟨h1, h2, h3⟩ => ⟨h1.1, h1.2.1, h1.2.2, h2, fun b hb => (h3 b hb).elim (hown b) .inr⟩) (OT.kept (main_tree hlt0 hj hr) (fun b hb => ⟨Nat.lt_of_lt_of_le hb.1 hsame.size, fun hi => (hown b hi).elim hb.2 fun h => by have := hb.1; omega⟩) hsame))
  clear hr hc ha hsame hown hj
  intro gs w sl t O q a hc _ ha _ hF
  obtain ⟨hFF, hsame, hown⟩ := hF w (EnvT.refl ry1 _ _)
  rcases hFF with ⟨σ, D, s, fr, cs, hj, rfl, hlt, hr, hend, rfl⟩ | ⟨σ, D, s, fr, cs, av, av', hj, rfl, hr, hd, hlt, rfl⟩
  · -- the end
    obtain rfl : cs = [] := by
      have h1 := hr.cs
      rw [hend.1] at h1
      cases h1
      rfl
    refine camp_end hc ha fun w₁ hw₁ => ⟨rfl, ?_⟩
    obtain ⟨d, rfl⟩ := hw₁
    exact hEnd σ D s fr _ hj hlt hend (hr.env (envT_at ry1 _ w d)) ⟨hsame.tape, hsame.os, hsame.output, hsame.size, hsame.heap⟩
  · -- hold
    have hargs := hr.args
    have c0' : Come (loneP Hm) tl0 R (Frame.enter (loneP Hm) 33 av .normal, s.1 :: s.2.1, s.2.2) (Frame.enter (loneP Hm) 33 av .normal) (s.1 :: s.2.1) s.2.2 := ⟨hlt, .inl rfl⟩
    have hsit := hr.rel.sit
    have hsz := hr.size (by unfold nd; simp)
    obtain ⟨str, ad, n, cap, cu, v, u', rfl, hs1, hn1, hcut, hv, hbel, hcome⟩ := hold_lone hR hHo hsz (fun p n cc hp => by
      have h1 : 1 < av.size := by omega
      obtain ⟨y, hy, hxy⟩ := hargs.get (Array.getElem?_eq_getElem h1)
      rw [show av.getD 1 undef = av[1] by simp [h1]] at hp
      rw [hp] at hxy
      cases hxy with
      | slice hA => exact hsit.tame hA.1) c0'
    -- the crowd's arguments
    obtain ⟨ad', rfl, hadr⟩ : ∃ ad', av' = #[.string str, .slice ad' n cap] ∧ (∀ p, ad = some p → ∃ p', ad' = some p' ∧ AR σ D p p') := by
      obtain ⟨l⟩ := av'
      have hl := hargs.1
      rcases l with _ | ⟨y0, _ | ⟨y1, _ | ⟨_, _⟩⟩⟩ <;> simp at hl
      have h0 := hargs.2 0 (.string str) y0 rfl rfl
      have h1 := hargs.2 1 (.slice ad n cap) y1 rfl rfl
      cases h0
      cases h1 with
      | nils => exact ⟨none, rfl, fun p hp => by cases hp⟩
      | slice hA => exact ⟨_, rfl, fun p hp => by cases hp; exact ⟨_, rfl, hA⟩⟩
    -- where the cuts lie
    obtain ⟨bb, off, hadc, hcc⟩ : ∃ bb off, (0 < n → ad' = some ⟨bb, off, none⟩ ∧ ∃ r, D r ∧ bb = σ r) ∧ ∀ i, i < n → w.cell? ⟨bb, off + i * 3, none⟩ = some (.int .i64 (cu i).1) ∧ w.cell? ⟨bb, off + i * 3 + 1, none⟩ = some (.int .i64 (cu i).2.1) ∧ w.cell? ⟨bb, off + i * 3 + 2, none⟩ = some (.int .i64 (cu i).2.2) := by
      rcases Nat.eq_zero_or_pos n with h0 | h0
      · exact ⟨0, 0, fun h => by omega, fun i hi => by omega⟩
      · obtain ⟨p, hp, hc0⟩ := hcut 0 h0
        obtain ⟨p', hp', hA⟩ := hadr p hp
        have hsp := hc0.spot rfl
        obtain ⟨hD, rfl⟩ := hA
        have e1 : ∀ o, AR σ D ⟨p.block, o, none⟩ ⟨σ p.block, o, none⟩ := fun o => ⟨hD, rfl⟩
        refine ⟨σ p.block, p.off, fun _ => ⟨?_, p.block, hD, rfl⟩, fun i hi => ?_⟩
        · rw [hp']
          obtain ⟨pb, po, ps⟩ := p
          dsimp only at hsp ⊢
          rw [hsp]
        · obtain ⟨p2, hp2, hc2⟩ := hcut i hi
          obtain rfl : p2 = p := by rw [hp] at hp2; exact (Option.some.inj hp2).symm
          exact ⟨(hsit.num (e1 _) hc2.at0).1, (hsit.num (e1 _) hc2.at1).1, (hsit.num (e1 _) hc2.at2).1⟩
    have hOl : ∀ r, D r → σ r < w.heap.size := fun r hr => hc.ge.lt 0 _ ⟨rfl, r, hr, rfl⟩
    have hOs : ∀ r, D r → ¬ S (σ r) := fun r hr => hc.ge.sh 0 _ ⟨rfl, r, hr, rfl⟩
    refine hold_law (EndsWell Post) ends_back hc (b := bb) (off := off) (cu := cu) (gb := fun i => gb str (cu i)) ha hsit.gw hn1 (fun h0 => ?_) hcc (fun i hi u _ => ?_) ?_
    · obtain ⟨e, r, hr1, e2⟩ := hadc h0
      subst e2
      exact ⟨e, hOl r hr1, hOs r hr1⟩
    · obtain ⟨p, _, h⟩ := hcut i hi
      exact hone str (cu i) u hs1 h.le0 h.le1 h.le2 h.le3
    · intro gs' w' sl' t' q' S' v' hv' hc' ha' hS' hsame'
      obtain rfl : v' = v := by
        have h1 := hv'.trans hv.symm
        cases v <;> cases v' <;> simp_all
      have hnext : Relation.TransGen (Desc (loneP Hm) tl0) (s.1.finish (.bool v'), s.2.1, u') s0 := by
        rcases hcome.desc with e | x
        · have := congrArg (fun z : LS => z.2.1.length) e
          simp at this
        · exact .trans x hd
      refine ih (s.1.finish (.bool v'), s.2.1, u') hnext hcome.lt S' σ D (fr.finish (.bool v')) cs gs' w' sl' t' q' hj ⟨hsit.jump hbel (fun r hr => ?_) hsame'.size, finish_rel hr.rel.fr (.bool v'), hr.rel.cs⟩ hc' ha' (fun b hb => (hS' b hb).elim (hS b) fun h => Nat.le_trans hsame.size h) ⟨hsame'.tape.trans hsame.tape, hsame'.os.trans hsame.os, hsame'.output.trans hsame.output, Nat.le_trans hsame.size hsame'.size, fun b hb => ?_⟩ hown
      · exact hsame'.heap _ ⟨hOl r hr, hOs r hr⟩
      · refine (hsame'.heap b ⟨Nat.lt_of_lt_of_le hb.1 hsame.size, fun hs => ?_⟩).trans (hsame.heap b hb)
        have := hS b hs
        have := hb.1
        omega
end
end Go.Proofs.Ytgfgoflhmikalaa.par
