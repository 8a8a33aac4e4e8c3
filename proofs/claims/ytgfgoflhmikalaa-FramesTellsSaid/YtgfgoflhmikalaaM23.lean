/- Part 23 of what the proofs stand on: lemmas on worlds, on goroutines, contracts of functions. No conditions. -/
import Derived.Test.YtgfgoflhmikalaaM22
namespace Go.Proofs.Ytgfgoflhmikalaa.par
open Go Go.Conc Go.RowKit Go.Conc.Lib Go.ConcR.Gen Go.ConcN.Gen
open Go.ConcR (stA smA WgAt KK rd wr mk DC0)
set_option linter.unusedVariables false
set_option linter.unusedSimpArgs false
set_option maxRecDepth 100000
theorem GoD.weaken {P : Program} {main : Bool} {I : World → Prop} {D : World → World → Array Event → Prop} {S S' : Goroutine → World → Prop} {n : Nat} {g : Goroutine} (h : GoD P main I D S n g) (hS : ∀ g w, S g w → S' g w) : GoD P main I D S' n g := by
  have key : ∀ (n : Nat) (g : Goroutine) (w : World), Goes P main (fun w w₁ => I w → I w₁) D S n g w → Goes P main (fun w w₁ => I w → I w₁) D S' n g w := by
    intro n
    induction n with
    | zero => exact fun g w h w₁ h₁ => hS _ _ (h w₁ h₁)
    | succ n ih =>
      intro g w h
      rcases h with h | ⟨hr, h⟩
      · exact .inl fun w₁ h₁ => hS _ _ (h w₁ h₁)
      · refine .inr ⟨hr, fun w₁ h₁ => ?_⟩
        have := h w₁ h₁
        revert this
        cases stepG P main g w₁ with
        | go g' w' es => exact fun hx => ⟨hx.1, ih _ _ hx.2⟩
        | _ => exact fun hx => hx
  exact fun w hw => key n g w (h w hw)
theorem Q3.mono {P : Program} {I : World → Prop} {e : Event} {S S' : Goroutine → World → Prop} (hS : ∀ g w, S g w → S' g w) (g : Goroutine) (w : World) (h : Q3 P I e S g w) : Q3 P I e S' g w := by
  obtain ⟨h0, g', h1, m, h2⟩ := h
  exact ⟨h0, g', h1, m, h2.weaken hS⟩
theorem Q1.mono {P : Program} {I : World → Prop} {tW : TypeId} {Wg : Nat} {S S' : Goroutine → World → Prop} (hS : ∀ g w, S g w → S' g w) (g : Goroutine) (w : World) (h : Q1 P I tW Wg S g w) : Q1 P I tW Wg S' g w := by
  refine ⟨h.1, fun v hv hw => ?_⟩
  obtain ⟨g', h1, m, h2⟩ := h.2 v hv hw
  exact ⟨g', h1, m, h2.weaken fun g w hx => hx.imp (Q3.mono hS g w) (Q3.mono (Q3.mono hS) g w)⟩
def bH : Frame := base 33
noncomputable def bodyH : Code := Try.f33.body.getD .skip
noncomputable def phaseH : Code := match bodyH with | .seq _ (.seq _ (.seq _ c)) => c | _ => .skip
noncomputable def loopH : Code := match phaseH with | .seq (.seq _ (.block _ (.loop c))) _ => c | _ => .skip
noncomputable def restH : Code := match phaseH with | .seq _ c => c | _ => .skip
noncomputable def ops5 : Array Oper := match loopH with | .seq _ (.seq _ (.seq (.block _ (.seq (.region _ ops _) _)) _)) => ops | _ => #[]
noncomputable def add6 : Code := match loopH with | .seq _ (.seq _ (.seq (.block _ (.seq _ c)) _)) => c | _ => .skip
noncomputable def ops7 : Array Oper := match add6 with | .seq _ (.region _ ops _) => ops | _ => #[]
noncomputable def next8 : Code := match loopH with | .seq _ (.seq _ (.seq _ c)) => c | _ => .skip
section
variable {A : Par} {I : World → Prop} {vs vl : Value} {bs bl Wg wB : Nat} {cs : List Frame}
def T17 (vs vl : Value) (bs bl Wg wB : Nat) (x7 x8 x9 x10 x11 x12 x13 x14 x15 x16 : Value) : Act := ⟨#[vs, vl, .pointer (some ⟨bs, 0, none⟩), .pointer (some ⟨bl, 0, none⟩), .bool false, .pointer (some ⟨Wg, 0, none⟩), .pointer (some ⟨wB, 0, none⟩), x7, x8, x9, x10, x11, x12, x13, x14, x15, x16], []⟩
def AtStartH (vs vl : Value) (bs bl Wg wB : Nat) (cs : List Frame) (g : Goroutine) : Prop := ∃ x7 x8 x9 x10 x11 x12 x13 x14 x15 x16, g = G (bH.at (T17 vs vl bs bl Wg wB x7 x8 x9 x10 x11 x12 x13 x14 x15 x16) [.code phaseH]) cs
def AtLoopH (vs vl : Value) (bs bl Wg wB : Nat) (cs : List Frame) (j : Int) (g : Goroutine) : Prop := ∃ x7 x9 x10 x11 x12 x13 x14 x15 x16, g = G (bH.at (T17 vs vl bs bl Wg wB x7 (.int .i64 j) x9 x10 x11 x12 x13 x14 x15 x16) [.code loopH, .inLoop loopH, .inBlock 0, .code restH]) cs
def AtAllocH (vs vl : Value) (bs bl Wg wB : Nat) (cs : List Frame) (j : Int) (g : Goroutine) : Prop := ∃ x7 x9 x11 x12 x13 x14 x15 x16, g = G (bH.at (T17 vs vl bs bl Wg wB x7 (.int .i64 j) x9 (.int .i64 j) x11 x12 x13 x14 x15 x16) [.inRegion ops5 [1, 2], .code add6, .inBlock 1, .code next8, .inLoop loopH, .inBlock 0, .code restH]) cs
theorem hold_start {g : Goroutine} (hg : AtStartH vs vl bs bl Wg wB cs g) : GoI Try.prog true I (fun g _ => AtLoopH vs vl bs bl Wg wB cs 0 g) 20 g := by
  obtain ⟨x7, x8, x9, x10, x11, x12, x13, x14, x15, x16, rfl⟩ := hg
  simp only [phaseH, bodyH, Try.f33, Option.getD_some, AtLoopH, loopH, restH, T17]
  repeat (first | (with_reducible apply gi_seq) | (with_reducible apply gi_regend) | ((with_reducible apply gi_region); simp only [List.size_toArray, List.length_cons, List.length_nil, Nat.reduceAdd, Nat.zero_add, List.range, List.range.loop]) | (with_reducible apply gi_codeskip) | (with_reducible apply gi_inBlock) | (with_reducible apply gi_ret) | (with_reducible apply gi_ended) | ((with_reducible refine gi_value (v := ?_) (o := ?_) ?_ ?_ ?_ (fun _ _ => ?_) (fun _ _ => ?_) ?_); rotate_left 2; (focus exact rfl); (focus exact rfl); (focus k_ne); (focus (go_simp; (try w_num); first | done | exact rfl)); (focus (simp [go_sem, *]; done)); walk_nrm))
  apply gi_block
  apply gi_loop
  exact GoD.halt fun w h => ⟨_, _, _, _, _, _, _, _, _, rfl⟩
theorem hold_head {j : Nat} (hj : j < 4) {g : Goroutine} (hg : AtLoopH vs vl bs bl Wg wB cs j g) : GoI Try.prog true I (fun g _ => AtAllocH vs vl bs bl Wg wB cs j g) 20 g := by
  obtain ⟨x7, x9, x10, x11, x12, x13, x14, x15, x16, rfl⟩ := hg
  have q0 : decide ((j : Int) < 4) = true := decide_eq_true (by omega)
  simp only [phaseH, bodyH, Try.f33, Option.getD_some, AtAllocH, loopH, restH, T17, ops5, add6, next8]
  repeat (first | (with_reducible apply gi_seq) | (with_reducible apply gi_regend) | ((with_reducible apply gi_region); simp only [List.size_toArray, List.length_cons, List.length_nil, Nat.reduceAdd, Nat.zero_add, List.range, List.range.loop]) | (with_reducible apply gi_codeskip) | (with_reducible apply gi_block) | (with_reducible apply gi_inBlock) | (with_reducible apply gi_loop) | (with_reducible apply gi_inLoop) | (with_reducible apply gi_ret) | (with_reducible apply gi_ended) | ((with_reducible apply gi_cod (t := true)); (focus first | rfl | (simp [Act.eval]; done) | (simp [Act.eval]; omega)); simp only [if_true, if_false, Bool.false_eq_true, ↓reduceIte]) | ((with_reducible refine gi_value (v := ?_) (o := ?_) ?_ ?_ ?_ (fun _ _ => ?_) (fun _ _ => ?_) ?_); rotate_left 2; (focus exact rfl); (focus exact rfl); (focus k_ne); (focus (go_simp; (try simp only [q0]); (try w_num); first | done | exact rfl)); (focus (simp [go_sem, *]; done)); walk_nrm))
  exact GoD.halt fun w h => ⟨_, _, _, _, _, _, _, _, rfl⟩
theorem loudH : Option.any (fun x => x.norace) (Try.prog).funcs[bH.fn]? = false := by kernel_rfl
theorem hold_alloc {a : Act} {k : List Item} {w : World} : ∃ es, stepG Try.prog true (G (bH.at a (.inRegion ops5 [1, 2] :: k)) cs) w = .go (G (bH.at (a.put (some 7) (.pointer (some ⟨w.heap.size, 0, none⟩))) (.inRegion ops5 [2] :: k)) cs) (w.alloc (.cells #[.int .i64 0] 3)) es ∧ es = #[] := by
  have e : ops5[1]? = some ⟨some 7, .alloc 3, 0, "frames.go:62", #[], none⟩ := by kernel_rfl
  have hr : (execOp a.eval ⟨some 7, .alloc 3, 0, "frames.go:62", #[], none⟩).run Try.prog w = .ok (.value (.pointer (some ⟨w.heap.size, 0, none⟩))) (w.alloc (.cells #[.int .i64 0] 3)) := by
    unfold execOp
    simp [go_sem]
  have he : (execOp a.eval ⟨some 7, .alloc 3, 0, "frames.go:62", #[], none⟩).events Try.prog w #[] = #[] := by
    unfold execOp
    simp [go_sem]
  refine ⟨_, stepG_value e rfl (by k_ne) hr, ?_⟩
  unfold listed
  rw [he]
  exact seen_none _ _
theorem hold_store {a : Act} {k : List Item} {w : World} {fb : Nat} {v u : Int} (h7 : a.eval (.tmp 7) = .pointer (some ⟨fb, 0, none⟩)) (h10 : a.eval (.tmp 10) = .int .i64 v) (hc : w.heap[fb]? = some (.cells #[.int .i64 u] 3)) :
    stepG Try.prog true (G (bH.at a (.inRegion ops5 [2] :: k)) cs) w = .go (G (bH.at a (.inRegion ops5 [] :: k)) cs) (w.setCell ⟨fb, 0, none⟩ (.int .i64 v)) #[⟨.cell ⟨fb, 0, none⟩, true, false⟩] := by
  have hc' : w.cell? ⟨fb, 0, none⟩ = some (.int .i64 u) := by simp [World.cell?, hc]
  have hz : w.frozen? ⟨fb, 0, none⟩ = false := by simp [World.frozen?, hc]
  have e : ops5[2]? = some ⟨none, .store 3 (.tmp 7) (.tmp 10), 0, "frames.go:62", #[⟨1, .data⟩, ⟨0, .data⟩, ⟨0, .phase⟩, ⟨1, .phase⟩], none⟩ := by kernel_rfl
  have hr : (execOp a.eval ⟨none, .store 3 (.tmp 7) (.tmp 10), 0, "frames.go:62", #[⟨1, .data⟩, ⟨0, .data⟩, ⟨0, .phase⟩, ⟨1, .phase⟩], none⟩).run Try.prog w = .ok .skip (w.setCell ⟨fb, 0, none⟩ (.int .i64 v)) := by
    unfold execOp
    simp only [h7, h10]
    simp [go_sem, stored, hc', hz]
  have he : (execOp a.eval ⟨none, .store 3 (.tmp 7) (.tmp 10), 0, "frames.go:62", #[⟨1, .data⟩, ⟨0, .data⟩, ⟨0, .phase⟩, ⟨1, .phase⟩], none⟩).events Try.prog w #[] = #[⟨.cell ⟨fb, 0, none⟩, true, false⟩] := by
    unfold execOp
    simp only [h7, h10]
    simp [go_sem, storedEv, hc', hz]
  rw [stepG_none e rfl (by k_ne) hr]
  unfold listed
  rw [he, seen_eq loudH (by simp)]
  rfl
noncomputable def after6 : Code := match add6 with | .seq _ c => c | _ => .skip
noncomputable def ops6 : Array Oper := match add6 with | .seq (.region _ ops _) _ => ops | _ => #[]
noncomputable def ops9 : Array Oper := match restH with | .seq (.region _ ops _) _ => ops | _ => #[]
noncomputable def end10 : Code := match restH with | .seq _ c => c | _ => .skip
def AtStoredH (vs vl : Value) (bs bl Wg wB : Nat) (cs : List Frame) (j : Int) (fb : Nat) (g : Goroutine) : Prop := ∃ x9 x11 x12 x13 x14 x15 x16, g = G (bH.at (T17 vs vl bs bl Wg wB (.pointer (some ⟨fb, 0, none⟩)) (.int .i64 j) x9 (.int .i64 j) x11 x12 x13 x14 x15 x16) [.inRegion ops5 [], .code add6, .inBlock 1, .code next8, .inLoop loopH, .inBlock 0, .code restH]) cs
def AtBackH (vs vl : Value) (bs bl Wg wB : Nat) (cs : List Frame) (j : Int) (fb : Nat) (g : Goroutine) : Prop := ∃ x9 x10 x11 x12 x13 x14 x15 x16, g = G (bH.at (T17 vs vl bs bl Wg wB (.pointer (some ⟨fb, 0, none⟩)) (.int .i64 j) x9 x10 x11 x12 x13 x14 x15 x16) [.inRegion ops6 [], .code after6, .inBlock 1, .code next8, .inLoop loopH, .inBlock 0, .code restH]) cs
def AtGoH (vs vl : Value) (bs bl Wg wB : Nat) (cs : List Frame) (j : Int) (fb : Nat) (r : List Nat) (g : Goroutine) : Prop := ∃ x9 x10 x11 x13 x14 x15 x16, g = G (bH.at (T17 vs vl bs bl Wg wB (.pointer (some ⟨fb, 0, none⟩)) (.int .i64 j) x9 x10 x11 (.func (.func 44) #[] #[.pointer (some ⟨Wg, 0, none⟩), .pointer (some ⟨fb, 0, none⟩), .pointer (some ⟨bl, 0, none⟩), .pointer (some ⟨bs, 0, none⟩), .pointer (some ⟨wB, 0, none⟩)]) x13 x14 x15 x16) [.inRegion ops7 r, .inBlock 1, .code next8, .inLoop loopH, .inBlock 0, .code restH]) cs
theorem hold_add (hI : ∀ {w : World}, I w → ∃ st sm, WgAt link.tWg Wg w st sm) {j : Int} {fb : Nat} {g : Goroutine} (hg : AtStoredH vs vl bs bl Wg wB cs j fb g) :
    GoI Try.prog true I (Q3 Try.prog I (mk .disable) (Q1 Try.prog I link.tWg Wg (fun g _ => AtBackH vs vl bs bl Wg wB cs j fb g))) 40 g := by
  obtain ⟨x9, x11, x12, x13, x14, x15, x16, rfl⟩ := hg
  have hA := @add_one link Try.prog I Wg wgLib hI bH (T17 vs vl bs bl Wg wB (.pointer (some ⟨fb, 0, none⟩)) (.int .i64 j) x9 (.int .i64 j) x11 x12 x13 x14 x15 x16) ops6 0 [] [.code after6, .inBlock 1, .code next8, .inLoop loopH, .inBlock 0, .code restH] cs
  have hA' := hA.weaken (fun g w h => Q3.mono (Q1.mono (S' := fun g _ => AtBackH vs vl bs bl Wg wB cs j fb g) fun g w hg => ⟨x9, .int .i64 j, .tuple #[], x12, x13, x14, x15, x16, hg⟩) g w h)
  clear hA
  simp only [phaseH, bodyH, Try.f33, Option.getD_some, loopH, restH, T17, ops5, add6, next8, ops6, after6, body_add, addFn] at hA' ⊢
  apply gi_regend
  apply gi_seq
  apply gi_region
  simp only [List.size_toArray, List.length_cons, List.length_nil, Nat.reduceAdd, Nat.zero_add, List.range, List.range.loop]
  (refine gi_call rfl rfl (by k_ne) rfl wgLib.f_add (nm_add link) rfl ?_; walk_nrmf addFn)
  exact hA'.up (by omega)
/-- To the go statement. -/
theorem hold_go {j : Int} {fb : Nat} {g : Goroutine} (hg : AtBackH vs vl bs bl Wg wB cs j fb g) : GoI Try.prog true I (fun g _ => AtGoH vs vl bs bl Wg wB cs j fb [1] g) 10 g := by
  obtain ⟨x9, x10, x11, x12, x13, x14, x15, x16, rfl⟩ := hg
  simp only [phaseH, bodyH, Try.f33, Option.getD_some, loopH, restH, T17, ops5, add6, next8, ops6, ops7, after6, AtGoH]
  repeat (first | (with_reducible apply gi_seq) | (with_reducible apply gi_regend) | ((with_reducible apply gi_region); simp only [List.size_toArray, List.length_cons, List.length_nil, Nat.reduceAdd, Nat.zero_add, List.range, List.range.loop]) | (with_reducible apply gi_codeskip) | (with_reducible apply gi_inBlock) | (with_reducible apply gi_ret) | (with_reducible apply gi_ended) | ((with_reducible refine gi_value (v := ?_) (o := ?_) ?_ ?_ ?_ (fun _ _ => ?_) (fun _ _ => ?_) ?_); rotate_left 2; (focus exact rfl); (focus exact rfl); (focus k_ne); (focus (go_simp; (try w_num); first | done | exact rfl)); (focus (simp [go_sem, *]; done)); walk_nrm) | ((with_reducible refine gi_value (v := ?_) (o := ?_) ?_ ?_ ?_ (fun _ _ => ?_) (fun _ _ => ?_) ?_); rotate_left 2; (focus exact rfl); (focus exact rfl); (focus k_ne); (focus (go_simp; exact rfl)); (focus (simp [go_sem, Instr.makeFunc]; done)); walk_nrm))
  exact GoD.halt fun w h => ⟨_, _, _, _, _, _, _, rfl⟩
theorem hold_spawn {j : Int} {fb : Nat} {g : Goroutine} (hg : AtGoH vs vl bs bl Wg wB cs j fb [1] g) (w : World) : g.status = .running ∧ ∃ g', stepG Try.prog true g w = .spawn g' (born Try.prog (callW Wg fb bl bs wB)) w #[] ∧ AtGoH vs vl bs bl Wg wB cs j fb [] g' := by
  obtain ⟨x9, x10, x11, x13, x14, x15, x16, rfl⟩ := hg
  have e : ops7[1]? = some ⟨none, .go { callee := .value (.tmp 12), args := #[], argTypes := #[] }, 0, "frames.go:64", #[⟨0, .data⟩], none⟩ := by kernel_rfl
  refine ⟨rfl, _, ?_, ⟨x9, x10, x11, x13, x14, x15, x16, rfl⟩⟩
  have h := @stepG_spawn Try.prog true bH (T17 vs vl bs bl Wg wB (.pointer (some ⟨fb, 0, none⟩)) (.int .i64 j) x9 x10 x11 (.func (.func 44) #[] #[.pointer (some ⟨Wg, 0, none⟩), .pointer (some ⟨fb, 0, none⟩), .pointer (some ⟨bl, 0, none⟩), .pointer (some ⟨bs, 0, none⟩), .pointer (some ⟨wB, 0, none⟩)]) x13 x14 x15 x16) [.inBlock 1, .code next8, .inLoop loopH, .inBlock 0, .code restH] cs w ops7 1 [] _ (callW Wg fb bl bs wB) w (.func 44) _ e rfl (by k_ne) (by unfold execOp; simp [go_sem, T17, resolve, Deferred.ofValue, Act.eval, callW]) rfl
  rw [h]
  have he : listed Try.prog bH.fn (T17 vs vl bs bl Wg wB (.pointer (some ⟨fb, 0, none⟩)) (.int .i64 j) x9 x10 x11 (.func (.func 44) #[] #[.pointer (some ⟨Wg, 0, none⟩), .pointer (some ⟨fb, 0, none⟩), .pointer (some ⟨bl, 0, none⟩), .pointer (some ⟨bs, 0, none⟩), .pointer (some ⟨wB, 0, none⟩)]) x13 x14 x15 x16) ⟨none, .go { callee := .value (.tmp 12), args := #[], argTypes := #[] }, 0, "frames.go:64", #[⟨0, .data⟩], none⟩ w = #[] := by
    unfold listed execOp
    simp [go_sem, T17, resolve, Deferred.ofValue, Act.eval, seen_none]
  rw [he]
  rfl
/-- To the next one. -/
theorem hold_next {j : Nat} (hj : j < 4) {fb : Nat} {g : Goroutine} (hg : AtGoH vs vl bs bl Wg wB cs j fb [] g) : GoI Try.prog true I (fun g _ => AtLoopH vs vl bs bl Wg wB cs ((j + 1 : Nat) : Int) g) 20 g := by
  obtain ⟨x9, x10, x11, x13, x14, x15, x16, rfl⟩ := hg
  have q0 : IntKind.i64.wrap ((j : Int) + 1) = ((j + 1 : Nat) : Int) := by rw [IntKind.wrap_i64]; omega
  simp only [phaseH, bodyH, Try.f33, Option.getD_some, loopH, restH, T17, ops5, add6, next8, ops6, ops7, after6, AtLoopH]
  repeat (first | (with_reducible apply gi_seq) | (with_reducible apply gi_regend) | ((with_reducible apply gi_region); simp only [List.size_toArray, List.length_cons, List.length_nil, Nat.reduceAdd, Nat.zero_add, List.range, List.range.loop]) | (with_reducible apply gi_codeskip) | (with_reducible apply gi_inBlock) | (with_reducible apply gi_ret) | (with_reducible apply gi_ended) | ((with_reducible refine gi_value (v := ?_) (o := ?_) ?_ ?_ ?_ (fun _ _ => ?_) (fun _ _ => ?_) ?_); rotate_left 2; (focus exact rfl); (focus exact rfl); (focus k_ne); (focus (go_simp; (try simp only [q0]); (try w_num); first | done | exact rfl)); (focus (simp [go_sem, *]; done)); walk_nrm))
  apply gi_inLoop
  exact GoD.halt fun w h => ⟨_, _, _, _, _, _, _, _, _, rfl⟩
/-- All are begun: Wait. -/
theorem hold_wait {g : Goroutine} (hg : AtLoopH vs vl bs bl Wg wB cs 4 g) : GoI Try.prog true I (Q3 Try.prog I (mk .disable) (fun g _ => ∃ x7 x8 x9 x10 x11 x12 x13 x14 x15 x16, WHead link Wg (bH.at (T17 vs vl bs bl Wg wB x7 x8 x9 x10 x11 x12 x13 x14 x15 x16) [.inRegion ops9 [0], .code end10]) cs g)) 40 g := by
  obtain ⟨x7, x9, x10, x11, x12, x13, x14, x15, x16, rfl⟩ := hg
  have hA := @wait_start link Try.prog I Wg wgLib bH (T17 vs vl bs bl Wg wB x7 (.int .i64 4) (.bool false) x10 x11 x12 x13 x14 x15 x16) ops9 0 [] [.code end10] cs
  have hA' := hA.weaken (fun g w h => Q3.mono (S' := fun g _ => ∃ x7 x8 x9 x10 x11 x12 x13 x14 x15 x16, WHead link Wg (bH.at (T17 vs vl bs bl Wg wB x7 x8 x9 x10 x11 x12 x13 x14 x15 x16) [.inRegion ops9 [0], .code end10]) cs g) (fun g w hg => ⟨_, _, _, _, _, _, _, _, _, _, hg⟩) g w h)
  clear hA
  simp only [phaseH, bodyH, Try.f33, Option.getD_some, loopH, restH, T17, ops9, end10, body_wait, waitFn] at hA' ⊢
  repeat (first | (with_reducible apply gi_seq) | (with_reducible apply gi_regend) | ((with_reducible apply gi_region); simp only [List.size_toArray, List.length_cons, List.length_nil, Nat.reduceAdd, Nat.zero_add, List.range, List.range.loop]) | (with_reducible apply gi_codeskip) | (with_reducible apply gi_block) | (with_reducible apply gi_inBlock) | (with_reducible apply gi_loop) | (with_reducible apply gi_inLoop) | (with_reducible apply gi_ret) | (with_reducible apply gi_ended) | ((with_reducible apply gi_cod (t := false)); (focus first | rfl | (simp [Act.eval]; done) | (simp [Act.eval]; omega)); simp only [if_true, if_false, Bool.false_eq_true, ↓reduceIte]) | ((with_reducible refine gi_value (v := ?_) (o := ?_) ?_ ?_ ?_ (fun _ _ => ?_) (fun _ _ => ?_) ?_); rotate_left 2; (focus exact rfl); (focus exact rfl); (focus k_ne); (focus (go_simp; (try w_num); first | done | exact rfl)); (focus (simp [go_sem, *]; done)); walk_nrm) | ((with_reducible apply gi_exitc); (focus rfl)))
  (refine gi_call rfl rfl (by k_ne) rfl wgLib.f_wait (nm_wait link) rfl ?_; walk_nrmf waitFn)
  exact hA'.up (by omega)
end
end Go.Proofs.Ytgfgoflhmikalaa.par

namespace Go.Proofs.Ytgfgoflhmikalaa.par
open Go Go.Conc Go.RowKit Go.Conc.Lib Go.ConcR.Gen Go.ConcN.Gen
open Go.ConcR (stA smA WgAt KK rd wr DC0)
set_option linter.unusedVariables false
set_option linter.unusedSimpArgs false
namespace Par
variable {A : Par}
theorem kn0 (ne : A.wB ≠ A.Wg) : A.Kn (fun _ => False) A.Live :=
  ⟨fun _ h => h, fun O _ w w₁ he h => he.live h, fun w w' hh ht ho hu h => live_of w w' ⟨ht, ho, hu, by rw [hh]; exact Nat.le_refl _, fun b _ => by rw [hh]⟩ h, fun _ _ _ _ _ h => h, ne⟩
theorem no_own {O : Nat → Prop} : ∀ b, (fun _ => False) b → O b := fun _ h => h.elim
section
variable {O0 : Nat → Prop} {I : World → Prop} {O : Nat → Prop} {g : Goroutine} {w : World} {S : Goroutine → World → Prop}
variable {Anch FinS : (Nat → Prop) → Nat → Goroutine → World → Prop}
/-! ### Wait's stops -/
theorem Kn.ac (h : A.Kn O0 I) (hO : ∀ b, O0 b → O b) (hI : I w) (hF : ∀ O g w, I w → S g w → FinS O 0 g w) (hs : Q3 A.P I (Go.ConcR.mk (.acquire (stA A.Wg))) S g w) : A.Ac FinS O 0 g w := by
  obtain ⟨h0, g', h1, m, h2⟩ := hs
  exact ⟨rfl, h0, g', h1, OT.weaken (fun O' d' g w ⟨a, b, c, e⟩ => by subst a; exact hF _ _ _ c e) (h.first h2 hO hI)⟩
theorem Kn.acs (h : A.Kn O0 I) (hO : ∀ b, O0 b → O b) (hI : I w) (hF : ∀ O g w, I w → S g w → FinS O 0 g w) {m : Nat} (hs : GoI A.P true I (VE A.P I A.Wg S) m g) : A.LM (A.Ac FinS) O 1 g w :=
  h.lead hO hI (.inr (.inr (.inl rfl))) hs fun O' g w hO1 hI1 h1 => h.ac (fun x hx => hO1 x (hO x hx)) hI1 hF h1
theorem Kn.w4 (h : A.Kn O0 I) (hO : ∀ b, O0 b → O b) (hI : I w) (hF : ∀ O g w, I w → S g w → FinS O 0 g w) (hs : V4 A.P I A.tW A.Wg (VE A.P I A.Wg S) g w) : A.W4 FinS O 1 g w := by
  refine ⟨rfl, hs.1, fun hw => ?_⟩
  obtain ⟨g', h1, m, h2⟩ := hs.2 hw
  exact ⟨g', h1, h.acs hO hI hF h2⟩
theorem Kn.w3 (h : A.Kn O0 I) (hO : ∀ b, O0 b → O b) (hI : I w) (hF : ∀ O g w, I w → S g w → FinS O 0 g w) (hs : V3 A.P I A.tW A.Wg (V4 A.P I A.tW A.Wg (VE A.P I A.Wg S)) g w) : A.W3 FinS O 1 g w := by
  refine ⟨rfl, hs.1, hs.2.1, hs.2.2.1, fun hw => ?_⟩
  obtain ⟨g', h1, m, h2⟩ := hs.2.2.2 hw
  exact ⟨g', h1, OT.weaken (fun O' d' g w ⟨a, b, c, e⟩ => by subst a; exact h.w4 (fun x hx => b x (hO x hx)) c hF e) (h.first h2 hO (h.setSm hI hw 0))⟩
theorem Kn.w2 (h : A.Kn O0 I) (hO : ∀ b, O0 b → O b) (hI : I w) (hF : ∀ O g w, I w → S g w → FinS O 0 g w) {Z : Goroutine → World → Prop} (hZ : ∀ O g w, I w → Z g w → Anch O 1 g w) {vs : Nat}
    (hs : V2 A.P I A.tW A.Wg vs (Q3 A.P I (Go.ConcR.mk (.write (smA A.Wg))) (V3 A.P I A.tW A.Wg (V4 A.P I A.tW A.Wg (VE A.P I A.Wg S)))) Z g w) : A.W2 Anch FinS vs O 1 g w := by
  refine ⟨rfl, hs.1, fun v hv hw => ⟨fun e => ?_, fun e => ?_⟩⟩
  · obtain ⟨g', h1, m, h2⟩ := (hs.2 v hv hw).1 e
    exact ⟨g', h1, h.lead hO (h.setSt hI hw _) (.inr (.inl ⟨_, rfl, .inr (.inl rfl)⟩)) h2 fun O' g w hO1 hI1 h3 => h.w3 (fun x hx => hO1 x (hO x hx)) hI1 hF h3⟩
  · obtain ⟨g', h1, m, h2⟩ := (hs.2 v hv hw).2 e
    exact ⟨g', h1, OT.weaken (fun O' d' g w ⟨a, b, c, e⟩ => by subst a; exact hZ _ _ _ c e) (h.first h2 hO hI)⟩
theorem Kn.w1 (h : A.Kn O0 I) (hO : ∀ b, O0 b → O b) (hI : I w) (hF : ∀ O g w, I w → S g w → FinS O 0 g w) {Z : Goroutine → World → Prop} (hZ : ∀ O g w, I w → Z g w → Anch O 1 g w)
    (hs : V1 A.P I A.tW A.Wg (VE A.P I A.Wg S) (fun vs => V2 A.P I A.tW A.Wg vs (Q3 A.P I (Go.ConcR.mk (.write (smA A.Wg))) (V3 A.P I A.tW A.Wg (V4 A.P I A.tW A.Wg (VE A.P I A.Wg S)))) Z) g w) : A.W1 Anch FinS O 1 g w := by
  refine ⟨rfl, hs.1, fun v hv hw => ?_⟩
  obtain ⟨g', h1, h2, h3⟩ := hs.2 v hv hw
  refine ⟨g', h1, fun e => ?_, fun e => ?_⟩
  · obtain ⟨m, h4⟩ := h2 e
    exact h.acs hO hI hF h4
  · obtain ⟨m, h4⟩ := h3 e
    exact OT.weaken (fun O' d' g w ⟨a, b, c, e⟩ => by subst a; exact h.w2 (fun x hx => b x (hO x hx)) c hF hZ e) (h.first h4 hO hI)
/-! ### Add(1) -/
theorem Kn.a1 (h : A.Kn O0 I) (hO : ∀ b, O0 b → O b) (hI : I w) {Nx : (Nat → Prop) → Nat → Goroutine → World → Prop} (hN : ∀ O' g w, (∀ b, O b → O' b) → I w → S g w → A.LM Nx O' 0 g w) (hs : Q1 A.P I A.tW A.Wg S g w) : A.A1 Nx O 1 g w := by
  refine ⟨rfl, hs.1, fun v hv hw => ?_⟩
  obtain ⟨g', h1, m, h2⟩ := hs.2 v hv hw
  refine ⟨g', h1, ?_⟩
  have fin : ∀ (O1 : Nat → Prop) (g1 : Goroutine) (w1 : World), (∀ b, O b → O1 b) → I w1 → Q3 A.P I (Go.ConcR.mk .enable) S g1 w1 → ∃ g2 w2 es, stepG A.P true g1 w1 = .go g2 w2 es ∧ GuT A.Rd A.Sh ((0 : Nat) = 0) O1 w1 w2 es ∧ A.LM Nx (grow O1 w1 w2) (deafBehind 1 es) g2 w2 := by
    intro O1 g1 w1 ha hI1 hq
    obtain ⟨_, g2, e2, m2, e3⟩ := hq
    refine ⟨g2, w1, _, e2, ⟨rfl, rfl, rfl, Nat.le_refl _, fun _ _ _ => rfl, fun x hx => ?_⟩, ?_⟩
    · rw [Array.mem_singleton] at hx
      subst hx
      exact .inl trivial
    · show A.LM Nx (grow O1 w1 w1) 0 g2 w1
      exact OT.bind (h.first e3 (fun x hx => .inl (ha x (hO x hx))) hI1) (EnvT.refl ryA) fun O' d' g w ⟨a, b, c, e⟩ => by subst a; exact hN _ _ _ (fun x hx => b x (.inl (ha x hx))) c e
  refine OT.bind2 (h.first h2 hO (h.setSt hI hw _)) fun O1 d1 g1 w1 hall => ?_
  have h0 := hall w1 (EnvT.refl ryA _ _)
  obtain rfl := h0.1
  refine OT.mk (h0.2.2.2.elim (fun x => x.1) fun x => x.1) fun w₁ he => ?_
  obtain ⟨_, b, c, hq⟩ := hall w₁ he
  rcases hq with hq | ⟨_, g2, e2, m2, e3⟩
  · exact fin O1 g1 w₁ b c hq
  · refine ⟨g2, w₁, _, e2, ⟨rfl, rfl, rfl, Nat.le_refl _, fun _ _ _ => rfl, fun x hx => ?_⟩, ?_⟩
    · rw [Array.mem_singleton] at hx
      subst hx
      exact .inr (.inr ⟨rfl, .inl ⟨_, rfl, .inr (.inl rfl)⟩⟩)
    · show A.LM Nx (grow O1 w₁ w₁) 1 g2 w₁
      refine OT.bind2 (h.first e3 (fun x hx => .inl (b x (hO x hx))) c) fun O3 d3 g3 w3 hall3 => ?_
      have h3 := hall3 w3 (EnvT.refl ryA _ _)
      obtain rfl := h3.1
      refine OT.mk h3.2.2.2.1 fun w₄ he4 => ?_
      obtain ⟨_, b4, c4, hq4⟩ := hall3 w₄ he4
      exact fin O3 g3 w₄ (fun x hx => b4 x (.inl (b x hx))) c4 hq4
end
end Par
end Go.Proofs.Ytgfgoflhmikalaa.par

namespace Go.Proofs.Ytgfgoflhmikalaa.par
open Go Go.Conc Go.RowKit Go.Conc.Lib Go.ConcR.Gen Go.ConcN.Gen
open Go.ConcR (stA smA WgAt KK rd wr DC0)
set_option linter.unusedVariables false
set_option linter.unusedSimpArgs false
namespace Par
variable {A : Par}
/-- What the phase needs to be given. -/
structure Jobs (A : Par) (bl bs n cap b off : Nat) (ad : Option Addr) (s : ByteArray) (cs : Nat → Int × Int × Int) (gb : Nat → Bool) : Prop where
  prog : A.P = Try.prog
  tW : A.tW = link.tWg
  ne : A.wB ≠ A.Wg
  job : ∀ j, j < 4 → ∀ fb, A.B1 ≤ fb → A.Job bl bs j n cap b off ad s cs gb fb
  b1 : A.B1 ≤ A.Wz.heap.size
section
variable {bl bs n cap b off : Nat} {ad : Option Addr} {s : ByteArray} {cs : Nat → Int × Int × Int} {gb : Nat → Bool} {vs vl : Value} {cl : List Frame}
def WaitH (A : Par) (vs vl : Value) (bs bl : Nat) (cl : List Frame) (g : Goroutine) : Prop := ∃ x7 x8 x9 x10 x11 x12 x13 x14 x15 x16, WHead link A.Wg (bH.at (T17 vs vl bs bl A.Wg A.wB x7 x8 x9 x10 x11 x12 x13 x14 x15 x16) [.inRegion ops9 [0], .code end10]) cl g
def AnchH (A : Par) (vs vl : Value) (bs bl : Nat) (cl : List Frame) (O : Nat → Prop) (d : Nat) (g : Goroutine) (w : World) : Prop := d = 1 ∧ A.Live w ∧ WaitH A vs vl bs bl cl g
def EndH (A : Par) (vs vl : Value) (bs bl : Nat) (cl : List Frame) (g : Goroutine) : Prop := ∃ x7 x8 x9 x10 x11 x12 x13 x14 x15 x16, g = G (bH.at (T17 vs vl bs bl A.Wg A.wB x7 x8 x9 x10 x11 x12 x13 x14 x15 x16) [.inRegion ops9 [], .code end10]) cl
def FinH (A : Par) (vs vl : Value) (bs bl : Nat) (cl : List Frame) (O : Nat → Prop) (d : Nat) (g : Goroutine) (w : World) : Prop := d = 0 ∧ EndH A vs vl bs bl cl g
theorem FinH.run {O : Nat → Prop} {d : Nat} {g : Goroutine} {w : World} (h : FinH A vs vl bs bl cl O d g w) : d = 0 ∧ g.status = .running := by
  obtain ⟨h1, _, _, _, _, _, _, _, _, _, _, rfl⟩ := h
  exact ⟨h1, rfl⟩
theorem Jobs.anch (J : A.Jobs bl bs n cap b off ad s cs gb) (O : Nat → Prop) (d : Nat) (g : Goroutine) (w : World) (h : AnchH A vs vl bs bl cl O d g w) : A.LM (A.W1 (AnchH A vs vl bs bl cl) (FinH A vs vl bs bl cl)) O d g w := by
  obtain ⟨rfl, hl, x7, x8, x9, x10, x11, x12, x13, x14, x15, x16, hh⟩ := h
  have K := kn0 (A := A) J.ne
  have h1 := @wait_round link Try.prog A.Live A.Wg wgLib (fun {w} h => by have := h.1.1; rwa [J.tW] at this) bH (T17 vs vl bs bl A.Wg A.wB x7 x8 x9 x10 x11 x12 x13 x14 x15 x16) ops9 0 [] [.code end10] cl (fun g _ => EndH A vs vl bs bl cl g)
    (fun g w e => ⟨x7, x8, x9, x10, x11, x12, x13, .tuple #[], x15, x16, by rw [show (ops9[0]?).bind (·.dst) = some 14 by kernel_rfl] at e; exact e⟩) g hh
  rw [← J.prog, ← J.tW] at h1
  refine OT.weaken (fun O' d' g' w' ⟨a, _, c, e⟩ => ?_) (K.first h1 no_own hl)
  subst a
  exact K.w1 no_own c (fun O g w _ he => ⟨rfl, he⟩) (fun O g w hw hz => ⟨rfl, hw, _, _, _, _, _, _, _, _, _, _, hz⟩) e
theorem Jobs.wait (J : A.Jobs bl bs n cap b off ad s cs gb) {O : Nat → Prop} {g : Goroutine} {w : World} (hl : A.Live w) (hg : AtLoopH vs vl bs bl A.Wg A.wB cl 4 g) : A.LM (A.W1 (AnchH A vs vl bs bl cl) (FinH A vs vl bs bl cl)) O 0 g w := by
  have K := kn0 (A := A) J.ne
  have h1 := @hold_wait A.Live vs vl bs bl A.Wg A.wB cl g hg
  rw [← J.prog] at h1
  exact OT.bind (K.lead no_own hl (.inr (.inr (.inr rfl))) h1 (Z := AnchH A vs vl bs bl cl) fun O' g w _ hw hs => ⟨rfl, hw, hs⟩) (EnvT.refl ryA) fun O d g w h => J.anch O d g w h
/-- One worker is begun. -/
theorem Jobs.add (J : A.Jobs bl bs n cap b off ad s cs gb) {j : Nat} (hj : j < 4) {Next : (Nat → Prop) → Nat → Goroutine → World → Prop} (hN : ∀ O g w, A.Live w → AtLoopH vs vl bs bl A.Wg A.wB cl ((j + 1 : Nat) : Int) g → A.LM Next O 0 g w)
    {O : Nat → Prop} {g : Goroutine} {w : World} (hl : A.Live w) (hg : AtLoopH vs vl bs bl A.Wg A.wB cl (j : Int) g) : A.LM (A.A1 (A.GoS j Next)) O 0 g w := by
  have K := kn0 (A := A) J.ne
  have h1 := @hold_head A.Live vs vl bs bl A.Wg A.wB cl j hj g hg
  rw [← J.prog] at h1
  refine OT.bind2 (K.first h1 no_own hl) fun O1 d1 g1 w1 hall => ?_
  have h0 := hall w1 (EnvT.refl ryA _ _)
  obtain rfl := h0.1
  obtain ⟨x7, x9, x11, x12, x13, x14, x15, x16, rfl⟩ := h0.2.2.2
  refine OT.mk rfl fun w₁ he => ?_
  obtain ⟨es, e1, rfl⟩ := hold_alloc (cs := cl) (a := T17 vs vl bs bl A.Wg A.wB x7 (.int .i64 j) x9 (.int .i64 j) x11 x12 x13 x14 x15 x16) (k := [.code add6, .inBlock 1, .code next8, .inLoop loopH, .inBlock 0, .code restH]) (w := w₁)
  rw [← J.prog] at e1
  have hl1 : A.Live w₁ := (hall w₁ he).2.2.1
  have hB : A.B1 ≤ w₁.heap.size := Nat.le_trans J.b1 hl1.2.size
  have hnew : ∀ b, b < w₁.heap.size → (w₁.alloc (.cells #[.int .i64 0] 3)).heap[b]? = w₁.heap[b]? := fun b hb => by
    show (w₁.heap.push _)[b]? = _
    rw [Array.getElem?_push, if_neg (by omega)]
  have hsz : (w₁.alloc (.cells #[.int .i64 0] 3)).heap.size = w₁.heap.size + 1 := by
    show (w₁.heap.push _).size = _
    simp
  refine ⟨_, _, _, e1, ⟨rfl, rfl, rfl, by omega, fun b hb _ => hnew b hb, fun e he => absurd he (by simp)⟩, ?_⟩
  generalize hfb : w₁.heap.size = fb at *
  have hat : (w₁.alloc (.cells #[.int .i64 0] 3)).heap[fb]? = some (.cells #[.int .i64 0] 3) := by
    show (w₁.heap.push _)[fb]? = _
    rw [Array.getElem?_push, if_pos hfb.symm]
  have Jf := J.job j hj fb hB
  have hl2 : A.Live (w₁.alloc (.cells #[.int .i64 0] 3)) := by
    obtain ⟨⟨⟨st, sm, q1⟩, v, q2⟩, q3⟩ := hl1
    have lW : A.Wg < fb := by rw [← hfb]; exact (Array.getElem?_eq_some_iff.1 (show w₁.heap[A.Wg]? = _ from q1)).1
    have lB : A.wB < fb := by rw [← hfb]; exact (Array.getElem?_eq_some_iff.1 (show w₁.heap[A.wB]? = _ from q2)).1
    exact ⟨⟨⟨st, sm, (hnew _ lW).trans q1⟩, v, (hnew _ lB).trans q2⟩, ⟨q3.tape, q3.os, q3.output, by have := q3.size; omega, fun b hb => (hnew b (by have := hb.1; omega)).trans (q3.heap b hb)⟩⟩
  have hO2 : grow O1 w₁ (w₁.alloc (.cells #[.int .i64 0] 3)) fb := .inr ⟨by omega, by omega⟩
  show A.LM _ (grow O1 w₁ (w₁.alloc (.cells #[.int .i64 0] 3))) 0 _ _
  generalize (w₁.alloc (.cells #[.int .i64 0] 3)) = w2 at *
  generalize grow O1 w₁ w2 = O2 at *
  refine OT.mk rfl fun w₂ he2 => ?_
  have hat2 : w₂.heap[fb]? = some (.cells #[.int .i64 0] 3) := (he2.env.own fb hO2).trans hat
  have hl3 : A.Live w₂ := he2.live hl2
  have e2 := hold_store (cs := cl) (a := T17 vs vl bs bl A.Wg A.wB (.pointer (some ⟨fb, 0, none⟩)) (.int .i64 j) x9 (.int .i64 j) x11 x12 x13 x14 x15 x16) (k := [.code add6, .inBlock 1, .code next8, .inLoop loopH, .inBlock 0, .code restH]) (v := j) rfl rfl hat2
  rw [← J.prog] at e2
  have hne : ∀ b, b ≠ fb → (w₂.setCell ⟨fb, 0, none⟩ (.int .i64 j)).heap[b]? = w₂.heap[b]? := fun b hb => set_other w₂ ⟨fb, 0, none⟩ _ hb
  have hs3 : (w₂.setCell ⟨fb, 0, none⟩ (.int .i64 j)).heap.size = w₂.heap.size := by simp [World.setCell]
  have hat3 : (w₂.setCell ⟨fb, 0, none⟩ (.int .i64 j)).heap[fb]? = some (.cells #[.int .i64 j] 3) := by
    rw [setCell_eq_setRow w₂ fb 0 _ 3 (0, 0) _ hat2, setRow_heap w₂ fb _ _ 3 _ hat2]
    simp
  have hl4 : A.Live (w₂.setCell ⟨fb, 0, none⟩ (.int .i64 j)) := by
    refine live_of w₂ _ ⟨rfl, rfl, rfl, by omega, fun b hb => hne b fun e => ?_⟩ hl3
    subst e
    rcases hb with hb | hb
    · exact Jf.nfS hb
    · have := hb.1; omega
  refine ⟨_, _, _, e2, ⟨rfl, rfl, rfl, by omega, fun b _ hb => hne b fun e => hb (e ▸ hO2), fun e he => ?_⟩, ?_⟩
  · rw [Array.mem_singleton] at he
    subst he
    exact .inl (.inl hO2)
  show A.LM _ (grow O2 w₂ (w₂.setCell ⟨fb, 0, none⟩ (.int .i64 j))) 0 _ _
  have hO3 : grow O2 w₂ (w₂.setCell ⟨fb, 0, none⟩ (.int .i64 j)) fb := .inl hO2
  generalize w₂.setCell ⟨fb, 0, none⟩ (.int .i64 j) = w3 at *
  generalize grow O2 w₂ w3 = O3 at *
  have Kf := Jf.kn
  have hI3 : A.WkI fb j w3 := ⟨hl4, hat3⟩
  have hO3' : ∀ x, x = fb → O3 x := fun x e => e ▸ hO3
  have h5 := @hold_add (A.WkI fb j) vs vl bs bl A.Wg A.wB cl Jf.wg (j : Int) fb _ ⟨x9, x11, x12, x13, x14, x15, x16, rfl⟩
  rw [← J.prog, ← J.tW] at h5
  refine Kf.lead hO3' hI3 (.inr (.inr (.inr rfl))) h5 fun O4 g4 w4 ho4 hI4 h6 => ?_
  show A.A1 _ O4 1 g4 w4
  refine Kf.a1 (fun x hx => ho4 x (hO3' x hx)) hI4 (fun O5 g5 w5 ho5 hI5 h7 => ?_) h6
  have hO5 : O5 fb := ho5 _ (ho4 _ hO3)
  have h8 := @hold_go (A.WkI fb j) vs vl bs bl A.Wg A.wB cl j fb g5 h7
  rw [← J.prog] at h8
  refine OT.weaken (fun O6 d6 g6 w6 ⟨a6, b6, c6, s6⟩ => ?_) (Kf.first h8 (fun x hx => by rw [hx]; exact hO5) hI5)
  subst a6
  obtain ⟨r6, g7, e7, s7⟩ := hold_spawn s6 w6
  rw [← J.prog] at e7
  refine ⟨rfl, r6, g7, _, fun x => O6 x ∧ x ≠ fb, fun x => x = fb, e7, fun x hx => hx.1, fun x hx => by rw [hx]; exact b6 _ hO5, fun x hx e => hx.2 e, ?_, ?_⟩
  · rw [J.prog]
    exact Jf.work hj rfl c6
  · have h9 := @hold_next A.Live vs vl bs bl A.Wg A.wB cl j hj fb g7 s7
    rw [← J.prog] at h9
    exact OT.bind (K.first h9 no_own c6.1) (EnvT.refl ryA) fun O' d' g w ⟨a, _, c, e⟩ => by subst a; exact hN _ _ _ c e
/-- THE STARTER, from the phase's start. -/
theorem Jobs.start (J : A.Jobs bl bs n cap b off ad s cs gb) {O : Nat → Prop} {g : Goroutine} {w : World} (hl : A.Live w) (hg : AtStartH vs vl bs bl A.Wg A.wB cl g) :
    A.LM (A.A1 (A.GoR (AnchH A vs vl bs bl cl) (FinH A vs vl bs bl cl) 3)) O 0 g w := by
  have K := kn0 (A := A) J.ne
  have h1 := @hold_start A.Live vs vl bs bl A.Wg A.wB cl g hg
  rw [← J.prog] at h1
  refine OT.bind (K.first h1 no_own hl) (EnvT.refl ryA) fun O' d' g w ⟨a, _, c, e⟩ => ?_
  subst a
  have key : ∀ r, r ≤ 3 → ∀ O g w, A.Live w → AtLoopH vs vl bs bl A.Wg A.wB cl ((3 - r : Nat) : Int) g → A.LM (A.A1 (A.GoR (AnchH A vs vl bs bl cl) (FinH A vs vl bs bl cl) r)) O 0 g w := by
    intro r
    induction r with
    | zero => exact fun _ O g w hl hg => J.add (j := 3) (by omega) (fun O g w hl hg => J.wait hl hg) hl hg
    | succ r ih => exact fun hr O g w hl hg => J.add (j := 2 - r) (by omega) (fun O g w hl hg => ih (by omega) O g w hl (by rw [show 3 - r = 2 - r + 1 by omega]; exact hg)) hl (by rw [show 2 - r = 3 - (r + 1) by omega]; exact hg)
  exact key 3 (by omega) _ _ _ c e
end
end Par
end Go.Proofs.Ytgfgoflhmikalaa.par
