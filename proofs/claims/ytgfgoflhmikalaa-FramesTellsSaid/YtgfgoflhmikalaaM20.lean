/- Part 20 of what the proofs stand on: lemmas on worlds, on goroutines, contracts of functions. No conditions. -/
import Derived.Test.YtgfgoflhmikalaaM19
namespace Go.Proofs.Ytgfgoflhmikalaa.par
open Go Go.Conc Go.RowKit Go.Conc.Lib Go.ConcR.Gen Go.ConcN.Gen
open Go.ConcR (stA smA WgAt KK rd wr mk DC0)
set_option linter.unusedVariables false
set_option linter.unusedSimpArgs false
set_option maxRecDepth 100000
section
variable {P : Program} {main : Bool} {Env : (Nat → Prop) → World → World → Prop} {Gu : (Nat → Prop) → World → World → Array Event → Prop}
/-- A walk as a tree; what is held at its end. -/
theorem OT.of_god {I : World → Prop} {D : World → World → Array Event → Prop} {S : Goroutine → World → Prop} {O0 : Nat → Prop} (hrefl : ∀ O w, Env O w w) (hR : ∀ O, (∀ b, O0 b → O b) → ∀ w w₁, Env O w w₁ → I w → I w₁) (hI : ∀ w w' es, D w w' es → I w → I w')
    (hst : ∀ w w' es, D w w' es → ∀ e ∈ es, e.loc ≠ .mark .disable ∧ e.loc ≠ .mark .enable) (hD : ∀ (O : Nat → Prop), (∀ b, O0 b → O b) → ∀ w w' es, D w w' es → Gu O w w' es) :
    ∀ (n : Nat) (g : Goroutine) (w : World) (O : Nat → Prop) (d : Nat), (∀ b, O0 b → O b) → I w → Goes P main (fun w w₁ => I w → I w₁) D S n g w → OT P main Env Gu (fun O' d' g w => d' = d ∧ (∀ b, O b → O' b) ∧ I w ∧ S g w) O d g w := by
  intro n
  induction n with
  | zero => exact fun g w O d hO hw h => .stop fun w₁ he => ⟨rfl, fun _ h => h, hR O hO _ _ he hw, h w₁ (hR O hO _ _ he)⟩
  | succ n ih =>
    intro g w O d hO hw h
    rcases h with hs | ⟨hr, hst'⟩
    · exact .stop fun w₁ he => ⟨rfl, fun _ h => h, hR O hO _ _ he hw, hs w₁ (hR O hO _ _ he)⟩
    · refine OT.mk hr fun w₁ he => ?_
      have h1 := hst' w₁ (hR O hO _ _ he)
      cases hgo : stepG P main g w₁ with
      | go g' w' es =>
        rw [hgo, goes_go] at h1
        obtain ⟨h2, h3⟩ := h1
        refine ⟨g', w', es, rfl, hD O hO _ _ _ h2, ?_⟩
        rw [deafBehind_still (hst _ _ _ h2)]
        have h4 := ih g' w' (grow O w₁ w') d (fun b hb => .inl (hO b hb)) (hI _ _ _ h2 (hR O hO _ _ he hw)) h3
        exact OT.weaken (fun O' d' g w ⟨a, b, c⟩ => ⟨a, fun x hx => b x (.inl hx), c⟩) h4
      | _ => rw [hgo] at h1; exact h1.elim
theorem GoD.ot {I : World → Prop} {D : World → World → Array Event → Prop} {S : Goroutine → World → Prop} {O0 : Nat → Prop} {n : Nat} {g : Goroutine} (h : GoD P main I D S n g) (hrefl : ∀ O w, Env O w w) (hR : ∀ O, (∀ b, O0 b → O b) → ∀ w w₁, Env O w w₁ → I w → I w₁) (hI : ∀ w w' es, D w w' es → I w → I w')
    (hst : ∀ w w' es, D w w' es → ∀ e ∈ es, e.loc ≠ .mark .disable ∧ e.loc ≠ .mark .enable) (hD : ∀ (O : Nat → Prop), (∀ b, O0 b → O b) → ∀ w w' es, D w w' es → Gu O w w' es) {w : World} {O : Nat → Prop} {d : Nat} (hO : ∀ b, O0 b → O b) (hw : I w) :
    OT P main Env Gu (fun O' d' g w => d' = d ∧ (∀ b, O b → O' b) ∧ I w ∧ S g w) O d g w := OT.of_god hrefl hR hI hst hD n g w O d hO hw (h w hw)
end
theorem GoD.mono {P : Program} {main : Bool} {I : World → Prop} {D D' : World → World → Array Event → Prop} {S : Goroutine → World → Prop} {n : Nat} {g : Goroutine} (h : GoD P main I D S n g) (hD : ∀ w w' es, D w w' es → D' w w' es) : GoD P main I D' S n g := by
  have key : ∀ (n : Nat) (g : Goroutine) (w : World), Goes P main (fun w w₁ => I w → I w₁) D S n g w → Goes P main (fun w w₁ => I w → I w₁) D' S n g w := by
    intro n
    induction n with
    | zero => exact fun g w h => h
    | succ n ih =>
      intro g w h
      rcases h with h | ⟨hr, h⟩
      · exact .inl h
      · refine .inr ⟨hr, fun w₁ h₁ => ?_⟩
        have := h w₁ h₁
        revert this
        cases stepG P main g w₁ with
        | go g' w' es => exact fun hx => ⟨hD _ _ _ hx.1, ih _ _ hx.2⟩
        | _ => exact fun hx => hx
  exact fun w hw => key n g w (h w hw)
theorem GoD.up {P : Program} {main : Bool} {I : World → Prop} {D : World → World → Array Event → Prop} {S : Goroutine → World → Prop} {n m : Nat} {g : Goroutine} (h : GoD P main I D S n g) (hl : n ≤ m) : GoD P main I D S m g := by
  have key : ∀ (n m : Nat) (g : Goroutine) (w : World), n ≤ m → Goes P main (fun w w₁ => I w → I w₁) D S n g w → Goes P main (fun w w₁ => I w → I w₁) D S m g w := by
    intro n
    induction n with
    | zero =>
      intro m g w _ h
      cases m with
      | zero => exact h
      | succ m => exact .inl h
    | succ n ih =>
      intro m g w hl h
      cases m with
      | zero => omega
      | succ m =>
        rcases h with h | ⟨hr, h⟩
        · exact .inl h
        · refine .inr ⟨hr, fun w₁ h₁ => ?_⟩
          have := h w₁ h₁
          revert this
          cases stepG P main g w₁ with
          | go g' w' es => exact fun hx => ⟨hx.1, ih m _ _ (by omega) hx.2⟩
          | _ => exact fun hx => hx
  exact fun w hw => key n m g w hl (h w hw)
/-- A call, its frame as it is entered. -/
theorem gi_enter {P : Program} {main : Bool} {I : World → Prop} {D : World → World → Array Event → Prop} [Still D] {S : Goroutine → World → Prop} {n : Nat} {b : Frame} {a : Act} {k : List Item} {cs : List Frame} {ops : Array Oper} {i : Nat} {rest : List Nat} {o : Oper} {f : FuncId} {fn : Func} {args : Array Operand} {ats : Array TypeId}
    (ho : ops[i]? = some o) (hw : Region.wanted o (yielded ops a.tmps) = true) (hk : b.kind ≠ .early) (hop : o.op = .call { callee := .value (.func f), args, argTypes := ats })
    (hf : P.funcs[f]? = some fn) (hname : (fn.name == "runtime.NumGoroutine") = false) (hb : fn.body.isNone = false)
    (hq : GoD P main I D S n (G (Frame.enter P f (args.map a.eval) .normal) (b.at a (.inRegion ops (i :: rest) :: k) :: cs))) : GoD P main I D S (n + 1) (G (b.at a (.inRegion ops (i :: rest) :: k)) cs) :=
  .more rfl (fun w _ => by
    rw [stepG_enter ho hw hk (run_call_body hop hf hname hb)]
    have : listed P b.fn a o w = #[] := by unfold listed; rw [events_call_body hop hf hname hb]; exact seen_none P _
    rw [this]) hq
/-- What looks: at one's own block fb, and at what nobody writes. -/
structure DL (Rd : Nat → Prop) (fb : Nat) (w w' : World) (es : Array Event) : Prop where
  heap : w'.heap = w.heap
  tape : w'.tape = w.tape
  os : w'.os = w.os
  output : w'.output = w.output
  evs : ∀ e ∈ es, e.write = false ∧ ∃ a, e.loc = .cell a ∧ (a.block = fb ∨ Rd a.block)
instance {Rd : Nat → Prop} {fb : Nat} : Still (DL Rd fb) := ⟨fun w => ⟨rfl, rfl, rfl, rfl, fun e he => absurd he (by simp)⟩⟩
theorem DL.gu {Rd Sh : Nat → Prop} {fb : Nat} {z : Prop} {w w' : World} {es : Array Event} (h : DL Rd fb w w' es) (O : Nat → Prop) (hO : O fb) : GuT Rd Sh z O w w' es :=
  ⟨h.tape, h.os, h.output, by rw [h.heap]; exact Nat.le_refl _, fun b _ _ => by rw [h.heap], fun e he => by
    obtain ⟨h1, a, h2, h3⟩ := h.evs e he
    rcases h3 with h3 | h3
    · refine .inl ?_
      unfold EvO
      rw [h2]
      exact .inl (h3 ▸ hO)
    · refine .inr (.inl ⟨h1, ?_⟩)
      rw [h2]
      exact h3⟩
theorem DL.mute {Rd : Nat → Prop} {fb : Nat} {w w' : World} {es : Array Event} (h : DL Rd fb w w' es) : ∀ e ∈ es, e.loc ≠ .mark .disable ∧ e.loc ≠ .mark .enable := fun e he => by
  obtain ⟨_, a, h2, _⟩ := h.evs e he
  rw [h2]
  exact ⟨by simp, by simp⟩
/-! ### Done, entered as a deferred call -/
section
variable {L : WgLink} {P : Program} {I : World → Prop} {Wg : Nat}
set_option maxHeartbeats 4000000 in
theorem done_one (H : WgLib P L) (hI : ∀ {w : World}, I w → ∃ st sm, WgAt L.tWg Wg w st sm) {c : Frame} {cs : List Frame} {qt : Nat} (hcm : c.mode = .returning) (hT : QuitsD P qt 0 (G c cs)) :
    GoD P false I DC0 (N0 P I Wg (N2 P I L.tWg Wg (N3 P I L.tWg Wg))) 23 (G ((baseD L.done).at ⟨#[.pointer (some ⟨Wg, 0, none⟩), undef, undef, undef], []⟩ [.code (body_done L)]) (c :: cs)) := by
  lib_facts
  have hA := @neg_one L P I Wg H hI
  simp only [body_done, body_add, doneFn, addFn, Option.getD_some] at hA ⊢
  ((with_reducible apply gi_region); simp only [List.size_toArray, List.length_cons, List.length_nil, Nat.reduceAdd, Nat.zero_add, List.range, List.range.loop])
  ((with_reducible refine gi_value (v := ?_) (o := ?_) ?_ ?_ ?_ (fun _ _ => ?_) (fun _ _ => ?_) ?_); rotate_left 2; (focus exact rfl); (focus exact rfl); (focus k_ne); (focus (go_simp; (try w_num); first | done | exact rfl)); (focus (simp [go_sem, *]; done)); walk_nrm)
  refine gi_call rfl rfl (by k_ne) rfl H.f_add (nm_add L) rfl ?_
  walk_nrmf addFn
  refine hA (qt := qt + 3) ?_
  (with_reducible apply q_regend)
  (with_reducible apply q_ended)
  exact QuitsD.leaveD rfl rfl H.f_done rfl hcm hT
end
/-! ### every order of a region -/
def ordersOf (md : Region.Mode) (ops : Array Oper) : Nat → Array Bool → List (List Nat)
  | 0, _ => [[]]
  | n + 1, listed => match Region.ready md ops listed with
    | [] => [[]]
    | r :: rs => (r :: rs).flatMap fun i => (ordersOf md ops n (listed.setIfInBounds i true)).map (i :: ·)
theorem go_orders (md : Region.Mode) (ops : Array Oper) : ∀ (n t : Nat) (listed : Array Bool) (acc : List Nat), ∃ l ∈ ordersOf md ops n listed, Region.linearise.go md ops n t listed acc = acc.reverse ++ l
  | 0, t, listed, acc => ⟨[], by simp [ordersOf], by simp [Region.linearise.go]⟩
  | n + 1, t, listed, acc => by
    simp only [Region.linearise.go, ordersOf]
    change ∃ l ∈ _, (match (Region.ready md ops listed)[t % (Region.ready md ops listed).length]? with
      | some i => Region.linearise.go md ops n (t / (Region.ready md ops listed).length) (listed.setIfInBounds i true) (i :: acc)
      | none => acc.reverse) = _
    cases hr : Region.ready md ops listed with
    | nil => exact ⟨[], by simp, by simp⟩
    | cons r rs =>
      have hlt : t % (r :: rs).length < (r :: rs).length := Nat.mod_lt _ (by simp)
      obtain ⟨i, hi⟩ : ∃ i, (r :: rs)[t % (r :: rs).length]? = some i := ⟨_, List.getElem?_eq_getElem hlt⟩
      have hmem : i ∈ r :: rs := List.mem_of_getElem? hi
      rw [hi]
      obtain ⟨l, h1, h2⟩ := go_orders md ops n (t / (r :: rs).length) (listed.setIfInBounds i true) (i :: acc)
      exact ⟨i :: l, List.mem_flatMap.2 ⟨i, hmem, List.mem_map.2 ⟨l, h1, rfl⟩⟩, by simpa using h2⟩
/-- Whatever is drawn, it is one of these. -/
theorem schedule_orders (ops : Array Oper) (t : Nat) : Region.schedule true ops t ∈ ordersOf .any ops ops.size (Array.replicate ops.size false) := by
  unfold Region.schedule
  simp only [Bool.true_or, if_true]
  obtain ⟨l, h1, h2⟩ := go_orders .any ops ops.size t (Array.replicate ops.size false) []
  unfold Region.linearise
  rw [h2]
  simpa using h1
end Go.Proofs.Ytgfgoflhmikalaa.par

namespace Go.Proofs.Ytgfgoflhmikalaa.par
open Go Go.Conc Go.RowKit Go.Conc.Lib Go.ConcR.Gen Go.ConcN.Gen
open Go.ConcR (rd wr mk DC0)
set_option linter.unusedVariables false
set_option linter.unusedSimpArgs false
set_option maxRecDepth 100000
section
variable {P : Program} {main : Bool} {I : World → Prop} {b : Frame} {k : List Item} {cs : List Frame} {S : Goroutine → World → Prop}
/-- At a mark. -/
def M3 (P : Program) (main : Bool) (I : World → Prop) (e : Event) (S : Goroutine → World → Prop) (g : Goroutine) (w : World) : Prop :=
  g.status = .running ∧ ∃ g', stepG P main g w = .go g' w #[e] ∧ ∃ m, GoD P main I DC0 S m g'
/-- At the swap; at an addition. -/
def MC (P : Program) (main : Bool) (I : World → Prop) (ad : Addr) (x y : Int) (S : Goroutine → World → Prop) (g : Goroutine) (w : World) : Prop :=
  g.status = .running ∧ (w.cell? ad = some (.int .i32 x) → w.frozen? ad = false → ∃ g', stepG P main g w = .go g' (w.setCell ad (.int .i32 y)) #[rd ad, wr ad] ∧ ∃ m, GoD P main I DC0 S m g')
noncomputable def bodyL : Code := Try.f91.body.getD .skip
noncomputable def opsL1 : Array Oper := match bodyL with | .seq _ (.seq (.seq (.region _ o _) _) _) => o | _ => #[]
noncomputable def restL1 : Code := match bodyL with | .seq _ (.seq (.seq _ c) _) => c | _ => .skip
noncomputable def restL2 : Code := match bodyL with | .seq _ (.seq _ c) => c | _ => .skip
theorem lock_in {T : Array Value} (hk : b.kind ≠ .early) (h : ∃ m, GoD Try.prog main I DC0 S m (G (b.at ⟨T.setIfInBounds 2 (.tuple #[]), []⟩ [.code (.seq (.seq (.region 1 opsL1 false) restL1) restL2)]) cs)) :
    GoD Try.prog main I DC0 (M3 Try.prog main I (mk .disable) S) 5 (G (b.at ⟨T, []⟩ [.code bodyL]) cs) := by
  have e : bodyL = .seq (.region 0 #[⟨some 2, .call { callee := .value (.func 55), args := #[], argTypes := #[] }, 0, "mutex.go:62", #[], none⟩] false) (.seq (.seq (.region 1 opsL1 false) restL1) restL2) := by kernel_rfl
  rw [e]
  apply gi_seq
  apply gi_region
  obtain ⟨m, hm⟩ := h
  refine GoD.halt fun w _ => ⟨rfl, _, stepG_mark0 .disable (by simp) rfl rfl hk rfl wgLib.f_disable (x_disable_n link) (x_disable_b link) (x_disable_x link) (x_disable_f link), m + 1, ?_⟩
  exact gi_regend hm
theorem set_get {T : Array Value} {i j : Nat} {v : Value} (h : j < T.size) : (T.setIfInBounds i v)[j]?.getD undef = if i = j then v else T[j]?.getD undef := by
  by_cases e : i = j
  · subst e; simp [Array.getElem?_setIfInBounds, h]
  · rw [Array.getElem?_setIfInBounds_ne e, if_neg e]
theorem lock_swap {I' : World → Prop} {T : Array Value} {ad : Addr} (hk : b.kind ≠ .early) (hT : 13 ≤ T.size) (h0 : T[0]?.getD undef = .pointer (some ad))
    (h : ∀ T' : Array Value, 13 ≤ T'.size → T'[0]?.getD undef = .pointer (some ad) → T'[6]?.getD undef = .bool true → ∃ m, GoD Try.prog main I' DC0 S m (G (b.at ⟨T', []⟩ [.code restL1, .code restL2]) cs)) :
    GoD Try.prog main I DC0 (MC Try.prog main I' ad 0 1 S) 10 (G (b.at ⟨T, []⟩ [.code (.seq (.seq (.region 1 opsL1 false) restL1) restL2)]) cs) := by
  have e0 : opsL1[0]? = some ⟨some 3, .move (.tmp 0), 144, "mutex.go:64", #[], none⟩ := by kernel_rfl
  have e1 : opsL1[1]? = some ⟨some 4, .nilCheck (.tmp 3), 0, "mutex.go:64", #[⟨0, .data⟩], none⟩ := by kernel_rfl
  have e2 : opsL1[2]? = some ⟨some 5, .fieldAddr 101 (.tmp 4) 0, 0, "mutex.go:64", #[⟨1, .data⟩], none⟩ := by kernel_rfl
  have e3 : opsL1[3]? = some ⟨some 6, .call { callee := .value (.func 95), args := #[.tmp 5, .const (.int .i32 0), .const (.int .i32 1)], argTypes := #[146, 21, 21] }, 4, "mutex.go:64", #[⟨2, .data⟩], none⟩ := by kernel_rfl
  have es : List.range opsL1.size = [0, 1, 2, 3] := by kernel_rfl
  have ha : ad.add 0 = ad := by unfold Addr.add; simp
  apply gi_seq
  apply gi_seq
  apply gi_region
  rw [es]
  refine gi_value (v := .pointer (some ad)) e0 rfl hk (fun w _ => by simp [execOp, Act.eval, h0]) (fun w _ => by simp [execOp, Act.eval, h0, go_sem]) ?_
  have g3 : (T.setIfInBounds 3 (.pointer (some ad)))[3]?.getD undef = .pointer (some ad) := by rw [set_get (by omega)]; rfl
  refine gi_value (v := .pointer (some ad)) e1 rfl hk (fun w _ => by simp [execOp, Act.eval, Act.put, g3]) (fun w _ => by simp [execOp, Act.eval, Act.put, g3, go_sem]) ?_
  have g4 : ((T.setIfInBounds 3 (.pointer (some ad))).setIfInBounds 4 (.pointer (some ad)))[4]?.getD undef = .pointer (some ad) := by rw [set_get (by simp; omega)]; rfl
  refine gi_value (v := .pointer (some ad)) e2 rfl hk (fun w _ => by simp [execOp, Act.eval, Act.put, g4, Instr.fieldAt, Instr.sureAddr, go_sem, ha]) (fun w _ => by simp [execOp, Act.eval, Act.put, g4, Instr.fieldAt, Instr.sureAddr, go_sem, ha]) ?_
  refine GoD.halt fun w _ => ⟨rfl, fun hc hz => ?_⟩
  obtain ⟨m, hm⟩ := h (((((T.setIfInBounds 3 (.pointer (some ad))).setIfInBounds 4 (.pointer (some ad))).setIfInBounds 5 (.pointer (some ad))).setIfInBounds 6 (.bool true))) (by simpa using hT) (by rw [set_get (by simp; omega), set_get (by simp; omega), set_get (by simp; omega), set_get (by omega)]; exact h0) (by rw [set_get (by simp; omega)]; rfl)
  refine ⟨_, (stepG_cas_hit (v := 0) (n := 1) e3 rfl hk rfl Try.func95 (by kernel_rfl) (by kernel_rfl) (by kernel_rfl) .i32 (by kernel_rfl) ?_ rfl rfl hc hz).trans rfl, m + 1, gi_regend hm⟩
  simp only [Act.eval, Act.put]
  rw [Array.getD_eq_getD_getElem?, set_get (by simp; omega)]
  rfl
/-- On its way out. -/
def AtOut (b : Frame) (cs : List Frame) (g : Goroutine) : Prop := ∃ T' todo, g = G { b.at ⟨T', []⟩ todo with mode := .returning } cs
noncomputable def opsL3 : Array Oper := match restL1 with | .cond _ (.seq (.cond _ (.seq _ (.region _ o _)) _) _) _ => o | _ => #[]
theorem lock_out {T : Array Value} {ad : Addr} (hk : b.kind ≠ .early) (hI : ∀ w, I w → ∃ v, w.cell? ad = some v) (hT : 13 ≤ T.size) (h0 : T[0]?.getD undef = .pointer (some ad)) (h6 : T[6]?.getD undef = .bool true) :
    GoD Try.prog main I DC0 (M3 Try.prog main I (mk .enable) (M3 Try.prog main I (mk (.acquire ad)) (fun g _ => AtOut b cs g))) 10 (G (b.at ⟨T, []⟩ [.code restL1, .code restL2]) cs) := by
  have e : restL1 = .cond (.tmp 6) (.seq (.cond (.const (.bool true)) (.seq (.region 2 #[⟨some 7, .call { callee := .value (.func 56), args := #[], argTypes := #[] }, 0, "mutex.go:66", #[], none⟩] false) (.region 3 opsL3 false)) .skip) .ret) .skip := by kernel_rfl
  have e0 : opsL3[0]? = some ⟨some 8, .move (.tmp 0), 144, "mutex.go:66", #[], none⟩ := by kernel_rfl
  have e1 : opsL3[1]? = some ⟨some 9, .convert 144 93 (.tmp 8), 93, "mutex.go:66", #[⟨0, .data⟩], none⟩ := by kernel_rfl
  have e2 : opsL3[2]? = some ⟨some 10, .call { callee := .value (.func 68), args := #[.tmp 9], argTypes := #[93] }, 0, "mutex.go:66", #[⟨1, .data⟩], none⟩ := by kernel_rfl
  have es : List.range opsL3.size = [0, 1, 2] := by kernel_rfl
  rw [e]
  refine gi_cod (t := true) (by simp [Act.eval, h6]) ?_
  rw [if_pos rfl]
  apply gi_seq
  refine gi_cod (t := true) rfl ?_
  rw [if_pos rfl]
  apply gi_seq
  apply gi_region
  refine GoD.halt fun w _ => ⟨rfl, _, stepG_mark0 .enable (by simp) rfl rfl hk rfl wgLib.f_enable (x_enable_n link) (x_enable_b link) (x_enable_x link) (x_enable_f link), 10, ?_⟩
  apply gi_regend
  apply gi_region
  rw [es]
  have g0 : (T.setIfInBounds 7 (.tuple #[]))[0]?.getD undef = .pointer (some ad) := by rw [set_get (by omega)]; exact h0
  refine gi_value (v := .pointer (some ad)) e0 rfl hk (fun w _ => by simp [execOp, Act.eval, Act.put, h0]) (fun w _ => by simp [execOp, Act.eval, Act.put, h0, go_sem]) ?_
  have g8 : ((T.setIfInBounds 7 (.tuple #[])).setIfInBounds 8 (.pointer (some ad)))[8]?.getD undef = .pointer (some ad) := by rw [set_get (by simp; omega)]; rfl
  refine gi_conv (t := 101) Try.underlying144 Try.underlying93 (by kernel_rfl) hI e1 rfl hk rfl (by simpa [Act.eval, Act.put] using g8) ?_
  have g9 : (((T.setIfInBounds 7 (.tuple #[])).setIfInBounds 8 (.pointer (some ad))).setIfInBounds 9 (.pointer (some ad)))[9]?.getD undef = .pointer (some ad) := by rw [set_get (by simp; omega)]; rfl
  refine GoD.halt fun w _ => ⟨rfl, _, stepG_markAt .acquire (by simp) e2 rfl hk rfl wgLib.f_acquire (x_acquire_n link) (x_acquire_b link) (x_acquire_x link) (x_acquire_f link) (ad := ad) (by simpa [Act.eval, Act.put] using g9), 5, ?_⟩
  apply gi_regend
  apply gi_ret
  exact GoD.halt fun w _ => ⟨_, _, rfl⟩
noncomputable def bodyU : Code := Try.f92.body.getD .skip
noncomputable def opsU0 : Array Oper := match bodyU with | .seq (.cond _ (.seq (.region _ o _) _) _) _ => o | _ => #[]
noncomputable def opsU1 : Array Oper := match bodyU with | .seq (.cond _ (.seq _ (.seq (.region _ o _) _)) _) _ => o | _ => #[]
noncomputable def opsU3 : Array Oper := match bodyU with | .seq _ (.seq (.region _ o _) _) => o | _ => #[]
noncomputable def opsU4 : Array Oper := match bodyU with | .seq _ (.seq _ (.seq (.seq (.region _ o _) _) _)) => o | _ => #[]
noncomputable def wrongU : Code := match bodyU with | .seq _ (.seq _ (.seq (.seq _ (.cond _ c _)) _)) => c | _ => .skip
theorem bodyU_eq : bodyU = .seq (.cond (.const (.bool true)) (.seq (.region 0 opsU0 false) (.seq (.region 1 opsU1 false) (.region 2 #[⟨some 10, .call { callee := .value (.func 55), args := #[], argTypes := #[] }, 0, "mutex.go:195", #[], none⟩] false))) .skip)
    (.seq (.region 3 opsU3 false) (.seq (.seq (.region 4 opsU4 false) (.cond (.tmp 16) wrongU .skip)) (.region 6 #[⟨some 20, .call { callee := .value (.func 56), args := #[], argTypes := #[] }, 0, "mutex.go:205", #[], none⟩] false))) := by kernel_rfl
theorem quietU (hb : b.fn = 92) (ad : Addr) : seen Try.prog b.fn #[⟨.cell ad, false, false⟩] = #[] := by
  rw [hb]
  unfold seen
  simp [Try.func92, Try.f92]
theorem unlock_in {T : Array Value} {ad : Addr} (hb : b.fn = 92) (hk : b.kind ≠ .early) (hI : ∀ w, I w → w.cell? ad = some (.int .i32 1)) (hT : 21 ≤ T.size) (h0 : T[0]?.getD undef = .pointer (some ad))
    (h : ∀ T' : Array Value, 21 ≤ T'.size → T'[0]?.getD undef = .pointer (some ad) → ∃ m, GoD Try.prog main I DC0 S m (G (b.at ⟨T', []⟩ [.code (.seq (.region 3 opsU3 false) (.seq (.seq (.region 4 opsU4 false) (.cond (.tmp 16) wrongU .skip)) (.region 6 #[⟨some 20, .call { callee := .value (.func 56), args := #[], argTypes := #[] }, 0, "mutex.go:205", #[], none⟩] false)))]) cs)) :
    GoD Try.prog main I DC0 (M3 Try.prog main I (mk (.releaseMerge ad)) (M3 Try.prog main I (mk .disable) S)) 20 (G (b.at ⟨T, []⟩ [.code bodyU]) cs) := by
  have e0 : opsU0[0]? = some ⟨some 3, .move (.tmp 0), 144, "mutex.go:193", #[], none⟩ := by kernel_rfl
  have e1 : opsU0[1]? = some ⟨some 4, .nilCheck (.tmp 3), 0, "mutex.go:193", #[⟨0, .data⟩], none⟩ := by kernel_rfl
  have e2 : opsU0[2]? = some ⟨some 5, .fieldAddr 101 (.tmp 4) 0, 0, "mutex.go:193", #[⟨1, .data⟩], none⟩ := by kernel_rfl
  have e3 : opsU0[3]? = some ⟨some 6, .load 21 (.tmp 5), 21, "mutex.go:193", #[⟨2, .data⟩], none⟩ := by kernel_rfl
  have es : List.range opsU0.size = [0, 1, 2, 3] := by kernel_rfl
  have f0 : opsU1[0]? = some ⟨some 7, .move (.tmp 0), 144, "mutex.go:194", #[], none⟩ := by kernel_rfl
  have f1 : opsU1[1]? = some ⟨some 8, .convert 144 93 (.tmp 7), 93, "mutex.go:194", #[⟨0, .data⟩], none⟩ := by kernel_rfl
  have f2 : opsU1[2]? = some ⟨some 9, .call { callee := .value (.func 54), args := #[.tmp 8], argTypes := #[93] }, 0, "mutex.go:194", #[⟨1, .data⟩], none⟩ := by kernel_rfl
  have fs : List.range opsU1.size = [0, 1, 2] := by kernel_rfl
  have ha : ad.add 0 = ad := by unfold Addr.add; simp
  rw [bodyU_eq]
  apply gi_seq
  refine gi_cod (t := true) rfl ?_
  rw [if_pos rfl]
  apply gi_seq
  apply gi_region
  rw [es]
  refine gi_value (v := .pointer (some ad)) e0 rfl hk (fun w _ => by simp [execOp, Act.eval, h0]) (fun w _ => by simp [execOp, Act.eval, h0, go_sem]) ?_
  show GoD _ _ _ _ _ _ (G (b.at ⟨T.setIfInBounds 3 (.pointer (some ad)), []⟩ _) _)
  have s1 : 21 ≤ (T.setIfInBounds 3 (.pointer (some ad))).size := by simpa using hT
  have z1 : (T.setIfInBounds 3 (.pointer (some ad)))[0]?.getD undef = .pointer (some ad) := by rw [set_get (by omega)]; exact h0
  have g1 : (T.setIfInBounds 3 (.pointer (some ad)))[3]?.getD undef = .pointer (some ad) := by rw [set_get (by omega)]; rfl
  generalize T.setIfInBounds 3 (.pointer (some ad)) = T1 at s1 z1 g1 ⊢
  refine gi_value (v := .pointer (some ad)) e1 rfl hk (fun w _ => by simp [execOp, Act.eval, g1]) (fun w _ => by simp [execOp, Act.eval, g1, go_sem]) ?_
  show GoD _ _ _ _ _ _ (G (b.at ⟨T1.setIfInBounds 4 (.pointer (some ad)), []⟩ _) _)
  have s2 : 21 ≤ (T1.setIfInBounds 4 (.pointer (some ad))).size := by simpa using s1
  have z2 : (T1.setIfInBounds 4 (.pointer (some ad)))[0]?.getD undef = .pointer (some ad) := by rw [set_get (by omega)]; exact z1
  have g2 : (T1.setIfInBounds 4 (.pointer (some ad)))[4]?.getD undef = .pointer (some ad) := by rw [set_get (by omega)]; rfl
  generalize T1.setIfInBounds 4 (.pointer (some ad)) = T2 at s2 z2 g2 ⊢
  refine gi_value (v := .pointer (some ad)) e2 rfl hk (fun w _ => by simp [execOp, Act.eval, g2, Instr.fieldAt, Instr.sureAddr, go_sem, ha]) (fun w _ => by simp [execOp, Act.eval, g2, Instr.fieldAt, Instr.sureAddr, go_sem, ha]) ?_
  show GoD _ _ _ _ _ _ (G (b.at ⟨T2.setIfInBounds 5 (.pointer (some ad)), []⟩ _) _)
  have s3 : 21 ≤ (T2.setIfInBounds 5 (.pointer (some ad))).size := by simpa using s2
  have z3 : (T2.setIfInBounds 5 (.pointer (some ad)))[0]?.getD undef = .pointer (some ad) := by rw [set_get (by omega)]; exact z2
  have g3 : (T2.setIfInBounds 5 (.pointer (some ad)))[5]?.getD undef = .pointer (some ad) := by rw [set_get (by omega)]; rfl
  generalize T2.setIfInBounds 5 (.pointer (some ad)) = T3 at s3 z3 g3 ⊢
  refine gi_look (v := .int .i32 1) e3 rfl hk (fun w hw => by simp [execOp, Act.eval, g3, Instr.loadAt, Instr.sureAddr, go_sem, hI w hw]) (fun w hw => by
    simp [execOp, Act.eval, g3, Instr.loadAt, Instr.sureAddr, go_sem, hI w hw]
    exact ⟨rfl, quietU hb _⟩) ?_
  show GoD _ _ _ _ _ _ (G (b.at ⟨T3.setIfInBounds 6 (.int .i32 1), []⟩ _) _)
  have s4 : 21 ≤ (T3.setIfInBounds 6 (.int .i32 1)).size := by simpa using s3
  have z4 : (T3.setIfInBounds 6 (.int .i32 1))[0]?.getD undef = .pointer (some ad) := by rw [set_get (by omega)]; exact z3
  generalize T3.setIfInBounds 6 (.int .i32 1) = T4 at s4 z4 ⊢
  apply gi_regend
  apply gi_seq
  apply gi_region
  rw [fs]
  refine gi_value (v := .pointer (some ad)) f0 rfl hk (fun w _ => by simp [execOp, Act.eval, z4]) (fun w _ => by simp [execOp, Act.eval, z4, go_sem]) ?_
  show GoD _ _ _ _ _ _ (G (b.at ⟨T4.setIfInBounds 7 (.pointer (some ad)), []⟩ _) _)
  have s5 : 21 ≤ (T4.setIfInBounds 7 (.pointer (some ad))).size := by simpa using s4
  have z5 : (T4.setIfInBounds 7 (.pointer (some ad)))[0]?.getD undef = .pointer (some ad) := by rw [set_get (by omega)]; exact z4
  have g5 : (T4.setIfInBounds 7 (.pointer (some ad)))[7]?.getD undef = .pointer (some ad) := by rw [set_get (by omega)]; rfl
  generalize T4.setIfInBounds 7 (.pointer (some ad)) = T5 at s5 z5 g5 ⊢
  refine gi_conv (t := 101) Try.underlying144 Try.underlying93 (by kernel_rfl) (fun w hw => ⟨_, hI w hw⟩) f1 rfl hk rfl (by simpa [Act.eval] using g5) ?_
  show GoD _ _ _ _ _ _ (G (b.at ⟨T5.setIfInBounds 8 (.pointer (some ad)), []⟩ _) _)
  have s6 : 21 ≤ (T5.setIfInBounds 8 (.pointer (some ad))).size := by simpa using s5
  have z6 : (T5.setIfInBounds 8 (.pointer (some ad)))[0]?.getD undef = .pointer (some ad) := by rw [set_get (by omega)]; exact z5
  have g6 : (T5.setIfInBounds 8 (.pointer (some ad)))[8]?.getD undef = .pointer (some ad) := by rw [set_get (by omega)]; rfl
  generalize T5.setIfInBounds 8 (.pointer (some ad)) = T6 at s6 z6 g6 ⊢
  refine GoD.halt fun w _ => ⟨rfl, _, stepG_markAt .releaseMerge (by simp) f2 rfl hk rfl wgLib.f_relMerge (x_relMerge_n link) (x_relMerge_b link) (x_relMerge_x link) (x_relMerge_f link) (ad := ad) (by simpa [Act.eval] using g6), 5, ?_⟩
  apply gi_regend
  apply gi_region
  obtain ⟨m, hm⟩ := h ((T6.setIfInBounds 9 (.tuple #[])).setIfInBounds 10 (.tuple #[])) (by simpa using s6) (by rw [set_get (by simp; omega), set_get (by omega)]; exact z6)
  refine GoD.halt fun w _ => ⟨rfl, _, stepG_mark0 .disable (by simp) rfl rfl hk rfl wgLib.f_disable (x_disable_n link) (x_disable_b link) (x_disable_x link) (x_disable_f link), m + 1, ?_⟩
  exact gi_regend hm
theorem unlock_add {I' : World → Prop} {T : Array Value} {ad : Addr} (hk : b.kind ≠ .early) (hT : 21 ≤ T.size) (h0 : T[0]?.getD undef = .pointer (some ad)) :
    GoD Try.prog main I DC0 (MC Try.prog main I' ad 1 0 (M3 Try.prog main I' (mk .enable) (fun g _ => AtOut b cs g))) 10 (G (b.at ⟨T, []⟩ [.code (.seq (.region 3 opsU3 false) (.seq (.seq (.region 4 opsU4 false) (.cond (.tmp 16) wrongU .skip)) (.region 6 #[⟨some 20, .call { callee := .value (.func 56), args := #[], argTypes := #[] }, 0, "mutex.go:205", #[], none⟩] false)))]) cs) := by
  have e0 : opsU3[0]? = some ⟨some 11, .move (.tmp 0), 144, "mutex.go:199", #[], none⟩ := by kernel_rfl
  have e1 : opsU3[1]? = some ⟨some 12, .nilCheck (.tmp 11), 0, "mutex.go:199", #[⟨0, .data⟩], none⟩ := by kernel_rfl
  have e2 : opsU3[2]? = some ⟨some 13, .fieldAddr 101 (.tmp 12) 0, 0, "mutex.go:199", #[⟨1, .data⟩], none⟩ := by kernel_rfl
  have e3 : opsU3[3]? = some ⟨some 14, .call { callee := .value (.func 97), args := #[.tmp 13, .const (.int .i32 (-1))], argTypes := #[146, 21] }, 21, "mutex.go:199", #[⟨2, .data⟩], none⟩ := by kernel_rfl
  have e4 : opsU3[4]? = some ⟨some 2, .assign (.tmp 14), 21, "mutex.go:199", #[⟨3, .data⟩, ⟨3, .chain⟩, ⟨0, .phase⟩, ⟨1, .phase⟩, ⟨2, .phase⟩, ⟨3, .phase⟩], none⟩ := by kernel_rfl
  have es : List.range opsU3.size = [0, 1, 2, 3, 4] := by kernel_rfl
  have f0 : opsU4[0]? = some ⟨some 15, .move (.tmp 2), 21, "mutex.go:200", #[], none⟩ := by kernel_rfl
  have f1 : opsU4[1]? = some ⟨some 16, .binOp .neq 21 (.tmp 15) (.const (.int .i32 0)) 21, 4, "mutex.go:200", #[⟨0, .data⟩], none⟩ := by kernel_rfl
  have fs : List.range opsU4.size = [0, 1] := by kernel_rfl
  have ha : ad.add 0 = ad := by unfold Addr.add; simp
  apply gi_seq
  apply gi_region
  rw [es]
  refine gi_value (v := .pointer (some ad)) e0 rfl hk (fun w _ => by simp [execOp, Act.eval, h0]) (fun w _ => by simp [execOp, Act.eval, h0, go_sem]) ?_
  show GoD _ _ _ _ _ _ (G (b.at ⟨T.setIfInBounds 11 (.pointer (some ad)), []⟩ _) _)
  have s1 : 21 ≤ (T.setIfInBounds 11 (.pointer (some ad))).size := by simpa using hT
  have g1 : (T.setIfInBounds 11 (.pointer (some ad)))[11]?.getD undef = .pointer (some ad) := by rw [set_get (by omega)]; rfl
  generalize T.setIfInBounds 11 (.pointer (some ad)) = T1 at s1 g1 ⊢
  refine gi_value (v := .pointer (some ad)) e1 rfl hk (fun w _ => by simp [execOp, Act.eval, g1]) (fun w _ => by simp [execOp, Act.eval, g1, go_sem]) ?_
  show GoD _ _ _ _ _ _ (G (b.at ⟨T1.setIfInBounds 12 (.pointer (some ad)), []⟩ _) _)
  have s2 : 21 ≤ (T1.setIfInBounds 12 (.pointer (some ad))).size := by simpa using s1
  have g2 : (T1.setIfInBounds 12 (.pointer (some ad)))[12]?.getD undef = .pointer (some ad) := by rw [set_get (by omega)]; rfl
  generalize T1.setIfInBounds 12 (.pointer (some ad)) = T2 at s2 g2 ⊢
  refine gi_value (v := .pointer (some ad)) e2 rfl hk (fun w _ => by simp [execOp, Act.eval, g2, Instr.fieldAt, Instr.sureAddr, go_sem, ha]) (fun w _ => by simp [execOp, Act.eval, g2, Instr.fieldAt, Instr.sureAddr, go_sem, ha]) ?_
  show GoD _ _ _ _ _ _ (G (b.at ⟨T2.setIfInBounds 13 (.pointer (some ad)), []⟩ _) _)
  have s3 : 21 ≤ (T2.setIfInBounds 13 (.pointer (some ad))).size := by simpa using s2
  have g3 : (T2.setIfInBounds 13 (.pointer (some ad)))[13]?.getD undef = .pointer (some ad) := by rw [set_get (by omega)]; rfl
  generalize T2.setIfInBounds 13 (.pointer (some ad)) = T3 at s3 g3 ⊢
  have ew : IntKind.i32.wrap (1 + -1) = 0 := by decide
  refine GoD.halt fun w _ => ⟨rfl, fun hc hz => ⟨_, (stepG_add_atomic e3 rfl hk rfl Try.func97 (by kernel_rfl) (by kernel_rfl) (by kernel_rfl) .i32 (by kernel_rfl) (by rw [← g3]; simp [Act.eval]) rfl hc hz).trans (by rw [ew]; rfl), 20, ?_⟩⟩
  show GoD _ _ _ _ _ _ (G (b.at ⟨T3.setIfInBounds 14 (.int .i32 0), []⟩ _) _)
  have s4 : 21 ≤ (T3.setIfInBounds 14 (.int .i32 0)).size := by simpa using s3
  have g4 : (T3.setIfInBounds 14 (.int .i32 0))[14]?.getD undef = .int .i32 0 := by rw [set_get (by omega)]; rfl
  generalize T3.setIfInBounds 14 (.int .i32 0) = T4 at s4 g4 ⊢
  refine gi_value (v := .int .i32 0) e4 rfl hk (fun w _ => by simp [execOp, Act.eval, g4]) (fun w _ => by simp [execOp, Act.eval, g4, go_sem]) ?_
  show GoD _ _ _ _ _ _ (G (b.at ⟨T4.setIfInBounds 2 (.int .i32 0), []⟩ _) _)
  have s5 : 21 ≤ (T4.setIfInBounds 2 (.int .i32 0)).size := by simpa using s4
  have g5 : (T4.setIfInBounds 2 (.int .i32 0))[2]?.getD undef = .int .i32 0 := by rw [set_get (by omega)]; rfl
  generalize T4.setIfInBounds 2 (.int .i32 0) = T5 at s5 g5 ⊢
  apply gi_regend
  apply gi_seq
  apply gi_seq
  apply gi_region
  rw [fs]
  refine gi_value (v := .int .i32 0) f0 rfl hk (fun w _ => by simp [execOp, Act.eval, g5]) (fun w _ => by simp [execOp, Act.eval, g5, go_sem]) ?_
  show GoD _ _ _ _ _ _ (G (b.at ⟨T5.setIfInBounds 15 (.int .i32 0), []⟩ _) _)
  have s6 : 21 ≤ (T5.setIfInBounds 15 (.int .i32 0)).size := by simpa using s5
  have g6 : (T5.setIfInBounds 15 (.int .i32 0))[15]?.getD undef = .int .i32 0 := by rw [set_get (by omega)]; rfl
  generalize T5.setIfInBounds 15 (.int .i32 0) = T6 at s6 g6 ⊢
  refine gi_value (v := .bool false) f1 rfl hk (fun w _ => by simp [execOp, Act.eval, g6, go_sem]) (fun w _ => by simp [execOp, Act.eval, g6, go_sem]) ?_
  show GoD _ _ _ _ _ _ (G (b.at ⟨T6.setIfInBounds 16 (.bool false), []⟩ _) _)
  have g7 : (T6.setIfInBounds 16 (.bool false))[16]?.getD undef = .bool false := by rw [set_get (by omega)]; rfl
  generalize T6.setIfInBounds 16 (.bool false) = T7 at g7 ⊢
  apply gi_regend
  refine gi_cod (t := false) (by simp [Act.eval, g7]) ?_
  rw [if_neg (by simp)]
  apply gi_codeskip
  apply gi_region
  refine GoD.halt fun w _ => ⟨rfl, _, stepG_mark0 .enable (by simp) rfl rfl hk rfl wgLib.f_enable (x_enable_n link) (x_enable_b link) (x_enable_x link) (x_enable_f link), 5, ?_⟩
  apply gi_regend
  apply gi_ended
  exact GoD.halt fun w _ => ⟨_, _, rfl⟩
end
end Go.Proofs.Ytgfgoflhmikalaa.par
