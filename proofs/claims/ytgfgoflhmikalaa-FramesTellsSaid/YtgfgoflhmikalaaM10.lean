/- Part 10 of what the proofs stand on: lemmas on worlds, on goroutines, contracts of functions. No conditions. -/
import Derived.Test.YtgfgoflhmikalaaM09
import Derived.Conc.Deaf
import Derived.Conc.QuitsD
import Derived.Conc.Beside
namespace Go.Proofs.Ytgfgoflhmikalaa.par
open Go Go.Conc
set_option linter.unusedVariables false
set_option linter.unusedSimpArgs false
section
variable {σ : Nat → Nat} {D : Nat → Prop} {T : Tables} {Sp : FuncId → Prop} {F' F : Array Func}
/-- A world of no blocks. -/
def E0 : World := { (default : World) with heap := #[] }
theorem Sit.tape {W0 u w : World} (h : Sit σ D T W0 u w) (τ τ' : Nat → Question → Nat) : Sit σ D T W0 (tp u τ) (tp w τ') := ⟨⟨h.wr.obj, h.wr.fut, h.wr.low, h.wr.orig⟩, h.inj, h.glob, h.bound, h.gu, h.gw⟩
end
/-! ### The tree -/
/-- A step of the lone goroutine, the tape laid open. -/
def GoT (P : Program) (tl : List Frame) (fr : Frame) (cs : List Frame) (u : World) (τ : Nat → Question → Nat) (fr2 : Frame) (cs2 : List Frame) (u2 : World) : Prop :=
  u.drawn ≤ u2.drawn ∧ ∃ es, ∀ τ', Agree τ' τ u.drawn u2.drawn → stepG P true (G fr (cs ++ tl)) (tp u τ') = .go (G fr2 (cs2 ++ tl)) (tp u2 τ') es
/-- It stands at its own end. -/
def AtEndL (fr : Frame) (cs : List Frame) : Prop := cs = [] ∧ fr.mode ≠ .run ∧ fr.defers = []
/-- It comes to its return, whatever is answered. -/
inductive LT (P : Program) (tl : List Frame) (R : FuncId → Value → World → Prop) : Frame → List Frame → World → Prop
  | stop {fr : Frame} {u : World} {v : Value} {τ : Nat → Question → Nat} (hl : fr.leaving P (tp u τ) (.returned v)) (hr : R fr.fn v (tp u τ)) : LT P tl R fr [] u
  | step {fr : Frame} {cs : List Frame} {u : World} (hn : ¬ AtEndL fr cs) (f : (Nat → Question → Nat) → Frame) (c : (Nat → Question → Nat) → List Frame) (v : (Nat → Question → Nat) → World) (h : ∀ τ, GoT P tl fr cs u τ (f τ) (c τ) (v τ)) (ih : ∀ τ, LT P tl R (f τ) (c τ) (v τ)) : LT P tl R fr cs u
theorem LT.mk {P : Program} {tl : List Frame} {R : FuncId → Value → World → Prop} {fr : Frame} {cs : List Frame} {u : World} (hn : ¬ AtEndL fr cs) (h : ∀ τ, ∃ fr2 cs2 u2, GoT P tl fr cs u τ fr2 cs2 u2 ∧ LT P tl R fr2 cs2 u2) : LT P tl R fr cs u :=
  .step hn (fun τ => (h τ).choose) (fun τ => (h τ).choose_spec.choose) (fun τ => (h τ).choose_spec.choose_spec.choose) (fun τ => (h τ).choose_spec.choose_spec.choose_spec.1) (fun τ => (h τ).choose_spec.choose_spec.choose_spec.2)
/-- A lone frame that is in order: it has a fellow. -/
def Wf (T : Tables) (F' : Array Func) (fr : Frame) (cs : List Frame) (u : World) : Prop :=
  ∃ σ D W0 fr2 cs2 w, Sit σ D T W0 u w ∧ FrR σ D T (fun _ => False) F' F' fr fr2 ∧ LR (FrR σ D T (fun _ => False) F' F') cs cs2
section
variable {T : Tables} {F' : Array Func}
theorem wf_step (hz : ZP T) (hB : BodR T (fun _ => False) F' F') (tl : List Frame) {fr : Frame} {cs : List Frame} {u : World} (hw : Wf T F' fr cs u) (hn : ¬ AtEndL fr cs) (τ : Nat → Question → Nat) :
    (∃ fr2 cs2 u2, GoT ⟨T, F'⟩ tl fr cs u τ fr2 cs2 u2 ∧ Wf T F' fr2 cs2 u2) ∨ ∃ o u1 es, stepG ⟨T, F'⟩ true (G fr (cs ++ tl)) (tp u τ) = .ended o u1 es := by
  obtain ⟨σ, D, W0, frx, csx, w, hs, hf, hc⟩ := hw
  let τw : Nat → Question → Nat := fun j => τ (j - w.drawn + u.drawn)
  have hy : Sync (tp u τ) (tp w τw) := fun i => by
    show τ (u.drawn + i) = τ (w.drawn + i - w.drawn + u.drawn)
    rw [show w.drawn + i - w.drawn + u.drawn = u.drawn + i by omega]
  have := step_out (tl := tl) (tail := []) hz hB (hs.tape τ τw) hy hf hc true hn
  generalize hx : stepG (⟨T, F'⟩ : Program) true (G frx (csx ++ [])) (tp w τw) = s at this
  cases this with
  | bad h => exact .inr ⟨_, _, _, h⟩
  | special hs => exact hs.elim
  | @go fr1' fr1 cs1' cs1 u1 w1 es' es σ1 D1 hL hf1 hc1 hm =>
    have hd : u.drawn ≤ u1.drawn := hm.turned.lone.drawn
    exact .inl ⟨fr1', cs1', u1, ⟨hd, es', fun τ' h' => hL τ' h'⟩, σ1, D1, W0, fr1, cs1, w1, hm.sit, hf1, hc1⟩
end
/-! ### One tape out of many -/
/-- Tapes laid end to end. -/
noncomputable def joinT (B : Nat → Prop) (d : Nat → Nat) (τ : Nat → Nat → Question → Nat) (τe : Nat → Question → Nat) : Nat → Question → Nat := by
  classical
  exact fun j => if h : ∃ i, B i ∧ d i ≤ j ∧ j < d (i + 1) then τ h.choose j else τe j
theorem joinT_at {B : Nat → Prop} {d : Nat → Nat} {τ : Nat → Nat → Question → Nat} {τe : Nat → Question → Nat} (hB : ∀ i, B (i + 1) → B i) (hd : ∀ i, B i → d i ≤ d (i + 1)) {i : Nat} (hi : B i) : Agree (joinT B d τ τe) (τ i) (d i) (d (i + 1)) := by
  intro j h1 h2
  have hdown : ∀ k n, B (k + n) → B k := by
    intro k n
    induction n with
    | zero => exact id
    | succ n ih => exact fun h => ih (hB _ h)
  have mono : ∀ k n, B (k + n) → d k ≤ d (k + n) := by
    intro k n
    induction n with
    | zero => intro _; exact Nat.le_refl _
    | succ n ih => intro h; exact Nat.le_trans (ih (hB _ h)) (hd _ (hB _ h))
  have ex : ∃ i, B i ∧ d i ≤ j ∧ j < d (i + 1) := ⟨i, hi, h1, h2⟩
  have e : joinT B d τ τe j = τ ex.choose j := by
    unfold joinT
    rw [dif_pos ex]
  rw [e]
  obtain ⟨g1, g2, g3⟩ := ex.choose_spec
  have : ex.choose = i := by
    rcases Nat.lt_trichotomy ex.choose i with hlt | heq | hgt
    · have := mono (ex.choose + 1) (i - (ex.choose + 1)) (by rw [show ex.choose + 1 + (i - (ex.choose + 1)) = i by omega]; exact hi)
      rw [show ex.choose + 1 + (i - (ex.choose + 1)) = i by omega] at this
      omega
    · exact heq
    · have := mono (i + 1) (ex.choose - (i + 1)) (by rw [show i + 1 + (ex.choose - (i + 1)) = ex.choose by omega]; exact g1)
      rw [show i + 1 + (ex.choose - (i + 1)) = ex.choose by omega] at this
      omega
  rw [this]
section
variable {P : Program}
/-- The lone machine follows a chain of steps. -/
theorem run_chain {B : Nat → Prop} (hB : ∀ i, B (i + 1) → B i) {fr : Nat → Frame} {cs : Nat → List Frame} {u : Nat → World} {τ : Nat → Nat → Question → Nat} {tl : List Frame} (hg : ∀ i, B i → GoT P tl (fr i) (cs i) (u i) (τ i) (fr (i + 1)) (cs (i + 1)) (u (i + 1))) (τe : Nat → Question → Nat) :
    ∀ n, (∀ i, i < n → B i) → runN P n (lone (fr 0) (cs 0 ++ tl) (tp (u 0) (joinT B (fun i => (u i).drawn) τ τe))) = .next (lone (fr n) (cs n ++ tl) (tp (u n) (joinT B (fun i => (u i).drawn) τ τe))) := by
  intro n
  induction n with
  | zero => intro _; rfl
  | succ n ih =>
    intro h
    rw [runN_add, ih (fun i hi => h i (by omega))]
    have hn := h n (by omega)
    obtain ⟨hd, es, hs⟩ := hg n hn
    have hst := hs (joinT B (fun i => (u i).drawn) τ τe) (joinT_at (d := fun i => (u i).drawn) hB (fun i hi => (hg i hi).1) hn)
    have := step_lone_go (P := P) (fr := fr n) (cs := cs n ++ tl) (fr' := fr (n + 1)) (cs' := cs (n + 1) ++ tl) (w := tp (u n) (joinT B (fun i => (u i).drawn) τ τe)) (w' := tp (u (n + 1)) (joinT B (fun i => (u i).drawn) τ τe)) (by
      have h0 : stepG P true { frame := fr n, callers := cs n ++ tl, status := .running, dying := none } (tp (u n) (joinT B (fun i => (u i).drawn) τ τe)) = .go (G (fr (n + 1)) (cs (n + 1) ++ tl)) (tp (u (n + 1)) (joinT B (fun i => (u i).drawn) τ τe)) es := hst
      rw [h0]
      rfl)
    simp only [runN, this]
end
end Go.Proofs.Ytgfgoflhmikalaa.par

namespace Go.Proofs.Ytgfgoflhmikalaa.par
open Go Go.Conc
set_option linter.unusedVariables false
set_option linter.unusedSimpArgs false
/-- The caller beneath it all: whatever comes back to it, it goes on to a function that is refused. -/
def c0 (k : FuncId) : Frame := { fn := k, tmps := #[], todo := [], defers := [⟨.fn (.func k) #[], #[]⟩], mode := .run, kind := .normal }
/-- Function number k is refused. -/
structure RefusedAt (P : Program) (k : FuncId) : Prop where
  fn : ∃ f why, P.funcs[k]? = some f ∧ f.body = some (.refuse why) ∧ (f.name == "runtime.NumGoroutine") = false
section
variable {P : Program} {k : FuncId}
theorem lone_inj {fr fr' : Frame} {cs cs' : List Frame} {w w' : World} (h : lone fr cs w = lone fr' cs' w') : fr = fr' ∧ cs = cs' ∧ w = w' := by
  unfold lone at h
  injection h with h1 h2 h3
  have h4 := congrArg (fun (x : Array Goroutine) => x[0]?) h2
  simp at h4
  exact ⟨h4.1, h4.2, h1⟩
theorem runN_next {n m : Nat} {a b : Machine} (h : runN P n a = .next b) (hm : n ≤ m) : runN P m a = runN P (m - n) b := by
  have := runN_add P n (m - n) a
  rw [show n + (m - n) = m by omega, h] at this
  exact this
theorem runN_ended {n : Nat} {a : Machine} {o : Outcome} {w : World} (h : step P a = .ended o w) (hn : 0 < n) : runN P n a = .ended o w := by
  obtain ⟨n, rfl⟩ : ∃ m, n = m + 1 := ⟨n - 1, by omega⟩
  simp only [runN, h]
theorem step_of {fr fr' : Frame} {cs cs' : List Frame} {w w' : World} {es : Array Event} (h : stepG P true (G fr cs) w = .go (G fr' cs') w' es) : step P (lone fr cs w) = .next (lone fr' cs' w') :=
  step_lone_go (by
    have h0 : stepG P true { frame := fr, callers := cs, status := .running, dying := none } w = .go (G fr' cs') w' es := h
    rw [h0]
    rfl)
theorem step_end {fr : Frame} {cs : List Frame} {w w' : World} {o : Outcome} {es : Array Event} (h : stepG P true (G fr cs) w = .ended o w' es) : step P (lone fr cs w) = .ended o w' :=
  step_lone_ended (by
    have h0 : stepG P true { frame := fr, callers := cs, status := .running, dying := none } w = .ended o w' es := h
    rw [h0]
    rfl)
/-- From a frame that calls the refused function as it leaves: the run ends within three steps. -/
theorem dooms (hk : RefusedAt P k) {x : Frame} (hx : x.defers = [⟨.fn (.func k) #[], #[]⟩]) (hm : x.mode ≠ .run) (w : World) : ∃ y w1 o w2, step P (lone x [] w) = .next (lone y [{ x with defers := [] }] w1) ∧ step P (lone y [{ x with defers := [] }] w1) = .ended o w2 := by
  obtain ⟨f, why, h1, h2, h3⟩ := hk.fn
  have hr : (invoke (Target.fn (.func k) #[]) #[]).runT P w #[] = (.ok (.enter k #[]) w, #[]) := by
    unfold invoke
    show (callFunc k (#[] ++ #[])).runT P w #[] = _
    unfold callFunc
    show (Sem.program _).runT P w #[] = _
    simp only [Sem.runT]
    show Sem.runT P (Sem.bind (Sem.pure P) _) w #[] = _
    simp only [Sem.bind, h1, h3, Bool.false_eq_true, if_false]
    rw [h2]
    rfl
  have hs : stepG P true (G x []) w = .go (G (Frame.enter P k #[] .deferred) [{ x with defers := [] }]) w (seen P x.fn #[] ++ #[]) := by
    rw [unwind_step hm, un_defer hx (fun r e => by cases e)]
    exact cd_enter (d := ⟨.fn (.func k) #[], #[]⟩) (fun h => by cases h.1) hr
  refine ⟨_, _, .unsupported (Unsupported.elab why) (Frame.pos P (Frame.enter P k #[] .deferred)), w, step_of hs, step_end (es := #[]) ?_⟩
  have hm2 : (Frame.enter P k #[] .deferred).mode = .run := rfl
  rw [run_step hm2]
  unfold Frame.enter
  simp only [h1, Option.bind_some, h2, Option.getD_some]
  unfold stepG.exec
  simp only [Frame.pos]
theorem no_back {a b : Machine} {x : Frame} {w : World} (h : step P a = .next (lone x [] w)) (hb : ∀ N fr' w', runN P N (lone x [] w) = .next (lone fr' [c0 k] w') → False) : ∀ N fr' w', runN P (N + 1) a = .next (lone fr' [c0 k] w') → False := by
  intro N fr' w' hN
  simp only [runN, h] at hN
  exact hb N fr' w' hN
theorem doomed (hk : RefusedAt P k) {x : Frame} (hx : x.defers = [⟨.fn (.func k) #[], #[]⟩]) (hm : x.mode ≠ .run) (w : World) : ∀ N fr' w', runN P N (lone x [] w) = .next (lone fr' [c0 k] w') → False := by
  intro N fr' w' hN
  obtain ⟨y, w1, o, w2, h1, h2⟩ := dooms hk hx hm w
  rcases N with _ | _ | N
  · simp only [runN] at hN
    injection hN with hN
    have := (lone_inj hN).2.1
    cases this
  · simp only [runN, h1] at hN
    injection hN with hN
    have := (lone_inj hN).2.1
    injection this with this _
    have := congrArg Frame.defers this
    simp [c0] at this
  · simp only [runN, h1, h2] at hN
    cases hN
theorem c0_doomed (hk : RefusedAt P k) (w : World) : ∀ N fr' w', runN P N (lone (c0 k) [] w) = .next (lone fr' [c0 k] w') → False := by
  intro N fr' w' hN
  rcases N with _ | N
  · simp only [runN] at hN
    injection hN with hN
    have := (lone_inj hN).2.1
    cases this
  · have h1 : step P (lone (c0 k) [] w) = .next (lone { c0 k with mode := .returning } [] w) := step_of (es := #[]) (by rw [run_step rfl]; rfl)
    simp only [runN, h1] at hN
    exact doomed hk (x := { c0 k with mode := .returning }) rfl (by simp) w N fr' w' hN
end
section
variable {T : Tables} {F' : Array Func} {k : FuncId}
/-- Behind its end the lone run does not come back to it. -/
theorem after_end (hk : RefusedAt ⟨T, F'⟩ k) {fr : Frame} {u : World} {σ : Nat → Nat} {D : Nat → Prop} {Sp : FuncId → Prop} {fr2 : Frame} (hf : FrR σ D T Sp F' F' fr fr2) (hm : fr.mode ≠ .run) (hd : fr.defers = []) : ∀ N fr' w', runN ⟨T, F'⟩ (N + 1) (lone fr [c0 k] u) = .next (lone fr' [c0 k] w') → False := by
  intro N fr' w' hN
  obtain ⟨f, f2, hf1, hf2, _⟩ := hf.known
  rw [← hf.fn] at hf1
  have hkinds : fr.kind = .normal ∨ fr.kind = .deferred := by rw [hf.kind]; exact hf.kinds
  have hmode := hf.mode
  generalize hx : fr.mode = x at hmode
  generalize hy : fr2.mode = y at hmode
  cases hmode with
  | run => exact hm hx
  | panicking hch =>
    have h1 : step ⟨T, F'⟩ (lone fr [c0 k] u) = .next (lone ((c0 k).raise _) [] u) := step_of (by rw [unwind_step hm]; exact un_panic hd hx (catch_rel (P := ⟨T, F'⟩) (P' := ⟨T, F'⟩) hf).1)
    simp only [runN, h1] at hN
    exact doomed hk (x := (c0 k).raise _) rfl (by simp [c0, Frame.raise]) u N fr' w' hN
  | returning =>
    rcases hr : (results f fr.tmps).runT (⟨T, F'⟩ : Program) u #[] with ⟨r, es⟩
    rcases r with ⟨v, u1⟩ | ⟨h0, u1⟩
    · have h1 : step ⟨T, F'⟩ (lone fr [c0 k] u) = .next (lone (c0 k) [] u1) := by
        rcases hkinds with e | e
        · refine step_of (es := seen ⟨T, F'⟩ fr.fn es ++ #[]) ?_
          rw [unwind_step hm, un_ret hd hx hf1 hr, dr_normal e]
          rfl
        · refine step_of (es := seen ⟨T, F'⟩ fr.fn es ++ #[]) ?_
          rw [unwind_step hm, un_ret hd hx hf1 hr, dr_deferred e (fun v g o h => by simp [c0] at h)]
          rfl
      simp only [runN, h1] at hN
      exact c0_doomed hk u1 N fr' w' hN
    · obtain ⟨o, es', e⟩ := un_ret_bad (main := true) (cx := [c0 k]) hd hx hf1 hr
      have h1 : step ⟨T, F'⟩ (lone fr [c0 k] u) = .ended o u1 := step_end (by rw [unwind_step hm]; exact e)
      simp only [runN, h1] at hN
      cases hN
/-- The lone machine, on a tape, from a function's entry. -/
def startL (T : Tables) (F' : Array Func) (f : FuncId) (args : Array Value) (k : FuncId) (u0 : World) (τ : Nat → Question → Nat) : Machine := lone (Frame.enter ⟨T, F'⟩ f args .normal) [c0 k] (tp u0 τ)
/-- It is come to within n steps, on every tape that tells what was drawn; its end has not been come to before. -/
def Reach (T : Tables) (F' : Array Func) (f : FuncId) (args : Array Value) (k : FuncId) (u0 : World) (n : Nat) (fr : Frame) (cs : List Frame) (u : World) : Prop :=
  ∀ τe : Nat → Question → Nat, ∃ τ : Nat → Question → Nat, (∀ j, u.drawn ≤ j → τ j = τe j) ∧ runN ⟨T, F'⟩ n (startL T F' f args k u0 τ) = .next (lone fr (cs ++ [c0 k]) (tp u τ)) ∧
    ∀ i, i < n → ∀ fr' w', runN ⟨T, F'⟩ i (startL T F' f args k u0 τ) = .next (lone fr' [c0 k] w') → ¬ (fr'.mode ≠ .run ∧ fr'.defers = [])
theorem Reach.start {f : FuncId} {args : Array Value} {u0 : World} : Reach T F' f args k u0 0 (Frame.enter ⟨T, F'⟩ f args .normal) [] u0 := fun τe => ⟨τe, fun _ _ => rfl, rfl, fun i hi => absurd hi (Nat.not_lt_zero _)⟩
theorem Reach.next {f : FuncId} {args : Array Value} {u0 : World} {n : Nat} {fr fr2 : Frame} {cs cs2 : List Frame} {u u2 : World} {τ : Nat → Question → Nat} (h : Reach T F' f args k u0 n fr cs u) (hn : ¬ AtEndL fr cs) (hg : GoT ⟨T, F'⟩ [c0 k] fr cs u τ fr2 cs2 u2) : Reach T F' f args k u0 (n + 1) fr2 cs2 u2 := by
  intro τe
  obtain ⟨hd, es, hs⟩ := hg
  obtain ⟨τ1, h1, h2, h3⟩ := h (fun j => if j < u2.drawn then τ j else τe j)
  refine ⟨τ1, fun j hj => ?_, ?_, fun i hi fr' w' hr => ?_⟩
  · rw [h1 j (by omega), if_neg (by omega)]
  · rw [runN_add, h2]
    have hst := hs τ1 (fun j h4 h5 => by rw [h1 j h4, if_pos h5])
    simp only [runN, step_of hst]
  · rcases Nat.lt_or_ge i n with hlt | hge
    · exact h3 i hlt fr' w' hr
    · obtain rfl : i = n := by omega
      rw [h2] at hr
      injection hr with hr
      obtain ⟨e1, e2, _⟩ := lone_inj hr
      subst e1
      have e3 : cs = [] := by
        rcases cs with _ | ⟨c, cs⟩
        · rfl
        · have := congrArg List.length e2
          simp at this
      exact fun h => hn ⟨e3, h⟩
section
variable {f : FuncId} {args : Array Value} {u0 : World} {R : (Nat → Question → Nat) → Value → World → Prop}
/-- What the contract says of what is come to. -/
theorem reach_end (hk : RefusedAt ⟨T, F'⟩ k) (hC : ∀ τ, Calls ⟨T, F'⟩ f args (tp u0 τ) (fun e w => ∃ v, e = .returned v ∧ R τ v w)) {n : Nat} {fr : Frame} {cs : List Frame} {u : World} (h : Reach T F' f args k u0 n fr cs u) (τe : Nat → Question → Nat) :
    ∃ τ, (∀ j, u.drawn ≤ j → τ j = τe j) ∧ ∃ N fr' w' v, n ≤ N ∧ runN ⟨T, F'⟩ (N - n) (lone fr (cs ++ [c0 k]) (tp u τ)) = .next (lone fr' [c0 k] w') ∧ fr'.leaving ⟨T, F'⟩ w' (.returned v) ∧ fr'.fn = f ∧ R τ v w' := by
  obtain ⟨τ, h1, h2, h3⟩ := h τe
  refine ⟨τ, h1, ?_⟩
  obtain ⟨e, w', fr', ⟨v, rfl, hR⟩, hcom, hfn, hl⟩ := hC τ [c0 k]
  obtain ⟨N, hN⟩ : Steps ⟨T, F'⟩ _ _ := hcom
  have hle : n ≤ N := by
    apply Classical.byContradiction
    intro hlt
    exact h3 N (by omega) fr' w' hN ⟨by rw [hl.1]; exact FrameMode.noConfusion, hl.2.1⟩
  exact ⟨N, fr', w', v, hle, by rw [← runN_next h2 hle]; exact hN, hl, hfn, hR⟩
theorem lt_of_calls (hz : ZP T) (hB : BodR T (fun _ => False) F' F') (hk : RefusedAt ⟨T, F'⟩ k) (hw : Wf T F' (Frame.enter ⟨T, F'⟩ f args .normal) [] u0)
    (hC : ∀ τ, Calls ⟨T, F'⟩ f args (tp u0 τ) (fun e w => ∃ v, e = .returned v ∧ R τ v w)) : LT ⟨T, F'⟩ [c0 k] (fun g v w => g = f ∧ R w.tape v w) (Frame.enter ⟨T, F'⟩ f args .normal) [] u0 := by
  -- a state from which the tree is not to be had has a next one
  have next : ∀ n fr cs u, Reach T F' f args k u0 n fr cs u → Wf T F' fr cs u → ¬ LT ⟨T, F'⟩ [c0 k] (fun g v w => g = f ∧ R w.tape v w) fr cs u →
      ¬ AtEndL fr cs ∧ ∃ τ fr2 cs2 u2, GoT ⟨T, F'⟩ [c0 k] fr cs u τ fr2 cs2 u2 ∧ Wf T F' fr2 cs2 u2 ∧ ¬ LT ⟨T, F'⟩ [c0 k] (fun g v w => g = f ∧ R w.tape v w) fr2 cs2 u2 := by
    intro n fr cs u hr hwf hn
    have hnend : ¬ AtEndL fr cs := by
      rintro ⟨rfl, hm, hd⟩
      obtain ⟨τ, _, N, fr', w', v, hle, hN, hl, hfnn, hR⟩ := reach_end hk hC hr (fun _ _ => 0)
      obtain ⟨_, D, _, _, _, _, _, hf, _⟩ := hwf
      rcases Nat.eq_zero_or_pos (N - n) with h0 | hpos
      · rw [h0] at hN
        simp only [runN, List.nil_append] at hN
        injection hN with hN
        obtain ⟨e1, _, e3⟩ := lone_inj hN
        subst e1 e3
        exact hn (.stop hl ⟨hfnn, hR⟩)
      · obtain ⟨M, hM⟩ : ∃ M, N - n = M + 1 := ⟨N - n - 1, by omega⟩
        rw [hM] at hN
        exact after_end hk hf hm hd M fr' w' hN
    refine ⟨hnend, ?_⟩
    apply Classical.byContradiction
    intro hno
    refine hn (LT.mk hnend fun τe => ?_)
    apply Classical.byContradiction
    intro hno2
    -- at a tape that tells as τe from here on
    obtain ⟨τ, h1, N, fr', w', v, hle, hN, hl, hfnn, hR⟩ := reach_end hk hC hr τe
    rcases wf_step hz hB [c0 k] hwf hnend τ with ⟨fr2, cs2, u2, hg, hwf2⟩ | ⟨o, u1, es, he⟩
    · have hg2 : GoT ⟨T, F'⟩ [c0 k] fr cs u τe fr2 cs2 u2 := by
        obtain ⟨hd, es, hs⟩ := hg
        exact ⟨hd, es, fun τ' hτ' => hs τ' (fun j h4 h5 => by rw [hτ' j h4 h5, h1 j h4])⟩
      apply hno
      refine ⟨τe, fr2, cs2, u2, hg2, hwf2, fun hlt => hno2 ⟨fr2, cs2, u2, hg2, hlt⟩⟩
    · rcases Nat.eq_zero_or_pos (N - n) with h0 | hpos
      · rw [h0] at hN
        simp only [runN] at hN
        injection hN with hN
        obtain ⟨e1, e2, e3⟩ := lone_inj hN
        subst e1
        have e4 : cs = [] := by
          rcases cs with _ | ⟨c, cs⟩
          · rfl
          · have := congrArg List.length e2
            simp at this
        exact hnend ⟨e4, by rw [hl.1]; exact FrameMode.noConfusion, hl.2.1⟩
      · rw [runN_ended (step_end he) hpos] at hN
        cases hN
  apply Classical.byContradiction
  intro hn
  -- an endless chain
  let S := { s : Nat × Frame × List Frame × World // Reach T F' f args k u0 s.1 s.2.1 s.2.2.1 s.2.2.2 ∧ Wf T F' s.2.1 s.2.2.1 s.2.2.2 ∧ ¬ LT ⟨T, F'⟩ [c0 k] (fun g v w => g = f ∧ R w.tape v w) s.2.1 s.2.2.1 s.2.2.2 }
  have nx : ∀ s : S, ∃ (s2 : S) (τ : Nat → Question → Nat), ¬ AtEndL s.1.2.1 s.1.2.2.1 ∧ GoT ⟨T, F'⟩ [c0 k] s.1.2.1 s.1.2.2.1 s.1.2.2.2 τ s2.1.2.1 s2.1.2.2.1 s2.1.2.2.2 := by
    rintro ⟨⟨n, fr, cs, u⟩, h1, h2, h3⟩
    obtain ⟨he, τ, fr2, cs2, u2, hg, hw2, hn2⟩ := next n fr cs u h1 h2 h3
    exact ⟨⟨⟨n + 1, fr2, cs2, u2⟩, h1.next he hg, hw2, hn2⟩, τ, he, hg⟩
  let s0 : S := ⟨⟨0, _, _, _⟩, Reach.start, hw, hn⟩
  let seq : Nat → S := fun n => Nat.rec s0 (fun _ s => (nx s).choose) n
  have hseq : ∀ n, seq (n + 1) = (nx (seq n)).choose := fun _ => rfl
  let τs : Nat → Nat → Question → Nat := fun n => (nx (seq n)).choose_spec.choose
  have hg : ∀ n, ¬ AtEndL (seq n).1.2.1 (seq n).1.2.2.1 ∧ GoT ⟨T, F'⟩ [c0 k] (seq n).1.2.1 (seq n).1.2.2.1 (seq n).1.2.2.2 (τs n) (seq (n + 1)).1.2.1 (seq (n + 1)).1.2.2.1 (seq (n + 1)).1.2.2.2 := fun n => (nx (seq n)).choose_spec.choose_spec
  have hrun := run_chain (P := ⟨T, F'⟩) (B := fun _ => True) (fun _ h => h) (fr := fun n => (seq n).1.2.1) (cs := fun n => (seq n).1.2.2.1) (u := fun n => (seq n).1.2.2.2) (τ := τs) (fun i _ => (hg i).2) (fun _ _ => 0)
  generalize joinT (fun _ => True) (fun n => ((seq n).1.2.2.2).drawn) τs (fun _ _ => 0) = τ at hrun
  obtain ⟨e, w', fr', ⟨v, rfl, hR⟩, hcom, hfn, hl⟩ := hC τ [c0 k]
  obtain ⟨N, hN⟩ : Steps ⟨T, F'⟩ _ _ := hcom
  have hr := hrun N (fun _ _ => trivial)
  have hN' : runN ⟨T, F'⟩ N (lone (seq 0).1.2.1 ((seq 0).1.2.2.1 ++ [c0 k]) (tp (seq 0).1.2.2.2 τ)) = .next (lone fr' [c0 k] w') := hN
  rw [hr] at hN'
  injection hN' with hN'
  obtain ⟨e1, e2, _⟩ := lone_inj hN'
  refine (hg N).1 ⟨?_, ?_, ?_⟩
  · rcases hcs : (seq N).1.2.2.1 with _ | ⟨c, cs⟩
    · rfl
    · rw [hcs] at e2
      have := congrArg List.length e2
      simp at this
  · rw [e1, hl.1]; exact FrameMode.noConfusion
  · rw [e1]; exact hl.2.1
end
end
end Go.Proofs.Ytgfgoflhmikalaa.par

namespace Go.Proofs.Ytgfgoflhmikalaa.par
open Go Go.Conc
set_option linter.unusedVariables false
set_option linter.unusedSimpArgs false
/-- What is owned grows by what is made. -/
def grow (O : Nat → Prop) (w w' : World) : Nat → Prop := fun b => O b ∨ (w.heap.size ≤ b ∧ b < w'.heap.size)
/-- An entry that touches what is owned alone. -/
def EvO (O : Nat → Prop) (e : Event) : Prop :=
  match e.loc with
  | .cell a => O a.block
  | .obj b => O b
  | .mark (.acquire a) | .mark (.release a) | .mark (.releaseMerge a) | .mark (.read a) | .mark (.write a) => O a.block
  | .mark _ => True
  | _ => False
/-- What the others may do. -/
structure Env0 (O : Nat → Prop) (w w₁ : World) : Prop where
  tape : w₁.tape = w.tape
  os : w₁.os = w.os
  output : w₁.output = w.output
  size : w.heap.size ≤ w₁.heap.size
  own : ∀ b, O b → w₁.heap[b]? = w.heap[b]?
/-- What a step of one's own does. -/
structure Gu0 (O : Nat → Prop) (w w' : World) (es : Array Event) : Prop where
  tape : w'.tape = w.tape
  os : w'.os = w.os
  output : w'.output = w.output
  size : w.heap.size ≤ w'.heap.size
  kept : ∀ b, b < w.heap.size → ¬ O b → w'.heap[b]? = w.heap[b]?
  evs : ∀ e ∈ es, EvO (grow O w w') e
/-- One's own steps, ahead of each of which the others have turned the world; d: how deaf one is. -/
inductive OT (P : Program) (main : Bool) (Env : (Nat → Prop) → World → World → Prop) (Gu : (Nat → Prop) → World → World → Array Event → Prop) (Stop : (Nat → Prop) → Nat → Goroutine → World → Prop) : (Nat → Prop) → Nat → Goroutine → World → Prop
  | stop {O : Nat → Prop} {d : Nat} {g : Goroutine} {w : World} (h : ∀ w₁, Env O w w₁ → Stop O d g w₁) : OT P main Env Gu Stop O d g w
  | step {O : Nat → Prop} {d : Nat} {g : Goroutine} {w : World} (hr : g.status = .running) (g' : World → Goroutine) (w' : World → World) (es : World → Array Event) (h : ∀ w₁, Env O w w₁ → stepG P main g w₁ = .go (g' w₁) (w' w₁) (es w₁)) (hg : ∀ w₁, Env O w w₁ → Gu O w₁ (w' w₁) (es w₁))
      (ih : ∀ w₁, Env O w w₁ → OT P main Env Gu Stop (grow O w₁ (w' w₁)) (deafBehind d (es w₁)) (g' w₁) (w' w₁)) : OT P main Env Gu Stop O d g w
section
variable {P : Program} {main : Bool} {Env : (Nat → Prop) → World → World → Prop} {Gu : (Nat → Prop) → World → World → Array Event → Prop} {Stop Stop' : (Nat → Prop) → Nat → Goroutine → World → Prop}
theorem OT.mk {O : Nat → Prop} {d : Nat} {g : Goroutine} {w : World} (hr : g.status = .running) (h : ∀ w₁, Env O w w₁ → ∃ g' w' es, stepG P main g w₁ = .go g' w' es ∧ Gu O w₁ w' es ∧ OT P main Env Gu Stop (grow O w₁ w') (deafBehind d es) g' w') : OT P main Env Gu Stop O d g w := by
  classical
  refine .step hr (fun w₁ => if h0 : Env O w w₁ then (h w₁ h0).choose else g) (fun w₁ => if h0 : Env O w w₁ then (h w₁ h0).choose_spec.choose else w₁) (fun w₁ => if h0 : Env O w w₁ then (h w₁ h0).choose_spec.choose_spec.choose else #[]) (fun w₁ h0 => ?_) (fun w₁ h0 => ?_) (fun w₁ h0 => ?_)
  · simp only [dif_pos h0]; exact (h w₁ h0).choose_spec.choose_spec.choose_spec.1
  · simp only [dif_pos h0]; exact (h w₁ h0).choose_spec.choose_spec.choose_spec.2.1
  · simp only [dif_pos h0]; exact (h w₁ h0).choose_spec.choose_spec.choose_spec.2.2
/-- One tree behind another. -/
theorem OT.bind {O : Nat → Prop} {d : Nat} {g : Goroutine} {w : World} (h : OT P main Env Gu Stop O d g w) (hrefl : ∀ O w, Env O w w) (hs : ∀ O d g w, Stop O d g w → OT P main Env Gu Stop' O d g w) : OT P main Env Gu Stop' O d g w := by
  induction h with
  | stop h => exact hs _ _ _ _ (h _ (hrefl _ _))
  | step hr g' w' es h hg _ ih => exact .step hr g' w' es h hg ih
/-- The others' doing does not unseat it. -/
theorem OT.rely {O : Nat → Prop} {d : Nat} {g : Goroutine} {w w₁ : World} (htr : ∀ O a b c, Env O a b → Env O b c → Env O a c) (h : OT P main Env Gu Stop O d g w) (he : Env O w w₁) : OT P main Env Gu Stop O d g w₁ := by
  cases h with
  | stop h => exact .stop fun w₂ h₂ => h w₂ (htr _ _ _ _ he h₂)
  | step hr g' w' es h hg ih => exact .step hr g' w' es (fun w₂ h₂ => h w₂ (htr _ _ _ _ he h₂)) (fun w₂ h₂ => hg w₂ (htr _ _ _ _ he h₂)) (fun w₂ h₂ => ih w₂ (htr _ _ _ _ he h₂))
end
theorem Env0.refl (O : Nat → Prop) (w : World) : Env0 O w w := ⟨rfl, rfl, rfl, Nat.le_refl _, fun _ _ => rfl⟩
theorem Env0.trans (O : Nat → Prop) (a b c : World) (h : Env0 O a b) (k : Env0 O b c) : Env0 O a c := ⟨k.tape.trans h.tape, k.os.trans h.os, k.output.trans h.output, Nat.le_trans h.size k.size, fun x hx => (k.own x hx).trans (h.own x hx)⟩
/-- The blocks that are the images of those that may be named. -/
def img (σ : Nat → Nat) (D : Nat → Prop) : Nat → Prop := fun b => ∃ r, D r ∧ b = σ r
section
variable {σ σ1 : Nat → Nat} {D D1 : Nat → Prop} {T : Tables} {W0 u w u1 w1 : World} {es : Array Event}
theorem Sit.env (h : Sit σ D T W0 u w) {w₁ : World} (he : Env0 (img σ D) w w₁) : Sit σ D T W0 u w₁ := by
  have hb : ∀ r, D r → w₁.heap[σ r]? = w.heap[σ r]? := fun r hr => he.own _ ⟨r, hr, rfl⟩
  refine ⟨⟨fun r o hr ho => ?_, fun r hr hle => ?_, h.wr.low, fun a ha hlt z hz hc => ?_⟩, h.inj, h.glob, h.bound, h.gu, Nat.le_trans h.gw he.size⟩
  · obtain ⟨o', h1, h2⟩ := h.wr.obj r o hr ho
    exact ⟨o', by rw [hb r hr]; exact h1, h2⟩
  · have := h.bound r hr; omega
  · rw [← h.wr.orig a ha hlt z hz hc]
    unfold World.cell?
    dsimp only
    rw [hb _ ha]
theorem Moved.own (h : Moved T W0 σ D u w σ1 D1 u1 w1 es) (hs : Sit σ D T W0 u w) (b : Nat) : img σ1 D1 b ↔ grow (img σ D) w w1 b := by
  have ht := h.turned.size
  have hlu := h.turned.lone.size
  constructor
  · rintro ⟨r, hr, rfl⟩
    rcases h.fresh r hr with h0 | ⟨h1, h2⟩
    · exact .inl ⟨r, h0, (h.up r h0).2⟩
    · have := h.sit.bound r hr
      exact .inr ⟨by omega, by omega⟩
  · rintro (⟨r, hr, rfl⟩ | ⟨h1, h2⟩)
    · exact ⟨r, (h.up r hr).1, (h.up r hr).2.symm⟩
    · obtain ⟨h3, h4⟩ := h.made (b - w.heap.size) (by omega)
      exact ⟨_, h3, by rw [h4]; omega⟩
theorem EvOk.own {σ : Nat → Nat} {D : Nat → Prop} {e : Event} (h : EvOk σ D e) : EvO (img σ D) e := by
  unfold EvOk at h
  unfold EvO
  split at h
  · rename_i a ha
    rw [ha]
    exact h
  · rename_i b hb
    rw [hb]
    exact h
  · rename_i m hm
    rw [hm]
    obtain ⟨m', hm'⟩ := h
    cases hm' with
    | acquire h => exact ⟨_, h.1, by rw [h.2]⟩
    | release h => exact ⟨_, h.1, by rw [h.2]⟩
    | releaseMerge h => exact ⟨_, h.1, by rw [h.2]⟩
    | extern f => trivial
    | noRoom => trivial
  · exact h.elim
theorem EvO.mono {O O' : Nat → Prop} (h : ∀ b, O b → O' b) {e : Event} (he : EvO O e) : EvO O' e := by
  unfold EvO at he ⊢
  split at he <;> first | exact h _ he | exact he | exact he.elim
/-- What a related step does, in the crowd's own terms. -/
theorem Moved.gu (h : Moved T W0 σ D u w σ1 D1 u1 w1 es) (hs : Sit σ D T W0 u w) : Gu0 (img σ D) w w1 es := by
  have ht := h.turned.size
  have hlu := h.turned.lone.size
  refine ⟨h.turned.tape, h.turned.os, h.turned.output, by omega, fun b hb hn => h.turned.kept b hb (fun r hr hlt e => ?_), fun e he => (h.evs e he).own.mono (fun b hb => (h.own hs b).1 hb)⟩
  rcases h.fresh r hr with h0 | ⟨h1, _⟩
  · exact hn ⟨r, h0, by rw [← (h.up r h0).2]; exact e.symm⟩
  · omega
end
end Go.Proofs.Ytgfgoflhmikalaa.par

namespace Go.Proofs.Ytgfgoflhmikalaa.par
open Go Go.Conc
set_option linter.unusedVariables false
set_option linter.unusedSimpArgs false
/-- Where a lone run stands. -/
abbrev LS := Frame × List Frame × World
section
variable {P : Program} {tl : List Frame} {R : FuncId → Value → World → Prop}
theorem LT.tape {fr : Frame} {cs : List Frame} {u : World} (h : LT P tl R fr cs u) (τ : Nat → Question → Nat) : LT P tl R fr cs (tp u τ) := by
  cases h with
  | @stop _ _ v τ1 hl hr => exact .stop (u := tp u τ) (τ := τ1) hl hr
  | step hn f c v h ih => exact .step (u := tp u τ) hn f c v h ih
/-- The next of a lone run. -/
def Desc (P : Program) (tl : List Frame) (s2 s : LS) : Prop := ¬ AtEndL s.1 s.2.1 ∧ ∃ τ, GoT P tl s.1 s.2.1 s.2.2 τ s2.1 s2.2.1 s2.2.2
theorem goT_same {fr fr2 fr3 : Frame} {cs cs2 cs3 : List Frame} {u u2 u3 : World} {τ : Nat → Question → Nat} (h : GoT P tl fr cs u τ fr2 cs2 u2) (k : GoT P tl fr cs u τ fr3 cs3 u3) : fr3 = fr2 ∧ cs3 = cs2 ∧ u3 = tp u2 u3.tape := by
  obtain ⟨_, es, h⟩ := h
  obtain ⟨_, es2, k⟩ := k
  have h1 := h τ (fun _ _ _ => rfl)
  rw [k τ (fun _ _ _ => rfl)] at h1
  injection h1 with h1 h2 _
  have h3 : fr3 = fr2 := congrArg Goroutine.frame h1
  have h4 : cs3 ++ tl = cs2 ++ tl := congrArg Goroutine.callers h1
  refine ⟨h3, List.append_cancel_right h4, ?_⟩
  have h5 : tp (tp u3 τ) u3.tape = tp (tp u2 τ) u3.tape := congrArg (fun w => tp w u3.tape) h2
  exact h5
theorem LT.next {s s2 : LS} (h : LT P tl R s.1 s.2.1 s.2.2) (hd : Desc P tl s2 s) : LT P tl R s2.1 s2.2.1 s2.2.2 := by
  obtain ⟨fr, cs, u⟩ := s
  obtain ⟨fr2, cs2, u2⟩ := s2
  obtain ⟨hn, τ, hg⟩ := hd
  dsimp only at h hn hg ⊢
  cases h with
  | stop hl hr => exact absurd ⟨rfl, by rw [hl.1]; exact FrameMode.noConfusion, hl.2.1⟩ hn
  | step _ f c v h ih =>
    obtain ⟨e1, e2, e3⟩ := goT_same (h τ) hg
    rw [e1, e2, e3]
    exact (ih τ).tape _
theorem LT.nextT {s s2 : LS} (h : LT P tl R s.1 s.2.1 s.2.2) (hd : Relation.TransGen (Desc P tl) s2 s) : LT P tl R s2.1 s2.2.1 s2.2.2 := by
  induction hd with
  | single h1 => exact h.next h1
  | tail _ h1 ih => exact ih (h.next h1)
theorem acc_of_lt {fr : Frame} {cs : List Frame} {u : World} (h : LT P tl R fr cs u) : ∀ τ, Acc (Desc P tl) (fr, cs, tp u τ) := by
  induction h with
  | stop hl hr =>
    intro τ
    refine Acc.intro _ fun s2 hd => ?_
    exact absurd ⟨rfl, by rw [hl.1]; exact FrameMode.noConfusion, hl.2.1⟩ hd.1
  | step hn f c v h _ ih =>
    intro τ
    refine Acc.intro _ fun s2 hd => ?_
    obtain ⟨fr2, cs2, u2⟩ := s2
    obtain ⟨_, τ1, hg⟩ := hd
    obtain ⟨e1, e2, e3⟩ := goT_same (h τ1) hg
    dsimp only at e1 e2 e3
    rw [e1, e2, e3]
    exact ih τ1 _
end
section
variable {T : Tables} {F' F : Array Func} {Sp : FuncId → Prop} {main : Bool} {Env : (Nat → Prop) → World → World → Prop} {Gu : (Nat → Prop) → World → World → Array Event → Prop} {Fin : (Nat → Prop) → Nat → Goroutine → World → Prop} {W0 : World} {tl tail : List Frame} {R : FuncId → Value → World → Prop}
/-- A lone run's place, and the crowd's. -/
structure Rel (T : Tables) (F' F : Array Func) (Sp : FuncId → Prop) (W0 : World) (σ : Nat → Nat) (D : Nat → Prop) (s : LS) (fr : Frame) (cs : List Frame) (w : World) : Prop where
  sit : Sit σ D T W0 s.2.2 w
  fr : FrR σ D T Sp F' F s.1 fr
  cs : LR (FrR σ D T Sp F' F) s.2.1 cs
/-- A special function is about to be gone through. -/
structure RelS (T : Tables) (F' F : Array Func) (Sp : FuncId → Prop) (W0 : World) (σ : Nat → Nat) (D : Nat → Prop) (f : FuncId) (a a' : Array Value) (kind : CallKind) (s : LS) (fr : Frame) (cs : List Frame) (w : World) : Prop where
  sp : Sp f
  both : Both F' F f
  kinds : kind = .normal ∨ kind = .deferred
  args : VsR σ D a a'
  rel : Rel T F' F Sp W0 σ D s fr cs w
  deferred : kind = .deferred → fr.mode ≠ .run
  normal : kind = .normal → fr.mode = .run
  nodef : kind = .deferred → nd f = false
  size : nd f = true → a.size = 2
theorem still_of {σ : Nat → Nat} {D : Nat → Prop} {es : Array Event} (h : ∀ e ∈ es, EvOk σ D e) : ∀ e ∈ es, e.loc ≠ .mark .disable ∧ e.loc ≠ .mark .enable := by
  intro e he
  have := h e he
  unfold EvOk at this
  constructor
  · intro hl
    rw [hl] at this
    obtain ⟨m, hm⟩ := this
    cases hm
  · intro hl
    rw [hl] at this
    obtain ⟨m, hm⟩ := this
    cases hm
/-- THE LONE TREE IN COMPANY. -/
theorem transfer (J : (Nat → Nat) → (Nat → Prop) → Prop) (hJ : ∀ σ D σ1 D1, Up σ D σ1 D1 → J σ D → J σ1 D1) (hz : ZP T) (hB : BodR T Sp F' F) (hE : ∀ O w w₁, Env O w w₁ → Env0 O w w₁) (hrefl : ∀ O w, Env O w w) (hG : ∀ O w w' es, Gu0 O w w' es → (∀ e ∈ es, e.loc ≠ .mark .disable ∧ e.loc ≠ .mark .enable) → Gu O w w' es)
    (s0 : LS) (hfin : ∀ σ D s fr cs w, J σ D → (s = s0 ∨ Relation.TransGen (Desc ⟨T, F'⟩ tl) s s0) → LT ⟨T, F'⟩ tl R s.1 s.2.1 s.2.2 → Rel T F' F Sp W0 σ D s fr cs w → AtEndL s.1 s.2.1 → OT ⟨T, F⟩ main Env Gu Fin (img σ D) 0 (G fr (cs ++ tail)) w)
    (hspec : ∀ σ D f a a' kind s fr cs w, J σ D → Relation.TransGen (Desc ⟨T, F'⟩ tl) (Frame.enter ⟨T, F'⟩ f a kind, s.1 :: s.2.1, s.2.2) s0 → LT ⟨T, F'⟩ tl R (Frame.enter ⟨T, F'⟩ f a kind) (s.1 :: s.2.1) s.2.2 → RelS T F' F Sp W0 σ D f a a' kind s fr cs w →
      (∀ σ2 D2 s2 fr2 cs2 w2, J σ2 D2 → Relation.TransGen (Desc ⟨T, F'⟩ tl) s2 (Frame.enter ⟨T, F'⟩ f a kind, s.1 :: s.2.1, s.2.2) → Rel T F' F Sp W0 σ2 D2 s2 fr2 cs2 w2 → OT ⟨T, F⟩ main Env Gu Fin (img σ2 D2) 0 (G fr2 (cs2 ++ tail)) w2) →
      OT ⟨T, F⟩ main Env Gu Fin (img σ D) 0 (G (Frame.enter ⟨T, F⟩ f a' kind) (fr :: (cs ++ tail))) w) :
    ∀ s, (s = s0 ∨ Relation.TransGen (Desc ⟨T, F'⟩ tl) s s0) → LT ⟨T, F'⟩ tl R s.1 s.2.1 s.2.2 → ∀ σ D fr cs w, J σ D → Rel T F' F Sp W0 σ D s fr cs w → OT ⟨T, F⟩ main Env Gu Fin (img σ D) 0 (G fr (cs ++ tail)) w := by
  intro s
  have hacc : ∀ s : LS, LT ⟨T, F'⟩ tl R s.1 s.2.1 s.2.2 → Acc (Relation.TransGen (Desc ⟨T, F'⟩ tl)) s := fun s h => Acc.transGen (acc_of_lt h s.2.2.tape)
  intro h0 hlt
  have ha := hacc s hlt
  induction ha with
  | intro s _ ih =>
  intro σ D fr cs w hj hr
  by_cases hend : AtEndL s.1 s.2.1
  · exact hfin σ D s fr cs w hj h0 hlt hr hend
  refine OT.mk rfl fun w₁ hw₁ => ?_
  have he := hE _ _ _ hw₁
  have hs1 := hr.sit.env he
  let τ : Nat → Question → Nat := fun j => w₁.tape (j - s.2.2.drawn + w₁.drawn)
  have hy : Sync (tp s.2.2 τ) w₁ := fun i => by
    show w₁.tape (s.2.2.drawn + i - s.2.2.drawn + w₁.drawn) = w₁.tape (w₁.drawn + i)
    rw [show s.2.2.drawn + i - s.2.2.drawn + w₁.drawn = w₁.drawn + i by omega]
  have hs2 : Sit σ D T W0 (tp s.2.2 τ) w₁ := hs1.tape τ w₁.tape
  have hout := step_out (tl := tl) (tail := tail) hz hB hs2 hy hr.fr hr.cs main hend
  -- the lone step is of the tree
  obtain ⟨fr2, cs2, u2, hg⟩ : ∃ fr2 cs2 u2, GoT ⟨T, F'⟩ tl s.1 s.2.1 s.2.2 τ fr2 cs2 u2 := by
    obtain ⟨fr0, cs00, u0⟩ := s
    cases hlt with
    | stop hl hr => exact absurd ⟨rfl, by rw [hl.1]; exact FrameMode.noConfusion, hl.2.1⟩ hend
    | step _ f c v h _ => exact ⟨_, _, _, h τ⟩
  generalize hx : stepG (⟨T, F⟩ : Program) main (G fr (cs ++ tail)) w₁ = g at hout
  cases hout with
  | bad hbad =>
    obtain ⟨_, es, h2⟩ := hg
    have hbad' : stepG (⟨T, F'⟩ : Program) true (G s.1 (s.2.1 ++ tl)) (tp s.2.2 τ) = .ended _ _ _ := hbad
    rw [h2 τ (fun _ _ _ => rfl)] at hbad'
    cases hbad'
  | @go fr1' fr1 cs1' cs1 u1 w1 es' es σ1 D1 hL hf1 hc1 hm =>
    have hg1 : GoT ⟨T, F'⟩ tl s.1 s.2.1 s.2.2 τ fr1' cs1' u1 := ⟨hm.turned.lone.drawn, es', hL⟩
    have hd : Desc ⟨T, F'⟩ tl (fr1', cs1', u1) s := ⟨hend, τ, hg1⟩
    refine ⟨_, _, _, rfl, hG _ _ _ _ (hm.gu hs2) (still_of hm.evs), ?_⟩
    have e1 : grow (img σ D) w₁ w1 = img σ1 D1 := (funext fun b => propext (hm.own hs2 b)).symm
    rw [e1, deafBehind_still (still_of hm.evs)]
    exact ih _ (.single hd) (.inr (h0.elim (fun e => e ▸ .single hd) (fun h => .trans (.single hd) h))) (hlt.next hd) σ1 D1 fr1 cs1 w1 (hJ _ _ _ _ hm.up hj) ⟨hm.sit, hf1, hc1⟩
  | @special f hsp hk a a' kind hkd fr1' fr1 cs1' cs1 u1 w1 es' es σ1 D1 hL ha hf1 hc1 hm hdf hnm hnd hsz =>
    have hg1 : GoT ⟨T, F'⟩ tl s.1 s.2.1 s.2.2 τ (Frame.enter ⟨T, F'⟩ f a kind) (fr1' :: cs1') u1 := ⟨hm.turned.lone.drawn, es', hL⟩
    have hd : Desc ⟨T, F'⟩ tl (Frame.enter ⟨T, F'⟩ f a kind, fr1' :: cs1', u1) s := ⟨hend, τ, hg1⟩
    refine ⟨_, _, _, rfl, hG _ _ _ _ (hm.gu hs2) (still_of hm.evs), ?_⟩
    have e1 : grow (img σ D) w₁ w1 = img σ1 D1 := (funext fun b => propext (hm.own hs2 b)).symm
    rw [e1, deafBehind_still (still_of hm.evs)]
    have hbelow : Relation.TransGen (Desc ⟨T, F'⟩ tl) (Frame.enter ⟨T, F'⟩ f a kind, fr1' :: cs1', u1) s0 := h0.elim (fun e => e ▸ .single hd) (fun h => .trans (.single hd) h)
    refine hspec σ1 D1 f a a' kind (fr1', cs1', u1) fr1 cs1 w1 (hJ _ _ _ _ hm.up hj) hbelow (hlt.next hd) ⟨hsp, hk, hkd, ha, ⟨hm.sit, hf1, hc1⟩, hdf, hnm, hnd, hsz⟩ (fun σ2 D2 s2 fr2 cs2 w2 hj2 hd2 hr2 => ?_)
    have hd3 : Relation.TransGen (Desc ⟨T, F'⟩ tl) s2 s := .trans hd2 (.single hd)
    exact ih s2 hd3 (.inr (h0.elim (fun e => e ▸ hd3) (fun h => .trans hd3 h))) (hlt.nextT hd3) σ2 D2 fr2 cs2 w2 hj2 hr2
end
end Go.Proofs.Ytgfgoflhmikalaa.par
