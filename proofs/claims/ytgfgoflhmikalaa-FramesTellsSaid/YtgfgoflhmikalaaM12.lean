/- Part 12 of what the proofs stand on: lemmas on worlds, on goroutines, contracts of functions. No conditions. -/
import Derived.Test.YtgfgoflhmikalaaM11
import Derived.Conc.CrowdTrace
import Derived.Conc.CrowdBase
import Derived.Conc.WrWorld
import Derived.Conc.CrowdCom2
namespace Go.Proofs.Ytgfgoflhmikalaa.par
open Go Go.Conc
open Go.ConcN (CT Apart Ok0 OkW Deaf_absent PermW)
set_option linter.unusedVariables false
set_option linter.unusedSimpArgs false
def inB (O : Nat → Prop) : Loc → Prop
  | .cell a => O a.block
  | .obj r => O r
  | _ => False
theorem inB.imp {O O' : Nat → Prop} {l : Loc} (h : inB O l) (hO : ∀ b, O b → O' b) : inB O' l := by
  cases l <;> first | exact hO _ h | exact h
theorem inB.two {O O' : Nat → Prop} {l : Loc} (h : inB O l) (k : inB O' l) : ∃ b, O b ∧ O' b := by
  cases l <;> first | exact ⟨_, h, k⟩ | exact h.elim
theorem inB.or {O O' : Nat → Prop} {l : Loc} (h : inB (fun b => O b ∨ O' b) l) : inB O l ∨ inB O' l := by
  cases l <;> first | exact h | exact h.elim
/-- A read of what nobody writes. -/
def EvR (Rd : Nat → Prop) (e : Event) : Prop := e.write = false ∧ inB Rd e.loc
/-- The library's own words and its atomic operations, at shared places. -/
def EvS (Sh : Nat → Prop) (said : Prop) (e : Event) : Prop :=
  (∃ a wr, e = ⟨.cell a, wr, true⟩ ∧ Sh a.block) ∨ ((∃ a, e.loc = .mark (.acquire a) ∧ Sh a.block) ∨ (∃ a, e.loc = .mark (.releaseMerge a) ∧ Sh a.block)) ∨ (said ∧ ((∃ a, e.loc = .mark (.read a) ∧ Sh a.block) ∨ (∃ a, e.loc = .mark (.write a) ∧ Sh a.block)))
theorem EvO.touch {O : Nat → Prop} {e : Event} {x : Touch} (h : EvO O e) (hx : (MemAct.ofEvent e).touch? = some x) : inB O x.loc := by
  obtain ⟨loc, wr, sy⟩ := e
  cases loc with
  | cell a =>
    have : x.loc = .cell a := by
      cases wr <;> cases sy <;> (simp [MemAct.ofEvent, MemAct.touch?] at hx; subst hx; rfl)
    rw [this]; exact h
  | obj r =>
    have : x.loc = .obj r := by
      cases wr <;> cases sy <;> first | (simp [MemAct.ofEvent, MemAct.touch?] at hx; subst hx; rfl) | (simp [MemAct.ofEvent, MemAct.touch?] at hx)
    rw [this]; exact h
  | mark m =>
    cases m <;> first
      | (simp [MemAct.ofEvent, MemAct.touch?] at hx; subst hx; exact h)
      | (simp [MemAct.ofEvent, MemAct.touch?] at hx)
  | _ => exact h.elim
theorem EvO.low {O : Nat → Prop} {e : Event} {B : Nat} (h : EvO O e) (hO : ∀ b, O b → b < B) : (MemAct.ofEvent e).low B := by
  obtain ⟨loc, wr, sy⟩ := e
  cases loc with
  | cell a => cases wr <;> cases sy <;> exact hO _ h
  | obj r => cases wr <;> cases sy <;> exact hO _ h
  | mark m => cases m <;> first | exact hO _ h | trivial
  | _ => exact h.elim
theorem EvR.touch {Rd : Nat → Prop} {e : Event} {x : Touch} (h : EvR Rd e) (hx : (MemAct.ofEvent e).touch? = some x) : inB Rd x.loc ∧ x.write = false := by
  obtain ⟨loc, wr, sy⟩ := e
  obtain ⟨hw, hl⟩ := h
  dsimp only at hw hl
  subst hw
  cases loc with
  | cell a => cases sy <;> (simp [MemAct.ofEvent, MemAct.touch?] at hx; subst hx; exact ⟨hl, rfl⟩)
  | obj r => cases sy <;> (simp [MemAct.ofEvent, MemAct.touch?] at hx; subst hx; exact ⟨hl, rfl⟩)
  | _ => exact hl.elim
theorem EvR.low {Rd : Nat → Prop} {e : Event} {B : Nat} (h : EvR Rd e) (hO : ∀ b, Rd b → b < B) : (MemAct.ofEvent e).low B := by
  obtain ⟨loc, wr, sy⟩ := e
  obtain ⟨hw, hl⟩ := h
  dsimp only at hw hl
  subst hw
  cases loc with
  | cell a => cases sy <;> exact hO _ hl
  | obj r => cases sy <;> exact hO _ hl
  | _ => exact hl.elim
theorem EvS.touch {Sh : Nat → Prop} {said : Prop} {e : Event} {x : Touch} (h : EvS Sh said e) (hx : (MemAct.ofEvent e).touch? = some x) : inB Sh x.loc ∧ x.kind ≠ .plain ∧ (x.kind = .said → said) := by
  rcases h with ⟨a, wr, rfl, ha⟩ | (⟨a, hl, ha⟩ | ⟨a, hl, ha⟩) | ⟨hs, ⟨a, hl, ha⟩ | ⟨a, hl, ha⟩⟩
  · have : x = ⟨.cell a, wr, .atomic⟩ := by cases wr <;> (simp [MemAct.ofEvent, MemAct.touch?] at hx; exact hx.symm)
    subst this
    exact ⟨ha, by simp, by simp⟩
  all_goals
    obtain ⟨loc, wr, sy⟩ := e
    dsimp only at hl
    subst hl
  · simp [MemAct.ofEvent, MemAct.touch?] at hx
  · simp [MemAct.ofEvent, MemAct.touch?] at hx
  · simp [MemAct.ofEvent, MemAct.touch?] at hx; subst hx; exact ⟨ha, by simp, fun _ => hs⟩
  · simp [MemAct.ofEvent, MemAct.touch?] at hx; subst hx; exact ⟨ha, by simp, fun _ => hs⟩
theorem EvS.low {Sh : Nat → Prop} {said : Prop} {e : Event} {B : Nat} (h : EvS Sh said e) (hO : ∀ b, Sh b → b < B) : (MemAct.ofEvent e).low B := by
  rcases h with ⟨a, wr, rfl, ha⟩ | (⟨a, hl, ha⟩ | ⟨a, hl, ha⟩) | ⟨hs, ⟨a, hl, ha⟩ | ⟨a, hl, ha⟩⟩
  · cases wr <;> exact hO _ ha
  all_goals
    obtain ⟨loc, wr, sy⟩ := e
    dsimp only at hl
    subst hl
    exact hO _ ha
/-- A touch of what lies low, at a place that does not. -/
theorem low_touch {B : Nat} {x : MemAct} {a : Touch} (h : x.low B) (ha : x.touch? = some a) (hl : inB (fun b => B ≤ b) a.loc) : False := by
  cases x with
  | access e =>
    simp only [MemAct.touch?, Option.some.injEq] at ha
    subst ha
    obtain ⟨loc, wr, sy⟩ := e
    cases loc with
    | cell a => exact absurd (show a.block < B from h) (Nat.not_lt.2 hl)
    | obj r => exact absurd (show r < B from h) (Nat.not_lt.2 hl)
    | _ => exact hl.elim
  | mark m =>
    cases m <;> first
      | (simp only [MemAct.touch?, Option.some.injEq] at ha; subst ha; exact absurd (show _ < B from h) (Nat.not_lt.2 hl))
      | (simp [MemAct.touch?] at ha)
  | _ => simp [MemAct.touch?] at ha
/-- Where the blocks lie. -/
structure GE (Sh Rd : Nat → Prop) (own : Nat → Nat → Prop) (B : Nat) : Prop where
  lt : ∀ k b, own k b → b < B
  apart : ∀ k k' b, own k b → own k' b → k = k'
  sh : ∀ k b, own k b → ¬ Sh b
  rd : ∀ k b, own k b → ¬ Rd b
  shlt : ∀ b, Sh b → b < B
  rdlt : ∀ b, Rd b → b < B
  shrd : ∀ b, Rd b → ¬ Sh b
structure TI (Sh Rd : Nat → Prop) (n0 N : Nat) (own : Nat → Nat → Prop) (B : Nat) (t : Trace) : Prop where
  ct : CT (inB Sh) (fun k => inB (own k)) (fun k l => n0 ≤ k ∧ inB Rd l) t (N - 1)
  seen : ∀ op ∈ t, op.act.low B
section
variable {Sh Rd : Nat → Prop} {n0 N : Nat} {own own' : Nat → Nat → Prop} {B B' : Nat} {t : Trace}
theorem GE.aparted (h : GE Sh Rd own B) (n0 : Nat) : Apart (inB Sh) (fun k => inB (own k)) (fun k l => n0 ≤ k ∧ inB Rd l) :=
  ⟨fun k k' l a b => by obtain ⟨b, h1, h2⟩ := inB.two a b; exact h.apart _ _ b h1 h2, fun k k' l a b => by obtain ⟨b, h1, h2⟩ := inB.two a b.2; exact h.rd _ b h1 h2, fun k l a b => by obtain ⟨b, h1, h2⟩ := inB.two a b; exact h.sh _ b h1 h2, fun k l a b => by obtain ⟨b, h1, h2⟩ := inB.two a.2 b; exact h.shrd b h1 h2⟩
theorem TI.reown (h : TI Sh Rd n0 N own B t) (h1 : ∀ k b, 1 ≤ k → k ≤ N - 1 → own' k b → own k b ∨ B ≤ b) (h2 : ∀ k b, 1 ≤ k → k ≤ N - 1 → own k b → own' k b) (hB : B ≤ B') : TI Sh Rd n0 N own' B' t := by
  refine ⟨⟨h.ct.quiet, fun k k1 kj l hl => ?_, h.ct.rd, fun l hs hl => h.ct.free l hs fun k k1 kj => ⟨fun ho => (hl k k1 kj).1 (ho.imp (h2 k · k1 kj)), (hl k k1 kj).2⟩, fun l hs hl => h.ct.mine l hs fun k k1 kj ho => hl k k1 kj (ho.imp (h2 k · k1 kj)), h.ct.nr, h.ct.gs⟩, fun op hop => MemAct.low_mono hB (h.seen op hop)⟩
  have hl' : inB (own k) l ∨ inB (fun b => B ≤ b) l := inB.or (hl.imp fun b hb => h1 k b k1 kj hb)
  rcases hl' with h0 | h0
  · exact h.ct.own k k1 kj l h0
  · intro i a ha e
    obtain ⟨op, hop, hx⟩ := touch_of ha
    exact (low_touch (h.seen op (Array.mem_of_getElem? hop)) hx (e ▸ h0)).elim
/-- A step of goroutine k's. -/
theorem TI.step (h : TI Sh Rd n0 N own B t) (hg : GE Sh Rd own' B') (hB : B ≤ B') (h1 : ∀ k b, 1 ≤ k → k ≤ N - 1 → own' k b → own k b ∨ B ≤ b) (h2 : ∀ k b, 1 ≤ k → k ≤ N - 1 → own k b → own' k b) {k : Nat} (hk : k ≤ N - 1) {fn : FuncId} {pos : String} {es : Array Event}
    (hes : ∀ e ∈ es, EvO (own' k) e ∨ ((k = 0 ∨ n0 ≤ k) ∧ EvR Rd e) ∨ EvS Sh (k = 0) e) : TI Sh Rd n0 N own' B' (t ++ MemOp.ofEvents k fn pos es) := by
  have h0 := h.reown h1 h2 hB
  have A := hg.aparted n0
  refine ⟨?_, seen_app h0.seen fun op hop => ?_⟩
  · rcases Nat.eq_zero_or_pos k with rfl | hpos
    · refine h0.ct.app0 A fun op hop => ?_
      obtain ⟨e, he, rfl⟩ := Go.Conc.mem_ofEvents hop
      refine ⟨rfl, fun x hx => ?_⟩
      rcases hes e he with h3 | ⟨_, h3⟩ | h3
      · have := h3.touch hx
        exact .inr ⟨A.ownSh 0 _ this, fun k k1 _ ho => by have := A.own 0 k _ this ho; omega, fun _ k k1 _ hr => A.ownRd 0 k _ this hr⟩
      · obtain ⟨h4, h5⟩ := h3.touch hx
        exact .inr ⟨fun hs => by obtain ⟨b, a1, a2⟩ := inB.two h4 hs; exact hg.shrd b a1 a2, fun k k1 _ ho => by obtain ⟨b, a1, a2⟩ := inB.two ho h4; exact hg.rd k b a1 a2, fun hw => by rw [h5] at hw; cases hw⟩
      · obtain ⟨h4, h5, _⟩ := h3.touch hx
        exact .inl ⟨h4, h5⟩
    · refine h0.ct.appW A hpos hk fun op hop => ?_
      obtain ⟨e, he, rfl⟩ := Go.Conc.mem_ofEvents hop
      refine ⟨rfl, fun x hx => ?_⟩
      rcases hes e he with h3 | ⟨hn, h3⟩ | h3
      · exact .inr (.inl (h3.touch hx))
      · obtain ⟨h4, h5⟩ := h3.touch hx
        exact .inr (.inr ⟨⟨by omega, h4⟩, h5⟩)
      · obtain ⟨h4, h5, h6⟩ := h3.touch hx
        exact .inl ⟨h4, h5, fun e => by have := h6 e; omega⟩
  · obtain ⟨e, he, rfl⟩ := Go.Conc.mem_ofEvents hop
    rcases hes e he with h3 | ⟨_, h3⟩ | h3
    · exact h3.low (hg.lt k)
    · exact h3.low hg.rdlt
    · exact h3.low hg.shlt
/-- A go statement. -/
theorem TI.fork (h : TI Sh Rd n0 N own B t) (hg : GE Sh Rd own' B) (h1 : ∀ k, 1 ≤ k → k ≤ N - 1 → own' k = own k) (hN : 1 ≤ N) {x y : MemOp} (hx : x.g = 0 ∧ x.act = .go N) (hy : y.g = N ∧ y.act = .start) (h0 : Deaf t 0 = 0) : TI Sh Rd n0 (N + 1) own' B (t ++ #[x, y]) := by
  have h2 := h.reown (own' := own') (B' := B) (fun k b k1 kj hb => .inl (by rw [← h1 k k1 kj]; exact hb)) (fun k b k1 kj hb => by rw [h1 k k1 kj]; exact hb) (Nat.le_refl _)
  have e : N - 1 + 1 = N := by omega
  refine ⟨?_, seen_app h2.seen fun op hop => ?_⟩
  · have := h2.ct.fork (hg.aparted n0) (x := x) (y := y) (by rw [e]; exact hx) (by rw [e]; exact hy) h0
    rw [show N + 1 - 1 = N - 1 + 1 by omega]
    exact this
  · simp only [List.mem_toArray, List.mem_cons, List.not_mem_nil, or_false] at hop
    rcases hop with rfl | rfl
    · rw [hx.2]; trivial
    · rw [hy.2]; trivial
theorem TI.absent (h : TI Sh Rd n0 N own B t) (hN : 1 ≤ N) {k : Nat} (hk : N ≤ k) : Deaf t k = 0 := Deaf_absent fun i op hi e => by have := h.ct.gs i op hi; omega
end
end Go.Proofs.Ytgfgoflhmikalaa.par

namespace Go.Proofs.Ytgfgoflhmikalaa.par
open Go Go.Conc
open Go.ConcR (again_blocked)
set_option linter.unusedVariables false
set_option linter.unusedSimpArgs false
def upd {α : Type 1} (f : Nat → α) (i : Nat) (x : α) : Nat → α := fun a => if a = i then x else f a
theorem upd_same {α : Type 1} (f : Nat → α) (i : Nat) (x : α) : upd f i x i = x := by simp [upd]
theorem upd_ne {α : Type 1} (f : Nat → α) {i a : Nat} (x : α) (h : a ≠ i) : upd f i x a = f a := by simp [upd, h]
structure EnvT (Rd : Nat → Prop) (Ry : World → World → Prop) (O : Nat → Prop) (w w₁ : World) : Prop where
  env : Env0 O w w₁
  rd : ∀ b, Rd b → w₁.heap[b]? = w.heap[b]?
  live : Ry w w₁
/-- What a rely must be. -/
structure Rely (Ry : World → World → Prop) : Prop where
  refl : ∀ w, Ry w w
  trans : ∀ a b c, Ry a b → Ry b c → Ry a c
  draw : ∀ w d, Ry w (w.at d)
theorem EnvT.refl {Rd : Nat → Prop} {Ry : World → World → Prop} (hR : Rely Ry) (O : Nat → Prop) (w : World) : EnvT Rd Ry O w w := ⟨Env0.refl O w, fun _ _ => rfl, hR.refl w⟩
theorem EnvT.trans {Rd : Nat → Prop} {Ry : World → World → Prop} (hR : Rely Ry) (O : Nat → Prop) (a b c : World) (h : EnvT Rd Ry O a b) (k : EnvT Rd Ry O b c) : EnvT Rd Ry O a c := ⟨Env0.trans O a b c h.env k.env, fun x hx => (k.rd x hx).trans (h.rd x hx), hR.trans _ _ _ h.live k.live⟩
/-- The library's word that it reads or writes a shared place. -/
def EvSaid (Sh : Nat → Prop) (e : Event) : Prop := (∃ a, e.loc = .mark (.read a) ∧ Sh a.block) ∨ (∃ a, e.loc = .mark (.write a) ∧ Sh a.block)
structure GuT (Rd Sh : Nat → Prop) (z : Prop) (O : Nat → Prop) (w w' : World) (es : Array Event) : Prop where
  tape : w'.tape = w.tape
  os : w'.os = w.os
  output : w'.output = w.output
  size : w.heap.size ≤ w'.heap.size
  kept : ∀ b, b < w.heap.size → ¬ O b → w'.heap[b]? = w.heap[b]?
  evs : ∀ e ∈ es, EvO (grow O w w') e ∨ EvR Rd e ∨ (z ∧ EvSaid Sh e)
inductive Seat (Tag : Type) where
  | at (s : Tag)
  | quit
  | blk (s : Tag)
def Seat.tag {Tag : Type} : Seat Tag → Option Tag
  | .at s => some s
  | .quit => none
  | .blk s => some s
def Seat.un {Tag : Type} : Seat Tag → Seat Tag
  | .blk s => .at s
  | x => x
theorem Seat.un_tag {Tag : Type} (x : Seat Tag) : x.un.tag = x.tag := by cases x <;> rfl
def Seat.up {Tag : Type} : Seat Tag → Nat
  | .blk _ => 0
  | _ => 1
structure GR (Tag : Type) where
  seat : Seat Tag
  rank : Rk
  own : Nat → Prop
  deaf : Nat
/-- What a step leaves alone. -/
structure SameW (Z : Nat → Prop) (w w' : World) : Prop where
  tape : w'.tape = w.tape
  os : w'.os = w.os
  output : w'.output = w.output
  size : w.heap.size ≤ w'.heap.size
  heap : ∀ b, Z b → w'.heap[b]? = w.heap[b]?
/-- What a team is. -/
structure Team where
  P : Program
  Tag : Type
  n0 : Nat
  M : Nat
  Sh : Nat → Prop
  Rd : Nat → Prop
  Live : World → Prop
  Ry : World → World → Prop
  Stop : Nat → Tag → (Nat → Prop) → Nat → Goroutine → World → Prop
  Gu : Nat → Tag → (Nat → Prop) → World → World → Array Event → Prop
  phi : (Nat → Option Tag) → Nat
  PM : Nat → (Nat → Seat Tag) → World → Trace → Prop
section
variable (T : Team)
def Team.Sits (i : Nat) (x : GR T.Tag) (g : Goroutine) (w : World) : Prop :=
  match x.seat with
  | .at s => OTr T.P (i == 0) (EnvT T.Rd T.Ry) (T.Gu i s) (T.Stop i s) x.rank x.own x.deaf g w
  | .quit => i ≠ 0 ∧ ∃ n, x.rank = Rk.nat n ∧ QuitsD T.P n x.deaf g
  | .blk s => ∃ g0 : Goroutine, g = { g0 with status := .blocked } ∧ g0.status = .running ∧ g0.offers = none ∧ ∀ w₁, EnvT T.Rd T.Ry x.own w w₁ → T.Stop i s x.own x.deaf g0 w₁
def Team.mayW (g g' : Goroutine) : Bool := mayWake T.P g && g'.status != .blocked && g'.status != .waiting
def Team.wake (g g' : Goroutine) (x : Nat → GR T.Tag) : Nat → GR T.Tag := fun k => if T.mayW g g' then { x k with seat := (x k).seat.un } else x k
def Team.mu (x : Nat → GR T.Tag) : Mu := (T.phi fun k => (x k).seat.tag, fun k => (x (k + 1)).rank, (x 0).seat.up, (x 0).rank)
/-- What the team's laws must be. -/
structure Team.Ok : Prop where
  n0 : 1 ≤ T.n0
  ry : Rely T.Ry
  other : ∀ N (se : Nat → Seat T.Tag) w w' t i k, T.PM N se w t → i < N → k < N → k ≠ i → se i ≠ .quit → se k ≠ .quit → SameW (fun b => T.Sh b ∨ T.Rd b) w w' → T.Ry w w'
  gu : ∀ i s O w w' es, T.Gu i s O w w' es → GuT T.Rd T.Sh (i = 0) O w w' es
  run : ∀ i s O d g w, T.Stop i s O d g w → g.status = .running
  live : ∀ w w', SameW (fun b => T.Sh b ∨ T.Rd b) w w' → T.Live w → T.Live w'
  idle : ∀ N i s (se : Nat → Seat T.Tag) (O : Nat → Prop) w w' es t fn pos, i < N → se i = .at s → (∀ b, O b → ¬ T.Sh b ∧ ¬ T.Rd b) → (∀ b, T.Sh b ∨ T.Rd b → w'.heap[b]? = w.heap[b]?) → w.heap.size ≤ w'.heap.size → (∀ b, T.Sh b ∨ T.Rd b → b < w.heap.size) → T.Gu i s O w w' es → T.PM N se w t → T.PM N se w' (t ++ MemOp.ofEvents i fn pos es)
  mute : ∀ N i (se : Nat → Seat T.Tag) w es t fn pos, i < N → i ≠ 0 → se i = .quit → (∀ e ∈ es, Event.mute e = true) → T.PM N se w t → T.PM N se w (t ++ MemOp.ofEvents i fn pos es)
  draw : ∀ N (se : Nat → Seat T.Tag) w d t, T.PM N se w t → T.PM N se (w.at d) t
  waken : ∀ N (se : Nat → Seat T.Tag) w t, T.PM N se w t → T.PM N (fun k => (se k).un) w t
  some1 : ∀ N (se : Nat → Seat T.Tag) w t, T.PM N se w t → ∃ i s, i < N ∧ se i = .at s
/-- What holds at each moment. -/
structure Team.Parts (gs : Array Goroutine) (w : World) (t : Trace) (x : Nat → GR T.Tag) : Prop where
  sits : ∀ i g, gs[i]? = some g → T.Sits i (x i) g w
  ge : GE T.Sh T.Rd (fun k => (x k).own) w.heap.size
  ti : TI T.Sh T.Rd T.n0 gs.size (fun k => (x k).own) w.heap.size t
  deaf : ∀ k, k < gs.size → Deaf t k = (x k).deaf
  pos : 1 ≤ gs.size
  wk : ∀ k, 1 ≤ k → (x k).seat ≠ .quit → T.n0 ≤ k
  pm : T.PM gs.size (fun k => (x k).seat) w t
  max : gs.size ≤ T.M + 1
  live : T.Live w
  out : ∀ k b, (x k).own b → k < gs.size ∧ (k = 0 ∨ T.n0 ≤ k)
end
section
variable {T : Team} {gs : Array Goroutine} {w w' : World} {t : Trace} {x : Nat → GR T.Tag} {g g' : Goroutine} {i : Nat}
theorem Team.Sits.rely (H : T.Ok) (h : T.Sits i (x i) g w) (he : EnvT T.Rd T.Ry (x i).own w w') : T.Sits i (x i) g w' := by
  unfold Team.Sits at h ⊢
  split at h
  · exact OTr.rely (EnvT.trans H.ry) h he
  · exact h
  · obtain ⟨g0, h1, h2, h3, h4⟩ := h
    exact ⟨g0, h1, h2, h3, fun w₂ h₂ => h4 w₂ (EnvT.trans H.ry _ _ _ _ he h₂)⟩
theorem Team.Sits.state (H : T.Ok) (h : T.Sits i (x i) g w) : (g.status = .running ∨ g.status = .finished) ∨ (∃ s, (x i).seat = .blk s) ∧ g.status = .blocked := by
  unfold Team.Sits at h
  split at h
  · exact .inl (.inl (OTr.running (EnvT.refl H.ry) (fun _ _ _ _ => H.run _ _ _ _ _ _) h))
  · exact .inl h.2.choose_spec.2.status
  · rename_i s hs
    obtain ⟨g0, h1, _⟩ := h
    exact .inr ⟨⟨s, hs⟩, by rw [h1]⟩
/-- Under another's step. -/
theorem Team.Sits.woken (H : T.Ok) (h : T.Sits i (x i) g w) (he : (x i).seat ≠ .quit → EnvT T.Rd T.Ry (x i).own w w') (a a' : Goroutine) : T.Sits i (T.wake a a' x i) (Go.Conc.woken T.P a a' w' g) w' := by
  have h0 : T.Sits i (x i) g w' := by
    by_cases hq : (x i).seat = .quit
    · unfold Team.Sits at h ⊢
      rw [hq] at h ⊢
      exact h
    · exact h.rely H (he hq)
  have hw : Go.Conc.woken T.P a a' w' g = if T.mayW a a' then g.again w' else g := by
    unfold Go.Conc.woken Team.mayW
    cases mayWake T.P a <;> cases (a'.status != .blocked) <;> cases (a'.status != .waiting) <;> rfl
  rw [hw]
  unfold Team.wake
  cases hc : T.mayW a a' with
  | false => simpa using h0
  | true =>
    simp only [if_true]
    unfold Team.Sits at h0 ⊢
    cases hs : (x i).seat with
    | «at» s =>
      rw [hs] at h0
      dsimp only [Seat.un] at h0 ⊢
      rw [again_running _ (.inl (OTr.running (EnvT.refl H.ry) (fun _ _ _ _ => H.run _ _ _ _ _ _) h0))]
      exact h0
    | quit =>
      rw [hs] at h0
      dsimp only [Seat.un] at h0 ⊢
      rw [again_running _ h0.2.choose_spec.2.status]
      exact h0
    | blk s =>
      rw [hs] at h0
      dsimp only [Seat.un] at h0 ⊢
      obtain ⟨g0, rfl, h2, h3, h4⟩ := h0
      rw [again_blocked h2 h3]
      exact .stop h4
theorem envT_of_gu (H : T.Ok) (hp : T.Parts gs w t x) {i k : Nat} {es : Array Event} (hk : k < gs.size) (hi : i < gs.size) (hik : k ≠ i) (h1 : (x i).seat ≠ .quit) (h2 : (x k).seat ≠ .quit) (hg : GuT T.Rd T.Sh (i = 0) (x i).own w w' es) : EnvT T.Rd T.Ry (x k).own w w' := by
  have hsr : ∀ b, T.Sh b ∨ T.Rd b → w'.heap[b]? = w.heap[b]? := fun b hb => hb.elim (fun h => hg.kept b (hp.ge.shlt b h) fun ho => hp.ge.sh i b ho h) (fun h => hg.kept b (hp.ge.rdlt b h) fun ho => hp.ge.rd i b ho h)
  exact ⟨⟨hg.tape, hg.os, hg.output, hg.size, fun b hb => hg.kept b (hp.ge.lt k b hb) fun ho => hik (hp.ge.apart k i b hb ho)⟩, fun b hb => hsr b (.inr hb), H.other _ _ _ _ _ _ _ hp.pm hi hk hik h1 h2 ⟨hg.tape, hg.os, hg.output, hg.size, hsr⟩⟩
theorem envT_at {Rd : Nat → Prop} {Ry : World → World → Prop} (hR : Rely Ry) (O : Nat → Prop) (w : World) (d : Nat) : EnvT Rd Ry O w (w.at d) :=
  ⟨⟨rfl, rfl, rfl, Nat.le_refl _, fun _ _ => rfl⟩, fun _ _ => rfl, hR.draw w d⟩
/-- A draw of the scheduler's. -/
theorem Team.Parts.draw (H : T.Ok) (hp : T.Parts gs w t x) (d : Nat) : T.Parts gs (w.at d) t x :=
  ⟨fun i g hi => (hp.sits i g hi).rely H (envT_at H.ry _ w d), hp.ge, hp.ti, hp.deaf, hp.pos, hp.wk, H.draw _ _ _ _ _ hp.pm, hp.max, H.live w (w.at d) ⟨rfl, rfl, rfl, Nat.le_refl _, fun _ _ => rfl⟩ hp.live, hp.out⟩
/-- Whatever step of one's own. -/
theorem Team.Parts.go (H : T.Ok) (hp : T.Parts gs w t x) (hi : gs[i]? = some g) {es : Array Event} (y : GR T.Tag) (henv : ∀ k, k < gs.size → k ≠ i → (x k).seat ≠ .quit → EnvT T.Rd T.Ry (x k).own w w') (hy : T.Sits i y g' w') (hge : GE T.Sh T.Rd (fun k => (upd (T.wake g g' x) i y k).own) w'.heap.size)
    (hgr : ∀ b, y.own b → (x i).own b ∨ w.heap.size ≤ b) (hgr2 : ∀ b, (x i).own b → i ≠ 0 → y.own b) (hsz : w.heap.size ≤ w'.heap.size) (hev : ∀ e ∈ es, EvO y.own e ∨ ((i = 0 ∨ T.n0 ≤ i) ∧ EvR T.Rd e) ∨ EvS T.Sh (i = 0) e) (hd : y.deaf = deafBehind (x i).deaf es) (hwk : 1 ≤ i → y.seat ≠ .quit → T.n0 ≤ i)
    (hpm : ∀ fn pos, T.PM gs.size (fun k => (upd (T.wake g g' x) i y k).seat) w' (t ++ MemOp.ofEvents i fn pos es)) (hl : T.Live w') (ho : ∀ b, y.own b → i = 0 ∨ T.n0 ≤ i) : T.Parts ((gs.map (woken T.P g g' w')).setIfInBounds i g') w' (t ++ MemOp.ofEvents i g.frame.fn g.frame.place es) (upd (T.wake g g' x) i y) := by
  have hlt : i < gs.size := (Array.getElem?_eq_some_iff.1 hi).1
  have hsize : ((gs.map (woken T.P g g' w')).setIfInBounds i g').size = gs.size := by simp
  have hown : ∀ k, (T.wake g g' x k).own = (x k).own := fun k => by unfold Team.wake; split <;> rfl
  have hdf : ∀ k, (T.wake g g' x k).deaf = (x k).deaf := fun k => by unfold Team.wake; split <;> rfl
  refine ⟨fun j z hj => ?_, hge, ?_, fun k hk => ?_, by rw [hsize]; exact hp.pos, fun k hk hq => ?_, by rw [hsize]; exact hpm _ _, by rw [hsize]; exact hp.max, hl, fun k b hb => ?_⟩
  · by_cases hji : j = i
    · subst hji
      rw [Array.getElem?_setIfInBounds_self_of_lt (by simpa using hlt)] at hj
      obtain rfl := Option.some.inj hj
      rw [upd_same]
      exact hy
    · rw [Array.getElem?_setIfInBounds_ne (Ne.symm hji), Array.getElem?_map] at hj
      obtain ⟨z0, hz, rfl⟩ := Option.map_eq_some_iff.1 hj
      rw [upd_ne _ _ hji]
      exact (hp.sits j z0 hz).woken H (henv j (Array.getElem?_eq_some_iff.1 hz).1 hji) g g'
  · rw [hsize]
    refine hp.ti.step hge hsz (fun k b k1 kj hb => ?_) (fun k b k1 kj hb => ?_) (by omega) (fun e he => ?_)
    · by_cases hki : k = i
      · subst hki; rw [upd_same] at hb; exact hgr b hb
      · rw [upd_ne _ _ hki, hown] at hb; exact .inl hb
    · by_cases hki : k = i
      · subst hki; rw [upd_same]; exact hgr2 b hb (by omega)
      · rw [upd_ne _ _ hki, hown]; exact hb
    · rw [upd_same]; exact hev e he
  · rw [hsize] at hk
    by_cases hki : k = i
    · subst hki; rw [upd_same, Deaf_own, hd, hp.deaf _ hk]
    · rw [upd_ne _ _ hki, hdf, Deaf_other t (g' := i) (fun e => hki e.symm) _ (fun op hop => by obtain ⟨e, _, rfl⟩ := Go.Conc.mem_ofEvents hop; rfl)]
      exact hp.deaf k hk
  · by_cases hki : k = i
    · subst hki; rw [upd_same] at hq; exact hwk hk hq
    · rw [upd_ne _ _ hki] at hq
      refine hp.wk k hk fun e => hq ?_
      unfold Team.wake
      split
      · show (x k).seat.un = _; rw [e]; rfl
      · exact e
  · rw [hsize]
    by_cases hki : k = i
    · subst hki; rw [upd_same] at hb; exact ⟨hlt, ho b hb⟩
    · rw [upd_ne _ _ hki, hown] at hb; exact hp.out k b hb
theorem Team.wake_tag (T : Team) (g g' : Goroutine) (x : Nat → GR T.Tag) (k : Nat) : (T.wake g g' x k).seat.tag = (x k).seat.tag := by
  unfold Team.wake; split
  · exact Seat.un_tag _
  · rfl
theorem Team.wake_rank (T : Team) (g g' : Goroutine) (x : Nat → GR T.Tag) (k : Nat) : (T.wake g g' x k).rank = (x k).rank := by
  unfold Team.wake; split <;> rfl
theorem Team.wake_own (T : Team) (g g' : Goroutine) (x : Nat → GR T.Tag) (k : Nat) : (T.wake g g' x k).own = (x k).own := by
  unfold Team.wake; split <;> rfl
/-- The measure falls where one's own rank does. -/
theorem Team.mu_fall (hp : gs.size ≤ T.M + 1) (hi : i < gs.size) (y : GR T.Tag) (hs : y.seat.tag = (x i).seat.tag) (hu : i = 0 → y.seat.up = (x 0).seat.up) (hr : Rk.Ch y.rank (x i).rank) : MuLt T.M (T.mu (upd (T.wake g g' x) i y)) (T.mu x) := by
  have e1 : (fun k => (upd (T.wake g g' x) i y k).seat.tag) = fun k => (x k).seat.tag := by
    funext k
    by_cases hki : k = i
    · subst hki; rw [upd_same]; exact hs
    · rw [upd_ne _ _ hki]; exact T.wake_tag g g' x k
  unfold Team.mu
  rw [e1]
  rcases Nat.eq_zero_or_pos i with rfl | hpos
  · have e2 : (fun k => (upd (T.wake g g' x) 0 y (k + 1)).rank) = fun k => (x (k + 1)).rank := by
      funext k
      rw [upd_ne _ _ (Nat.succ_ne_zero k)]
      exact T.wake_rank g g' x _
    rw [e2, upd_same, hu rfl]
    exact .first hr
  · refine .other ⟨i - 1, by omega, ?_, fun j hj => ?_⟩
    · show Rk.Ch (upd (T.wake g g' x) i y (i - 1 + 1)).rank (x (i - 1 + 1)).rank
      rw [show i - 1 + 1 = i by omega, upd_same]
      exact hr
    · show (upd (T.wake g g' x) i y (j + 1)).rank = (x (j + 1)).rank
      rw [upd_ne _ _ (by omega)]
      exact T.wake_rank g g' x _
/-- The measure falls where the number does. -/
theorem Team.mu_num {x' : Nat → GR T.Tag} (h : T.phi (fun k => (x' k).seat.tag) < T.phi fun k => (x k).seat.tag) : MuLt T.M (T.mu x') (T.mu x) := .num h
end
end Go.Proofs.Ytgfgoflhmikalaa.par

namespace Go.Proofs.Ytgfgoflhmikalaa.par
open Go Go.Conc
set_option linter.unusedVariables false
set_option linter.unusedSimpArgs false
section
variable {T : Team} {gs : Array Goroutine} {w w' : World} {t : Trace} {x : Nat → GR T.Tag} {g g' : Goroutine} {i : Nat}
/-- A go statement of the first one's. -/
theorem Team.Parts.fork (H : T.Ok) (hp : T.Parts gs w t x) (hi : gs[0]? = some g) {child : Goroutine} (y c : GR T.Tag) (hy : T.Sits 0 y g' w) (hc : T.Sits gs.size c child w)
    (hyo : ∀ b, y.own b → (x 0).own b) (hco : ∀ b, c.own b → (x 0).own b) (hyc : ∀ b, y.own b → ¬ c.own b) (hd : (x 0).deaf = 0) (hyd : y.deaf = 0) (hcd : c.deaf = 0) (hn : T.n0 ≤ gs.size) (hM : gs.size ≤ T.M)
    (u : Trace) (hu : ∃ a b : MemOp, u = #[a, b] ∧ (a.g = 0 ∧ a.act = .go gs.size) ∧ (b.g = gs.size ∧ b.act = .start))
    (hpm : T.PM (gs.size + 1) (fun k => (upd (upd x 0 y) gs.size c k).seat) w (t ++ u)) : T.Parts ((gs.setIfInBounds 0 g').push child) w (t ++ u) (upd (upd x 0 y) gs.size c) := by
  obtain ⟨a, b, rfl, ha, hb⟩ := hu
  have hlt : 0 < gs.size := (Array.getElem?_eq_some_iff.1 hi).1
  have hsize : ((gs.setIfInBounds 0 g').push child).size = gs.size + 1 := by simp
  have hr : ∀ k, k ≠ 0 → k ≠ gs.size → upd (upd x 0 y) gs.size c k = x k := fun k h1 h2 => by rw [upd_ne _ _ h2, upd_ne _ _ h1]
  have hr0 : upd (upd x 0 y) gs.size c 0 = y := by rw [upd_ne _ _ (by omega), upd_same]
  have hrc : upd (upd x 0 y) gs.size c gs.size = c := upd_same _ _ _
  have hsub : ∀ k b, (upd (upd x 0 y) gs.size c k).own b → ((k = 0 ∧ y.own b) ∨ (k = gs.size ∧ c.own b) ∨ (k ≠ 0 ∧ k ≠ gs.size ∧ (x k).own b)) := by
    intro k b hb
    by_cases h1 : k = 0
    · subst h1; rw [hr0] at hb; exact .inl ⟨rfl, hb⟩
    · by_cases h2 : k = gs.size
      · subst h2; rw [hrc] at hb; exact .inr (.inl ⟨rfl, hb⟩)
      · rw [hr k h1 h2] at hb; exact .inr (.inr ⟨h1, h2, hb⟩)
  have hanc : ∀ k b, (upd (upd x 0 y) gs.size c k).own b → ∃ k', (x k').own b := by
    intro k b hb
    rcases hsub k b hb with ⟨_, h⟩ | ⟨_, h⟩ | ⟨_, _, h⟩
    · exact ⟨0, hyo b h⟩
    · exact ⟨0, hco b h⟩
    · exact ⟨k, h⟩
  have hge : GE T.Sh T.Rd (fun k => (upd (upd x 0 y) gs.size c k).own) w.heap.size := by
    refine ⟨fun k b hb => ?_, fun k k' b h1 h2 => ?_, fun k b hb => ?_, fun k b hb => ?_, hp.ge.shlt, hp.ge.rdlt, hp.ge.shrd⟩
    · obtain ⟨k', h⟩ := hanc k b hb; exact hp.ge.lt k' b h
    · rcases hsub k b h1 with ⟨e1, h1⟩ | ⟨e1, h1⟩ | ⟨e1, e1', h1⟩ <;> rcases hsub k' b h2 with ⟨e2, h2⟩ | ⟨e2, h2⟩ | ⟨e2, e2', h2⟩
      · omega
      · exact absurd h2 (hyc b h1)
      · exact absurd (hp.ge.apart 0 k' b (hyo b h1) h2).symm e2
      · exact absurd h1 (hyc b h2)
      · omega
      · exact absurd (hp.ge.apart 0 k' b (hco b h1) h2).symm e2
      · exact absurd (hp.ge.apart k 0 b h1 (hyo b h2)) e1
      · exact absurd (hp.ge.apart k 0 b h1 (hco b h2)) e1
      · exact hp.ge.apart k k' b h1 h2
    · obtain ⟨k', h⟩ := hanc k b hb; exact hp.ge.sh k' b h
    · obtain ⟨k', h⟩ := hanc k b hb; exact hp.ge.rd k' b h
  have hno : ∀ op ∈ (#[a, b] : Array MemOp), op.act ≠ .mark .disable ∧ op.act ≠ .mark .enable := by
    intro op hop
    simp only [List.mem_toArray, List.mem_cons, List.not_mem_nil, or_false] at hop
    rcases hop with rfl | rfl
    · rw [ha.2]; exact ⟨by simp, by simp⟩
    · rw [hb.2]; exact ⟨by simp, by simp⟩
  refine ⟨fun j z hj => ?_, hge, ?_, fun k hk => ?_, by rw [hsize]; omega, fun k hk hq => ?_, by rw [hsize]; exact hpm, by rw [hsize]; omega, hp.live, fun k b hb => ?_⟩
  · rw [Array.getElem?_push] at hj
    split at hj
    · rename_i e
      obtain rfl := Option.some.inj hj
      have : j = gs.size := by simpa using e
      subst this
      rw [hrc]
      exact hc
    · rename_i e
      have hjn : j ≠ gs.size := by simpa using e
      by_cases h1 : j = 0
      · subst h1
        rw [Array.getElem?_setIfInBounds_self_of_lt hlt] at hj
        obtain rfl := Option.some.inj hj
        rw [hr0]
        exact hy
      · rw [Array.getElem?_setIfInBounds_ne (Ne.symm h1)] at hj
        rw [hr j h1 hjn]
        exact hp.sits j z hj
  · rw [hsize]
    refine hp.ti.fork hge (fun k k1 kj => ?_) hp.pos ha hb (by rw [hp.deaf 0 hlt, hd])
    rw [hr k (by omega) (by omega)]
  · rw [hsize] at hk
    rw [Go.ConcN.Deaf_still t k _ hno]
    by_cases h1 : k = 0
    · subst h1; rw [hr0, hyd, hp.deaf 0 hlt, hd]
    · by_cases h2 : k = gs.size
      · subst h2; rw [hrc, hcd]; exact hp.ti.absent hp.pos (Nat.le_refl _)
      · rw [hr k h1 h2]; exact hp.deaf k (by omega)
  · by_cases h2 : k = gs.size
    · omega
    · rw [hr k (by omega) h2] at hq; exact hp.wk k hk hq
  · rw [hsize]
    rcases hsub k b hb with ⟨e, _⟩ | ⟨e, _⟩ | ⟨_, _, h⟩
    · exact ⟨by omega, .inl e⟩
    · exact ⟨by omega, .inr (by omega)⟩
    · have := hp.out k b h; exact ⟨by omega, this.2⟩
/-- An idle step. -/
theorem Team.Parts.idle (H : T.Ok) (hp : T.Parts gs w t x) (hi : gs[i]? = some g) {es : Array Event} {s : T.Tag} {r : Rk} (hs : (x i).seat = .at s) (hg : T.Gu i s (x i).own w w' es)
    (hn : OTr T.P (i == 0) (EnvT T.Rd T.Ry) (T.Gu i s) (T.Stop i s) r (grow (x i).own w w') (deafBehind (x i).deaf es) g' w') :
    T.Parts ((gs.map (woken T.P g g' w')).setIfInBounds i g') w' (t ++ MemOp.ofEvents i g.frame.fn g.frame.place es) (upd (T.wake g g' x) i ⟨.at s, r, grow (x i).own w w', deafBehind (x i).deaf es⟩) := by
  have hgt := H.gu _ _ _ _ _ _ hg
  have hlt : i < gs.size := (Array.getElem?_eq_some_iff.1 hi).1
  have hsr : ∀ b, T.Sh b ∨ T.Rd b → w'.heap[b]? = w.heap[b]? := fun b hb => hb.elim (fun h => hgt.kept b (hp.ge.shlt b h) fun ho => hp.ge.sh i b ho h) (fun h => hgt.kept b (hp.ge.rdlt b h) fun ho => hp.ge.rd i b ho h)
  have hn0 : 1 ≤ i → T.n0 ≤ i := fun h => hp.wk i h (by rw [hs]; intro e; cases e)
  have hsub : ∀ k b, (upd (T.wake g g' x) i ⟨.at s, r, grow (x i).own w w', deafBehind (x i).deaf es⟩ k).own b → (x k).own b ∨ (k = i ∧ w.heap.size ≤ b ∧ b < w'.heap.size) := by
    intro k b hb
    by_cases hki : k = i
    · subst hki
      rw [upd_same] at hb
      exact hb.imp id fun h => ⟨rfl, h⟩
    · rw [upd_ne _ _ hki, T.wake_own] at hb
      exact .inl hb
  refine hp.go H hi _ (fun k hk hki hq => envT_of_gu H hp hk hlt hki (by rw [hs]; intro e; cases e) hq hgt) hn ⟨fun k b hb => ?_, fun k k' b h1 h2 => ?_, fun k b hb => ?_, fun k b hb => ?_, fun b hb => Nat.lt_of_lt_of_le (hp.ge.shlt b hb) hgt.size, fun b hb => Nat.lt_of_lt_of_le (hp.ge.rdlt b hb) hgt.size, hp.ge.shrd⟩
    (fun b hb => hb.imp id (·.1)) (fun b hb _ => .inl hb) hgt.size (fun e he => (hgt.evs e he).imp id fun h => h.imp (fun h => ⟨(Nat.eq_zero_or_pos i).imp id hn0, h⟩) fun h => .inr (.inr h)) rfl (fun h _ => hn0 h) (fun fn pos => ?_) (H.live _ _ ⟨hgt.tape, hgt.os, hgt.output, hgt.size, hsr⟩ hp.live) (fun b hb => hb.elim (fun h => (hp.out i b h).2) fun _ => (Nat.eq_zero_or_pos i).imp id hn0)
  · rcases hsub k b hb with h | ⟨_, _, h⟩
    · exact Nat.lt_of_lt_of_le (hp.ge.lt k b h) hgt.size
    · exact h
  · rcases hsub k b h1 with h1 | ⟨e1, h1, _⟩ <;> rcases hsub k' b h2 with h2 | ⟨e2, h2, _⟩
    · exact hp.ge.apart k k' b h1 h2
    · have := hp.ge.lt k b h1; omega
    · have := hp.ge.lt k' b h2; omega
    · omega
  · rcases hsub k b hb with h | ⟨_, h, _⟩
    · exact hp.ge.sh k b h
    · intro hh; have := hp.ge.shlt b hh; omega
  · rcases hsub k b hb with h | ⟨_, h, _⟩
    · exact hp.ge.rd k b h
    · intro hh; have := hp.ge.rdlt b hh; omega
  · have hid := H.idle gs.size i s (fun k => (x k).seat) (x i).own w w' es t fn pos hlt hs (fun b hb => ⟨hp.ge.sh i b hb, hp.ge.rd i b hb⟩) hsr hgt.size (fun b hb => hb.elim (hp.ge.shlt b) (hp.ge.rdlt b)) hg hp.pm
    have e0 : ∀ k, k = i → (⟨.at s, r, grow (x i).own w w', deafBehind (x i).deaf es⟩ : GR T.Tag).seat = (x k).seat := fun k e => by rw [e, hs]
    cases hm : T.mayW g g' with
    | false =>
      have e1 : (fun k => (upd (T.wake g g' x) i ⟨.at s, r, grow (x i).own w w', deafBehind (x i).deaf es⟩ k).seat) = fun k => (x k).seat := by
        funext k
        by_cases hki : k = i
        · rw [hki, upd_same]; exact hs.symm
        · rw [upd_ne _ _ hki]; unfold Team.wake; rw [hm]; rfl
      rw [e1]; exact hid
    | true =>
      have e1 : (fun k => (upd (T.wake g g' x) i ⟨.at s, r, grow (x i).own w w', deafBehind (x i).deaf es⟩ k).seat) = fun k => ((x k).seat).un := by
        funext k
        by_cases hki : k = i
        · rw [hki, upd_same, hs]; rfl
        · rw [upd_ne _ _ hki]; unfold Team.wake; rw [hm]; rfl
      rw [e1]; exact H.waken _ _ _ _ hid
/-- A step of one who only leaves. -/
theorem Team.Parts.slip (H : T.Ok) (hp : T.Parts gs w t x) (hi : gs[i]? = some g) {es : Array Event} {n : Nat} (hs : (x i).seat = .quit) (h0 : i ≠ 0) (hm : ∀ e ∈ es, Event.mute e = true) (hq : QuitsD T.P n (deafBehind (x i).deaf es) g') :
    T.Parts ((gs.map (woken T.P g g' w)).setIfInBounds i g') w (t ++ MemOp.ofEvents i g.frame.fn g.frame.place es) (upd (T.wake g g' x) i ⟨.quit, Rk.nat n, (x i).own, deafBehind (x i).deaf es⟩) := by
  have hlt : i < gs.size := (Array.getElem?_eq_some_iff.1 hi).1
  have hown : ∀ k, (upd (T.wake g g' x) i ⟨.quit, Rk.nat n, (x i).own, deafBehind (x i).deaf es⟩ k).own = (x k).own := by
    intro k
    by_cases hki : k = i
    · rw [hki, upd_same]
    · rw [upd_ne _ _ hki, T.wake_own]
  refine hp.go H hi _ (fun k _ _ _ => EnvT.refl H.ry _ _) ⟨h0, n, rfl, hq⟩ ?_ (fun b hb => .inl hb) (fun b hb _ => hb) (Nat.le_refl _) (fun e he => .inl ?_) rfl (fun _ h => absurd rfl h) (fun fn pos => ?_) hp.live (fun b hb => (hp.out i b hb).2)
  · have : (fun k => (upd (T.wake g g' x) i ⟨.quit, Rk.nat n, (x i).own, deafBehind (x i).deaf es⟩ k).own) = fun k => (x k).own := funext hown
    rw [this]
    exact hp.ge
  · have := hm e he
    obtain ⟨loc, wr, sy⟩ := e
    cases loc with
    | mark m => cases m <;> first | trivial | (simp [Event.mute] at this)
    | _ => simp [Event.mute] at this
  · have hid := H.mute gs.size i (fun k => (x k).seat) w es t fn pos hlt h0 hs hm hp.pm
    cases hm : T.mayW g g' with
    | false =>
      have e1 : (fun k => (upd (T.wake g g' x) i ⟨.quit, Rk.nat n, (x i).own, deafBehind (x i).deaf es⟩ k).seat) = fun k => (x k).seat := by
        funext k
        by_cases hki : k = i
        · rw [hki, upd_same]; exact hs.symm
        · rw [upd_ne _ _ hki]; unfold Team.wake; rw [hm]; rfl
      rw [e1]; exact hid
    | true =>
      have e1 : (fun k => (upd (T.wake g g' x) i ⟨.quit, Rk.nat n, (x i).own, deafBehind (x i).deaf es⟩ k).seat) = fun k => ((x k).seat).un := by
        funext k
        by_cases hki : k = i
        · rw [hki, upd_same, hs]; rfl
        · rw [upd_ne _ _ hki]; unfold Team.wake; rw [hm]; rfl
      rw [e1]; exact H.waken _ _ _ _ hid
/-- THE TEAM's LAW: whatever holds at the stops, holds. -/
theorem Team.law (H : T.Ok) (K : Machine → Trace → Prop) (hback : ∀ m t m' ops, stepT T.P m = (.next m', ops) → K m' (t ++ ops) → K m t) (fin : T.Tag → Prop)
    (hfin : ∀ gs w sl t x s, T.Parts gs w t x → (x 0).seat = .at s → fin s → (∀ g, gs[0]? = some g → ∀ w₁, EnvT T.Rd T.Ry (x 0).own w w₁ → T.Stop 0 s (x 0).own (x 0).deaf g w₁) → K (crowd gs w sl) t)
    (hproto : ∀ gs w sl m t x i s g, T.Parts gs w t x → gs[i]? = some g → (x i).seat = .at s → ¬ (i = 0 ∧ fin s) → (∀ w₁, EnvT T.Rd T.Ry (x i).own w w₁ → T.Stop i s (x i).own (x i).deaf g w₁) → stepT T.P m = runT T.P (crowd gs w sl) i →
      (∀ gs' w' sl' t' x', T.Parts gs' w' t' x' → MuLt T.M (T.mu x') (T.mu x) → K (crowd gs' w' sl') t') → K m t) :
    ∀ x gs w sl t, T.Parts gs w t x → K (crowd gs w sl) t := by
  have key : ∀ μ : Mu, ∀ x gs w sl t, T.mu x = μ → T.Parts gs w t x → K (crowd gs w sl) t := by
    intro μ
    induction μ using (muLt_wf T.M).induction with
    | _ μ ih =>
    intro x gs w sl t hμ hp
    subst hμ
    by_cases hF : ∃ s, (x 0).seat = .at s ∧ fin s ∧ (∀ g, gs[0]? = some g → ∀ w₁, EnvT T.Rd T.Ry (x 0).own w w₁ → T.Stop 0 s (x 0).own (x 0).deaf g w₁)
    · obtain ⟨s, h1, h2, h3⟩ := hF
      exact hfin gs w sl t x s hp h1 h2 h3
    have haw : ∀ g ∈ gs, awake g := by
      intro g hg
      obtain ⟨i, hi, rfl⟩ := Array.mem_iff_getElem.1 hg
      rcases (hp.sits i _ (Array.getElem?_eq_getElem hi)).state H with (h | h) | ⟨_, h⟩
      · exact awake_of (.inl h)
      · exact awake_of (.inr (.inr h))
      · exact awake_of (.inr (.inl h))
    have hrun1 : ∃ (i : Nat) (g : Goroutine), gs[i]? = some g ∧ g.status = .running := by
      obtain ⟨i, s, hi, hs⟩ := H.some1 _ _ _ _ hp.pm
      refine ⟨i, gs[i], Array.getElem?_eq_getElem hi, ?_⟩
      have := hp.sits i _ (Array.getElem?_eq_getElem hi)
      unfold Team.Sits at this
      rw [hs] at this
      exact OTr.running (EnvT.refl H.ry) (fun _ _ _ _ => H.run _ _ _ _ _ _) this
    obtain ⟨i, g, d, sl', hi, hg, hst⟩ := crowd_pick (P := T.P) (w := w) (sl := sl) haw hrun1
    have hlt : i < gs.size := (Array.getElem?_eq_some_iff.1 hi).1
    have hpd := hp.draw H d
    have hsit := hp.sits i g hi
    have hE : EnvT T.Rd T.Ry (x i).own w (w.at d) := envT_at H.ry _ w d
    unfold Team.Sits at hsit
    cases hseat : (x i).seat with
    | «at» s =>
      rw [hseat] at hsit
      dsimp only at hsit
      generalize hr : (x i).rank = r at hsit
      cases hsit with
      | stop hS =>
        refine hproto gs (w.at d) sl' _ t x i s g hpd hi hseat (fun ⟨e, hf⟩ => ?_) (fun w₁ h₁ => hS _ (EnvT.trans H.ry _ _ _ _ hE h₁)) hst fun gs' w' sl'' t' x' hp' hlt' => ih _ hlt' x' gs' w' sl'' t' rfl hp'
        subst e
        exact hF ⟨s, hseat, hf, fun g' hg' => by rw [hi] at hg'; cases hg'; exact hS⟩
      | @step rf _ _ _ _ hrn g' w' es hgo hgu hih =>
        have h1 := runT_crowd_go (P := T.P) (sl := sl') (i := i) hi (hgo (w.at d) hE)
        have hp' := hpd.idle H hi hseat (hgu _ hE) (hih _ hE)
        exact hback _ _ _ _ (hst.trans h1) (ih _ (T.mu_fall hp.max hlt _ (by rw [hseat]) (fun e => by subst e; rw [hseat]) (by rw [hr]; exact .mk rf _)) _ _ _ _ _ rfl hp')
    | quit =>
      rw [hseat] at hsit
      dsimp only at hsit
      obtain ⟨h0, n, hrk, hq⟩ := hsit
      cases n with
      | zero => rw [hq.1] at hg; cases hg
      | succ n =>
        rcases hq with ⟨hf, _⟩ | ⟨_, g', es, hm, hstp, hq'⟩
        · rw [hf] at hg; cases hg
        have hi0 : (i == 0) = false := by simpa using h0
        have h1 := runT_crowd_go (P := T.P) (sl := sl') (i := i) hi (by rw [hi0]; exact hstp (w.at d))
        have hp' := hpd.slip H hi hseat h0 hm hq'
        exact hback _ _ _ _ (hst.trans h1) (ih _ (T.mu_fall hp.max hlt _ (by rw [hseat]) (fun e => absurd e h0) (by rw [hrk]; exact Rk.nat_ch n)) _ _ _ _ _ rfl hp')
    | blk s =>
      rw [hseat] at hsit
      obtain ⟨g0, h1, _⟩ := hsit
      rw [h1] at hg
      cases hg
  exact fun x gs w sl t hp => key _ x gs w sl t rfl hp
end
end Go.Proofs.Ytgfgoflhmikalaa.par
