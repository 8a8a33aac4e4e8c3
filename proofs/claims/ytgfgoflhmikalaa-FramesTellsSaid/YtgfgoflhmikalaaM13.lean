/- Part 13 of what the proofs stand on: lemmas on worlds, on goroutines, contracts of functions. No conditions. -/
import Derived.Test.YtgfgoflhmikalaaM12
import Derived.Conc.CrowdInv
namespace Go.Proofs.Ytgfgoflhmikalaa.par
open Go Go.Conc
set_option linter.unusedVariables false
set_option linter.unusedSimpArgs false
def none1 : Nat → Prop := fun _ => False
def Ry1 (w w₁ : World) : Prop := w₁.heap = w.heap
theorem ry1 : Rely Ry1 := ⟨fun _ => rfl, fun _ _ _ h k => Eq.trans k h, fun _ _ => rfl⟩
abbrev Env1 : (Nat → Prop) → World → World → Prop := EnvT none1 Ry1
/-- Those blocks are not touched. -/
def Av (U : Nat → Prop) (es : Array Event) : Prop := ∀ e ∈ es, (∀ x, (MemAct.ofEvent e).touch? = some x → ¬ inB U x.loc) ∧ ∀ a, MemAct.ofEvent e = .mark (.release a) → ¬ U a.block
def UnT (U : Nat → Prop) (t : Trace) : Prop := ∀ op ∈ t, (∀ x, op.act.touch? = some x → ¬ inB U x.loc) ∧ ∀ a, op.act = .mark (.release a) → ¬ U a.block
theorem UnT.app {U : Nat → Prop} {t : Trace} (h : UnT U t) {i : Nat} {fn : FuncId} {pos : String} {es : Array Event} (he : Av U es) : UnT U (t ++ MemOp.ofEvents i fn pos es) := fun op hop => (Array.mem_append.1 hop).elim (fun hop => h op hop) fun hop => by
  obtain ⟨e, h1, rfl⟩ := Go.Conc.mem_ofEvents hop
  exact he e h1
theorem rel_mute {e : Event} (h : Event.mute e = true) (a : Addr) : MemAct.ofEvent e ≠ .mark (.release a) := by
  obtain ⟨loc, wr, sy⟩ := e
  intro hh
  cases loc with
  | mark m =>
    have e1 : m = .release a := by
      have : MemAct.ofEvent ⟨.mark m, wr, sy⟩ = .mark m := rfl
      rw [this] at hh
      injection hh
    subst e1
    simp [Event.mute] at h
  | _ => cases wr <;> cases sy <;> cases hh
abbrev Gu1 : (Nat → Prop) → World → World → Array Event → Prop := GuT none1 none1 False
structure Camp (P : Program) (S : Nat → Prop) (gs : Array Goroutine) (w : World) (t : Trace) (O : Nat → Prop) (q : Nat → Nat) : Prop where
  old : ∀ i g, i ≠ 0 → gs[i]? = some g → QuitsD P (q i) (Deaf t i) g
  ge : GE S none1 (fun k b => k = 0 ∧ O b) w.heap.size
  ti : TI S none1 1 gs.size (fun k b => k = 0 ∧ O b) w.heap.size t
  hear : Deaf t 0 = 0
  pos : 1 ≤ gs.size
  over : t.HandedOver
/-- The team of one. -/
def solo1 (P : Program) (M : Nat) (S U : Nat → Prop) (Fin : (Nat → Prop) → Goroutine → World → Prop) : Team where
  P := P
  Tag := Unit
  n0 := M + 1
  M := M
  Sh := S
  Rd := none1
  Live := fun _ => True
  Ry := Ry1
  Stop := fun _ _ O d g w => d = 0 ∧ g.status = .running ∧ Fin O g w
  Gu := fun _ _ O w w' es => Gu1 O w w' es ∧ Av U es
  phi := fun _ => 0
  PM := fun N se _ t => t.HandedOver ∧ se 0 = .at () ∧ 1 ≤ N ∧ (∀ k, 1 ≤ k → k < N → se k = .quit) ∧ UnT U t
theorem solo1_ok (P : Program) (M : Nat) (S U : Nat → Prop) (Fin : (Nat → Prop) → Goroutine → World → Prop) : (solo1 P M S U Fin).Ok := by
  refine ⟨Nat.succ_le_succ (Nat.zero_le _), ry1, fun N se w w' t i k h hi hk hne h1 h2 _ => ?_, fun _ _ _ _ _ _ ⟨h, _⟩ => ⟨h.tape, h.os, h.output, h.size, h.kept, fun e he => (h.evs e he).imp id fun h => h.imp id fun h => h.1.elim⟩, fun _ _ _ _ _ _ h => h.2.1, fun _ _ _ _ => trivial, ?_, ?_, fun N se w d t h => h, ?_, fun N se w t h => ⟨0, (), h.2.2.1, h.2.1⟩⟩
  · exfalso
    have z : ∀ j, j < N → se j ≠ .quit → j = 0 := fun j hj hq => by
      rcases Nat.eq_zero_or_pos j with h0 | h0
      · exact h0
      · exact absurd (h.2.2.2.1 j h0 hj) hq
    exact hne ((z k hk h2).trans (z i hi h1).symm)
  · intro N i s se O w w' es t fn pos hi hs _ _ _ _ hg h
    have h0 : i = 0 := by
      rcases Nat.eq_zero_or_pos i with h0 | h0
      · exact h0
      · rw [h.2.2.2.1 i h0 hi] at hs; cases hs
    subst h0
    exact ⟨handedOver_app h.1 fun op hop => by obtain ⟨e, _, rfl⟩ := Go.Conc.mem_ofEvents hop; exact .inl rfl, h.2.1, h.2.2.1, h.2.2.2.1, h.2.2.2.2.app hg.2⟩
  · intro N i se w es t fn pos hi h0 hs hm h
    exact ⟨handedOver_app h.1 fun op hop => by obtain ⟨e, he, rfl⟩ := Go.Conc.mem_ofEvents hop; exact .inr (touch_mute (hm e he)), h.2.1, h.2.2.1, h.2.2.2.1, h.2.2.2.2.app fun e he => ⟨(fun x hx => by rw [touch_mute (hm e he)] at hx; cases hx), fun a ha => absurd ha (rel_mute (hm e he) a)⟩⟩
  · intro N se w t h
    refine ⟨h.1, ?_, h.2.2.1, fun k k1 kN => ?_, h.2.2.2.2⟩
    · show (se 0).un = _; rw [h.2.1]; rfl
    · show (se k).un = _; rw [h.2.2.2.1 k k1 kN]; rfl
section
variable {P : Program} {S : Nat → Prop}
/-- Other own blocks. -/
theorem Camp.reO {gs : Array Goroutine} {w : World} {t : Trace} {O O' : Nat → Prop} {q : Nat → Nat} (h : Camp P S gs w t O q) (h1 : ∀ b, O' b → b < w.heap.size) (h2 : ∀ b, O' b → ¬ S b) : Camp P S gs w t O' q :=
  ⟨h.old, ⟨fun k b hb => h1 b hb.2, fun k k' b ha hb => by rw [ha.1, hb.1], fun k b hb => h2 b hb.2, fun _ _ _ h => h, h.ge.shlt, fun _ h => h.elim, fun _ h => h.elim⟩, h.ti.reown (fun k b k1 _ hb => by omega) (fun k b k1 _ hb => by omega) (Nat.le_refl _), h.hear, h.pos, h.over⟩
/-- BESIDE THOSE WHO ONLY LEAVE. -/
theorem beside_law (K : Machine → Trace → Prop) (hback : ∀ m t m' ops, stepT P m = (.next m', ops) → K m' (t ++ ops) → K m t) (U : Nat → Prop) (Fin : (Nat → Prop) → Goroutine → World → Prop)
    (hfin : ∀ gs w sl t O q a, Camp P S gs w t O q → UnT U t → gs[0]? = some a → a.status = .running → (∀ w₁, Env1 O w w₁ → Fin O a w₁) → K (crowd gs w sl) t) (gs : Array Goroutine) (w : World) (sl : Option (Nat × Nat)) (t : Trace) (O : Nat → Prop) (q : Nat → Nat) (a : Goroutine)
    (hc : Camp P S gs w t O q) (hu : UnT U t) (ha : gs[0]? = some a) (hO : OT P true Env1 (fun O w w' es => Gu1 O w w' es ∧ Av U es) (fun O d g w => d = 0 ∧ g.status = .running ∧ Fin O g w) O 0 a w) : K (crowd gs w sl) t := by
  have hlt : 0 < gs.size := hc.pos
  obtain ⟨r, hr⟩ := hO.ranked
  let T := solo1 P gs.size S U Fin
  let x : Nat → GR Unit := fun k => if k = 0 then ⟨.at (), r, O, 0⟩ else ⟨.quit, Rk.nat (q k), none1, Deaf t k⟩
  have hown : (fun k => (x k).own) = fun k b => k = 0 ∧ O b := by
    funext k b
    by_cases hk : k = 0
    · simp [x, hk]
    · simp [x, hk, none1]
  have hp : T.Parts gs w t x := by
    refine ⟨fun i g hi => ?_, ?_, ?_, fun k hk => ?_, hc.pos, fun k k1 hq => ?_, ?_, Nat.le_succ _, trivial, fun k b hb => ?_⟩
    · by_cases h0 : i = 0
      · subst h0
        rw [ha] at hi
        obtain rfl := Option.some.inj hi
        exact hr
      · show T.Sits i (x i) g w
        simp only [x, if_neg h0]
        exact ⟨h0, q i, rfl, hc.old i g h0 hi⟩
    · rw [hown]; exact hc.ge
    · rw [hown]
      refine ⟨⟨hc.ti.ct.quiet, hc.ti.ct.own, fun k _ _ l hl => ?_, fun l hs hl => hc.ti.ct.free l hs fun k k1 kj => ⟨(hl k k1 kj).1, fun h => ?_⟩, hc.ti.ct.mine, hc.ti.ct.nr, hc.ti.ct.gs⟩, hc.ti.seen⟩
      · obtain ⟨b, h, _⟩ := inB.two hl.2 hl.2; exact h.elim
      · obtain ⟨b, h, _⟩ := inB.two h.2 h.2; exact h.elim
    · by_cases h0 : k = 0
      · subst h0; exact hc.hear
      · simp [x, h0]
    · exact absurd (show (x k).seat = .quit from by simp only [x, if_neg (show k ≠ 0 by omega)]) hq
    · exact ⟨hc.over, rfl, hc.pos, fun k k1 _ => by
        show (x k).seat = _
        simp only [x, if_neg (show k ≠ 0 by omega)], hu⟩
    · by_cases h0 : k = 0
      · exact ⟨by omega, .inl h0⟩
      · simp [x, h0, none1] at hb
  refine T.law (solo1_ok P gs.size S U Fin) K hback (fun _ => True) (fun gs' w' sl' t' x' s hp' hs' _ hS => ?_) (fun gs' w' sl' m t' x' i s g hp' hi hs' hn hS hst _ => ?_) x gs w sl t hp
  · have h0' : 0 < gs'.size := hp'.pos
    have hq : ∀ k, 1 ≤ k → k < gs'.size → (x' k).seat = .quit := hp'.pm.2.2.2.1
    have hSt := hS gs'[0] (Array.getElem?_eq_getElem h0')
    have hd : (x' 0).deaf = 0 := (hSt w' (EnvT.refl ry1 _ _)).1
    have hO2 : ∀ k b, (x' k).own b → k = 0 := fun k b hb => by
      have h1 := hp'.out k b hb
      have h2 : gs'.size ≤ gs.size + 1 := hp'.max
      rcases h1.2 with h | h
      · exact h
      · have h3 : gs.size + 1 ≤ k := h
        omega
    refine hfin gs' w' sl' t' (x' 0).own (fun k => if h : k ≠ 0 ∧ k < gs'.size then (show ∃ n, (x' k).rank = Rk.nat n ∧ QuitsD P n (x' k).deaf gs'[k] from by
        have h4 := hp'.sits k _ (Array.getElem?_eq_getElem h.2)
        unfold Team.Sits at h4
        rw [hq k (by omega) h.2] at h4
        exact h4.2).choose else 0) gs'[0] ⟨fun i g h0 hi => ?_, ?_, ?_, ?_, hp'.pos, hp'.pm.1⟩ hp'.pm.2.2.2.2 (Array.getElem?_eq_getElem h0') (hSt w' (EnvT.refl ry1 _ _)).2.1 (fun w₁ hw => (hSt w₁ hw).2.2)
    · have hil : i < gs'.size := (Array.getElem?_eq_some_iff.1 hi).1
      obtain rfl : gs'[i] = g := (Array.getElem?_eq_some_iff.1 hi).2
      rw [dif_pos ⟨h0, hil⟩, hp'.deaf i hil]
      exact Exists.choose_spec (p := fun n => (x' i).rank = Rk.nat n ∧ QuitsD P n (x' i).deaf gs'[i]) _ |>.2
    · exact ⟨fun k b hb => hp'.ge.lt 0 b hb.2, fun k k' b h1 h2 => by rw [h1.1, h2.1], fun k b hb => hp'.ge.sh 0 b hb.2, fun _ _ _ h => h, hp'.ge.shlt, fun _ h => h.elim, fun _ h => h.elim⟩
    · refine ⟨⟨hp'.ti.ct.quiet, fun k k1 _ l hl => ?_, fun k _ _ l hl => ?_, fun l hs hl => hp'.ti.ct.free l hs fun k k1 kj => ⟨fun h => ?_, fun h => ?_⟩, fun l hs hl => hp'.ti.ct.mine l hs fun k k1 kj h => ?_, hp'.ti.ct.nr, hp'.ti.ct.gs⟩, hp'.ti.seen⟩
      · obtain ⟨b, h, _⟩ := inB.two hl hl; omega
      · obtain ⟨b, h, _⟩ := inB.two hl.2 hl.2; exact h.elim
      · obtain ⟨b, h, _⟩ := inB.two h h; have := hO2 k b h; omega
      · obtain ⟨b, h, _⟩ := inB.two h.2 h.2; exact h.elim
      · obtain ⟨b, h, _⟩ := inB.two h h; have := hO2 k b h; omega
    · rw [hp'.deaf 0 h0', hd]
  · have hil : i < gs'.size := (Array.getElem?_eq_some_iff.1 hi).1
    rcases Nat.eq_zero_or_pos i with h0 | h0
    · exact absurd ⟨h0, trivial⟩ hn
    · have : (x' i).seat = .quit := hp'.pm.2.2.2.1 i h0 hil
      rw [this] at hs'
      cases hs'
end
end Go.Proofs.Ytgfgoflhmikalaa.par

namespace Go.Proofs.Ytgfgoflhmikalaa.par
open Go Go.Conc
open Go.ConcN (CT Apart Deaf_absent PermW RelBy handedOver_all)
open Go.ConcR (stA smA)
set_option linter.unusedVariables false
set_option linter.unusedSimpArgs false
/-- Goroutine k has said its release, heard; behind it it touches the group's cells alone, deaf. -/
def Rl (Wg : Nat) (t : Trace) (k r : Nat) : Prop := RelBy (stA Wg) t k r ∧ ∀ i op x, r < i → t[i]? = some op → op.g = k → op.act.touch? = some x → inB (fun b => b = Wg) x.loc
structure TR (N0 Wg : Nat) (S0 : Nat → Prop) (rl : Nat → Prop) (N : Nat) (t : Trace) : Prop where
  rel : ∀ k, N0 ≤ k → k < N → rl k → ∃ r, Rl Wg t k r
  norel : NoRelease (stA Wg) t
  over : ∀ i g, t.g? i = some g → g ≠ 0 → g < N0 → t.counts i → ∃ j, t.g? j = some 0 ∧ HappensBefore t i j
  knew : ∀ i op a, t[i]? = some op → op.act.touch? = some a → op.g ≠ 0 → op.g < N0 → ¬ inB S0 a.loc → Knows t 0 i
section
variable {N0 Wg N : Nat} {S0 : Nat → Prop} {rl : Nat → Prop} {t : Trace}
theorem Rl.other {k r g : Nat} {u : Trace} (h : Rl Wg t k r) (hu : ∀ op ∈ u, op.g = g) (hg : g ≠ k) : Rl Wg (t ++ u) k r := by
  refine ⟨h.1.appOther hu hg, fun i op x hi ho hk hx => ?_⟩
  rcases getElem?_append_cases ho with ⟨_, ho'⟩ | ⟨_, hou⟩
  · exact h.2 i op x hi ho' hk hx
  · exact absurd ((hu op hou).symm.trans hk) hg
/-- What one who has released does. -/
def Deafly (Wg d : Nat) (es : Array Event) : Prop := ∀ j e, es[j]? = some e → (MemAct.ofEvent e).touch? = none ∨ ((∃ ad wr, e = ⟨.cell ad, wr, true⟩ ∧ ad.block = Wg) ∧ 0 < deafBehind d (es.extract 0 j))
theorem Rl.own {k r : Nat} (h : Rl Wg t k r) (fn : FuncId) (pos : String) {es : Array Event} (hes : Deafly Wg (Deaf t k) es) : Rl Wg (t ++ MemOp.ofEvents k fn pos es) k r := by
  refine ⟨h.1.appOwn fn pos es fun j e he => (hes j e he).imp id fun ⟨⟨ad, wr, h1, _⟩, h2⟩ => ⟨⟨ad, wr, h1⟩, h2⟩, fun i op x hi ho hk hx => ?_⟩
  rcases getElem?_append_cases ho with ⟨_, ho'⟩ | ⟨_, hou⟩
  · exact h.2 i op x hi ho' hk hx
  · obtain ⟨e, he, rfl⟩ := Go.Conc.mem_ofEvents hou
    obtain ⟨j, hj⟩ := Array.mem_iff_getElem?.1 he
    rcases hes j e hj with h0 | ⟨⟨ad, wr, rfl, hb⟩, _⟩
    · rw [h0] at hx; cases hx
    · have : x.loc = .cell ad := by cases wr <;> (simp [MemAct.ofEvent, MemAct.touch?] at hx; subst hx; rfl)
      rw [this]
      exact hb
theorem gOf {u : Trace} {i g : Nat} (h : (t ++ u).g? i = some g) : (t.g? i = some g ∧ i < t.size) ∨ (t.size ≤ i ∧ ∃ op ∈ u, op.g = g ∧ (t ++ u)[i]? = some op) := by
  obtain ⟨op, ho, hg⟩ := Option.map_eq_some_iff.1 h
  rcases getElem?_append_cases ho with ⟨hl, ho'⟩ | ⟨hl, hou⟩
  · exact .inl ⟨by unfold Trace.g?; rw [ho']; exact congrArg some hg, hl⟩
  · exact .inr ⟨hl, op, hou, hg, ho⟩
theorem TR.app (h : TR N0 Wg S0 rl N t) (i : Nat) (fn : FuncId) (pos : String) {es : Array Event} (hnr : ∀ e ∈ es, e.loc ≠ .mark (.release (stA Wg))) (hold : i ≠ 0 → i < N0 → ∀ e ∈ es, (MemAct.ofEvent e).touch? = none) (hrl : rl i → N0 ≤ i → Deafly Wg (Deaf t i) es) : TR N0 Wg S0 rl N (t ++ MemOp.ofEvents i fn pos es) := by
  have hg : ∀ op ∈ MemOp.ofEvents i fn pos es, op.g = i := fun op hop => by obtain ⟨e, _, rfl⟩ := Go.Conc.mem_ofEvents hop; rfl
  refine ⟨fun k k1 kN hk => ?_, h.norel.app fun op hop hh => ?_, fun j g hj h0 hn hc => ?_, fun j op a ho hx h0 hn hs => ?_⟩
  · obtain ⟨r, hr⟩ := h.rel k k1 kN hk
    by_cases hki : i = k
    · subst hki; exact ⟨r, hr.own fn pos (hrl hk k1)⟩
    · exact ⟨r, hr.other hg hki⟩
  · obtain ⟨e, he, rfl⟩ := Go.Conc.mem_ofEvents hop
    exact hnr e he (Go.ConcR.loc_of_ofEvent hh)
  · rcases gOf hj with ⟨h1, hl⟩ | ⟨_, op, hop, h1, h2⟩
    · obtain ⟨q, hq, hb⟩ := h.over j g h1 h0 hn ((counts_old hl).1 hc)
      have hql : q < t.size := by
        unfold Trace.g? at hq
        obtain ⟨z, hz, _⟩ := Option.map_eq_some_iff.1 hq
        exact lt_size_of_getElem? hz
      exact ⟨q, by simpa [Trace.g?, getElem?_append_old hql] using hq, hb_app _ hb⟩
    · have hgi : i = g := (hg op hop).symm.trans h1
      subst hgi
      obtain ⟨x, hx, _⟩ := hc
      rw [act?_of h2] at hx
      obtain ⟨e, he, rfl⟩ := Go.Conc.mem_ofEvents hop
      have := hold h0 hn e he
      simp only [Option.bind_some, this] at hx
      cases hx
  · rcases getElem?_append_cases ho with ⟨_, ho'⟩ | ⟨_, hou⟩
    · exact (h.knew j op a ho' hx h0 hn hs).app _
    · obtain ⟨e, he, rfl⟩ := Go.Conc.mem_ofEvents hou
      rw [hold h0 hn e he] at hx
      cases hx
/-- A worker says its release. -/
theorem TR.release (h : TR N0 Wg S0 rl N t) {i : Nat} (hi : N0 ≤ i) (h0 : i ≠ 0) (fn : FuncId) (pos : String) (hd : Deaf t i = 0) {rl' : Nat → Prop} (hr : ∀ k, rl' k → rl k ∨ k = i) (hn : ¬ rl i) : TR N0 Wg S0 rl' N (t ++ MemOp.ofEvents i fn pos #[Go.ConcR.mk (.releaseMerge (stA Wg))]) := by
  have h1 := h.app i fn pos (es := #[Go.ConcR.mk (.releaseMerge (stA Wg))]) (by intro e he; simp at he; subst he; intro hh; cases hh) (fun _ hl => absurd hl (by omega)) (fun hk => absurd hk hn)
  refine ⟨fun k k1 kN hk => ?_, h1.norel, h1.over, h1.knew⟩
  rcases hr k hk with hk | rfl
  · exact h1.rel k k1 kN hk
  · refine ⟨t.size, RelBy.new hd fn pos, fun j op x hj ho hg hx => ?_⟩
    have := lt_size_of_getElem? ho
    have e1 : (MemOp.ofEvents k fn pos #[Go.ConcR.mk (.releaseMerge (stA Wg))]).size = 1 := by rw [ofEvents_eq]; simp
    simp only [Array.size_append, e1] at this
    omega
/-- A go statement. -/
theorem TR.fork (h : TR N0 Wg S0 rl N t) {x y : MemOp} (hx : x.g = 0 ∧ x.act = .go N) (hy : y.g = N ∧ y.act = .start) (hN : N0 ≤ N) (hrl : ¬ rl N) : TR N0 Wg S0 rl (N + 1) (t ++ #[x, y]) := by
  have hnt : ∀ op ∈ (#[x, y] : Array MemOp), op.act.touch? = none := by
    intro op hop
    simp only [List.mem_toArray, List.mem_cons, List.not_mem_nil, or_false] at hop
    rcases hop with rfl | rfl
    · rw [hx.2]; rfl
    · rw [hy.2]; rfl
  have hgs : ∀ op ∈ (#[x, y] : Array MemOp), op.g = 0 ∨ op.g = N := by
    intro op hop
    simp only [List.mem_toArray, List.mem_cons, List.not_mem_nil, or_false] at hop
    rcases hop with rfl | rfl
    · exact .inl hx.1
    · exact .inr hy.1
  refine ⟨fun k k1 kN hk => ?_, h.norel.app fun op hop hh => ?_, fun j g hj h0 hn hc => ?_, fun j op a ho hxx h0 hn hs => ?_⟩
  · have hkN : k ≠ N := fun e => hrl (e ▸ hk)
    obtain ⟨r, hr⟩ := h.rel k k1 (by omega) hk
    by_cases h0 : k = 0
    · subst h0
      refine ⟨r, hr.1.app fun i hi hgi hc => ?_, fun i op z hi ho hk hz => ?_⟩
      · obtain ⟨z, hz, _⟩ := hc
        rcases gOf hgi with ⟨_, hl⟩ | ⟨_, op, hop, _, h2⟩
        · omega
        · rw [act?_of h2] at hz
          simp only [Option.bind_some, hnt op hop] at hz
          cases hz
      · rcases getElem?_append_cases ho with ⟨_, ho'⟩ | ⟨_, hou⟩
        · exact hr.2 i op z hi ho' hk hz
        · rw [hnt op hou] at hz; cases hz
    · refine ⟨r, hr.1.appNot fun op hop e => ?_, fun i op z hi ho hk hz => ?_⟩
      · rcases hgs op hop with h1 | h1 <;> omega
      · rcases getElem?_append_cases ho with ⟨_, ho'⟩ | ⟨_, hou⟩
        · exact hr.2 i op z hi ho' hk hz
        · rw [hnt op hou] at hz; cases hz
  · simp only [List.mem_toArray, List.mem_cons, List.not_mem_nil, or_false] at hop
    rcases hop with rfl | rfl
    · rw [hx.2] at hh; cases hh
    · rw [hy.2] at hh; cases hh
  · rcases gOf hj with ⟨h1, hl⟩ | ⟨_, op, hop, h1, h2⟩
    · obtain ⟨q, hq, hb⟩ := h.over j g h1 h0 hn ((counts_old hl).1 hc)
      have hql : q < t.size := by
        unfold Trace.g? at hq
        obtain ⟨z, hz, _⟩ := Option.map_eq_some_iff.1 hq
        exact lt_size_of_getElem? hz
      exact ⟨q, by simpa [Trace.g?, getElem?_append_old hql] using hq, hb_app _ hb⟩
    · obtain ⟨z, hz, _⟩ := hc
      rw [act?_of h2] at hz
      simp only [Option.bind_some, hnt op hop] at hz
      cases hz
  · rcases getElem?_append_cases ho with ⟨_, ho'⟩ | ⟨_, hou⟩
    · exact (h.knew j op a ho' hxx h0 hn hs).app _
    · rw [hnt op hou] at hxx; cases hxx
/-- The starter has said 'acquire', heard, behind every worker's release. -/
def Acq (N0 Wg N : Nat) (t : Trace) : Prop := ∃ q, t.act? q = some (.mark (.acquire (stA Wg))) ∧ t.g? q = some 0 ∧ t.heard q ∧ ∀ k, N0 ≤ k → k < N → ∃ r, Rl Wg t k r ∧ r < q
theorem Acq.app (h : Acq N0 Wg N t) (i : Nat) (fn : FuncId) (pos : String) {es : Array Event} (hN0 : 1 ≤ N0) (hrl : N0 ≤ i → Deafly Wg (Deaf t i) es) : Acq N0 Wg N (t ++ MemOp.ofEvents i fn pos es) := by
  obtain ⟨q, h1, h2, h3, h4⟩ := h
  have hq := lt_of_act? h1
  have hg : ∀ op ∈ MemOp.ofEvents i fn pos es, op.g = i := fun op hop => by obtain ⟨e, _, rfl⟩ := Go.Conc.mem_ofEvents hop; rfl
  refine ⟨q, by rw [act?_old hq]; exact h1, by rw [g?_old hq]; exact h2, (heard_old hq).2 h3, fun k k1 kN => ?_⟩
  obtain ⟨r, hr, hrq⟩ := h4 k k1 kN
  by_cases hki : i = k
  · subst hki; exact ⟨r, hr.own fn pos (hrl k1), hrq⟩
  · exact ⟨r, hr.other hg hki, hrq⟩
/-- It says so. -/
theorem Acq.new (h : TR N0 Wg S0 rl N t) (hN0 : 1 ≤ N0) (hall : ∀ k, N0 ≤ k → k < N → rl k) (hd : Deaf t 0 = 0) (fn : FuncId) (pos : String) : Acq N0 Wg N (t ++ MemOp.ofEvents 0 fn pos #[Go.ConcR.mk (.acquire (stA Wg))]) := by
  have e1 : MemOp.ofEvents 0 fn pos #[Go.ConcR.mk (.acquire (stA Wg))] = #[{ g := 0, fn, pos, act := .mark (.acquire (stA Wg)) }] := by rw [ofEvents_eq]; simp [Go.ConcR.mk, MemAct.ofEvent]
  have hy : (t ++ #[({ g := 0, fn, pos, act := .mark (.acquire (stA Wg)) } : MemOp)])[t.size]? = some { g := 0, fn, pos, act := .mark (.acquire (stA Wg)) } := by simp
  rw [e1]
  refine ⟨t.size, by rw [act?_of hy], by simp [Trace.g?], ⟨0, by simp [Trace.g?], by rw [deaf_old (Nat.le_refl _)]; exact hd⟩, fun k k1 kN => ?_⟩
  obtain ⟨r, hr⟩ := h.rel k k1 kN (hall k k1 kN)
  exact ⟨r, hr.other (g := 0) (fun op hop => by simp at hop; rw [hop]) (by omega), lt_of_act? hr.1.act⟩
end
end Go.Proofs.Ytgfgoflhmikalaa.par

namespace Go.Proofs.Ytgfgoflhmikalaa.par
open Go Go.Conc
open Go.ConcN (CT Apart Deaf_absent PermW RelBy sumTo sumTo_congr)
open Go.ConcR (stA smA WgAt KK rd wr)
set_option linter.unusedVariables false
set_option linter.unusedSimpArgs false
structure Par where
  P : Program
  N0 : Nat
  Wg : Nat
  wB : Nat
  S0 : Nat → Prop
  B1 : Nat
  tW : TypeId
  tB : TypeId
  bnd : Nat
  gd : Nat → Prop
  Wz : World
inductive Ft where
  | a1 (r : Nat) | go (r : Nat) | w1 | w2 (vs : Nat) | w3 | w4 | acq | fin
  | own (r : Nat) | d1 | d2 | d3 | d4
def Ft.main : Ft → Prop
  | .a1 _ | .go _ | .w1 | .w2 _ | .w3 | .w4 | .acq | .fin => True
  | _ => False
def Ft.open : Ft → Prop
  | .a1 _ | .go _ | .w1 | .w2 _ => True
  | _ => False
def Ft.over : Ft → Prop
  | .w4 | .acq | .fin => True
  | _ => False
def Ft.pend : Ft → Nat
  | .go _ => 1
  | _ => 0
def Ft.left : Ft → Nat
  | .a1 r | .go r => r + 1
  | _ => 0
def counted : Option Ft → Nat
  | some (.own _) | some .d1 => 1
  | _ => 0
def Ft.weigh (v b : Nat) : Ft → Nat
  | .a1 r => 1000 + (b + 100) * (2 * r + 2)
  | .go r => 1000 + (b + 100) * (2 * r + 1)
  | .w1 => 8 * v + 5
  | .w2 vs => 8 * vs + 4
  | .w3 => 6
  | .w4 => 4
  | .acq => 3
  | .fin => 2
  | .own r => 10 + r
  | .d1 => 5
  | .d2 => 4
  | .d3 => 3
  | .d4 => 2
def GuQ (w w' : World) (es : Array Event) : Prop := w' = w ∧ ∀ e ∈ es, Event.mute e = true
namespace Par
variable (A : Par)
def Sh (b : Nat) : Prop := A.S0 b ∨ b = A.Wg ∨ b = A.wB
def Rd (b : Nat) : Prop := b < A.B1 ∧ b ≠ A.Wg ∧ b ≠ A.wB ∧ ¬ A.S0 b
def WB (v : Int) (w : World) : Prop := w.heap[A.wB]? = some (.cells #[.int .i64 v] A.tB)
def Live (w : World) : Prop := ((∃ st sm, WgAt A.tW A.Wg w st sm) ∧ ∃ v, A.WB v w) ∧ SameW A.Rd A.Wz w
def Ry (w w₁ : World) : Prop := A.Live w → A.Live w₁
abbrev Env : (Nat → Prop) → World → World → Prop := EnvT A.Rd A.Ry
def wbA : Addr := ⟨A.wB, 0, none⟩
/-! ### where a worker stops -/
abbrev LQ (S : (Nat → Prop) → Nat → Goroutine → World → Prop) := OT A.P false A.Env (fun _ => GuQ) S
abbrev LW (S : (Nat → Prop) → Nat → Goroutine → World → Prop) := OT A.P false A.Env (GuT A.Rd A.Sh False) S
abbrev LM (S : (Nat → Prop) → Nat → Goroutine → World → Prop) := OT A.P true A.Env (GuT A.Rd A.Sh ((0 : Nat) = 0)) S
def D4 (O : Nat → Prop) (d : Nat) (g : Goroutine) (w : World) : Prop :=
  d = 1 ∧ g.status = .running ∧ mayWake A.P g = true ∧ (WgAt A.tW A.Wg w 0 0 → ∃ g', stepG A.P false g w = .go g' (w.setCell (smA A.Wg) (.int .u32 1)) (semEvents (smA A.Wg)) ∧ ∃ q, QuitsD A.P q 1 g')
def D3 (O : Nat → Prop) (d : Nat) (g : Goroutine) (w : World) : Prop :=
  d = 1 ∧ g.status = .running ∧ (WgAt A.tW A.Wg w 1 0 → ∃ g', stepG A.P false g w = .go g' (w.setCell (stA A.Wg) (.int .u64 0)) #[wr (stA A.Wg)] ∧ A.LQ A.D4 O 1 g' (w.setCell (stA A.Wg) (.int .u64 0)))
def D2 (O : Nat → Prop) (d : Nat) (g : Goroutine) (w : World) : Prop :=
  d = 1 ∧ g.status = .running ∧ (WgAt A.tW A.Wg w 1 0 → ∃ g', stepG A.P false g w = .go g' w #[rd (stA A.Wg)] ∧ A.LQ A.D3 O 1 g' w)
def D1 (O : Nat → Prop) (d : Nat) (g : Goroutine) (w : World) : Prop :=
  d = 1 ∧ g.status = .running ∧ ∀ v wt : Nat, wt ≤ 1 → v < 2147483647 → WgAt A.tW A.Wg w ((v + 1) * KK + wt) 0 →
    ∃ g', stepG A.P false g w = .go g' (w.setCell (stA A.Wg) (.int .u64 (v * KK + wt))) #[rd (stA A.Wg), wr (stA A.Wg)] ∧
      ((v = 0 ∧ wt = 1) → A.LQ A.D2 O 1 g' (w.setCell (stA A.Wg) (.int .u64 (v * KK + wt)))) ∧ (¬ (v = 0 ∧ wt = 1) → ∃ q, QuitsD A.P q 1 g')
/-- Its release: what it has counted is right. -/
def Rel (k r : Nat) (O : Nat → Prop) (d : Nat) (g : Goroutine) (w : World) : Prop :=
  d = 0 ∧ g.status = .running ∧ (r = A.bnd ↔ A.gd k) ∧ ∃ g', stepG A.P false g w = .go g' w #[Go.ConcR.mk (.releaseMerge (stA A.Wg))] ∧ A.LQ A.D1 O 0 g' w
/-- At work; it may add r times more. -/
def Own (k : Nat) : Nat → (Nat → Prop) → Nat → Goroutine → World → Prop
  | 0 => A.Rel k 0
  | r + 1 => fun O d g w => A.Rel k (r + 1) O d g w ∨ (d = 0 ∧ g.status = .running ∧ ∀ v : Int, 0 ≤ v → v < 9223372036854775807 → A.WB v w →
      ∃ g', stepG A.P false g w = .go g' (w.setCell A.wbA (.int .i64 (v + 1))) #[rd A.wbA, wr A.wbA] ∧ A.LW (Own k r) O 0 g' (w.setCell A.wbA (.int .i64 (v + 1))))
/-! ### where the starter stops -/
variable (Anch FinS : (Nat → Prop) → Nat → Goroutine → World → Prop)
def Ac (O : Nat → Prop) (d : Nat) (g : Goroutine) (w : World) : Prop :=
  d = 0 ∧ g.status = .running ∧ ∃ g', stepG A.P true g w = .go g' w #[Go.ConcR.mk (.acquire (stA A.Wg))] ∧ A.LM FinS O 0 g' w
def W4 (O : Nat → Prop) (d : Nat) (g : Goroutine) (w : World) : Prop :=
  d = 1 ∧ g.status = .running ∧ (WgAt A.tW A.Wg w 0 0 → ∃ g', stepG A.P true g w = .go g' w #[rd (stA A.Wg)] ∧ A.LM (A.Ac FinS) O 1 g' w)
def W3 (O : Nat → Prop) (d : Nat) (g : Goroutine) (w : World) : Prop :=
  d = 1 ∧ g.status = .running ∧ g.offers = none ∧
    ((∃ st, WgAt A.tW A.Wg w st 0) → stepG A.P true g w = .go { g with status := .blocked } w #[]) ∧
    (WgAt A.tW A.Wg w 0 1 → ∃ g', stepG A.P true g w = .go g' (w.setCell (smA A.Wg) (.int .u32 0)) (semEvents (smA A.Wg)) ∧ A.LM (A.W4 FinS) O 1 g' (w.setCell (smA A.Wg) (.int .u32 0)))
def W2 (vs : Nat) (O : Nat → Prop) (d : Nat) (g : Goroutine) (w : World) : Prop :=
  d = 1 ∧ g.status = .running ∧ ∀ v : Nat, v < 2147483648 → WgAt A.tW A.Wg w (v * KK) 0 →
    (v = vs → ∃ g', stepG A.P true g w = .go g' (w.setCell (stA A.Wg) (.int .u64 (v * KK + 1))) #[rd (stA A.Wg), wr (stA A.Wg)] ∧ A.LM (A.W3 FinS) O 1 g' (w.setCell (stA A.Wg) (.int .u64 (v * KK + 1)))) ∧
    (v ≠ vs → ∃ g', stepG A.P true g w = .go g' w #[rd (stA A.Wg)] ∧ A.LM Anch O 1 g' w)
def W1 (O : Nat → Prop) (d : Nat) (g : Goroutine) (w : World) : Prop :=
  d = 1 ∧ g.status = .running ∧ ∀ v : Nat, v < 2147483648 → WgAt A.tW A.Wg w (v * KK) 0 → ∃ g', stepG A.P true g w = .go g' w #[rd (stA A.Wg)] ∧
    (v = 0 → A.LM (A.Ac FinS) O 1 g' w) ∧ (v ≠ 0 → A.LM (A.W2 Anch FinS v) O 1 g' w)
/-- A go statement; its child is worker number k. -/
def GoS (k : Nat) (Next : (Nat → Prop) → Nat → Goroutine → World → Prop) (O : Nat → Prop) (d : Nat) (g : Goroutine) (w : World) : Prop :=
  d = 0 ∧ g.status = .running ∧ ∃ (g' child : Goroutine) (Om Oc : Nat → Prop), stepG A.P true g w = .spawn g' child w #[] ∧ (∀ b, Om b → O b) ∧ (∀ b, Oc b → O b) ∧ (∀ b, Om b → ¬ Oc b) ∧ A.LW (A.Own k A.bnd) Oc 0 child w ∧ A.LM Next Om 0 g' w
def A1 (Next : (Nat → Prop) → Nat → Goroutine → World → Prop) (O : Nat → Prop) (d : Nat) (g : Goroutine) (w : World) : Prop :=
  d = 1 ∧ g.status = .running ∧ ∀ v : Nat, v < 2147483647 → WgAt A.tW A.Wg w (v * KK) 0 →
    ∃ g', stepG A.P true g w = .go g' (w.setCell (stA A.Wg) (.int .u64 ((v + 1) * KK))) #[rd (stA A.Wg), wr (stA A.Wg)] ∧ A.LM Next O 1 g' (w.setCell (stA A.Wg) (.int .u64 ((v + 1) * KK)))
/-- r more go statements behind this one. -/
def GoR : Nat → (Nat → Prop) → Nat → Goroutine → World → Prop
  | 0 => A.GoS 3 (A.W1 Anch FinS)
  | r + 1 => A.GoS (2 - r) (A.A1 (GoR r))
def stop (i : Nat) : Ft → (Nat → Prop) → Nat → Goroutine → World → Prop
  | .a1 r => A.A1 (A.GoR Anch FinS r)
  | .go r => A.GoR Anch FinS r
  | .w1 => A.W1 Anch FinS
  | .w2 vs => A.W2 Anch FinS vs
  | .w3 => A.W3 FinS
  | .w4 => A.W4 FinS
  | .acq => A.Ac FinS
  | .fin => fun O d g w => g.status = .running ∧ FinS O d g w
  | .own r => A.Own (i - A.N0) r
  | .d1 => A.D1
  | .d2 => A.D2
  | .d3 => A.D3
  | .d4 => A.D4
/-! ### the state -/
def cnt (N : Nat) (se : Nat → Seat Ft) : Nat := sumTo (N - A.N0) fun i => counted (se (A.N0 + i)).tag
def Calm (x : Seat Ft) : Prop := x = .quit ∨ (∃ r, x = .at (.own r)) ∨ x = .at .d1
inductive Md (N : Nat) (se : Nat → Seat Ft) : Ft → Int → Int → Prop
  | opn {s : Ft} (ho : s.open) (h0 : se 0 = .at s) (hc : ∀ k, A.N0 ≤ k → k < N → Calm (se k)) (hs : ∀ vs, s = .w2 vs → A.cnt N se ≤ vs ∧ 1 ≤ vs) : Md N se s (((A.cnt N se + s.pend : Nat) : Int) * KK) 0
  | reg (hc : ∀ k, A.N0 ≤ k → k < N → Calm (se k)) (h1 : 1 ≤ A.cnt N se) : Md N se .w3 (((A.cnt N se : Nat) : Int) * KK + 1) 0
  | last (L : Nat) (hL : A.N0 ≤ L) (hN : L < N) (hs : se L = .at .d2 ∨ se L = .at .d3) (ho : ∀ k, A.N0 ≤ k → k < N → k ≠ L → se k = .quit) : Md N se .w3 1 0
  | last4 (L : Nat) (hL : A.N0 ≤ L) (hN : L < N) (hs : se L = .at .d4) (ho : ∀ k, A.N0 ≤ k → k < N → k ≠ L → se k = .quit) : Md N se .w3 0 0
  | sema (h0 : se 0 = .at .w3) (ho : ∀ k, A.N0 ≤ k → k < N → se k = .quit) : Md N se .w3 0 1
  | fin {s : Ft} (hf : s.over) (h0 : se 0 = .at s) (ho : ∀ k, A.N0 ≤ k → k < N → se k = .quit) : Md N se s 0 0
def rel (se : Nat → Seat Ft) (k : Nat) : Prop := ∀ r, se k ≠ .at (.own r)
structure Grp (N : Nat) (se : Nat → Seat Ft) (w : World) (t : Trace) : Prop where
  n0 : 1 ≤ A.N0
  lo : A.N0 ≤ N
  mainS : ∃ s st sm, (se 0 = .at s ∨ (se 0 = .blk s ∧ s = .w3)) ∧ s.main ∧ N + s.left = A.N0 + 4 ∧ WgAt A.tW A.Wg w st sm ∧ A.Md N se s st sm ∧ (s = .fin → Acq A.N0 A.Wg N t)
  old : ∀ k, 1 ≤ k → k < A.N0 → se k = .quit
  work : ∀ k, A.N0 ≤ k → k < N → Calm (se k) ∨ se k = .at .d2 ∨ se k = .at .d3 ∨ se k = .at .d4
  sums : ∃ c : Nat → Nat, A.WB ((sumTo (N - A.N0) fun i => c (A.N0 + i) : Nat) : Int) w ∧ ∀ k, A.N0 ≤ k → k < N → c k ≤ A.bnd ∧ (∀ r, se k = .at (.own r) → c k + r = A.bnd) ∧ (rel se k → (c k = 0 ↔ A.gd (k - A.N0)))
  tr : TR A.N0 A.Wg A.S0 (rel se) N t
  up : ∀ k, N ≤ k → se k = .quit
def phi (tg : Nat → Option Ft) : Nat :=
  (match tg 0 with | some s => s.weigh (sumTo 4 fun i => counted (tg (A.N0 + i))) A.bnd | none => 0) + sumTo 4 fun i => match tg (A.N0 + i) with | some s => s.weigh 0 0 | none => 1
def gu (i : Nat) : Ft → (Nat → Prop) → World → World → Array Event → Prop
  | .d1 | .d2 | .d3 | .d4 => fun _ => GuQ
  | .own _ => GuT A.Rd A.Sh False
  | _ => GuT A.Rd A.Sh (i = 0)
def team : Team where
  P := A.P
  Tag := Ft
  n0 := A.N0
  M := A.N0 + 3
  Sh := A.Sh
  Rd := A.Rd
  Live := A.Live
  Ry := A.Ry
  Stop := A.stop Anch FinS
  Gu := A.gu
  phi := A.phi
  PM := A.Grp
end Par
end Go.Proofs.Ytgfgoflhmikalaa.par

namespace Go.Proofs.Ytgfgoflhmikalaa.par
open Go Go.Conc
open Go.ConcN (CT Apart Deaf_absent PermW RelBy sumTo sumTo_congr)
open Go.ConcR (stA smA WgAt KK rd wr)
set_option linter.unusedVariables false
set_option linter.unusedSimpArgs false
theorem sumTo_pos {f : Nat → Nat} : ∀ {n : Nat}, 1 ≤ sumTo n f → ∃ i, i < n ∧ 1 ≤ f i
  | 0, h => by simp [sumTo] at h
  | n + 1, h => by
    by_cases h0 : 1 ≤ f n
    · exact ⟨n, Nat.lt_succ_self n, h0⟩
    · obtain ⟨i, hi, h1⟩ := sumTo_pos (f := f) (n := n) (by simp only [sumTo] at h; omega)
      exact ⟨i, by omega, h1⟩
theorem TR.mono {N0 Wg N : Nat} {S0 : Nat → Prop} {rl rl' : Nat → Prop} {t : Trace} (h : TR N0 Wg S0 rl N t) (hr : ∀ k, N0 ≤ k → k < N → rl' k → rl k) : TR N0 Wg S0 rl' N t :=
  ⟨fun k k1 kN hk => h.rel k k1 kN (hr k k1 kN hk), h.norel, h.over, h.knew⟩
theorem deafly_mute {Wg d : Nat} {es : Array Event} (h : ∀ e ∈ es, Event.mute e = true) : Deafly Wg d es := fun j e he => .inl (touch_mute (h e (Array.mem_of_getElem? he)))
theorem norel_mute {Wg : Nat} {es : Array Event} (h : ∀ e ∈ es, Event.mute e = true) : ∀ e ∈ es, e.loc ≠ .mark (.release (stA Wg)) := by
  intro e he hl
  have := h e he
  obtain ⟨loc, wr, sy⟩ := e
  dsimp only at hl
  subst hl
  simp [Event.mute] at this
theorem GuT.norel {Rd Sh O : Nat → Prop} {z : Prop} {w w' : World} {es : Array Event} {Wg : Nat} (h : GuT Rd Sh z O w w' es) (hO : ¬ O Wg) (hl : Wg < w.heap.size) : ∀ e ∈ es, e.loc ≠ .mark (.release (stA Wg)) := by
  intro e he hh
  rcases h.evs e he with h1 | h1 | ⟨_, h1⟩
  · unfold EvO at h1
    rw [hh] at h1
    rcases h1 with h1 | ⟨h1, _⟩
    · exact hO h1
    · have : w.heap.size ≤ Wg := h1
      omega
  · have := h1.2
    rw [hh] at this
    exact this
  · rcases h1 with ⟨a, h1, _⟩ | ⟨a, h1, _⟩ <;> (rw [hh] at h1; cases h1)
namespace Par
variable {A : Par} {N i : Nat} {se : Nat → Seat Ft} {w w' : World} {t : Trace}
theorem Grp.keep (h : A.Grp N se w t) (hi : i < N) (hWg : w'.heap[A.Wg]? = w.heap[A.Wg]?) (hwB : w'.heap[A.wB]? = w.heap[A.wB]?) {es : Array Event} (fn : FuncId) (pos : String) (hnr : ∀ e ∈ es, e.loc ≠ .mark (.release (stA A.Wg)))
    (hold : i ≠ 0 → i < A.N0 → ∀ e ∈ es, (MemAct.ofEvent e).touch? = none) (hrl : rel se i → A.N0 ≤ i → Deafly A.Wg (Deaf t i) es) : A.Grp N se w' (t ++ MemOp.ofEvents i fn pos es) := by
  obtain ⟨s, st, sm, h1, h2, h3, h4, h5, h6⟩ := h.mainS
  obtain ⟨c, hc1, hc2⟩ := h.sums
  refine ⟨h.n0, h.lo, ⟨s, st, sm, h1, h2, h3, ?_, h5, fun hf => (h6 hf).app i fn pos h.n0 fun hn => hrl ?_ hn⟩, h.old, h.work, ⟨c, ?_, hc2⟩, h.tr.app i fn pos hnr hold hrl, h.up⟩
  · unfold WgAt at h4 ⊢; rw [hWg]; exact h4
  · subst hf
    cases h5 with
    | opn ho => exact ho.elim
    | fin _ _ ho => intro r e; rw [ho i hn hi] at e; cases e
  · unfold Par.WB at hc1 ⊢; rw [hwB]; exact hc1
theorem Grp.who (h : A.Grp N se w t) (hi : i < N) {s : Ft} (hs : se i = .at s) : (i = 0 ∧ s.main) ∨ (A.N0 ≤ i ∧ ((∃ r, s = .own r) ∨ s = .d1 ∨ s = .d2 ∨ s = .d3 ∨ s = .d4)) := by
  rcases Nat.eq_zero_or_pos i with rfl | hpos
  · obtain ⟨s', st, sm, h1, h2, _⟩ := h.mainS
    rcases h1 with h1 | ⟨h1, _⟩
    · rw [h1] at hs; cases hs; exact .inl ⟨rfl, h2⟩
    · rw [h1] at hs; cases hs
  · rcases Nat.lt_or_ge i A.N0 with hl | hl
    · rw [h.old i hpos hl] at hs; cases hs
    · refine .inr ⟨hl, ?_⟩
      rcases h.work i hl hi with (h1 | ⟨r, h1⟩ | h1) | h1 | h1 | h1 <;> rw [h1] at hs <;> cases hs
      · exact .inl ⟨r, rfl⟩
      · exact .inr (.inl rfl)
      · exact .inr (.inr (.inl rfl))
      · exact .inr (.inr (.inr (.inl rfl)))
      · exact .inr (.inr (.inr (.inr rfl)))
theorem un_work {x : Seat Ft} (h : Calm x ∨ x = .at .d2 ∨ x = .at .d3 ∨ x = .at .d4) : x.un = x := by
  rcases h with (h | ⟨r, h⟩ | h) | h | h | h <;> rw [h] <;> rfl
theorem Grp.waken (h : A.Grp N se w t) : A.Grp N (fun k => (se k).un) w t := by
  have hw : ∀ k, A.N0 ≤ k → k < N → (se k).un = se k := fun k k1 kN => un_work (h.work k k1 kN)
  have hcnt : A.cnt N (fun k => (se k).un) = A.cnt N se := by
    unfold Par.cnt
    exact sumTo_congr fun i _ => by rw [Seat.un_tag]
  obtain ⟨s, st, sm, h1, h2, h3, h4, h5, h6⟩ := h.mainS
  obtain ⟨c, hc1, hc2⟩ := h.sums
  have h0 : (se 0).un = .at s := by rcases h1 with h1 | ⟨h1, _⟩ <;> rw [h1] <;> rfl
  have hq : ∀ k, A.N0 ≤ k → k < N → se k = .quit → (se k).un = .quit := fun k _ _ e => by rw [e]; rfl
  refine ⟨h.n0, h.lo, ⟨s, st, sm, .inl h0, h2, h3, h4, ?_, h6⟩, fun k k1 kN => by rw [h.old k k1 kN]; rfl, fun k k1 kN => by rw [hw k k1 kN]; exact h.work k k1 kN, ⟨c, hc1, fun k k1 kN => ?_⟩, h.tr.mono fun k k1 kN hr => ?_, fun k hk => by rw [h.up k hk]; rfl⟩
  · cases h5 with
    | opn ho h0' hc hs =>
      rw [← hcnt]
      exact .opn ho h0 (fun k k1 kN => by rw [hw k k1 kN]; exact hc k k1 kN) (by rw [hcnt]; exact hs)
    | reg hc h1' =>
      rw [← hcnt]
      exact .reg (fun k k1 kN => by rw [hw k k1 kN]; exact hc k k1 kN) (by rw [hcnt]; exact h1')
    | last L hL hN hs ho => exact .last L hL hN (by rw [hw L hL hN]; exact hs) fun k k1 kN hk => hq k k1 kN (ho k k1 kN hk)
    | last4 L hL hN hs ho => exact .last4 L hL hN (by rw [hw L hL hN]; exact hs) fun k k1 kN hk => hq k k1 kN (ho k k1 kN hk)
    | sema h0' ho => exact .sema h0 fun k k1 kN => hq k k1 kN (ho k k1 kN)
    | fin hf h0' ho => exact .fin hf h0 fun k k1 kN => hq k k1 kN (ho k k1 kN)
  · obtain ⟨a1, a2, a3⟩ := hc2 k k1 kN
    refine ⟨a1, fun r e => a2 r (by rw [← hw k k1 kN]; exact e), fun hr => a3 fun r e => hr r (show (se k).un = _ from by rw [hw k k1 kN]; exact e)⟩
  · intro r e
    exact hr r (show (se k).un = _ from by rw [hw k k1 kN]; exact e)
theorem Grp.some1 (h : A.Grp N se w t) : ∃ i s, i < N ∧ se i = .at s := by
  obtain ⟨s, st, sm, h1, h2, h3, h4, h5, h6⟩ := h.mainS
  have hN : 0 < N := Nat.lt_of_lt_of_le h.n0 h.lo
  rcases h1 with h1 | ⟨h1, hs⟩
  · exact ⟨0, s, hN, h1⟩
  · subst hs
    cases h5 with
    | opn ho => exact ho.elim
    | reg hc h1 =>
      obtain ⟨i, hi, hp⟩ := sumTo_pos h1
      rcases hc (A.N0 + i) (by omega) (by omega) with e | ⟨r, e⟩ | e
      · rw [e] at hp; simp [Seat.tag, counted] at hp
      · exact ⟨_, _, by omega, e⟩
      · exact ⟨_, _, by omega, e⟩
    | last L hL hN hs ho => exact hs.elim (fun e => ⟨L, _, hN, e⟩) fun e => ⟨L, _, hN, e⟩
    | last4 L hL hN hs ho => exact ⟨L, _, hN, hs⟩
    | sema h0 _ => rw [h1] at h0; cases h0
    | fin hf _ _ => exact hf.elim
variable {Anch FinS : (Nat → Prop) → Nat → Goroutine → World → Prop}
theorem Own.run {k : Nat} : ∀ {r : Nat} {O : Nat → Prop} {d : Nat} {g : Goroutine} {w : World}, A.Own k r O d g w → g.status = .running
  | 0, _, _, _, _, h => h.2.1
  | _ + 1, _, _, _, _, h => h.elim (fun h => h.2.1) fun h => h.2.1
theorem GoR.run : ∀ {r : Nat} {O : Nat → Prop} {d : Nat} {g : Goroutine} {w : World}, A.GoR Anch FinS r O d g w → g.status = .running
  | 0, _, _, _, _, h => h.2.1
  | _ + 1, _, _, _, _, h => h.2.1
theorem ryA : Rely A.Ry := ⟨fun _ h => h, fun _ _ _ h k x => k (h x), fun _ _ h => ⟨h.1, h.2.tape, h.2.os, h.2.output, h.2.size, h.2.heap⟩⟩
theorem live_of (w w' : World) (hh : SameW (fun b => A.Sh b ∨ A.Rd b) w w') (hl : A.Live w) : A.Live w' := by
  obtain ⟨⟨⟨st, sm, h1⟩, v, h2⟩, h3⟩ := hl
  have h := hh.heap
  refine ⟨⟨⟨st, sm, ?_⟩, v, ?_⟩, ⟨hh.tape.trans h3.tape, hh.os.trans h3.os, hh.output.trans h3.output, Nat.le_trans h3.size hh.size, fun b hb => (h b (.inr hb)).trans (h3.heap b hb)⟩⟩
  · unfold WgAt at h1 ⊢; rw [h A.Wg (.inl (.inr (.inl rfl)))]; exact h1
  · unfold Par.WB at h2 ⊢; rw [h A.wB (.inl (.inr (.inr rfl)))]; exact h2
theorem team_ok (hn : 1 ≤ A.N0) : (A.team Anch FinS).Ok := by
  refine ⟨hn, ryA, fun N se w w' t i k _ _ _ _ _ _ hs => live_of w w' hs, fun i s O w w' es h => ?_, fun i s O d g w h => ?_, live_of, ?_, ?_, fun N se w d t h => ⟨h.n0, h.lo, h.mainS, h.old, h.work, h.sums, h.tr, h.up⟩, fun N se w t h => h.waken, fun N se w t h => h.some1⟩
  · have q : GuQ w w' es → GuT A.Rd A.Sh (i = 0) O w w' es := fun ⟨h1, h2⟩ => by
      subst h1
      exact ⟨rfl, rfl, rfl, Nat.le_refl _, fun _ _ _ => rfl, fun e he => .inl (by
        have := h2 e he
        obtain ⟨loc, wr, sy⟩ := e
        cases loc with
        | mark m => cases m <;> first | trivial | (simp [Event.mute] at this)
        | _ => simp [Event.mute] at this)⟩
    cases s with
    | d1 => exact q h
    | d2 => exact q h
    | d3 => exact q h
    | d4 => exact q h
    | own r => exact ⟨h.tape, h.os, h.output, h.size, h.kept, fun e he => (h.evs e he).imp id fun h => h.imp id fun h => h.1.elim⟩
    | _ => exact h
  · cases s with
    | own r => exact Own.run h
    | go r => exact GoR.run h
    | a1 r => exact h.2.1
    | w1 => exact h.2.1
    | w2 vs => exact h.2.1
    | w3 => exact h.2.1
    | w4 => exact h.2.1
    | acq => exact h.2.1
    | fin => exact h.1
    | d1 => exact h.2.1
    | d2 => exact h.2.1
    | d3 => exact h.2.1
    | d4 => exact h.2.1
  · intro N i s se O w w' es t fn pos hi hs hO hsr hsz hlt hg hp
    have hWg : w'.heap[A.Wg]? = w.heap[A.Wg]? := hsr A.Wg (.inl (.inr (.inl rfl)))
    have hwB : w'.heap[A.wB]? = w.heap[A.wB]? := hsr A.wB (.inl (.inr (.inr rfl)))
    have hOW : ¬ O A.Wg := fun ho => (hO _ ho).1 (.inr (.inl rfl))
    have hlW : A.Wg < w.heap.size := hlt A.Wg (.inl (.inr (.inl rfl)))
    have hp' : A.Grp N se w t := hp
    have q : GuQ w w' es → A.Grp N se w' (t ++ MemOp.ofEvents i fn pos es) := fun ⟨h1, h2⟩ => hp'.keep hi hWg hwB fn pos (norel_mute h2) (fun _ _ e he => touch_mute (h2 e he)) fun _ _ => deafly_mute h2
    have m : i = 0 → GuT A.Rd A.Sh (i = 0) O w w' es → A.Grp N se w' (t ++ MemOp.ofEvents i fn pos es) := fun h0 h1 => hp'.keep hi hWg hwB fn pos (h1.norel hOW hlW) (fun h => absurd h0 h) fun _ h => absurd hn (by omega)
    rcases hp'.who hi hs with ⟨h0, hm⟩ | ⟨hl, ⟨r, hr⟩ | hr⟩
    · refine m h0 ?_
      cases s <;> first | exact hm.elim | exact hg
    · subst hr
      have hg' : GuT A.Rd A.Sh False O w w' es := hg
      exact hp'.keep hi hWg hwB fn pos (hg'.norel hOW hlW) (fun _ h => absurd h (by omega)) fun h _ => absurd hs (h r)
    · rcases hr with rfl | rfl | rfl | rfl <;> exact q hg
  · intro N i se w es t fn pos hi h0 hs hm hp
    exact Grp.keep hp hi rfl rfl fn pos (norel_mute hm) (fun _ _ e he => touch_mute (hm e he)) fun _ _ => deafly_mute hm
end Par
end Go.Proofs.Ytgfgoflhmikalaa.par
