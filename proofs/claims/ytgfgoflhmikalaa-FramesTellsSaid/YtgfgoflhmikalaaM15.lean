/- Part 15 of what the proofs stand on: lemmas on worlds, on goroutines, contracts of functions. No conditions. -/
import Derived.Test.YtgfgoflhmikalaaM14
namespace Go.Proofs.Ytgfgoflhmikalaa.par
open Go Go.Conc
open Go.ConcN (CT Apart Deaf_absent PermW RelBy sumTo sumTo_congr sumTo_upd le_sumTo sumTo_le)
open Go.ConcR (stA smA WgAt KK rd wr)
set_option linter.unusedVariables false
set_option linter.unusedSimpArgs false
namespace Par
variable {A : Par} {Anch FinS : (Nat → Prop) → Nat → Goroutine → World → Prop}
section
variable {gs : Array Goroutine} {w w' : World} {t : Trace} {x : Nat → GR Ft} {g : Goroutine} {i : Nat} {m : Machine} {sl : Option (Nat × Nat)} {s : Ft} {K : Machine → Trace → Prop}
theorem At.liveSet (h : At A Anch FinS K gs w sl m t x i g s) {st sm : Int} (h1 : WgAt A.tW A.Wg w' st sm) (h2 : w'.heap[A.wB]? = w.heap[A.wB]?) (h3 : SameW A.Rd A.Wz w') : A.Live w' := by
  obtain ⟨⟨_, v, hv⟩, _⟩ := h.p.live
  exact ⟨⟨⟨st, sm, h1⟩, v, by unfold Par.WB at hv ⊢; rw [h2]; exact hv⟩, h3⟩
theorem At.sets (h : At A Anch FinS K gs w sl m t x i g s) (a : Addr) (ha : a.block = A.Wg) (u : Value) : (w.setCell a u).heap[A.wB]? = w.heap[A.wB]? := set_other w a u (by rw [ha]; exact fun e => h.ne e.symm)
/-- What one who has released does: the new situation. -/
theorem At.behind (h : At A Anch FinS K gs w sl m t x i g s) (hN : A.N0 ≤ i) (hsr : ∀ r, s ≠ .own r) {g' : Goroutine} {es : Array Event} (hgo : stepG A.P false g w = .go g' w' es) (s' : Seat Ft) (hy : ∃ rk, (A.team Anch FinS).Sits i ⟨s', rk, (x i).own, deafBehind (x i).deaf es⟩ g' w') (hw : A.Turns w w') (hB : w'.heap[A.wB]? = w.heap[A.wB]?)
    (hev : ∀ e ∈ es, Event.mute e = true ∨ ∃ a b, e = ⟨.cell a, b, true⟩ ∧ a.block = A.Wg) (hdf : Deafly A.Wg (x i).deaf es) (hs' : s' = .quit ∨ s' = .at .d2 ∨ s' = .at .d3 ∨ s' = .at .d4) (hc : counted s'.tag ≤ counted (some s)) (hwt : wt s'.tag < wt (some s))
    {s0 : Ft} {st sm : Int} (g1 : (fun k => (x k).seat) 0 = .at s0 ∨ ((fun k => (x k).seat) 0 = .blk s0 ∧ s0 = .w3)) (g2 : s0.main) (g3 : gs.size + s0.left = A.N0 + 4) (g5 : A.Md gs.size (fun k => (x k).seat) s0 st sm)
    (hmode : ∃ st' sm', WgAt A.tW A.Wg w' st' sm' ∧ (A.Md gs.size (updS (fun k => (x k).seat) i s') s0 st' sm' ∨ ((A.team Anch FinS).mayW g g' = true ∧ A.Md gs.size (fun k => (updS (fun k => (x k).seat) i s' k).un) s0 st' sm'))) : K m t := by
  have hi0 : i ≠ 0 := by have := h.n; omega
  have hse : (fun k => (x k).seat) i = .at s := h.seat
  have hrel : rel (fun k => (x k).seat) i := fun r e => hsr r (by rw [hse] at e; cases e; rfl)
  have hso : ∀ r, s' ≠ .at (.own r) := fun r e => by rcases hs' with h | h | h | h <;> rw [h] at e <;> cases e
  have hun : s'.un = s' := by rcases hs' with h | h | h | h <;> rw [h] <;> rfl
  have hq : (x i).seat ≠ .quit := by rw [h.seat]; intro e; cases e
  have hcalm : Calm s' ∨ s' = .at .d2 ∨ s' = .at .d3 ∨ s' = .at .d4 := hs'.imp (fun h => .inl h) id
  have htr : ∀ fn pos, TR A.N0 A.Wg A.S0 (rel (updS (fun k => (x k).seat) i s')) gs.size (t ++ MemOp.ofEvents i fn pos es) := fun fn pos => by
    refine (h.grp.tr.app i fn pos (fun e he hh => ?_) (fun _ hl => absurd hl (by omega)) (fun _ _ => by rw [h.deaf]; exact hdf)).mono fun k k1 kN hr => ?_
    · rcases hev e he with h1 | ⟨a, b, rfl, _⟩
      · obtain ⟨loc, wr, sy⟩ := e
        dsimp only at hh
        subst hh
        simp [Event.mute] at h1
      · cases hh
    · rcases rel_upd hr with ⟨_, h1⟩ | ⟨rfl, _⟩
      · exact h1
      · exact hrel
  obtain ⟨st', sm', g7, g8⟩ := hmode
  have h0 : updS (fun k => (x k).seat) i s' 0 = (x 0).seat := updS_ne _ _ (fun e => hi0 e.symm)
  refine h.worker hN hgo s' hy hw (fun e he => (hev e he).imp id fun ⟨a, b, h1, h2⟩ => .inl ⟨a, b, h1, .inr (.inl h2)⟩) hun (fun fn pos => ?_) hc hwt
  have hfin : ∀ {s1 : Ft}, s1 = s0 → s1 = .fin → False := fun e1 e2 => by
    subst e1; subst e2
    cases g5 with
    | opn ho => exact ho.elim
    | fin _ _ ho => exact hq (ho i hN h.lt)
  rcases g8 with g8 | ⟨hm, g8⟩
  · refine .inl ⟨h.n, h.grp.lo, ⟨s0, st', sm', by rw [h0]; exact g1, g2, g3, g7, g8, fun e => (hfin rfl e).elim⟩, fun k k1 kN => by rw [updS_ne _ _ (by omega)]; exact h.grp.old k k1 kN, fun k k1 kN => ?_, h.grp.sumsKeep hN h.lt hrel hso hB, htr fn pos, fun k hk => by rw [updS_ne _ _ (by have := h.lt; omega)]; exact h.grp.up k hk⟩
    by_cases hk : k = i
    · rw [hk, updS_same]; exact hcalm
    · rw [updS_ne _ _ hk]; exact h.grp.work k k1 kN
  · have hw1 : ∀ k, A.N0 ≤ k → k < gs.size → (updS (fun k => (x k).seat) i s' k).un = updS (fun k => (x k).seat) i s' k := fun k k1 kN => by
      by_cases hk : k = i
      · rw [hk, updS_same]; exact hun
      · rw [updS_ne _ _ hk]; exact un_work (h.grp.work k k1 kN)
    obtain ⟨c, hc1, hc2⟩ := h.grp.sumsKeep hN h.lt hrel hso hB
    refine .inr ⟨hm, h.n, h.grp.lo, ⟨s0, st', sm', .inl ?_, g2, g3, g7, g8, fun e => (hfin rfl e).elim⟩, fun k k1 kN => ?_, fun k k1 kN => ?_, ⟨c, hc1, fun k k1 kN => ?_⟩, (htr fn pos).mono fun k k1 kN hr r e => hr r ?_, fun k hk => by
      show (updS (fun k => (x k).seat) i s' k).un = _
      rw [updS_ne _ _ (by have := h.lt; omega), show (x k).seat = _ from h.grp.up k hk]
      rfl⟩
    · show (updS (fun k => (x k).seat) i s' 0).un = _
      rw [h0]
      rcases g1 with g1 | ⟨g1, _⟩ <;> rw [show (x 0).seat = _ from g1] <;> rfl
    · show (updS (fun k => (x k).seat) i s' k).un = _
      rw [updS_ne _ _ (by omega), show (x k).seat = _ from h.grp.old k k1 kN]
      rfl
    · rw [hw1 k k1 kN]
      by_cases hk : k = i
      · rw [hk, updS_same]; exact hcalm
      · rw [updS_ne _ _ hk]; exact h.grp.work k k1 kN
    · obtain ⟨a1, a2, a3⟩ := hc2 k k1 kN
      exact ⟨a1, fun r e => a2 r (by rw [← hw1 k k1 kN]; exact e), fun hr => a3 fun r e => hr r (show (updS (fun k => (x k).seat) i s' k).un = _ from by rw [hw1 k k1 kN]; exact e)⟩
    · show (updS (fun k => (x k).seat) i s' k).un = _
      rw [hw1 k k1 kN]; exact e
theorem sits_quit {i q : Nat} (h0 : i ≠ 0) {O : Nat → Prop} {d : Nat} {g : Goroutine} {w : World} (h : QuitsD A.P q d g) : ∃ rk, (A.team Anch FinS).Sits i ⟨.quit, rk, O, d⟩ g w := ⟨Rk.nat q, h0, q, rfl, h⟩
/-- One worker of those at work leaves. -/
theorem Calm.upd {N : Nat} {se : Nat → Seat Ft} {s' : Seat Ft} (h : ∀ k, A.N0 ≤ k → k < N → Calm (se k)) (hs : Calm s') : ∀ k, A.N0 ≤ k → k < N → Calm (updS se i s' k) := fun k k1 kN => by
  by_cases hk : k = i
  · rw [hk, updS_same]; exact hs
  · rw [updS_ne _ _ hk]; exact h k k1 kN
theorem cnt_one {N : Nat} {se : Nat → Seat Ft} (h : ∀ k, A.N0 ≤ k → k < N → Calm (se k)) (h1 : A.N0 ≤ i) (h2 : i < N) (hc : counted (se i).tag = 1) (h3 : A.cnt N se = 1) : ∀ k, A.N0 ≤ k → k < N → k ≠ i → se k = .quit := by
  intro k k1 kN hk
  have e1 := cnt_upd (A := A) se h1 h2 .quit
  have e2 := counted_le (A := A) (updS se i .quit) k1 kN
  rw [updS_ne _ _ hk] at e2
  have e3 : counted (Seat.tag (.quit : Seat Ft)) = 0 := rfl
  rcases h k k1 kN with h4 | ⟨r, h4⟩ | h4
  · exact h4
  · rw [h4] at e2; simp [Seat.tag, counted] at e2; omega
  · rw [h4] at e2; simp [Seat.tag, counted] at e2; omega
/-- THE ATOMIC ADD OF -1. -/
theorem At.done (h : At A Anch FinS K gs w sl m t x i g s) (hN : A.N0 ≤ i) (hs : s = .d1) (hS : A.D1 (x i).own (x i).deaf g w) : K m t := by
  subst hs
  have hi0 : i ≠ 0 := by have := h.n; omega
  obtain ⟨hd, _, hS⟩ := hS
  have hse : (fun k => (x k).seat) i = .at .d1 := h.seat
  have hci : counted (x i).seat.tag = 1 := by rw [h.seat]; rfl
  obtain ⟨s0, st, sm, g1, g2, g3, g4, g5, g6⟩ := h.grp.mainS
  have hcl := counted_le (A := A) (fun k => (x k).seat) hN h.lt
  have hc4 := cnt_le (A := A) (fun k => (x k).seat) h.grp.n4
  have hcq := cnt_upd (A := A) (fun k => (x k).seat) hN h.lt .quit
  have hc2 := cnt_upd (A := A) (fun k => (x k).seat) hN h.lt (.at .d2)
  have z1 : counted (Seat.tag (.quit : Seat Ft)) = 0 := rfl
  have z2 : counted (Seat.tag (.at .d2 : Seat Ft)) = 0 := rfl
  rw [z1] at hcq
  rw [z2] at hc2
  rw [hci] at hcl hcq hc2
  have hev : ∀ e ∈ (#[rd (stA A.Wg), wr (stA A.Wg)] : Array Event), ∃ a b, e = ⟨.cell a, b, true⟩ ∧ a.block = A.Wg := fun e he => by
    simp [rd, wr] at he
    rcases he with rfl | rfl <;> exact ⟨_, _, rfl, rfl⟩
  have hdf : Deafly A.Wg (x i).deaf #[rd (stA A.Wg), wr (stA A.Wg)] := deafly_cells (by omega) hev
  have hq : (x i).seat ≠ .quit := by rw [h.seat]; intro e; cases e
  have hnd : ∀ s1, s1 = Ft.d2 ∨ s1 = Ft.d3 ∨ s1 = Ft.d4 → (x i).seat ≠ .at s1 := fun s1 h1 e => by rw [h.seat] at e; cases e; rcases h1 with h1 | h1 | h1 <;> cases h1
  have h0u : ∀ s', updS (fun k => (x k).seat) i s' 0 = (x 0).seat := fun s' => updS_ne _ _ (fun e => hi0 e.symm)
  have g5' := g5
  cases g5 with
  | opn ho hz hcal hvs =>
    have hv1 : ((A.cnt gs.size (fun k => (x k).seat) + s0.pend : Nat) : Int) = ((A.cnt gs.size (fun k => (x k).seat) + s0.pend - 1 : Nat) : Int) + 1 := by omega
    have hp1 : s0.pend ≤ 1 := by cases s0 <;> simp [Ft.pend]
    generalize hv : A.cnt gs.size (fun k => (x k).seat) + s0.pend - 1 = v at hv1
    obtain ⟨g', hgo, _, hqq⟩ := hS v 0 (by omega) (by omega) (by rw [← hv1]; simpa using g4)
    obtain ⟨q, hqq⟩ := hqq (fun e => by cases e.2)
    have hW := g4.setSt (((v : Nat) : Int) * KK + ((0 : Nat) : Int))
    refine h.behind hN (fun r e => by cases e) hgo .quit ?_ (Turns.set (.inl rfl) (h.liveSet hW (h.sets _ rfl _) (stays_set h.p.live.2 (.inl rfl) _))) (h.sets _ rfl _) (fun e he => .inr (hev e he)) hdf (.inl rfl) (by simp [Seat.tag, counted]) (by simp [Seat.tag, wt, Ft.weigh]) g1 g2 g3 g5' ⟨_, _, hW, .inl ?_⟩
    · rw [hd, deaf_two]; exact sits_quit hi0 hqq
    · have e1 : ((v : Nat) : Int) * KK + ((0 : Nat) : Int) = ((A.cnt gs.size (updS (fun k => (x k).seat) i .quit) + s0.pend : Nat) : Int) * KK := by
        have : v = A.cnt gs.size (updS (fun k => (x k).seat) i .quit) + s0.pend := by omega
        rw [this]; simp
      rw [e1]
      exact .opn ho (by rw [h0u]; exact hz) (Calm.upd hcal (.inl rfl)) fun vs e => by have := hvs vs e; exact ⟨by omega, this.2⟩
  | reg hcal h1 =>
    have hv1 : ((A.cnt gs.size (fun k => (x k).seat) : Nat) : Int) = ((A.cnt gs.size (fun k => (x k).seat) - 1 : Nat) : Int) + 1 := by omega
    generalize hv : A.cnt gs.size (fun k => (x k).seat) - 1 = v at hv1
    obtain ⟨g', hgo, hla, hqq⟩ := hS v 1 (by omega) (by omega) (by rw [← hv1]; exact g4)
    have hW := g4.setSt (((v : Nat) : Int) * KK + ((1 : Nat) : Int))
    rcases Nat.eq_zero_or_pos v with h0 | h0
    · have hO := hla ⟨h0, rfl⟩
      refine h.behind hN (fun r e => by cases e) hgo (.at .d2) ?_ (Turns.set (.inl rfl) (h.liveSet hW (h.sets _ rfl _) (stays_set h.p.live.2 (.inl rfl) _))) (h.sets _ rfl _) (fun e he => .inr (hev e he)) hdf (.inr (.inl rfl)) (by simp [Seat.tag, counted]) (by simp [Seat.tag, wt, Ft.weigh]) g1 g2 g3 g5' ⟨_, _, hW, .inl ?_⟩
      · rw [hd, deaf_two]; exact sits_at hi0 hO
      · have e1 : ((v : Nat) : Int) * KK + ((1 : Nat) : Int) = 1 := by rw [h0]; simp
        rw [e1]
        have hone := cnt_one hcal hN h.lt hci (by omega)
        exact .last i hN h.lt (.inl (updS_same _ _ _)) fun k k1 kN hk => by rw [updS_ne _ _ hk]; exact hone k k1 kN hk
    · obtain ⟨q, hqq⟩ := hqq (fun e => by omega)
      refine h.behind hN (fun r e => by cases e) hgo .quit ?_ (Turns.set (.inl rfl) (h.liveSet hW (h.sets _ rfl _) (stays_set h.p.live.2 (.inl rfl) _))) (h.sets _ rfl _) (fun e he => .inr (hev e he)) hdf (.inl rfl) (by simp [Seat.tag, counted]) (by simp [Seat.tag, wt, Ft.weigh]) g1 g2 g3 g5' ⟨_, _, hW, .inl ?_⟩
      · rw [hd, deaf_two]; exact sits_quit hi0 hqq
      · have e1 : ((v : Nat) : Int) * KK + ((1 : Nat) : Int) = ((A.cnt gs.size (updS (fun k => (x k).seat) i .quit) : Nat) : Int) * KK + 1 := by
          have : v = A.cnt gs.size (updS (fun k => (x k).seat) i .quit) := by omega
          rw [this]; simp
        rw [e1]
        exact .reg (Calm.upd hcal (.inl rfl)) (by omega)
  | last L hL hLN hs ho =>
    by_cases e : i = L
    · subst e; rcases hs with e | e
      · exact absurd e (hnd _ (.inl rfl))
      · exact absurd e (hnd _ (.inr (.inl rfl)))
    · exact absurd (ho i hN h.lt e) hq
  | last4 L hL hLN hs ho =>
    by_cases e : i = L
    · subst e; exact absurd hs (hnd _ (.inr (.inr rfl)))
    · exact absurd (ho i hN h.lt e) hq
  | sema _ ho => exact absurd (ho i hN h.lt) hq
  | fin _ _ ho => exact absurd (ho i hN h.lt) hq
/-- THE LAST ONE: it loads the state. -/
theorem At.last2 (h : At A Anch FinS K gs w sl m t x i g s) (hN : A.N0 ≤ i) (hs : s = .d2) (hS : A.D2 (x i).own (x i).deaf g w) : K m t := by
  subst hs
  have hi0 : i ≠ 0 := by have := h.n; omega
  obtain ⟨hd, _, hS⟩ := hS
  have hq : (x i).seat ≠ .quit := by rw [h.seat]; intro e; cases e
  have hev : ∀ e ∈ (#[rd (stA A.Wg)] : Array Event), ∃ a b, e = ⟨.cell a, b, true⟩ ∧ a.block = A.Wg := fun e he => by
    simp [rd] at he
    subst he; exact ⟨_, _, rfl, rfl⟩
  obtain ⟨s0, st, sm, g1, g2, g3, g4, g5, g6⟩ := h.grp.mainS
  have g5' := g5
  have hnc : ¬ Calm (x i).seat := by rw [h.seat]; rintro (h | ⟨r, h⟩ | h) <;> cases h
  cases g5 with
  | opn _ _ hcal _ => exact absurd (hcal i hN h.lt) hnc
  | reg hcal _ => exact absurd (hcal i hN h.lt) hnc
  | last L hL hLN hs ho =>
    have e : i = L := Classical.byContradiction fun e => hq (ho i hN h.lt e)
    subst e
    obtain ⟨g', hgo, hO⟩ := hS g4
    refine h.behind hN (fun r e => by cases e) hgo (.at .d3) ?_ (Turns.id h.p.live) rfl (fun e he => .inr (hev e he)) (deafly_cells (by omega) hev) (.inr (.inr (.inl rfl))) (by simp [Seat.tag, counted]) (by simp [Seat.tag, wt, Ft.weigh]) g1 g2 g3 g5' ⟨_, _, g4, .inl ?_⟩
    · rw [hd, deaf_rd]; exact sits_at hi0 hO
    · exact .last i hN h.lt (.inr (updS_same _ _ _)) fun k k1 kN hk => by rw [updS_ne _ _ hk]; exact ho k k1 kN hk
  | last4 L hL hLN hs ho =>
    by_cases e : i = L
    · subst e; have := h.seat; rw [show (x i).seat = _ from hs] at this; cases this
    · exact absurd (ho i hN h.lt e) hq
  | sema _ ho => exact absurd (ho i hN h.lt) hq
  | fin _ _ ho => exact absurd (ho i hN h.lt) hq
/-- It sets it to 0. -/
theorem At.last3 (h : At A Anch FinS K gs w sl m t x i g s) (hN : A.N0 ≤ i) (hs : s = .d3) (hS : A.D3 (x i).own (x i).deaf g w) : K m t := by
  subst hs
  have hi0 : i ≠ 0 := by have := h.n; omega
  obtain ⟨hd, _, hS⟩ := hS
  have hq : (x i).seat ≠ .quit := by rw [h.seat]; intro e; cases e
  have hev : ∀ e ∈ (#[wr (stA A.Wg)] : Array Event), ∃ a b, e = ⟨.cell a, b, true⟩ ∧ a.block = A.Wg := fun e he => by
    simp [wr] at he
    subst he; exact ⟨_, _, rfl, rfl⟩
  obtain ⟨s0, st, sm, g1, g2, g3, g4, g5, g6⟩ := h.grp.mainS
  have g5' := g5
  have hnc : ¬ Calm (x i).seat := by rw [h.seat]; rintro (h | ⟨r, h⟩ | h) <;> cases h
  cases g5 with
  | opn _ _ hcal _ => exact absurd (hcal i hN h.lt) hnc
  | reg hcal _ => exact absurd (hcal i hN h.lt) hnc
  | last L hL hLN hs ho =>
    have e : i = L := Classical.byContradiction fun e => hq (ho i hN h.lt e)
    subst e
    obtain ⟨g', hgo, hO⟩ := hS g4
    have hW := g4.setSt 0
    refine h.behind hN (fun r e => by cases e) hgo (.at .d4) ?_ (Turns.set (.inl rfl) (h.liveSet hW (h.sets _ rfl _) (stays_set h.p.live.2 (.inl rfl) _))) (h.sets _ rfl _) (fun e he => .inr (hev e he)) (deafly_cells (by omega) hev) (.inr (.inr (.inr rfl))) (by simp [Seat.tag, counted]) (by simp [Seat.tag, wt, Ft.weigh]) g1 g2 g3 g5' ⟨_, _, hW, .inl ?_⟩
    · rw [hd, deaf_wr]; exact sits_at hi0 hO
    · exact .last4 i hN h.lt (updS_same _ _ _) fun k k1 kN hk => by rw [updS_ne _ _ hk]; exact ho k k1 kN hk
  | last4 L hL hLN hs ho =>
    by_cases e : i = L
    · subst e; have := h.seat; rw [show (x i).seat = _ from hs] at this; cases this
    · exact absurd (ho i hN h.lt e) hq
  | sema _ ho => exact absurd (ho i hN h.lt) hq
  | fin _ _ ho => exact absurd (ho i hN h.lt) hq
/-- It raises the semaphore: whoever waits is awake. -/
theorem At.last4 (h : At A Anch FinS K gs w sl m t x i g s) (hN : A.N0 ≤ i) (hs : s = .d4) (hS : A.D4 (x i).own (x i).deaf g w) : K m t := by
  subst hs
  have hi0 : i ≠ 0 := by have := h.n; omega
  obtain ⟨hd, _, hmw, hS⟩ := hS
  have hq : (x i).seat ≠ .quit := by rw [h.seat]; intro e; cases e
  have hev : ∀ e ∈ semEvents (smA A.Wg), Event.mute e = true ∨ ∃ a b, e = ⟨.cell a, b, true⟩ ∧ a.block = A.Wg := fun e he => by
    simp [semEvents] at he
    rcases he with rfl | rfl | rfl | rfl
    · exact .inl rfl
    · exact .inr ⟨_, _, rfl, rfl⟩
    · exact .inr ⟨_, _, rfl, rfl⟩
    · exact .inl rfl
  obtain ⟨s0, st, sm, g1, g2, g3, g4, g5, g6⟩ := h.grp.mainS
  have g5' := g5
  have hnc : ¬ Calm (x i).seat := by rw [h.seat]; rintro (h | ⟨r, h⟩ | h) <;> cases h
  cases g5 with
  | opn _ _ hcal _ => exact absurd (hcal i hN h.lt) hnc
  | reg hcal _ => exact absurd (hcal i hN h.lt) hnc
  | last L hL hLN hs ho =>
    by_cases e : i = L
    · subst e; have := h.seat
      rcases hs with hs | hs <;> (rw [show (x i).seat = _ from hs] at this; cases this)
    · exact absurd (ho i hN h.lt e) hq
  | last4 L hL hLN hs ho =>
    have e : i = L := Classical.byContradiction fun e => hq (ho i hN h.lt e)
    subst e
    obtain ⟨g', hgo, q, hqq⟩ := hS g4
    have hW := g4.setSm 1
    have hm : (A.team Anch FinS).mayW g g' = true := by
      unfold Team.mayW
      rw [show mayWake (A.team Anch FinS).P g = true from hmw]
      rcases hqq.status with e | e <;> rw [e] <;> rfl
    refine h.behind hN (fun r e => by cases e) hgo .quit ?_ (Turns.set (.inl rfl) (h.liveSet hW (h.sets _ rfl _) (stays_set h.p.live.2 (.inl rfl) _))) (h.sets _ rfl _) hev deafly_sem (.inl rfl) (by simp [Seat.tag, counted]) (by simp [Seat.tag, wt, Ft.weigh]) g1 g2 g3 g5' ⟨_, _, hW, .inr ⟨hm, ?_⟩⟩
    · rw [hd, deaf_sem]; exact sits_quit hi0 hqq
    · refine .sema ?_ fun k k1 kN => ?_
      · show (updS (fun k => (x k).seat) i .quit 0).un = _
        rw [updS_ne _ _ (fun e => hi0 e.symm)]
        rcases g1 with g1 | ⟨g1, _⟩ <;> rw [show (x 0).seat = _ from g1] <;> rfl
      · show (updS (fun k => (x k).seat) i .quit k).un = _
        by_cases hk : k = i
        · rw [hk, updS_same]; rfl
        · rw [updS_ne _ _ hk, show (x k).seat = _ from ho k k1 kN hk]; rfl
  | sema _ ho => exact absurd (ho i hN h.lt) hq
  | fin _ _ ho => exact absurd (ho i hN h.lt) hq
/-- WHATEVER STOP OF A WORKER'S. -/
theorem At.work (h : At A Anch FinS K gs w sl m t x i g s) (hN : A.N0 ≤ i) (hS : A.stop Anch FinS i s (x i).own (x i).deaf g w) : K m t := by
  rcases h.grp.who h.lt h.seat with ⟨h0, _⟩ | ⟨_, ⟨r, hr⟩ | rfl | rfl | rfl | rfl⟩
  · have := h.n; omega
  · subst hr
    have hS' : A.Own (i - A.N0) r (x i).own (x i).deaf g w := hS
    cases r with
    | zero => exact h.release hN rfl hS'
    | succ r =>
      rcases hS' with hS' | hS'
      · exact h.release hN rfl hS'
      · exact h.add hN rfl hS'
  · exact h.done hN rfl hS
  · exact h.last2 hN rfl hS
  · exact h.last3 hN rfl hS
  · exact h.last4 hN rfl hS
end
end Par
end Go.Proofs.Ytgfgoflhmikalaa.par

namespace Go.Proofs.Ytgfgoflhmikalaa.par
open Go Go.Conc
open Go.ConcN (CT Apart Deaf_absent PermW RelBy sumTo sumTo_congr sumTo_upd le_sumTo sumTo_le)
open Go.ConcR (stA smA WgAt KK rd wr)
set_option linter.unusedVariables false
set_option linter.unusedSimpArgs false
namespace Par
variable {A : Par} {Anch FinS : (Nat → Prop) → Nat → Goroutine → World → Prop}
section
variable {gs : Array Goroutine} {w w' : World} {t : Trace} {x : Nat → GR Ft} {g : Goroutine} {m : Machine} {sl : Option (Nat × Nat)} {s : Ft} {K : Machine → Trace → Prop}
theorem sits_main {s' : Ft} (hm : s'.main) {O : Nat → Prop} {d : Nat} {g : Goroutine} {w : World} (h : A.LM (A.stop Anch FinS 0 s') O d g w) : ∃ rk, (A.team Anch FinS).Sits 0 ⟨.at s', rk, O, d⟩ g w := by
  obtain ⟨r, hr⟩ := h.ranked
  refine ⟨r, ?_⟩
  show OTr A.P (0 == 0) A.Env (A.gu 0 s') (A.stop Anch FinS 0 s') r O d g w
  cases s' <;> first | exact hr | exact hm.elim
/-- The situation behind a step of the starter's. -/
theorem Grp.up0 {N : Nat} {se : Nat → Seat Ft} {t' : Trace} (h : A.Grp N se w t) {s s' : Ft} {sx : Seat Ft} (h0 : se 0 = .at s) (hsx : sx = .at s' ∨ (sx = .blk s' ∧ s' = .w3)) (hm : s'.main) (hl : N + s'.left = A.N0 + 4) (hB : w'.heap[A.wB]? = w.heap[A.wB]?)
    (hmode : ∃ st' sm', WgAt A.tW A.Wg w' st' sm' ∧ A.Md N (updS se 0 sx) s' st' sm') (hacq : s' = .fin → Acq A.N0 A.Wg N t') (htr : TR A.N0 A.Wg A.S0 (rel se) N t') : A.Grp N (updS se 0 sx) w' t' := by
  obtain ⟨st', sm', g7, g8⟩ := hmode
  obtain ⟨c, hc1, hc2⟩ := h.sums
  have hn := h.n0
  have hlo := h.lo
  have hne : ∀ k, A.N0 ≤ k → updS se 0 sx k = se k := fun k hk => updS_ne _ _ (by omega)
  refine ⟨h.n0, h.lo, ⟨s', st', sm', by rw [updS_same]; exact hsx, hm, hl, g7, g8, hacq⟩, fun k k1 kN => by rw [updS_ne _ _ (by omega)]; exact h.old k k1 kN, fun k k1 kN => by rw [hne k k1]; exact h.work k k1 kN, ⟨c, by unfold Par.WB at hc1 ⊢; rw [hB]; exact hc1, fun k k1 kN => ?_⟩, htr.mono fun k k1 kN hr r e => hr r (by rw [hne k k1]; exact e), fun k hk => by rw [hne k (by omega)]; exact h.up k hk⟩
  obtain ⟨a1, a2, a3⟩ := hc2 k k1 kN
  exact ⟨a1, fun r e => a2 r (by rw [← hne k k1]; exact e), fun hr => a3 fun r e => hr r (by rw [hne k k1]; exact e)⟩
/-- A step of the starter's. -/
theorem At.first (h : At A Anch FinS K gs w sl m t x 0 g s) {g' : Goroutine} {es : Array Event} (hgo : stepG A.P true g w = .go g' w' es) (s' : Ft) (hm : s'.main) (hl : s'.left = s.left) (hy : A.LM (A.stop Anch FinS 0 s') (x 0).own (deafBehind (x 0).deaf es) g' w') (hw : A.Turns w w') (hB : w'.heap[A.wB]? = w.heap[A.wB]?)
    (hev : ∀ e ∈ es, Event.mute e = true ∨ EvS A.Sh True e) (hnr : ∀ e ∈ es, e.loc ≠ .mark (.release (stA A.Wg))) (hmode : ∃ st' sm', WgAt A.tW A.Wg w' st' sm' ∧ A.Md gs.size (updS (fun k => (x k).seat) 0 (.at s')) s' st' sm') (hacq : s' = .fin → ∀ fn pos, Acq A.N0 A.Wg gs.size (t ++ MemOp.ofEvents 0 fn pos es))
    (hwt : ∀ v, (gs.size = A.N0 + 4 → v = A.cnt gs.size fun k => (x k).seat) → s'.weigh v A.bnd < s.weigh v A.bnd) : K m t := by
  have hn := h.n
  obtain ⟨rk, hy⟩ := sits_main hm hy
  have hse : (fun k => (x k).seat) 0 = .at s := h.seat
  obtain ⟨s1, st, sm, g1, g2, g3, g4, g5, g6⟩ := h.grp.mainS
  have hs1 : s1 = s := by rcases g1 with e | ⟨e, _⟩ <;> (have e' := h.seat; rw [show (x 0).seat = _ from e] at e'; cases e' <;> rfl)
  subst hs1
  refine proto_go h.n K h.back h.p h.gi h.st h.ih hgo (.at s') rk hy hw (fun e he => (hev e he).imp id fun h => ?_) (fun h => by omega) (fun _ => rfl) (fun fn pos => ?_) (.inl (phi_main (fun k => (x k).seat) h.n (s := s1) (by rw [h.seat]; rfl) (.at s') rfl (hwt _ fun e => ?_)))
  · rcases h with h | h | ⟨_, h⟩
    · exact .inl h
    · exact .inr (.inl h)
    · exact .inr (.inr ⟨rfl, h⟩)
  · have hG : A.Grp gs.size (updS (fun k => (x k).seat) 0 (.at s')) w' (t ++ MemOp.ofEvents 0 fn pos es) := h.grp.up0 hse (.inl rfl) hm (by omega) hB hmode (fun e => hacq e fn pos) (h.grp.tr.app 0 fn pos hnr (fun h => absurd rfl h) fun _ h => by omega)
    split
    · exact hG.waken
    · exact hG
  · unfold Par.cnt
    rw [e, show A.N0 + 4 - A.N0 = 4 by omega]
theorem At.mode0 (h : At A Anch FinS K gs w sl m t x 0 g s) : ∃ st sm, s.main ∧ gs.size + s.left = A.N0 + 4 ∧ WgAt A.tW A.Wg w st sm ∧ A.Md gs.size (fun k => (x k).seat) s st sm := by
  obtain ⟨s1, st, sm, g1, g2, g3, g4, g5, g6⟩ := h.grp.mainS
  have hse : (fun k => (x k).seat) 0 = .at s := h.seat
  have hs1 : s1 = s := by rcases g1 with e | ⟨e, _⟩ <;> (have e' := h.seat; rw [show (x 0).seat = _ from e] at e'; cases e' <;> rfl)
  subst hs1
  exact ⟨st, sm, g2, g3, g4, g5⟩
/-- At an open stop the state is the count. -/
theorem At.openSt (h : At A Anch FinS K gs w sl m t x 0 g s) (ho : s.open) : gs.size + s.left = A.N0 + 4 ∧ WgAt A.tW A.Wg w (((A.cnt gs.size (fun k => (x k).seat) + s.pend : Nat) : Int) * KK) 0 ∧ (∀ k, A.N0 ≤ k → k < gs.size → Calm (x k).seat) ∧ ∀ vs, s = .w2 vs → A.cnt gs.size (fun k => (x k).seat) ≤ vs ∧ 1 ≤ vs := by
  obtain ⟨st, sm, _, g3, g4, g5⟩ := h.mode0
  cases g5 with
  | opn _ _ hc hs => exact ⟨g3, g4, hc, hs⟩
  | reg => exact ho.elim
  | last => exact ho.elim
  | last4 => exact ho.elim
  | sema => exact ho.elim
  | fin hf => cases s <;> first | exact ho.elim | exact hf.elim
theorem ev_two (a b : Addr) (ha : a.block = A.Wg) (hb : b.block = A.Wg) : ∀ e ∈ (#[rd a, wr b] : Array Event), EvS A.Sh True e := fun e he => by
  simp [rd, wr] at he
  rcases he with rfl | rfl
  · exact .inl ⟨_, _, rfl, .inr (.inl ha)⟩
  · exact .inl ⟨_, _, rfl, .inr (.inl hb)⟩
theorem ev_rd (a : Addr) (ha : a.block = A.Wg) : ∀ e ∈ (#[rd a] : Array Event), EvS A.Sh True e := fun e he => by
  simp [rd] at he
  subst he
  exact .inl ⟨_, _, rfl, .inr (.inl ha)⟩
theorem nr_two (a b c : Addr) : ∀ e ∈ (#[rd a, wr b] : Array Event), e.loc ≠ .mark (.release c) := fun e he hh => by
  simp [rd, wr] at he
  rcases he with rfl | rfl <;> cases hh
theorem nr_rd (a c : Addr) : ∀ e ∈ (#[rd a] : Array Event), e.loc ≠ .mark (.release c) := fun e he hh => by
  simp [rd] at he
  subst he
  cases hh
theorem cnt0 (hn : 1 ≤ A.N0) (se : Nat → Seat Ft) (N : Nat) (sx : Seat Ft) : A.cnt N (updS se 0 sx) = A.cnt N se := cnt_upd0 hn se sx
/-- THE ATOMIC ADD OF 1. -/
theorem At.add1 (h : At A Anch FinS K gs w sl m t x 0 g s) {r : Nat} (hs : s = .a1 r) (hS : A.A1 (A.GoR Anch FinS r) (x 0).own (x 0).deaf g w) : K m t := by
  subst hs
  obtain ⟨hd, _, hS⟩ := hS
  obtain ⟨g3, g4, hcal, _⟩ := h.openSt trivial
  have hc4 := cnt_le (A := A) (fun k => (x k).seat) h.grp.n4
  obtain ⟨g', hgo, hO⟩ := hS (A.cnt gs.size fun k => (x k).seat) (by omega) g4
  have hW := g4.setSt ((((A.cnt gs.size fun k => (x k).seat) : Nat) : Int) + 1) 
  have hW := g4.setSt (((((A.cnt gs.size fun k => (x k).seat) : Nat) : Int) + 1) * KK)
  refine h.first hgo (.go r) trivial rfl (by rw [hd, deaf_two]; exact hO) (Turns.set (.inl rfl) (h.liveSet hW (h.sets _ rfl _) (stays_set h.p.live.2 (.inl rfl) _))) (h.sets _ rfl _) (fun e he => .inr (ev_two _ _ rfl rfl e he)) (nr_two _ _ _) ⟨_, _, hW, ?_⟩ (fun e => by cases e) fun v _ => by
    simp only [Ft.weigh]
    have : (A.bnd + 100) * (2 * r + 2) = (A.bnd + 100) * (2 * r + 1) + (A.bnd + 100) := by rw [show 2 * r + 2 = (2 * r + 1) + 1 by omega, Nat.mul_succ]
    omega
  have e1 : ((((A.cnt gs.size fun k => (x k).seat) : Nat) : Int) + 1) = ((A.cnt gs.size (updS (fun k => (x k).seat) 0 (.at (.go r))) + (Ft.go r).pend : Nat) : Int) := by rw [cnt0 h.n]; simp [Ft.pend]
  rw [e1]
  exact .opn trivial (updS_same _ _ _) (fun k k1 kN => by rw [updS_ne _ _ (by have := h.n; omega)]; exact hcal k k1 kN) fun vs e => by cases e
/-- THE LOAD AT THE LOOP'S HEAD. -/
theorem At.wait1 (h : At A Anch FinS K gs w sl m t x 0 g s) (hs : s = .w1) (hS : A.W1 Anch FinS (x 0).own (x 0).deaf g w) : K m t := by
  subst hs
  obtain ⟨hd, _, hS⟩ := hS
  obtain ⟨g3, g4, hcal, _⟩ := h.openSt trivial
  have hc4 := cnt_le (A := A) (fun k => (x k).seat) h.grp.n4
  have g4' : WgAt A.tW A.Wg w (((A.cnt gs.size (fun k => (x k).seat) : Nat) : Int) * KK) 0 := g4
  obtain ⟨g', hgo, h0, h1⟩ := hS (A.cnt gs.size fun k => (x k).seat) (by omega) g4'
  rcases Nat.eq_zero_or_pos (A.cnt gs.size fun k => (x k).seat) with hz | hp
  · refine h.first hgo .acq trivial rfl (by rw [hd, deaf_rd]; exact h0 hz) (Turns.id h.p.live) rfl (fun e he => .inr (ev_rd _ rfl e he)) (nr_rd _ _) ⟨_, _, g4', ?_⟩ (fun e => by cases e) fun v _ => by simp only [Ft.weigh]; omega
    rw [hz]
    refine (show A.Md _ _ .acq (((0 : Nat) : Int) * KK) 0 from by
      rw [show ((0 : Nat) : Int) * KK = 0 by simp]
      refine .fin trivial (updS_same _ _ _) fun k k1 kN => ?_
      rw [updS_ne _ _ (by have := h.n; omega)]
      have := counted_le (A := A) (fun k => (x k).seat) k1 kN
      rcases hcal k k1 kN with e | ⟨r, e⟩ | e
      · exact e
      · rw [e] at this; simp [Seat.tag, counted] at this; omega
      · rw [e] at this; simp [Seat.tag, counted] at this; omega)
  · refine h.first hgo (.w2 (A.cnt gs.size fun k => (x k).seat)) trivial rfl (by rw [hd, deaf_rd]; exact h1 (by omega)) (Turns.id h.p.live) rfl (fun e he => .inr (ev_rd _ rfl e he)) (nr_rd _ _) ⟨_, _, g4', ?_⟩ (fun e => by cases e) fun v hv => by
      simp only [Ft.weigh]
      have := hv g3
      omega
    have e1 : (A.cnt gs.size fun k => (x k).seat) = A.cnt gs.size (updS (fun k => (x k).seat) 0 (.at (.w2 (A.cnt gs.size fun k => (x k).seat)))) + (Ft.w2 (A.cnt gs.size fun k => (x k).seat)).pend := by rw [cnt0 h.n]; rfl
    have := Md.opn (A := A) (N := gs.size) (se := updS (fun k => (x k).seat) 0 (.at (.w2 (A.cnt gs.size fun k => (x k).seat)))) (s := .w2 (A.cnt gs.size fun k => (x k).seat)) trivial (updS_same _ _ _) (fun k k1 kN => by rw [updS_ne _ _ (by have := h.n; omega)]; exact hcal k k1 kN) fun vs e => by cases e; rw [cnt0 h.n]; exact ⟨Nat.le_refl _, hp⟩
    rw [← e1] at this
    exact this
/-- THE CompareAndSwap. -/
theorem At.wait2 (h : At A Anch FinS K gs w sl m t x 0 g s) {vs : Nat} (hs : s = .w2 vs) (hAn : ∀ O d g w, Anch O d g w → A.LM (A.W1 Anch FinS) O d g w) (hS : A.W2 Anch FinS vs (x 0).own (x 0).deaf g w) : K m t := by
  subst hs
  obtain ⟨hd, _, hS⟩ := hS
  obtain ⟨g3, g4, hcal, hvs⟩ := h.openSt trivial
  obtain ⟨hle, h1⟩ := hvs vs rfl
  have hc4 := cnt_le (A := A) (fun k => (x k).seat) h.grp.n4
  have g4' : WgAt A.tW A.Wg w (((A.cnt gs.size (fun k => (x k).seat) : Nat) : Int) * KK) 0 := g4
  obtain ⟨hhit, hmiss⟩ := hS (A.cnt gs.size fun k => (x k).seat) (by omega) g4'
  by_cases e : (A.cnt gs.size fun k => (x k).seat) = vs
  · obtain ⟨g', hgo, hO⟩ := hhit e
    have hW := g4'.setSt ((((A.cnt gs.size fun k => (x k).seat) : Nat) : Int) * KK + 1)
    refine h.first hgo .w3 trivial rfl (by rw [hd, deaf_two]; exact hO) (Turns.set (.inl rfl) (h.liveSet hW (h.sets _ rfl _) (stays_set h.p.live.2 (.inl rfl) _))) (h.sets _ rfl _) (fun e he => .inr (ev_two _ _ rfl rfl e he)) (nr_two _ _ _) ⟨_, _, hW, ?_⟩ (fun e => by cases e) fun v _ => by simp only [Ft.weigh]; omega
    have := Md.reg (A := A) (N := gs.size) (se := updS (fun k => (x k).seat) 0 (.at .w3)) (fun k k1 kN => by rw [updS_ne _ _ (by have := h.n; omega)]; exact hcal k k1 kN) (by rw [cnt0 h.n]; omega)
    rw [cnt0 h.n] at this
    exact this
  · obtain ⟨g', hgo, hO⟩ := hmiss e
    refine h.first hgo .w1 trivial rfl (by rw [hd, deaf_rd]; exact hO.bind (EnvT.refl ryA) hAn) (Turns.id h.p.live) rfl (fun e he => .inr (ev_rd _ rfl e he)) (nr_rd _ _) ⟨_, _, g4', ?_⟩ (fun e => by cases e) fun v hv => by
      simp only [Ft.weigh]
      have := hv g3
      omega
    have := Md.opn (A := A) (N := gs.size) (se := updS (fun k => (x k).seat) 0 (.at .w1)) (s := .w1) trivial (updS_same _ _ _) (fun k k1 kN => by rw [updS_ne _ _ (by have := h.n; omega)]; exact hcal k k1 kN) fun vs e => by cases e
    rw [cnt0 h.n] at this
    exact this
end
end Par
end Go.Proofs.Ytgfgoflhmikalaa.par

namespace Go.Proofs.Ytgfgoflhmikalaa.par
open Go Go.Conc
open Go.ConcN (CT Apart Deaf_absent PermW RelBy sumTo sumTo_congr sumTo_upd le_sumTo sumTo_le)
open Go.ConcR (stA smA WgAt KK rd wr)
set_option linter.unusedVariables false
set_option linter.unusedSimpArgs false
namespace Par
variable {A : Par} {Anch FinS : (Nat → Prop) → Nat → Goroutine → World → Prop}
section
variable {gs : Array Goroutine} {w w' : World} {t : Trace} {x : Nat → GR Ft} {g : Goroutine} {m : Machine} {sl : Option (Nat × Nat)} {s : Ft} {K : Machine → Trace → Prop}
/-- It blocks, or takes the semaphore's count. -/
theorem At.wait3 (h : At A Anch FinS K gs w sl m t x 0 g s) (hs : s = .w3) (hS : ∀ w₁, A.Env (x 0).own w w₁ → A.W3 FinS (x 0).own (x 0).deaf g w₁) : K m t := by
  subst hs
  have hse : (fun k => (x k).seat) 0 = .at .w3 := h.seat
  have hn := h.n
  obtain ⟨hd, hrun, hoff, hb, htk⟩ := hS w (EnvT.refl ryA _ _)
  obtain ⟨st, sm, g2, g3, g4, g5⟩ := h.mode0
  have blk : sm = 0 → (A.Md gs.size (updS (fun k => (x k).seat) 0 (.blk .w3)) .w3 st sm) → K m t := fun hz hmd => by
    subst hz
    have hgo := hb ⟨st, g4⟩
    have hm : (A.team Anch FinS).mayW g { g with status := .blocked } = false := by
      unfold Team.mayW
      cases mayWake (A.team Anch FinS).P g <;> rfl
    refine proto_go h.n K h.back h.p h.gi h.st h.ih hgo (.blk .w3) Rk.nil ?_ (Turns.id h.p.live) (fun e he => by simp at he) (fun h => by omega) (fun h => by rw [hm] at h; cases h) (fun fn pos => ?_) (.inr ⟨rfl, hm, by rw [h.seat]; rfl, by rw [h.seat]; exact Nat.zero_lt_one⟩)
    · exact ⟨g, rfl, hrun, hoff, fun w₁ h₁ => hS w₁ h₁⟩
    · rw [hm, if_neg (by simp)]
      exact h.grp.up0 hse (.inr ⟨rfl, rfl⟩) trivial g3 rfl ⟨_, _, g4, hmd⟩ (fun e => by cases e) (h.grp.tr.app 0 fn pos (fun e he => by simp at he) (fun h => absurd rfl h) fun _ h => by omega)
  have hne : ∀ k, A.N0 ≤ k → updS (fun k => (x k).seat) 0 (.blk .w3) k = (x k).seat := fun k hk => updS_ne _ _ (by omega)
  have g5' := g5
  cases g5 with
  | opn ho => exact ho.elim
  | reg hc h1 =>
    refine blk rfl ?_
    have := Md.reg (A := A) (N := gs.size) (se := updS (fun k => (x k).seat) 0 (.blk .w3)) (fun k k1 kN => by rw [hne k k1]; exact hc k k1 kN) (by rw [cnt0 h.n]; exact h1)
    rw [cnt0 h.n] at this
    exact this
  | last L hL hN hs ho => exact blk rfl (.last L hL hN (by rw [hne L hL]; exact hs) fun k k1 kN hk => by rw [hne k k1]; exact ho k k1 kN hk)
  | last4 L hL hN hs ho => exact blk rfl (.last4 L hL hN (by rw [hne L hL]; exact hs) fun k k1 kN hk => by rw [hne k k1]; exact ho k k1 kN hk)
  | sema h0 ho =>
    obtain ⟨g', hgo, hO⟩ := htk g4
    have hW := g4.setSm 0
    refine h.first hgo .w4 trivial rfl (by rw [hd, deaf_sem]; exact hO) (Turns.set (.inl rfl) (h.liveSet hW (h.sets _ rfl _) (stays_set h.p.live.2 (.inl rfl) _))) (h.sets _ rfl _) (fun e he => ?_) (fun e he hh => ?_) ⟨_, _, hW, .fin trivial (updS_same _ _ _) fun k k1 kN => by rw [updS_ne _ _ (by omega)]; exact ho k k1 kN⟩ (fun e => by cases e) fun v _ => by simp only [Ft.weigh]; omega
    · simp [semEvents] at he
      rcases he with rfl | rfl | rfl | rfl
      · exact .inl rfl
      · exact .inr (.inl ⟨_, _, rfl, .inr (.inl rfl)⟩)
      · exact .inr (.inl ⟨_, _, rfl, .inr (.inl rfl)⟩)
      · exact .inl rfl
    · simp [semEvents] at he
      rcases he with rfl | rfl | rfl | rfl <;> cases hh
  | fin hf => exact hf.elim
/-- At a stop behind all it is all over. -/
theorem At.overSt (h : At A Anch FinS K gs w sl m t x 0 g s) (ho : s.over) : gs.size + s.left = A.N0 + 4 ∧ WgAt A.tW A.Wg w 0 0 ∧ ∀ k, A.N0 ≤ k → k < gs.size → (x k).seat = .quit := by
  obtain ⟨st, sm, _, g3, g4, g5⟩ := h.mode0
  cases g5 with
  | opn hf => cases s <;> first | exact ho.elim | exact hf.elim
  | reg => exact ho.elim
  | last => exact ho.elim
  | last4 => exact ho.elim
  | sema => exact ho.elim
  | fin hf h0 hq => exact ⟨g3, g4, hq⟩
theorem At.wait4 (h : At A Anch FinS K gs w sl m t x 0 g s) (hs : s = .w4) (hS : A.W4 FinS (x 0).own (x 0).deaf g w) : K m t := by
  subst hs
  obtain ⟨hd, _, hS⟩ := hS
  obtain ⟨g3, g4, hq⟩ := h.overSt trivial
  obtain ⟨g', hgo, hO⟩ := hS g4
  exact h.first hgo .acq trivial rfl (by rw [hd, deaf_rd]; exact hO) (Turns.id h.p.live) rfl (fun e he => .inr (ev_rd _ rfl e he)) (nr_rd _ _) ⟨_, _, g4, .fin trivial (updS_same _ _ _) fun k k1 kN => by rw [updS_ne _ _ (by have := h.n; omega)]; exact hq k k1 kN⟩ (fun e => by cases e) fun v _ => by simp only [Ft.weigh]; omega
/-- 'acquire'. -/
theorem At.acquire (h : At A Anch FinS K gs w sl m t x 0 g s) (hs : s = .acq) (hF : ∀ O d g w, FinS O d g w → g.status = .running) (hS : A.Ac FinS (x 0).own (x 0).deaf g w) : K m t := by
  subst hs
  obtain ⟨hd, _, g', hgo, hO⟩ := hS
  obtain ⟨g3, g4, hq⟩ := h.overSt trivial
  have hd' : Deaf t 0 = 0 := by rw [h.deaf, hd]
  refine h.first hgo .fin trivial rfl (by rw [hd, deaf_mk 0 _ ⟨by simp, by simp⟩]; exact hO.weaken fun O d g w hh => ⟨hF _ _ _ _ hh, hh⟩) (Turns.id h.p.live) rfl (fun e he => .inr ?_) (fun e he hh => ?_) ⟨_, _, g4, .fin trivial (updS_same _ _ _) fun k k1 kN => by rw [updS_ne _ _ (by have := h.n; omega)]; exact hq k k1 kN⟩ (fun _ fn pos => Acq.new h.grp.tr h.n (fun k k1 kN r e => by rw [show (fun k => (x k).seat) k = _ from hq k k1 kN] at e; cases e) hd' fn pos) fun v _ => by simp only [Ft.weigh]; omega
  · simp [Go.ConcR.mk] at he
    subst he
    exact .inr (.inl (.inl ⟨_, rfl, .inr (.inl rfl)⟩))
  · simp [Go.ConcR.mk] at he
    subst he
    cases hh
theorem cnt4 (f : Nat → Seat Ft) : (sumTo 4 fun i => counted (f (A.N0 + i)).tag) ≤ 4 := sumTo_le (c := 1) fun j _ => by
  cases (f (A.N0 + j)).tag with
  | none => simp [counted]
  | some s => cases s <;> simp [counted]
/-- THE go STATEMENT. -/
theorem At.spawn (h : At A Anch FinS K gs w sl m t x 0 g s) {r : Nat} (hs : s = .go r) {k : Nat} {Next : (Nat → Prop) → Nat → Goroutine → World → Prop} {s' : Ft} (hm : s'.main) (ho : s'.open) (hp0 : s'.pend = 0) (hnv : ∀ vs, s' ≠ .w2 vs) (hl : s'.left + 1 = r + 1) (hw : ∀ v, v ≤ 4 → s'.weigh v A.bnd + (A.bnd + 10) ≤ (Ft.go r).weigh 0 A.bnd) (hk : A.N0 + k = gs.size) (hN : ∀ O d g w, Next O d g w → A.stop Anch FinS 0 s' O d g w) (hS : A.GoS k Next (x 0).own (x 0).deaf g w) : K m t := by
  subst hs
  have hn := h.n
  obtain ⟨hd, _, g', child, Om, Oc, hgo, h1, h2, h3, hO, hO2⟩ := hS
  obtain ⟨g3, g4, hcal, _⟩ := h.openSt trivial
  have g3' : gs.size + (r + 1) = A.N0 + 4 := g3
  obtain ⟨rk, hy⟩ := sits_main hm (hO2.weaken hN)
  obtain ⟨rc, hc⟩ := hO.ranked
  have hi : gs[0]? = some g := h.gi
  have hpos : 0 < gs.size := h.lt
  have hrun := runT_crowd_spawn (P := A.P) (sl := sl) (i := 0) hi (show stepG A.P (0 == 0) g w = _ from hgo)
  have hlo := h.grp.lo
  have hst : (A.team Anch FinS).Sits gs.size ⟨.at (.own A.bnd), rc, Oc, 0⟩ child w := by
    show OTr A.P (gs.size == 0) A.Env (A.gu gs.size (.own A.bnd)) (A.stop Anch FinS gs.size (.own A.bnd)) rc Oc 0 child w
    rw [show (gs.size == 0) = false from beq_eq_false_iff_ne.2 (by omega)]
    show OTr A.P false A.Env (GuT A.Rd A.Sh False) (A.Own (gs.size - A.N0) A.bnd) rc Oc 0 child w
    rw [show gs.size - A.N0 = k by omega]
    exact hc
  have hseat : (fun k => (upd (upd x 0 ⟨.at s', rk, Om, 0⟩) gs.size ⟨.at (.own A.bnd), rc, Oc, 0⟩ k).seat) = updS (updS (fun k => (x k).seat) 0 (.at s')) gs.size (.at (.own A.bnd)) := by
    funext j
    by_cases hj : j = gs.size
    · rw [hj, upd_same, updS_same]
    · rw [upd_ne _ _ hj, updS_ne _ _ hj]
      by_cases hj0 : j = 0
      · rw [hj0, upd_same, updS_same]
      · rw [upd_ne _ _ hj0, updS_ne _ _ hj0]
  have hne : ∀ j, A.N0 ≤ j → j ≠ gs.size → updS (updS (fun k => (x k).seat) 0 (.at s')) gs.size (.at (.own A.bnd)) j = (x j).seat := fun j hj hjn => by rw [updS_ne _ _ hjn, updS_ne _ _ (by omega)]
  have hz : updS (updS (fun k => (x k).seat) 0 (.at s')) gs.size (.at (.own A.bnd)) 0 = .at s' := by rw [updS_ne _ _ (by omega), updS_same]
  have hxN : (x gs.size).seat = .quit := h.grp.up _ (Nat.le_refl _)
  -- the count
  have hcnt : A.cnt (gs.size + 1) (updS (updS (fun k => (x k).seat) 0 (.at s')) gs.size (.at (.own A.bnd))) = A.cnt gs.size (fun k => (x k).seat) + 1 := by
    unfold Par.cnt
    rw [show gs.size + 1 - A.N0 = (gs.size - A.N0) + 1 by omega]
    simp only [sumTo]
    rw [show A.N0 + (gs.size - A.N0) = gs.size by omega, updS_same]
    have : (sumTo (gs.size - A.N0) fun i => counted (updS (updS (fun k => (x k).seat) 0 (.at s')) gs.size (.at (.own A.bnd)) (A.N0 + i)).tag) = sumTo (gs.size - A.N0) fun i => counted (x (A.N0 + i)).seat.tag := sumTo_congr fun i hi => by rw [hne _ (by omega) (by omega)]
    rw [this]
    rfl
  have hops : ((MemOp.ofEvents 0 g.frame.fn g.frame.place #[]).push { g := 0, fn := g.frame.fn, pos := g.frame.place, act := .go gs.size }).push { g := gs.size, fn := child.frame.fn, pos := g.frame.place, act := .start } = #[({ g := 0, fn := g.frame.fn, pos := g.frame.place, act := .go gs.size } : MemOp), { g := gs.size, fn := child.frame.fn, pos := g.frame.place, act := .start }] := rfl
  have hp' := h.p.fork (team_ok hn) hi (g' := g') (child := child) ⟨.at s', rk, Om, 0⟩ ⟨.at (.own A.bnd), rc, Oc, 0⟩ hy hst h1 h2 h3 hd rfl rfl (by show A.N0 ≤ gs.size; omega) (by show gs.size ≤ A.N0 + 3; omega) _ ⟨_, _, hops, ⟨rfl, rfl⟩, ⟨rfl, rfl⟩⟩ (by
    show A.Grp (gs.size + 1) (fun k => (upd (upd x 0 ⟨.at s', rk, Om, 0⟩) gs.size ⟨.at (.own A.bnd), rc, Oc, 0⟩ k).seat) w _
    rw [hseat]
    obtain ⟨c, hc1, hc2⟩ := h.grp.sums
    refine ⟨hn, by omega, ⟨s', _, _, .inl hz, hm, by omega, g4, ?_, fun e => by subst e; exact ho.elim⟩, fun j j1 jN => ?_, fun j j1 jN => ?_, ⟨Go.ConcN.upd c gs.size 0, ?_, fun j j1 jN => ?_⟩, ?_, fun j hj => ?_⟩
    · have e1 : A.cnt gs.size (fun k => (x k).seat) + (Ft.go r).pend = A.cnt (gs.size + 1) (updS (updS (fun k => (x k).seat) 0 (.at s')) gs.size (.at (.own A.bnd))) + s'.pend := by rw [hcnt, hp0]; rfl
      rw [e1]
      refine .opn ho hz (fun j j1 jN => ?_) fun vs e => absurd e (hnv vs)
      by_cases hj : j = gs.size
      · rw [hj, updS_same]; exact .inr (.inl ⟨_, rfl⟩)
      · rw [hne j j1 hj]; exact hcal j j1 (by omega)
    · rw [updS_ne _ _ (by omega), updS_ne _ _ (by omega)]; exact h.grp.old j j1 jN
    · by_cases hj : j = gs.size
      · rw [hj, updS_same]; exact .inl (.inr (.inl ⟨_, rfl⟩))
      · rw [hne j j1 hj]; exact .inl (hcal j j1 (by omega))
    · rw [show gs.size + 1 - A.N0 = (gs.size - A.N0) + 1 by omega]
      simp only [sumTo]
      rw [show A.N0 + (gs.size - A.N0) = gs.size by omega, Go.ConcN.upd_same, Nat.add_zero]
      rw [sumTo_congr (g := fun i => c (A.N0 + i)) fun i hi => by rw [Go.ConcN.upd_ne _ _ (by omega)]]
      exact hc1
    · by_cases hj : j = gs.size
      · subst hj
        rw [Go.ConcN.upd_same, updS_same]
        exact ⟨Nat.zero_le _, fun r e => (by cases e; omega), fun hr => (hr A.bnd (updS_same _ _ _)).elim⟩
      · rw [Go.ConcN.upd_ne _ _ hj, hne j j1 hj]
        obtain ⟨a1, a2, a3⟩ := hc2 j j1 (by omega)
        exact ⟨a1, a2, fun hr => a3 fun r e => hr r (by rw [hne j j1 hj]; exact e)⟩
    · exact (h.grp.tr.mono (rl' := rel (updS (updS (fun k => (x k).seat) 0 (.at s')) gs.size (.at (.own A.bnd)))) fun j j1 jN hr r e => hr r (by rw [hne j j1 (by omega)]; exact e)).fork ⟨rfl, rfl⟩ ⟨rfl, rfl⟩ hlo fun hr => hr A.bnd (updS_same _ _ _)
    · rw [updS_ne _ _ (by omega), updS_ne _ _ (by omega)]; exact h.grp.up j (by omega))
  refine h.back _ _ _ _ (h.st.trans hrun) (h.ih _ _ _ _ _ hp' ?_)
  unfold Team.mu
  refine .num ?_
  show A.phi (fun k => (upd (upd x 0 ⟨.at s', rk, Om, 0⟩) gs.size ⟨.at (.own A.bnd), rc, Oc, 0⟩ k).seat.tag) < A.phi fun k => (x k).seat.tag
  have e3 : (fun k => (upd (upd x 0 ⟨.at s', rk, Om, 0⟩) gs.size ⟨.at (.own A.bnd), rc, Oc, 0⟩ k).seat.tag) = fun k => (updS (updS (fun k => (x k).seat) 0 (.at s')) gs.size (.at (.own A.bnd)) k).tag := by
    rw [← hseat]
  rw [e3, phi_eq (A := A) _ (s := s') (by rw [hz]; rfl), phi_eq (A := A) (fun k => (x k).seat) (s := .go r) (by rw [h.seat]; rfl)]
  have a2 := sum_upd (fun x => wt x.tag) (updS (fun k => (x k).seat) 0 (.at s')) (n := 4) hlo (show gs.size < A.N0 + 4 by omega) (.at (.own A.bnd))
  have a3 : (sumTo 4 fun j => wt (updS (fun k => (x k).seat) 0 (.at s') (A.N0 + j)).tag) = sumTo 4 fun j => wt (x (A.N0 + j)).seat.tag := sumTo_congr fun i _ => by rw [updS_ne _ _ (by omega)]
  have a4 : wt (updS (fun k => (x k).seat) 0 (.at s') gs.size).tag = 1 := by rw [updS_ne _ _ (by omega), hxN]; rfl
  have a5 : wt (Seat.tag (.at (.own A.bnd) : Seat Ft)) = 10 + A.bnd := rfl
  have a6 := hw (sumTo 4 fun i => counted (updS (updS (fun k => (x k).seat) 0 (.at s')) gs.size (.at (.own A.bnd)) (A.N0 + i)).tag) (cnt4 _)
  have a7 : (Ft.go r).weigh (sumTo 4 fun i => counted (x (A.N0 + i)).seat.tag) A.bnd = (Ft.go r).weigh 0 A.bnd := rfl
  rw [a7]
  omega
end
end Par
end Go.Proofs.Ytgfgoflhmikalaa.par
