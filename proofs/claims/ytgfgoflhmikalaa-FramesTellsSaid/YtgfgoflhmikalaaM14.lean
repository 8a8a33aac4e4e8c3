/- Part 14 of what the proofs stand on: lemmas on worlds, on goroutines, contracts of functions. No conditions. -/
import Derived.Test.YtgfgoflhmikalaaM13
import Derived.Below
namespace Go.Proofs.Ytgfgoflhmikalaa.par
open Go Go.Conc
open Go.ConcN (CT Apart Deaf_absent PermW RelBy sumTo sumTo_congr sumTo_upd)
open Go.ConcR (stA smA WgAt KK rd wr)
set_option linter.unusedVariables false
set_option linter.unusedSimpArgs false
abbrev updS (se : Nat → Seat Ft) (i : Nat) (s : Seat Ft) : Nat → Seat Ft := Go.ConcN.upd se i s
theorem updS_same (se : Nat → Seat Ft) (i : Nat) (s : Seat Ft) : updS se i s i = s := Go.ConcN.upd_same _ _ _
theorem updS_ne (se : Nat → Seat Ft) {i k : Nat} (s : Seat Ft) (h : k ≠ i) : updS se i s k = se k := Go.ConcN.upd_ne _ _ h
namespace Par
variable {A : Par} {Anch FinS : (Nat → Prop) → Nat → Goroutine → World → Prop}
theorem sum_upd (φ : Seat Ft → Nat) (se : Nat → Seat Ft) {n i N0 : Nat} (h1 : N0 ≤ i) (h2 : i < N0 + n) (s : Seat Ft) : sumTo n (fun j => φ (updS se i s (N0 + j))) + φ (se i) = sumTo n (fun j => φ (se (N0 + j))) + φ s := by
  have := sumTo_upd (fun j => se (N0 + j)) s φ (i := i - N0) (j := n) (by omega)
  rw [show N0 + (i - N0) = i by omega] at this
  rw [← this]
  congr 1
  refine sumTo_congr fun j _ => ?_
  by_cases h : N0 + j = i
  · rw [h, updS_same, show j = i - N0 by omega, Go.ConcN.upd_same]
  · rw [updS_ne _ _ h, Go.ConcN.upd_ne _ _ (by omega)]
theorem cnt_upd (se : Nat → Seat Ft) {i N : Nat} (h1 : A.N0 ≤ i) (h2 : i < N) (s : Seat Ft) : A.cnt N (updS se i s) + counted (se i).tag = A.cnt N se + counted s.tag :=
  sum_upd (fun x => counted x.tag) se h1 (by omega) s
theorem cnt_upd0 (hn : 1 ≤ A.N0) (se : Nat → Seat Ft) {N : Nat} (s : Seat Ft) : A.cnt N (updS se 0 s) = A.cnt N se := by
  unfold Par.cnt
  exact sumTo_congr fun i _ => by rw [updS_ne _ _ (by omega)]
/-- Others' tags stand. -/
def wt : Option Ft → Nat
  | some s => s.weigh 0 0
  | none => 1
theorem phi_eq (se : Nat → Seat Ft) {s : Ft} (h0 : (se 0).tag = some s) : A.phi (fun k => (se k).tag) = s.weigh (sumTo 4 fun i => counted (se (A.N0 + i)).tag) A.bnd + sumTo 4 fun i => wt (se (A.N0 + i)).tag := by
  unfold Par.phi
  dsimp only
  rw [h0]
  rfl
theorem weigh_mono {v v' b : Nat} (h : v' ≤ v) (s : Ft) : s.weigh v' b ≤ s.weigh v b := by cases s <;> simp only [Ft.weigh] <;> omega
/-- A worker's step lowers the number. -/
theorem phi_worker (se : Nat → Seat Ft) {s : Ft} (hn : 1 ≤ A.N0) (h0 : (se 0).tag = some s) {i : Nat} (h1 : A.N0 ≤ i) (h2 : i < A.N0 + 4) (s' : Seat Ft) (hc : counted s'.tag ≤ counted (se i).tag) (hw : wt s'.tag < wt (se i).tag) : A.phi (fun k => (updS se i s' k).tag) < A.phi fun k => (se k).tag := by
  have e0 : (updS se i s' 0).tag = some s := by rw [updS_ne _ _ (by omega)]; exact h0
  rw [phi_eq se h0, phi_eq (updS se i s') e0]
  have a1 := sum_upd (fun x => counted x.tag) se h1 h2 s'
  have a2 := sum_upd (fun x => wt x.tag) se h1 h2 s'
  have a3 := weigh_mono (b := A.bnd) (show sumTo 4 (fun j => counted (updS se i s' (A.N0 + j)).tag) ≤ sumTo 4 fun j => counted (se (A.N0 + j)).tag by omega) s
  omega
/-- The starter's. -/
theorem phi_main (se : Nat → Seat Ft) {s s1 : Ft} (hn : 1 ≤ A.N0) (h0 : (se 0).tag = some s) (s' : Seat Ft) (h' : s'.tag = some s1) (hw : s1.weigh (sumTo 4 fun i => counted (se (A.N0 + i)).tag) A.bnd < s.weigh (sumTo 4 fun i => counted (se (A.N0 + i)).tag) A.bnd) : A.phi (fun k => (updS se 0 s' k).tag) < A.phi fun k => (se k).tag := by
  have e0 : (updS se 0 s' 0).tag = some s1 := by rw [updS_same]; exact h'
  rw [phi_eq se h0, phi_eq (updS se 0 s') e0]
  have a1 : (sumTo 4 fun i => counted (updS se 0 s' (A.N0 + i)).tag) = sumTo 4 fun i => counted (se (A.N0 + i)).tag := sumTo_congr fun i _ => by rw [updS_ne _ _ (by omega)]
  have a2 : (sumTo 4 fun i => wt (updS se 0 s' (A.N0 + i)).tag) = sumTo 4 fun i => wt (se (A.N0 + i)).tag := sumTo_congr fun i _ => by rw [updS_ne _ _ (by omega)]
  rw [a1, a2]
  omega
/-- What a step of the protocol's does to the world. -/
structure Turns (A : Par) (w w' : World) : Prop where
  tape : w'.tape = w.tape
  os : w'.os = w.os
  output : w'.output = w.output
  size : w'.heap.size = w.heap.size
  kept : ∀ b, ¬ A.Sh b → w'.heap[b]? = w.heap[b]?
  live : A.Live w'
section
variable {gs : Array Goroutine} {w w' : World} {t : Trace} {x : Nat → GR Ft} {g g' : Goroutine} {i : Nat} {m : Machine} {sl : Option (Nat × Nat)} {es : Array Event}
theorem proto_go (hn : 1 ≤ A.N0) (K : Machine → Trace → Prop) (hback : ∀ m t m' ops, stepT A.P m = (.next m', ops) → K m' (t ++ ops) → K m t) (hp : (A.team Anch FinS).Parts gs w t x) (hi : gs[i]? = some g) (hst : stepT A.P m = runT A.P (crowd gs w sl) i)
    (IH : ∀ gs' w' sl' t' x', (A.team Anch FinS).Parts gs' w' t' x' → MuLt (A.N0 + 3) ((A.team Anch FinS).mu x') ((A.team Anch FinS).mu x) → K (crowd gs' w' sl') t')
    (hgo : stepG A.P (i == 0) g w = .go g' w' es) (s' : Seat Ft) (rk : Rk) (hy : (A.team Anch FinS).Sits i ⟨s', rk, (x i).own, deafBehind (x i).deaf es⟩ g' w') (hw : A.Turns w w') (hev : ∀ e ∈ es, Event.mute e = true ∨ EvS A.Sh (i = 0) e) (hN0 : 1 ≤ i → A.N0 ≤ i)
    (hun : (A.team Anch FinS).mayW g g' = true → s'.un = s')
    (hpm : ∀ fn pos, A.Grp gs.size (if (A.team Anch FinS).mayW g g' = true then fun k => (updS (fun k => (x k).seat) i s' k).un else updS (fun k => (x k).seat) i s') w' (t ++ MemOp.ofEvents i fn pos es))
    (hmu : A.phi (fun k => (updS (fun k => (x k).seat) i s' k).tag) < A.phi (fun k => (x k).seat.tag) ∨ (i = 0 ∧ (A.team Anch FinS).mayW g g' = false ∧ s'.tag = (x 0).seat.tag ∧ s'.up < (x 0).seat.up)) : K m t := by
  have hrun := runT_crowd_go (P := A.P) (sl := sl) (i := i) hi hgo
  have hown : ∀ k, (upd ((A.team Anch FinS).wake g g' x) i ⟨s', rk, (x i).own, deafBehind (x i).deaf es⟩ k).own = (x k).own := by
    intro k
    by_cases hk : k = i
    · rw [hk, upd_same]
    · rw [upd_ne _ _ hk]; exact Team.wake_own (A.team Anch FinS) g g' x k
  have hp' := hp.go (team_ok hn) hi (w' := w') (es := es) (g' := g') ⟨s', rk, (x i).own, deafBehind (x i).deaf es⟩
    (fun k _ hk _ => ⟨⟨hw.tape, hw.os, hw.output, Nat.le_of_eq hw.size.symm, fun b hb => hw.kept b (hp.ge.sh k b hb)⟩, fun b hb => hw.kept b (hp.ge.shrd b hb), fun _ => hw.live⟩) hy
    (by
      rw [show (fun k => (upd ((A.team Anch FinS).wake g g' x) i ⟨s', rk, (x i).own, deafBehind (x i).deaf es⟩ k).own) = fun k => (x k).own from funext hown, hw.size]
      exact hp.ge)
    (fun b hb => .inl hb) (fun b hb _ => hb) (Nat.le_of_eq hw.size.symm)
    (fun e he => (hev e he).imp (fun h => by
      obtain ⟨loc, wr, sy⟩ := e
      cases loc with
      | mark m => cases m <;> first | trivial | (simp [Event.mute] at h)
      | _ => simp [Event.mute] at h) fun h => .inr h) rfl (fun h _ => hN0 h)
    (fun fn pos => by
      have := hpm fn pos
      cases hm : (A.team Anch FinS).mayW g g' with
      | true =>
        rw [hm, if_pos rfl] at this
        have e1 : (fun k => (upd ((A.team Anch FinS).wake g g' x) i ⟨s', rk, (x i).own, deafBehind (x i).deaf es⟩ k).seat) = fun k => (updS (fun k => (x k).seat) i s' k).un := by
          funext k
          by_cases hk : k = i
          · rw [hk, upd_same, updS_same]; exact (hun hm).symm
          · rw [upd_ne _ _ hk, updS_ne _ _ hk]; unfold Team.wake; rw [hm]; rfl
        rw [e1]
        exact this
      | false =>
        rw [hm, if_neg (by simp)] at this
        have e1 : (fun k => (upd ((A.team Anch FinS).wake g g' x) i ⟨s', rk, (x i).own, deafBehind (x i).deaf es⟩ k).seat) = updS (fun k => (x k).seat) i s' := by
          funext k
          by_cases hk : k = i
          · rw [hk, upd_same, updS_same]
          · rw [upd_ne _ _ hk, updS_ne _ _ hk]; unfold Team.wake; rw [hm]; rfl
        rw [e1]
        exact this) hw.live (fun b hb => (hp.out i b hb).2)
  refine hback _ _ _ _ (hst.trans hrun) (IH _ _ _ _ _ hp' ?_)
  have e2 : (fun k => (upd ((A.team Anch FinS).wake g g' x) i ⟨s', rk, (x i).own, deafBehind (x i).deaf es⟩ k).seat.tag) = fun k => (updS (fun k => (x k).seat) i s' k).tag := by
    funext k
    by_cases hk : k = i
    · rw [hk, upd_same, updS_same] <;> rfl
    · rw [upd_ne _ _ hk, updS_ne _ _ hk]; exact Team.wake_tag (A.team Anch FinS) g g' x k
  rcases hmu with hmu | ⟨rfl, hm, htag, hup⟩
  · unfold Team.mu
    rw [e2]
    exact .num hmu
  · have e3 : (fun k => (updS (fun k => (x k).seat) 0 s' k).tag) = fun k => (x k).seat.tag := by
      funext k
      by_cases hk : k = 0
      · rw [hk, updS_same]; exact htag
      · rw [updS_ne _ _ hk]
    have e4 : (fun k => (upd ((A.team Anch FinS).wake g g' x) 0 ⟨s', rk, (x 0).own, deafBehind (x 0).deaf es⟩ (k + 1)).rank) = fun k => (x (k + 1)).rank := by
      funext k
      rw [upd_ne _ _ (Nat.succ_ne_zero k)]
      exact Team.wake_rank (A.team Anch FinS) g g' x (k + 1)
    unfold Team.mu
    rw [e2, e3, e4, upd_same]
    exact .flag hup
end
end Par
end Go.Proofs.Ytgfgoflhmikalaa.par

namespace Go.Proofs.Ytgfgoflhmikalaa.par
open Go Go.Conc
open Go.ConcN (CT Apart Deaf_absent PermW RelBy sumTo sumTo_congr sumTo_upd le_sumTo sumTo_le)
open Go.ConcR (stA smA WgAt KK rd wr)
set_option linter.unusedVariables false
set_option linter.unusedSimpArgs false
namespace Par
variable {A : Par} {Anch FinS : (Nat → Prop) → Nat → Goroutine → World → Prop}
theorem Turns.id {w : World} (hl : A.Live w) : A.Turns w w := ⟨rfl, rfl, rfl, rfl, fun _ _ => rfl, hl⟩
theorem set_other (w : World) (a : Addr) (u : Value) {b : Nat} (h : b ≠ a.block) : (w.setCell a u).heap[b]? = w.heap[b]? := Go.RowKit.Below.heap_setCell w a u b h
/-- What stays stands. -/
theorem stays_set {w : World} (h : SameW A.Rd A.Wz w) {a : Addr} (ha : a.block = A.Wg ∨ a.block = A.wB) (u : Value) : SameW A.Rd A.Wz (w.setCell a u) :=
  ⟨h.tape, h.os, h.output, by simpa [World.setCell] using h.size, fun b hb => (set_other w a u (fun e => by rcases ha with ha | ha <;> (rw [ha] at e; first | exact hb.2.1 e | exact hb.2.2.1 e))).trans (h.heap b hb)⟩
theorem Turns.set {w : World} {a : Addr} {u : Value} (ha : a.block = A.Wg ∨ a.block = A.wB) (hl : A.Live (w.setCell a u)) : A.Turns w (w.setCell a u) := by
  refine ⟨?_, ?_, ?_, ?_, fun b hb => set_other w a u fun e => hb ?_, hl⟩
  · rfl
  · rfl
  · rfl
  · simp [World.setCell]
  · exact .inr (ha.elim (fun h => .inl (e.trans h)) fun h => .inr (e.trans h))
theorem WB.set {w : World} {v : Int} (h : A.WB v w) (v' : Int) : A.WB v' (w.setCell A.wbA (.int .i64 v')) := by
  unfold Par.WB at h ⊢
  rw [Par.wbA, setCell_eq_setRow w A.wB 0 _ A.tB (0, 0) _ h, setRow_heap w A.wB _ _ A.tB _ h]
  simp
variable {N i : Nat} {se : Nat → Seat Ft} {w w' : World} {t t' : Trace}
theorem Grp.upW (h : A.Grp N se w t) (h1 : A.N0 ≤ i) (h2 : i < N) {s' : Seat Ft} (hq : se i ≠ .quit) (hs' : Calm s' ∨ s' = .at .d2 ∨ s' = .at .d3 ∨ s' = .at .d4)
    (hmode : ∀ s st sm, WgAt A.tW A.Wg w st sm → A.Md N se s st sm → N + s.left = A.N0 + 4 → ∃ st' sm', WgAt A.tW A.Wg w' st' sm' ∧ A.Md N (updS se i s') s st' sm')
    (hsum : ∃ c : Nat → Nat, A.WB ((sumTo (N - A.N0) fun i => c (A.N0 + i) : Nat) : Int) w' ∧ ∀ k, A.N0 ≤ k → k < N → c k ≤ A.bnd ∧ (∀ r, updS se i s' k = .at (.own r) → c k + r = A.bnd) ∧ (rel (updS se i s') k → (c k = 0 ↔ A.gd (k - A.N0))))
    (htr : TR A.N0 A.Wg A.S0 (rel (updS se i s')) N t') : A.Grp N (updS se i s') w' t' := by
  obtain ⟨s, st, sm, g1, g2, g3, g4, g5, g6⟩ := h.mainS
  obtain ⟨st', sm', g7, g8⟩ := hmode s st sm g4 g5 g3
  have h0 : updS se i s' 0 = se 0 := updS_ne _ _ (by have := h.n0; omega)
  refine ⟨h.n0, h.lo, ⟨s, st', sm', by rw [h0]; exact g1, g2, g3, g7, g8, fun hf => ?_⟩, fun k k1 kN => by rw [updS_ne _ _ (by omega)]; exact h.old k k1 kN, fun k k1 kN => ?_, hsum, htr, fun k hk => by rw [updS_ne _ _ (by omega)]; exact h.up k hk⟩
  · subst hf
    cases g5 with
    | opn ho => exact ho.elim
    | fin _ _ ho => exact absurd (ho i h1 h2) hq
  · by_cases hk : k = i
    · rw [hk, updS_same]; exact hs'
    · rw [updS_ne _ _ hk]; exact h.work k k1 kN
theorem rel_upd {s' : Seat Ft} {k : Nat} (h : rel (updS se i s') k) : (k ≠ i ∧ rel se k) ∨ (k = i ∧ ∀ r, s' ≠ .at (.own r)) := by
  by_cases hk : k = i
  · subst hk; exact .inr ⟨rfl, fun r e => h r (by rw [updS_same]; exact e)⟩
  · exact .inl ⟨hk, fun r e => h r (by rw [updS_ne _ _ hk]; exact e)⟩
/-- What is counted stands where one who has released moves on. -/
theorem Grp.sumsKeep (h : A.Grp N se w t) (h1 : A.N0 ≤ i) (h2 : i < N) (hr : rel se i) {s' : Seat Ft} (hs : ∀ r, s' ≠ .at (.own r)) (hB : w'.heap[A.wB]? = w.heap[A.wB]?) :
    ∃ c : Nat → Nat, A.WB ((sumTo (N - A.N0) fun i => c (A.N0 + i) : Nat) : Int) w' ∧ ∀ k, A.N0 ≤ k → k < N → c k ≤ A.bnd ∧ (∀ r, updS se i s' k = .at (.own r) → c k + r = A.bnd) ∧ (rel (updS se i s') k → (c k = 0 ↔ A.gd (k - A.N0))) := by
  obtain ⟨c, hc1, hc2⟩ := h.sums
  refine ⟨c, by unfold Par.WB at hc1 ⊢; rw [hB]; exact hc1, fun k k1 kN => ?_⟩
  obtain ⟨a1, a2, a3⟩ := hc2 k k1 kN
  by_cases hk : k = i
  · subst hk
    exact ⟨a1, fun r e => absurd (by rw [updS_same] at e; exact e) (hs r), fun _ => a3 hr⟩
  · exact ⟨a1, fun r e => a2 r (by rw [updS_ne _ _ hk] at e; exact e), fun hrr => a3 ((rel_upd hrr).elim (·.2) fun e => absurd e.1 hk)⟩
/-- The group's state stands where a counted worker stays counted. -/
theorem Md.keep {s : Ft} {st sm : Int} (h : A.Md N se s st sm) (hn : 1 ≤ A.N0) (h1 : A.N0 ≤ i) (h2 : i < N) {s' : Seat Ft} (hc : counted (se i).tag = 1) (hs' : Calm s') (hc' : counted s'.tag = 1) : A.Md N (updS se i s') s st sm := by
  have hcnt : A.cnt N (updS se i s') = A.cnt N se := by have := cnt_upd (A := A) se h1 h2 s'; omega
  have hcalm : (∀ k, A.N0 ≤ k → k < N → Calm (se k)) → ∀ k, A.N0 ≤ k → k < N → Calm (updS se i s' k) := fun hh k k1 kN => by
    by_cases hk : k = i
    · rw [hk, updS_same]; exact hs'
    · rw [updS_ne _ _ hk]; exact hh k k1 kN
  have hq : se i ≠ .quit := fun e => by rw [e] at hc; simp [Seat.tag, counted] at hc
  have h0 : updS se i s' 0 = se 0 := updS_ne _ _ (by omega)
  cases h with
  | opn ho hz hcl hs => rw [← hcnt]; exact .opn ho (by rw [h0]; exact hz) (hcalm hcl) (by rw [hcnt]; exact hs)
  | reg hcl h1 => rw [← hcnt]; exact .reg (hcalm hcl) (by rw [hcnt]; exact h1)
  | last L hL hN hs ho =>
    by_cases e : i = L
    · subst e; rcases hs with e | e <;> (rw [e] at hc; simp [Seat.tag, counted] at hc)
    · exact absurd (ho i h1 h2 e) hq
  | last4 L hL hN hs ho =>
    by_cases e : i = L
    · subst e; rw [hs] at hc; simp [Seat.tag, counted] at hc
    · exact absurd (ho i h1 h2 e) hq
  | sema _ ho => exact absurd (ho i h1 h2) hq
  | fin _ _ ho => exact absurd (ho i h1 h2) hq
theorem Grp.n4 (h : A.Grp N se w t) : N ≤ A.N0 + 4 := by obtain ⟨s, st, sm, _, _, h3, _⟩ := h.mainS; omega
theorem Grp.tag0 (h : A.Grp N se w t) : ∃ s, (se 0).tag = some s := by
  obtain ⟨s, st, sm, h1, _⟩ := h.mainS
  rcases h1 with h1 | ⟨h1, _⟩ <;> exact ⟨s, by rw [h1]; rfl⟩
end Par
end Go.Proofs.Ytgfgoflhmikalaa.par

namespace Go.Proofs.Ytgfgoflhmikalaa.par
open Go Go.Conc
open Go.ConcN (CT Apart Deaf_absent PermW RelBy sumTo sumTo_congr sumTo_upd le_sumTo sumTo_le)
open Go.ConcR (stA smA WgAt KK rd wr)
set_option linter.unusedVariables false
set_option linter.unusedSimpArgs false
theorem deafly_cells {Wg d : Nat} {es : Array Event} (hd : 0 < d) (h : ∀ e ∈ es, ∃ ad wr, e = ⟨.cell ad, wr, true⟩ ∧ ad.block = Wg) : Deafly Wg d es := by
  intro j e he
  refine .inr ⟨h e (Array.mem_of_getElem? he), ?_⟩
  rw [deafBehind_still (fun e he => ?_)]
  · exact hd
  · have : e ∈ es := by
      rw [Array.mem_iff_getElem?] at he ⊢
      obtain ⟨k, hk⟩ := he
      rw [Array.getElem?_extract] at hk
      split at hk
      · exact ⟨_, hk⟩
      · cases hk
    obtain ⟨ad, wr, rfl, _⟩ := h e this
    exact ⟨by simp, by simp⟩
theorem deafly_sem {Wg d : Nat} : Deafly Wg d (semEvents (smA Wg)) := by
  intro j e he
  unfold semEvents at he ⊢
  match j, he with
  | 0, he => simp at he; subst he; exact .inl rfl
  | 1, he => simp at he; subst he; exact .inr ⟨⟨_, _, rfl, rfl⟩, Nat.succ_pos d⟩
  | 2, he => simp at he; subst he; exact .inr ⟨⟨_, _, rfl, rfl⟩, Nat.succ_pos d⟩
  | 3, he => simp at he; subst he; exact .inl rfl
  | n + 4, he => simp at he
namespace Par
variable {A : Par} {Anch FinS : (Nat → Prop) → Nat → Goroutine → World → Prop}
theorem sum_updN (c : Nat → Nat) {n i N0 : Nat} (h1 : N0 ≤ i) (h2 : i < N0 + n) (y : Nat) : sumTo n (fun j => Go.ConcN.upd c i y (N0 + j)) + c i = sumTo n (fun j => c (N0 + j)) + y := by
  have := sumTo_upd (fun j => c (N0 + j)) y id (i := i - N0) (j := n) (by omega)
  simp only [id] at this
  rw [show N0 + (i - N0) = i by omega] at this
  rw [← this]
  congr 1
  refine sumTo_congr fun j _ => ?_
  by_cases h : N0 + j = i
  · rw [h, Go.ConcN.upd_same, show j = i - N0 by omega, Go.ConcN.upd_same]
  · rw [Go.ConcN.upd_ne _ _ h, Go.ConcN.upd_ne _ _ (by omega)]
theorem counted_le (se : Nat → Seat Ft) {i N : Nat} (h1 : A.N0 ≤ i) (h2 : i < N) : counted (se i).tag ≤ A.cnt N se := by
  have := le_sumTo (f := fun j => counted (se (A.N0 + j)).tag) (i := i - A.N0) (j := N - A.N0) (by omega)
  rw [show A.N0 + (i - A.N0) = i by omega] at this
  exact this
theorem cnt_le (se : Nat → Seat Ft) {N : Nat} (h : N ≤ A.N0 + 4) : A.cnt N se ≤ 4 := by
  have := sumTo_le (f := fun j => counted (se (A.N0 + j)).tag) (c := 1) (j := N - A.N0) (fun j _ => by
    cases (se (A.N0 + j)).tag with
    | none => simp [counted]
    | some s => cases s <;> simp [counted])
  unfold Par.cnt
  omega
theorem sits_at {i : Nat} (h0 : i ≠ 0) {s : Ft} {O : Nat → Prop} {d : Nat} {g : Goroutine} {w : World} (h : OT A.P false A.Env (A.gu i s) (A.stop Anch FinS i s) O d g w) : ∃ rk, (A.team Anch FinS).Sits i ⟨.at s, rk, O, d⟩ g w := by
  obtain ⟨r, hr⟩ := h.ranked
  refine ⟨r, ?_⟩
  show OTr A.P (i == 0) A.Env (A.gu i s) (A.stop Anch FinS i s) r O d g w
  rw [show (i == 0) = false by simpa using h0]
  exact hr
theorem deaf_two (d : Nat) (a b : Addr) : deafBehind d #[rd a, wr b] = d := deafBehind_still (fun e he => by simp [rd, wr] at he; rcases he with rfl | rfl <;> exact ⟨by simp, by simp⟩) d
theorem deaf_rd (d : Nat) (a : Addr) : deafBehind d #[rd a] = d := deafBehind_still (fun e he => by simp [rd] at he; subst he; exact ⟨by simp, by simp⟩) d
theorem deaf_wr (d : Nat) (a : Addr) : deafBehind d #[wr a] = d := deafBehind_still (fun e he => by simp [wr] at he; subst he; exact ⟨by simp, by simp⟩) d
theorem deaf_mk (d : Nat) (m : Mark) (h : m ≠ .disable ∧ m ≠ .enable) : deafBehind d #[Go.ConcR.mk m] = d := deafBehind_still (fun e he => by simp [Go.ConcR.mk] at he; subst he; exact ⟨fun h1 => h.1 (by cases h1; rfl), fun h1 => h.2 (by cases h1; rfl)⟩) d
theorem deaf_sem (d : Nat) (a : Addr) : deafBehind d (semEvents a) = d := by
  unfold semEvents
  show d + 1 - 1 = d
  omega
section
variable {gs : Array Goroutine} {w : World} {t : Trace} {x : Nat → GR Ft} {g : Goroutine} {i : Nat} {m : Machine} {sl : Option (Nat × Nat)} {s : Ft}
/-- What the machine gives at a stop. -/
structure At (A : Par) (Anch FinS : (Nat → Prop) → Nat → Goroutine → World → Prop) (K : Machine → Trace → Prop) (gs : Array Goroutine) (w : World) (sl : Option (Nat × Nat)) (m : Machine) (t : Trace) (x : Nat → GR Ft) (i : Nat) (g : Goroutine) (s : Ft) : Prop where
  n : 1 ≤ A.N0
  ne : A.Wg ≠ A.wB
  bnd : 4 * A.bnd < 9223372036854775807
  back : ∀ m t m' ops, stepT A.P m = (.next m', ops) → K m' (t ++ ops) → K m t
  p : (A.team Anch FinS).Parts gs w t x
  gi : gs[i]? = some g
  seat : (x i).seat = .at s
  st : stepT A.P m = runT A.P (crowd gs w sl) i
  ih : ∀ gs' w' sl' t' x', (A.team Anch FinS).Parts gs' w' t' x' → MuLt (A.N0 + 3) ((A.team Anch FinS).mu x') ((A.team Anch FinS).mu x) → K (crowd gs' w' sl') t'
variable {K : Machine → Trace → Prop}
theorem At.lt (h : At A Anch FinS K gs w sl m t x i g s) : i < gs.size := (Array.getElem?_eq_some_iff.1 h.gi).1
theorem At.grp (h : At A Anch FinS K gs w sl m t x i g s) : A.Grp gs.size (fun k => (x k).seat) w t := h.p.pm
theorem At.deaf (h : At A Anch FinS K gs w sl m t x i g s) : Deaf t i = (x i).deaf := h.p.deaf i h.lt
/-- A worker's step. -/
theorem At.worker (h : At A Anch FinS K gs w sl m t x i g s) (hN : A.N0 ≤ i) {g' : Goroutine} {w' : World} {es : Array Event} (hgo : stepG A.P false g w = .go g' w' es) (s' : Seat Ft) (hy : ∃ rk, (A.team Anch FinS).Sits i ⟨s', rk, (x i).own, deafBehind (x i).deaf es⟩ g' w') (hw : A.Turns w w')
    (hev : ∀ e ∈ es, Event.mute e = true ∨ EvS A.Sh (i = 0) e) (hun : s'.un = s')
    (hpm : ∀ fn pos, A.Grp gs.size (updS (fun k => (x k).seat) i s') w' (t ++ MemOp.ofEvents i fn pos es) ∨ ((A.team Anch FinS).mayW g g' = true ∧ A.Grp gs.size (fun k => (updS (fun k => (x k).seat) i s' k).un) w' (t ++ MemOp.ofEvents i fn pos es)))
    (hc : counted s'.tag ≤ counted (some s)) (hwt : wt s'.tag < wt (some s)) : K m t := by
  have hi0 : i ≠ 0 := by have := h.n; omega
  obtain ⟨rk, hy⟩ := hy
  obtain ⟨s0, hs0⟩ := h.grp.tag0
  have ht : (x i).seat.tag = some s := by rw [h.seat]; rfl
  refine proto_go h.n K h.back h.p h.gi h.st h.ih (by rw [show (i == 0) = false by simpa using hi0]; exact hgo) s' rk hy hw hev (fun _ => hN) (fun _ => hun) (fun fn pos => ?_) (.inl (phi_worker (fun k => (x k).seat) h.n hs0 hN (by have := h.grp.n4; have := h.lt; omega) s' (by rw [ht]; exact hc) (by rw [ht]; exact hwt)))
  rcases hpm fn pos with h1 | ⟨h1, h2⟩
  · split
    · exact h1.waken
    · exact h1
  · rw [if_pos h1]; exact h2
/-- It says its release. -/
theorem At.release (h : At A Anch FinS K gs w sl m t x i g s) (hN : A.N0 ≤ i) {r : Nat} (hs : s = .own r) (hS : A.Rel (i - A.N0) r (x i).own (x i).deaf g w) : K m t := by
  subst hs
  have hi0 : i ≠ 0 := by have := h.n; omega
  obtain ⟨hd, _, hgd, g', hgo, hO⟩ := hS
  have hd' : Deaf t i = 0 := by rw [h.deaf, hd]
  have hse : (fun k => (x k).seat) i = .at (.own r) := h.seat
  refine h.worker hN hgo (.at .d1) ?_ (Turns.id h.p.live) (fun e he => .inr ?_) rfl (fun fn pos => .inl ?_) (by simp [Seat.tag, counted]) (by simp only [Seat.tag, wt, Ft.weigh]; omega)
  · rw [hd, deaf_mk 0 _ ⟨by simp, by simp⟩]
    exact sits_at hi0 hO
  · simp [Go.ConcR.mk] at he
    subst he
    exact .inr (.inl (.inr ⟨_, rfl, .inr (.inl rfl)⟩))
  · refine h.grp.upW hN h.lt (by rw [h.seat]; intro e; cases e) (.inl (.inr (.inr rfl))) (fun s0 st sm g4 g5 _ => ⟨st, sm, g4, g5.keep h.n hN h.lt (by rw [h.seat]; rfl) (.inr (.inr rfl)) rfl⟩) ?_ ?_
    · obtain ⟨c, hc1, hc2⟩ := h.grp.sums
      refine ⟨c, hc1, fun k k1 kN => ?_⟩
      obtain ⟨a1, a2, a3⟩ := hc2 k k1 kN
      by_cases hk : k = i
      · subst hk
        have := a2 r hse
        exact ⟨a1, fun r' e => (by rw [updS_same] at e; cases e), fun _ => (by rw [← hgd]; omega)⟩
      · exact ⟨a1, fun r' e => (a2 r' (by rw [updS_ne _ _ hk] at e; exact e)), fun hr => a3 ((rel_upd hr).elim (·.2) fun e => absurd e.1 hk)⟩
    · exact h.grp.tr.release hN hi0 fn pos hd' (fun k hk => (rel_upd hk).imp (·.2) (·.1)) fun hr => hr r hse
/-- It counts a frame that is wrong. -/
theorem At.add (h : At A Anch FinS K gs w sl m t x i g s) (hN : A.N0 ≤ i) {r : Nat} (hs : s = .own (r + 1)) (hS : (x i).deaf = 0 ∧ g.status = .running ∧ ∀ v : Int, 0 ≤ v → v < 9223372036854775807 → A.WB v w →
      ∃ g', stepG A.P false g w = .go g' (w.setCell A.wbA (.int .i64 (v + 1))) #[rd A.wbA, wr A.wbA] ∧ A.LW (A.Own (i - A.N0) r) (x i).own 0 g' (w.setCell A.wbA (.int .i64 (v + 1)))) : K m t := by
  subst hs
  have hi0 : i ≠ 0 := by have := h.n; omega
  obtain ⟨hd, _, hS⟩ := hS
  have hse : (fun k => (x k).seat) i = .at (.own (r + 1)) := h.seat
  obtain ⟨c, hc1, hc2⟩ := h.grp.sums
  have hn4 := h.grp.n4
  have hlt := h.lt
  have hsum : sumTo (gs.size - A.N0) (fun j => c (A.N0 + j)) ≤ A.bnd * (gs.size - A.N0) := sumTo_le fun j hj => (hc2 (A.N0 + j) (by omega) (by omega)).1
  have hb2 : A.bnd * (gs.size - A.N0) ≤ A.bnd * 4 := Nat.mul_le_mul_left _ (by omega)
  have hbb := h.bnd
  obtain ⟨g', hgo, hO⟩ := hS _ (Int.natCast_nonneg _) (by omega) hc1
  have hci := (hc2 i hN hlt).2.1 (r + 1) hse
  have hs2 := sum_updN c hN (show i < A.N0 + (gs.size - A.N0) by omega) (c i + 1)
  have hWB := WB.set hc1 (((sumTo (gs.size - A.N0) fun i => c (A.N0 + i) : Nat) : Int) + 1)
  have hWg : ∀ u, (w.setCell A.wbA u).heap[A.Wg]? = w.heap[A.Wg]? := fun u => set_other w A.wbA u h.ne
  refine h.worker hN hgo (.at (.own r)) ?_ (Turns.set (.inr rfl) ⟨⟨?_, _, hWB⟩, stays_set h.p.live.2 (.inr rfl) _⟩) (fun e he => .inr ?_) rfl (fun fn pos => .inl ?_) (by simp [Seat.tag, counted]) (by simp only [Seat.tag, wt, Ft.weigh]; omega)
  · rw [hd, deaf_two]
    exact sits_at hi0 hO
  · obtain ⟨⟨⟨st, sm, h1⟩, _⟩, _⟩ := h.p.live
    exact ⟨st, sm, by unfold WgAt at h1 ⊢; rw [hWg]; exact h1⟩
  · simp [rd, wr] at he
    rcases he with rfl | rfl <;> exact .inl ⟨_, _, rfl, .inr (.inr rfl)⟩
  · refine h.grp.upW hN hlt (by rw [h.seat]; intro e; cases e) (.inl (.inr (.inl ⟨r, rfl⟩))) (fun s0 st sm g4 g5 _ => ⟨st, sm, by unfold WgAt at g4 ⊢; rw [hWg]; exact g4, g5.keep h.n hN hlt (by rw [h.seat]; rfl) (.inr (.inl ⟨r, rfl⟩)) rfl⟩) ?_ ?_
    · refine ⟨Go.ConcN.upd c i (c i + 1), ?_, fun k k1 kN => ?_⟩
      · rw [show sumTo (gs.size - A.N0) (fun j => Go.ConcN.upd c i (c i + 1) (A.N0 + j)) = sumTo (gs.size - A.N0) (fun j => c (A.N0 + j)) + 1 by omega]
        exact hWB
      · obtain ⟨a1, a2, a3⟩ := hc2 k k1 kN
        by_cases hk : k = i
        · subst hk
          rw [Go.ConcN.upd_same]
          exact ⟨by omega, fun r' e => (by rw [updS_same] at e; cases e; omega), fun hr => (hr r (updS_same _ _ _)).elim⟩
        · rw [Go.ConcN.upd_ne _ _ hk]
          exact ⟨a1, fun r' e => (a2 r' (by rw [updS_ne _ _ hk] at e; exact e)), fun hr => a3 ((rel_upd hr).elim (·.2) fun e => absurd e.1 hk)⟩
    · refine (h.grp.tr.app i fn pos (fun e he hh => ?_) (fun _ hl => absurd hl (by omega)) (fun hr _ => absurd hse (hr (r + 1)))).mono fun k k1 kN hr => ?_
      · simp [rd, wr] at he
        rcases he with rfl | rfl <;> cases hh
      · rcases rel_upd hr with ⟨_, h1⟩ | ⟨_, h1⟩
        · exact h1
        · exact absurd rfl (h1 r)
end
end Par
end Go.Proofs.Ytgfgoflhmikalaa.par
