/- Part 22 of what the proofs stand on: lemmas on worlds, on goroutines, contracts of functions. No conditions. -/
import Derived.Test.YtgfgoflhmikalaaM21
namespace Go.Proofs.Ytgfgoflhmikalaa.par
open Go Go.Conc
open Go.ConcR (rd wr mk DC0)
set_option linter.unusedVariables false
set_option linter.unusedSimpArgs false
theorem grow_same {O : Nat → Prop} {w w' : World} (h : w'.heap.size = w.heap.size) : grow O w w' = O := by
  funext b
  unfold grow
  rw [h]
  exact propext ⟨fun x => x.elim id fun y => by omega, .inl⟩
section
variable {P : Program} {main : Bool} {Env : (Nat → Prop) → World → World → Prop} {Gu : (Nat → Prop) → World → World → Array Event → Prop}
/-- A silent walk, as a tree: what is owned stays as it is. -/
theorem GoD.quiet {I : World → Prop} {S : Goroutine → World → Prop} {O : Nat → Prop} (hrefl : ∀ O w, Env O w w) (hR : ∀ w w₁, Env O w w₁ → I w → I w₁) (hG : ∀ w, Gu O w w #[]) {d : Nat} :
    ∀ {n : Nat} {g : Goroutine}, GoD P main I DC0 S n g → ∀ {w : World}, I w → OT P main Env Gu (fun O' d' g w => O' = O ∧ d' = d ∧ I w ∧ S g w) O d g w := by
  intro n g h w hw
  have h1 := h w hw
  clear h
  induction n generalizing g w with
  | zero => exact .stop fun w₁ he => ⟨rfl, rfl, hR _ _ he hw, h1 w₁ (hR _ _ he)⟩
  | succ n ih =>
    rcases h1 with hs | ⟨hr, hst⟩
    · exact .stop fun w₁ he => ⟨rfl, rfl, hR _ _ he hw, hs w₁ (hR _ _ he)⟩
    · refine OT.mk hr fun w₁ he => ?_
      have h2 := hst w₁ (hR _ _ he)
      cases hgo : stepG P main g w₁ with
      | go g' w' es =>
        rw [hgo, goes_go] at h2
        obtain ⟨⟨e1, e2⟩, h3⟩ := h2
        subst e1 e2
        refine ⟨g', w', #[], rfl, hG _, ?_⟩
        rw [grow_same rfl]
        exact ih (hR _ _ he hw) h3
      | _ => rw [hgo] at h2; exact h2.elim
/-- A mark that is said. -/
theorem OT.said {I : World → Prop} {S : Goroutine → World → Prop} {O : Nat → Prop} {Fin : (Nat → Prop) → Nat → Goroutine → World → Prop} (hrefl : ∀ O w, Env O w w) (hR : ∀ w w₁, Env O w w₁ → I w → I w₁) (hG : ∀ w, Gu O w w #[]) {e : Event} (hGe : ∀ w, Gu O w w #[e]) {d : Nat} {g : Goroutine} {w : World}
    (hall : ∀ w₁, Env O w w₁ → I w₁ ∧ M3 P main I e S g w₁) (hS : ∀ g w, (∀ w₁, Env O w w₁ → I w₁ ∧ S g w₁) → OT P main Env Gu Fin O (deafBehind d #[e]) g w) : OT P main Env Gu Fin O d g w := by
  refine OT.mk (hall w (hrefl _ _)).2.1 fun w₁ he => ?_
  obtain ⟨hi, _, g2, e2, m, hm⟩ := hall w₁ he
  refine ⟨g2, w₁, _, e2, hGe _, ?_⟩
  rw [grow_same rfl]
  refine OT.bind2 (GoD.quiet hrefl hR hG hm hi (d := deafBehind d #[e])) fun O'' d'' g w hall2 => ?_
  obtain ⟨rfl, rfl, _⟩ := hall2 w (hrefl _ _)
  exact hS g w fun w₁ he => ⟨(hall2 w₁ he).2.2.1, (hall2 w₁ he).2.2.2⟩
end
section
variable {main : Bool} {Env : (Nat → Prop) → World → World → Prop} {Gu : (Nat → Prop) → World → World → Array Event → Prop} {Fin : (Nat → Prop) → Nat → Goroutine → World → Prop}
variable {σ : Nat → Nat} {D : Nat → Prop} {Tb : Tables} {W0 u : World} {b : Frame} {cs : List Frame} {ad ad' : Addr}
/-- THE SWAP, or the addition, done in both. -/
theorem OT.swapped (hE : ∀ O w w₁, Env O w w₁ → Env0 O w w₁) (hrefl : ∀ O w, Env O w w) (hG2 : ∀ O w w' es, Gu0 O w w' es → Gu O w w' es) (ha : AR σ D ad ad') {x y : Int} (hc : u.cell? ad = some (.int .i32 x)) (hf : u.frozen? ad = false) (hx : (u.alloc muxO).cell? ad = some (.int .i32 x))
    {S : Goroutine → World → Prop} {d : Nat} {g : Goroutine} {w : World} (hall : ∀ w₁, Env (img σ D) w w₁ → Sit σ D Tb W0 u w₁ ∧ MC Try.prog main (Sit σ D Tb W0 ((u.alloc muxO).setCell ad (.int .i32 y))) ad' x y S g w₁)
    (hS : ∀ g w, (∀ w₁, Env (img σ D) w w₁ → Sit σ D Tb W0 ((u.alloc muxO).setCell ad (.int .i32 y)) w₁ ∧ S g w₁) → OT Try.prog main Env Gu Fin (img σ D) d g w) : OT Try.prog main Env Gu Fin (img σ D) d g w := by
  have hG0 : ∀ w, Gu (img σ D) w w #[] := fun w => hG2 _ _ _ _ ⟨rfl, rfl, rfl, Nat.le_refl _, fun _ _ _ => rfl, fun e he => absurd he (by simp)⟩
  refine OT.mk (hall w (hrefl _ _)).2.1 fun w₁ he => ?_
  obtain ⟨hs, _, hstep⟩ := hall w₁ he
  obtain ⟨hc', hf'⟩ := hs.num ha hc
  obtain ⟨g2, e2, m, hm⟩ := hstep hc' (hf'.trans hf)
  have hsz : (w₁.setCell ad' (.int .i32 y)).heap.size = w₁.heap.size := by simp [World.setCell]
  have hO : img σ D ad'.block := ⟨ad.block, ha.1, by rw [ha.2]⟩
  refine ⟨g2, _, _, e2, hG2 _ _ _ _ ⟨rfl, rfl, rfl, by omega, fun b _ hb => Go.RowKit.Below.heap_setCell w₁ ad' _ b fun e => hb (e ▸ hO), fun e he => ?_⟩, ?_⟩
  · simp [rd, wr] at he
    rcases he with rfl | rfl <;> exact .inl hO
  · rw [grow_same hsz]
    have hs2 : Sit σ D Tb W0 ((u.alloc muxO).setCell ad (.int .i32 y)) (w₁.setCell ad' (.int .i32 y)) := (hs.garbage muxO).both ha hx .i32 y
    have e3 : deafBehind d #[rd ad', wr ad'] = d := deafBehind_still (fun e he => by simp [rd, wr] at he; rcases he with rfl | rfl <;> exact ⟨by simp, by simp⟩) d
    rw [e3]
    refine OT.bind2 (GoD.quiet hrefl (fun w w₁ he hs => hs.env (hE _ _ _ he)) hG0 hm hs2 (d := d)) fun O'' d g w hall2 => ?_
    obtain ⟨rfl, rfl, _⟩ := hall2 w (hrefl _ _)
    exact hS g w fun w₁ he => ⟨(hall2 w₁ he).2.2.1, (hall2 w₁ he).2.2.2⟩
/-- LOCK, on a mutex of one's own that is free. -/
theorem lock_tree (hE : ∀ O w w₁, Env O w w₁ → Env0 O w w₁) (hrefl : ∀ O w, Env O w w) (hG2 : ∀ O w w' es, Gu0 O w w' es → Gu O w w' es) (ha : AR σ D ad ad') (hc : u.cell? ad = some (.int .i32 0)) (hf : u.frozen? ad = false) (hx : (u.alloc muxO).cell? ad = some (.int .i32 0)) (hy : ((u.alloc muxO).setCell ad (.int .i32 1)).cell? ad = some (.int .i32 1))
    {T : Array Value} (hk : b.kind ≠ .early) (hT : 13 ≤ T.size) (h0 : T[0]?.getD undef = .pointer (some ad')) {w : World} (hw : Sit σ D Tb W0 u w)
    (hS : ∀ g w, (∀ w₁, Env (img σ D) w w₁ → Sit σ D Tb W0 ((u.alloc muxO).setCell ad (.int .i32 1)) w₁ ∧ AtOut b cs g) → OT Try.prog main Env Gu Fin (img σ D) 0 g w) : OT Try.prog main Env Gu Fin (img σ D) 0 (G (b.at ⟨T, []⟩ [.code bodyL]) cs) w := by
  have hG0 : ∀ w, Gu (img σ D) w w #[] := fun w => hG2 _ _ _ _ ⟨rfl, rfl, rfl, Nat.le_refl _, fun _ _ _ => rfl, fun e he => absurd he (by simp)⟩
  have hGm : ∀ (m : Mark), EvO (img σ D) (mk m) → ∀ w, Gu (img σ D) w w #[mk m] := fun m hm w => hG2 _ _ _ _ ⟨rfl, rfl, rfl, Nat.le_refl _, fun _ _ _ => rfl, fun e he => by
    rw [Array.mem_singleton] at he
    subst he
    rw [grow_same rfl]
    exact hm⟩
  have hO : img σ D ad'.block := ⟨ad.block, ha.1, by rw [ha.2]⟩
  have hR : ∀ (v : World) (w w₁ : World), Env (img σ D) w w₁ → Sit σ D Tb W0 v w → Sit σ D Tb W0 v w₁ := fun v w w₁ he hs => hs.env (hE _ _ _ he)
  have h1 := @lock_in main (Sit σ D Tb W0 u) b cs _ T hk ⟨10, lock_swap (I' := Sit σ D Tb W0 ((u.alloc muxO).setCell ad (.int .i32 1))) hk (by simpa using hT) (by rw [set_get (by omega)]; exact h0) fun T' t1 t2 t3 => ⟨10, lock_out hk (fun w hs => ⟨_, (hs.num ha hy).1⟩) t1 t2 t3⟩⟩
  refine OT.bind2 (GoD.quiet hrefl (hR u) hG0 h1 hw (d := 0)) fun O1 d1 g1 w1 hall => ?_
  obtain ⟨rfl, rfl, _⟩ := hall w1 (hrefl _ _)
  refine OT.said hrefl (hR u) hG0 (hGm .disable trivial) (fun w₁ he => ⟨(hall w₁ he).2.2.1, (hall w₁ he).2.2.2⟩) fun g2 w2 hall2 => ?_
  refine OT.swapped hE hrefl hG2 ha hc hf hx hall2 fun g3 w3 hall3 => ?_
  refine OT.said hrefl (hR _) hG0 (hGm .enable trivial) hall3 fun g4 w4 hall4 => ?_
  refine OT.said hrefl (hR _) hG0 (hGm (.acquire ad') hO) hall4 fun g5 w5 hall5 => ?_
  exact hS g5 w5 hall5
/-- UNLOCK, of a mutex of one's own that is locked. -/
theorem unlock_tree (hE : ∀ O w w₁, Env O w w₁ → Env0 O w w₁) (hrefl : ∀ O w, Env O w w) (hG2 : ∀ O w w' es, Gu0 O w w' es → Gu O w w' es) (ha : AR σ D ad ad') (hc : u.cell? ad = some (.int .i32 1)) (hf : u.frozen? ad = false) (hx : (u.alloc muxO).cell? ad = some (.int .i32 1))
    {T : Array Value} (hb : b.fn = 92) (hk : b.kind ≠ .early) (hT : 21 ≤ T.size) (h0 : T[0]?.getD undef = .pointer (some ad')) {w : World} (hw : Sit σ D Tb W0 u w)
    (hS : ∀ g w, (∀ w₁, Env (img σ D) w w₁ → Sit σ D Tb W0 ((u.alloc muxO).setCell ad (.int .i32 0)) w₁ ∧ AtOut b cs g) → OT Try.prog main Env Gu Fin (img σ D) 0 g w) : OT Try.prog main Env Gu Fin (img σ D) 0 (G (b.at ⟨T, []⟩ [.code bodyU]) cs) w := by
  have hG0 : ∀ w, Gu (img σ D) w w #[] := fun w => hG2 _ _ _ _ ⟨rfl, rfl, rfl, Nat.le_refl _, fun _ _ _ => rfl, fun e he => absurd he (by simp)⟩
  have hGm : ∀ (m : Mark), EvO (img σ D) (mk m) → ∀ w, Gu (img σ D) w w #[mk m] := fun m hm w => hG2 _ _ _ _ ⟨rfl, rfl, rfl, Nat.le_refl _, fun _ _ _ => rfl, fun e he => by
    rw [Array.mem_singleton] at he
    subst he
    rw [grow_same rfl]
    exact hm⟩
  have hO : img σ D ad'.block := ⟨ad.block, ha.1, by rw [ha.2]⟩
  have hR : ∀ (v : World) (w w₁ : World), Env (img σ D) w w₁ → Sit σ D Tb W0 v w → Sit σ D Tb W0 v w₁ := fun v w w₁ he hs => hs.env (hE _ _ _ he)
  have h1 := @unlock_in main (Sit σ D Tb W0 u) b cs (MC Try.prog main (Sit σ D Tb W0 ((u.alloc muxO).setCell ad (.int .i32 0))) ad' 1 0 (M3 Try.prog main (Sit σ D Tb W0 ((u.alloc muxO).setCell ad (.int .i32 0))) (mk .enable) (fun g _ => AtOut b cs g))) T ad' hb hk (fun w hs => (hs.num ha hc).1) hT h0 fun T' t1 t2 => ⟨10, unlock_add hk t1 t2⟩
  refine OT.bind2 (GoD.quiet hrefl (hR u) hG0 h1 hw (d := 0)) fun O1 d1 g1 w1 hall => ?_
  obtain ⟨rfl, rfl, _⟩ := hall w1 (hrefl _ _)
  refine OT.said hrefl (hR u) hG0 (hGm (.releaseMerge ad') hO) (fun w₁ he => ⟨(hall w₁ he).2.2.1, (hall w₁ he).2.2.2⟩) fun g2 w2 hall2 => ?_
  refine OT.said hrefl (hR u) hG0 (hGm .disable trivial) hall2 fun g3 w3 hall3 => ?_
  refine OT.swapped hE hrefl hG2 ha hc hf hx hall3 fun g4 w4 hall4 => ?_
  refine OT.said hrefl (hR _) hG0 (hGm .enable trivial) hall4 fun g5 w5 hall5 => ?_
  exact hS g5 w5 hall5
end
end Go.Proofs.Ytgfgoflhmikalaa.par

namespace Go.Proofs.Ytgfgoflhmikalaa.par
open Go Go.Conc
open Go.ConcR (rd wr mk DC0)
set_option linter.unusedVariables false
set_option linter.unusedSimpArgs false
section
variable {H : Code} {main : Bool} {Env : (Nat → Prop) → World → World → Prop} {Gu : (Nat → Prop) → World → World → Array Event → Prop} {Fin : (Nat → Prop) → Nat → Goroutine → World → Prop} {W0 : World} {tl tail : List Frame} {R : FuncId → Value → World → Prop}
variable {σ : Nat → Nat} {D : Nat → Prop}
/-- The caller, behind a call that answers nothing. -/
def back (kind : CallKind) (c : Frame) : Frame := if kind = .deferred then c else c.finish (.tuple #[])
theorem leave_any {P : Program} {main : Bool} {b c : Frame} {cs : List Frame} {fn : Func} {kind : CallKind} {T : Array Value} {todo : List Item} {w : World} (hkd : kind = .normal ∨ kind = .deferred) (hk : b.kind = kind) (hc : kind = .deferred → Fresh c) (hf : P.funcs[b.fn]? = some fn) (hr : fn.results = #[]) :
    stepG P main (G { b.at ⟨T, []⟩ todo with mode := .returning } (c :: cs)) w = .go (G (back kind c) cs) w #[] := by
  rcases hkd with rfl | rfl
  · exact stepG_leave hk rfl hf (results_none hr _ P w) (events_results_none hr _ _)
  · have h1 : (results fn T).runT P w #[] = (.ok (.tuple #[]) w, #[]) := by
      rw [Sem.runT_eq, results_none hr, events_results_none hr]
    rw [unwind_step (by simp), un_ret (Q := P) (fx := { b.at ⟨T, []⟩ todo with mode := .returning }) (v := .tuple #[]) (v1 := w) (es := #[]) rfl rfl hf h1, dr_deferred (fx := { b.at ⟨T, []⟩ todo with mode := .returning }) hk (hc rfl)]
    rfl
/-- Out of the crowd's frame. -/
theorem out_tree (hE : ∀ O w w₁, Env O w w₁ → Env0 O w w₁) (hrefl : ∀ O w, Env O w w) (hG2 : ∀ O w w' es, Gu0 O w w' es → Gu O w w' es) {Tb : Tables} {u2 : World} {b c : Frame} {cs : List Frame} {fn : Func} {kind : CallKind} (hkd : kind = .normal ∨ kind = .deferred) (hk : b.kind = kind) (hc : kind = .deferred → Fresh c) (hf : (Try.prog).funcs[b.fn]? = some fn) (hr : fn.results = #[])
    (hS : ∀ w, Sit σ D Tb W0 u2 w → OT Try.prog main Env Gu Fin (img σ D) 0 (G (back kind c) cs) w) {g : Goroutine} {w : World} (hall : ∀ w₁, Env (img σ D) w w₁ → Sit σ D Tb W0 u2 w₁ ∧ AtOut b (c :: cs) g) : OT Try.prog main Env Gu Fin (img σ D) 0 g w := by
  obtain ⟨_, T', todo, rfl⟩ := hall w (hrefl _ _)
  refine OT.mk rfl fun w₁ he => ?_
  refine ⟨_, w₁, #[], leave_any hkd hk hc hf hr, hG2 _ _ _ _ ⟨rfl, rfl, rfl, Nat.le_refl _, fun _ _ _ => rfl, fun e he => absurd he (by simp)⟩, ?_⟩
  rw [grow_same rfl]
  exact hS w₁ (hall w₁ he).1
theorem cell_set {w : World} {a : Addr} {v v' : Value} (h : w.cell? a = some v) : (w.setCell a v').cell? a = some v' := by
  unfold World.cell? at h ⊢
  unfold World.setCell
  dsimp only
  rw [Array.getElem?_modify, if_pos rfl]
  cases ho : w.heap[a.block]? with
  | none => rw [ho] at h; simp at h
  | some o =>
    rw [ho] at h
    cases o <;> first | (simp at h; done) | skip
    rename_i c e f
    dsimp only at h
    split at h
    · cases h
    · rename_i hs
      have hlt := (Array.getElem?_eq_some_iff.1 h).1
      simp [hs, Array.getElem?_setIfInBounds, hlt]
/-- The lone frame is left; it is behind where it began. -/
theorem come_leave2 {P : Program} {tl : List Frame} {R : FuncId → Value → World → Prop} {s0 : LS} {b c : Frame} {T : Array Value} {todo : List Item} {cs : List Frame} {u : World} {fn : Func} {kind : CallKind} (hkd : kind = .normal ∨ kind = .deferred) (hk : b.kind = kind) (hc : kind = .deferred → Fresh c) (hf : P.funcs[b.fn]? = some fn) (hr : fn.results = #[])
    (h : Come P tl R s0 { b.at ⟨T, []⟩ todo with mode := .returning } (c :: cs) u) : Relation.TransGen (Desc P tl) (back kind c, cs, u) s0 := by
  have hn : ¬ AtEndL { b.at ⟨T, []⟩ todo with mode := .returning } (c :: cs) := fun x => by cases x.1
  have hs : ∀ τ, stepG P true (G { b.at ⟨T, []⟩ todo with mode := .returning } ((c :: cs) ++ tl)) (tp u τ) = .go (G (back kind c) (cs ++ tl)) (tp u τ) #[] := fun τ => leave_any hkd hk hc hf hr
  exact h.desc.elim (fun e => e ▸ .single (desc_go hn (Nat.le_refl _) hs)) fun x => .trans (.single (desc_go hn (Nat.le_refl _) hs)) x
theorem pad_rel {a a' : Array Value} (h : VsR σ D a a') (n : Nat) : VsR σ D (a ++ Array.replicate (n - a.size) undef) (a' ++ Array.replicate (n - a'.size) undef) := by
  rw [← h.1]
  refine VsR.append h (atoms_self fun x hx => ?_)
  obtain ⟨_, rfl⟩ := Array.mem_replicate.1 hx
  rfl
theorem pad_size (a : Array Value) (n : Nat) : n ≤ (a ++ Array.replicate (n - a.size) undef).size := by
  rw [Array.size_append, Array.size_replicate]
  omega
theorem first_rel {a a' : Array Value} (h : VsR σ D a a') (h0 : 0 < a.size) {ad : Addr} (hp : a.getD 0 undef = .pointer (some ad)) : ∃ ad', AR σ D ad ad' ∧ a'[0]?.getD undef = .pointer (some ad') := by
  have h0' : 0 < a'.size := h.1 ▸ h0
  have hv := h.2 0 a[0] a'[0] (Array.getElem?_eq_getElem h0) (Array.getElem?_eq_getElem h0')
  have e : a[0] = .pointer (some ad) := by rw [← hp]; simp [h0]
  rw [Array.getElem?_eq_getElem h0', Option.getD_some]
  rw [e] at hv
  revert hv
  generalize a'[0] = y
  intro hv
  cases hv with
  | ptr ha => exact ⟨_, ha, rfl⟩
theorem back_rel {T : Tables} {F' F : Array Func} {kind : CallKind} {fr' fr : Frame} (h : FrR σ D T Sp F' F fr' fr) : FrR σ D T Sp F' F (back kind fr') (back kind fr) := by
  unfold back
  split
  · exact h
  · exact finish_rel h (.undef _ rfl)
theorem early_not {kind : CallKind} (hkd : kind = .normal ∨ kind = .deferred) : kind ≠ .early := by
  rcases hkd with rfl | rfl <;> simp
set_option maxRecDepth 100000 in
/-- LOCK, called. -/
theorem lock_spec (hE : ∀ O w w₁, Env O w w₁ → Env0 O w w₁) (hrefl : ∀ O w, Env O w w) (hG2 : ∀ O w w' es, Gu0 O w w' es → Gu O w w' es) {s : LS} {fr : Frame} {cs : List Frame} {a a' : Array Value} {w : World} {kind : CallKind} (hkd : kind = .normal ∨ kind = .deferred)
    (hlt : LT (loneP H) tl R (Frame.enter (loneP H) 91 a kind) (s.1 :: s.2.1) s.2.2) (ha : VsR σ D a a') (hr : Rel (Try.prog).toTables (loneF H) (Try.prog).funcs Sp W0 σ D s fr cs w)
    (hnext : ∀ s2 fr2 cs2 w2, Relation.TransGen (Desc (loneP H) tl) s2 (Frame.enter (loneP H) 91 a kind, s.1 :: s.2.1, s.2.2) → Rel (Try.prog).toTables (loneF H) (Try.prog).funcs Sp W0 σ D s2 fr2 cs2 w2 → OT Try.prog main Env Gu Fin (img σ D) 0 (G fr2 (cs2 ++ tail)) w2) :
    OT Try.prog main Env Gu Fin (img σ D) 0 (G (Frame.enter Try.prog 91 a' kind) (fr :: (cs ++ tail))) w := by
  have c0 : Come (loneP H) tl R (Frame.enter (loneP H) 91 a kind, s.1 :: s.2.1, s.2.2) (Frame.enter (loneP H) 91 a kind) (s.1 :: s.2.1) s.2.2 := ⟨hlt, .inl rfl⟩
  generalize (Frame.enter (loneP H) 91 a kind, s.1 :: s.2.1, s.2.2) = s0 at c0 hnext
  rw [enter_K (P := loneP H) (c := muxBody 0 1) (lone_lock H) rfl a kind] at c0
  rw [enter_K Try.func91 (show Try.f91.body = some bodyL by kernel_rfl) a' kind]
  have hv := pad_rel ha 13
  have z1 := pad_size a 13
  have z2 := pad_size a' 13
  change Come _ _ _ _ ((bK 91 kind).at ⟨a ++ Array.replicate (13 - a.size) undef, []⟩ [.code (muxBody 0 1)]) _ _ at c0
  change OT _ _ _ _ _ _ _ (G ((bK 91 kind).at ⟨a' ++ Array.replicate (13 - a'.size) undef, []⟩ [.code bodyL]) _) _
  generalize a ++ Array.replicate (13 - a.size) undef = T1 at hv z1 c0
  generalize a' ++ Array.replicate (13 - a'.size) undef = T2 at hv z2 ⊢
  obtain ⟨ad, h1, h2, h3, T', c1⟩ := mux_lone (.inl rfl) (early_not hkd) (by omega) (fun ad hp => by
    obtain ⟨ad', hA, _⟩ := first_rel hv (by omega) hp
    exact hr.sit.tame hA.1) c0
  obtain ⟨ad', hA, hp'⟩ := first_rel hv (by omega) h1
  have c2 := come_leave2 (P := loneP H) (b := bK 91 kind) hkd rfl (fun _ => (fresh_rel hr.fr).1) (lone_lock H) rfl c1
  have hx : (s.2.2.alloc muxO).cell? ad = some (.int .i32 0) := by
    rw [← h2]
    have := hr.sit.bound _ hA.1
    unfold World.cell?
    rw [show (s.2.2.alloc muxO).heap[ad.block]? = s.2.2.heap[ad.block]? from by show (s.2.2.heap.push _)[ad.block]? = _; rw [Array.getElem?_push, if_neg (by omega)]]
  have hy : ((s.2.2.alloc muxO).setCell ad (.int .i32 1)).cell? ad = some (.int .i32 1) := cell_set hx
  refine lock_tree hE hrefl hG2 hA h2 h3 hx hy (early_not hkd) z2 hp' hr.sit fun g w2 hall => ?_
  refine out_tree hE hrefl hG2 (b := bK 91 kind) hkd rfl (fun _ => (fresh_rel hr.fr).2) Try.func91 rfl (fun w3 hs => ?_) hall
  exact hnext _ _ _ _ c2 ⟨hs, back_rel hr.fr, hr.cs⟩
set_option maxRecDepth 100000 in
/-- UNLOCK, called. -/
theorem unlock_spec (hE : ∀ O w w₁, Env O w w₁ → Env0 O w w₁) (hrefl : ∀ O w, Env O w w) (hG2 : ∀ O w w' es, Gu0 O w w' es → Gu O w w' es) {s : LS} {fr : Frame} {cs : List Frame} {a a' : Array Value} {w : World} {kind : CallKind} (hkd : kind = .normal ∨ kind = .deferred)
    (hlt : LT (loneP H) tl R (Frame.enter (loneP H) 92 a kind) (s.1 :: s.2.1) s.2.2) (ha : VsR σ D a a') (hr : Rel (Try.prog).toTables (loneF H) (Try.prog).funcs Sp W0 σ D s fr cs w)
    (hnext : ∀ s2 fr2 cs2 w2, Relation.TransGen (Desc (loneP H) tl) s2 (Frame.enter (loneP H) 92 a kind, s.1 :: s.2.1, s.2.2) → Rel (Try.prog).toTables (loneF H) (Try.prog).funcs Sp W0 σ D s2 fr2 cs2 w2 → OT Try.prog main Env Gu Fin (img σ D) 0 (G fr2 (cs2 ++ tail)) w2) :
    OT Try.prog main Env Gu Fin (img σ D) 0 (G (Frame.enter Try.prog 92 a' kind) (fr :: (cs ++ tail))) w := by
  have c0 : Come (loneP H) tl R (Frame.enter (loneP H) 92 a kind, s.1 :: s.2.1, s.2.2) (Frame.enter (loneP H) 92 a kind) (s.1 :: s.2.1) s.2.2 := ⟨hlt, .inl rfl⟩
  generalize (Frame.enter (loneP H) 92 a kind, s.1 :: s.2.1, s.2.2) = s0 at c0 hnext
  rw [enter_K (P := loneP H) (c := muxBody 1 0) (lone_unlock H) rfl a kind] at c0
  rw [enter_K Try.func92 (show Try.f92.body = some bodyU by kernel_rfl) a' kind]
  have hv := pad_rel ha 21
  have z1 := pad_size a 21
  have z2 := pad_size a' 21
  change Come _ _ _ _ ((bK 92 kind).at ⟨a ++ Array.replicate (21 - a.size) undef, []⟩ [.code (muxBody 1 0)]) _ _ at c0
  change OT _ _ _ _ _ _ _ (G ((bK 92 kind).at ⟨a' ++ Array.replicate (21 - a'.size) undef, []⟩ [.code bodyU]) _) _
  generalize a ++ Array.replicate (21 - a.size) undef = T1 at hv z1 c0
  generalize a' ++ Array.replicate (21 - a'.size) undef = T2 at hv z2 ⊢
  obtain ⟨ad, h1, h2, h3, T', c1⟩ := mux_lone (.inr rfl) (early_not hkd) (by omega) (fun ad hp => by
    obtain ⟨ad', hA, _⟩ := first_rel hv (by omega) hp
    exact hr.sit.tame hA.1) c0
  obtain ⟨ad', hA, hp'⟩ := first_rel hv (by omega) h1
  have c2 := come_leave2 (P := loneP H) (b := bK 92 kind) hkd rfl (fun _ => (fresh_rel hr.fr).1) (lone_unlock H) rfl c1
  have hx : (s.2.2.alloc muxO).cell? ad = some (.int .i32 1) := by
    rw [← h2]
    have := hr.sit.bound _ hA.1
    unfold World.cell?
    rw [show (s.2.2.alloc muxO).heap[ad.block]? = s.2.2.heap[ad.block]? from by show (s.2.2.heap.push _)[ad.block]? = _; rw [Array.getElem?_push, if_neg (by omega)]]
  refine unlock_tree hE hrefl hG2 hA h2 h3 hx rfl (early_not hkd) z2 hp' hr.sit fun g w2 hall => ?_
  refine out_tree hE hrefl hG2 (b := bK 92 kind) hkd rfl (fun _ => (fresh_rel hr.fr).2) Try.func92 rfl (fun w3 hs => ?_) hall
  exact hnext _ _ _ _ c2 ⟨hs, back_rel hr.fr, hr.cs⟩
end
end Go.Proofs.Ytgfgoflhmikalaa.par

namespace Go.Proofs.Ytgfgoflhmikalaa.par
open Go Go.Conc Go.RowKit Go.Conc.Lib Go.ConcR.Gen Go.ConcN.Gen
open Go.ConcR (stA smA WgAt KK rd wr DC0)
set_option linter.unusedVariables false
set_option linter.unusedSimpArgs false
namespace Par
variable {A : Par}
/-- What a worker needs to be given. -/
structure Job (A : Par) (bl bs k n cap b off : Nat) (ad : Option Addr) (s : ByteArray) (cs : Nat → Int × Int × Int) (gb : Nat → Bool) (fb : Nat) : Prop where
  prog : A.P = Try.prog
  tW : A.tW = link.tWg
  ne : A.wB ≠ A.Wg
  nfS : ¬ A.Sh fb
  rdl : A.Rd bl
  rds : A.Rd bs
  had : 0 < n → ad = some ⟨b, off, none⟩ ∧ A.Rd b
  n1 : n < 1000000000000
  lbox : A.Wz.heap[bl]? = some (.cells #[.slice ad n cap] 63)
  sbox : A.Wz.heap[bs]? = some (.cells #[.string s] 9)
  el : ∀ i, i < n → A.Wz.cell? ⟨b, off + i * 3, none⟩ = some (.int .i64 (cs i).1) ∧ A.Wz.cell? ⟨b, off + i * 3 + 1, none⟩ = some (.int .i64 (cs i).2.1) ∧ A.Wz.cell? ⟨b, off + i * 3 + 2, none⟩ = some (.int .i64 (cs i).2.2)
  good : A.gd k ↔ ∀ i, i < n → i % 4 = k → gb i = true
  bnd : A.bnd = n
  holds : ∀ i, i < n → ∀ (fr : Frame) (cs' : List Frame) (O : Nat → Prop) (w : World), O fb → A.Live w → w.heap[fb]? = some (.cells #[.int .i64 k] 3) → fr.mode = .run → A.LW (fun O' d g w => d = 0 ∧ (∀ b, O b → O' b) ∧ A.Live w ∧ w.heap[fb]? = some (.cells #[.int .i64 k] 3) ∧ g = G (fr.finish (.bool (gb i))) cs') O 0
    (G (Frame.enter Try.prog 46 #[.agg #[.int .i64 (cs i).1, .int .i64 (cs i).2.1, .int .i64 (cs i).2.2], .string s] .normal) (fr :: cs')) w
def WkI (A : Par) (fb k : Nat) (w : World) : Prop := A.Live w ∧ w.heap[fb]? = some (.cells #[.int .i64 k] 3)
section
variable {bl bs k n cap b off : Nat} {ad : Option Addr} {s : ByteArray} {cs : Nat → Int × Int × Int} {gb : Nat → Bool} {fb : Nat}
theorem Job.kn (J : A.Job bl bs k n cap b off ad s cs gb fb) : A.Kn (fun b => b = fb) (A.WkI fb k) := by
  refine ⟨fun w h => h.1, fun O hO w w₁ he h => ⟨he.live h.1, (he.env.own fb (hO fb rfl)).trans h.2⟩, fun w w' hh ht ho hu h => ⟨?_, by rw [hh]; exact h.2⟩, fun w a u ha h hl => ⟨hl, (set_other w a u fun e => J.nfS ?_).trans h.2⟩, J.ne⟩
  · refine live_of w w' ⟨ht, ho, hu, by rw [hh]; exact Nat.le_refl _, fun b _ => by rw [hh]⟩ h.1
  · rw [e]
    exact .inr ha
theorem Job.is (J : A.Job bl bs k n cap b off ad s cs gb fb) : ∀ w, A.WkI fb k w → WkIs fb bl bs k ad n cap s cs b off w := by
  intro w h
  have hr : ∀ b, A.Rd b → w.heap[b]? = A.Wz.heap[b]? := fun b hb => h.1.2.heap b hb
  have hc : ∀ b o, A.Rd b → w.cell? ⟨b, o, none⟩ = A.Wz.cell? ⟨b, o, none⟩ := fun b o hb => by
    unfold World.cell?
    dsimp only
    rw [hr b hb]
  refine ⟨?_, ?_, ?_, fun i hi => ?_⟩
  · simp [World.cell?, h.2]
  · rw [hc _ _ J.rdl]; simp [World.cell?, J.lbox]
  · rw [hc _ _ J.rds]; simp [World.cell?, J.sbox]
  · have hb := (J.had (by omega)).2
    obtain ⟨h1, h2, h3⟩ := J.el i hi
    exact ⟨(hc _ _ hb).trans h1, (hc _ _ hb).trans h2, (hc _ _ hb).trans h3⟩
theorem Job.wg (J : A.Job bl bs k n cap b off ad s cs gb fb) : ∀ {w : World}, A.WkI fb k w → ∃ st sm, WgAt link.tWg A.Wg w st sm := fun {w} h => by
  have := h.1.1.1
  rwa [J.tW] at this
theorem Job.rd (J : A.Job bl bs k n cap b off ad s cs gb fb) : ∀ b, b = bl ∨ b = bs → A.Rd b := fun b h => h.elim (fun e => e ▸ J.rdl) fun e => e ▸ J.rds
/-- From the head of its loop. -/
theorem Job.loop (J : A.Job bl bs k n cap b off ad s cs gb fb) (hk : k < 4) : ∀ (m i r : Nat), n ≤ i + m → i % 4 = k → n ≤ r + i → r ≤ n → (r = A.bnd ↔ ∀ j, j < i → j < n → j % 4 = k → gb j = true) → i < 2000000000000 → ∀ (O : Nat → Prop) (g : Goroutine) (w : World), O fb → A.WkI fb k w → AtHead A.Wg fb bl bs A.wB (i : Int) g → A.LW (A.Own k r) O 0 g w := by
  intro m
  induction m using Nat.strongRecOn with
  | _ m ih =>
  intro i r hm hi hr1 hr2 hb hi2 O g w hO hI hg
  have K := J.kn
  have hO' : ∀ b, b = fb → O b := fun b e => e ▸ hO
  rcases Nat.lt_or_ge i n with hlt | hge
  · have h1 := @work_call A fb bl bs k n cap b off ad s cs (A.WkI fb k) J.is J.rd J.had (by have := J.n1; omega) (fun w h => K.same w _ rfl rfl rfl rfl h) A.Wg A.wB i hlt g hg
    rw [← J.prog] at h1
    refine OT.bind (K.looks rfl h1 False hO' hI) (EnvT.refl ryA) fun O1 d1 g1 w1 ⟨e1, a1, c1, s1⟩ => ?_
    subst e1
    obtain ⟨x6, x7, x8, x9, x10, x11, x12, x13, x14, x15, x16, x17, x18, x19, x20, rfl⟩ := s1
    refine OT.bind (J.holds i hlt _ _ O1 w1 (a1 _ hO) c1.1 c1.2 ?_) (EnvT.refl ryA) ?_
    · rfl
    refine fun O2 d2 g2 w2 ⟨e2, a2, l2, f2, s2⟩ => ?_
    subst e2
    have hO2 : ∀ b, b = fb → O2 b := fun b e => e ▸ a2 _ (a1 _ hO)
    have hI2 : A.WkI fb k w2 := ⟨l2, f2⟩
    have hgA : AfterCall A.Wg fb bl bs A.wB i (gb i) g2 := by
      rw [s2, Frame.finish_at, show (ops4[5]?).bind (·.dst) = some 18 by kernel_rfl]
      exact ⟨x6, x7, x8, x9, x10, x11, x12, x13, x14, x15, x16, x17, x19, x20, rfl⟩
    cases hgb : gb i with
    | true =>
      rw [hgb] at hgA
      have h3 := @work_good A fb bl bs k n cap b off ad s cs (A.WkI fb k) J.is A.Wg A.wB i (by have := J.n1; omega) g2 hgA
      rw [← J.prog] at h3
      refine OT.bind (K.looks rfl h3 False hO2 hI2) (EnvT.refl ryA) fun O3 d3 g3 w3 ⟨e3, a3, c3, s3⟩ => ?_
      subst e3
      refine ih (m - 4) (by omega) (i + 4) r (by omega) (by omega) (by omega) hr2 ?_ (by have := J.n1; omega) O3 g3 w3 (a3 _ (hO2 _ rfl)) c3 s3
      rw [hb]
      refine ⟨fun h j hj hjn hjk => ?_, fun h j hj hjn hjk => h j (by omega) hjn hjk⟩
      rcases Nat.lt_or_ge j i with h5 | h5
      · exact h j h5 hjn hjk
      · rw [show j = i by omega]; exact hgb
    | false =>
      rw [hgb] at hgA
      have h3 := @work_bad A fb bl bs k n cap b off ad s cs (A.WkI fb k) J.is A.Wg A.wB i (by have := J.n1; omega) g2 hgA
      rw [← J.prog] at h3
      obtain ⟨r, rfl⟩ : ∃ r', r = r' + 1 := ⟨r - 1, by omega⟩
      refine OT.weaken (fun O3 d3 g3 w3 ⟨e3, a3, c3, s3⟩ => ?_) (K.looks rfl h3 False hO2 hI2)
      subst e3
      refine .inr ⟨rfl, s3.1, fun v h0 hv hw => ?_⟩
      have hc3 : w3.cell? ⟨A.wB, 0, none⟩ = some (.int .i64 v) := by unfold Par.WB at hw; simp [World.cell?, hw]
      have hz3 : w3.frozen? ⟨A.wB, 0, none⟩ = false := by unfold Par.WB at hw; simp [World.frozen?, hw]
      obtain ⟨g4, h4, m4, h5⟩ := s3.2 v h0 hv hc3 hz3
      refine ⟨g4, h4, ?_⟩
      refine OT.bind (K.looks rfl h5 False (fun x hx => a3 x (hO2 x hx)) (K.setB c3 hw (v + 1))) (EnvT.refl ryA) fun O5 d5 g5 w5 ⟨e5, a5, c5, s5⟩ => ?_
      subst e5
      refine ih (m - 4) (by omega) (i + 4) r (by omega) (by omega) (by omega) (by omega) ?_ (by have := J.n1; omega) O5 g5 w5 (a5 _ (a3 _ (hO2 _ rfl))) c5 s5
      refine ⟨fun h => ?_, fun h => ?_⟩
      · have := J.bnd; omega
      · have := h i (by omega) hlt hi
        rw [hgb] at this
        cases this
  · have h1 := @work_end A fb bl bs k n cap b off ad s cs (A.WkI fb k) J.is J.wg J.rd A.wB i hge g hg
    rw [← J.prog, ← J.tW] at h1
    refine OT.weaken (fun O' d' g' w' ⟨e1, a1, c1, s1⟩ => ?_) (K.looks rfl h1 False hO' hI)
    subst e1
    refine own_of_rel (K.rel (fun x hx => a1 x (hO' x hx)) c1 s1 (hb.trans ?_))
    rw [J.good]
    exact ⟨fun h j hj hjk => h j (by omega) hj hjk, fun h j _ hj hjk => h j hj hjk⟩
/-- A worker, from its birth. -/
theorem Job.work (J : A.Job bl bs k n cap b off ad s cs gb fb) (hk : k < 4) {O : Nat → Prop} {w : World} (hO : O fb) (hI : A.WkI fb k w) : A.LW (A.Own k A.bnd) O 0 (born Try.prog (callW A.Wg fb bl bs A.wB)) w := by
  have K := J.kn
  have h1 := @work_start A fb bl bs k n cap b off ad s cs (A.WkI fb k) J.is J.rd A.Wg A.wB
  rw [show GoD Try.prog = GoD A.P by rw [J.prog]] at h1
  refine OT.bind (K.looks rfl h1 False (fun x hx => hx ▸ hO) hI) (EnvT.refl ryA) fun O1 d1 g1 w1 ⟨e1, a1, c1, s1⟩ => ?_
  subst e1
  rw [J.bnd]
  exact J.loop hk (n - k) k n (by omega) (by omega) (by omega) (Nat.le_refl _) (by rw [J.bnd]; exact ⟨fun _ j hj _ hjk => by omega, fun _ => rfl⟩) (by omega) O1 g1 w1 (a1 _ hO) c1 s1
end
end Par
end Go.Proofs.Ytgfgoflhmikalaa.par
