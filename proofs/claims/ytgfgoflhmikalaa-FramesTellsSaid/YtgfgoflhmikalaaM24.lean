/- Part 24 of what the proofs stand on: lemmas on worlds, on goroutines, contracts of functions. No conditions. -/
import Derived.Test.YtgfgoflhmikalaaM23
namespace Go.Proofs.Ytgfgoflhmikalaa.par
open Go Go.Conc
open Go.ConcR (rd wr mk DC0)
set_option linter.unusedVariables false
set_option linter.unusedSimpArgs false
section
variable {σ : Nat → Nat} {D : Nat → Prop} {T : Tables} {Sp : FuncId → Prop} {F' F : Array Func} {W0 u w : World}
/-- The lone run's return is the crowd's. -/
theorem end_out {fr' fr : Frame} (h : Sit σ D T W0 u w) (hy : Sync u w) (hf : FrR σ D T Sp F' F fr' fr) {v : Value} (hl : fr'.leaving ⟨T, F'⟩ u (.returned v)) (main : Bool) (c : Frame) (tail : List Frame) :
    ∃ v' σ1 D1 u1 w1 es, stepG ⟨T, F⟩ main (G fr (c :: tail)) w = .go (G (c.finish v') tail) w1 es ∧ VR σ1 D1 v v' ∧ Moved T W0 σ D u w σ1 D1 u1 w1 es := by
  obtain ⟨hm, hd, hk, fn, hfn, hrun⟩ := hl
  obtain ⟨f', f, hf1, hf2, hres⟩ := hf.known
  have hfe := hf.fn
  have hmode := hf.mode
  have hdf := hf.defers
  have hkd := hf.kind
  rw [hm] at hmode
  rw [hd] at hdf
  generalize hy2 : fr.mode = y at hmode
  generalize hk2 : fr.defers = m at hdf
  cases hmode
  cases hdf
  obtain rfl : f' = fn := Option.some.inj (hf1.symm.trans (by rw [← hfe]; exact hfn))
  have hs : ∀ σ1 D1, Up σ D σ1 D1 → Inj σ1 D1 → Glob σ1 D1 T → SRel σ1 D1 (⟨T, F'⟩ : Program) (⟨T, F⟩ : Program) (VR σ1 D1) (results f' fr'.tmps) (results f fr.tmps) := fun σ1 D1 hu hi hg => sr_results hres (VsR.up hu hf.tmps)
  have hrun2 := run_ex (P' := ⟨T, F'⟩) (P := ⟨T, F⟩) (R := fun σ1 D1 => VR σ1 D1) rfl rfl h hy hs
  rw [Sem.runT_eq, hrun] at hrun2
  rcases hx2 : (results f fr.tmps).runT (⟨T, F⟩ : Program) w #[] with ⟨r', es⟩
  rw [hx2] at hrun2
  rcases r' with ⟨n', w1⟩ | ⟨h1, w1⟩
  · obtain ⟨σ1, D1, hmv, hv⟩ := hrun2
    refine ⟨n', σ1, D1, u, w1, seen (⟨T, F⟩ : Program) fr.fn es ++ #[], ?_, hv, hmv.sub fun e he => mem_seen (by simpa using he)⟩
    rw [unwind_step (by rw [hy2]; exact FrameMode.noConfusion), un_ret hk2 hy2 hf2 hx2, dr_normal (hkd.symm.trans hk)]
    rfl
  · exact hrun2.elim
/-- The tape is of no matter at a return. -/
theorem leaving_tape {fr' fr : Frame} (h : Sit σ D T W0 u w) (hf : FrR σ D T Sp F' F fr' fr) {v : Value} (τ τ' : Nat → Question → Nat) (hl : fr'.leaving ⟨T, F'⟩ (tp u τ) (.returned v)) : fr'.leaving ⟨T, F'⟩ (tp u τ') (.returned v) := by
  obtain ⟨hm, hd, hk, fn, hfn, hrun⟩ := hl
  refine ⟨hm, hd, hk, fn, hfn, ?_⟩
  obtain ⟨f', f, hf1, hf2, hres⟩ := hf.known
  rw [← hf.fn] at hf1
  obtain rfl := Option.some.inj (hfn.symm.trans hf1)
  let τw : Nat → Question → Nat := fun j => τ (j - w.drawn + u.drawn)
  have hy : Sync (tp u τ) (tp w τw) := fun i => by
    show τ (u.drawn + i) = τ (w.drawn + i - w.drawn + u.drawn)
    rw [show w.drawn + i - w.drawn + u.drawn = u.drawn + i by omega]
  have hs : ∀ σ1 D1, Up σ D σ1 D1 → Inj σ1 D1 → Glob σ1 D1 T → SRel σ1 D1 (⟨T, F'⟩ : Program) (⟨T, F⟩ : Program) (VR σ1 D1) (results fn fr'.tmps) (results f fr.tmps) := fun σ1 D1 hu hi hg => sr_results hres (VsR.up hu hf.tmps)
  have h2 := run_tape (P' := ⟨T, F'⟩) (P := ⟨T, F⟩) (R := fun σ1 D1 => VR σ1 D1) rfl rfl (h.tape τ τw) hy hs (Sem.runT_eq _ _ _ _) τ' (fun j h1 h2 => by
    rw [hrun] at h2
    exact absurd h2 (Nat.not_lt.2 h1))
  rw [hrun] at h2
  have h3 := congrArg Prod.fst h2
  rw [Sem.runT_eq] at h3
  exact h3
end
namespace Par
variable {A : Par} {Stop : (Nat → Prop) → Nat → Goroutine → World → Prop}
/-- Other blocks that are one's own too. -/
theorem frameW (hb1 : A.B1 ≤ A.Wz.heap.size) {X : Nat → Prop} {fb B : Nat} {V : Obj} (hX : X fb) (hfb : fb < B) (hB1 : A.Wz.heap.size ≤ B) (hWg : A.Wg < B) (hWb : A.wB < B) :
    ∀ {O : Nat → Prop} {d : Nat} {g : Goroutine} {w : World}, A.LW Stop O d g w → (∀ b, O b → B ≤ b) → B ≤ w.heap.size → A.Live w → w.heap[fb]? = some V →
      A.LW (fun O' d g w' => (∀ b, X b → O' b) ∧ A.Live w' ∧ w'.heap[fb]? = some V ∧ ∃ O1, Stop O1 d g w') (fun b => O b ∨ X b) d g w := by
  have hE : ∀ {O : Nat → Prop} {w w₁ : World}, A.Env (fun b => O b ∨ X b) w w₁ → A.Env O w w₁ := fun {O w w₁} he => ⟨⟨he.env.tape, he.env.os, he.env.output, he.env.size, fun b hb => he.env.own b (.inl hb)⟩, he.rd, he.live⟩
  intro O d g w h
  induction h with
  | stop h => exact fun hO hB hl hv => .stop fun w₁ he => ⟨fun b hb => .inr hb, he.live hl, (he.env.own fb (.inr hX)).trans hv, _, h w₁ (hE he)⟩
  | @step O d g w hr g' w' es h hg _ ih =>
    intro hO hB hl hv
    refine OT.mk hr fun w₁ he => ?_
    have hg1 := hg w₁ (hE he)
    have hB1' : B ≤ w₁.heap.size := Nat.le_trans hB he.env.size
    have hkept : ∀ b, b < B → (w' w₁).heap[b]? = w₁.heap[b]? := fun b hb => hg1.kept b (by omega) fun ho => by have := hO b ho; omega
    have hl1 : A.Live w₁ := he.live hl
    have hgr : grow (fun b => O b ∨ X b) w₁ (w' w₁) = fun b => grow O w₁ (w' w₁) b ∨ X b := by
      funext b
      unfold grow
      exact propext ⟨fun h => h.elim (fun h => h.elim (fun h => .inl (.inl h)) .inr) fun h => .inl (.inr h), fun h => h.elim (fun h => h.elim (fun h => .inl (.inl h)) .inr) fun h => .inl (.inr h)⟩
    refine ⟨_, _, _, h w₁ (hE he), ⟨hg1.tape, hg1.os, hg1.output, hg1.size, fun b hb hn => hg1.kept b hb fun ho => hn (.inl ho), fun e he' => ?_⟩, ?_⟩
    · rw [hgr]
      exact (hg1.evs e he').imp (fun x => x.mono fun b hb => .inl hb) id
    · rw [hgr]
      refine ih w₁ (hE he) (fun b hb => hb.elim (hO b) fun h => by omega) (Nat.le_trans hB1' hg1.size) ?_ ?_
      · obtain ⟨⟨⟨st, sm, q1⟩, v, q2⟩, q3⟩ := hl1
        exact ⟨⟨⟨st, sm, (hkept _ hWg).trans q1⟩, v, (hkept _ hWb).trans q2⟩, ⟨hg1.tape.trans q3.tape, hg1.os.trans q3.os, hg1.output.trans q3.output, Nat.le_trans q3.size hg1.size, fun b hb => (hkept b (by have := hb.1; omega)).trans (q3.heap b hb)⟩⟩
      · exact (hkept fb hfb).trans ((he.env.own fb (.inr hX)).trans hv)
end Par
/-! ### the lone program's dead function -/
theorem lone_dead (H : Code) : (loneF H)[44]? = some { Try.f44 with body := some (.refuse "dead") } := by
  rw [lone_of H Try.func44]
  have e : lf H (Try.prog).toTables 44 Try.f44 = { Try.f44 with body := some (pr (Try.prog).toTables (.refuse "dead")) } := rfl
  rw [e]
  unfold pr
  rfl
set_option maxRecDepth 100000 in
theorem refused_at (H : Code) : RefusedAt ⟨(Try.prog).toTables, loneF H⟩ 44 := ⟨⟨_, "dead", lone_dead H, rfl, by kernel_rfl⟩⟩
theorem lone_hold (H : Code) : (loneF H)[33]? = some { Try.f33 with body := some (pr (Try.prog).toTables H) } := by
  rw [lone_of H Try.func33]
  rfl
abbrev Hw : Code := .refuse "pruned"
/-- Nothing may be named. -/
def D0 : Nat → Prop := fun _ => False
theorem sit_none {T : Tables} {u w : World} (hu : T.globals.size ≤ u.heap.size) (hw : T.globals.size ≤ w.heap.size) : Sit id D0 T E0 u w :=
  ⟨⟨fun _ _ h => h.elim, fun _ h => h.elim, Nat.zero_le _, fun _ h => h.elim⟩, fun _ _ h => h.elim, fun _ h => h.elim, fun _ h => h.elim, hu, hw⟩
theorem img_none : img id D0 = fun _ => False := by
  funext b
  exact propext ⟨fun ⟨_, h, _⟩ => h, fun h => h.elim⟩
section
variable {main : Bool} {Env : (Nat → Prop) → World → World → Prop} {Gu : (Nat → Prop) → World → World → Array Event → Prop} {W0 : World}
set_option maxRecDepth 100000 in
/-- A CALL, IN COMPANY, of what does not name old blocks: it answers what it answers alone. -/
theorem call_tree (hE : ∀ O w w₁, Env O w w₁ → Env0 O w w₁) (hrefl : ∀ O w, Env O w w) (hG2 : ∀ O w w' es, Gu0 O w w' es → Gu O w w' es) {f : FuncId} {args : Array Value} {V : Bool} (hns : ¬ Sp f) (hboth : Both (loneF Hw) (Try.prog).funcs f) (hargs : ∀ σ D, VsR σ D args args)
    (hone : ∀ u : World, (Try.prog).toTables.globals.size ≤ u.heap.size → Calls (loneP Hw) f args u (fun e _ => e = .returned (.bool V))) (fr : Frame) (cs' : List Frame) {w : World} (hw : (Try.prog).toTables.globals.size ≤ w.heap.size) :
    OT Try.prog main Env Gu (fun _ d g _ => d = 0 ∧ g = G (fr.finish (.bool V)) cs') (fun _ => False) 0 (G (Frame.enter Try.prog f args .normal) (fr :: cs')) w := by
  have hsit := sit_none (T := (Try.prog).toTables) hw hw
  have hfr : FrR id D0 (Try.prog).toTables Sp (loneF Hw) (Try.prog).funcs (Frame.enter (loneP Hw) f args .normal) (Frame.enter Try.prog f args .normal) := enter_rel (lone_bod Hw) hboth hns (hargs _ _) (.inl rfl) rfl rfl
  have hlt : LT (loneP Hw) [c0 44] (fun g v _ => g = f ∧ v = .bool V) (Frame.enter (loneP Hw) f args .normal) [] w :=
    lt_of_calls (R := fun _ v _ => v = .bool V) zp (self_bod Hw) (refused_at Hw) ⟨id, D0, E0, _, [], w, hsit, enter_rel (P' := loneP Hw) (P := loneP Hw) (self_bod Hw) (by obtain ⟨g', _, c', _, a1, _, a3, _⟩ := hboth; exact ⟨g', g', c', c', a1, a1, a3, a3⟩) (fun h => h) (hargs _ _) (.inl rfl) rfl rfl, .nil⟩ fun τ => (hone (tp w τ) hw).mono fun e _ he => ⟨_, he, rfl⟩
  rw [← img_none]
  refine transfer (fun _ _ => True) (fun _ _ _ _ _ _ => trivial) (T := (Try.prog).toTables) (F' := loneF Hw) (F := (Try.prog).funcs) (Sp := Sp) (W0 := E0) (tl := [c0 44]) (tail := fr :: cs') (R := fun g v _ => g = f ∧ v = .bool V) zp (lone_bod Hw) hE hrefl (fun O w w' es h _ => hG2 O w w' es h) (Frame.enter (loneP Hw) f args .normal, [], w) ?_ ?_ _ (.inl rfl) hlt id D0 _ [] w trivial ⟨hsit, hfr, .nil⟩
  · intro σ D s fr2 cs w2 _ _ hlt hr hend
    obtain ⟨fr', cs0, u⟩ := s
    have hcs := hr.cs
    dsimp only at hlt hend hcs
    cases hlt with
    | step hn => exact absurd hend hn
    | @stop _ _ v τ hl hv =>
      obtain ⟨hfnn, rfl⟩ := hv
      cases hcs
      refine OT.mk rfl fun w₁ he => ?_
      have hs1 := hr.sit.env (hE _ _ _ he)
      let τ' : Nat → Question → Nat := fun j => w₁.tape (j - u.drawn + w₁.drawn)
      have hy : Sync (tp u τ') w₁ := fun i => by
        show w₁.tape (u.drawn + i - u.drawn + w₁.drawn) = w₁.tape (w₁.drawn + i)
        rw [show u.drawn + i - u.drawn + w₁.drawn = w₁.drawn + i by omega]
      have hs2 : Sit σ D (Try.prog).toTables E0 (tp u τ') w₁ := hs1.tape τ' w₁.tape
      obtain ⟨v', σ1, D1, u1, w1, es, h1, h2, h3⟩ := end_out hs2 hy hr.fr (leaving_tape hs1 hr.fr τ τ' hl) main fr cs'
      refine ⟨_, w1, es, h1, hG2 _ _ _ _ (h3.gu hs2), ?_⟩
      rw [deafBehind_still (still_of h3.evs)]
      cases h2
      exact .stop fun _ _ => ⟨rfl, rfl⟩
  · intro σ D f' a a' kind s fr2 cs w2 _ _ hlt hr hnext
    have hsp := hr.sp
    unfold Sp special at hsp
    simp only [List.mem_cons, List.not_mem_nil, or_false] at hsp
    rcases hsp with rfl | rfl | rfl
    · exfalso
      have c0 : Come (loneP Hw) [c0 44] (fun g v _ => g = f ∧ v = .bool V) (Frame.enter (loneP Hw) 33 a kind, s.1 :: s.2.1, s.2.2) (Frame.enter (loneP Hw) 33 a kind) (s.1 :: s.2.1) s.2.2 := ⟨hlt, .inl rfl⟩
      generalize (Frame.enter (loneP Hw) 33 a kind, s.1 :: s.2.1, s.2.2) = s0 at c0
      rw [enter_K (P := loneP Hw) (c := .refuse "pruned") (lone_hold Hw) rfl a kind] at c0
      exact come_refuse c0
    · exact lock_spec hE hrefl hG2 hr.kinds hlt hr.args hr.rel fun s2 fr2 cs2 w2 hd hr2 => hnext σ D s2 fr2 cs2 w2 trivial hd hr2
    · exact unlock_spec hE hrefl hG2 hr.kinds hlt hr.args hr.rel fun s2 fr2 cs2 w2 hd hr2 => hnext σ D s2 fr2 cs2 w2 trivial hd hr2
end
/-- frames.cut.holds, called by a worker. -/
theorem Par.holds_tree {A : Par} (hP : A.P = Try.prog) (hb1 : A.B1 ≤ A.Wz.heap.size) (hgl : (Try.prog).toTables.globals.size ≤ A.Wz.heap.size) {c : Int × Int × Int} {s : ByteArray} {V : Bool} {k : Int} {fb : Nat}
    (hone : ∀ u : World, (Try.prog).toTables.globals.size ≤ u.heap.size → Calls (loneP Hw) 46 #[.agg #[.int .i64 c.1, .int .i64 c.2.1, .int .i64 c.2.2], .string s] u (fun e _ => e = .returned (.bool V)))
    (fr : Frame) (cs' : List Frame) (O : Nat → Prop) (w : World) (hO : O fb) (hl : A.Live w) (hv : w.heap[fb]? = some (.cells #[.int .i64 k] 3)) :
    A.LW (fun O' d g w => d = 0 ∧ (∀ b, O b → O' b) ∧ A.Live w ∧ w.heap[fb]? = some (.cells #[.int .i64 k] 3) ∧ g = G (fr.finish (.bool V)) cs') O 0
      (G (Frame.enter Try.prog 46 #[.agg #[.int .i64 c.1, .int .i64 c.2.1, .int .i64 c.2.2], .string s] .normal) (fr :: cs')) w := by
  have hw : (Try.prog).toTables.globals.size ≤ w.heap.size := Nat.le_trans hgl hl.2.size
  have h1 := call_tree (main := false) (Env := A.Env) (Gu := GuT A.Rd A.Sh False) (fun _ _ _ h => h.env) (EnvT.refl ryA) (fun _ _ _ _ h => ⟨h.tape, h.os, h.output, h.size, h.kept, fun e he => .inl (h.evs e he)⟩) (f := 46)
    (by unfold Sp special; simp) ⟨_, _, _, _, lone_of Hw Try.func46, Try.func46, rfl, rfl⟩ (fun σ D => ⟨rfl, fun i x y hx hy => by
      rw [hx] at hy; cases hy
      have hm := Array.mem_of_getElem? hx
      simp only [List.mem_toArray, List.mem_cons, List.not_mem_nil, or_false] at hm
      rcases hm with rfl | rfl
      · exact .agg rfl fun j x y hx hy => by
          rw [hx] at hy; cases hy
          have hm := Array.mem_of_getElem? hx
          simp only [List.mem_toArray, List.mem_cons, List.not_mem_nil, or_false] at hm
          rcases hm with rfl | rfl | rfl <;> exact .int _ _
      · exact .string _⟩) hone fr cs' hw
  rw [← hP] at h1
  have hWg : A.Wg < w.heap.size := by obtain ⟨⟨⟨st, sm, q⟩, _⟩, _⟩ := hl; exact (Array.getElem?_eq_some_iff.1 (show w.heap[A.Wg]? = _ from q)).1
  have hWb : A.wB < w.heap.size := by obtain ⟨⟨_, v, q⟩, _⟩ := hl; exact (Array.getElem?_eq_some_iff.1 (show w.heap[A.wB]? = _ from q)).1
  have h2 := A.frameW hb1 (X := O) (fb := fb) (B := w.heap.size) hO (Array.getElem?_eq_some_iff.1 hv).1 hl.2.size hWg hWb h1 (fun _ h => h.elim) (Nat.le_refl _) hl hv
  rw [hP] at h2
  have e : (fun b => False ∨ O b) = O := by funext b; exact propext ⟨fun h => h.elim False.elim id, .inr⟩
  rw [e] at h2
  exact OT.weaken (fun O' d g w ⟨a, b, c, O1, x, y⟩ => ⟨x, a, b, c, y⟩) h2
end Go.Proofs.Ytgfgoflhmikalaa.par
