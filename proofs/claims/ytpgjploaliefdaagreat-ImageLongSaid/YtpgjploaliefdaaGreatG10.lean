/- Many cells of one block that are stored: what is kept. No conditions. -/
import Derived.Test.YtpgjploaliefdaaGreatMg
import Derived.Test.YtpgjploaliefdaaGreatMl
namespace Go.Proofs.YtpgjploaliefdaaGreat.rh
open Go Go.RowKit Go.Proofs.YtpgjploaliefdaaGreat.gr Go.Proofs.YtpgjploaliefdaaGreat.lx
set_option linter.unusedVariables false
set_option linter.unusedSimpArgs false
/-- Cells of a block are stored, one behind the other. -/
def setC (W : World) (b : Nat) : List (Nat × Value) → World
  | [] => W
  | q :: L => setC (W.setCell ⟨b, q.1, none⟩ q.2) b L
def setA (cs : Array Value) : List (Nat × Value) → Array Value
  | [] => cs
  | q :: L => setA (cs.setIfInBounds q.1 q.2) L
theorem Blk.setC : ∀ {L : List (Nat × Value)} {W : World} {b : Nat} {cs : Array Value} {T : TypeId}, Blk W b cs T → Blk (rh.setC W b L) b (setA cs L) T
  | [], _, _, _, _, h => h
  | q :: L, _, _, _, _, h => Blk.setC (L := L) (h.set q.1 q.2)
theorem Blk.offC : ∀ {L : List (Nat × Value)} {W : World} {n b : Nat} {cs : Array Value} {T : TypeId}, Blk W n cs T → n ≠ b → Blk (rh.setC W b L) n cs T
  | [], _, _, _, _, _, h, _ => h
  | q :: L, _, _, _, _, _, h, e => Blk.offC (L := L) (h.other (p := ⟨_, q.1, none⟩) e q.2) e
theorem OwnR.offC {α : Type} {k : Nat} {en : α → List Value} {T : TypeId} {B : Nat} {v : Value} {zs : List α} : ∀ {L : List (Nat × Value)} {W : World} {b : Nat}, OwnR T k en W B v zs → b < B → OwnR T k en (rh.setC W b L) B v zs
  | [], _, _, h, _ => h
  | q :: L, _, _, h, e => OwnR.offC (L := L) (OwnR.setLow h (p := ⟨_, q.1, none⟩) e q.2) e
theorem low_setC {N : Nat} {a : World} : ∀ {L : List (Nat × Value)} {W : World} {b : Nat}, Below N a W → N ≤ b → Below N a (setC W b L)
  | [], _, _, h, _ => h
  | q :: L, _, _, h, e => low_setC (L := L) (low_set h (p := ⟨_, q.1, none⟩) e q.2) e
theorem Safe.setC {g : Nat} {r : Option Nat} {P : World → Prop} : ∀ {L : List (Nat × Value)} {W : World} {b : Nat}, Safe W g r P → b ≤ g → Safe (rh.setC W b L) g r P
  | [], _, _, h, _ => h
  | q :: L, _, _, h, e => Safe.setC (L := L) (Safe.set h (p := ⟨_, q.1, none⟩) e q.2) e
theorem cell_setC {p : Addr} {v : Value} : ∀ {L : List (Nat × Value)} {W : World} {b : Nat}, W.cell? p = some v → p.block ≠ b → (setC W b L).cell? p = some v
  | [], _, _, h, _ => h
  | q :: L, W, b, h, e => cell_setC (L := L) ((World.cell?_setCell_other _ _ _ _ (fun x => e (congrArg Addr.block x).symm)).trans h) e
end Go.Proofs.YtpgjploaliefdaaGreat.rh

namespace Go.Proofs.YtpgjploaliefdaaGreat.rh
open Go Go.RowKit Go.Proofs.YtpgjploaliefdaaGreat.hp Go.Proofs.YtpgjploaliefdaaGreat.ob Go.Proofs.YtpgjploaliefdaaGreat.hd Go.Proofs.YtpgjploaliefdaaGreat.cp Go.Proofs.YtpgjploaliefdaaGreat.ck Go.Proofs.YtpgjploaliefdaaGreat.gr Go.Proofs.YtpgjploaliefdaaGreat.lx
set_option linter.unusedVariables false
set_option linter.unusedSimpArgs false
set_option maxRecDepth 100000
set_option maxHeartbeats 4000000
/-- A call, as a step of a region. -/
theorem step_call {P : Program} {ops : Array Oper} {Q : Exit → Act → World → Prop} {K : Act → World → Prop} {o : Oper} {a : Act} {w : World} {E : Prop} {f : FuncId} {args : Array Value} {R : Ending → World → Prop} (hg : o.guard = none)
    (hr : (execOp a.eval o).run P w = .ok (.enter f args) w) (hc : Calls P f args w R) (h : ∀ e w', R e w' → ∃ v, e = .returned v ∧ K (a.put o.dst v) w') : if Region.wanted o (yielded ops a.tmps) = true then Oper.wp P o a w K Q else E := by
  rw [if_pos (by simp [Region.wanted, hg])]
  unfold Oper.wp
  rw [hr]
  show Calls P f args w _
  refine Calls.mono hc ?_
  intro e w' hR
  obtain ⟨v, rfl, hk⟩ := h e w' hR
  exact hk
/-- Words that are laid over others, from a place on. -/
def ovl (l : List Int) (a : Nat) (ws : List Int) : List Int := l.take a ++ ws ++ l.drop (a + ws.length)
theorem ovl_len {l : List Int} {a : Nat} {ws : List Int} (h : a + ws.length ≤ l.length) : (ovl l a ws).length = l.length := by
  unfold ovl
  simp only [List.length_append, List.length_take, List.length_drop]
  omega
theorem ovl_one {l : List Int} {a : Nat} (h : a < l.length) (y : Int) : l.set a y = ovl l a [y] := by
  unfold ovl
  rw [List.set_eq_take_append_cons_drop, if_pos h]
  simp
theorem ovl_snoc {l : List Int} {a n : Nat} {ws : List Int} (hn : n = a + ws.length) (h : n < l.length) (y : Int) : (ovl l a ws).set n y = ovl l a (ws ++ [y]) := by
  subst hn
  have h1 : (l.take a ++ ws).length = a + ws.length := by simp; omega
  unfold ovl
  rw [List.set_append_right _ _ (by omega), h1, Nat.sub_self, ← List.append_assoc, List.append_assoc (l.take a ++ ws)]
  congr 1
  rw [List.drop_eq_getElem_cons h]
  simp [Nat.add_assoc]
theorem own_set {W : World} {B g l c k : Nat} {zs : List Int} (h : OwnR 24 1 enU W B (.slice (some ⟨g, 0, none⟩) l c) zs) (x : Int) : OwnR 24 1 enU (W.setCell ⟨g, k, none⟩ (.int .u64 x)) B (.slice (some ⟨g, 0, none⟩) l c) (zs.set k x) := by
  have em : ∀ l : List Int, l.flatMap enU = l.map (fun n => Value.int .u64 n) := fun l => by
    induction l with
    | nil => rfl
    | cons a l ih => rw [List.flatMap_cons, ih]; rfl
  unfold OwnR at h ⊢
  rw [em] at h ⊢
  rcases h.2 with ⟨h0, _⟩ | ⟨g', cap, cur, h0, h1, h2, h3, h4, h5, h6⟩
  · cases h0
  · cases h0
    have hB : Blk W g cur 24 := Blk.of h2
    refine ⟨by simp, .inr ⟨g, c, cur.setIfInBounds k (.int .u64 x), by simp, h1, (hB.set k (.int .u64 x)).raw, by simpa using h3, h4, by simpa using h5, ?_⟩⟩
    rw [List.map_set, ← h6]
    simp [List.take_set]
theorem own_blk {W : World} {B : Nat} {v : Value} {zs : List Int} (h : OwnR 24 1 enU W B v zs) (h0 : 0 < zs.length) : ∃ g c, v = .slice (some ⟨g, 0, none⟩) zs.length c ∧ B ≤ g ∧ g < W.heap.size ∧ zs.length ≤ c ∧ (∀ i, W.frozen? ⟨g, i, none⟩ = false) := by
  have h' := h
  unfold OwnR at h'
  rcases h'.2 with ⟨rfl, h1⟩ | ⟨g, cap, cur, rfl, h1, h2, h3, h4, h5, h6⟩
  · omega
  · have hB : Blk W g cur 24 := Blk.of h2
    obtain ⟨lg, cg, fg⟩ := hB.get
    exact ⟨g, cap, rfl, h1, lg, h3, fg⟩
theorem own_frozen {W : World} {B g n c : Nat} {zs : List Int} (h : OwnR 24 1 enU W B (.slice (some ⟨g, 0, none⟩) n c) zs) (i : Nat) : W.frozen? ⟨g, i, none⟩ = false := by
  have h' := h
  unfold OwnR at h'
  rcases h'.2 with ⟨h0, h1⟩ | ⟨g', cap, cur, h0, h1, h2, h3, h4, h5, h6⟩
  · cases h0
  · cases h0
    have hB : Blk W g cur 24 := Blk.of h2
    exact hB.get.2.2 i
theorem own_cell {W : World} {B g n c k : Nat} {zs : List Int} (h : OwnR 24 1 enU W B (.slice (some ⟨g, 0, none⟩) n c) zs) (hk : k < zs.length) : ∃ y, W.cell? ⟨g, k, none⟩ = some (.int .u64 y) := by
  obtain ⟨ad, cap, e, _, _, _, h4⟩ := h.form enU_len
  obtain ⟨g', e2, _, _, h5⟩ := h4 (by omega)
  subst e2
  cases e
  refine ⟨zs[k], ?_⟩
  have := h5 k 0 zs[k] (.int .u64 zs[k]) (List.getElem?_eq_getElem hk) rfl
  rwa [Nat.mul_one, Nat.add_zero] at this
def setV (v : Hv) (p : Nat) (u : Value) : Hv := if p = 1 then { v with l := u } else if p = 2 then { v with h := u } else if p = 3 then { v with o := u } else { v with f := u }
def setH (h : Hp) (p : Nat) (u : List Int) : Hp := if p = 1 then { h with low := u } else if p = 2 then { h with high := u } else if p = 3 then { h with old := u } else { h with far := u }
/-- A heap's slices are slices. -/
def SF (v : Hv) : Prop := (∃ a n c, v.l = .slice a n c) ∧ (∃ a n c, v.h = .slice a n c) ∧ (∃ a n c, v.o = .slice a n c) ∧ (∃ a n c, v.f = .slice a n c) ∧ (∃ a n c, v.r = .slice a n c)
theorem HF.sf {h : Hp} {v : Hv} (a : HF h v) : SF v := by
  obtain ⟨⟨_, _, e1⟩, ⟨_, _, e2⟩, ⟨_, _, e3⟩, ⟨_, _, e4⟩, ⟨_, _, _, e5⟩⟩ := a
  exact ⟨⟨_, _, _, e1⟩, ⟨_, _, _, e2⟩, ⟨_, _, _, e3⟩, ⟨_, _, _, e4⟩, ⟨_, _, _, e5⟩⟩
/-- A heap that is being laid, and its graph, in memory. -/
structure FIn (W : World) (x : Rh) (c : Bool) (h : Hp) (v : Hv) (gs qs hs os : Sl) : Prop where
  bin : BIn W x c h v gs qs hs os
  nodes : NodesIn W (slV gs) (gNodes x)
  roots : RIn 1 enI W (slV qs) (gRoots x)
  l : RIn 1 enU W v.l h.low
  hi : RIn 1 enU W v.h h.high
  o : RIn 1 enU W v.o h.old
  f : RIn 1 enU W v.f h.far
  r : v.r = .slice none 0 0
theorem FIn.tr {W w : World} {x : Rh} {c : Bool} {h : Hp} {v : Hv} {gs qs hs os : Sl} (a : FIn W x c h v gs qs hs os) (hb : Below W.heap.size W w) : FIn w x c h v gs qs hs os := ⟨a.bin.tr hb, a.nodes.tr hb, a.roots.tr hb, a.l.tr hb, a.hi.tr hb, a.o.tr hb, a.f.tr hb, a.r⟩
/-- The heap where nothing was laid. -/
def standH (x : Rh) (c : Bool) : Hp := ⟨(layL x c).base, (layL x c).cap, (layL x c).tt, c, scanN x c, List.replicate (hof x c 1 (nN x)) 0, List.replicate (hof x c 2 (nN x)) 0, List.replicate (oof x c 3 (nN x)) 0, List.replicate (oof x c 4 (nN x)) 0, []⟩
theorem standH_lay (x : Rh) (c : Bool) : (standH x c).lay = layL x c := by
  unfold standH Hp.lay layL
  simp only [List.length_replicate]
theorem zv_rin {W : World} {b n : Nat} (h : Blk W b (zerosU n) 24) (hn : n < 1000) : RIn 1 enU W (.slice (some ⟨b, 0, none⟩) n n) (List.replicate n 0) := by
  obtain ⟨lb, cb, _⟩ := h.get
  refine RIn.mk (ad := some ⟨b, 0, none⟩) (b := b) (off := 0) (cap := n) (by rw [List.length_replicate]) (fun _ => rfl) (fun e => by cases e) (by rw [List.length_replicate]; exact Nat.le_refl _) (by omega) (fun _ => lb) fun i j y z hy hz => ?_
  have hi : i < n := by
    rcases Nat.lt_or_ge i n with h | h
    · exact h
    · rw [List.getElem?_eq_none (by simpa using h)] at hy; cases hy
  have hj : j = 0 := by
    rcases j with _ | j
    · rfl
    · simp [enU] at hz
  subst hj
  rw [List.getElem?_replicate, if_pos hi] at hy
  cases hy
  have hz : Value.int .u64 0 = z := by simpa [enU] using hz
  rw [Nat.zero_add, Nat.mul_one, Nat.add_zero, cb, made_u n i hi, hz]
theorem part10_any (h : Hp) (v : Hv) (p : Nat) (hp : 1 ≤ p ∧ p ≤ 4) (w : World) (hf : SF v) :
    Calls Tryz.prog 24 #[hpV h v, .int .i64 p] w fun e w' => e = .returned (v.part p) ∧ Below w.heap.size w w' := by
  obtain ⟨vl, vh, vo, vf, vr⟩ := v
  obtain ⟨⟨la, ln, lc, e1⟩, ⟨ha, hn, hc, e2⟩, ⟨oa, on_, oc, e3⟩, ⟨fa, fn, fc, e4⟩, ⟨ra, rn, rc, e5⟩⟩ := hf
  dsimp only at e1 e2 e3 e4 e5
  subst e1 e2 e3 e4 e5
  unfold hpV
  dsimp only
  rcases (show p = 1 ∨ p = 2 ∨ p = 3 ∨ p = 4 by omega) with rfl | rfl | rfl | rfl
  all_goals
    go_enter Tryz.func24, Tryz.ntmps24
    go_wp2_with fail
    go_ret
    refine ⟨rfl, ?_⟩
    (repeat (first | with_reducible exact Below.refl _ _ | with_reducible refine kp_alloc ?_ _ | with_reducible refine kp_drew ?_ | with_reducible refine below_drewN ?_ _ | with_reducible refine kp_set ?_ (by first | omega | (simp; done) | (simp; omega)) _ | with_reducible refine kp_tr ?_ (by with_reducible assumption)))
theorem with10_any (hh : Hp) (v : Hv) (p : Nat) (hp : 1 ≤ p ∧ p ≤ 4) (ua : Option Addr) (un uc : Nat) (w : World) (hf : SF v) :
    Calls Tryz.prog 25 #[hpV hh v, .int .i64 p, .slice ua un uc] w fun e w' => e = .returned (hpV hh (setV v p (.slice ua un uc))) ∧ Below w.heap.size w w' := by
  obtain ⟨vl, vh, vo, vf, vr⟩ := v
  obtain ⟨⟨la, ln, lc, e1⟩, ⟨ha, hn, hc, e2⟩, ⟨oa, on_, oc, e3⟩, ⟨fa, fn, fc, e4⟩, ⟨ra, rn, rc, e5⟩⟩ := hf
  dsimp only at e1 e2 e3 e4 e5
  subst e1 e2 e3 e4 e5
  rcases (show p = 1 ∨ p = 2 ∨ p = 3 ∨ p = 4 by omega) with rfl | rfl | rfl | rfl
  all_goals
    unfold hpV setV
    dsimp only
    go_enter Tryz.func25, Tryz.ntmps25
    go_wp2_with fail
  · refine bodyPost_ret (v := .agg #[.int .u64 hh.base, .int .i64 hh.cap, .int .i64 hh.tt, .bool hh.cyc, .int .i64 hh.scan, .slice ua un uc, .slice ha hn hc, .slice oa on_ oc, .slice fa fn fc, .slice ra rn rc]) (by simp only [results, Tryz.results25]; go_simp) rfl ⟨rfl, ?_⟩
    (repeat (first | with_reducible exact Below.refl _ _ | with_reducible refine kp_alloc ?_ _ | with_reducible refine kp_drew ?_ | with_reducible refine below_drewN ?_ _ | with_reducible refine kp_set ?_ (by first | omega | (simp; done) | (simp; omega)) _ | with_reducible refine kp_tr ?_ (by with_reducible assumption)))
  · refine bodyPost_ret (v := .agg #[.int .u64 hh.base, .int .i64 hh.cap, .int .i64 hh.tt, .bool hh.cyc, .int .i64 hh.scan, .slice la ln lc, .slice ua un uc, .slice oa on_ oc, .slice fa fn fc, .slice ra rn rc]) (by simp only [results, Tryz.results25]; go_simp) rfl ⟨rfl, ?_⟩
    (repeat (first | with_reducible exact Below.refl _ _ | with_reducible refine kp_alloc ?_ _ | with_reducible refine kp_drew ?_ | with_reducible refine below_drewN ?_ _ | with_reducible refine kp_set ?_ (by first | omega | (simp; done) | (simp; omega)) _ | with_reducible refine kp_tr ?_ (by with_reducible assumption)))
  · refine bodyPost_ret (v := .agg #[.int .u64 hh.base, .int .i64 hh.cap, .int .i64 hh.tt, .bool hh.cyc, .int .i64 hh.scan, .slice la ln lc, .slice ha hn hc, .slice ua un uc, .slice fa fn fc, .slice ra rn rc]) (by simp only [results, Tryz.results25]; go_simp) rfl ⟨rfl, ?_⟩
    (repeat (first | with_reducible exact Below.refl _ _ | with_reducible refine kp_alloc ?_ _ | with_reducible refine kp_drew ?_ | with_reducible refine below_drewN ?_ _ | with_reducible refine kp_set ?_ (by first | omega | (simp; done) | (simp; omega)) _ | with_reducible refine kp_tr ?_ (by with_reducible assumption)))
  · refine bodyPost_ret (v := .agg #[.int .u64 hh.base, .int .i64 hh.cap, .int .i64 hh.tt, .bool hh.cyc, .int .i64 hh.scan, .slice la ln lc, .slice ha hn hc, .slice oa on_ oc, .slice ua un uc, .slice ra rn rc]) (by simp only [results, Tryz.results25]; go_simp) rfl ⟨rfl, ?_⟩
    (repeat (first | with_reducible exact Below.refl _ _ | with_reducible refine kp_alloc ?_ _ | with_reducible refine kp_drew ?_ | with_reducible refine below_drewN ?_ _ | with_reducible refine kp_set ?_ (by first | omega | (simp; done) | (simp; omega)) _ | with_reducible refine kp_tr ?_ (by with_reducible assumption)))
theorem slotsV_snoc (x : Rh) (c : Bool) (p a : Nat) (tw : Int) : ∀ (l : List Int) (k : Nat) (t : Int), slotsV x c p a tw k (l ++ [t]) = slotsV x c p a tw k l ++ [slotV x c p (a + 1 + (k + l.length)) t (wr (tw + ((k + l.length : Nat) : Int)))]
  | [], k, t => by simp [slotsV]
  | s :: l, k, t => by
    simp only [List.cons_append, slotsV]
    rw [slotsV_snoc x c p a tw l (k + 1) t, show k + 1 + l.length = k + (s :: l).length by simp; omega]
end Go.Proofs.YtpgjploaliefdaaGreat.rh

namespace Go.Proofs.YtpgjploaliefdaaGreat.rh
open Go Go.RowKit Go.Proofs.YtpgjploaliefdaaGreat.hp Go.Proofs.YtpgjploaliefdaaGreat.ob Go.Proofs.YtpgjploaliefdaaGreat.hd Go.Proofs.YtpgjploaliefdaaGreat.cp Go.Proofs.YtpgjploaliefdaaGreat.ck Go.Proofs.YtpgjploaliefdaaGreat.gr Go.Proofs.YtpgjploaliefdaaGreat.lx
set_option linter.unusedVariables false
set_option linter.unusedSimpArgs false
/-! ### what holds whatever becomes of some blocks -/
/-- A slice of zeros, of one's own, whose block is none of the first B. -/
def ZW (B : Nat) (W : World) (n : Nat) (v : Value) : Prop := ∃ b, v = .slice (some ⟨b, 0, none⟩) n n ∧ Blk W b (zerosU n) 24 ∧ B ≤ b
theorem ZW.tr {B : Nat} {W w : World} {n : Nat} {v : Value} (h : ZW B W n v) (hb : Below W.heap.size W w) : ZW B w n v := by
  obtain ⟨b, e, k, l⟩ := h
  exact ⟨b, e, k.tr hb, l⟩
def Off (W : World) (n m : Nat) (P : World → Prop) : Prop := ∀ W' : World, W.heap.size ≤ W'.heap.size → (∀ j, j < W.heap.size → (j < n ∨ m ≤ j) → W'.heap[j]? = W.heap[j]?) → P W'
theorem Off.now {W : World} {n m : Nat} {P : World → Prop} (h : Off W n m P) : P W := h W (Nat.le_refl _) fun _ _ _ => rfl
theorem Off.go {W W1 : World} {n m : Nat} {P : World → Prop} (h : Off W n m P) (hs : W.heap.size ≤ W1.heap.size) (hg : ∀ j, j < W.heap.size → (j < n ∨ m ≤ j) → W1.heap[j]? = W.heap[j]?) : Off W1 n m P := fun W' hs' hg' => h W' (Nat.le_trans hs hs') fun j hj h1 => (hg' j (Nat.lt_of_lt_of_le hj hs) h1).trans (hg j hj h1)
theorem Off.tr {W W1 : World} {n m : Nat} {P : World → Prop} (h : Off W n m P) (hb : Below W.heap.size W W1) : Off W1 n m P := h.go hb.size fun j hj _ => hb.block j hj
theorem Off.set {W : World} {n m : Nat} {P : World → Prop} (h : Off W n m P) {p : Addr} (h1 : n ≤ p.block) (h2 : p.block < m) (u : Value) : Off (W.setCell p u) n m P := h.go (by simp [World.setCell]) fun j hj h3 => Below.heap_setCell W p u j (by omega)
theorem Off.setC {n m : Nat} {P : World → Prop} : ∀ {L : List (Nat × Value)} {W : World} {b : Nat}, Off W n m P → n ≤ b → b < m → Off (rh.setC W b L) n m P
  | [], _, _, h, _, _ => h
  | q :: L, _, _, h, e, f => Off.setC (L := L) (Off.set h (p := ⟨_, q.1, none⟩) e f q.2) e f
theorem Off.imp {W : World} {n m : Nat} {P Q : World → Prop} (h : Off W n m P) (k : ∀ W, P W → Q W) : Off W n m Q := fun W' hs hg => k _ (h W' hs hg)
theorem Off.and {W : World} {n m : Nat} {P Q : World → Prop} (h : Off W n m P) (k : Off W n m Q) : Off W n m fun W => P W ∧ Q W := fun W' hs hg => ⟨h W' hs hg, k W' hs hg⟩
theorem rin_blk {α : Type} {k : Nat} {en : α → List Value} {W w : World} {v : Value} {zs : List α} (h : RIn k en W v zs) (hs : W.heap.size ≤ w.heap.size) (hg : ∀ j, j < W.heap.size → w.heap[j]? = W.heap[j]?) : RIn k en w v zs := by
  obtain ⟨ad, b, off, cap, e, h1, h2, h3, h4, h5, h6⟩ := h.form
  subst e
  rcases Nat.eq_zero_or_pos zs.length with hz | hz
  · have : zs = [] := List.eq_nil_of_length_eq_zero hz
    subst this
    exact RIn.mk (ad := ad) (b := 0) (off := 0) (cap := cap) rfl (fun h => by simp at h) h2 (Nat.zero_le _) h4 (fun h => by simp at h) (fun i j x y hx => by simp at hx)
  · have e := h1 hz
    subst e
    refine RIn.mk (ad := some ⟨b, off, none⟩) (b := b) (off := off) (cap := cap) rfl (fun _ => rfl) h2 h3 h4 (fun h => Nat.lt_of_lt_of_le (h5 h) hs) fun i j x y hx hy => ?_
    rw [cell_block (hg b (h5 hz))]
    exact h6.at hx j y hy
theorem FIn.blk {W w : World} {x : Rh} {c : Bool} {h : Hp} {v : Hv} {gs qs hs os : Sl} (a : FIn W x c h v gs qs hs os) (hz : W.heap.size ≤ w.heap.size) (hg : ∀ j, j < W.heap.size → w.heap[j]? = W.heap[j]?) : FIn w x c h v gs qs hs os := by
  obtain ⟨⟨b1, b2, b3, b4, b5⟩, ⟨vs, n1, n2, n3⟩, a3, a4, a5, a6, a7, a8⟩ := a
  exact ⟨⟨b1, b2, b3, rin_blk b4 hz hg, rin_blk b5 hz hg⟩, ⟨vs, n1, rin_blk n2 hz hg, fun i a b ha hb => ⟨rin_blk (n3 i a b ha hb).1 hz hg, rin_blk (n3 i a b ha hb).2 hz hg⟩⟩, rin_blk a3 hz hg, rin_blk a4 hz hg, rin_blk a5 hz hg, rin_blk a6 hz hg, rin_blk a7 hz hg, a8⟩
theorem own_off {α : Type} {k : Nat} {en : α → List Value} (hk : ∀ x : α, (en x).length = k) {T : TypeId} {W : World} {B n m : Nat} {v : Value} {zs : List α} (h : OwnR T k en W B v zs) (hB : m ≤ B) : Off W n m fun W' => RIn k en W' v zs := fun W' hs hg => by
  obtain ⟨ad, cap, rfl, h1, h2, h3, h4⟩ := h.form hk
  rcases Nat.eq_zero_or_pos zs.length with hz | hz
  · have : zs = [] := List.eq_nil_of_length_eq_zero hz
    subst this
    exact RIn.mk (ad := ad) (b := 0) (off := 0) (cap := cap) rfl (fun h => by simp at h) h3 (Nat.zero_le _) h2 (fun h => by simp at h) (fun i j x y hx => by simp at hx)
  · obtain ⟨b, rfl, h5, h6, h7⟩ := h4 hz
    refine RIn.mk (ad := some ⟨b, 0, none⟩) (b := b) (off := 0) (cap := cap) rfl (fun _ => rfl) h3 h1 h2 (fun _ => by omega) fun i j x y hx hy => ?_
    rw [cell_block (hg b h6 (.inr (by omega))), Nat.zero_add]
    exact h7 i j x y hx hy
/-- What holds whatever becomes of the first blocks, and of those of a call. -/
theorem off2 {W w : World} {n0 m : Nat} {P : World → Prop} (a : Off W 0 n0 P) (hb : Below W.heap.size W w) : Off w W.heap.size m fun W => Off W 0 n0 P := fun W1 h1 h2 W2 h3 h4 => a W2 (Nat.le_trans hb.size (Nat.le_trans h1 h3)) fun j hj hj2 => by
  have hjw : j < w.heap.size := Nat.lt_of_lt_of_le hj hb.size
  rw [h4 j (Nat.lt_of_lt_of_le hjw h1) hj2, h2 j hjw (.inl hj), hb.block j hj]
theorem own_off2 {α : Type} {k : Nat} {en : α → List Value} (hk : ∀ x : α, (en x).length = k) {T : TypeId} {W : World} {B n m n0 : Nat} {v : Value} {zs : List α} (h : OwnR T k en W B v zs) (hB : m ≤ B) (h0 : n0 ≤ B) : Off W n m fun W' => Off W' 0 n0 fun W' => RIn k en W' v zs := fun W1 h1 h2 W2 h3 h4 =>
  own_off hk (n := 0) (m := B) h (Nat.le_refl _) W2 (Nat.le_trans h1 h3) fun j hj hj2 => by
    have hjB : B ≤ j := by omega
    rw [h4 j (Nat.lt_of_lt_of_le hj h1) (.inr (by omega)), h2 j hj (.inr (by omega))]
theorem zv_off {W : World} {b n n0 : Nat} (h : Blk W b (zerosU n) 24) (hn : n < 1000) (hb : n0 ≤ b) : Off W 0 n0 fun W => RIn 1 enU W (.slice (some ⟨b, 0, none⟩) n n) (List.replicate n 0) := fun W' h1 h2 => zv_rin (Blk.of ((h2 b h.lt (.inr hb)).trans h.raw)) hn
theorem safe_off {W : World} {g n0 : Nat} {P : World → Prop} (h : Safe W g none P) (hg : n0 ≤ g + 1) : Off W 0 n0 P := fun W' h1 h2 => h W' h1 fun j hj hj2 _ => h2 j hj (.inr (by omega))
end Go.Proofs.YtpgjploaliefdaaGreat.rh
