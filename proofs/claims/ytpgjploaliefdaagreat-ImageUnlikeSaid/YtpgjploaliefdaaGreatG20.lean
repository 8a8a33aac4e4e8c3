/- Layer 11's raw heaps: a part's words that are laid over others; the document's Part and With. No conditions. -/
import Derived.Test.YtpgjploaliefdaaGreatG19
import Derived.Test.YtpgjploaliefdaaGreatMqa
import Derived.Test.YtpgjploaliefdaaGreatTk
import Derived.Deep.QuietTactic
import Derived.BigQuiet
namespace Go.Proofs.YtpgjploaliefdaaGreat.rh
open Go Go.RowKit hp ob hd cp ck gr lx
set_option linter.unusedVariables false
set_option linter.unusedSimpArgs false
set_option maxRecDepth 100000
set_option maxHeartbeats 4000000
theorem step_call {P : Program} {ops : Array Oper} {Q : Exit → Act → World → Prop} {K : Act → World → Prop} {o : Oper} {a : Act} {w : World} {E : Prop} {f : FuncId} {args : Array Value} {R : Ending → World → Prop} (hg : o.guard = none)
  (hr : (execOp a.eval o).run P w = .ok (.enter f args) w) (hc : Calls P f args w R) (h : ∀ e w', R e w' → ∃ v, e = .returned v ∧ K (a.put o.dst v) w') : if Region.wanted o (yielded ops a.tmps) = true then Oper.wp P o a w K Q else E := by
 rw [if_pos (by simp [Region.wanted, hg])]
 unfold Oper.wp
 rw [hr]
 show Calls P f args w _
 refine Calls.mono hc ?_
 intro e w' hR
 obtain ⟨v, rfl, hk⟩ := h e w' hR
 exact hk
def ovl (l : List Int) (a : Nat) (ws : List Int) : List Int := l.take a ++ ws ++ l.drop (a + ws.length)
theorem ovl_len {l : List Int} {a : Nat} {ws : List Int} (h : a + ws.length ≤ l.length) : (ovl l a ws).length = l.length := by
 unfold ovl
 simp only [List.length_append, List.length_take, List.length_drop]
 omega
theorem ovl_one {l : List Int} {a : Nat} (h : a < l.length) (y : Int) : l.set a y = ovl l a [y] := by
 unfold ovl
 rw [List.set_eq_take_append_cons_drop, if_pos h]
 simp
theorem ovl_snoc {l : List Int} {a n : Nat} {ws : List Int} (hn : n = a + ws.length) (h : n < l.length) (y : Int) : (ovl l a ws).set n y = ovl l a (ws ++ [y]) := by
 subst hn
 have h1 : (l.take a ++ ws).length = a + ws.length := by simp; omega
 unfold ovl
 rw [List.set_append_right _ _ (by omega), h1, Nat.sub_self, ← List.append_assoc, List.append_assoc (l.take a ++ ws)]
 congr 1
 rw [List.drop_eq_getElem_cons h]
 simp [Nat.add_assoc]
theorem own_set {W : World} {B g l c k : Nat} {zs : List Int} (h : OwnR 24 1 enU W B (.slice (some ⟨g, 0, none⟩) l c) zs) (x : Int) : OwnR 24 1 enU (W.setCell ⟨g, k, none⟩ (.int .u64 x)) B (.slice (some ⟨g, 0, none⟩) l c) (zs.set k x) := by
 have em : ∀ l : List Int, l.flatMap enU = l.map (fun n => Value.int .u64 n) := fun l => by
  induction l with
  | nil => rfl
  | cons a l ih => rw [List.flatMap_cons, ih]; rfl
 unfold OwnR at h ⊢
 rw [em] at h ⊢
 rcases h.2 with ⟨h0, _⟩ | ⟨g', cap, cur, h0, h1, h2, h3, h4, h5, h6⟩
 ·cases h0
 ·cases h0
  have hB : Blk W g cur 24 := Blk.of h2
  refine ⟨by simp, .inr ⟨g, c, cur.setIfInBounds k (.int .u64 x), by simp, h1, (hB.set k (.int .u64 x)).raw, by simpa using h3, h4, by simpa using h5, ?_⟩⟩
  rw [List.map_set, ← h6]
  simp [List.take_set]
theorem own_blk {W : World} {B : Nat} {v : Value} {zs : List Int} (h : OwnR 24 1 enU W B v zs) (h0 : 0 < zs.length) : ∃ g c, v = .slice (some ⟨g, 0, none⟩) zs.length c ∧ B ≤ g ∧ g < W.heap.size ∧ zs.length ≤ c ∧ (∀ i, W.frozen? ⟨g, i, none⟩ = false) := by
 have h' := h
 unfold OwnR at h'
 rcases h'.2 with ⟨rfl, h1⟩ | ⟨g, cap, cur, rfl, h1, h2, h3, h4, h5, h6⟩
 ·omega
 ·have hB : Blk W g cur 24 := Blk.of h2
  obtain ⟨lg, cg, fg⟩ := hB.get
  exact ⟨g, cap, rfl, h1, lg, h3, fg⟩
theorem own_frozen {W : World} {B g n c : Nat} {zs : List Int} (h : OwnR 24 1 enU W B (.slice (some ⟨g, 0, none⟩) n c) zs) (i : Nat) : W.frozen? ⟨g, i, none⟩ = false := by
 have h' := h
 unfold OwnR at h'
 rcases h'.2 with ⟨h0, h1⟩ | ⟨g', cap, cur, h0, h1, h2, h3, h4, h5, h6⟩
 ·cases h0
 ·cases h0
  have hB : Blk W g cur 24 := Blk.of h2
  exact hB.get.2.2 i
theorem own_cell {W : World} {B g n c k : Nat} {zs : List Int} (h : OwnR 24 1 enU W B (.slice (some ⟨g, 0, none⟩) n c) zs) (hk : k < zs.length) : ∃ y, W.cell? ⟨g, k, none⟩ = some (.int .u64 y) := by
 obtain ⟨ad, cap, e, _, _, _, h4⟩ := h.form enU_len
 obtain ⟨g', e2, _, _, h5⟩ := h4 (by omega)
 subst e2
 cases e
 refine ⟨zs[k], ?_⟩
 have := h5 k 0 zs[k] (.int .u64 zs[k]) (List.getElem?_eq_getElem hk) rfl
 rwa [Nat.mul_one, Nat.add_zero] at this
def setV (v : Hv) (p : Nat) (u : Value) : Hv := if p = 1 then { v with l := u } else if p = 2 then { v with h := u } else if p = 3 then { v with o := u } else { v with f := u }
def setH (h : Hp) (p : Nat) (u : List Int) : Hp := if p = 1 then { h with low := u } else if p = 2 then { h with high := u } else if p = 3 then { h with old := u } else { h with far := u }
def SF (v : Hv) : Prop := (∃ a n c, v.l = .slice a n c) ∧ (∃ a n c, v.h = .slice a n c) ∧ (∃ a n c, v.o = .slice a n c) ∧ (∃ a n c, v.f = .slice a n c) ∧ (∃ a n c, v.r = .slice a n c)
theorem HF.sf {h : Hp} {v : Hv} (a : HF h v) : SF v := by
 obtain ⟨⟨_, _, e1⟩, ⟨_, _, e2⟩, ⟨_, _, e3⟩, ⟨_, _, e4⟩, ⟨_, _, _, e5⟩⟩ := a
 exact ⟨⟨_, _, _, e1⟩, ⟨_, _, _, e2⟩, ⟨_, _, _, e3⟩, ⟨_, _, _, e4⟩, ⟨_, _, _, e5⟩⟩
structure FIn (W : World) (x : Rh) (c : Bool) (h : Hp) (v : Hv) (gs qs hs os : Sl) : Prop where
 bin : BIn W x c h v gs qs hs os
 nodes : NodesIn W (slV gs) (gNodes x)
 roots : RIn 1 enI W (slV qs) (gRoots x)
 l : RIn 1 enU W v.l h.low
 hi : RIn 1 enU W v.h h.high
 o : RIn 1 enU W v.o h.old
 f : RIn 1 enU W v.f h.far
 r : v.r = .slice none 0 0
theorem FIn.tr {W w : World} {x : Rh} {c : Bool} {h : Hp} {v : Hv} {gs qs hs os : Sl} (a : FIn W x c h v gs qs hs os) (hb : Below W.heap.size W w) : FIn w x c h v gs qs hs os := ⟨a.bin.tr hb, a.nodes.tr hb, a.roots.tr hb, a.l.tr hb, a.hi.tr hb, a.o.tr hb, a.f.tr hb, a.r⟩
def standH (x : Rh) (c : Bool) : Hp := ⟨(layL x c).base, (layL x c).cap, (layL x c).tt, c, scanN x c, List.replicate (hof x c 1 (nN x)) 0, List.replicate (hof x c 2 (nN x)) 0, List.replicate (oof x c 3 (nN x)) 0, List.replicate (oof x c 4 (nN x)) 0, []⟩
theorem standH_lay (x : Rh) (c : Bool) : (standH x c).lay = layL x c := by
 unfold standH Hp.lay layL
 simp only [List.length_replicate]
theorem zv_rin {W : World} {b n : Nat} (h : Blk W b (zerosU n) 24) (hn : n < 1000) : RIn 1 enU W (.slice (some ⟨b, 0, none⟩) n n) (List.replicate n 0) := by
 obtain ⟨lb, cb, _⟩ := h.get
 refine RIn.mk (ad := some ⟨b, 0, none⟩) (b := b) (off := 0) (cap := n) (by rw [List.length_replicate]) (fun _ => rfl) (fun e => by cases e) (by rw [List.length_replicate]; exact Nat.le_refl _) (by omega) (fun _ => lb) fun i j y z hy hz => ?_
 have hi : i < n := by
  rcases Nat.lt_or_ge i n with h | h
  ·exact h
  ·rw [List.getElem?_eq_none (by simpa using h)] at hy; cases hy
 have hj : j = 0 := by
  rcases j with _ | j
  ·rfl
  ·simp [enU] at hz
 subst hj
 rw [List.getElem?_replicate, if_pos hi] at hy
 cases hy
 have hz : Value.int .u64 0 = z := by simpa [enU] using hz
 rw [Nat.zero_add, Nat.mul_one, Nat.add_zero, cb, made_u n i hi, hz]
theorem part10_any (h : Hp) (v : Hv) (p : Nat) (hp : 1 ≤ p ∧ p ≤ 4) (w : World) (hf : SF v) :
  Calls Tryz.prog 24 #[hpV h v, .int .i64 p] w fun e w' => e = .returned (v.part p) ∧ Below w.heap.size w w' := by
 obtain ⟨vl, vh, vo, vf, vr⟩ := v
 obtain ⟨⟨la, ln, lc, e1⟩, ⟨ha, hn, hc, e2⟩, ⟨oa, on_, oc, e3⟩, ⟨fa, fn, fc, e4⟩, ⟨ra, rn, rc, e5⟩⟩ := hf
 dsimp only at e1 e2 e3 e4 e5
 subst e1 e2 e3 e4 e5
 unfold hpV
 dsimp only
 rcases (show p = 1 ∨ p = 2 ∨ p = 3 ∨ p = 4 by omega) with rfl | rfl | rfl | rfl
 all_goals
  go_enter Tryz.func24, Tryz.ntmps24
  go_wp2_with fail
  go_ret
  refine ⟨rfl, ?_⟩
  exact bm
theorem with10_any (hh : Hp) (v : Hv) (p : Nat) (hp : 1 ≤ p ∧ p ≤ 4) (ua : Option Addr) (un uc : Nat) (w : World) (hf : SF v) :
  Calls Tryz.prog 25 #[hpV hh v, .int .i64 p, .slice ua un uc] w fun e w' => e = .returned (hpV hh (setV v p (.slice ua un uc))) ∧ Below w.heap.size w w' := by
 obtain ⟨vl, vh, vo, vf, vr⟩ := v
 obtain ⟨⟨la, ln, lc, e1⟩, ⟨ha, hn, hc, e2⟩, ⟨oa, on_, oc, e3⟩, ⟨fa, fn, fc, e4⟩, ⟨ra, rn, rc, e5⟩⟩ := hf
 dsimp only at e1 e2 e3 e4 e5
 subst e1 e2 e3 e4 e5
 rcases (show p = 1 ∨ p = 2 ∨ p = 3 ∨ p = 4 by omega) with rfl | rfl | rfl | rfl
 all_goals
  unfold hpV setV
  dsimp only
  go_enter Tryz.func25, Tryz.ntmps25
  go_wp2_with fail
 ·refine bodyPost_ret (v := .agg #[.int .u64 hh.base, .int .i64 hh.cap, .int .i64 hh.tt, .bool hh.cyc, .int .i64 hh.scan, .slice ua un uc, .slice ha hn hc, .slice oa on_ oc, .slice fa fn fc, .slice ra rn rc]) (by simp only [results, Tryz.results25]; go_simp) rfl ⟨rfl, ?_⟩
  exact bm
 ·refine bodyPost_ret (v := .agg #[.int .u64 hh.base, .int .i64 hh.cap, .int .i64 hh.tt, .bool hh.cyc, .int .i64 hh.scan, .slice la ln lc, .slice ua un uc, .slice oa on_ oc, .slice fa fn fc, .slice ra rn rc]) (by simp only [results, Tryz.results25]; go_simp) rfl ⟨rfl, ?_⟩
  exact bm
 ·refine bodyPost_ret (v := .agg #[.int .u64 hh.base, .int .i64 hh.cap, .int .i64 hh.tt, .bool hh.cyc, .int .i64 hh.scan, .slice la ln lc, .slice ha hn hc, .slice ua un uc, .slice fa fn fc, .slice ra rn rc]) (by simp only [results, Tryz.results25]; go_simp) rfl ⟨rfl, ?_⟩
  exact bm
 ·refine bodyPost_ret (v := .agg #[.int .u64 hh.base, .int .i64 hh.cap, .int .i64 hh.tt, .bool hh.cyc, .int .i64 hh.scan, .slice la ln lc, .slice ha hn hc, .slice oa on_ oc, .slice ua un uc, .slice ra rn rc]) (by simp only [results, Tryz.results25]; go_simp) rfl ⟨rfl, ?_⟩
  exact bm
theorem slotsV_snoc (x : Rh) (c : Bool) (p a : Nat) (tw : Int) : ∀ (l : List Int) (k : Nat) (t : Int), slotsV x c p a tw k (l ++ [t]) = slotsV x c p a tw k l ++ [slotV x c p (a + 1 + (k + l.length)) t (wr (tw + ((k + l.length : Nat) : Int)))]
 | [], k, t => by simp [slotsV]
 | s :: l, k, t => by
  simp only [List.cons_append, slotsV]
  rw [slotsV_snoc x c p a tw l (k + 1) t, show k + 1 + l.length = k + (s :: l).length by simp; omega]
end Go.Proofs.YtpgjploaliefdaaGreat.rh
namespace Go.Proofs.YtpgjploaliefdaaGreat.rh
open Go Go.RowKit hp ob hd cp ck gr lx
set_option linter.unusedVariables false
set_option linter.unusedSimpArgs false
def ZW (B : Nat) (W : World) (n : Nat) (v : Value) : Prop := ∃ b, v = .slice (some ⟨b, 0, none⟩) n n ∧ Blk W b (zerosU n) 24 ∧ B ≤ b
theorem ZW.tr {B : Nat} {W w : World} {n : Nat} {v : Value} (h : ZW B W n v) (hb : Below W.heap.size W w) : ZW B w n v := by
 obtain ⟨b, e, k, l⟩ := h
 exact ⟨b, e, k.tr hb, l⟩
def Off (W : World) (n m : Nat) (P : World → Prop) : Prop := ∀ W' : World, W.heap.size ≤ W'.heap.size → (∀ j, j < W.heap.size → (j < n ∨ m ≤ j) → W'.heap[j]? = W.heap[j]?) → P W'
theorem Off.now {W : World} {n m : Nat} {P : World → Prop} (h : Off W n m P) : P W := h W (Nat.le_refl _) fun _ _ _ => rfl
theorem Off.go {W W1 : World} {n m : Nat} {P : World → Prop} (h : Off W n m P) (hs : W.heap.size ≤ W1.heap.size) (hg : ∀ j, j < W.heap.size → (j < n ∨ m ≤ j) → W1.heap[j]? = W.heap[j]?) : Off W1 n m P := fun W' hs' hg' => h W' (Nat.le_trans hs hs') fun j hj h1 => (hg' j (Nat.lt_of_lt_of_le hj hs) h1).trans (hg j hj h1)
theorem Off.tr {W W1 : World} {n m : Nat} {P : World → Prop} (h : Off W n m P) (hb : Below W.heap.size W W1) : Off W1 n m P := h.go hb.size fun j hj _ => hb.block j hj
theorem Off.set {W : World} {n m : Nat} {P : World → Prop} (h : Off W n m P) {p : Addr} (h1 : n ≤ p.block) (h2 : p.block < m) (u : Value) : Off (W.setCell p u) n m P := h.go (by simp [World.setCell]) fun j hj h3 => Below.heap_setCell W p u j (by omega)
theorem Off.setC {n m : Nat} {P : World → Prop} : ∀ {L : List (Nat × Value)} {W : World} {b : Nat}, Off W n m P → n ≤ b → b < m → Off (rh.setC W b L) n m P
 | [], _, _, h, _, _ => h
 | q :: L, _, _, h, e, f => Off.setC (L := L) (Off.set h (p := ⟨_, q.1, none⟩) e f q.2) e f
theorem Off.imp {W : World} {n m : Nat} {P Q : World → Prop} (h : Off W n m P) (k : ∀ W, P W → Q W) : Off W n m Q := fun W' hs hg => k _ (h W' hs hg)
theorem Off.and {W : World} {n m : Nat} {P Q : World → Prop} (h : Off W n m P) (k : Off W n m Q) : Off W n m fun W => P W ∧ Q W := fun W' hs hg => ⟨h W' hs hg, k W' hs hg⟩
theorem rin_blk {α : Type} {k : Nat} {en : α → List Value} {W w : World} {v : Value} {zs : List α} (h : RIn k en W v zs) (hs : W.heap.size ≤ w.heap.size) (hg : ∀ j, j < W.heap.size → w.heap[j]? = W.heap[j]?) : RIn k en w v zs := by
 obtain ⟨ad, b, off, cap, e, h1, h2, h3, h4, h5, h6⟩ := h.form
 subst e
 rcases Nat.eq_zero_or_pos zs.length with hz | hz
 ·have : zs = [] := List.eq_nil_of_length_eq_zero hz
  subst this
  exact RIn.mk (ad := ad) (b := 0) (off := 0) (cap := cap) rfl (fun h => by simp at h) h2 (Nat.zero_le _) h4 (fun h => by simp at h) (fun i j x y hx => by simp at hx)
 ·have e := h1 hz
  subst e
  refine RIn.mk (ad := some ⟨b, off, none⟩) (b := b) (off := off) (cap := cap) rfl (fun _ => rfl) h2 h3 h4 (fun h => Nat.lt_of_lt_of_le (h5 h) hs) fun i j x y hx hy => ?_
  rw [cell_block (hg b (h5 hz))]
  exact h6.at hx j y hy
theorem FIn.blk {W w : World} {x : Rh} {c : Bool} {h : Hp} {v : Hv} {gs qs hs os : Sl} (a : FIn W x c h v gs qs hs os) (hz : W.heap.size ≤ w.heap.size) (hg : ∀ j, j < W.heap.size → w.heap[j]? = W.heap[j]?) : FIn w x c h v gs qs hs os := by
 obtain ⟨⟨b1, b2, b3, b4, b5⟩, ⟨vs, n1, n2, n3⟩, a3, a4, a5, a6, a7, a8⟩ := a
 exact ⟨⟨b1, b2, b3, rin_blk b4 hz hg, rin_blk b5 hz hg⟩, ⟨vs, n1, rin_blk n2 hz hg, fun i a b ha hb => ⟨rin_blk (n3 i a b ha hb).1 hz hg, rin_blk (n3 i a b ha hb).2 hz hg⟩⟩, rin_blk a3 hz hg, rin_blk a4 hz hg, rin_blk a5 hz hg, rin_blk a6 hz hg, rin_blk a7 hz hg, a8⟩
theorem own_off {α : Type} {k : Nat} {en : α → List Value} (hk : ∀ x : α, (en x).length = k) {T : TypeId} {W : World} {B n m : Nat} {v : Value} {zs : List α} (h : OwnR T k en W B v zs) (hB : m ≤ B) : Off W n m fun W' => RIn k en W' v zs := fun W' hs hg => by
 obtain ⟨ad, cap, rfl, h1, h2, h3, h4⟩ := h.form hk
 rcases Nat.eq_zero_or_pos zs.length with hz | hz
 ·have : zs = [] := List.eq_nil_of_length_eq_zero hz
  subst this
  exact RIn.mk (ad := ad) (b := 0) (off := 0) (cap := cap) rfl (fun h => by simp at h) h3 (Nat.zero_le _) h2 (fun h => by simp at h) (fun i j x y hx => by simp at hx)
 ·obtain ⟨b, rfl, h5, h6, h7⟩ := h4 hz
  refine RIn.mk (ad := some ⟨b, 0, none⟩) (b := b) (off := 0) (cap := cap) rfl (fun _ => rfl) h3 h1 h2 (fun _ => by omega) fun i j x y hx hy => ?_
  rw [cell_block (hg b h6 (.inr (by omega))), Nat.zero_add]
  exact h7 i j x y hx hy
theorem off2 {W w : World} {n0 m : Nat} {P : World → Prop} (a : Off W 0 n0 P) (hb : Below W.heap.size W w) : Off w W.heap.size m fun W => Off W 0 n0 P := fun W1 h1 h2 W2 h3 h4 => a W2 (Nat.le_trans hb.size (Nat.le_trans h1 h3)) fun j hj hj2 => by
 have hjw : j < w.heap.size := Nat.lt_of_lt_of_le hj hb.size
 rw [h4 j (Nat.lt_of_lt_of_le hjw h1) hj2, h2 j hjw (.inl hj), hb.block j hj]
theorem own_off2 {α : Type} {k : Nat} {en : α → List Value} (hk : ∀ x : α, (en x).length = k) {T : TypeId} {W : World} {B n m n0 : Nat} {v : Value} {zs : List α} (h : OwnR T k en W B v zs) (hB : m ≤ B) (h0 : n0 ≤ B) : Off W n m fun W' => Off W' 0 n0 fun W' => RIn k en W' v zs := fun W1 h1 h2 W2 h3 h4 =>
 own_off hk (n := 0) (m := B) h (Nat.le_refl _) W2 (Nat.le_trans h1 h3) fun j hj hj2 => by
  have hjB : B ≤ j := by omega
  rw [h4 j (Nat.lt_of_lt_of_le hj h1) (.inr (by omega)), h2 j hj (.inr (by omega))]
theorem zv_off {W : World} {b n n0 : Nat} (h : Blk W b (zerosU n) 24) (hn : n < 1000) (hb : n0 ≤ b) : Off W 0 n0 fun W => RIn 1 enU W (.slice (some ⟨b, 0, none⟩) n n) (List.replicate n 0) := fun W' h1 h2 => zv_rin (Blk.of ((h2 b h.lt (.inr hb)).trans h.raw)) hn
theorem safe_off {W : World} {g n0 : Nat} {P : World → Prop} (h : Safe W g none P) (hg : n0 ≤ g + 1) : Off W 0 n0 P := fun W' h1 h2 => h W' h1 fun j hj hj2 _ => h2 j hj (.inr (by omega))
end Go.Proofs.YtpgjploaliefdaaGreat.rh
namespace Go.Proofs.YtpgjploaliefdaaGreat.rh
open Go Go.RowKit hp ob hd cp ck gr lx
set_option linter.unusedVariables false
set_option linter.unusedSimpArgs false
set_option maxRecDepth 100000
set_option maxHeartbeats 4000000
theorem nums01_any (v u : Value) (xs ys : List Int) (w : World) (hx : RIn 1 enU w v xs) (hy : RIn 1 enU w u ys) (hl : xs.length < 1000000000000) :
  Calls Tryz.prog 55 #[v, u] w fun e w' => e = .returned (.bool (decide (xs = ys))) ∧ Below w.heap.size w w' := by
 obtain ⟨xa, xb, xo, xc, rfl, x1, x2, x3, x4, x5, x6⟩ := hx.form
 obtain ⟨ya, yb, yo, yc, rfl, y1, y2, y3, y4, y5, y6⟩ := hy.form
 have HX := Lib.hid x6
 have HY := Lib.hid y6
 clear x6 y6 hx hy x2 y2
 by_cases he : xs.length = ys.length
 ·obtain ⟨n, hn⟩ : ∃ n, xs.length = n := ⟨_, rfl⟩
  have hm : ys.length = n := he.symm.trans hn
  rw [hn] at hl x1 x3 x5 HX
  rw [hm] at y1 y3 y5 HY
  rw [hn, hm]
  have HN := Lib.hid hn
  have HM := Lib.hid hm
  clear he hn hm
  go_enter Tryz.func55, Tryz.ntmps55
  go_wp2_with fail
  go_loopw [5] (fun i wr => ∃ k : Nat, k ≤ n ∧ i = .int .i64 k ∧ Hid (xs.take k = ys.take k) ∧ Below w.heap.size w wr) (fun i _ => n - (intOf i).toNat)
  case atStart => exact ⟨0, Nat.zero_le _, rfl, Lib.hid rfl, Below.refl _ _⟩
  case round =>
   obtain ⟨k, hk, rfl, ht, bel⟩ := hrel
   by_cases hlt : k < n
   ·obtain rfl := x1 (by omega)
    obtain rfl := y1 (by omega)
    have hkx : k < xs.length := by rw [HN.out]; exact hlt
    have hky : k < ys.length := by rw [HM.out]; exact hlt
    have c1 := cell_tr bel (HX.out.at (i := k) (List.getElem?_eq_getElem hkx) 0 (.int .u64 xs[k]) rfl)
    have c2 := cell_tr bel (HY.out.at (i := k) (List.getElem?_eq_getElem hky) 0 (.int .u64 ys[k]) rfl)
    rw [Nat.mul_one, Nat.add_zero] at c1 c2
    have hs := bel.size
    have b1 := x5 (by omega)
    have b2 := y5 (by omega)
    have HS : Hid (xs[k] = ys[k] → xs.take (k + 1) = ys.take (k + 1)) := Lib.hid fun e => by rw [List.take_succ_eq_append_getElem hkx, List.take_succ_eq_append_getElem hky, ht.out, e]
    have HD : Hid (¬ xs[k] = ys[k] → decide (xs = ys) = false) := Lib.hid fun e => decide_eq_false fun q => e (by subst q; rfl)
    generalize xs[k] = X at *
    generalize ys[k] = Y at *
    clear hkx hky
    by_cases hXY : X = Y
    ·have HT := Lib.hid (HS.out hXY)
     subst hXY
     go_upto_region 6 with (fail)
     go_quiet (fail)
     go_wp2_with fail
     exact ⟨⟨k + 1, by omega, by go_num, HT, by exact bm⟩, by simp [intOf]; omega⟩
    ·have HF := Lib.hid (HD.out hXY)
     go_upto_region 6 with (fail)
     go_quiet (fail)
     go_wp2_with fail
     go_ret
     refine ⟨by rw [HF.out]; rfl, ?_⟩
     exact bm
   ·have HF : Hid (decide (xs = ys) = true) := Lib.hid (decide_eq_true (by
     have := ht.out
     rwa [List.take_of_length_le (by rw [HN.out]; omega), List.take_of_length_le (by rw [HM.out]; omega)] at this))
    go_wp2_with fail
    go_ret
    refine ⟨by rw [HF.out]; rfl, ?_⟩
    exact bm
 ·have HF : Hid (decide (xs = ys) = false) := Lib.hid (decide_eq_false fun e => he (by rw [e]))
  have hne : ¬ ((xs.length : Int) = (ys.length : Int)) := by omega
  go_enter Tryz.func55, Tryz.ntmps55
  go_wp2_with fail
  go_ret
  exact ⟨by rw [HF.out]; rfl, Below.refl _ _⟩
theorem hin_lit {W : World} {h : Hp} {v : Hv} (a : HIn W h v) : ∃ la lc ha hc oa oc fa fc ra rc, v = ⟨.slice la h.low.length lc, .slice ha h.high.length hc, .slice oa h.old.length oc, .slice fa h.far.length fc, .slice ra h.roots.length rc⟩ := by
 obtain ⟨vl, vh, vo, vf, vr⟩ := v
 obtain ⟨_, _, _, _, h1, h2, h3, h4, h5, _, _, _, _, _⟩ := a
 obtain ⟨_, _, _, _, e1, _⟩ := (of_nums h1).form
 obtain ⟨_, _, _, _, e2, _⟩ := (of_nums h2).form
 obtain ⟨_, _, _, _, e3, _⟩ := (of_nums h3).form
 obtain ⟨_, _, _, _, e4, _⟩ := (of_nums h4).form
 obtain ⟨_, _, _, _, e5, _⟩ := (of_nums h5).form
 exact ⟨_, _, _, _, _, _, _, _, _, _, by rw [Hv.mk.injEq]; exact ⟨e1, e2, e3, e4, e5⟩⟩
def sameS (h h' : Hp) : Bool := decide (h.base = h'.base ∧ h.cap = h'.cap ∧ h.tt = h'.tt ∧ h.cyc = h'.cyc ∧ h.scan = h'.scan)
def sameH (h h' : Hp) : Bool := sameS h h' && (decide (h.low = h'.low) && (decide (h.high = h'.high) && (decide (h.old = h'.old) && (decide (h.far = h'.far) && decide (h.roots = h'.roots)))))
theorem same_iff (h h' : Hp) : sameH h h' = true ↔ h = h' := by
 unfold sameH sameS
 simp only [Bool.and_eq_true, decide_eq_true_eq]
 constructor
 ·rintro ⟨⟨h1, h2, h3, h4, h5⟩, h6, h7, h8, h9, h10⟩
  cases h
  cases h'
  simp only at h1 h2 h3 h4 h5 h6 h7 h8 h9 h10
  subst h1 h2 h3 h4 h5 h6 h7 h8 h9 h10
  rfl
 ·rintro rfl
  exact ⟨⟨rfl, rfl, rfl, rfl, rfl⟩, rfl, rfl, rfl, rfl, rfl⟩
theorem hin_SF {W : World} {h : Hp} {v : Hv} (a : HIn W h v) : SF v := by
 obtain ⟨la, lc, ha, hc, oa, oc, fa, fc, ra, rc, rfl⟩ := hin_lit a
 exact ⟨⟨_, _, _, rfl⟩, ⟨_, _, _, rfl⟩, ⟨_, _, _, rfl⟩, ⟨_, _, _, rfl⟩, ⟨_, _, _, rfl⟩⟩
theorem part_lt10 {W : World} {h : Hp} {v : Hv} (a : HIn W h v) (q : Nat) : (h.part q).length < 1000000000000 := nums_len (a.part q).1
theorem part_all {h h' : Hp} (k : ∀ j, 1 ≤ j → j < 5 → h.part j = h'.part j) : h.low = h'.low ∧ h.high = h'.high ∧ h.old = h'.old ∧ h.far = h'.far :=
 ⟨k 1 (by omega) (by omega), k 2 (by omega) (by omega), k 3 (by omega) (by omega), k 4 (by omega) (by omega)⟩
theorem part_no {h h' : Hp} {q : Nat} (hq : 1 ≤ q ∧ q ≤ 4) (k : ¬ h.part q = h'.part q) : sameH h h' = false := by
 cases e : sameH h h' with
 | false => rfl
 | true => exact absurd (congrArg (·.part q) ((same_iff h h').1 e)) k
theorem same_last {h h' : Hp} (hs : h.base = h'.base ∧ h.cap = h'.cap ∧ h.tt = h'.tt ∧ h.cyc = h'.cyc ∧ h.scan = h'.scan) (k : ∀ j, 1 ≤ j → j < 5 → h.part j = h'.part j) : decide (h.roots = h'.roots) = sameH h h' := by
 obtain ⟨k1, k2, k3, k4⟩ := part_all k
 unfold sameH sameS
 rw [decide_eq_true hs, decide_eq_true k1, decide_eq_true k2, decide_eq_true k3, decide_eq_true k4]
 rfl
theorem same10_eq (h h' : Hp) (v v' : Hv) (w : World) (hin : HIn w h v) (hin' : HIn w h' v') (hsc : h.base = h'.base ∧ h.cap = h'.cap ∧ h.tt = h'.tt ∧ h.cyc = h'.cyc ∧ h.scan = h'.scan) :
  Calls Tryz.prog 20 #[hpV h v, hpV h' v'] w fun e w' => e = .returned (.bool (sameH h h')) ∧ Below w.heap.size w w' := by
 have HP : Hid (∀ (W : World) (q : Nat), 1 ≤ q ∧ q ≤ 4 → Calls Tryz.prog 24 #[hpV h v, .int .i64 q] W fun e w' => e = .returned (v.part q) ∧ Below W.heap.size W w') := Lib.hid fun W q hq => part10_any h v q hq W (hin_SF hin)
 have HP' : Hid (∀ (W : World) (q : Nat), 1 ≤ q ∧ q ≤ 4 → Calls Tryz.prog 24 #[hpV h' v', .int .i64 q] W fun e w' => e = .returned (v'.part q) ∧ Below W.heap.size W w') := Lib.hid fun W q hq => part10_any h' v' q hq W (hin_SF hin')
 have HN : Hid (∀ (W : World) (q : Nat), 1 ≤ q ∧ q ≤ 4 → Below w.heap.size w W → Calls Tryz.prog 55 #[v.part q, v'.part q] W fun e w' => e = .returned (.bool (decide (h.part q = h'.part q))) ∧ Below W.heap.size W w') := Lib.hid fun W q hq hb => nums01_any _ _ _ _ W (of_nums ((hin.part q).1.tr hb)) (of_nums ((hin'.part q).1.tr hb)) (part_lt10 hin q)
 have HR : Hid (∀ (W : World), Below w.heap.size w W → Calls Tryz.prog 55 #[v.r, v'.r] W fun e w' => e = .returned (.bool (decide (h.roots = h'.roots))) ∧ Below W.heap.size W w') := Lib.hid fun W hb => nums01_any _ _ _ _ W (of_nums (hin.roots.tr hb)) (of_nums (hin'.roots.tr hb)) (nums_len hin.roots)
 have HL : Hid ((∀ j, 1 ≤ j → j < 5 → h.part j = h'.part j) → decide (h.roots = h'.roots) = sameH h h') := Lib.hid (same_last hsc)
 have HF : Hid (∀ q, 1 ≤ q ∧ q ≤ 4 → ¬ h.part q = h'.part q → sameH h h' = false) := Lib.hid fun q hq k => part_no hq k
 obtain ⟨la, lc, ha, hc, oa, oc, fa, fc, ra, rc, ev⟩ := hin_lit hin
 obtain ⟨la', lc', ha', hc', oa', oc', fa', fc', ra', rc', ev'⟩ := hin_lit hin'
 have er : v.r = .slice ra h.roots.length rc := by rw [ev]
 have er' : v'.r = .slice ra' h'.roots.length rc' := by rw [ev']
 rw [er, er'] at HR
 have eq1 : hpV h v = .agg #[.int .u64 h.base, .int .i64 h.cap, .int .i64 h.tt, .bool h.cyc, .int .i64 h.scan, .slice la h.low.length lc, .slice ha h.high.length hc, .slice oa h.old.length oc, .slice fa h.far.length fc, .slice ra h.roots.length rc] := by unfold hpV; rw [ev]
 have eq2 : hpV h' v' = .agg #[.int .u64 h'.base, .int .i64 h'.cap, .int .i64 h'.tt, .bool h'.cyc, .int .i64 h'.scan, .slice la' h'.low.length lc', .slice ha' h'.high.length hc', .slice oa' h'.old.length oc', .slice fa' h'.far.length fc', .slice ra' h'.roots.length rc'] := by unfold hpV; rw [ev']
 obtain ⟨s1, s2, s3, s4, s5⟩ := hsc
 rw [← s1, ← s2, ← s3, ← s4, ← s5] at eq2
 rw [eq1] at HP ⊢
 rw [eq2] at HP' ⊢
 clear eq1 eq2 s1 s2 s3 s4 s5 hin hin' er er' ev ev'
 generalize sameH h h' = D at *
 generalize decide (h.roots = h'.roots) = RB at *
 generalize h.base = B1 at *
 generalize h.cap = C1 at *
 generalize h.tt = T1 at *
 generalize h.cyc = Y1 at *
 generalize h.scan = S1 at *
 generalize h.low.length = m1 at *
 generalize h.high.length = m2 at *
 generalize h.old.length = m3 at *
 generalize h.far.length = m4 at *
 generalize h.roots.length = m5 at *
 generalize h'.low.length = n1 at *
 generalize h'.high.length = n2 at *
 generalize h'.old.length = n3 at *
 generalize h'.far.length = n4 at *
 generalize h'.roots.length = n5 at *
 go_enter Tryz.func20, Tryz.ntmps20
 go_upto_region 3 with (fail)
 have K1 : Blk ((w.alloc (.cells #[Value.int .u64 B1, .int .i64 C1, .int .i64 T1, .bool Y1, .int .i64 S1, .slice la m1 lc, .slice ha m2 hc, .slice oa m3 oc, .slice fa m4 fc, .slice ra m5 rc] 32)).alloc (.cells #[Value.int .u64 B1, .int .i64 C1, .int .i64 T1, .bool Y1, .int .i64 S1, .slice la' n1 lc', .slice ha' n2 hc', .slice oa' n3 oc', .slice fa' n4 fc', .slice ra' n5 rc'] 32)) w.heap.size #[Value.int .u64 B1, .int .i64 C1, .int .i64 T1, .bool Y1, .int .i64 S1, .slice la m1 lc, .slice ha m2 hc, .slice oa m3 oc, .slice fa m4 fc, .slice ra m5 rc] 32 := (Blk.new _ _ _).alloc _
 have K2 : Blk ((w.alloc (.cells #[Value.int .u64 B1, .int .i64 C1, .int .i64 T1, .bool Y1, .int .i64 S1, .slice la m1 lc, .slice ha m2 hc, .slice oa m3 oc, .slice fa m4 fc, .slice ra m5 rc] 32)).alloc (.cells #[Value.int .u64 B1, .int .i64 C1, .int .i64 T1, .bool Y1, .int .i64 S1, .slice la' n1 lc', .slice ha' n2 hc', .slice oa' n3 oc', .slice fa' n4 fc', .slice ra' n5 rc'] 32)) (w.heap.size + 1) #[Value.int .u64 B1, .int .i64 C1, .int .i64 T1, .bool Y1, .int .i64 S1, .slice la' n1 lc', .slice ha' n2 hc', .slice oa' n3 oc', .slice fa' n4 fc', .slice ra' n5 rc'] 32 := Blk.mk (by simp)
 have kW : Below w.heap.size w ((w.alloc (.cells #[Value.int .u64 B1, .int .i64 C1, .int .i64 T1, .bool Y1, .int .i64 S1, .slice la m1 lc, .slice ha m2 hc, .slice oa m3 oc, .slice fa m4 fc, .slice ra m5 rc] 32)).alloc (.cells #[Value.int .u64 B1, .int .i64 C1, .int .i64 T1, .bool Y1, .int .i64 S1, .slice la' n1 lc', .slice ha' n2 hc', .slice oa' n3 oc', .slice fa' n4 fc', .slice ra' n5 rc'] 32)) := by exact bm
 generalize (w.alloc (.cells #[Value.int .u64 B1, .int .i64 C1, .int .i64 T1, .bool Y1, .int .i64 S1, .slice la m1 lc, .slice ha m2 hc, .slice oa m3 oc, .slice fa m4 fc, .slice ra m5 rc] 32)).alloc (.cells #[Value.int .u64 B1, .int .i64 C1, .int .i64 T1, .bool Y1, .int .i64 S1, .slice la' n1 lc', .slice ha' n2 hc', .slice oa' n3 oc', .slice fa' n4 fc', .slice ra' n5 rc'] 32) = W0 at *
 have hK1 := Lib.hid K1
 have hK2 := Lib.hid K2
 clear K1 K2
 go_wp2_with fail
 go_loopw [5] (fun i wr => ∃ q : Nat, 1 ≤ q ∧ q ≤ 5 ∧ i = .int .i64 q ∧ Hid (∀ j, 1 ≤ j → j < q → h.part j = h'.part j) ∧ Below W0.heap.size W0 wr) (fun i _ => 5 - (intOf i).toNat)
 case atStart => exact ⟨1, by omega, by omega, rfl, Lib.hid (fun j a b => by omega), Below.refl _ _⟩
 case round =>
  obtain ⟨q, hq1, hq2, rfl, ht, bel⟩ := hrel
  have K1 := hK1.out.tr bel
  have K2 := hK2.out.tr bel
  obtain ⟨l1, d1, f1⟩ := K1.get
  obtain ⟨l2, d2, f2⟩ := K2.get
  by_cases hlt : q ≤ 4
  ·obtain ⟨DB, hDB⟩ : ∃ b, decide (h.part q = h'.part q) = b := ⟨_, rfl⟩
   have HNq := fun W (hb : Below w.heap.size w W) => HN.out W q ⟨hq1, hlt⟩ hb
   rw [hDB] at HNq
   replace HNq := Lib.hid HNq
   replace hDB := Lib.hid hDB
   go_upto_region 6 with (fail)
   have HKE : Hid (∀ W' : World, Below wr.heap.size wr W' → (∀ i, W'.cell? ⟨w.heap.size, i, none⟩ = #[Value.int .u64 B1, .int .i64 C1, .int .i64 T1, .bool Y1, .int .i64 S1, .slice la m1 lc, .slice ha m2 hc, .slice oa m3 oc, .slice fa m4 fc, .slice ra m5 rc][i]?) ∧ ∀ i, W'.cell? ⟨w.heap.size + 1, i, none⟩ = #[Value.int .u64 B1, .int .i64 C1, .int .i64 T1, .bool Y1, .int .i64 S1, .slice la' n1 lc', .slice ha' n2 hc', .slice oa' n3 oc', .slice fa' n4 fc', .slice ra' n5 rc'][i]?) := Lib.hid fun W' h => ⟨(K1.tr h).get.2.1, (K2.tr h).get.2.1⟩
   refine wp_region_held_drew (S := (fun w' => (∀ i, w'.cell? ⟨w.heap.size, i, none⟩ = #[Value.int .u64 B1, .int .i64 C1, .int .i64 T1, .bool Y1, .int .i64 S1, .slice la m1 lc, .slice ha m2 hc, .slice oa m3 oc, .slice fa m4 fc, .slice ra m5 rc][i]?) ∧ ∀ i, w'.cell? ⟨w.heap.size + 1, i, none⟩ = #[Value.int .u64 B1, .int .i64 C1, .int .i64 T1, .bool Y1, .int .i64 S1, .slice la' n1 lc', .slice ha' n2 hc', .slice oa' n3 oc', .slice fa' n4 fc', .slice ra' n5 rc'][i]?)) (by kernel_rfl) ?_ (fun hHeld => ?_)
   ·(try dsimp only); refine HKE.out _ ?_; exact bm
   refine tk 0 ?_
   refine tk 1 ?_
   refine tk 3 ?_
   refine tk 4 ?_
   refine co 2 fun K hK => ?_
   go_simp
   go_at_call 24; refine (HP.out _ q ⟨hq1, hlt⟩).mono ?_; rintro e w2 ⟨rfl, k2⟩; go_wp2_with fail
   refine hK.out _ _ ?_ (fun hHeld => ?_)
   ·(try dsimp only); refine HKE.out _ ?_; exact bm
   clear hK K
   refine nx ?_
   refine co 5 fun K hK => ?_
   go_simp
   go_at_call 24; refine (HP'.out _ q ⟨hq1, hlt⟩).mono ?_; rintro e w3 ⟨rfl, k3⟩; go_wp2_with fail
   refine hK.out _ _ ?_ (fun hHeld => ?_)
   ·(try dsimp only); refine HKE.out _ ?_; exact bm
   clear hK K
   refine nx ?_
   refine co 6 fun K hK => ?_
   go_simp
   go_at_call 55; refine (HNq.out _ (by exact bm)).mono ?_; rintro e w4 ⟨rfl, k4⟩; go_wp2_with fail
   refine hK.out _ _ ?_ (fun hHeld => ?_)
   ·(try dsimp only); refine HKE.out _ ?_; exact bm
   clear hK K
   refine nx ?_
   refine tk 7 ?_
   refine wpAnyH_done (by kernel_rfl) ?_ _
   cases DB with
   | true =>
    have HE := Lib.hid (of_decide_eq_true hDB.out)
    go_wp2_with fail
    refine ⟨⟨q + 1, by omega, by omega, by go_num, Lib.hid fun j a b => ?_, by exact bm⟩, by simp [intOf]; omega⟩
    rcases Nat.lt_or_ge j q with e | e
    ·exact ht.out j a e
    ·obtain rfl : j = q := by omega
     exact HE.out
   | false =>
    have HE := Lib.hid (HF.out q ⟨hq1, hlt⟩ (of_decide_eq_false hDB.out))
    go_wp2_with fail
    go_ret
    refine ⟨by rw [HE.out]; rfl, ?_⟩
    exact bm
  ·obtain rfl : q = 5 := by omega
   have HE := Lib.hid (HL.out ht.out)
   go_wp2_with fail
   refine (HR.out _ (by exact bm)).mono ?_; rintro e w4 ⟨rfl, k4⟩
   go_wp2_with fail
   go_ret
   refine ⟨by rw [HE.out]; rfl, ?_⟩
   exact bm
theorem same10_any (h h' : Hp) (v v' : Hv) (w : World) (hin : HIn w h v) (hin' : HIn w h' v') :
  Calls Tryz.prog 20 #[hpV h v, hpV h' v'] w fun e w' => e = .returned (.bool (sameH h h')) ∧ Below w.heap.size w w' := by
 by_cases hsc : h.base = h'.base ∧ h.cap = h'.cap ∧ h.tt = h'.tt ∧ h.cyc = h'.cyc ∧ h.scan = h'.scan
 ·exact same10_eq h h' v v' w hin hin' hsc
 ·have HF : Hid (sameH h h' = false) := Lib.hid (by unfold sameH sameS; rw [decide_eq_false hsc]; rfl)
  obtain ⟨la, lc, ha, hc, oa, oc, fa, fc, ra, rc, rfl⟩ := hin_lit hin
  obtain ⟨la', lc', ha', hc', oa', oc', fa', fc', ra', rc', rfl⟩ := hin_lit hin'
  unfold hpV
  dsimp only
  clear hin hin'
  generalize sameH h h' = D at *
  generalize h.base = B1 at *
  generalize h.cap = C1 at *
  generalize h.tt = T1 at *
  generalize h.cyc = Y1 at *
  generalize h.scan = S1 at *
  generalize h'.base = B2 at *
  generalize h'.cap = C2 at *
  generalize h'.tt = T2 at *
  generalize h'.cyc = Y2 at *
  generalize h'.scan = S2 at *
  have HSC := Lib.hid hsc
  clear hsc
  go_enter Tryz.func20, Tryz.ntmps20
  go_wp2_with fail
  all_goals first
   | (go_ret; refine ⟨by rw [HF.out]; rfl, ?_⟩; exact bm; done)
   | (exfalso; refine HSC.out ⟨by assumption, by assumption, by assumption, by assumption, ?_⟩; simp_all)
end Go.Proofs.YtpgjploaliefdaaGreat.rh
