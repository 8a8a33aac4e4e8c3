/- check: the state's note. No conditions. -/
import Derived.Test.YtpgjploaliefdaaGreatDd
namespace Go.Proofs.YtpgjploaliefdaaGreat.ck
open Go Go.RowKit Go.Proofs.YtpgjploaliefdaaGreat.hp Go.Proofs.YtpgjploaliefdaaGreat.ob Go.Proofs.YtpgjploaliefdaaGreat.hd Go.Proofs.YtpgjploaliefdaaGreat.cp Go.Proofs.YtpgjploaliefdaaGreat.mp Go.Proofs.YtpgjploaliefdaaGreat.cm Go.Proofs.YtpgjploaliefdaaGreat.gr
set_option linter.unusedVariables false
set_option linter.unusedSimpArgs false
set_option maxRecDepth 100000
set_option maxHeartbeats 2000000
variable {w0 w W : World} {p : Pl} {h : Hp} {v : Hv} {s : Fnd} {ov : Ov}
def totF (s : Fnd) : Nat := s.o1.length + s.o2.length + s.o3.length + s.o4.length
theorem obs_gr {W w : World} {B : Nat} {v : Value} {l : List Ob} {r : Option Nat} (h : ObsAt W B v l) (hg : W.grownBy w r) (hr : ∀ k, r = some k → k < B) : ObsAt w B v l := by
  refine World.ownsRow.kept h hg ?_
  rcases hv : v.ownBlock with _ | k
  · exact .inl rfl
  · refine .inr fun e => ?_
    have h1 : B ≤ k := by
      rcases h.2 with ⟨rfl, _⟩ | ⟨g, cap, cur, rfl, h2, _⟩
      · cases hv
      · cases hv
        exact h2
    have := hr k e.symm
    omega
theorem St.pmSet {n : Nat} {f : Int → Option Int} (a : St w0 W p h v s ov) (hg : W.grownBy w (some p.bp)) (hn : n ≤ totF s) (hm : MapIs Tryz.prog 24 w p.bp n (pfV f)) (hr : ∀ a q, f a = some q → 1 ≤ q ∧ q ≤ 4) : St w0 w p h v { s with pf := f } ov := by
  have hb := a.ok.p1
  obtain ⟨n2, h2, m2⟩ := a.lm
  exact ⟨a.hin, a.bel.trans (below_of hg a.bel.size a.ok.p0), a.ok, Nat.le_trans a.B hg.size, blk_row a.blk hg (fun e => a.ok.bp (Option.some.inj e).symm),
    obs_gr a.o1 hg (fun k e => by cases e; exact hb), obs_gr a.o2 hg (fun k e => by cases e; exact hb), obs_gr a.o3 hg (fun k e => by cases e; exact hb), obs_gr a.o4 hg (fun k e => by cases e; exact hb),
    ⟨n, hn, hm⟩, ⟨n2, h2, m2.kept hg (fun e => a.ok.pl (Option.some.inj e).symm)⟩, a.f1, a.f2, a.f3, a.f4, hr, a.lr⟩
theorem St.lmSet {n : Nat} {f : Int → Option (Int × Int)} (a : St w0 W p h v s ov) (hg : W.grownBy w (some p.bl)) (hn : n ≤ s.o1.length) (hm : MapIs Tryz.prog 24 w p.bl n (lfV f)) (hr : ∀ a q, f a = some q → 0 ≤ q.1 ∧ q.1 ≤ 255) : St w0 w p h v { s with lf := f } ov := by
  have hb := a.ok.l1
  obtain ⟨n2, h2, m2⟩ := a.pm
  exact ⟨a.hin, a.bel.trans (below_of hg a.bel.size a.ok.l0), a.ok, Nat.le_trans a.B hg.size, blk_row a.blk hg (fun e => a.ok.bl (Option.some.inj e).symm),
    obs_gr a.o1 hg (fun k e => by cases e; exact hb), obs_gr a.o2 hg (fun k e => by cases e; exact hb), obs_gr a.o3 hg (fun k e => by cases e; exact hb), obs_gr a.o4 hg (fun k e => by cases e; exact hb),
    ⟨n2, h2, m2.kept hg (fun e => a.ok.pl (Option.some.inj e))⟩, ⟨n, hn, hm⟩, a.f1, a.f2, a.f3, a.f4, a.rg, hr⟩
def Ov.put (ov : Ov) (q : Nat) (u : Value) : Ov := ⟨if q = 1 then u else ov.a, if q = 2 then u else ov.b, if q = 3 then u else ov.c, if q = 4 then u else ov.d⟩
def putF (s : Fnd) (q : Nat) (l : List Ob) : Fnd := { s with o1 := if q = 1 then l else s.o1, o2 := if q = 2 then l else s.o2, o3 := if q = 3 then l else s.o3, o4 := if q = 4 then l else s.o4 }
theorem grown_cell (W : World) (a : Addr) (v : Value) : W.grownBy (W.setCell a v) (some a.block) :=
  ⟨by simp [World.setCell], by simp [World.setCell], by simp [World.setCell], by simp, fun k hk hne => Below.heap_setCell W a v k (fun e => hne (by rw [e]))⟩
theorem st_put (h : Hp) (v : Hv) (ov : Ov) (bp bl q : Nat) (u : Value) (hq : 1 ≤ q ∧ q ≤ 4) : (stCells h v ov bp bl).setIfInBounds (17 + (q - 1)) u = stCells h v (ov.put q u) bp bl := by
  rcases (show q = 1 ∨ q = 2 ∨ q = 3 ∨ q = 4 by omega) with rfl | rfl | rfl | rfl <;> rfl
theorem St.obSet (a : St w0 W p h v s ov) {q : Nat} (hq : 1 ≤ q ∧ q ≤ 4) {u : Value} {l : List Ob} (hu : ObsAt W p.B u l) (hf : (∀ o ∈ l, FitB (h.part q).length o) ∧ l.length ≤ (h.part q).length) (he : s.obs q = []) :
    St w0 (W.setCell ⟨p.b, 17 + (q - 1), none⟩ u) p h v (putF s q l) (ov.put q u) := by
  have hg := grown_cell W ⟨p.b, 17 + (q - 1), none⟩ u
  have hb := a.ok.b1
  obtain ⟨n1, h1, m1⟩ := a.pm
  obtain ⟨n2, h2, m2⟩ := a.lm
  have hk : ∀ {x : Value} {xs : List Ob}, ObsAt W p.B x xs → ObsAt (W.setCell ⟨p.b, 17 + (q - 1), none⟩ u) p.B x xs := fun hx => obs_gr hx hg (fun k e => by cases e; exact hb)
  refine ⟨a.hin, a.bel.trans (below_of hg a.bel.size a.ok.b0), a.ok, Nat.le_trans a.B hg.size, ?_, ?_, ?_, ?_, ?_, ⟨n1, ?_, m1.kept hg (fun e => a.ok.bp (Option.some.inj e).symm)⟩, ⟨n2, ?_, m2.kept hg (fun e => a.ok.bl (Option.some.inj e).symm)⟩, ?_, ?_, ?_, ?_, a.rg, a.lr⟩
  · have := a.blk.set (17 + (q - 1)) u
    rw [st_put h v ov p.bp p.bl q u hq] at this
    exact this
  all_goals rcases (show q = 1 ∨ q = 2 ∨ q = 3 ∨ q = 4 by omega) with rfl | rfl | rfl | rfl
  all_goals first | exact hk hu | exact hk a.o1 | exact hk a.o2 | exact hk a.o3 | exact hk a.o4 | exact hf | exact a.f1 | exact a.f2 | exact a.f3 | exact a.f4 | skip
  all_goals first
    | (have he1 : s.o1 = [] := he; simp [putF, he1] at h1 h2 ⊢; omega)
    | (have he1 : s.o2 = [] := he; simp [putF, he1] at h1 h2 ⊢; omega)
    | (have he1 : s.o3 = [] := he; simp [putF, he1] at h1 h2 ⊢; omega)
    | (have he1 : s.o4 = [] := he; simp [putF, he1] at h1 h2 ⊢; omega)
theorem cell_gr {a : Addr} {r : Nat} {x : Value} (hg : W.grownBy w (some r)) (h : W.cell? a = some x) (hr : a.block ≠ r) : w.cell? a = some x := by
  have hlt : a.block < W.heap.size := by
    rcases Nat.lt_or_ge a.block W.heap.size with h1 | h1
    · exact h1
    · simp [World.cell?, Array.getElem?_eq_none h1] at h
  rw [← h]
  simp only [World.cell?, hg.block a.block hlt (fun e => hr (Option.some.inj e))]
theorem step_store {P : Program} {k : TypeId} {b n : Nat} {f : Int → Option Value} {ops : Array Oper} {o : Oper} {a : Act} {Q : Exit → Act → World → Prop} {w : World} {K : Act → World → Prop} {E : Prop} (hg : o.guard = none) (m x v : Operand) (t : TypeId) (hop : o.op = Op.mapUpdate t m x v)
    (e : TypeId) (hk : P.underlying k = some (.int .u64)) (ht : P.underlying t = some (.map k e))
    (hm : a.eval m = .map (some b)) (hown : MapIs P k w b n f) (hn : n < maxLen) (y : Int) (hx : a.eval x = .int .u64 y) (hy : K64 y) (u : Value) (hv : a.eval v = u)
    (hK : ∀ w', MapIs P k w' b (if (f y).isSome then n else n + 1) (upd f y u) → w.grownBy w' (some b) → K (a.put o.dst undef) w') :
    if Region.wanted o (yielded ops a.tmps) = true then Oper.wp P o a w K Q else E := by
  have hw : Region.wanted o (yielded ops a.tmps) = true := by simp [Region.wanted, hg]
  rw [if_pos hw]
  obtain ⟨D, h1, h2, h3⟩ := hown
  obtain ⟨w', hrun, g1, g2⟩ := h1.update (Maps.int_keyed hk) ht hn (val := u) (d := .held u) (ps := []) (Maps.keyOf_int_mk hk (wf64 hy)) rfl
  unfold Oper.wp execOp
  simp only [hop, hm, hx, hv, Sem.run_bind, hrun, Result.andThen_ok, Sem.run_pure]
  refine hK w' ?_ g2
  have hks : WideAt.IsKeyLit (.int .u64 y) := trivial
  have hs := Maps.size_put (k := .int .u64 y) (h1.tidy (Maps.int_keyed hk)) (.held u)
  rw [(h3 y hy).1, h2] at hs
  refine ⟨_, ?_, hs, fun c hc => ?_⟩
  · rw [← hs]
    exact exact_n g1
  · unfold upd
    by_cases e2 : c = y
    · subst e2
      rw [if_pos rfl]
      exact ⟨Maps.has_put_same h1.isMap hks (.held u), fun z => Maps.atKey_put_same h1.isMap hks (.held u) _⟩
    · rw [if_neg e2]
      have e3 : (Lit.int .u64 c) ≠ .int .u64 y := fun e => e2 (by cases e; rfl)
      rw [Maps.has_put_other e3, (h3 c hc).1]
      exact ⟨rfl, fun z => by rw [Maps.atKey_put_other e3, (h3 c hc).2 z]⟩
end Go.Proofs.YtpgjploaliefdaaGreat.ck
