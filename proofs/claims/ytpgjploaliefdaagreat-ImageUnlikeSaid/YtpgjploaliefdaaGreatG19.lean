/- Layer 11's raw heaps: where each node stands: words. No conditions. -/
import Derived.Test.YtpgjploaliefdaaGreatG18
import Derived.Laws.MakeOwn
import Derived.Test.YtpgjploaliefdaaGreatMo
import Derived.Deep.DeepCutAuto
import Derived.Deep.CutRange
namespace Go.Proofs.YtpgjploaliefdaaGreat.rh
open Go Go.RowKit hp ob hd cp ck gr lx
set_option linter.unusedVariables false
set_option linter.unusedSimpArgs false
set_option maxRecDepth 100000
set_option maxHeartbeats 4000000
def enP (p : Nat × Nat) : List Value := [.int .i64 p.1, .int .i64 p.2]
theorem enP_len (p : Nat × Nat) : (enP p).length = 2 := rfl
theorem enP_one (p : Nat × Nat) : ∀ u ∈ enP p, u.oneCell' = true := fun u hu => by
 simp only [enP, List.mem_cons, List.not_mem_nil, or_false] at hu
 rcases hu with rfl | rfl <;> rfl
theorem info_place : (Tryz.prog.info? 113).map (fun i => (i.zero, i.size, i.bytes)) = some (some (.agg #[.int .i64 0, .int .i64 0]), 2, 16) := by kernel_rfl
theorem app_p {ops : Array Oper} {rest : List Oper} {o : Oper} {a : Act} {Q : Exit → Act → World → Prop} (w : World) (hw : Region.wanted o (yielded ops a.tmps) = true) (s x : Operand)
  (ho : o.op = .call { callee := .builtin .append, args := #[s, x], argTypes := #[62, 62] })
  (B : Nat) (v u : Value) (xs ys : List (Nat × Nat)) (hs : a.eval s = v) (hx : a.eval x = u) (hown : OwnR 113 2 enP w B v xs) (hys : RIn 2 enP w u ys) (hbig : xs.length + ys.length < 100000000000) (hB : B ≤ w.heap.size)
  (h : ∀ v' w', OwnR 113 2 enP w' B v' (xs ++ ys) → w.grownBy w' v.ownBlock → (v'.ownBlock = v.ownBlock ∨ v'.ownBlock = some w.heap.size) → wpList Tryz.prog ops Q rest (a.put o.dst v') w') : wpList Tryz.prog ops Q (o :: rest) a w :=
 app_g (α := Nat × Nat) (k := 2) (en := enP) w hw s x _ ho enP_len enP_one _ 16 Tryz.underlying62 info_place rfl (by decide) (by decide) B v u xs ys hs hx hown hys hbig hB h
def plH (x : Rh) (c : Bool) (j : Nat) : Nat × Nat := (hpt x c j, if hpt x c j = 0 then 0 else hof x c (hpt x c j) j)
def plO (x : Rh) (c : Bool) (j : Nat) : Nat × Nat := (opt x c j, if opt x c j = 0 then 0 else oof x c (opt x c j) j)
def hereL (x : Rh) (c : Bool) (n : Nat) : List (Nat × Nat) := (List.range n).map (plH x c)
def oldL (x : Rh) (c : Bool) (n : Nat) : List (Nat × Nat) := (List.range n).map (plO x c)
theorem hereL_succ (x : Rh) (c : Bool) (n : Nat) : hereL x c (n + 1) = hereL x c n ++ [plH x c n] := by unfold hereL; rw [List.range_succ, List.map_append]; rfl
theorem oldL_succ (x : Rh) (c : Bool) (n : Nat) : oldL x c (n + 1) = oldL x c n ++ [plO x c n] := by unfold oldL; rw [List.range_succ, List.map_append]; rfl
def Apt (v u : Value) : Prop := v.ownBlock = none ∨ v.ownBlock ≠ u.ownBlock
theorem Apt.sym {v u : Value} (h : Apt v u) : Apt u v := by
 unfold Apt at *
 rcases h with h | h
 ·rcases hu : u.ownBlock with _ | k
  ·exact .inl rfl
  ·exact .inr (by rw [h]; simp)
 ·exact .inr (fun e => h e.symm)
theorem Apt.left {v v' u : Value} {N : Nat} (h : Apt v u) (hat : v'.ownBlock = v.ownBlock ∨ v'.ownBlock = some N) (hu : ∀ k, u.ownBlock = some k → k < N) : Apt v' u := by
 unfold Apt at *
 rcases hat with e | e
 ·rw [e]; exact h
 ·refine .inr (fun e2 => ?_)
  rw [e] at e2
  have := hu N e2.symm
  omega
theorem OwnR.row {α : Type} {k : Nat} {en : α → List Value} {T : TypeId} {W w : World} {B : Nat} {v : Value} {zs : List α} {r : Option Nat} (h : OwnR T k en W B v zs) (hg : W.grownBy w r) (hr : v.ownBlock = none ∨ v.ownBlock ≠ r) : OwnR T k en w B v zs := by
 unfold OwnR at h ⊢
 exact World.ownsRow.kept h hg hr
theorem two_blk0 {W w1 : World} {b c : Nat} {cs ds : Array Value} (hb : Below W.heap.size W w1) (h1 : b < W.heap.size) (h2 : c < W.heap.size) (d1 : ∀ i, W.cell? ⟨b, i, none⟩ = cs[i]?) (d2 : ∀ i, W.cell? ⟨c, i, none⟩ = ds[i]?) : (∀ i, w1.cell? ⟨b, i, none⟩ = cs[i]?) ∧ (∀ i, w1.cell? ⟨c, i, none⟩ = ds[i]?) := ⟨fun i => (hb.cell (p := ⟨b, i, none⟩) h1).trans (d1 i), fun i => (hb.cell (p := ⟨c, i, none⟩) h2).trans (d2 i)⟩
theorem two_blk_set {W : World} {b c : Nat} {cs ds : Array Value} (h : (∀ i, W.cell? ⟨b, i, none⟩ = cs[i]?) ∧ (∀ i, W.cell? ⟨c, i, none⟩ = ds[i]?)) {p : Addr} (h1 : b ≠ p.block) (h2 : c ≠ p.block) (u : Value) : (∀ i, (W.setCell p u).cell? ⟨b, i, none⟩ = cs[i]?) ∧ (∀ i, (W.setCell p u).cell? ⟨c, i, none⟩ = ds[i]?) :=
 ⟨fun i => (World.cell?_setCell_other _ _ _ _ (fun e => h1 (congrArg Addr.block e).symm)).trans (h.1 i), fun i => (World.cell?_setCell_other _ _ _ _ (fun e => h2 (congrArg Addr.block e).symm)).trans (h.2 i)⟩
theorem blk_ne {W : World} {b c : Nat} {cs ds : Array Value} {T U : TypeId} (h : Blk W b cs T) (k : Blk W c ds U) (hT : T ≠ U) : b ≠ c := fun e => by
 subst e
 have := h.raw.symm.trans k.raw
 simp only [Option.some.injEq, Obj.cells.injEq] at this
 exact hT this.2.1
theorem two_blk_drew {W : World} {b c : Nat} {cs ds : Array Value} (h : (∀ i, W.cell? ⟨b, i, none⟩ = cs[i]?) ∧ (∀ i, W.cell? ⟨c, i, none⟩ = ds[i]?)) : (∀ i, W.drew.cell? ⟨b, i, none⟩ = cs[i]?) ∧ (∀ i, W.drew.cell? ⟨c, i, none⟩ = ds[i]?) := h
def zerosU (k : Nat) : Array Value := madeCells (Value.int .u64 0).cells k
theorem made_u (k j : Nat) (h : j < k) : (zerosU k)[j]? = some (.int .u64 0) := by
 simp [zerosU, madeCells, h, Value.cells, Nat.mod_one]
theorem make_u (k : Nat) (W : World) (h : k < 1000) : (Instr.makeSlice 29 (.int .i64 (k : Int)) (.int .i64 (k : Int))).run Tryz.prog W = .ok (.slice (some ⟨W.heap.size, 0, none⟩) k k) (W.alloc (.cells (zerosU k) 24)) := by
 obtain ⟨i0, hi, hz0, hz1, hz2⟩ := info_parts info_u64
 have := run_make (P := Tryz.prog) W 29 24 i0 (.int .u64 0) Tryz.underlying29 hi hz0 .i64 .i64 k k (by omega) (by omega) (by rw [hz2]; omega) (by omega)
 rw [this, hz1]
 simp [zerosU]
attribute [irreducible] zerosU
def ZV (W : World) (n : Nat) (v : Value) : Prop := ∃ b, v = .slice (some ⟨b, 0, none⟩) n n ∧ Blk W b (zerosU n) 24
theorem ZV.tr {W w : World} {n : Nat} {v : Value} (h : ZV W n v) (hb : Below W.heap.size W w) : ZV w n v := by
 obtain ⟨b, e, k⟩ := h
 exact ⟨b, e, k.tr hb⟩
def bCells (gv qv : Value) (hv ov : Value) : Array Value := #[.int .u64 0, .int .i64 0, .int .i64 0, .bool false, .int .i64 0, .slice none 0 0, .slice none 0 0, .slice none 0 0, .slice none 0 0, .slice none 0 0, gv, qv, hv, ov]
def sInv (x : Rh) (c : Bool) (w w1 : World) (X : Xv) (gv qv : Value) (k : Nat) (hv ov : Value) (wr : World) : Prop :=
 Blk wr w1.heap.size (bCells gv qv hv ov) 64 ∧ Blk wr (w1.heap.size + 1) #[.int .i64 0, .int .i64 (hof x c 1 k), .int .i64 (hof x c 2 k), .int .i64 (oof x c 3 k), .int .i64 (oof x c 4 k)] 107
 ∧ OwnR 113 2 enP wr (w1.heap.size + 2) hv (hereL x c k) ∧ OwnR 113 2 enP wr (w1.heap.size + 2) ov (oldL x c k) ∧ Apt hv ov ∧ Below w1.heap.size w1 wr ∧ w1.heap.size + 2 ≤ wr.heap.size
def SP (W w1 : World) (cb cn : Array Value) (hv : Value) (hl : List (Nat × Nat)) (ov : Value) (ol : List (Nat × Nat)) (S : Nat) : Prop :=
 Blk W w1.heap.size cb 64 ∧ Blk W (w1.heap.size + 1) cn 107 ∧ OwnR 113 2 enP W (w1.heap.size + 2) hv hl ∧ OwnR 113 2 enP W (w1.heap.size + 2) ov ol ∧ Below w1.heap.size w1 W ∧ W.heap.size = S
theorem SP.set {W w1 : World} {cb cn : Array Value} {hv : Value} {hl : List (Nat × Nat)} {ov : Value} {ol : List (Nat × Nat)} {S : Nat} (h : SP W w1 cb cn hv hl ov ol S) (i : Nat) (v : Value) : SP (W.setCell ⟨w1.heap.size + 1, i, none⟩ v) w1 cb (cn.setIfInBounds i v) hv hl ov ol S := by
 obtain ⟨h1, h2, h3, h4, h5, h6⟩ := h
 exact ⟨h1.other (by simp) v, h2.set i v, OwnR.setLow h3 (Nat.lt_succ_self _) v, OwnR.setLow h4 (Nat.lt_succ_self _) v, low_set h5 (Nat.le_succ _) v, by simpa [World.setCell] using h6⟩
end Go.Proofs.YtpgjploaliefdaaGreat.rh
namespace Go.Proofs.YtpgjploaliefdaaGreat.rh
open Go Go.RowKit hp ob hd cp ck gr lx
set_option linter.unusedVariables false
set_option linter.unusedSimpArgs false
set_option maxRecDepth 100000
set_option maxHeartbeats 4000000
structure BIn (W : World) (x : Rh) (c : Bool) (h : Hp) (v : Hv) (gs qs hs os : Sl) : Prop where
 lay : h.lay = layL x c
 scan : h.scan = scanN x c
 hf : HF h v
 hl : RIn 2 enP W (slV hs) (hereL x c (nN x))
 ol : RIn 2 enP W (slV os) (oldL x c (nN x))
theorem BIn.tr {W w : World} {x : Rh} {c : Bool} {h : Hp} {v : Hv} {gs qs hs os : Sl} (a : BIn W x c h v gs qs hs os) (hb : Below W.heap.size W w) : BIn w x c h v gs qs hs os := ⟨a.lay, a.scan, a.hf, a.hl.tr hb, a.ol.tr hb⟩
theorem ref_h {W : World} {x : Rh} {c : Bool} {h : Hp} {v : Hv} {gs qs hs os : Sl} (a : BIn W x c h v gs qs hs os) (ok : RhOk x) {j : Nat} (hj : j < nN x) (W' : World) :
  Calls Tryz.prog 59 #[builtV h v (slV gs) (slV qs) (slV hs) (slV os), .agg #[.int .i64 (plH x c j).1, .int .i64 (plH x c j).2]] W' fun e w' => e = .returned (.int .u64 (hrf x c j)) ∧ Below W'.heap.size W' w' := by
 have h2 := hpt_le x c j
 have := ref_any h v gs qs hs os (plH x c j).1 (plH x c j).2 W' a.hf (by rw [a.lay]; exact lay_right ok.base.1 c) (by
  unfold plH
  dsimp only
  by_cases h0 : hpt x c j = 0
  ·exact .inl h0
  ·refine .inr ⟨by omega, ?_⟩
   rw [if_neg h0, a.lay, lenI_L x c (by omega)]
   have := isAt_lt (x := x) (c := c) (p := hpt x c j) (.inl ⟨by omega, h2, rfl⟩) hj
   unfold offP at this
   rw [if_pos h2] at this
   omega)
 have e : refP h.lay (plH x c j).1 (plH x c j).2 = hrf x c j := by
  rw [a.lay]
  unfold plH hrf
  dsimp only
  by_cases h0 : hpt x c j = 0
  ·rw [h0]; rfl
  ·rw [if_neg h0]
 rw [e] at this
 exact this
theorem ref_o {W : World} {x : Rh} {c : Bool} {h : Hp} {v : Hv} {gs qs hs os : Sl} (a : BIn W x c h v gs qs hs os) (ok : RhOk x) {j : Nat} (hj : j < nN x) (W' : World) :
  Calls Tryz.prog 59 #[builtV h v (slV gs) (slV qs) (slV hs) (slV os), .agg #[.int .i64 (plO x c j).1, .int .i64 (plO x c j).2]] W' fun e w' => e = .returned (.int .u64 (orf x c j)) ∧ Below W'.heap.size W' w' := by
 have h2 := opt_cases x c j
 have := ref_any h v gs qs hs os (plO x c j).1 (plO x c j).2 W' a.hf (by rw [a.lay]; exact lay_right ok.base.1 c) (by
  unfold plO
  dsimp only
  by_cases h0 : opt x c j = 0
  ·exact .inl h0
  ·refine .inr ⟨by omega, ?_⟩
   rw [if_neg h0, a.lay, lenI_L x c (by omega)]
   have := isAt_lt (x := x) (c := c) (p := opt x c j) (.inr ⟨by omega, by omega, rfl⟩) hj
   unfold offP at this
   rw [if_neg (by omega)] at this
   omega)
 have e : refP h.lay (plO x c j).1 (plO x c j).2 = orf x c j := by
  rw [a.lay]
  unfold plO orf
  dsimp only
  by_cases h0 : opt x c j = 0
  ·rw [h0]; rfl
  ·rw [if_neg h0]
 rw [e] at this
 exact this
theorem pl_get {f : Nat → Nat × Nat} {N j : Nat} (hj : j < N) : ((List.range N).map f)[j]? = some (f j) := by rw [List.getElem?_map, List.getElem?_range hj]; rfl
theorem blk_two {W w1 : World} {b : Nat} {cs : Array Value} {p q : Addr} {u v : Value} (hb : Below W.heap.size W w1) (h1 : b < W.heap.size) (h2 : p.block < W.heap.size) (d1 : ∀ i, W.cell? ⟨b, i, none⟩ = cs[i]?) (hp : W.cell? p = some u) (hq : W.cell? q = some v) : (∀ i, w1.cell? ⟨b, i, none⟩ = cs[i]?) ∧ (w1.cell? p = some u ∧ w1.cell? q = some v) := ⟨fun i => (hb.cell (p := ⟨b, i, none⟩) h1).trans (d1 i), cell_tr hb hp, cell_tr hb hq⟩
theorem slot_any (x : Rh) (c : Bool) (ok : RhOk x) (h : Hp) (v : Hv) (gs qs hs os : Sl) (p a : Nat) (tg tw : Int) (w : World) (hb : BIn w x c h v gs qs hs os) (hp : 1 ≤ p ∧ p ≤ 4) (ht : tg < nN x) (ha : a < 1000) :
  Calls Tryz.prog 81 #[builtV h v (slV gs) (slV qs) (slV hs) (slV os), .agg #[.int .i64 p, .int .i64 a], .int .i64 tg, .int .i64 tw] w fun e w' => e = .returned (.int .u64 (slotV x c p a tg tw)) ∧ Below w.heap.size w w' := by
 obtain ⟨vl, vh, vo, vf, vr⟩ := v
 obtain ⟨ga, gn, gc⟩ := gs
 obtain ⟨qa, qn, qc⟩ := qs
 obtain ⟨ia, inn, ic⟩ := hs
 obtain ⟨oa, on_, oc⟩ := os
 rcases Int.lt_or_le tg 0 with h0 | h0
 ·have HR : Hid (slotV x c p a tg tw = 0) := Lib.hid (by unfold slotV; rw [if_pos h0])
  generalize slotV x c p a tg tw = R at *
  obtain rfl := HR.out
  clear HR hb
  unfold builtV bCells2 slV
  dsimp only
  go_enter Tryz.func81, Tryz.ntmps81
  go_wp2_with fail
  go_ret
  refine ⟨rfl, ?_⟩
  exact bm
 obtain ⟨j, rfl⟩ := Int.eq_ofNat_of_zero_le h0
 have hj : j < nN x := by omega
 have HH : Hid (∀ W, Calls Tryz.prog 59 #[builtV h ⟨vl, vh, vo, vf, vr⟩ (slV (ga, gn, gc)) (slV (qa, qn, qc)) (slV (ia, inn, ic)) (slV (oa, on_, oc)), .agg #[.int .i64 (plH x c j).1, .int .i64 (plH x c j).2]] W fun e w' => e = .returned (.int .u64 (hrf x c j)) ∧ Below W.heap.size W w') := Lib.hid (ref_h hb ok hj)
 have HO : Hid (∀ W, Calls Tryz.prog 59 #[builtV h ⟨vl, vh, vo, vf, vr⟩ (slV (ga, gn, gc)) (slV (qa, qn, qc)) (slV (ia, inn, ic)) (slV (oa, on_, oc)), .agg #[.int .i64 (plO x c j).1, .int .i64 (plO x c j).2]] W fun e w' => e = .returned (.int .u64 (orf x c j)) ∧ Below W.heap.size W w') := Lib.hid (ref_o hb ok hj)
 have hsc := hb.scan
 obtain ⟨ia2, ib, io, ic2, e1, i1, i2, i3, i4, i5, i6⟩ := hb.hl.form
 obtain ⟨oa2, obk, oo, oc2, e2, o1, o2, o3, o4, o5, o6⟩ := hb.ol.form
 have hll : (hereL x c (nN x)).length = nN x := by unfold hereL; simp
 have oll : (oldL x c (nN x)).length = nN x := by unfold oldL; simp
 rw [hll] at e1 i1 i5
 rw [oll] at e2 o1 o5
 simp only [slV, Value.slice.injEq] at e1 e2
 obtain ⟨rfl, rfl, rfl⟩ := e1
 obtain ⟨rfl, rfl, rfl⟩ := e2
 have h1 := i1 (by omega)
 have h2 := o1 (by omega)
 have hib := i5 (by omega)
 have hobk := o5 (by omega)
 subst h1 h2
 rw [hll] at i6
 rw [oll] at o6
 have hc0 := i6.at (i := j) (pl_get hj) 0 (.int .i64 (plH x c j).1) rfl
 have hc1 := i6.at (i := j) (pl_get hj) 1 (.int .i64 (plH x c j).2) rfl
 have od0 := o6.at (i := j) (pl_get hj) 0 (.int .i64 (plO x c j).1) rfl
 have od1 := o6.at (i := j) (pl_get hj) 1 (.int .i64 (plO x c j).2) rfl
 rw [Nat.add_zero] at hc0 od0
 have hph : (plH x c j).1 = hpt x c j := rfl
 have hpo : (plO x c j).1 = opt x c j := rfl
 have HSV : Hid (slotV x c p a (j : Int) tw = if 2 < p then orf x c j else if (p = 1 ∧ scanN x c ≤ a) ∧ (hpt x c j = 0 ∨ (0 < opt x c j ∧ tw.tmod 2 = 0)) then orf x c j else hrf x c j) := Lib.hid (by unfold slotV; rw [if_neg (by omega)]; simp)
 generalize slotV x c p a (j : Int) tw = R at *
 rw [hph] at hc0 HH
 rw [hpo] at od0 HO
 obtain ⟨base, cap, tt, cyc, scan, low, high, old, far, roots⟩ := h
 dsimp only at hsc
 subst hsc
 obtain ⟨⟨la, lc, e1⟩, ⟨ha', hc, e2⟩, ⟨oa', oc', e3⟩, ⟨fa, fc, e4⟩, ⟨ra, rn, rc, e5⟩⟩ := hb.hf
 dsimp only at e1 e2 e3 e4 e5
 unfold builtV bCells2 slV at *
 dsimp only at *
 subst e1 e2 e3 e4 e5
 clear hb i1 i2 i3 i4 i5 i6 o1 o2 o3 o4 o5 o6 hll oll hph hpo ok
 generalize (plH x c j).2 = H2 at *
 generalize (plO x c j).2 = O2 at *
 have hptl := hpt_le x c j
 have hoc := opt_cases x c j
 generalize hpt x c j = HP at *
 generalize opt x c j = OP at *
 generalize hrf x c j = RH at *
 generalize orf x c j = RO at *
 generalize scanN x c = SC at *
 generalize nN x = N at *
 generalize low.length = ll at *
 generalize high.length = lh at *
 generalize old.length = lo at *
 generalize far.length = lf at *
 have h0i : ¬ ((j : Int) < 0) := by omega
 have hji : (j : Int) < (N : Int) := by omega
 by_cases h3 : 2 < p
 ·have hR : Hid (R = RO) := Lib.hid (by rw [HSV.out, if_pos h3])
  have h3i : (p : Int) > 2 := by omega
  go_enter Tryz.func81, Tryz.ntmps81
  go_upto_region 4 with (fail)
  have K1 : Blk ((w.alloc (.cells #[Value.int .u64 base, .int .i64 cap, .int .i64 tt, .bool cyc, .int .i64 SC, .slice la ll lc, .slice ha' lh hc, .slice oa' lo oc', .slice fa lf fc, .slice ra rn rc, .slice ga gn gc, .slice qa qn qc, .slice (some ⟨ib, io, none⟩) N ic, .slice (some ⟨obk, oo, none⟩) N oc] 64)).alloc (.cells #[.int .i64 p, .int .i64 a] 113)) w.heap.size #[Value.int .u64 base, .int .i64 cap, .int .i64 tt, .bool cyc, .int .i64 SC, .slice la ll lc, .slice ha' lh hc, .slice oa' lo oc', .slice fa lf fc, .slice ra rn rc, .slice ga gn gc, .slice qa qn qc, .slice (some ⟨ib, io, none⟩) N ic, .slice (some ⟨obk, oo, none⟩) N oc] 64 := (Blk.new _ _ _).alloc _
  have K2 : Blk ((w.alloc (.cells #[Value.int .u64 base, .int .i64 cap, .int .i64 tt, .bool cyc, .int .i64 SC, .slice la ll lc, .slice ha' lh hc, .slice oa' lo oc', .slice fa lf fc, .slice ra rn rc, .slice ga gn gc, .slice qa qn qc, .slice (some ⟨ib, io, none⟩) N ic, .slice (some ⟨obk, oo, none⟩) N oc] 64)).alloc (.cells #[.int .i64 p, .int .i64 a] 113)) (w.heap.size + 1) #[.int .i64 p, .int .i64 a] 113 := Blk.mk (by simp)
  have kW : Below w.heap.size w ((w.alloc (.cells #[Value.int .u64 base, .int .i64 cap, .int .i64 tt, .bool cyc, .int .i64 SC, .slice la ll lc, .slice ha' lh hc, .slice oa' lo oc', .slice fa lf fc, .slice ra rn rc, .slice ga gn gc, .slice qa qn qc, .slice (some ⟨ib, io, none⟩) N ic, .slice (some ⟨obk, oo, none⟩) N oc] 64)).alloc (.cells #[.int .i64 p, .int .i64 a] 113)) := by exact bm
  generalize (w.alloc (.cells #[Value.int .u64 base, .int .i64 cap, .int .i64 tt, .bool cyc, .int .i64 SC, .slice la ll lc, .slice ha' lh hc, .slice oa' lo oc', .slice fa lf fc, .slice ra rn rc, .slice ga gn gc, .slice qa qn qc, .slice (some ⟨ib, io, none⟩) N ic, .slice (some ⟨obk, oo, none⟩) N oc] 64)).alloc (.cells #[.int .i64 p, .int .i64 a] 113) = W0 at *
  replace hc0 := cell_tr kW hc0
  replace hc1 := cell_tr kW hc1
  replace od0 := cell_tr kW od0
  replace od1 := cell_tr kW od1
  obtain ⟨l1, d1, f1⟩ := K1.get
  obtain ⟨l2, d2, f2⟩ := K2.get
  have hib2 : ib < W0.heap.size := by have := kW.size; omega
  have hobk2 : obk < W0.heap.size := by have := kW.size; omega
  go_region_held3 (fun w' => (∀ i, w'.cell? ⟨w.heap.size, i, none⟩ = #[Value.int .u64 base, .int .i64 cap, .int .i64 tt, .bool cyc, .int .i64 SC, .slice la ll lc, .slice ha' lh hc, .slice oa' lo oc', .slice fa lf fc, .slice ra rn rc, .slice ga gn gc, .slice qa qn qc, .slice (some ⟨ib, io, none⟩) N ic, .slice (some ⟨obk, oo, none⟩) N oc][i]?) ∧ (w'.cell? ⟨obk, oo + j * 2, none⟩ = some (.int .i64 OP) ∧ w'.cell? ⟨obk, oo + j * 2 + 1, none⟩ = some (.int .i64 O2)))
   (first | (refine blk_two (W := W0) ?_ l1 (by assumption) d1 (by assumption) (by assumption); exact bm))
   (first | (go_at_call 59; refine (HO.out _).mono ?_; rintro e w4 ⟨rfl, k4⟩))
  go_wp2_with fail
  go_ret
  refine ⟨by rw [hR.out]; rfl, ?_⟩
  exact bm
 ·rcases (show p = 1 ∨ p = 2 by omega) with rfl | rfl
  ·clear hp
   have hgt2 : ¬ ((1 : Int) > 2) := by decide
   go_enter Tryz.func81, Tryz.ntmps81
   go_upto_region 5 with (fail)
   have K1 : Blk ((w.alloc (.cells #[Value.int .u64 base, .int .i64 cap, .int .i64 tt, .bool cyc, .int .i64 SC, .slice la ll lc, .slice ha' lh hc, .slice oa' lo oc', .slice fa lf fc, .slice ra rn rc, .slice ga gn gc, .slice qa qn qc, .slice (some ⟨ib, io, none⟩) N ic, .slice (some ⟨obk, oo, none⟩) N oc] 64)).alloc (.cells #[.int .i64 1, .int .i64 a] 113)) w.heap.size #[Value.int .u64 base, .int .i64 cap, .int .i64 tt, .bool cyc, .int .i64 SC, .slice la ll lc, .slice ha' lh hc, .slice oa' lo oc', .slice fa lf fc, .slice ra rn rc, .slice ga gn gc, .slice qa qn qc, .slice (some ⟨ib, io, none⟩) N ic, .slice (some ⟨obk, oo, none⟩) N oc] 64 := (Blk.new _ _ _).alloc _
   have K2 : Blk ((w.alloc (.cells #[Value.int .u64 base, .int .i64 cap, .int .i64 tt, .bool cyc, .int .i64 SC, .slice la ll lc, .slice ha' lh hc, .slice oa' lo oc', .slice fa lf fc, .slice ra rn rc, .slice ga gn gc, .slice qa qn qc, .slice (some ⟨ib, io, none⟩) N ic, .slice (some ⟨obk, oo, none⟩) N oc] 64)).alloc (.cells #[.int .i64 1, .int .i64 a] 113)) (w.heap.size + 1) #[.int .i64 1, .int .i64 a] 113 := Blk.mk (by simp)
   have kW : Below w.heap.size w ((w.alloc (.cells #[Value.int .u64 base, .int .i64 cap, .int .i64 tt, .bool cyc, .int .i64 SC, .slice la ll lc, .slice ha' lh hc, .slice oa' lo oc', .slice fa lf fc, .slice ra rn rc, .slice ga gn gc, .slice qa qn qc, .slice (some ⟨ib, io, none⟩) N ic, .slice (some ⟨obk, oo, none⟩) N oc] 64)).alloc (.cells #[.int .i64 1, .int .i64 a] 113)) := by exact bm
   generalize (w.alloc (.cells #[Value.int .u64 base, .int .i64 cap, .int .i64 tt, .bool cyc, .int .i64 SC, .slice la ll lc, .slice ha' lh hc, .slice oa' lo oc', .slice fa lf fc, .slice ra rn rc, .slice ga gn gc, .slice qa qn qc, .slice (some ⟨ib, io, none⟩) N ic, .slice (some ⟨obk, oo, none⟩) N oc] 64)).alloc (.cells #[.int .i64 1, .int .i64 a] 113) = W0 at *
   replace hc0 := cell_tr kW hc0
   replace hc1 := cell_tr kW hc1
   replace od0 := cell_tr kW od0
   replace od1 := cell_tr kW od1
   obtain ⟨l1, d1, f1⟩ := K1.get
   obtain ⟨l2, d2, f2⟩ := K2.get
   have hib2 : ib < W0.heap.size := by have := kW.size; omega
   have hobk2 : obk < W0.heap.size := by have := kW.size; omega
   go_cut [54] (fun v wx => v = .bool (decide (((1 : Nat) = 1 ∧ SC ≤ a) ∧ (HP = 0 ∨ (0 < OP ∧ tw.tmod 2 = 0)))) ∧ wx = W0)
   case first =>
    go_wp2_with fail
    all_goals (try simp only [decide_eq_true_eq, decide_eq_false_iff_not, beq_iff_eq, beq_eq_false_iff_ne, ne_eq] at *)
    all_goals first
     | (exfalso; omega)
     | (go_meet; first | exact ⟨congrArg Value.bool (decide_eq_false (by omega)).symm, rfl⟩ | exact ⟨congrArg Value.bool (decide_eq_true (by omega)).symm, rfl⟩ | exact ⟨congrArg Value.bool (by rw [Bool.eq_iff_iff]; simp only [beq_iff_eq, decide_eq_true_eq]; omega), rfl⟩)
     | (go_meet; refine ⟨congrArg Value.bool ?_, rfl⟩; (try generalize tw.tmod 2 = T at *); rw [Bool.eq_iff_iff]; simp only [beq_iff_eq, decide_eq_true_eq, Bool.or_eq_true, Bool.and_eq_true, true_and, true_iff, iff_true, eq_self_iff_true]; omega)
   case rest =>
   obtain ⟨rfl, hwc⟩ := hcut
   subst hwc
   by_cases hG : ((1 : Nat) = 1 ∧ SC ≤ a) ∧ (HP = 0 ∨ (0 < OP ∧ tw.tmod 2 = 0))
   ·have hR : Hid (R = RO) := Lib.hid (by rw [HSV.out, if_neg h3, if_pos hG])
    rw [decide_eq_true hG]
    clear hG HSV
    go_upto_region 6 with (fail)
    go_region_held3 (fun w' => (∀ i, w'.cell? ⟨w.heap.size, i, none⟩ = #[Value.int .u64 base, .int .i64 cap, .int .i64 tt, .bool cyc, .int .i64 SC, .slice la ll lc, .slice ha' lh hc, .slice oa' lo oc', .slice fa lf fc, .slice ra rn rc, .slice ga gn gc, .slice qa qn qc, .slice (some ⟨ib, io, none⟩) N ic, .slice (some ⟨obk, oo, none⟩) N oc][i]?) ∧ (w'.cell? ⟨obk, oo + j * 2, none⟩ = some (.int .i64 OP) ∧ w'.cell? ⟨obk, oo + j * 2 + 1, none⟩ = some (.int .i64 O2)))
     (first | (refine blk_two (W := wc) ?_ l1 (by assumption) d1 (by assumption) (by assumption); exact bm))
     (first | (go_at_call 59; refine (HO.out _).mono ?_; rintro e w4 ⟨rfl, k4⟩))
    go_wp2_with fail
    go_ret
    refine ⟨by rw [hR.out]; rfl, ?_⟩
    exact bm
   ·have hR : Hid (R = RH) := Lib.hid (by rw [HSV.out, if_neg h3, if_neg hG])
    rw [decide_eq_false hG]
    clear hG HSV
    go_upto_region 7 with (fail)
    go_region_held3 (fun w' => (∀ i, w'.cell? ⟨w.heap.size, i, none⟩ = #[Value.int .u64 base, .int .i64 cap, .int .i64 tt, .bool cyc, .int .i64 SC, .slice la ll lc, .slice ha' lh hc, .slice oa' lo oc', .slice fa lf fc, .slice ra rn rc, .slice ga gn gc, .slice qa qn qc, .slice (some ⟨ib, io, none⟩) N ic, .slice (some ⟨obk, oo, none⟩) N oc][i]?) ∧ (w'.cell? ⟨ib, io + j * 2, none⟩ = some (.int .i64 HP) ∧ w'.cell? ⟨ib, io + j * 2 + 1, none⟩ = some (.int .i64 H2)))
     (first | (refine blk_two (W := wc) ?_ l1 (by assumption) d1 (by assumption) (by assumption); exact bm))
     (first | (go_at_call 59; refine (HH.out _).mono ?_; rintro e w4 ⟨rfl, k4⟩))
    go_wp2_with fail
    go_ret
    refine ⟨by rw [hR.out]; rfl, ?_⟩
    exact bm
  ·have hR : Hid (R = RH) := Lib.hid (by rw [HSV.out, if_neg h3, if_neg (fun h => by omega)])
   clear HSV hp
   go_enter Tryz.func81, Tryz.ntmps81
   go_upto_region 5 with (fail)
   have K1 : Blk ((w.alloc (.cells #[Value.int .u64 base, .int .i64 cap, .int .i64 tt, .bool cyc, .int .i64 SC, .slice la ll lc, .slice ha' lh hc, .slice oa' lo oc', .slice fa lf fc, .slice ra rn rc, .slice ga gn gc, .slice qa qn qc, .slice (some ⟨ib, io, none⟩) N ic, .slice (some ⟨obk, oo, none⟩) N oc] 64)).alloc (.cells #[.int .i64 2, .int .i64 a] 113)) w.heap.size #[Value.int .u64 base, .int .i64 cap, .int .i64 tt, .bool cyc, .int .i64 SC, .slice la ll lc, .slice ha' lh hc, .slice oa' lo oc', .slice fa lf fc, .slice ra rn rc, .slice ga gn gc, .slice qa qn qc, .slice (some ⟨ib, io, none⟩) N ic, .slice (some ⟨obk, oo, none⟩) N oc] 64 := (Blk.new _ _ _).alloc _
   have K2 : Blk ((w.alloc (.cells #[Value.int .u64 base, .int .i64 cap, .int .i64 tt, .bool cyc, .int .i64 SC, .slice la ll lc, .slice ha' lh hc, .slice oa' lo oc', .slice fa lf fc, .slice ra rn rc, .slice ga gn gc, .slice qa qn qc, .slice (some ⟨ib, io, none⟩) N ic, .slice (some ⟨obk, oo, none⟩) N oc] 64)).alloc (.cells #[.int .i64 2, .int .i64 a] 113)) (w.heap.size + 1) #[.int .i64 2, .int .i64 a] 113 := Blk.mk (by simp)
   have kW : Below w.heap.size w ((w.alloc (.cells #[Value.int .u64 base, .int .i64 cap, .int .i64 tt, .bool cyc, .int .i64 SC, .slice la ll lc, .slice ha' lh hc, .slice oa' lo oc', .slice fa lf fc, .slice ra rn rc, .slice ga gn gc, .slice qa qn qc, .slice (some ⟨ib, io, none⟩) N ic, .slice (some ⟨obk, oo, none⟩) N oc] 64)).alloc (.cells #[.int .i64 2, .int .i64 a] 113)) := by exact bm
   generalize (w.alloc (.cells #[Value.int .u64 base, .int .i64 cap, .int .i64 tt, .bool cyc, .int .i64 SC, .slice la ll lc, .slice ha' lh hc, .slice oa' lo oc', .slice fa lf fc, .slice ra rn rc, .slice ga gn gc, .slice qa qn qc, .slice (some ⟨ib, io, none⟩) N ic, .slice (some ⟨obk, oo, none⟩) N oc] 64)).alloc (.cells #[.int .i64 2, .int .i64 a] 113) = W0 at *
   replace hc0 := cell_tr kW hc0
   replace hc1 := cell_tr kW hc1
   replace od0 := cell_tr kW od0
   replace od1 := cell_tr kW od1
   obtain ⟨l1, d1, f1⟩ := K1.get
   obtain ⟨l2, d2, f2⟩ := K2.get
   have hib2 : ib < W0.heap.size := by have := kW.size; omega
   have hobk2 : obk < W0.heap.size := by have := kW.size; omega
   go_upto_region 7 with (fail)
   go_region_held3 (fun w' => (∀ i, w'.cell? ⟨w.heap.size, i, none⟩ = #[Value.int .u64 base, .int .i64 cap, .int .i64 tt, .bool cyc, .int .i64 SC, .slice la ll lc, .slice ha' lh hc, .slice oa' lo oc', .slice fa lf fc, .slice ra rn rc, .slice ga gn gc, .slice qa qn qc, .slice (some ⟨ib, io, none⟩) N ic, .slice (some ⟨obk, oo, none⟩) N oc][i]?) ∧ (w'.cell? ⟨ib, io + j * 2, none⟩ = some (.int .i64 HP) ∧ w'.cell? ⟨ib, io + j * 2 + 1, none⟩ = some (.int .i64 H2)))
    (first | (refine blk_two (W := W0) ?_ l1 (by assumption) d1 (by assumption) (by assumption); exact bm))
    (first | (go_at_call 59; refine (HH.out _).mono ?_; rintro e w4 ⟨rfl, k4⟩))
   go_wp2_with fail
   go_ret
   refine ⟨by rw [hR.out]; rfl, ?_⟩
   exact bm
end Go.Proofs.YtpgjploaliefdaaGreat.rh
