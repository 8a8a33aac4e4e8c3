/- Layer 8's raw graphs: the walk. No conditions. -/
import Derived.Test.YtpgjploaliefdaaGreatTk
import Derived.Test.YtpgjploaliefdaaGreatG09
import Derived.Test.YtpgjploaliefdaaGreatLu
import Derived.Deep.DeepCutAuto
import Derived.Deep.CutRange
import Derived.Deep.RegionHeld3
namespace Go.Proofs.YtpgjploaliefdaaGreat.rh
open Go Go.RowKit lx hp ob hd cp gr
set_option linter.unusedVariables false
set_option linter.unusedSimpArgs false
set_option maxRecDepth 100000
set_option maxHeartbeats 4000000
abbrev Sl := Option Addr × Nat × Nat
def slV (s : Sl) : Value := .slice s.1 s.2.1 s.2.2
def enN (v : Sl × Sl) : List Value := [slV v.1, slV v.2]
theorem enN_len (x : Sl × Sl) : (enN x).length = 2 := rfl
def NodeIn (W : World) (a : Sl × Sl) (b : List Int × List Int) : Prop := RIn 1 enI W (slV a.1) b.1 ∧ RIn 1 enU W (slV a.2) b.2
def NodesIn (W : World) (v : Value) (l : List (List Int × List Int)) : Prop := ∃ vs : List (Sl × Sl), vs.length = l.length ∧ RIn 2 enN W v vs ∧ ∀ (i : Nat) (a : Sl × Sl) (b : List Int × List Int), vs[i]? = some a → l[i]? = some b → NodeIn W a b
theorem NodeIn.tr {W w : World} {a : Sl × Sl} {b : List Int × List Int} (h : NodeIn W a b) (hb : Below W.heap.size W w) : NodeIn w a b := ⟨h.1.tr hb, h.2.tr hb⟩
theorem NodesIn.tr {W w : World} {v : Value} {l : List (List Int × List Int)} (h : NodesIn W v l) (hb : Below W.heap.size W w) : NodesIn w v l := by
 obtain ⟨vs, h1, h2, h3⟩ := h
 exact ⟨vs, h1, h2.tr hb, fun i a b ha hb' => (h3 i a b ha hb').tr hb⟩
def Safe (W : World) (g : Nat) (r : Option Nat) (P : World → Prop) : Prop := ∀ W' : World, W.heap.size ≤ W'.heap.size → (∀ j, j < W.heap.size → g < j → r ≠ some j → W'.heap[j]? = W.heap[j]?) → P W'
theorem Safe.now {W : World} {g : Nat} {r : Option Nat} {P : World → Prop} (h : Safe W g r P) : P W := h W (Nat.le_refl _) fun _ _ _ _ => rfl
theorem Safe.go {W W1 : World} {g : Nat} {r r' : Option Nat} {P : World → Prop} (h : Safe W g r P) (hs : W.heap.size ≤ W1.heap.size) (hg : ∀ j, j < W.heap.size → g < j → r ≠ some j → W1.heap[j]? = W.heap[j]?) (hr : ∀ j, j < W.heap.size → r' = some j → r = some j) : Safe W1 g r' P := fun W' hs' hg' => h W' (Nat.le_trans hs hs') fun j hj h1 h2 => (hg' j (Nat.lt_of_lt_of_le hj hs) h1 (fun e => h2 (hr j hj e))).trans (hg j hj h1 h2)
theorem Safe.tr {W W1 : World} {g : Nat} {r : Option Nat} {P : World → Prop} (h : Safe W g r P) (hb : Below W.heap.size W W1) : Safe W1 g r P := h.go hb.size (fun j hj _ _ => hb.block j hj) (fun j _ e => e)
theorem Safe.row {W W1 : World} {g : Nat} {v v' : Value} {P : World → Prop} (h : Safe W g v.ownBlock P) (hg : W.grownBy W1 v.ownBlock) (hat : v'.ownBlock = v.ownBlock ∨ v'.ownBlock = some W.heap.size) : Safe W1 g v'.ownBlock P := h.go hg.size (fun j hj _ h2 => hg.block j hj (fun e => h2 e.symm)) fun j hj e => by
 rcases hat with h | h
 ·rw [← h]; exact e
 ·rw [h] at e; cases e; omega
theorem Safe.set {W : World} {g : Nat} {r : Option Nat} {P : World → Prop} (h : Safe W g r P) {p : Addr} (hp : p.block ≤ g) (u : Value) : Safe (W.setCell p u) g r P := h.go (by simp [World.setCell]) (fun j hj h1 h2 => Below.heap_setCell W p u j (by omega)) (fun j _ e => e)
theorem cell_block {W W' : World} {b o : Nat} (h : W'.heap[b]? = W.heap[b]?) : W'.cell? ⟨b, o, none⟩ = W.cell? ⟨b, o, none⟩ := by simp [World.cell?, h]
theorem safe_row {α : Type} {k : Nat} {en : α → List Value} (hk : ∀ x : α, (en x).length = k) {T : TypeId} {W : World} {B g : Nat} {v : Value} {zs : List α} (h : OwnR T k en W B v zs) (hg : g < B) {r : Option Nat} (hr : ∀ j, r = some j → j < B) : Safe W g r fun W' => RIn k en W' v zs := fun W' hs hb => by
 obtain ⟨ad, cap, rfl, h1, h2, h3, h4⟩ := h.form hk
 rcases Nat.eq_zero_or_pos zs.length with hz | hz
 ·have : zs = [] := List.eq_nil_of_length_eq_zero hz
  subst this
  exact RIn.mk (ad := ad) (b := 0) (off := 0) (cap := cap) rfl (fun h => by simp at h) h3 (Nat.zero_le _) h2 (fun h => by simp at h) (fun i j x y hx => by simp at hx)
 ·obtain ⟨b, rfl, h5, h6, h7⟩ := h4 hz
  refine RIn.mk (ad := some ⟨b, 0, none⟩) (b := b) (off := 0) (cap := cap) rfl (fun _ => rfl) h3 h1 h2 (fun _ => by omega) fun i j x y hx hy => ?_
  rw [cell_block (hb b h6 (by omega) (fun e => by have := hr b e; omega)), Nat.zero_add]
  exact h7 i j x y hx hy
theorem RIn.upto {α : Type} {k : Nat} {en : α → List Value} {W : World} {ad : Option Addr} {n cap : Nat} {zs : List α} (h : RIn k en W (.slice ad n cap) zs) {m : Nat} (hm : m ≤ n) : RIn k en W (.slice ad m cap) (zs.take m) := by
 obtain ⟨ad', b, off, cap', e, h1, h2, h3, h4, h5, h6⟩ := h.form
 cases e
 refine RIn.mk (ad := ad) (b := b) (off := off) (cap := cap) (by simp; omega) (fun h => h1 (by simp at h; omega)) h2 (by simp; omega) h4 (fun h => h5 (by simp at h; omega)) fun i j x y hx hy => ?_
 have hi : zs[i]? = some x := by
  rw [List.getElem?_take] at hx
  split at hx
  ·exact hx
  ·cases hx
 have hl : 0 < zs.length := by
  rcases Nat.eq_zero_or_pos zs.length with h | h
  ·rw [List.eq_nil_of_length_eq_zero h] at hi; simp at hi
  ·exact h
 have := h1 hl
 subst this
 exact h6.at hi j y hy
theorem s3_tr {W w1 : World} (hb : Below W.heap.size W w1) {p q r : Addr} {v u x : Value} (h : W.cell? p = some v ∧ W.cell? q = some u ∧ W.cell? r = some x) : w1.cell? p = some v ∧ w1.cell? q = some u ∧ w1.cell? r = some x := ⟨cell_tr hb h.1, cell_tr hb h.2.1, cell_tr hb h.2.2⟩
theorem s2_low {W w1 : World} {N : Nat} (hb : Below N W w1) {p q : Addr} {v u : Value} (hp : p.block < N) (hq : q.block < N) (h : W.cell? p = some v ∧ W.cell? q = some u) : w1.cell? p = some v ∧ w1.cell? q = some u := ⟨(hb.cell hp).trans h.1, (hb.cell hq).trans h.2⟩
theorem s1_low {W w1 : World} {N : Nat} (hb : Below N W w1) {p : Addr} {v : Value} (hp : p.block < N) (h : W.cell? p = some v) : w1.cell? p = some v := (hb.cell hp).trans h
theorem low_alloc {N : Nat} {a w : World} (h : Below N a w) (hN : N ≤ a.heap.size) (o : Obj) : Below N a (w.alloc o) := b_alloc h hN o
theorem low_drew {N : Nat} {a w : World} (h : Below N a w) : Below N a w.drew := h.drew
theorem low_set {N : Nat} {a w : World} (h : Below N a w) {p : Addr} (hp : N ≤ p.block) (u : Value) : Below N a (w.setCell p u) := h.setCell hp u
theorem gr_low {N B : Nat} {a w w' : World} {v : Value} (hg : w.grownBy w' v.ownBlock) (hb : Below N a w) (ho : ∀ k, v.ownBlock = some k → B ≤ k) (hB : N ≤ B) (hN : N ≤ a.heap.size) : Below N a w' := gr_below hg hb hN fun k hk => Nat.le_trans hB (ho k hk)
theorem own_form3 {α : Type} {k : Nat} {en : α → List Value} {T : TypeId} {W : World} {B : Nat} {v : Value} {zs : List α} (h : OwnR T k en W B v zs) (hk : ∀ x : α, (en x).length = k) : ∃ va vl vc, v = .slice va vl vc := by
 obtain ⟨va, vc, e, _⟩ := h.form hk
 exact ⟨va, _, vc, e⟩
theorem OwnR.setLow {α : Type} {k : Nat} {en : α → List Value} {T : TypeId} {W : World} {B : Nat} {v : Value} {zs : List α} (h : OwnR T k en W B v zs) {p : Addr} (hp : p.block < B) (u : Value) : OwnR T k en (W.setCell p u) B v zs := by
 unfold OwnR at h ⊢
 exact ownsRow_setCell_below h hp u
theorem pick8_any (c n : Int) (w : World) (hn : 1 ≤ n) (hn2 : n < 1000000) (h1 : -9223372036854775808 ≤ c) (h2 : c < 9223372036854775808) :
  Calls Tryz.prog 80 #[.int .i64 c, .int .i64 n] w fun e w' => e = .returned (.int .i64 (pickI c n)) ∧ w = w' := by
 by_cases h : c < 0
 ·have HP : Hid (pickI c n = -(c+1) % n) := by unfold pickI; rw [if_pos h]; rfl
  go_enter Tryz.func80, Tryz.ntmps80
  go_wp2
  go_ret
  exact retI (by rw [HP.out, ← Int.neg_tmod, Int.tmod_eq_emod_of_nonneg (by omega)]) rfl
 ·have HP : Hid (pickI c n = c % n) := by unfold pickI; rw [if_neg h]; rfl
  go_enter Tryz.func80, Tryz.ntmps80
  go_wp2
  go_ret
  exact retI (by rw [HP.out]; try rw [Int.tmod_eq_emod_of_nonneg (by omega)]) rfl
theorem pick11_any (c n : Int) (w : World) (hn : 1 ≤ n) (hn2 : n < 1000000) (h1 : -9223372036854775808 ≤ c) (h2 : c < 9223372036854775808) :
  Calls Tryz.prog 23 #[.int .i64 c, .int .i64 n] w fun e w' => e = .returned (.int .i64 (pickI c n)) ∧ w = w' := by
 by_cases h : c < 0
 ·have HP : Hid (pickI c n = -(c+1) % n) := by unfold pickI; rw [if_pos h]; rfl
  go_enter Tryz.func23, Tryz.ntmps23
  go_wp2
  go_ret
  exact retI (by rw [HP.out, ← Int.neg_tmod, Int.tmod_eq_emod_of_nonneg (by omega)]) rfl
 ·have HP : Hid (pickI c n = c % n) := by unfold pickI; rw [if_neg h]; rfl
  go_enter Tryz.func23, Tryz.ntmps23
  go_wp2
  go_ret
  exact retI (by rw [HP.out]; try rw [Int.tmod_eq_emod_of_nonneg (by omega)]) rfl
structure NIn (x : Rh) : Prop where
 ptrs : ∀ n ∈ x.nodes, ∀ c ∈ n.1, I64 c
 roots : ∀ c ∈ x.roots, I64 c
 cls : ∀ c ∈ x.cls, I64 c
 slack : I64 x.slack
 scan : I64 x.scan
 tt : I64 x.tt
def gNodes (x : Rh) : List (List Int × List Int) := (List.range (nN x)).map fun i => (gPtrs x i, gData x i)
theorem info_node : (Tryz.prog.info? 111).map (fun i => (i.zero, i.size, i.bytes)) = some (some (.agg #[.slice none 0 0, .slice none 0 0]), 2, 48) := by kernel_rfl
theorem enN_one (x : Sl × Sl) : ∀ u ∈ enN x, u.oneCell' = true := fun u hu => by
 simp only [enN, List.mem_cons, List.not_mem_nil, or_false] at hu
 rcases hu with rfl | rfl <;> rfl
theorem app_n {ops : Array Oper} {rest : List Oper} {o : Oper} {a : Act} {Q : Exit → Act → World → Prop} (w : World) (hw : Region.wanted o (yielded ops a.tmps) = true) (s x : Operand)
  (ho : o.op = .call { callee := .builtin .append, args := #[s, x], argTypes := #[59, 59] })
  (B : Nat) (v u : Value) (xs ys : List (Sl × Sl)) (hs : a.eval s = v) (hx : a.eval x = u) (hown : OwnR 111 2 enN w B v xs) (hys : RIn 2 enN w u ys) (hbig : xs.length + ys.length < 100000000000) (hB : B ≤ w.heap.size)
  (h : ∀ v' w', OwnR 111 2 enN w' B v' (xs ++ ys) → w.grownBy w' v.ownBlock → (v'.ownBlock = v.ownBlock ∨ v'.ownBlock = some w.heap.size) → wpList Tryz.prog ops Q rest (a.put o.dst v') w') : wpList Tryz.prog ops Q (o :: rest) a w :=
 app_g (α := Sl × Sl) (k := 2) (en := enN) w hw s x _ ho enN_len enN_one _ 48 Tryz.underlying59 info_node rfl (by decide) (by decide) B v u xs ys hs hx hown hys hbig hB h
theorem graph_any (v rv : Value) (x : Rh) (w : World) (hn : NodesIn w v x.nodes) (hr : RIn 1 enI w rv x.roots) (hx : NIn x) :
  Calls Tryz.prog 56 #[v, rv] w fun e w' => (∃ gv qv, e = .returned (.agg #[gv, qv]) ∧ Safe w' (w.heap.size + 1) none (fun W => NodesIn W gv (gNodes x)) ∧ Safe w' (w.heap.size + 1) none (fun W => RIn 1 enI W qv (gRoots x))) ∧ Below w.heap.size w w' := by
 obtain ⟨us, hul, hus, hall⟩ := hn
 obtain ⟨na, nb, no, nc, rfl, n1, n2, n3, n4, n5, hus⟩ := hus.form
 obtain ⟨ra, rb, ro, rc, rfl, r1, r2, r3, r4, r5, hrs⟩ := hr.form
 have hmin : (if (10 : Int) < (us.length : Int) then 10 else (us.length : Int)) = ((nN x : Nat) : Int) := by unfold nN; rw [← hul]; split <;> omega
 have hm10 := nN_le x
 have hmu : nN x ≤ us.length := by unfold nN; rw [hul]; exact Nat.min_le_left _ _
 have HUS := Lib.hid hus
 have HRS := Lib.hid hrs
 have HALL := Lib.hid hall
 have HX := Lib.hid hx
 have HUL := Lib.hid hul
 clear hus hrs hall hx hul n2 r2
 generalize hm : nN x = m at *
 have HM := Lib.hid hm
 clear hm
 go_enter Tryz.func56, Tryz.ntmps56
 go_wp2_with fail
 go_loopw [7] (fun i wr => ∃ (k : Nat) (nv : Value) (vs : List (Sl × Sl)), k ≤ m ∧ i = .int .i64 k ∧ Hid (vs.length = k) ∧ Hid (Blk wr (w.heap.size + 1) #[nv, .slice none 0 0] 61) ∧ Hid (OwnR 111 2 enN wr (w.heap.size + 2) nv vs) ∧ Hid (∀ (j : Nat) (a : Sl × Sl), vs[j]? = some a → Safe wr (w.heap.size + 1) nv.ownBlock fun W => NodeIn W a (gPtrs x j, gData x j)) ∧ Hid (Below w.heap.size w wr) ∧ Hid (w.heap.size + 2 ≤ wr.heap.size) ∧ Hid (Blk wr w.heap.size #[.slice none 0 0, .slice none 0 0] 61)) (fun i _ => m - (intOf i).toNat)
 case atStart =>
  refine ⟨0, .slice none 0 0, [], Nat.zero_le _, rfl, rfl, Lib.hid (Blk.mk (by simp)), Lib.hid (OwnR.nil _ _), Lib.hid (fun j a h => by simp at h), Lib.hid ?_, Lib.hid (by simp), Lib.hid ((Blk.new _ _ _).alloc _)⟩
  exact bm
 case round =>
  obtain ⟨k, nv, vs, hk, rfl, hvl, hblk, ho, hsafe, hb, hsz, hrc⟩ := hrel
  generalize wr = W1 at *
  by_cases hlt : k < m
  ·have hku : k < us.length := by omega
   have had := n1 (by omega)
   subst had
   obtain ⟨⟨⟨pa, pn, pc⟩, ⟨da, dn, dc⟩⟩, ha⟩ : ∃ a, us[k] = a := ⟨_, rfl⟩
   have hc0 := cell_tr hb.out (HUS.out.at (i := k) (List.getElem?_eq_getElem hku) 0 (.slice pa pn pc) (by rw [ha]; rfl))
   have hc1 := cell_tr hb.out (HUS.out.at (i := k) (List.getElem?_eq_getElem hku) 1 (.slice da dn dc) (by rw [ha]; rfl))
   rw [Nat.add_zero] at hc0
   obtain ⟨ps, hps⟩ : ∃ p, x.nodes[k]'(by rw [← HUL.out]; exact hku) = p := ⟨_, rfl⟩
   obtain ⟨ps, ds⟩ := ps
   obtain ⟨hp0, hd0⟩ := HALL.out k ((pa, pn, pc), (da, dn, dc)) (ps, ds) (by rw [List.getElem?_eq_getElem hku, ha]) (by rw [List.getElem?_eq_getElem (by rw [← HUL.out]; exact hku), hps])
   have HD0 := Lib.hid (hd0.tr hb.out)
   have HP0 := Lib.hid (hp0.tr hb.out)
   obtain ⟨pa2, pb, po, pc2, e1, p1, p2, p3, p4, p5, hp6⟩ := (hp0.tr hb.out).form
   obtain ⟨da2, db, do_, dc2, e2, d1, d2, d3, d4, d5, hd6⟩ := (hd0.tr hb.out).form
   simp only [slV, Value.slice.injEq] at e1 e2
   obtain ⟨rfl, rfl, rfl⟩ := e1
   obtain ⟨rfl, rfl, rfl⟩ := e2
   have hPI : ∀ c ∈ ps, I64 c := fun c hc => HX.out.ptrs (ps, ds) (by rw [← hps]; exact List.getElem_mem _) c hc
   have HPI := Lib.hid hPI
   have hgp : gPtrs x k = (ps.take 4).map fun c => pickI c ((m : Int) + 1) - 1 := by
    unfold gPtrs
    rw [HM.out, List.getD_eq_getElem?_getD, List.getElem?_eq_getElem (by rw [← HUL.out]; exact hku), hps]
    rfl
   have hgd : gData x k = ds.take 4 := by
    unfold gData
    rw [List.getD_eq_getElem?_getD, List.getElem?_eq_getElem (by rw [← HUL.out]; exact hku), hps]
    rfl
   have HGP := Lib.hid hgp
   have HGD := Lib.hid hgd
   have HC := Lib.hid (And.intro hc0 hc1)
   have hnb : nb < W1.heap.size := by have := n5 (by omega); have := hb.out.size; omega
   clear hp0 hd0 hp6 hd6 hPI hgp hgd hc0 hc1
   have hcc := HC.out
   obtain ⟨hc0, hc1⟩ := hcc
   go_wp2_with fail
   go_loopw [9] (fun i wr => ∃ (q : Nat) (pv : Value), q ≤ ps.length ∧ q ≤ 4 ∧ i = .int .i64 q ∧ Hid (Blk wr W1.heap.size #[pv, .slice none 0 0] 111) ∧ Hid (OwnR 3 1 enI wr (W1.heap.size + 1) pv ((gPtrs x k).take q)) ∧ Hid (Below W1.heap.size W1 wr) ∧ Hid (W1.heap.size + 1 ≤ wr.heap.size)) (fun i _ => 4 - (intOf i).toNat)
   case atStart =>
    refine ⟨0, .slice none 0 0, Nat.zero_le _, Nat.zero_le _, rfl, Lib.hid (Blk.new _ _ _), Lib.hid (OwnR.nil _ _), Lib.hid ?_, Lib.hid (by simp)⟩
    exact bm
   case round =>
    obtain ⟨q, pv, hq, hq4, rfl, hbk, hop, hb2, hs2⟩ := hrel
    have hd0 := cell_tr hb2.out HC.out.1
    have hbk0 := hbk.out
    obtain ⟨lk, ck, fk⟩ := hbk0.get
    by_cases hl2 : q < ps.length ∧ q < 4
    ·obtain ⟨l1, l2⟩ := hl2
     have l1i : (q : Int) < (ps.length : Int) := by omega
     have l2i : (q : Int) < 4 := by omega
     have hpa := p1 (by omega)
     subst hpa
     have hcq := cell_tr hb2.out (HP0.out.at (i := q) (List.getElem?_eq_getElem l1) 0 _ rfl)
     rw [Nat.mul_one, Nat.add_zero] at hcq
     obtain ⟨hcI1, hcI2⟩ := HPI.out ps[q] (List.getElem_mem l1)
     generalize hcq0 : ps[q] = c at *
     go_upto_region 10 with (fail)
     have hpk := pickI_in c (n := (m : Int) + 1) (by omega)
     have HPK : Hid (∀ W, Calls Tryz.prog 80 #[.int .i64 c, .int .i64 ((m : Int) + 1)] W fun e w' => e = .returned (.int .i64 (pickI c ((m : Int) + 1))) ∧ W = w') := Lib.hid fun W => pick8_any c ((m : Int) + 1) W (by omega) (by omega) hcI1 hcI2
     have hwm0 : IntKind.i64.wrap ((m : Int) + 1) = (m : Int) + 1 := IntWalk.i64_in _ (by omega)
     have hwp0 : IntKind.i64.wrap (pickI c ((m : Int) + 1) - 1) = pickI c ((m : Int) + 1) - 1 := IntWalk.i64_in _ (by omega)
     have HS : Hid ((gPtrs x k).take (q + 1) = (gPtrs x k).take q ++ [pickI c ((m : Int) + 1) - 1]) := Lib.hid (by
      rw [HGP.out, List.take_add_one, List.getElem?_map, List.getElem?_take, if_pos l2, List.getElem?_eq_getElem l1, hcq0]
      rfl)
     have HLN : Hid (((gPtrs x k).take q).length + 1 < 100000000000) := Lib.hid (by simp; omega)
     obtain ⟨M1, hwm⟩ : ∃ M, IntKind.i64.wrap ((m : Int) + 1) = M := ⟨_, rfl⟩
     rw [hwm] at hwm0
     rw [← hwm0] at HPK hwp0 HS
     generalize pickI c M1 = Y at *
     obtain ⟨P1, hwp⟩ : ∃ M, IntKind.i64.wrap (Y - 1) = M := ⟨_, rfl⟩
     rw [hwp] at hwp0
     rw [← hwp0] at HS
     clear hcI1 hcI2 hpk hcq0 hwm0 hwp0
     generalize (gPtrs x k).take q = done at *
     have hS3 : wr.cell? ⟨nb, no + k * 2, none⟩ = some (.slice (some ⟨pb, po, none⟩) ps.length pc) ∧ wr.cell? ⟨pb, po + q, none⟩ = some (.int .i64 c) := ⟨hd0, hcq⟩
     have hsB : W1.heap.size + 1 ≤ wr.heap.size := hs2.out
     have hB1 : Below W1.heap.size wr wr := Below.refl _ _
     have hnb1 : nb < W1.heap.size := hnb
     have hpb1 : pb < W1.heap.size := p5 (by omega)
     refine wp_region_held_drew (S := (fun w' => w'.cell? ⟨nb, no + k * 2, none⟩ = some (.slice (some ⟨pb, po, none⟩) ps.length pc) ∧ w'.cell? ⟨pb, po + q, none⟩ = some (.int .i64 c))) (by kernel_rfl) ?_ (fun hHeld => ?_)
     ·(try dsimp only); refine s2_low (W := wr) (N := W1.heap.size) ?_ hnb1 hpb1 hS3; (first | (repeat (first | with_reducible exact Below.refl _ _ | with_reducible assumption | with_reducible refine low_alloc ?_ (by omega) _ | with_reducible refine low_drew ?_ | with_reducible refine low_set ?_ (by first | omega | (simp; done) | (simp; omega)) _)))
     refine tk 0 ?_
     refine tk 2 ?_
     refine tk 3 ?_
     refine tk 4 ?_
     refine tk 5 ?_
     refine tk 6 ?_
     refine tk 7 ?_
     refine tk 8 ?_
     refine tk 9 ?_
     refine tk 10 ?_
     refine tk 11 ?_
     refine wpAnyH_ready (rs := [1, 12]) (by kernel_rfl) (by simp) ?_
     refine AllReadyH.cons rfl (fun K hK => ?_) (AllReadyH.cons rfl (fun K hK => ?_) AllReadyH.nil)
     ·go_simp
      refine hK.out _ _ ?_ (fun hHeld => ?_)
      ·(try dsimp only); refine s2_low (W := wr) (N := W1.heap.size) ?_ hnb1 hpb1 hS3; (first | (repeat (first | with_reducible exact Below.refl _ _ | with_reducible assumption | with_reducible refine low_alloc ?_ (by omega) _ | with_reducible refine low_drew ?_ | with_reducible refine low_set ?_ (by first | omega | (simp; done) | (simp; omega)) _)))
      clear hK K
      try simp only [List.getElem_toArray, List.getElem_cons_succ, List.getElem_cons_zero, Act.put, List.setIfInBounds_toArray, List.set_cons_zero, List.set_cons_succ]
      refine co 12 fun K hK => ?_
      go_simp
      go_at_call 80; refine (HPK.out _).mono ?_; rintro e ww ⟨rfl, rfl⟩
      refine hK.out _ _ ?_ (fun hHeld => ?_)
      ·(try dsimp only); refine s2_low (W := wr) (N := W1.heap.size) ?_ hnb1 hpb1 hS3; (first | (repeat (first | with_reducible exact Below.refl _ _ | with_reducible assumption | with_reducible refine low_alloc ?_ (by omega) _ | with_reducible refine low_drew ?_ | with_reducible refine low_set ?_ (by first | omega | (simp; done) | (simp; omega)) _)))
      clear hK K
      refine nx ?_
      refine tk 13 ?_
      refine co 14 fun K hK => ?_
      go_simp
      skip
      refine hK.out _ _ ?_ (fun hHeld => ?_)
      ·(try dsimp only); refine s2_low (W := wr) (N := W1.heap.size) ?_ hnb1 hpb1 hS3; (first | (repeat (first | with_reducible exact Below.refl _ _ | with_reducible assumption | with_reducible refine low_alloc ?_ (by omega) _ | with_reducible refine low_drew ?_ | with_reducible refine low_set ?_ (by first | omega | (simp; done) | (simp; omega)) _)))
      clear hK K
      refine nx ?_
      refine wpAnyH_ready (rs := [15]) (by kernel_rfl) (by simp) ?_
      refine AllReadyH.cons rfl (fun K hK => ?_) AllReadyH.nil
      refine step_i rfl (.tmp 34) (.tmp 47) rfl (W1.heap.size + 1) pv _ done [P1] rfl rfl ?c0 ?c1 HLN.out ?c2 ?c3
      case c0 => refine hop.out.tr ?_; exact bm
      case c1 => first | exact one_i _ _ rfl | exact (one_i _ _ rfl).drew
      case c2 => first | exact hsB | exact Nat.le_trans hsB (by simp)
      case c3 =>
      intro v48 w48 o48 hg48 hat48
      obtain ⟨va, vl, vc, rfl⟩ := own_form3 o48 enI_len
      have hk48 := gr_blk (n := W1.heap.size) (cs := #[pv, .slice none 0 0]) (T := 111) hg48 (by exact bk) (fun j hj => by have := hop.out.block j hj; omega)
      obtain ⟨l48, c48, f48⟩ := hk48.get
      have hb48 : Below W1.heap.size wr w48 := gr_low hg48 (by (repeat (first | with_reducible exact Below.refl _ _ | with_reducible assumption | with_reducible refine low_alloc ?_ (by omega) _ | with_reducible refine low_drew ?_ | with_reducible refine low_set ?_ (by first | omega | (simp; done) | (simp; omega)) _))) hop.out.block (by omega) (by omega)
      refine hK.out _ _ ?_ (fun hHeld => ?_)
      ·(try dsimp only); refine s2_low (W := wr) (N := W1.heap.size) ?_ hnb1 hpb1 hS3; (first | (repeat (first | with_reducible exact Below.refl _ _ | with_reducible assumption | with_reducible refine low_alloc ?_ (by omega) _ | with_reducible refine low_drew ?_ | with_reducible refine low_set ?_ (by first | omega | (simp; done) | (simp; omega)) _)))
      clear hK K
      try simp only [List.getElem_toArray, List.getElem_cons_succ, List.getElem_cons_zero, Act.put, List.setIfInBounds_toArray, List.set_cons_zero, List.set_cons_succ]
      refine tk 16 ?_
      refine co 17 fun K hK => ?_
      go_simp
      skip
      refine hK.out _ _ ?_ (fun hHeld => ?_)
      ·(try dsimp only); refine s2_low (W := wr) (N := W1.heap.size) ?_ hnb1 hpb1 hS3; (first | (repeat (first | with_reducible exact Below.refl _ _ | with_reducible assumption | with_reducible refine low_alloc ?_ (by omega) _ | with_reducible refine low_drew ?_ | with_reducible refine low_set ?_ (by first | omega | (simp; done) | (simp; omega)) _)))
      clear hK K
      refine nx ?_
      refine wpAnyH_done (by kernel_rfl) ?_ _
      have hr1 : Below W1.heap.size W1 (w48.setCell ⟨W1.heap.size, 0, none⟩ (.slice va vl vc)) := low_set ((hb2.out).trans hb48) (Nat.le_refl _) _
      have hr2 : Blk (w48.setCell ⟨W1.heap.size, 0, none⟩ (.slice va vl vc)) W1.heap.size #[.slice va vl vc, .slice none 0 0] 111 := hk48.set 0 (.slice va vl vc)
      have hr3 : OwnR 3 1 enI (w48.setCell ⟨W1.heap.size, 0, none⟩ (.slice va vl vc)) (W1.heap.size + 1) (.slice va vl vc) ((gPtrs x k).take (q + 1)) := by rw [HS.out]; exact OwnR.setLow o48 (Nat.lt_succ_self _) _
      have hr4 : W1.heap.size + 1 ≤ (w48.setCell ⟨W1.heap.size, 0, none⟩ (.slice va vl vc)).heap.size := by have := l48; simp; omega
      have HR1 := Lib.hid hr1
      have HR2 := Lib.hid hr2
      have HR3 := Lib.hid hr3
      have HR4 := Lib.hid hr4
      clear hr1 hr2 hr3 hr4 hb48 hk48 o48 hg48 hat48 l48 c48 f48
      go_wp2_with fail
      exact ⟨⟨q + 1, _, by omega, by omega, by go_num, HR2, HR3, HR1, HR4⟩, by simp [intOf]; omega⟩
     ·go_simp
      go_at_call 80
      refine (HPK.out _).mono ?_; rintro e ww ⟨rfl, rfl⟩
      refine hK.out _ _ ?_ (fun hHeld => ?_)
      ·(try dsimp only); refine s2_low (W := wr) (N := W1.heap.size) ?_ hnb1 hpb1 hS3; (first | (repeat (first | with_reducible exact Below.refl _ _ | with_reducible assumption | with_reducible refine low_alloc ?_ (by omega) _ | with_reducible refine low_drew ?_ | with_reducible refine low_set ?_ (by first | omega | (simp; done) | (simp; omega)) _)))
      clear hK K
      try simp only [List.getElem_toArray, List.getElem_cons_succ, List.getElem_cons_zero, Act.put, List.setIfInBounds_toArray, List.set_cons_zero, List.set_cons_succ]
      refine tk 13 ?_
      refine wpAnyH_ready (rs := [1, 14]) (by kernel_rfl) (by simp) ?_
      refine AllReadyH.cons rfl (fun K hK => ?_) (AllReadyH.cons rfl (fun K hK => ?_) AllReadyH.nil)
      ·go_simp
       refine hK.out _ _ ?_ (fun hHeld => ?_)
       ·(try dsimp only); refine s2_low (W := wr) (N := W1.heap.size) ?_ hnb1 hpb1 hS3; (first | (repeat (first | with_reducible exact Below.refl _ _ | with_reducible assumption | with_reducible refine low_alloc ?_ (by omega) _ | with_reducible refine low_drew ?_ | with_reducible refine low_set ?_ (by first | omega | (simp; done) | (simp; omega)) _)))
       clear hK K
       try simp only [List.getElem_toArray, List.getElem_cons_succ, List.getElem_cons_zero, Act.put, List.setIfInBounds_toArray, List.set_cons_zero, List.set_cons_succ]
       refine co 14 fun K hK => ?_
       go_simp
       skip
       refine hK.out _ _ ?_ (fun hHeld => ?_)
       ·(try dsimp only); refine s2_low (W := wr) (N := W1.heap.size) ?_ hnb1 hpb1 hS3; (first | (repeat (first | with_reducible exact Below.refl _ _ | with_reducible assumption | with_reducible refine low_alloc ?_ (by omega) _ | with_reducible refine low_drew ?_ | with_reducible refine low_set ?_ (by first | omega | (simp; done) | (simp; omega)) _)))
       clear hK K
       refine nx ?_
       refine wpAnyH_ready (rs := [15]) (by kernel_rfl) (by simp) ?_
       refine AllReadyH.cons rfl (fun K hK => ?_) AllReadyH.nil
       refine step_i rfl (.tmp 34) (.tmp 47) rfl (W1.heap.size + 1) pv _ done [P1] rfl rfl ?c0 ?c1 HLN.out ?c2 ?c3
       case c0 => refine hop.out.tr ?_; exact bm
       case c1 => first | exact one_i _ _ rfl | exact (one_i _ _ rfl).drew
       case c2 => first | exact hsB | exact Nat.le_trans hsB (by simp)
       case c3 =>
       intro v48 w48 o48 hg48 hat48
       obtain ⟨va, vl, vc, rfl⟩ := own_form3 o48 enI_len
       have hk48 := gr_blk (n := W1.heap.size) (cs := #[pv, .slice none 0 0]) (T := 111) hg48 (by exact bk) (fun j hj => by have := hop.out.block j hj; omega)
       obtain ⟨l48, c48, f48⟩ := hk48.get
       have hb48 : Below W1.heap.size wr w48 := gr_low hg48 (by (repeat (first | with_reducible exact Below.refl _ _ | with_reducible assumption | with_reducible refine low_alloc ?_ (by omega) _ | with_reducible refine low_drew ?_ | with_reducible refine low_set ?_ (by first | omega | (simp; done) | (simp; omega)) _))) hop.out.block (by omega) (by omega)
       refine hK.out _ _ ?_ (fun hHeld => ?_)
       ·(try dsimp only); refine s2_low (W := wr) (N := W1.heap.size) ?_ hnb1 hpb1 hS3; (first | (repeat (first | with_reducible exact Below.refl _ _ | with_reducible assumption | with_reducible refine low_alloc ?_ (by omega) _ | with_reducible refine low_drew ?_ | with_reducible refine low_set ?_ (by first | omega | (simp; done) | (simp; omega)) _)))
       clear hK K
       try simp only [List.getElem_toArray, List.getElem_cons_succ, List.getElem_cons_zero, Act.put, List.setIfInBounds_toArray, List.set_cons_zero, List.set_cons_succ]
       refine tk 16 ?_
       refine co 17 fun K hK => ?_
       go_simp
       skip
       refine hK.out _ _ ?_ (fun hHeld => ?_)
       ·(try dsimp only); refine s2_low (W := wr) (N := W1.heap.size) ?_ hnb1 hpb1 hS3; (first | (repeat (first | with_reducible exact Below.refl _ _ | with_reducible assumption | with_reducible refine low_alloc ?_ (by omega) _ | with_reducible refine low_drew ?_ | with_reducible refine low_set ?_ (by first | omega | (simp; done) | (simp; omega)) _)))
       clear hK K
       refine nx ?_
       refine wpAnyH_done (by kernel_rfl) ?_ _
       have hr1 : Below W1.heap.size W1 (w48.setCell ⟨W1.heap.size, 0, none⟩ (.slice va vl vc)) := low_set ((hb2.out).trans hb48) (Nat.le_refl _) _
       have hr2 : Blk (w48.setCell ⟨W1.heap.size, 0, none⟩ (.slice va vl vc)) W1.heap.size #[.slice va vl vc, .slice none 0 0] 111 := hk48.set 0 (.slice va vl vc)
       have hr3 : OwnR 3 1 enI (w48.setCell ⟨W1.heap.size, 0, none⟩ (.slice va vl vc)) (W1.heap.size + 1) (.slice va vl vc) ((gPtrs x k).take (q + 1)) := by rw [HS.out]; exact OwnR.setLow o48 (Nat.lt_succ_self _) _
       have hr4 : W1.heap.size + 1 ≤ (w48.setCell ⟨W1.heap.size, 0, none⟩ (.slice va vl vc)).heap.size := by have := l48; simp; omega
       have HR1 := Lib.hid hr1
       have HR2 := Lib.hid hr2
       have HR3 := Lib.hid hr3
       have HR4 := Lib.hid hr4
       clear hr1 hr2 hr3 hr4 hb48 hk48 o48 hg48 hat48 l48 c48 f48
       go_wp2_with fail
       exact ⟨⟨q + 1, _, by omega, by omega, by go_num, HR2, HR3, HR1, HR4⟩, by simp [intOf]; omega⟩
      ·go_simp
       refine hK.out _ _ ?_ (fun hHeld => ?_)
       ·(try dsimp only); refine s2_low (W := wr) (N := W1.heap.size) ?_ hnb1 hpb1 hS3; (first | (repeat (first | with_reducible exact Below.refl _ _ | with_reducible assumption | with_reducible refine low_alloc ?_ (by omega) _ | with_reducible refine low_drew ?_ | with_reducible refine low_set ?_ (by first | omega | (simp; done) | (simp; omega)) _)))
       clear hK K
       try simp only [List.getElem_toArray, List.getElem_cons_succ, List.getElem_cons_zero, Act.put, List.setIfInBounds_toArray, List.set_cons_zero, List.set_cons_succ]
       refine co 1 fun K hK => ?_
       go_simp
       skip
       refine hK.out _ _ ?_ (fun hHeld => ?_)
       ·(try dsimp only); refine s2_low (W := wr) (N := W1.heap.size) ?_ hnb1 hpb1 hS3; (first | (repeat (first | with_reducible exact Below.refl _ _ | with_reducible assumption | with_reducible refine low_alloc ?_ (by omega) _ | with_reducible refine low_drew ?_ | with_reducible refine low_set ?_ (by first | omega | (simp; done) | (simp; omega)) _)))
       clear hK K
       refine nx ?_
       refine wpAnyH_ready (rs := [15]) (by kernel_rfl) (by simp) ?_
       refine AllReadyH.cons rfl (fun K hK => ?_) AllReadyH.nil
       refine step_i rfl (.tmp 34) (.tmp 47) rfl (W1.heap.size + 1) pv _ done [P1] rfl rfl ?c0 ?c1 HLN.out ?c2 ?c3
       case c0 => refine hop.out.tr ?_; exact bm
       case c1 => first | exact one_i _ _ rfl | exact (one_i _ _ rfl).drew
       case c2 => first | exact hsB | exact Nat.le_trans hsB (by simp)
       case c3 =>
       intro v48 w48 o48 hg48 hat48
       obtain ⟨va, vl, vc, rfl⟩ := own_form3 o48 enI_len
       have hk48 := gr_blk (n := W1.heap.size) (cs := #[pv, .slice none 0 0]) (T := 111) hg48 (by exact bk) (fun j hj => by have := hop.out.block j hj; omega)
       obtain ⟨l48, c48, f48⟩ := hk48.get
       have hb48 : Below W1.heap.size wr w48 := gr_low hg48 (by (repeat (first | with_reducible exact Below.refl _ _ | with_reducible assumption | with_reducible refine low_alloc ?_ (by omega) _ | with_reducible refine low_drew ?_ | with_reducible refine low_set ?_ (by first | omega | (simp; done) | (simp; omega)) _))) hop.out.block (by omega) (by omega)
       refine hK.out _ _ ?_ (fun hHeld => ?_)
       ·(try dsimp only); refine s2_low (W := wr) (N := W1.heap.size) ?_ hnb1 hpb1 hS3; (first | (repeat (first | with_reducible exact Below.refl _ _ | with_reducible assumption | with_reducible refine low_alloc ?_ (by omega) _ | with_reducible refine low_drew ?_ | with_reducible refine low_set ?_ (by first | omega | (simp; done) | (simp; omega)) _)))
       clear hK K
       try simp only [List.getElem_toArray, List.getElem_cons_succ, List.getElem_cons_zero, Act.put, List.setIfInBounds_toArray, List.set_cons_zero, List.set_cons_succ]
       refine tk 16 ?_
       refine co 17 fun K hK => ?_
       go_simp
       skip
       refine hK.out _ _ ?_ (fun hHeld => ?_)
       ·(try dsimp only); refine s2_low (W := wr) (N := W1.heap.size) ?_ hnb1 hpb1 hS3; (first | (repeat (first | with_reducible exact Below.refl _ _ | with_reducible assumption | with_reducible refine low_alloc ?_ (by omega) _ | with_reducible refine low_drew ?_ | with_reducible refine low_set ?_ (by first | omega | (simp; done) | (simp; omega)) _)))
       clear hK K
       refine nx ?_
       refine wpAnyH_done (by kernel_rfl) ?_ _
       have hr1 : Below W1.heap.size W1 (w48.setCell ⟨W1.heap.size, 0, none⟩ (.slice va vl vc)) := low_set ((hb2.out).trans hb48) (Nat.le_refl _) _
       have hr2 : Blk (w48.setCell ⟨W1.heap.size, 0, none⟩ (.slice va vl vc)) W1.heap.size #[.slice va vl vc, .slice none 0 0] 111 := hk48.set 0 (.slice va vl vc)
       have hr3 : OwnR 3 1 enI (w48.setCell ⟨W1.heap.size, 0, none⟩ (.slice va vl vc)) (W1.heap.size + 1) (.slice va vl vc) ((gPtrs x k).take (q + 1)) := by rw [HS.out]; exact OwnR.setLow o48 (Nat.lt_succ_self _) _
       have hr4 : W1.heap.size + 1 ≤ (w48.setCell ⟨W1.heap.size, 0, none⟩ (.slice va vl vc)).heap.size := by have := l48; simp; omega
       have HR1 := Lib.hid hr1
       have HR2 := Lib.hid hr2
       have HR3 := Lib.hid hr3
       have HR4 := Lib.hid hr4
       clear hr1 hr2 hr3 hr4 hb48 hk48 o48 hg48 hat48 l48 c48 f48
       go_wp2_with fail
       exact ⟨⟨q + 1, _, by omega, by omega, by go_num, HR2, HR3, HR1, HR4⟩, by simp [intOf]; omega⟩
    ·have HTK : Hid ((gPtrs x k).take q = gPtrs x k) := Lib.hid (List.take_of_length_le (by rw [HGP.out]; simp; omega))
     rw [HTK.out] at hop
     have hd1 := cell_tr hb2.out HC.out.2
     have hDs : (gData x k).length ≤ ds.length ∧ (gData x k).length ≤ 4 := by rw [HGD.out]; simp; omega
     have hmin2 : (if (4 : Int) < (ds.length : Int) then 4 else (ds.length : Int)) = ((gData x k).length : Int) := by rw [HGD.out]; simp; split <;> omega
     have HDU : Hid (RIn 1 enU wr (.slice da (gData x k).length dc) (gData x k)) := Lib.hid (by
      have := (RIn.upto HD0.out hDs.1).tr hb2.out
      rw [show ds.take (gData x k).length = gData x k by rw [HGD.out]; simp [List.take_take]] at this
      exact this)
     obtain ⟨D, hD⟩ : ∃ D, D = gData x k := ⟨_, rfl⟩
     rw [← hD] at HDU hmin2 hDs
     have HDD := Lib.hid hD
     obtain ⟨dl, hdl⟩ : ∃ n, n = D.length := ⟨_, rfl⟩
     have HDL := Lib.hid hdl
     rw [← hdl] at HDU hmin2 hDs
     have hdc : dl ≤ dc := by omega
     clear hD hdl
     have hnb1 : nb < W1.heap.size := hnb
     have hsB := hs2.out
     have hS1 : wr.cell? ⟨nb, no + k * 2 + 1, none⟩ = some (.slice da ds.length dc) := hd1
     go_upto_region 8 with (fail)
     go_cut [30] (fun v wx => v = .bool false ∧ wx = wr)
     case first =>
      go_wp2_with fail
      all_goals (try simp only [decide_eq_true_eq, decide_eq_false_iff_not] at *)
      all_goals first
       | (exfalso; omega)
       | (go_meet; first | exact ⟨rfl, rfl⟩ | exact ⟨congrArg Value.bool (decide_eq_false (by omega)), rfl⟩)
     case rest =>
     obtain ⟨rfl, hwc⟩ := hcut
     subst hwc
     go_upto_region 11 with (fail)
     refine wp_region_held_drew (S := (fun w' => w'.cell? ⟨nb, no + k * 2 + 1, none⟩ = some (.slice da ds.length dc))) (by kernel_rfl) ?_ (fun hHeld => ?_)
     ·(try dsimp only); refine s1_low (W := wc) (N := W1.heap.size) ?_ hnb1 hS1; (first | (repeat (first | with_reducible exact Below.refl _ _ | with_reducible assumption | with_reducible refine low_alloc ?_ (by omega) _ | with_reducible refine low_drew ?_ | with_reducible refine low_set ?_ (by first | omega | (simp; done) | (simp; omega)) _)))
     refine tk 0 ?_
     refine tk 1 ?_
     refine tk 2 ?_
     refine tk 3 ?_
     refine tk 4 ?_
     refine tk 5 ?_
     refine tk 6 ?_
     refine tk 7 ?_
     refine tk 8 ?_
     refine tk 9 ?_
     refine tk 10 ?_
     refine tk 11 ?_
     refine tk 12 ?_
     refine wpAnyH_ready (rs := [13]) (by kernel_rfl) (by simp) ?_
     refine AllReadyH.cons rfl (fun K hK => ?_) AllReadyH.nil
     refine step_u rfl (.const (.slice none 0 0)) (.tmp 62) rfl (W1.heap.size + 1) (.slice none 0 0) _ [] D rfl rfl (OwnR.nil _ _) ?c1 ?c0 ?c2 ?c3
     case c0 => have := HDL.out; simp; omega
     case c1 => refine HDU.out.tr ?_; exact bm
     case c2 => first | exact hsB | exact Nat.le_trans hsB (by simp)
     case c3 =>
     intro v63 w63 o63 hg63 hat63
     obtain ⟨ea, el, ec, rfl⟩ := own_form3 o63 enU_len
     obtain ⟨va, vl, vc, rfl⟩ := own_form3 hop.out enI_len
     have hk63 := gr_blk (n := W1.heap.size) (cs := #[.slice va vl vc, .slice none 0 0]) (T := 111) hg63 (by exact bk) (fun j hj => by cases hj)
     obtain ⟨l63, c63, f63⟩ := hk63.get
     have hb63 : Below W1.heap.size wc w63 := gr_low (B := W1.heap.size) hg63 (by (repeat (first | with_reducible exact Below.refl _ _ | with_reducible assumption | with_reducible refine low_alloc ?_ (by omega) _ | with_reducible refine low_drew ?_ | with_reducible refine low_set ?_ (by first | omega | (simp; done) | (simp; omega)) _))) (fun k hk => by cases hk) (Nat.le_refl _) (by omega)
     have hb64 : Below wc.heap.size wc w63 := gr_low (B := wc.heap.size) hg63 (by exact bm) (fun k hk => by cases hk) (Nat.le_refl _) (Nat.le_refl _)
     have hp63 := hop.out.tr hb64
     refine hK.out _ _ ?_ (fun hHeld => ?_)
     ·(try dsimp only); refine s1_low (W := wc) (N := W1.heap.size) ?_ hnb1 hS1; (first | (repeat (first | with_reducible exact Below.refl _ _ | with_reducible assumption | with_reducible refine low_alloc ?_ (by omega) _ | with_reducible refine low_drew ?_ | with_reducible refine low_set ?_ (by first | omega | (simp; done) | (simp; omega)) _)))
     clear hK K
     try simp only [List.getElem_toArray, List.getElem_cons_succ, List.getElem_cons_zero, Act.put, List.setIfInBounds_toArray, List.set_cons_zero, List.set_cons_succ]
     refine tk 14 ?_
     refine co 15 fun K hK => ?_
     go_simp
     skip
     refine hK.out _ _ ?_ (fun hHeld => ?_)
     ·(try dsimp only); refine s1_low (W := wc) (N := W1.heap.size) ?_ hnb1 hS1; (first | (repeat (first | with_reducible exact Below.refl _ _ | with_reducible assumption | with_reducible refine low_alloc ?_ (by omega) _ | with_reducible refine low_drew ?_ | with_reducible refine low_set ?_ (by first | omega | (simp; done) | (simp; omega)) _)))
     clear hK K
     refine nx ?_
     refine wpAnyH_done (by kernel_rfl) ?_ _
     have hr1 : Below W1.heap.size W1 (w63.setCell ⟨W1.heap.size, 1, none⟩ (.slice ea el ec)) := low_set ((hb2.out).trans hb63) (Nat.le_refl _) _
     have hr2 : Blk (w63.setCell ⟨W1.heap.size, 1, none⟩ (.slice ea el ec)) W1.heap.size #[.slice va vl vc, .slice ea el ec] 111 := hk63.set 1 (.slice ea el ec)
     have hr3 := OwnR.setLow hp63 (p := ⟨W1.heap.size, 1, none⟩) (Nat.lt_succ_self _) (.slice ea el ec)
     have hr4 := OwnR.setLow o63 (p := ⟨W1.heap.size, 1, none⟩) (Nat.lt_succ_self _) (.slice ea el ec)
     clear hp63 o63 hb63 hb64 hk63 c63 f63 l63 hg63 hat63
     generalize w63.setCell ⟨W1.heap.size, 1, none⟩ (.slice ea el ec) = W2 at *
     rw [List.nil_append, HDD.out] at hr4
     have HNN : Hid (Safe W2 (w.heap.size + 1) nv.ownBlock fun W => NodeIn W ((va, vl, vc), (ea, el, ec)) (gPtrs x k, gData x k)) := Lib.hid (by
      have h1 : ∀ j, nv.ownBlock = some j → j < W1.heap.size + 1 := fun j hj => by have := ho.out.lt j hj; omega
      have hg : w.heap.size + 1 < W1.heap.size + 1 := by have := hsz.out; omega
      exact fun W' hs hb => ⟨safe_row enI_len hr3 hg h1 W' hs hb, safe_row enU_len hr4 hg h1 W' hs hb⟩)
     have HNV := Lib.hid (ho.out.tr hr1)
     have HGB := Lib.hid (hblk.out.tr hr1)
     have HRC := Lib.hid (hrc.out.tr hr1)
     have HSF : Hid (∀ (j : Nat) (a : Sl × Sl), vs[j]? = some a → Safe W2 (w.heap.size + 1) nv.ownBlock fun W => NodeIn W a (gPtrs x j, gData x j)) := Lib.hid fun j a hj => (hsafe.out j a hj).tr hr1
     have HBW : Hid (Below w.heap.size w W2) := Lib.hid (hb.out.trans (hr1.mono hb.out.size))
     have HS2 : Hid (w.heap.size + 2 ≤ W2.heap.size) := Lib.hid (Nat.le_trans hsz.out hr1.size)
     have HGG := HGB.out
     obtain ⟨lg, cg, fg⟩ := HGG.get
     obtain ⟨lx, cx, fx⟩ := hr2.get
     obtain ⟨na0, nl0, nc0, rfl⟩ := own_form3 HNV.out enN_len
     clear hr1 hr3 hr4 hb2 hop hbk hbk0 lk ck fk ho hblk hsafe hb hsz hrc HDU HD0 HP0
     go_wp2_with (at_builtin; refine app_n _ rfl _ _ rfl (w.heap.size + 2) _ _ vs [((va, vl, vc), (ea, el, ec))] rfl rfl (HNV.out.tr ?d0) (one_g _ ((va, vl, vc), (ea, el, ec)) _ rfl _ rfl) ?d1 ?d2 ?d3)
     case d0 => exact bm
     case d1 => have := hvl.out; simp; omega
     case d2 => have := HS2.out; simp; omega
     case d3 =>
     intro v69 w69 o69 hg69 hat69
     obtain ⟨ga, gl, gc, rfl⟩ := own_form3 o69 enN_len
     have hk69 := (gr_blk hg69 (HGB.out.alloc _) (fun j hj => by have := HNV.out.block j hj; omega))
     obtain ⟨l69, c69, f69⟩ := hk69.get
     have R1 : Hid (Blk (w69.setCell ⟨w.heap.size + 1, 0, none⟩ (.slice ga gl gc)) (w.heap.size + 1) #[.slice ga gl gc, .slice none 0 0] 61) := Lib.hid (hk69.set 0 (.slice ga gl gc))
     have R2 : Hid (OwnR 111 2 enN (w69.setCell ⟨w.heap.size + 1, 0, none⟩ (.slice ga gl gc)) (w.heap.size + 2) (.slice ga gl gc) (vs ++ [((va, vl, vc), (ea, el, ec))])) := Lib.hid (OwnR.setLow o69 (Nat.lt_succ_self _) _)
     have R3 : Hid (∀ (j : Nat) (a : Sl × Sl), (vs ++ [((va, vl, vc), (ea, el, ec))])[j]? = some a → Safe (w69.setCell ⟨w.heap.size + 1, 0, none⟩ (.slice ga gl gc)) (w.heap.size + 1) (Value.slice ga gl gc).ownBlock fun W => NodeIn W a (gPtrs x j, gData x j)) := Lib.hid fun j a hj => by
      refine Safe.set (Safe.row (Safe.tr ?_ (Below.alloc (Below.refl _ _) (Nat.le_refl _) _)) hg69 (by simpa using hat69)) (Nat.le_refl _) _
      by_cases hjk : j < k
      ·rw [List.getElem?_append_left (by rw [hvl.out]; exact hjk)] at hj
       exact HSF.out j a hj
      ·have hjk2 : j = k := by
        rcases Nat.lt_or_ge j (vs ++ [((va, vl, vc), (ea, el, ec))]).length with h | h
        ·simp [hvl.out] at h; omega
        ·rw [List.getElem?_eq_none h] at hj; cases hj
       subst hjk2
       rw [List.getElem?_append_right (by rw [hvl.out]; exact Nat.le_refl _), hvl.out, Nat.sub_self] at hj
       cases hj
       exact HNN.out
     have R4 : Hid (Below w.heap.size w (w69.setCell ⟨w.heap.size + 1, 0, none⟩ (.slice ga gl gc))) := Lib.hid (low_set (gr_low hg69 (low_alloc HBW.out (Nat.le_refl _) _) HNV.out.block (by omega) (Nat.le_refl _)) (Nat.le_succ _) _)
     have R5 : Hid (w.heap.size + 2 ≤ (w69.setCell ⟨w.heap.size + 1, 0, none⟩ (.slice ga gl gc)).heap.size) := Lib.hid (by have h1 := hg69.size; have h2 := HS2.out; simp [World.setCell] at h1 ⊢; omega)
     have R7 : Hid (Blk (w69.setCell ⟨w.heap.size + 1, 0, none⟩ (.slice ga gl gc)) w.heap.size #[.slice none 0 0, .slice none 0 0] 61) := Lib.hid ((gr_blk hg69 (HRC.out.alloc _) (fun j hj => by have := HNV.out.block j hj; omega)).other (by simp) _)
     have R6 : Hid ((vs ++ [((va, vl, vc), (ea, el, ec))]).length = k + 1) := Lib.hid (by simp [hvl.out])
     clear o69 hg69 hat69 HNV HGB HSF HNN HBW HS2
     go_wp2_with fail
     exact ⟨⟨k + 1, _, _, by omega, by go_num, R6, R1, R2, R3, R4, R5, R7⟩, by simp [intOf]; omega⟩
  ·obtain rfl : k = m := by omega
   have HNX : Hid (Safe W1 (w.heap.size + 1) none fun W => NodesIn W nv (gNodes x)) := Lib.hid fun W' hs hb => by
    refine ⟨vs, ?_, safe_row enN_len ho.out (Nat.lt_succ_self _) (r := none) (fun j hj => by cases hj) W' hs hb, fun i a b ha hb2 => ?_⟩
    ·rw [hvl.out]; unfold gNodes; simp [HM.out]
    ·obtain ⟨hi, e⟩ : i < nN x ∧ b = (gPtrs x i, gData x i) := by
      unfold gNodes at hb2
      rw [List.getElem?_map] at hb2
      rcases Nat.lt_or_ge i (nN x) with h | h
      ·rw [List.getElem?_range h] at hb2
       exact ⟨h, by simpa using hb2.symm⟩
      ·rw [List.getElem?_eq_none (by simpa using h)] at hb2; cases hb2
     subst e
     exact hsafe.out i a ha W' hs fun j hj h1 _ => hb j hj h1 (by simp)
   obtain ⟨na1, nl1, nc1, rfl⟩ := own_form3 ho.out enN_len
   obtain ⟨RL, hRL⟩ : ∃ l, l = (x.roots.take 5).map fun c => pickI c ((k : Int) + 1) - 1 := ⟨_, rfl⟩
   have HRL := Lib.hid hRL
   have HRQ : Hid (∀ q (h : q < x.roots.length), q < 5 → RL.take (q + 1) = RL.take q ++ [pickI x.roots[q] ((k : Int) + 1) - 1]) := Lib.hid fun q h h5 => by
    rw [hRL, List.take_add_one, List.getElem?_map, List.getElem?_take, if_pos h5, List.getElem?_eq_getElem h]
    rfl
   have HRLL : Hid (RL.length = min 5 x.roots.length) := Lib.hid (by rw [hRL]; simp)
   clear hRL hsafe ho hvl
   generalize W1 = W3 at *
   go_wp2_with fail
   go_loopw [10] (fun i wr => ∃ (q : Nat) (qv : Value), q ≤ x.roots.length ∧ q ≤ 5 ∧ i = .int .i64 q ∧ Hid (Blk wr (w.heap.size + 1) #[.slice na1 nl1 nc1, qv] 61) ∧ Hid (OwnR 3 1 enI wr W3.heap.size qv (RL.take q)) ∧ Hid (Below w.heap.size w wr) ∧ Hid (W3.heap.size ≤ wr.heap.size) ∧ Hid (∀ j, j < W3.heap.size → w.heap.size + 1 < j → wr.heap[j]? = W3.heap[j]?) ∧ Hid (Blk wr w.heap.size #[.slice none 0 0, .slice none 0 0] 61)) (fun i _ => 5 - (intOf i).toNat)
   case atStart => exact ⟨0, _, Nat.zero_le _, Nat.zero_le _, rfl, hblk, Lib.hid (OwnR.nil _ _), hb, Lib.hid (Nat.le_refl _), Lib.hid (fun _ _ _ => rfl), hrc⟩
   case round =>
    obtain ⟨q, qv, hq, hq5, rfl, hbk, hop, hb2, hs2, hsm, hrd⟩ := hrel
    have hbk0 := hbk.out
    obtain ⟨lk, ck, fk⟩ := hbk0.get
    by_cases hl2 : q < x.roots.length ∧ q < 5
    ·obtain ⟨l1, l2⟩ := hl2
     have l1i : (q : Int) < (x.roots.length : Int) := by omega
     have l2i : (q : Int) < 5 := by omega
     have hra := r1 (by omega)
     subst hra
     have hcq := cell_tr hb2.out (HRS.out.at (i := q) (List.getElem?_eq_getElem l1) 0 _ rfl)
     rw [Nat.mul_one, Nat.add_zero] at hcq
     obtain ⟨hcI1, hcI2⟩ := HX.out.roots x.roots[q] (List.getElem_mem l1)
     have HS := Lib.hid (HRQ.out q l1 l2)
     generalize x.roots[q] = c at *
     go_upto_region 16 with (fail)
     have hpk := pickI_in c (n := (k : Int) + 1) (by omega)
     have HPK : Hid (∀ W, Calls Tryz.prog 80 #[.int .i64 c, .int .i64 ((k : Int) + 1)] W fun e w' => e = .returned (.int .i64 (pickI c ((k : Int) + 1))) ∧ W = w') := Lib.hid fun W => pick8_any c ((k : Int) + 1) W (by omega) (by omega) hcI1 hcI2
     have hwm0 : IntKind.i64.wrap ((k : Int) + 1) = (k : Int) + 1 := IntWalk.i64_in _ (by omega)
     have hwp0 : IntKind.i64.wrap (pickI c ((k : Int) + 1) - 1) = pickI c ((k : Int) + 1) - 1 := IntWalk.i64_in _ (by omega)
     have HLN : Hid ((RL.take q).length + 1 < 100000000000) := Lib.hid (by simp; omega)
     obtain ⟨M1, hwm⟩ : ∃ M, IntKind.i64.wrap ((k : Int) + 1) = M := ⟨_, rfl⟩
     rw [hwm] at hwm0
     have HS0 := HS.out
     rw [← hwm0] at HPK hwp0 HS0
     generalize pickI c M1 = Y at *
     obtain ⟨P1, hwp⟩ : ∃ M, IntKind.i64.wrap (Y - 1) = M := ⟨_, rfl⟩
     rw [hwp] at hwp0
     rw [← hwp0] at HS0
     replace HS := Lib.hid HS0
     clear hcI1 hcI2 hpk hwm0 hwp0 HS0
     generalize RL.take q = done at *
     have hS1 : wr.cell? ⟨rb, ro + q, none⟩ = some (.int .i64 c) := hcq
     have hsB : W3.heap.size ≤ wr.heap.size := hs2.out
     have hg3 : w.heap.size + 1 < W3.heap.size := by have := hblk.out.lt; omega
     have hrb : rb < w.heap.size := r5 (by omega)
     refine wp_region_held_drew (S := (fun w' => w'.cell? ⟨rb, ro + q, none⟩ = some (.int .i64 c))) (by kernel_rfl) ?_ (fun hHeld => ?_)
     ·(try dsimp only); refine s1_low (W := wr) (N := w.heap.size) ?_ hrb hS1; (first | (repeat (first | with_reducible exact Below.refl _ _ | with_reducible assumption | with_reducible refine low_alloc ?_ (by omega) _ | with_reducible refine low_drew ?_ | with_reducible refine low_set ?_ (by first | omega | (simp; done) | (simp; omega)) _)))
     refine tk 0 ?_
     refine tk 2 ?_
     refine tk 3 ?_
     refine tk 4 ?_
     refine tk 5 ?_
     refine tk 6 ?_
     refine tk 7 ?_
     refine wpAnyH_ready (rs := [1, 8]) (by kernel_rfl) (by simp) ?_
     refine AllReadyH.cons rfl (fun K hK => ?_) (AllReadyH.cons rfl (fun K hK => ?_) AllReadyH.nil)
     ·go_simp
      refine hK.out _ _ ?_ (fun hHeld => ?_)
      ·(try dsimp only); refine s1_low (W := wr) (N := w.heap.size) ?_ hrb hS1; (first | (repeat (first | with_reducible exact Below.refl _ _ | with_reducible assumption | with_reducible refine low_alloc ?_ (by omega) _ | with_reducible refine low_drew ?_ | with_reducible refine low_set ?_ (by first | omega | (simp; done) | (simp; omega)) _)))
      clear hK K
      try simp only [List.getElem_toArray, List.getElem_cons_succ, List.getElem_cons_zero, Act.put, List.setIfInBounds_toArray, List.set_cons_zero, List.set_cons_succ]
      refine co 8 fun K hK => ?_
      go_simp
      go_at_call 80; refine (HPK.out _).mono ?_; rintro e ww ⟨rfl, rfl⟩
      refine hK.out _ _ ?_ (fun hHeld => ?_)
      ·(try dsimp only); refine s1_low (W := wr) (N := w.heap.size) ?_ hrb hS1; (first | (repeat (first | with_reducible exact Below.refl _ _ | with_reducible assumption | with_reducible refine low_alloc ?_ (by omega) _ | with_reducible refine low_drew ?_ | with_reducible refine low_set ?_ (by first | omega | (simp; done) | (simp; omega)) _)))
      clear hK K
      refine nx ?_
      refine tk 9 ?_
      refine co 10 fun K hK => ?_
      go_simp
      skip
      refine hK.out _ _ ?_ (fun hHeld => ?_)
      ·(try dsimp only); refine s1_low (W := wr) (N := w.heap.size) ?_ hrb hS1; (first | (repeat (first | with_reducible exact Below.refl _ _ | with_reducible assumption | with_reducible refine low_alloc ?_ (by omega) _ | with_reducible refine low_drew ?_ | with_reducible refine low_set ?_ (by first | omega | (simp; done) | (simp; omega)) _)))
      clear hK K
      refine nx ?_
      refine wpAnyH_ready (rs := [11]) (by kernel_rfl) (by simp) ?_
      refine AllReadyH.cons rfl (fun K hK => ?_) AllReadyH.nil
      refine step_i rfl (.tmp 82) (.tmp 91) rfl W3.heap.size qv _ done [P1] rfl rfl ?c0 ?c1 HLN.out ?c2 ?c3
      case c0 => refine hop.out.tr ?_; exact bm
      case c1 => first | exact one_i _ _ rfl | exact (one_i _ _ rfl).drew
      case c2 => first | exact hsB | exact Nat.le_trans hsB (by simp)
      case c3 =>
      intro v48 w48 o48 hg48 hat48
      obtain ⟨va, vl, vc, rfl⟩ := own_form3 o48 enI_len
      have hk48 := gr_blk (n := w.heap.size + 1) (cs := #[.slice na1 nl1 nc1, qv]) (T := 61) hg48 (by exact bk) (fun j hj => by have := hop.out.block j hj; omega)
      obtain ⟨l48, c48, f48⟩ := hk48.get
      have hb48 : Below w.heap.size w w48 := gr_below hg48 (by have := hb2.out; (repeat (first | with_reducible exact Below.refl _ _ | with_reducible assumption | with_reducible refine low_alloc ?_ (by omega) _ | with_reducible refine low_drew ?_ | with_reducible refine low_set ?_ (by first | omega | (simp; done) | (simp; omega)) _))) (Nat.le_refl _) (fun j hj => by have := hop.out.block j hj; omega)
      have hb49 : Below w.heap.size wr w48 := gr_below hg48 (by (repeat (first | with_reducible exact Below.refl _ _ | with_reducible assumption | with_reducible refine low_alloc ?_ (by omega) _ | with_reducible refine low_drew ?_ | with_reducible refine low_set ?_ (by first | omega | (simp; done) | (simp; omega)) _))) (by omega) (fun j hj => by have := hop.out.block j hj; omega)
      have hb50 : Below W3.heap.size wr w48 := gr_below hg48 (by (repeat (first | with_reducible exact Below.refl _ _ | with_reducible assumption | with_reducible refine low_alloc ?_ (by omega) _ | with_reducible refine low_drew ?_ | with_reducible refine low_set ?_ (by first | omega | (simp; done) | (simp; omega)) _))) (by omega) hop.out.block
      refine hK.out _ _ ?_ (fun hHeld => ?_)
      ·(try dsimp only); refine s1_low (W := wr) (N := w.heap.size) ?_ hrb hS1; (first | (repeat (first | with_reducible exact Below.refl _ _ | with_reducible assumption | with_reducible refine low_alloc ?_ (by omega) _ | with_reducible refine low_drew ?_ | with_reducible refine low_set ?_ (by first | omega | (simp; done) | (simp; omega)) _)))
      clear hK K
      try simp only [List.getElem_toArray, List.getElem_cons_succ, List.getElem_cons_zero, Act.put, List.setIfInBounds_toArray, List.set_cons_zero, List.set_cons_succ]
      refine tk 12 ?_
      refine co 13 fun K hK => ?_
      go_simp
      skip
      refine hK.out _ _ ?_ (fun hHeld => ?_)
      ·(try dsimp only); refine s1_low (W := wr) (N := w.heap.size) ?_ hrb hS1; (first | (repeat (first | with_reducible exact Below.refl _ _ | with_reducible assumption | with_reducible refine low_alloc ?_ (by omega) _ | with_reducible refine low_drew ?_ | with_reducible refine low_set ?_ (by first | omega | (simp; done) | (simp; omega)) _)))
      clear hK K
      refine nx ?_
      refine wpAnyH_done (by kernel_rfl) ?_ _
      have HR1 : Hid (Below w.heap.size w (w48.setCell ⟨w.heap.size + 1, 1, none⟩ (.slice va vl vc))) := Lib.hid (low_set hb48 (Nat.le_succ _) _)
      have HR2 : Hid (Blk (w48.setCell ⟨w.heap.size + 1, 1, none⟩ (.slice va vl vc)) (w.heap.size + 1) #[.slice na1 nl1 nc1, .slice va vl vc] 61) := Lib.hid (hk48.set 1 (.slice va vl vc))
      have HR3 : Hid (OwnR 3 1 enI (w48.setCell ⟨w.heap.size + 1, 1, none⟩ (.slice va vl vc)) W3.heap.size (.slice va vl vc) (RL.take (q + 1))) := Lib.hid (by rw [HS.out]; exact OwnR.setLow o48 hg3 _)
      have HR4 : Hid (W3.heap.size ≤ (w48.setCell ⟨w.heap.size + 1, 1, none⟩ (.slice va vl vc)).heap.size) := Lib.hid (by have := hb50.size; simp [World.setCell]; omega)
      have HR5 : Hid (∀ j, j < W3.heap.size → w.heap.size + 1 < j → (w48.setCell ⟨w.heap.size + 1, 1, none⟩ (.slice va vl vc)).heap[j]? = W3.heap[j]?) := Lib.hid fun j h1 h2 => (Below.heap_setCell w48 ⟨w.heap.size + 1, 1, none⟩ _ j (by show j ≠ w.heap.size + 1; omega)).trans ((hb50.block j h1).trans (hsm.out j h1 h2))
      have hrd0 := hrd.out
      have HR6 : Hid (Blk (w48.setCell ⟨w.heap.size + 1, 1, none⟩ (.slice va vl vc)) w.heap.size #[.slice none 0 0, .slice none 0 0] 61) := Lib.hid ((gr_blk hg48 (by exact bk) (fun j hj => by have := hop.out.block j hj; omega)).other (by simp) _)
      clear hb48 hb49 hb50 hk48 o48 hg48 hat48 l48 c48 f48 hrd0
      go_wp2_with fail
      exact ⟨⟨q + 1, _, by omega, by omega, by go_num, HR2, HR3, HR1, HR4, HR5, HR6⟩, by simp [intOf]; omega⟩
     ·go_simp
      go_at_call 80
      refine (HPK.out _).mono ?_; rintro e ww ⟨rfl, rfl⟩
      refine hK.out _ _ ?_ (fun hHeld => ?_)
      ·(try dsimp only); refine s1_low (W := wr) (N := w.heap.size) ?_ hrb hS1; (first | (repeat (first | with_reducible exact Below.refl _ _ | with_reducible assumption | with_reducible refine low_alloc ?_ (by omega) _ | with_reducible refine low_drew ?_ | with_reducible refine low_set ?_ (by first | omega | (simp; done) | (simp; omega)) _)))
      clear hK K
      try simp only [List.getElem_toArray, List.getElem_cons_succ, List.getElem_cons_zero, Act.put, List.setIfInBounds_toArray, List.set_cons_zero, List.set_cons_succ]
      refine tk 9 ?_
      refine wpAnyH_ready (rs := [1, 10]) (by kernel_rfl) (by simp) ?_
      refine AllReadyH.cons rfl (fun K hK => ?_) (AllReadyH.cons rfl (fun K hK => ?_) AllReadyH.nil)
      ·go_simp
       refine hK.out _ _ ?_ (fun hHeld => ?_)
       ·(try dsimp only); refine s1_low (W := wr) (N := w.heap.size) ?_ hrb hS1; (first | (repeat (first | with_reducible exact Below.refl _ _ | with_reducible assumption | with_reducible refine low_alloc ?_ (by omega) _ | with_reducible refine low_drew ?_ | with_reducible refine low_set ?_ (by first | omega | (simp; done) | (simp; omega)) _)))
       clear hK K
       try simp only [List.getElem_toArray, List.getElem_cons_succ, List.getElem_cons_zero, Act.put, List.setIfInBounds_toArray, List.set_cons_zero, List.set_cons_succ]
       refine co 10 fun K hK => ?_
       go_simp
       skip
       refine hK.out _ _ ?_ (fun hHeld => ?_)
       ·(try dsimp only); refine s1_low (W := wr) (N := w.heap.size) ?_ hrb hS1; (first | (repeat (first | with_reducible exact Below.refl _ _ | with_reducible assumption | with_reducible refine low_alloc ?_ (by omega) _ | with_reducible refine low_drew ?_ | with_reducible refine low_set ?_ (by first | omega | (simp; done) | (simp; omega)) _)))
       clear hK K
       refine nx ?_
       refine wpAnyH_ready (rs := [11]) (by kernel_rfl) (by simp) ?_
       refine AllReadyH.cons rfl (fun K hK => ?_) AllReadyH.nil
       refine step_i rfl (.tmp 82) (.tmp 91) rfl W3.heap.size qv _ done [P1] rfl rfl ?c0 ?c1 HLN.out ?c2 ?c3
       case c0 => refine hop.out.tr ?_; exact bm
       case c1 => first | exact one_i _ _ rfl | exact (one_i _ _ rfl).drew
       case c2 => first | exact hsB | exact Nat.le_trans hsB (by simp)
       case c3 =>
       intro v48 w48 o48 hg48 hat48
       obtain ⟨va, vl, vc, rfl⟩ := own_form3 o48 enI_len
       have hk48 := gr_blk (n := w.heap.size + 1) (cs := #[.slice na1 nl1 nc1, qv]) (T := 61) hg48 (by exact bk) (fun j hj => by have := hop.out.block j hj; omega)
       obtain ⟨l48, c48, f48⟩ := hk48.get
       have hb48 : Below w.heap.size w w48 := gr_below hg48 (by have := hb2.out; (repeat (first | with_reducible exact Below.refl _ _ | with_reducible assumption | with_reducible refine low_alloc ?_ (by omega) _ | with_reducible refine low_drew ?_ | with_reducible refine low_set ?_ (by first | omega | (simp; done) | (simp; omega)) _))) (Nat.le_refl _) (fun j hj => by have := hop.out.block j hj; omega)
       have hb49 : Below w.heap.size wr w48 := gr_below hg48 (by (repeat (first | with_reducible exact Below.refl _ _ | with_reducible assumption | with_reducible refine low_alloc ?_ (by omega) _ | with_reducible refine low_drew ?_ | with_reducible refine low_set ?_ (by first | omega | (simp; done) | (simp; omega)) _))) (by omega) (fun j hj => by have := hop.out.block j hj; omega)
       have hb50 : Below W3.heap.size wr w48 := gr_below hg48 (by (repeat (first | with_reducible exact Below.refl _ _ | with_reducible assumption | with_reducible refine low_alloc ?_ (by omega) _ | with_reducible refine low_drew ?_ | with_reducible refine low_set ?_ (by first | omega | (simp; done) | (simp; omega)) _))) (by omega) hop.out.block
       refine hK.out _ _ ?_ (fun hHeld => ?_)
       ·(try dsimp only); refine s1_low (W := wr) (N := w.heap.size) ?_ hrb hS1; (first | (repeat (first | with_reducible exact Below.refl _ _ | with_reducible assumption | with_reducible refine low_alloc ?_ (by omega) _ | with_reducible refine low_drew ?_ | with_reducible refine low_set ?_ (by first | omega | (simp; done) | (simp; omega)) _)))
       clear hK K
       try simp only [List.getElem_toArray, List.getElem_cons_succ, List.getElem_cons_zero, Act.put, List.setIfInBounds_toArray, List.set_cons_zero, List.set_cons_succ]
       refine tk 12 ?_
       refine co 13 fun K hK => ?_
       go_simp
       skip
       refine hK.out _ _ ?_ (fun hHeld => ?_)
       ·(try dsimp only); refine s1_low (W := wr) (N := w.heap.size) ?_ hrb hS1; (first | (repeat (first | with_reducible exact Below.refl _ _ | with_reducible assumption | with_reducible refine low_alloc ?_ (by omega) _ | with_reducible refine low_drew ?_ | with_reducible refine low_set ?_ (by first | omega | (simp; done) | (simp; omega)) _)))
       clear hK K
       refine nx ?_
       refine wpAnyH_done (by kernel_rfl) ?_ _
       have HR1 : Hid (Below w.heap.size w (w48.setCell ⟨w.heap.size + 1, 1, none⟩ (.slice va vl vc))) := Lib.hid (low_set hb48 (Nat.le_succ _) _)
       have HR2 : Hid (Blk (w48.setCell ⟨w.heap.size + 1, 1, none⟩ (.slice va vl vc)) (w.heap.size + 1) #[.slice na1 nl1 nc1, .slice va vl vc] 61) := Lib.hid (hk48.set 1 (.slice va vl vc))
       have HR3 : Hid (OwnR 3 1 enI (w48.setCell ⟨w.heap.size + 1, 1, none⟩ (.slice va vl vc)) W3.heap.size (.slice va vl vc) (RL.take (q + 1))) := Lib.hid (by rw [HS.out]; exact OwnR.setLow o48 hg3 _)
       have HR4 : Hid (W3.heap.size ≤ (w48.setCell ⟨w.heap.size + 1, 1, none⟩ (.slice va vl vc)).heap.size) := Lib.hid (by have := hb50.size; simp [World.setCell]; omega)
       have HR5 : Hid (∀ j, j < W3.heap.size → w.heap.size + 1 < j → (w48.setCell ⟨w.heap.size + 1, 1, none⟩ (.slice va vl vc)).heap[j]? = W3.heap[j]?) := Lib.hid fun j h1 h2 => (Below.heap_setCell w48 ⟨w.heap.size + 1, 1, none⟩ _ j (by show j ≠ w.heap.size + 1; omega)).trans ((hb50.block j h1).trans (hsm.out j h1 h2))
       have hrd0 := hrd.out
       have HR6 : Hid (Blk (w48.setCell ⟨w.heap.size + 1, 1, none⟩ (.slice va vl vc)) w.heap.size #[.slice none 0 0, .slice none 0 0] 61) := Lib.hid ((gr_blk hg48 (by exact bk) (fun j hj => by have := hop.out.block j hj; omega)).other (by simp) _)
       clear hb48 hb49 hb50 hk48 o48 hg48 hat48 l48 c48 f48 hrd0
       go_wp2_with fail
       exact ⟨⟨q + 1, _, by omega, by omega, by go_num, HR2, HR3, HR1, HR4, HR5, HR6⟩, by simp [intOf]; omega⟩
      ·go_simp
       refine hK.out _ _ ?_ (fun hHeld => ?_)
       ·(try dsimp only); refine s1_low (W := wr) (N := w.heap.size) ?_ hrb hS1; (first | (repeat (first | with_reducible exact Below.refl _ _ | with_reducible assumption | with_reducible refine low_alloc ?_ (by omega) _ | with_reducible refine low_drew ?_ | with_reducible refine low_set ?_ (by first | omega | (simp; done) | (simp; omega)) _)))
       clear hK K
       try simp only [List.getElem_toArray, List.getElem_cons_succ, List.getElem_cons_zero, Act.put, List.setIfInBounds_toArray, List.set_cons_zero, List.set_cons_succ]
       refine co 1 fun K hK => ?_
       go_simp
       skip
       refine hK.out _ _ ?_ (fun hHeld => ?_)
       ·(try dsimp only); refine s1_low (W := wr) (N := w.heap.size) ?_ hrb hS1; (first | (repeat (first | with_reducible exact Below.refl _ _ | with_reducible assumption | with_reducible refine low_alloc ?_ (by omega) _ | with_reducible refine low_drew ?_ | with_reducible refine low_set ?_ (by first | omega | (simp; done) | (simp; omega)) _)))
       clear hK K
       refine nx ?_
       refine wpAnyH_ready (rs := [11]) (by kernel_rfl) (by simp) ?_
       refine AllReadyH.cons rfl (fun K hK => ?_) AllReadyH.nil
       refine step_i rfl (.tmp 82) (.tmp 91) rfl W3.heap.size qv _ done [P1] rfl rfl ?c0 ?c1 HLN.out ?c2 ?c3
       case c0 => refine hop.out.tr ?_; exact bm
       case c1 => first | exact one_i _ _ rfl | exact (one_i _ _ rfl).drew
       case c2 => first | exact hsB | exact Nat.le_trans hsB (by simp)
       case c3 =>
       intro v48 w48 o48 hg48 hat48
       obtain ⟨va, vl, vc, rfl⟩ := own_form3 o48 enI_len
       have hk48 := gr_blk (n := w.heap.size + 1) (cs := #[.slice na1 nl1 nc1, qv]) (T := 61) hg48 (by exact bk) (fun j hj => by have := hop.out.block j hj; omega)
       obtain ⟨l48, c48, f48⟩ := hk48.get
       have hb48 : Below w.heap.size w w48 := gr_below hg48 (by have := hb2.out; (repeat (first | with_reducible exact Below.refl _ _ | with_reducible assumption | with_reducible refine low_alloc ?_ (by omega) _ | with_reducible refine low_drew ?_ | with_reducible refine low_set ?_ (by first | omega | (simp; done) | (simp; omega)) _))) (Nat.le_refl _) (fun j hj => by have := hop.out.block j hj; omega)
       have hb49 : Below w.heap.size wr w48 := gr_below hg48 (by (repeat (first | with_reducible exact Below.refl _ _ | with_reducible assumption | with_reducible refine low_alloc ?_ (by omega) _ | with_reducible refine low_drew ?_ | with_reducible refine low_set ?_ (by first | omega | (simp; done) | (simp; omega)) _))) (by omega) (fun j hj => by have := hop.out.block j hj; omega)
       have hb50 : Below W3.heap.size wr w48 := gr_below hg48 (by (repeat (first | with_reducible exact Below.refl _ _ | with_reducible assumption | with_reducible refine low_alloc ?_ (by omega) _ | with_reducible refine low_drew ?_ | with_reducible refine low_set ?_ (by first | omega | (simp; done) | (simp; omega)) _))) (by omega) hop.out.block
       refine hK.out _ _ ?_ (fun hHeld => ?_)
       ·(try dsimp only); refine s1_low (W := wr) (N := w.heap.size) ?_ hrb hS1; (first | (repeat (first | with_reducible exact Below.refl _ _ | with_reducible assumption | with_reducible refine low_alloc ?_ (by omega) _ | with_reducible refine low_drew ?_ | with_reducible refine low_set ?_ (by first | omega | (simp; done) | (simp; omega)) _)))
       clear hK K
       try simp only [List.getElem_toArray, List.getElem_cons_succ, List.getElem_cons_zero, Act.put, List.setIfInBounds_toArray, List.set_cons_zero, List.set_cons_succ]
       refine tk 12 ?_
       refine co 13 fun K hK => ?_
       go_simp
       skip
       refine hK.out _ _ ?_ (fun hHeld => ?_)
       ·(try dsimp only); refine s1_low (W := wr) (N := w.heap.size) ?_ hrb hS1; (first | (repeat (first | with_reducible exact Below.refl _ _ | with_reducible assumption | with_reducible refine low_alloc ?_ (by omega) _ | with_reducible refine low_drew ?_ | with_reducible refine low_set ?_ (by first | omega | (simp; done) | (simp; omega)) _)))
       clear hK K
       refine nx ?_
       refine wpAnyH_done (by kernel_rfl) ?_ _
       have HR1 : Hid (Below w.heap.size w (w48.setCell ⟨w.heap.size + 1, 1, none⟩ (.slice va vl vc))) := Lib.hid (low_set hb48 (Nat.le_succ _) _)
       have HR2 : Hid (Blk (w48.setCell ⟨w.heap.size + 1, 1, none⟩ (.slice va vl vc)) (w.heap.size + 1) #[.slice na1 nl1 nc1, .slice va vl vc] 61) := Lib.hid (hk48.set 1 (.slice va vl vc))
       have HR3 : Hid (OwnR 3 1 enI (w48.setCell ⟨w.heap.size + 1, 1, none⟩ (.slice va vl vc)) W3.heap.size (.slice va vl vc) (RL.take (q + 1))) := Lib.hid (by rw [HS.out]; exact OwnR.setLow o48 hg3 _)
       have HR4 : Hid (W3.heap.size ≤ (w48.setCell ⟨w.heap.size + 1, 1, none⟩ (.slice va vl vc)).heap.size) := Lib.hid (by have := hb50.size; simp [World.setCell]; omega)
       have HR5 : Hid (∀ j, j < W3.heap.size → w.heap.size + 1 < j → (w48.setCell ⟨w.heap.size + 1, 1, none⟩ (.slice va vl vc)).heap[j]? = W3.heap[j]?) := Lib.hid fun j h1 h2 => (Below.heap_setCell w48 ⟨w.heap.size + 1, 1, none⟩ _ j (by show j ≠ w.heap.size + 1; omega)).trans ((hb50.block j h1).trans (hsm.out j h1 h2))
       have hrd0 := hrd.out
       have HR6 : Hid (Blk (w48.setCell ⟨w.heap.size + 1, 1, none⟩ (.slice va vl vc)) w.heap.size #[.slice none 0 0, .slice none 0 0] 61) := Lib.hid ((gr_blk hg48 (by exact bk) (fun j hj => by have := hop.out.block j hj; omega)).other (by simp) _)
       clear hb48 hb49 hb50 hk48 o48 hg48 hat48 l48 c48 f48 hrd0
       go_wp2_with fail
       exact ⟨⟨q + 1, _, by omega, by omega, by go_num, HR2, HR3, HR1, HR4, HR5, HR6⟩, by simp [intOf]; omega⟩
    ·have HTK : Hid (RL.take q = RL) := Lib.hid (List.take_of_length_le (by rw [HRLL.out]; omega))
     rw [HTK.out] at hop
     go_upto_region 14 with (fail)
     go_cut [78] (fun v wx => v = .bool false ∧ wx = wr)
     case first =>
      go_wp2_with fail
      all_goals (try simp only [decide_eq_true_eq, decide_eq_false_iff_not] at *)
      all_goals first
       | (exfalso; omega)
       | (go_meet; first | exact ⟨rfl, rfl⟩ | exact ⟨congrArg Value.bool (decide_eq_false (by omega)), rfl⟩)
     case rest =>
     obtain ⟨rfl, hwc⟩ := hcut
     subst hwc
     obtain ⟨qa, qc, eq, _⟩ := hop.out.form enI_len
     obtain ⟨ql, hql⟩ : ∃ n, n = RL.length := ⟨_, rfl⟩
     rw [← hql] at eq
     subst eq
     have HQL : Hid (ql = RL.length) := Lib.hid hql
     clear hql
     have hg3 : w.heap.size + 1 < W3.heap.size := by have := hblk.out.lt; omega
     by_cases hre : x.roots.length = 0
     ·have hq0 : ((ql : Int) == 0) = true := by rw [HQL.out, HRLL.out, hre]; rfl
      have hwk : IntKind.i64.wrap ((k : Int) - 1) = (k : Int) - 1 := IntWalk.i64_in _ (by omega)
      have hR0 : RL = [] := List.eq_nil_of_length_eq_zero (by rw [HRLL.out]; omega)
      subst hR0
      have HGR : Hid (gRoots x = [(k : Int) - 1]) := Lib.hid (by unfold gRoots; rw [if_pos (List.eq_nil_of_length_eq_zero hre), HM.out])
      go_wp2_with (at_builtin; refine app_i _ rfl _ _ rfl W3.heap.size _ _ [] [(k : Int) - 1] rfl rfl (hop.out.tr ?d0) (one_i _ _ rfl) ?d1 ?d2 ?d3)
      case d0 => exact bm
      case d1 => simp
      case d2 => have := hs2.out; simp; omega
      case d3 =>
      intro v48 w48 o48 hg48 hat48
      obtain ⟨va, vl, vc, rfl⟩ := own_form3 o48 enI_len
      have hk48 := gr_blk (n := w.heap.size + 1) (cs := #[.slice na1 nl1 nc1, .slice qa ql qc]) (T := 61) hg48 (by exact bk) (fun j hj => by have := hop.out.block j hj; omega)
      obtain ⟨l48, c48, f48⟩ := hk48.get
      have hs3 := hs2.out
      have hb48 : Below w.heap.size w w48 := gr_below hg48 (low_alloc hb2.out (Nat.le_refl _) _) (Nat.le_refl _) (fun j hj => by have := hop.out.block j hj; omega)
      have hb50 : Below W3.heap.size wc w48 := gr_below hg48 (low_alloc (Below.refl _ _) (by omega) _) (by omega) hop.out.block
      have HN2 := Lib.hid (Safe.go HNX.out (W1 := w48) (r' := none) (Nat.le_trans hs3 hb50.size) (fun j h1 h2 _ => (hb50.block j h1).trans (hsm.out j h1 h2)) (fun j _ e => e))
      have HQ2 := Lib.hid (safe_row enI_len o48 hg3 (r := none) (fun j hj => by cases hj))
      have HB2 := Lib.hid hb48
      have hkr := gr_blk hg48 (hrd.out.alloc _) (fun j hj => by have := hop.out.block j hj; omega)
      obtain ⟨lr, cr, fr⟩ := hkr.get
      clear hb50 hg48 hat48 o48 hb48
      go_wp2_with fail
      refine bodyPost_ret (v := .agg #[.slice na1 nl1 nc1, .slice va vl vc]) (by simp only [results, Tryz.results56]; go_simp) rfl ⟨⟨.slice na1 nl1 nc1, .slice va vl vc, rfl, ?_, ?_⟩, ?_⟩
      ·exact Safe.set (Safe.set (Safe.set HN2.out (Nat.le_refl _) _) (Nat.le_succ _) _) (Nat.le_succ _) _
      ·rw [HGR.out]
       exact Safe.set (Safe.set (Safe.set HQ2.out (Nat.le_refl _) _) (Nat.le_succ _) _) (Nat.le_succ _) _
      ·exact low_set (low_set (low_set HB2.out (Nat.le_succ _) _) (Nat.le_refl _) _) (Nat.le_refl _) _
     ·have hq0 : ((ql : Int) == 0) = false := by have h1 := HQL.out; have h2 := HRLL.out; rw [beq_eq_false_iff_ne]; omega
      have HGR : Hid (gRoots x = RL) := Lib.hid (by unfold gRoots; rw [if_neg (fun e => hre (by rw [e]; rfl)), HRL.out, HM.out])
      have HN2 := Lib.hid (Safe.go HNX.out (W1 := wc) (r' := none) hs2.out (fun j h1 h2 _ => hsm.out j h1 h2) (fun j _ e => e))
      have HQ2 := Lib.hid (safe_row enI_len hop.out hg3 (r := none) (fun j hj => by cases hj))
      have hkr := hrd.out
      obtain ⟨lr, cr, fr⟩ := hkr.get
      go_wp2_with fail
      refine bodyPost_ret (v := .agg #[.slice na1 nl1 nc1, .slice qa ql qc]) (by simp only [results, Tryz.results56]; go_simp) rfl ⟨⟨.slice na1 nl1 nc1, .slice qa ql qc, rfl, ?_, ?_⟩, ?_⟩
      ·exact Safe.set (Safe.set HN2.out (Nat.le_succ _) _) (Nat.le_succ _) _
      ·rw [HGR.out]
       exact Safe.set (Safe.set HQ2.out (Nat.le_succ _) _) (Nat.le_succ _) _
      ·exact low_set (low_set hb2.out (Nat.le_refl _) _) (Nat.le_refl _) _
end Go.Proofs.YtpgjploaliefdaaGreat.rh
