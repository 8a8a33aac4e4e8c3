/- Layer 11's raw heaps: where each node stands. No conditions. -/
import Derived.Test.YtpgjploaliefdaaGreatTk
import Derived.Test.YtpgjploaliefdaaGreatG20
namespace Go.Proofs.YtpgjploaliefdaaGreat.rh
open Go Go.RowKit hp ob hd cp ck gr lx
set_option linter.unusedVariables false
set_option linter.unusedSimpArgs false
set_option maxRecDepth 100000
set_option maxHeartbeats 4000000
def StandR (x : Rh) (c : Bool) (w : World) (e : Ending) (w' : World) : Prop := (∃ (v : Hv) (gs qs hs os : Sl), e = .returned (builtV (standH x c) v (slV gs) (slV qs) (slV hs) (slV os)) ∧ Off w' 0 w.heap.size fun W => FIn W x c (standH x c) v gs qs hs os) ∧ Below w.heap.size w w'
theorem stand_any (X : Xv) (x : Rh) (c : Bool) (w : World) (hx : XIn w X x) :
  Calls Tryz.prog 21 #[.agg (xCells X x), .bool c] w fun e w' => StandR x c w e w' := by
 obtain ⟨⟨a1, n1, c1⟩, ⟨a2, n2, c2⟩, ⟨a3, n3, c3⟩⟩ := X
 have HXI := Lib.hid hx
 have hg : Hid (∀ W, Below w.heap.size w W → Calls Tryz.prog 56 #[.slice a1 n1 c1, .slice a2 n2 c2] W fun e w' => (∃ gv qv, e = .returned (.agg #[gv, qv]) ∧ Safe w' (W.heap.size + 1) none (fun W => NodesIn W gv (gNodes x)) ∧ Safe w' (W.heap.size + 1) none (fun W => RIn 1 enI W qv (gRoots x))) ∧ Below W.heap.size W w') := Lib.hid fun W hb => graph_any _ _ x W (hx.nodes.tr hb) (hx.roots.tr hb) hx.num
 have hcl : Hid (∀ W (i : Nat), i < 10 → Below w.heap.size w W → Calls Tryz.prog 57 #[.agg (xCells ⟨(a1, n1, c1), (a2, n2, c2), (a3, n3, c3)⟩ x), .int .i64 i, .bool c] W fun e w' => e = .returned (.tuple #[.int .i64 (clK x c i), .bool (clF x i)]) ∧ Below W.heap.size W w') := Lib.hid fun W i hi hb => class_any _ x i hi c W (hx.tr hb)
 unfold xCells slV at *
 dsimp only at *
 clear hx
 go_enter Tryz.func21, Tryz.ntmps21
 go_wp2_with fail
 refine (hg.out _ ?_).mono ?_
 ·exact bm
 rintro e w1 ⟨⟨gv, qv, rfl, hgs, hgr⟩, k1⟩
 have hgn := hgs.now
 have hgq := hgr.now
 have hww : w.heap.size + 2 ≤ w1.heap.size := by have := k1.size; simpa using this
 have KX := ((Blk.new w #[.slice a1 n1 c1, .slice a2 n2 c2, .slice a3 n3 c3, .int .u64 x.base, .int .i64 x.slack, .int .i64 x.scan, .int .i64 x.tt] 26).alloc (.cells (bCells (.slice none 0 0) (.slice none 0 0) (.slice none 0 0) (.slice none 0 0)) 64)).tr k1
 have KR : Blk w1 (w.heap.size + 1) (bCells (.slice none 0 0) (.slice none 0 0) (.slice none 0 0) (.slice none 0 0)) 64 := (Blk.mk (by simp)).tr k1
 have HGS := Lib.hid hgs
 have HGR := Lib.hid hgr
 obtain ⟨vs, hvl, hvs, hnn⟩ := hgn
 obtain ⟨ga, gb, go, gc, rfl, g1, g2, g3, g4, g5, g6⟩ := hvs.form
 obtain ⟨qa, qb, qo, qc, rfl, q1, q2, q3, q4, q5, q6⟩ := hgq.form
 have hgl : (gNodes x).length = nN x := by unfold gNodes; simp
 have hN10 := nN_le x
 rw [hvl, hgl] at g1 g3 g5
 rw [hvl, hgl] at HGS
 have HVS := Lib.hid g6
 have HNN := Lib.hid hnn
 have HHL := Lib.hid (hof_le x c)
 have HOL := Lib.hid (oof_le x c)
 have HHM : Hid (∀ p k, k ≤ nN x → hof x c p k ≤ hof x c p (nN x)) := Lib.hid fun p k h => offs_mono _ _ p h
 have HOM : Hid (∀ p k, k ≤ nN x → oof x c p k ≤ oof x c p (nN x)) := Lib.hid fun p k h => offs_mono _ _ p h
 have HVL : Hid (vs.length = nN x) := Lib.hid (by rw [hvl, hgl])
 have HGN : Hid (∀ k, k < nN x → (gNodes x)[k]? = some (gPtrs x k, gData x k)) := Lib.hid fun k hk => by unfold gNodes; rw [List.getElem?_map, List.getElem?_range hk]; rfl
 rw [hvl, hgl]
 generalize hNe : nN x = N at *
 clear g6 hnn hvs hvl hgl g2 hgs hgr
 go_wp2_with fail
 go_loopw [7, 8] (fun wt i wr => ∃ (k : Nat) (hv ov : Value), k ≤ N ∧ i = .int .i64 k ∧ wt = .int .i64 (hof x c 0 k) ∧ Hid (sInv x c w w1 ⟨(a1, n1, c1), (a2, n2, c2), (a3, n3, c3)⟩ (.slice ga N gc) (.slice qa (gRoots x).length qc) k hv ov wr)) (fun _ i _ => N - (intOf i).toNat)
 case atStart =>
  refine ⟨0, .slice none 0 0, .slice none 0 0, Nat.zero_le _, rfl, rfl, Lib.hid ⟨(Blk.new _ _ _).alloc _, Blk.mk (by simp), OwnR.nil _ _, OwnR.nil _ _, .inl rfl, ?_, by simp⟩⟩
  exact bm
 case round =>
  obtain ⟨k, hv, ov, hk, rfl, rfl, hI⟩ := hrel
  obtain ⟨ib, inn, ih, io, iap, ibel, isz⟩ := hI.out
  unfold bCells at ib
  by_cases hlt : k < N
  ·have hkv : k < vs.length := by rw [HVL.out]; exact hlt
   have had := g1 (by omega)
   subst had
   obtain ⟨⟨⟨pa, pn, pc⟩, ⟨da, dn, dc⟩⟩, ha⟩ : ∃ a, vs[k] = a := ⟨_, rfl⟩
   have hc0 := cell_tr ibel (HVS.out.at (i := k) (List.getElem?_eq_getElem hkv) 0 (.slice pa pn pc) (by rw [ha]; rfl))
   have hc1 := cell_tr ibel (HVS.out.at (i := k) (List.getElem?_eq_getElem hkv) 1 (.slice da dn dc) (by rw [ha]; rfl))
   rw [Nat.add_zero] at hc0
   obtain ⟨hp0, hd0⟩ := HNN.out k ((pa, pn, pc), (da, dn, dc)) (gPtrs x k, gData x k) (by rw [List.getElem?_eq_getElem hkv, ha]) (HGN.out k hlt)
   obtain ⟨_, _, _, _, e1, _⟩ := hp0.form
   obtain ⟨_, _, _, _, e2, _⟩ := hd0.form
   simp only [slV, Value.slice.injEq] at e1 e2
   obtain ⟨rfl, rfl, rfl⟩ := e1
   obtain ⟨rfl, rfl, rfl⟩ := e2
   have hsl := slN_le x k
   obtain ⟨Z, hZ⟩ : ∃ Z, Z = 1 + slN x k := ⟨_, rfl⟩
   have hZ2 : Z = 1 + ((gPtrs x k).length + (gData x k).length) := hZ
   have hZ9 : Z ≤ 9 := by omega
   have HZ := Lib.hid hZ
   generalize (gPtrs x k).length = P at *
   generalize (gData x k).length = D at *
   obtain ⟨lb, cb, fb⟩ := ib.get
   obtain ⟨ln, cn, fn⟩ := inn.get
   have hw1 : IntKind.i64.wrap (1 + (P : Int)) = 1 + (P : Int) := IntWalk.i64_in _ (by omega)
   have hw2 : IntKind.i64.wrap (1 + (P : Int) + (D : Int)) = (Z : Int) := by rw [IntWalk.i64_in _ (by omega)]; omega
   have hPD : 1 + P ≤ 9 := by omega
   clear hp0 hd0 hkv ha hZ hZ2 hsl
   rcases parts_of x c k with ⟨hK, hH, hO⟩ | ⟨hK, rfl, hH, hO⟩ | ⟨hK, rfl, hH, hO⟩ | ⟨hK, rfl, hH, hO⟩
   ·have HC1 : Hid (∀ W, Below w.heap.size w W → Calls Tryz.prog 57 #[.agg #[.slice a1 n1 c1, .slice a2 n2 c2, .slice a3 n3 c3, .int .u64 x.base, .int .i64 x.slack, .int .i64 x.scan, .int .i64 x.tt], .int .i64 k, .bool _] W fun e w' => e = .returned (.tuple #[.int .i64 0, .bool (clF x k)]) ∧ Below W.heap.size W w') := Lib.hid fun W hb => by
     have := hcl.out W k (by omega) hb
     rw [hK] at this
     try rw [hf] at this
     exact this
    have hbw : Below w.heap.size w wr := by exact bm
    have kx := KX.tr ibel
    obtain ⟨lx, cx, fx⟩ := kx.get
    go_wp2_with fail
    refine (HC1.out _ ?_).mono ?_
    ·exact bm
    rintro e w2 ⟨rfl, k2⟩
    replace ib := ib.tr k2
    replace inn := inn.tr k2
    replace ih := ih.tr k2
    replace io := io.tr k2
    replace hc0 := cell_tr k2 hc0
    replace hc1 := cell_tr k2 hc1
    have hs2 := k2.size
    replace ibel := kp_tr ibel k2
    obtain ⟨lb, cb, fb⟩ := ib.get
    obtain ⟨ln, cn, fn⟩ := inn.get
    clear HC1 hbw kx lx cx fx k2 hI
    go_upto_region 8 with (fail)
    go_quiet (fail)
    have kq : Below w2.heap.size w2 (w2.drewN nq) := below_drewN (Below.refl _ _) nq
    replace ib := ib.tr kq
    replace inn := inn.tr kq
    replace ih := ih.tr kq
    replace io := io.tr kq
    replace ibel := kp_tr ibel kq
    have hsq := kq.size
    clear lb cb fb ln cn fn kq
    generalize w2.drewN nq = W2 at *
    obtain ⟨lb, cb, fb⟩ := ib.get
    obtain ⟨ln, cn, fn⟩ := inn.get
    have hisz : w1.heap.size + 2 ≤ W2.heap.size := by omega
    have hKr : Hid (∀ j, hv.ownBlock = some j → j < W2.heap.size) := Lib.hid fun j hj => ih.lt j hj
    have HU0 : Hid (hof x c 0 (k + 1) = hof x c 0 k + if hpt x c k = 0 then 1 + slN x k else 0) := rfl
    have HU1 : Hid (hof x c 1 (k + 1) = hof x c 1 k + if hpt x c k = 1 then 1 + slN x k else 0) := rfl
    have HU2 : Hid (hof x c 2 (k + 1) = hof x c 2 k + if hpt x c k = 2 then 1 + slN x k else 0) := rfl
    have HU3 : Hid (oof x c 3 (k + 1) = oof x c 3 k + if opt x c k = 3 then 1 + slN x k else 0) := rfl
    have HU4 : Hid (oof x c 4 (k + 1) = oof x c 4 k + if opt x c k = 4 then 1 + slN x k else 0) := rfl
    have hm0 := HHM.out 0 k (by omega)
    have hm1 := HHM.out 1 k (by omega)
    have hm2 := HHM.out 2 k (by omega)
    have hm3 := HOM.out 3 k (by omega)
    have hm4 := HOM.out 4 k (by omega)
    have hhl := HHL.out
    have hol := HOL.out
    have HPH : Hid (plH x c k = (hpt x c k, if hpt x c k = 0 then 0 else hof x c (hpt x c k) k)) := rfl
    have HPO : Hid (plO x c k = (opt x c k, if opt x c k = 0 then 0 else oof x c (opt x c k) k)) := rfl
    have HLs := Lib.hid (hereL_succ x c k)
    have OLs := Lib.hid (oldL_succ x c k)
    have HLl : Hid ((hereL x c k).length = k) := Lib.hid (by unfold hereL; simp)
    have OLl : Hid ((oldL x c k).length = k) := Lib.hid (by unfold oldL; simp)
    rw [hH] at HU0 HU1 HU2 HPH
    rw [hO] at HU3 HU4 HPO
    rw [← HZ.out] at HU0 HU1 HU2 HU3 HU4
    have hb0 : hof x c 0 k ≤ 90 := by omega
    have hb1 : hof x c 1 k ≤ 90 := by omega
    have hb2 : hof x c 2 k ≤ 90 := by omega
    have hb3 : oof x c 3 k ≤ 90 := by omega
    have hb4 : oof x c 4 k ≤ 90 := by omega
    clear hm0 hm1 hm2 hm3 hm4 hhl hol
    generalize hof x c 0 k = A0 at *
    generalize hof x c 1 k = A1 at *
    generalize hof x c 2 k = A2 at *
    generalize oof x c 3 k = A3 at *
    generalize oof x c 4 k = A4 at *
    have hz0 : IntKind.i64.wrap ((A0 : Int) + (Z : Int)) = (A0 : Int) + (Z : Int) := IntWalk.i64_in _ (by omega)
    have hz1 : IntKind.i64.wrap ((A1 : Int) + (Z : Int)) = (A1 : Int) + (Z : Int) := IntWalk.i64_in _ (by omega)
    have hz2 : IntKind.i64.wrap ((A2 : Int) + (Z : Int)) = (A2 : Int) + (Z : Int) := IntWalk.i64_in _ (by omega)
    have hz3 : IntKind.i64.wrap ((A3 : Int) + (Z : Int)) = (A3 : Int) + (Z : Int) := IntWalk.i64_in _ (by omega)
    have hz4 : IntKind.i64.wrap ((A4 : Int) + (Z : Int)) = (A4 : Int) + (Z : Int) := IntWalk.i64_in _ (by omega)
    go_upto_region 21 with (fail)
    have hSP : SP (W2.setCell ⟨w1.heap.size + 1, 2, none⟩ (.int .i64 ((A2 : Int) + (Z : Int)))) w1 _ _ _ _ _ _ W2.heap.size := SP.set ⟨ib, inn, ih, io, ibel, rfl⟩ 2 _
    clear ib inn ih io ibel lb cb fb ln cn fn
    generalize W2.setCell ⟨w1.heap.size + 1, 2, none⟩ (.int .i64 ((A2 : Int) + (Z : Int))) = Wn at *
    obtain ⟨ib, inn, ih, io, ibel, hszn⟩ := hSP
    generalize W2.heap.size = S at *
    have K1 : Blk ((Wn.alloc (.cells #[.int .i64 2, .int .i64 A2] 113)).alloc (.cells #[.int .i64 0, .int .i64 0] 113)) S #[.int .i64 2, .int .i64 A2] 113 := (Blk.mk hszn.symm).alloc _
    have K2 : Blk ((Wn.alloc (.cells #[.int .i64 2, .int .i64 A2] 113)).alloc (.cells #[.int .i64 0, .int .i64 0] 113)) (S + 1) #[.int .i64 0, .int .i64 0] 113 := Blk.mk (by simp [hszn])
    have kA : Below Wn.heap.size Wn ((Wn.alloc (.cells #[.int .i64 2, .int .i64 A2] 113)).alloc (.cells #[.int .i64 0, .int .i64 0] 113)) := by exact bm
    replace ib := ib.tr kA
    replace inn := inn.tr kA
    replace ih := ih.tr kA
    replace io := io.tr kA
    replace ibel := kp_tr ibel kA
    have hs3 := kA.size
    clear kA hszn
    generalize (Wn.alloc (.cells #[.int .i64 2, .int .i64 A2] 113)).alloc (.cells #[.int .i64 0, .int .i64 0] 113) = W3 at *
    obtain ⟨lb, cb, fb⟩ := ib.get
    obtain ⟨l1, d1, f1⟩ := K1.get
    obtain ⟨l2, d2, f2⟩ := K2.get
    obtain ⟨hva, hvl, hvc, rfl⟩ := own_form3 ih enP_len
    obtain ⟨ova, ovl, ovc, rfl⟩ := own_form3 io enP_len
    have hS3 : w1.heap.size + 2 ≤ W3.heap.size := by omega
    go_wp2_with (at_builtin; refine app_p _ rfl _ _ rfl (w1.heap.size + 2) _ _ (hereL x c k) [(2, A2)] rfl rfl (ih.tr ?e0) (one_g _ ((2 : Nat), (A2 : Nat)) _ rfl _ rfl) ?e1 ?e2 ?e3)
    case e0 => exact bm
    case e1 => have := HLl.out; first | omega | (simp; omega)
    case e2 => first | omega | (simp; omega)
    case e3 =>
    intro v4 w4 o4 hg4 hat4
    obtain ⟨va, vl, vc, rfl⟩ := own_form3 o4 enP_len
    have ib4 := gr_blk hg4 (ib.alloc _) (fun j hj => by have := ih.block j hj; omega)
    have inn4 := gr_blk hg4 (inn.alloc _) (fun j hj => by have := ih.block j hj; omega)
    have K24 := gr_blk hg4 (K2.alloc _) (fun j hj => by have := ih.lt j hj; have := hKr.out j hj; omega)
    have io4 : OwnR 113 2 enP w4 (w1.heap.size + 2) (.slice ova ovl ovc) (oldL x c k) := OwnR.row (io.tr (Below.alloc (Below.refl _ _) (Nat.le_refl _) _)) hg4 iap.sym
    have iap4 : Apt (.slice va vl vc) (.slice ova ovl ovc) := Apt.left iap hat4 (fun j hj => by have := io.lt j hj; simp; omega)
    have ibel4 : Below w1.heap.size w1 w4 := gr_low (B := w1.heap.size + 2) hg4 (low_alloc ibel (Nat.le_refl _) _) ih.block (by omega) (Nat.le_refl _)
    have hs4 := hg4.size
    have hs40 : W3.heap.size + 1 ≤ w4.heap.size := by simpa using hs4
    have io5 := OwnR.setLow io4 (p := ⟨w1.heap.size, 12, none⟩) (show w1.heap.size < w1.heap.size + 2 by omega) (.slice va vl vc)
    have o5 := OwnR.setLow o4 (p := ⟨w1.heap.size, 12, none⟩) (show w1.heap.size < w1.heap.size + 2 by omega) (.slice va vl vc)
    have ib5 := ib4.set 12 (.slice va vl vc)
    have inn5 := inn4.other (p := ⟨w1.heap.size, 12, none⟩) (by simp) (.slice va vl vc)
    have ibel5 := low_set ibel4 (p := ⟨w1.heap.size, 12, none⟩) (Nat.le_refl _) (.slice va vl vc)
    obtain ⟨lb4, cb4, fb4⟩ := ib4.get
    obtain ⟨lk4, ck4, fk4⟩ := K24.get
    have hs5 : (w4.setCell ⟨w1.heap.size, 12, none⟩ (.slice va vl vc)).heap.size = w4.heap.size := by simp [World.setCell]
    clear lb cb fb d1 f1 d2 f2 K1 K2 ib ih io hg4 hat4 ib4 inn4 io4 o4 ibel4 ibel hs4
    go_wp2_with (at_builtin; refine app_p _ rfl _ _ rfl (w1.heap.size + 2) _ _ (oldL x c k) [(0, 0)] rfl rfl (io5.tr ?e0) (one_g _ ((0 : Nat), (0 : Nat)) _ rfl _ ?e9) ?e1 ?e2 ?e3)
    case e0 => exact bm
    case e1 => have := OLl.out; first | omega | (simp; omega)
    case e2 => first | omega | (simp [World.setCell]; omega)
    case e9 => first | rfl | simp [World.setCell]
    case e3 =>
    intro v6 w6 o6 hg6 hat6
    obtain ⟨ua, ul, uc, rfl⟩ := own_form3 o6 enP_len
    have ib6 := gr_blk hg6 (ib5.alloc _) (fun j hj => by have := io5.block j hj; omega)
    have inn6 := gr_blk hg6 (inn5.alloc _) (fun j hj => by have := io5.block j hj; omega)
    have ih6 : OwnR 113 2 enP w6 (w1.heap.size + 2) (.slice va vl vc) _ := OwnR.row (o5.tr (Below.alloc (Below.refl _ _) (Nat.le_refl _) _)) hg6 iap4
    have iap6 : Apt (.slice va vl vc) (.slice ua ul uc) := (Apt.left iap4.sym hat6 (fun j hj => by have := o5.lt j hj; simp; omega)).sym
    have ibel6 : Below w1.heap.size w1 w6 := gr_low (B := w1.heap.size + 2) hg6 (low_alloc ibel5 (Nat.le_refl _) _) io5.block (by omega) (Nat.le_refl _)
    have hs6 := hg6.size
    have hs60 : w4.heap.size + 1 ≤ w6.heap.size := by simpa [World.setCell] using hs6
    obtain ⟨lb6, cb6, fb6⟩ := ib6.get
    have hfin : Hid (sInv x c w w1 ⟨(a1, n1, c1), (a2, n2, c2), (a3, n3, c3)⟩ (.slice (some ⟨gb, go, none⟩) N gc) (.slice qa (gRoots x).length qc) (k + 1) (.slice va vl vc) (.slice ua ul uc) (w6.setCell ⟨w1.heap.size, 13, none⟩ (.slice ua ul uc))) := Lib.hid (by
     refine ⟨?_, ?_, ?_, ?_, iap6, low_set ibel6 (Nat.le_refl _) _, by simp [World.setCell]; omega⟩
     ·exact ib6.set 13 (.slice ua ul uc)
     ·have := inn6.other (p := ⟨w1.heap.size, 13, none⟩) (by simp) (.slice ua ul uc)
      rw [HU1.out, HU2.out, HU3.out, HU4.out]
      simpa using this
     ·rw [HLs.out, HPH.out]
      exact OwnR.setLow ih6 (show w1.heap.size < w1.heap.size + 2 by omega) _
     ·rw [OLs.out, HPO.out]
      exact OwnR.setLow o6 (show w1.heap.size < w1.heap.size + 2 by omega) _)
    clear ib6 inn6 ih6 iap6 ibel6 o6 hg6 hat6 ib5 inn5 io5 o5 ibel5 K24 iap4 iap HLs OLs HPH HPO HU1 HU2 HU3 HU4
    go_wp2_with fail
    exact ⟨⟨k + 1, _, _, by omega, by go_num, by rw [HU0.out]; simp, hfin⟩, by simp [intOf]; omega⟩
   ·have HC1 : Hid (∀ W, Below w.heap.size w W → Calls Tryz.prog 57 #[.agg #[.slice a1 n1 c1, .slice a2 n2 c2, .slice a3 n3 c3, .int .u64 x.base, .int .i64 x.slack, .int .i64 x.scan, .int .i64 x.tt], .int .i64 k, .bool _] W fun e w' => e = .returned (.tuple #[.int .i64 1, .bool (clF x k)]) ∧ Below W.heap.size W w') := Lib.hid fun W hb => by
     have := hcl.out W k (by omega) hb
     rw [hK] at this
     try rw [hf] at this
     exact this
    have hbw : Below w.heap.size w wr := by exact bm
    have kx := KX.tr ibel
    obtain ⟨lx, cx, fx⟩ := kx.get
    go_wp2_with fail
    refine (HC1.out _ ?_).mono ?_
    ·exact bm
    rintro e w2 ⟨rfl, k2⟩
    replace ib := ib.tr k2
    replace inn := inn.tr k2
    replace ih := ih.tr k2
    replace io := io.tr k2
    replace hc0 := cell_tr k2 hc0
    replace hc1 := cell_tr k2 hc1
    have hs2 := k2.size
    replace ibel := kp_tr ibel k2
    obtain ⟨lb, cb, fb⟩ := ib.get
    obtain ⟨ln, cn, fn⟩ := inn.get
    clear HC1 hbw kx lx cx fx k2 hI
    go_upto_region 8 with (fail)
    go_quiet (fail)
    have kq : Below w2.heap.size w2 (w2.drewN nq) := below_drewN (Below.refl _ _) nq
    replace ib := ib.tr kq
    replace inn := inn.tr kq
    replace ih := ih.tr kq
    replace io := io.tr kq
    replace ibel := kp_tr ibel kq
    have hsq := kq.size
    clear lb cb fb ln cn fn kq
    generalize w2.drewN nq = W2 at *
    obtain ⟨lb, cb, fb⟩ := ib.get
    obtain ⟨ln, cn, fn⟩ := inn.get
    have hisz : w1.heap.size + 2 ≤ W2.heap.size := by omega
    have hKr : Hid (∀ j, hv.ownBlock = some j → j < W2.heap.size) := Lib.hid fun j hj => ih.lt j hj
    have HU0 : Hid (hof x false 0 (k + 1) = hof x false 0 k + if hpt x false k = 0 then 1 + slN x k else 0) := rfl
    have HU1 : Hid (hof x false 1 (k + 1) = hof x false 1 k + if hpt x false k = 1 then 1 + slN x k else 0) := rfl
    have HU2 : Hid (hof x false 2 (k + 1) = hof x false 2 k + if hpt x false k = 2 then 1 + slN x k else 0) := rfl
    have HU3 : Hid (oof x false 3 (k + 1) = oof x false 3 k + if opt x false k = 3 then 1 + slN x k else 0) := rfl
    have HU4 : Hid (oof x false 4 (k + 1) = oof x false 4 k + if opt x false k = 4 then 1 + slN x k else 0) := rfl
    have hm0 := HHM.out 0 k (by omega)
    have hm1 := HHM.out 1 k (by omega)
    have hm2 := HHM.out 2 k (by omega)
    have hm3 := HOM.out 3 k (by omega)
    have hm4 := HOM.out 4 k (by omega)
    have hhl := HHL.out
    have hol := HOL.out
    have HPH : Hid (plH x false k = (hpt x false k, if hpt x false k = 0 then 0 else hof x false (hpt x false k) k)) := rfl
    have HPO : Hid (plO x false k = (opt x false k, if opt x false k = 0 then 0 else oof x false (opt x false k) k)) := rfl
    have HLs := Lib.hid (hereL_succ x false k)
    have OLs := Lib.hid (oldL_succ x false k)
    have HLl : Hid ((hereL x false k).length = k) := Lib.hid (by unfold hereL; simp)
    have OLl : Hid ((oldL x false k).length = k) := Lib.hid (by unfold oldL; simp)
    rw [hH] at HU0 HU1 HU2 HPH
    rw [hO] at HU3 HU4 HPO
    rw [← HZ.out] at HU0 HU1 HU2 HU3 HU4
    have hb0 : hof x false 0 k ≤ 90 := by omega
    have hb1 : hof x false 1 k ≤ 90 := by omega
    have hb2 : hof x false 2 k ≤ 90 := by omega
    have hb3 : oof x false 3 k ≤ 90 := by omega
    have hb4 : oof x false 4 k ≤ 90 := by omega
    clear hm0 hm1 hm2 hm3 hm4 hhl hol
    generalize hof x false 0 k = A0 at *
    generalize hof x false 1 k = A1 at *
    generalize hof x false 2 k = A2 at *
    generalize oof x false 3 k = A3 at *
    generalize oof x false 4 k = A4 at *
    have hz0 : IntKind.i64.wrap ((A0 : Int) + (Z : Int)) = (A0 : Int) + (Z : Int) := IntWalk.i64_in _ (by omega)
    have hz1 : IntKind.i64.wrap ((A1 : Int) + (Z : Int)) = (A1 : Int) + (Z : Int) := IntWalk.i64_in _ (by omega)
    have hz2 : IntKind.i64.wrap ((A2 : Int) + (Z : Int)) = (A2 : Int) + (Z : Int) := IntWalk.i64_in _ (by omega)
    have hz3 : IntKind.i64.wrap ((A3 : Int) + (Z : Int)) = (A3 : Int) + (Z : Int) := IntWalk.i64_in _ (by omega)
    have hz4 : IntKind.i64.wrap ((A4 : Int) + (Z : Int)) = (A4 : Int) + (Z : Int) := IntWalk.i64_in _ (by omega)
    go_upto_region 21 with (fail)
    have hSP : SP (W2.setCell ⟨w1.heap.size + 1, 1, none⟩ (.int .i64 ((A1 : Int) + (Z : Int)))) w1 _ _ _ _ _ _ W2.heap.size := (SP.set ⟨ib, inn, ih, io, ibel, rfl⟩ 1 _)
    clear ib inn ih io ibel lb cb fb ln cn fn
    generalize (W2.setCell ⟨w1.heap.size + 1, 1, none⟩ (.int .i64 ((A1 : Int) + (Z : Int)))) = Wn at *
    obtain ⟨ib, inn, ih, io, ibel, hszn⟩ := hSP
    generalize W2.heap.size = S at *
    have K1 : Blk ((Wn.alloc (.cells #[.int .i64 1, .int .i64 A1] 113)).alloc (.cells #[.int .i64 0, .int .i64 0] 113)) S #[.int .i64 1, .int .i64 A1] 113 := (Blk.mk hszn.symm).alloc _
    have K2 : Blk ((Wn.alloc (.cells #[.int .i64 1, .int .i64 A1] 113)).alloc (.cells #[.int .i64 0, .int .i64 0] 113)) (S + 1) #[.int .i64 0, .int .i64 0] 113 := Blk.mk (by simp [hszn])
    have kA : Below Wn.heap.size Wn ((Wn.alloc (.cells #[.int .i64 1, .int .i64 A1] 113)).alloc (.cells #[.int .i64 0, .int .i64 0] 113)) := by exact bm
    replace ib := ib.tr kA
    replace inn := inn.tr kA
    replace ih := ih.tr kA
    replace io := io.tr kA
    replace ibel := kp_tr ibel kA
    have hs3 := kA.size
    clear kA hszn
    generalize (Wn.alloc (.cells #[.int .i64 1, .int .i64 A1] 113)).alloc (.cells #[.int .i64 0, .int .i64 0] 113) = W3 at *
    obtain ⟨lb, cb, fb⟩ := ib.get
    obtain ⟨l1, d1, f1⟩ := K1.get
    obtain ⟨l2, d2, f2⟩ := K2.get
    obtain ⟨hva, hvl, hvc, rfl⟩ := own_form3 ih enP_len
    obtain ⟨ova, ovl, ovc, rfl⟩ := own_form3 io enP_len
    have hS3 : w1.heap.size + 2 ≤ W3.heap.size := by omega
    go_wp2_with (at_builtin; refine app_p _ rfl _ _ rfl (w1.heap.size + 2) _ _ (hereL x false k) [(1, A1)] rfl rfl (ih.tr ?e0) (one_g _ ((1 : Nat), (A1 : Nat)) _ rfl _ rfl) ?e1 ?e2 ?e3)
    case e0 => exact bm
    case e1 => have := HLl.out; first | omega | (simp; omega)
    case e2 => first | omega | (simp; omega)
    case e3 =>
    intro v4 w4 o4 hg4 hat4
    obtain ⟨va, vl, vc, rfl⟩ := own_form3 o4 enP_len
    have ib4 := gr_blk hg4 (ib.alloc _) (fun j hj => by have := ih.block j hj; omega)
    have inn4 := gr_blk hg4 (inn.alloc _) (fun j hj => by have := ih.block j hj; omega)
    have K24 := gr_blk hg4 (K2.alloc _) (fun j hj => by have := ih.lt j hj; have := hKr.out j hj; omega)
    have io4 : OwnR 113 2 enP w4 (w1.heap.size + 2) (.slice ova ovl ovc) (oldL x false k) := OwnR.row (io.tr (Below.alloc (Below.refl _ _) (Nat.le_refl _) _)) hg4 iap.sym
    have iap4 : Apt (.slice va vl vc) (.slice ova ovl ovc) := Apt.left iap hat4 (fun j hj => by have := io.lt j hj; simp; omega)
    have ibel4 : Below w1.heap.size w1 w4 := gr_low (B := w1.heap.size + 2) hg4 (low_alloc ibel (Nat.le_refl _) _) ih.block (by omega) (Nat.le_refl _)
    have hs4 := hg4.size
    have hs40 : W3.heap.size + 1 ≤ w4.heap.size := by simpa using hs4
    have io5 := OwnR.setLow io4 (p := ⟨w1.heap.size, 12, none⟩) (show w1.heap.size < w1.heap.size + 2 by omega) (.slice va vl vc)
    have o5 := OwnR.setLow o4 (p := ⟨w1.heap.size, 12, none⟩) (show w1.heap.size < w1.heap.size + 2 by omega) (.slice va vl vc)
    have ib5 := ib4.set 12 (.slice va vl vc)
    have inn5 := inn4.other (p := ⟨w1.heap.size, 12, none⟩) (by simp) (.slice va vl vc)
    have ibel5 := low_set ibel4 (p := ⟨w1.heap.size, 12, none⟩) (Nat.le_refl _) (.slice va vl vc)
    obtain ⟨lb4, cb4, fb4⟩ := ib4.get
    obtain ⟨lk4, ck4, fk4⟩ := K24.get
    have hs5 : (w4.setCell ⟨w1.heap.size, 12, none⟩ (.slice va vl vc)).heap.size = w4.heap.size := by simp [World.setCell]
    clear lb cb fb d1 f1 d2 f2 K1 K2 ib ih io hg4 hat4 ib4 inn4 io4 o4 ibel4 ibel hs4
    go_wp2_with (at_builtin; refine app_p _ rfl _ _ rfl (w1.heap.size + 2) _ _ (oldL x false k) [(0, 0)] rfl rfl (io5.tr ?e0) (one_g _ ((0 : Nat), (0 : Nat)) _ rfl _ ?e9) ?e1 ?e2 ?e3)
    case e0 => exact bm
    case e1 => have := OLl.out; first | omega | (simp; omega)
    case e2 => first | omega | (simp [World.setCell]; omega)
    case e9 => first | rfl | simp [World.setCell]
    case e3 =>
    intro v6 w6 o6 hg6 hat6
    obtain ⟨ua, ul, uc, rfl⟩ := own_form3 o6 enP_len
    have ib6 := gr_blk hg6 (ib5.alloc _) (fun j hj => by have := io5.block j hj; omega)
    have inn6 := gr_blk hg6 (inn5.alloc _) (fun j hj => by have := io5.block j hj; omega)
    have ih6 : OwnR 113 2 enP w6 (w1.heap.size + 2) (.slice va vl vc) _ := OwnR.row (o5.tr (Below.alloc (Below.refl _ _) (Nat.le_refl _) _)) hg6 iap4
    have iap6 : Apt (.slice va vl vc) (.slice ua ul uc) := (Apt.left iap4.sym hat6 (fun j hj => by have := o5.lt j hj; simp; omega)).sym
    have ibel6 : Below w1.heap.size w1 w6 := gr_low (B := w1.heap.size + 2) hg6 (low_alloc ibel5 (Nat.le_refl _) _) io5.block (by omega) (Nat.le_refl _)
    have hs6 := hg6.size
    have hs60 : w4.heap.size + 1 ≤ w6.heap.size := by simpa [World.setCell] using hs6
    obtain ⟨lb6, cb6, fb6⟩ := ib6.get
    have hfin : Hid (sInv x false w w1 ⟨(a1, n1, c1), (a2, n2, c2), (a3, n3, c3)⟩ (.slice (some ⟨gb, go, none⟩) N gc) (.slice qa (gRoots x).length qc) (k + 1) (.slice va vl vc) (.slice ua ul uc) (w6.setCell ⟨w1.heap.size, 13, none⟩ (.slice ua ul uc))) := Lib.hid (by
     refine ⟨?_, ?_, ?_, ?_, iap6, low_set ibel6 (Nat.le_refl _) _, by simp [World.setCell]; omega⟩
     ·exact ib6.set 13 (.slice ua ul uc)
     ·have := inn6.other (p := ⟨w1.heap.size, 13, none⟩) (by simp) (.slice ua ul uc)
      rw [HU1.out, HU2.out, HU3.out, HU4.out]
      simpa using this
     ·rw [HLs.out, HPH.out]
      exact OwnR.setLow ih6 (show w1.heap.size < w1.heap.size + 2 by omega) _
     ·rw [OLs.out, HPO.out]
      exact OwnR.setLow o6 (show w1.heap.size < w1.heap.size + 2 by omega) _)
    clear ib6 inn6 ih6 iap6 ibel6 o6 hg6 hat6 ib5 inn5 io5 o5 ibel5 K24 iap4 iap HLs OLs HPH HPO HU1 HU2 HU3 HU4
    go_wp2_with fail
    exact ⟨⟨k + 1, _, _, by omega, by go_num, by rw [HU0.out]; simp, hfin⟩, by simp [intOf]; omega⟩
   ·cases hf : clF x k with
    | true =>
     replace hO : opt x true k = 4 := by unfold opt; rw [hK, hf]; rfl
     have HC1 : Hid (∀ W, Below w.heap.size w W → Calls Tryz.prog 57 #[.agg #[.slice a1 n1 c1, .slice a2 n2 c2, .slice a3 n3 c3, .int .u64 x.base, .int .i64 x.slack, .int .i64 x.scan, .int .i64 x.tt], .int .i64 k, .bool _] W fun e w' => e = .returned (.tuple #[.int .i64 1, .bool (true)]) ∧ Below W.heap.size W w') := Lib.hid fun W hb => by
      have := hcl.out W k (by omega) hb
      rw [hK] at this
      try rw [hf] at this
      exact this
     have hbw : Below w.heap.size w wr := by exact bm
     have kx := KX.tr ibel
     obtain ⟨lx, cx, fx⟩ := kx.get
     go_wp2_with fail
     refine (HC1.out _ ?_).mono ?_
     ·exact bm
     rintro e w2 ⟨rfl, k2⟩
     replace ib := ib.tr k2
     replace inn := inn.tr k2
     replace ih := ih.tr k2
     replace io := io.tr k2
     replace hc0 := cell_tr k2 hc0
     replace hc1 := cell_tr k2 hc1
     have hs2 := k2.size
     replace ibel := kp_tr ibel k2
     obtain ⟨lb, cb, fb⟩ := ib.get
     obtain ⟨ln, cn, fn⟩ := inn.get
     clear HC1 hbw kx lx cx fx k2 hI
     go_upto_region 8 with (fail)
     go_quiet (fail)
     have kq : Below w2.heap.size w2 (w2.drewN nq) := below_drewN (Below.refl _ _) nq
     replace ib := ib.tr kq
     replace inn := inn.tr kq
     replace ih := ih.tr kq
     replace io := io.tr kq
     replace ibel := kp_tr ibel kq
     have hsq := kq.size
     clear lb cb fb ln cn fn kq
     generalize w2.drewN nq = W2 at *
     obtain ⟨lb, cb, fb⟩ := ib.get
     obtain ⟨ln, cn, fn⟩ := inn.get
     have hisz : w1.heap.size + 2 ≤ W2.heap.size := by omega
     have hKr : Hid (∀ j, hv.ownBlock = some j → j < W2.heap.size) := Lib.hid fun j hj => ih.lt j hj
     have HU0 : Hid (hof x true 0 (k + 1) = hof x true 0 k + if hpt x true k = 0 then 1 + slN x k else 0) := rfl
     have HU1 : Hid (hof x true 1 (k + 1) = hof x true 1 k + if hpt x true k = 1 then 1 + slN x k else 0) := rfl
     have HU2 : Hid (hof x true 2 (k + 1) = hof x true 2 k + if hpt x true k = 2 then 1 + slN x k else 0) := rfl
     have HU3 : Hid (oof x true 3 (k + 1) = oof x true 3 k + if opt x true k = 3 then 1 + slN x k else 0) := rfl
     have HU4 : Hid (oof x true 4 (k + 1) = oof x true 4 k + if opt x true k = 4 then 1 + slN x k else 0) := rfl
     have hm0 := HHM.out 0 k (by omega)
     have hm1 := HHM.out 1 k (by omega)
     have hm2 := HHM.out 2 k (by omega)
     have hm3 := HOM.out 3 k (by omega)
     have hm4 := HOM.out 4 k (by omega)
     have hhl := HHL.out
     have hol := HOL.out
     have HPH : Hid (plH x true k = (hpt x true k, if hpt x true k = 0 then 0 else hof x true (hpt x true k) k)) := rfl
     have HPO : Hid (plO x true k = (opt x true k, if opt x true k = 0 then 0 else oof x true (opt x true k) k)) := rfl
     have HLs := Lib.hid (hereL_succ x true k)
     have OLs := Lib.hid (oldL_succ x true k)
     have HLl : Hid ((hereL x true k).length = k) := Lib.hid (by unfold hereL; simp)
     have OLl : Hid ((oldL x true k).length = k) := Lib.hid (by unfold oldL; simp)
     rw [hH] at HU0 HU1 HU2 HPH
     rw [hO] at HU3 HU4 HPO
     rw [← HZ.out] at HU0 HU1 HU2 HU3 HU4
     have hb0 : hof x true 0 k ≤ 90 := by omega
     have hb1 : hof x true 1 k ≤ 90 := by omega
     have hb2 : hof x true 2 k ≤ 90 := by omega
     have hb3 : oof x true 3 k ≤ 90 := by omega
     have hb4 : oof x true 4 k ≤ 90 := by omega
     clear hm0 hm1 hm2 hm3 hm4 hhl hol
     generalize hof x true 0 k = A0 at *
     generalize hof x true 1 k = A1 at *
     generalize hof x true 2 k = A2 at *
     generalize oof x true 3 k = A3 at *
     generalize oof x true 4 k = A4 at *
     have hz0 : IntKind.i64.wrap ((A0 : Int) + (Z : Int)) = (A0 : Int) + (Z : Int) := IntWalk.i64_in _ (by omega)
     have hz1 : IntKind.i64.wrap ((A1 : Int) + (Z : Int)) = (A1 : Int) + (Z : Int) := IntWalk.i64_in _ (by omega)
     have hz2 : IntKind.i64.wrap ((A2 : Int) + (Z : Int)) = (A2 : Int) + (Z : Int) := IntWalk.i64_in _ (by omega)
     have hz3 : IntKind.i64.wrap ((A3 : Int) + (Z : Int)) = (A3 : Int) + (Z : Int) := IntWalk.i64_in _ (by omega)
     have hz4 : IntKind.i64.wrap ((A4 : Int) + (Z : Int)) = (A4 : Int) + (Z : Int) := IntWalk.i64_in _ (by omega)
     go_upto_region 21 with (fail)
     have hSP : SP ((W2.setCell ⟨w1.heap.size + 1, 1, none⟩ (.int .i64 ((A1 : Int) + (Z : Int)))).setCell ⟨w1.heap.size + 1, 4, none⟩ (.int .i64 ((A4 : Int) + (Z : Int)))) w1 _ _ _ _ _ _ W2.heap.size := (SP.set (SP.set ⟨ib, inn, ih, io, ibel, rfl⟩ 1 _) 4 _)
     clear ib inn ih io ibel lb cb fb ln cn fn
     generalize ((W2.setCell ⟨w1.heap.size + 1, 1, none⟩ (.int .i64 ((A1 : Int) + (Z : Int)))).setCell ⟨w1.heap.size + 1, 4, none⟩ (.int .i64 ((A4 : Int) + (Z : Int)))) = Wn at *
     obtain ⟨ib, inn, ih, io, ibel, hszn⟩ := hSP
     generalize W2.heap.size = S at *
     have K1 : Blk ((Wn.alloc (.cells #[.int .i64 1, .int .i64 A1] 113)).alloc (.cells #[.int .i64 4, .int .i64 A4] 113)) S #[.int .i64 1, .int .i64 A1] 113 := (Blk.mk hszn.symm).alloc _
     have K2 : Blk ((Wn.alloc (.cells #[.int .i64 1, .int .i64 A1] 113)).alloc (.cells #[.int .i64 4, .int .i64 A4] 113)) (S + 1) #[.int .i64 4, .int .i64 A4] 113 := Blk.mk (by simp [hszn])
     have kA : Below Wn.heap.size Wn ((Wn.alloc (.cells #[.int .i64 1, .int .i64 A1] 113)).alloc (.cells #[.int .i64 4, .int .i64 A4] 113)) := by exact bm
     replace ib := ib.tr kA
     replace inn := inn.tr kA
     replace ih := ih.tr kA
     replace io := io.tr kA
     replace ibel := kp_tr ibel kA
     have hs3 := kA.size
     clear kA hszn
     generalize (Wn.alloc (.cells #[.int .i64 1, .int .i64 A1] 113)).alloc (.cells #[.int .i64 4, .int .i64 A4] 113) = W3 at *
     obtain ⟨lb, cb, fb⟩ := ib.get
     obtain ⟨l1, d1, f1⟩ := K1.get
     obtain ⟨l2, d2, f2⟩ := K2.get
     obtain ⟨hva, hvl, hvc, rfl⟩ := own_form3 ih enP_len
     obtain ⟨ova, ovl, ovc, rfl⟩ := own_form3 io enP_len
     have hS3 : w1.heap.size + 2 ≤ W3.heap.size := by omega
     go_wp2_with (at_builtin; refine app_p _ rfl _ _ rfl (w1.heap.size + 2) _ _ (hereL x true k) [(1, A1)] rfl rfl (ih.tr ?e0) (one_g _ ((1 : Nat), (A1 : Nat)) _ rfl _ rfl) ?e1 ?e2 ?e3)
     case e0 => exact bm
     case e1 => have := HLl.out; first | omega | (simp; omega)
     case e2 => first | omega | (simp; omega)
     case e3 =>
     intro v4 w4 o4 hg4 hat4
     obtain ⟨va, vl, vc, rfl⟩ := own_form3 o4 enP_len
     have ib4 := gr_blk hg4 (ib.alloc _) (fun j hj => by have := ih.block j hj; omega)
     have inn4 := gr_blk hg4 (inn.alloc _) (fun j hj => by have := ih.block j hj; omega)
     have K24 := gr_blk hg4 (K2.alloc _) (fun j hj => by have := ih.lt j hj; have := hKr.out j hj; omega)
     have io4 : OwnR 113 2 enP w4 (w1.heap.size + 2) (.slice ova ovl ovc) (oldL x true k) := OwnR.row (io.tr (Below.alloc (Below.refl _ _) (Nat.le_refl _) _)) hg4 iap.sym
     have iap4 : Apt (.slice va vl vc) (.slice ova ovl ovc) := Apt.left iap hat4 (fun j hj => by have := io.lt j hj; simp; omega)
     have ibel4 : Below w1.heap.size w1 w4 := gr_low (B := w1.heap.size + 2) hg4 (low_alloc ibel (Nat.le_refl _) _) ih.block (by omega) (Nat.le_refl _)
     have hs4 := hg4.size
     have hs40 : W3.heap.size + 1 ≤ w4.heap.size := by simpa using hs4
     have io5 := OwnR.setLow io4 (p := ⟨w1.heap.size, 12, none⟩) (show w1.heap.size < w1.heap.size + 2 by omega) (.slice va vl vc)
     have o5 := OwnR.setLow o4 (p := ⟨w1.heap.size, 12, none⟩) (show w1.heap.size < w1.heap.size + 2 by omega) (.slice va vl vc)
     have ib5 := ib4.set 12 (.slice va vl vc)
     have inn5 := inn4.other (p := ⟨w1.heap.size, 12, none⟩) (by simp) (.slice va vl vc)
     have ibel5 := low_set ibel4 (p := ⟨w1.heap.size, 12, none⟩) (Nat.le_refl _) (.slice va vl vc)
     obtain ⟨lb4, cb4, fb4⟩ := ib4.get
     obtain ⟨lk4, ck4, fk4⟩ := K24.get
     have hs5 : (w4.setCell ⟨w1.heap.size, 12, none⟩ (.slice va vl vc)).heap.size = w4.heap.size := by simp [World.setCell]
     clear lb cb fb d1 f1 d2 f2 K1 K2 ib ih io hg4 hat4 ib4 inn4 io4 o4 ibel4 ibel hs4
     go_wp2_with (at_builtin; refine app_p _ rfl _ _ rfl (w1.heap.size + 2) _ _ (oldL x true k) [(4, A4)] rfl rfl (io5.tr ?e0) (one_g _ ((4 : Nat), (A4 : Nat)) _ rfl _ ?e9) ?e1 ?e2 ?e3)
     case e0 => exact bm
     case e1 => have := OLl.out; first | omega | (simp; omega)
     case e2 => first | omega | (simp [World.setCell]; omega)
     case e9 => first | rfl | simp [World.setCell]
     case e3 =>
     intro v6 w6 o6 hg6 hat6
     obtain ⟨ua, ul, uc, rfl⟩ := own_form3 o6 enP_len
     have ib6 := gr_blk hg6 (ib5.alloc _) (fun j hj => by have := io5.block j hj; omega)
     have inn6 := gr_blk hg6 (inn5.alloc _) (fun j hj => by have := io5.block j hj; omega)
     have ih6 : OwnR 113 2 enP w6 (w1.heap.size + 2) (.slice va vl vc) _ := OwnR.row (o5.tr (Below.alloc (Below.refl _ _) (Nat.le_refl _) _)) hg6 iap4
     have iap6 : Apt (.slice va vl vc) (.slice ua ul uc) := (Apt.left iap4.sym hat6 (fun j hj => by have := o5.lt j hj; simp; omega)).sym
     have ibel6 : Below w1.heap.size w1 w6 := gr_low (B := w1.heap.size + 2) hg6 (low_alloc ibel5 (Nat.le_refl _) _) io5.block (by omega) (Nat.le_refl _)
     have hs6 := hg6.size
     have hs60 : w4.heap.size + 1 ≤ w6.heap.size := by simpa [World.setCell] using hs6
     obtain ⟨lb6, cb6, fb6⟩ := ib6.get
     have hfin : Hid (sInv x true w w1 ⟨(a1, n1, c1), (a2, n2, c2), (a3, n3, c3)⟩ (.slice (some ⟨gb, go, none⟩) N gc) (.slice qa (gRoots x).length qc) (k + 1) (.slice va vl vc) (.slice ua ul uc) (w6.setCell ⟨w1.heap.size, 13, none⟩ (.slice ua ul uc))) := Lib.hid (by
      refine ⟨?_, ?_, ?_, ?_, iap6, low_set ibel6 (Nat.le_refl _) _, by simp [World.setCell]; omega⟩
      ·exact ib6.set 13 (.slice ua ul uc)
      ·have := inn6.other (p := ⟨w1.heap.size, 13, none⟩) (by simp) (.slice ua ul uc)
       rw [HU1.out, HU2.out, HU3.out, HU4.out]
       simpa using this
      ·rw [HLs.out, HPH.out]
       exact OwnR.setLow ih6 (show w1.heap.size < w1.heap.size + 2 by omega) _
      ·rw [OLs.out, HPO.out]
       exact OwnR.setLow o6 (show w1.heap.size < w1.heap.size + 2 by omega) _)
     clear ib6 inn6 ih6 iap6 ibel6 o6 hg6 hat6 ib5 inn5 io5 o5 ibel5 K24 iap4 iap HLs OLs HPH HPO HU1 HU2 HU3 HU4
     go_wp2_with fail
     exact ⟨⟨k + 1, _, _, by omega, by go_num, by rw [HU0.out]; simp, hfin⟩, by simp [intOf]; omega⟩
    | false =>
     replace hO : opt x true k = 3 := by unfold opt; rw [hK, hf]; rfl
     have HC1 : Hid (∀ W, Below w.heap.size w W → Calls Tryz.prog 57 #[.agg #[.slice a1 n1 c1, .slice a2 n2 c2, .slice a3 n3 c3, .int .u64 x.base, .int .i64 x.slack, .int .i64 x.scan, .int .i64 x.tt], .int .i64 k, .bool _] W fun e w' => e = .returned (.tuple #[.int .i64 1, .bool (false)]) ∧ Below W.heap.size W w') := Lib.hid fun W hb => by
      have := hcl.out W k (by omega) hb
      rw [hK] at this
      try rw [hf] at this
      exact this
     have hbw : Below w.heap.size w wr := by exact bm
     have kx := KX.tr ibel
     obtain ⟨lx, cx, fx⟩ := kx.get
     go_wp2_with fail
     refine (HC1.out _ ?_).mono ?_
     ·exact bm
     rintro e w2 ⟨rfl, k2⟩
     replace ib := ib.tr k2
     replace inn := inn.tr k2
     replace ih := ih.tr k2
     replace io := io.tr k2
     replace hc0 := cell_tr k2 hc0
     replace hc1 := cell_tr k2 hc1
     have hs2 := k2.size
     replace ibel := kp_tr ibel k2
     obtain ⟨lb, cb, fb⟩ := ib.get
     obtain ⟨ln, cn, fn⟩ := inn.get
     clear HC1 hbw kx lx cx fx k2 hI
     go_upto_region 8 with (fail)
     go_quiet (fail)
     have kq : Below w2.heap.size w2 (w2.drewN nq) := below_drewN (Below.refl _ _) nq
     replace ib := ib.tr kq
     replace inn := inn.tr kq
     replace ih := ih.tr kq
     replace io := io.tr kq
     replace ibel := kp_tr ibel kq
     have hsq := kq.size
     clear lb cb fb ln cn fn kq
     generalize w2.drewN nq = W2 at *
     obtain ⟨lb, cb, fb⟩ := ib.get
     obtain ⟨ln, cn, fn⟩ := inn.get
     have hisz : w1.heap.size + 2 ≤ W2.heap.size := by omega
     have hKr : Hid (∀ j, hv.ownBlock = some j → j < W2.heap.size) := Lib.hid fun j hj => ih.lt j hj
     have HU0 : Hid (hof x true 0 (k + 1) = hof x true 0 k + if hpt x true k = 0 then 1 + slN x k else 0) := rfl
     have HU1 : Hid (hof x true 1 (k + 1) = hof x true 1 k + if hpt x true k = 1 then 1 + slN x k else 0) := rfl
     have HU2 : Hid (hof x true 2 (k + 1) = hof x true 2 k + if hpt x true k = 2 then 1 + slN x k else 0) := rfl
     have HU3 : Hid (oof x true 3 (k + 1) = oof x true 3 k + if opt x true k = 3 then 1 + slN x k else 0) := rfl
     have HU4 : Hid (oof x true 4 (k + 1) = oof x true 4 k + if opt x true k = 4 then 1 + slN x k else 0) := rfl
     have hm0 := HHM.out 0 k (by omega)
     have hm1 := HHM.out 1 k (by omega)
     have hm2 := HHM.out 2 k (by omega)
     have hm3 := HOM.out 3 k (by omega)
     have hm4 := HOM.out 4 k (by omega)
     have hhl := HHL.out
     have hol := HOL.out
     have HPH : Hid (plH x true k = (hpt x true k, if hpt x true k = 0 then 0 else hof x true (hpt x true k) k)) := rfl
     have HPO : Hid (plO x true k = (opt x true k, if opt x true k = 0 then 0 else oof x true (opt x true k) k)) := rfl
     have HLs := Lib.hid (hereL_succ x true k)
     have OLs := Lib.hid (oldL_succ x true k)
     have HLl : Hid ((hereL x true k).length = k) := Lib.hid (by unfold hereL; simp)
     have OLl : Hid ((oldL x true k).length = k) := Lib.hid (by unfold oldL; simp)
     rw [hH] at HU0 HU1 HU2 HPH
     rw [hO] at HU3 HU4 HPO
     rw [← HZ.out] at HU0 HU1 HU2 HU3 HU4
     have hb0 : hof x true 0 k ≤ 90 := by omega
     have hb1 : hof x true 1 k ≤ 90 := by omega
     have hb2 : hof x true 2 k ≤ 90 := by omega
     have hb3 : oof x true 3 k ≤ 90 := by omega
     have hb4 : oof x true 4 k ≤ 90 := by omega
     clear hm0 hm1 hm2 hm3 hm4 hhl hol
     generalize hof x true 0 k = A0 at *
     generalize hof x true 1 k = A1 at *
     generalize hof x true 2 k = A2 at *
     generalize oof x true 3 k = A3 at *
     generalize oof x true 4 k = A4 at *
     have hz0 : IntKind.i64.wrap ((A0 : Int) + (Z : Int)) = (A0 : Int) + (Z : Int) := IntWalk.i64_in _ (by omega)
     have hz1 : IntKind.i64.wrap ((A1 : Int) + (Z : Int)) = (A1 : Int) + (Z : Int) := IntWalk.i64_in _ (by omega)
     have hz2 : IntKind.i64.wrap ((A2 : Int) + (Z : Int)) = (A2 : Int) + (Z : Int) := IntWalk.i64_in _ (by omega)
     have hz3 : IntKind.i64.wrap ((A3 : Int) + (Z : Int)) = (A3 : Int) + (Z : Int) := IntWalk.i64_in _ (by omega)
     have hz4 : IntKind.i64.wrap ((A4 : Int) + (Z : Int)) = (A4 : Int) + (Z : Int) := IntWalk.i64_in _ (by omega)
     go_upto_region 21 with (fail)
     have hSP : SP ((W2.setCell ⟨w1.heap.size + 1, 1, none⟩ (.int .i64 ((A1 : Int) + (Z : Int)))).setCell ⟨w1.heap.size + 1, 3, none⟩ (.int .i64 ((A3 : Int) + (Z : Int)))) w1 _ _ _ _ _ _ W2.heap.size := (SP.set (SP.set ⟨ib, inn, ih, io, ibel, rfl⟩ 1 _) 3 _)
     clear ib inn ih io ibel lb cb fb ln cn fn
     generalize ((W2.setCell ⟨w1.heap.size + 1, 1, none⟩ (.int .i64 ((A1 : Int) + (Z : Int)))).setCell ⟨w1.heap.size + 1, 3, none⟩ (.int .i64 ((A3 : Int) + (Z : Int)))) = Wn at *
     obtain ⟨ib, inn, ih, io, ibel, hszn⟩ := hSP
     generalize W2.heap.size = S at *
     have K1 : Blk ((Wn.alloc (.cells #[.int .i64 1, .int .i64 A1] 113)).alloc (.cells #[.int .i64 3, .int .i64 A3] 113)) S #[.int .i64 1, .int .i64 A1] 113 := (Blk.mk hszn.symm).alloc _
     have K2 : Blk ((Wn.alloc (.cells #[.int .i64 1, .int .i64 A1] 113)).alloc (.cells #[.int .i64 3, .int .i64 A3] 113)) (S + 1) #[.int .i64 3, .int .i64 A3] 113 := Blk.mk (by simp [hszn])
     have kA : Below Wn.heap.size Wn ((Wn.alloc (.cells #[.int .i64 1, .int .i64 A1] 113)).alloc (.cells #[.int .i64 3, .int .i64 A3] 113)) := by exact bm
     replace ib := ib.tr kA
     replace inn := inn.tr kA
     replace ih := ih.tr kA
     replace io := io.tr kA
     replace ibel := kp_tr ibel kA
     have hs3 := kA.size
     clear kA hszn
     generalize (Wn.alloc (.cells #[.int .i64 1, .int .i64 A1] 113)).alloc (.cells #[.int .i64 3, .int .i64 A3] 113) = W3 at *
     obtain ⟨lb, cb, fb⟩ := ib.get
     obtain ⟨l1, d1, f1⟩ := K1.get
     obtain ⟨l2, d2, f2⟩ := K2.get
     obtain ⟨hva, hvl, hvc, rfl⟩ := own_form3 ih enP_len
     obtain ⟨ova, ovl, ovc, rfl⟩ := own_form3 io enP_len
     have hS3 : w1.heap.size + 2 ≤ W3.heap.size := by omega
     go_wp2_with (at_builtin; refine app_p _ rfl _ _ rfl (w1.heap.size + 2) _ _ (hereL x true k) [(1, A1)] rfl rfl (ih.tr ?e0) (one_g _ ((1 : Nat), (A1 : Nat)) _ rfl _ rfl) ?e1 ?e2 ?e3)
     case e0 => exact bm
     case e1 => have := HLl.out; first | omega | (simp; omega)
     case e2 => first | omega | (simp; omega)
     case e3 =>
     intro v4 w4 o4 hg4 hat4
     obtain ⟨va, vl, vc, rfl⟩ := own_form3 o4 enP_len
     have ib4 := gr_blk hg4 (ib.alloc _) (fun j hj => by have := ih.block j hj; omega)
     have inn4 := gr_blk hg4 (inn.alloc _) (fun j hj => by have := ih.block j hj; omega)
     have K24 := gr_blk hg4 (K2.alloc _) (fun j hj => by have := ih.lt j hj; have := hKr.out j hj; omega)
     have io4 : OwnR 113 2 enP w4 (w1.heap.size + 2) (.slice ova ovl ovc) (oldL x true k) := OwnR.row (io.tr (Below.alloc (Below.refl _ _) (Nat.le_refl _) _)) hg4 iap.sym
     have iap4 : Apt (.slice va vl vc) (.slice ova ovl ovc) := Apt.left iap hat4 (fun j hj => by have := io.lt j hj; simp; omega)
     have ibel4 : Below w1.heap.size w1 w4 := gr_low (B := w1.heap.size + 2) hg4 (low_alloc ibel (Nat.le_refl _) _) ih.block (by omega) (Nat.le_refl _)
     have hs4 := hg4.size
     have hs40 : W3.heap.size + 1 ≤ w4.heap.size := by simpa using hs4
     have io5 := OwnR.setLow io4 (p := ⟨w1.heap.size, 12, none⟩) (show w1.heap.size < w1.heap.size + 2 by omega) (.slice va vl vc)
     have o5 := OwnR.setLow o4 (p := ⟨w1.heap.size, 12, none⟩) (show w1.heap.size < w1.heap.size + 2 by omega) (.slice va vl vc)
     have ib5 := ib4.set 12 (.slice va vl vc)
     have inn5 := inn4.other (p := ⟨w1.heap.size, 12, none⟩) (by simp) (.slice va vl vc)
     have ibel5 := low_set ibel4 (p := ⟨w1.heap.size, 12, none⟩) (Nat.le_refl _) (.slice va vl vc)
     obtain ⟨lb4, cb4, fb4⟩ := ib4.get
     obtain ⟨lk4, ck4, fk4⟩ := K24.get
     have hs5 : (w4.setCell ⟨w1.heap.size, 12, none⟩ (.slice va vl vc)).heap.size = w4.heap.size := by simp [World.setCell]
     clear lb cb fb d1 f1 d2 f2 K1 K2 ib ih io hg4 hat4 ib4 inn4 io4 o4 ibel4 ibel hs4
     go_wp2_with (at_builtin; refine app_p _ rfl _ _ rfl (w1.heap.size + 2) _ _ (oldL x true k) [(3, A3)] rfl rfl (io5.tr ?e0) (one_g _ ((3 : Nat), (A3 : Nat)) _ rfl _ ?e9) ?e1 ?e2 ?e3)
     case e0 => exact bm
     case e1 => have := OLl.out; first | omega | (simp; omega)
     case e2 => first | omega | (simp [World.setCell]; omega)
     case e9 => first | rfl | simp [World.setCell]
     case e3 =>
     intro v6 w6 o6 hg6 hat6
     obtain ⟨ua, ul, uc, rfl⟩ := own_form3 o6 enP_len
     have ib6 := gr_blk hg6 (ib5.alloc _) (fun j hj => by have := io5.block j hj; omega)
     have inn6 := gr_blk hg6 (inn5.alloc _) (fun j hj => by have := io5.block j hj; omega)
     have ih6 : OwnR 113 2 enP w6 (w1.heap.size + 2) (.slice va vl vc) _ := OwnR.row (o5.tr (Below.alloc (Below.refl _ _) (Nat.le_refl _) _)) hg6 iap4
     have iap6 : Apt (.slice va vl vc) (.slice ua ul uc) := (Apt.left iap4.sym hat6 (fun j hj => by have := o5.lt j hj; simp; omega)).sym
     have ibel6 : Below w1.heap.size w1 w6 := gr_low (B := w1.heap.size + 2) hg6 (low_alloc ibel5 (Nat.le_refl _) _) io5.block (by omega) (Nat.le_refl _)
     have hs6 := hg6.size
     have hs60 : w4.heap.size + 1 ≤ w6.heap.size := by simpa [World.setCell] using hs6
     obtain ⟨lb6, cb6, fb6⟩ := ib6.get
     have hfin : Hid (sInv x true w w1 ⟨(a1, n1, c1), (a2, n2, c2), (a3, n3, c3)⟩ (.slice (some ⟨gb, go, none⟩) N gc) (.slice qa (gRoots x).length qc) (k + 1) (.slice va vl vc) (.slice ua ul uc) (w6.setCell ⟨w1.heap.size, 13, none⟩ (.slice ua ul uc))) := Lib.hid (by
      refine ⟨?_, ?_, ?_, ?_, iap6, low_set ibel6 (Nat.le_refl _) _, by simp [World.setCell]; omega⟩
      ·exact ib6.set 13 (.slice ua ul uc)
      ·have := inn6.other (p := ⟨w1.heap.size, 13, none⟩) (by simp) (.slice ua ul uc)
       rw [HU1.out, HU2.out, HU3.out, HU4.out]
       simpa using this
      ·rw [HLs.out, HPH.out]
       exact OwnR.setLow ih6 (show w1.heap.size < w1.heap.size + 2 by omega) _
      ·rw [OLs.out, HPO.out]
       exact OwnR.setLow o6 (show w1.heap.size < w1.heap.size + 2 by omega) _)
     clear ib6 inn6 ih6 iap6 ibel6 o6 hg6 hat6 ib5 inn5 io5 o5 ibel5 K24 iap4 iap HLs OLs HPH HPO HU1 HU2 HU3 HU4
     go_wp2_with fail
     exact ⟨⟨k + 1, _, _, by omega, by go_num, by rw [HU0.out]; simp, hfin⟩, by simp [intOf]; omega⟩
   ·cases hf : clF x k with
    | true =>
     replace hO : opt x true k = 4 := by unfold opt; rw [hK, hf]; rfl
     have HC1 : Hid (∀ W, Below w.heap.size w W → Calls Tryz.prog 57 #[.agg #[.slice a1 n1 c1, .slice a2 n2 c2, .slice a3 n3 c3, .int .u64 x.base, .int .i64 x.slack, .int .i64 x.scan, .int .i64 x.tt], .int .i64 k, .bool _] W fun e w' => e = .returned (.tuple #[.int .i64 2, .bool (true)]) ∧ Below W.heap.size W w') := Lib.hid fun W hb => by
      have := hcl.out W k (by omega) hb
      rw [hK] at this
      try rw [hf] at this
      exact this
     have hbw : Below w.heap.size w wr := by exact bm
     have kx := KX.tr ibel
     obtain ⟨lx, cx, fx⟩ := kx.get
     go_wp2_with fail
     refine (HC1.out _ ?_).mono ?_
     ·exact bm
     rintro e w2 ⟨rfl, k2⟩
     replace ib := ib.tr k2
     replace inn := inn.tr k2
     replace ih := ih.tr k2
     replace io := io.tr k2
     replace hc0 := cell_tr k2 hc0
     replace hc1 := cell_tr k2 hc1
     have hs2 := k2.size
     replace ibel := kp_tr ibel k2
     obtain ⟨lb, cb, fb⟩ := ib.get
     obtain ⟨ln, cn, fn⟩ := inn.get
     clear HC1 hbw kx lx cx fx k2 hI
     go_upto_region 8 with (fail)
     go_quiet (fail)
     have kq : Below w2.heap.size w2 (w2.drewN nq) := below_drewN (Below.refl _ _) nq
     replace ib := ib.tr kq
     replace inn := inn.tr kq
     replace ih := ih.tr kq
     replace io := io.tr kq
     replace ibel := kp_tr ibel kq
     have hsq := kq.size
     clear lb cb fb ln cn fn kq
     generalize w2.drewN nq = W2 at *
     obtain ⟨lb, cb, fb⟩ := ib.get
     obtain ⟨ln, cn, fn⟩ := inn.get
     have hisz : w1.heap.size + 2 ≤ W2.heap.size := by omega
     have hKr : Hid (∀ j, hv.ownBlock = some j → j < W2.heap.size) := Lib.hid fun j hj => ih.lt j hj
     have HU0 : Hid (hof x true 0 (k + 1) = hof x true 0 k + if hpt x true k = 0 then 1 + slN x k else 0) := rfl
     have HU1 : Hid (hof x true 1 (k + 1) = hof x true 1 k + if hpt x true k = 1 then 1 + slN x k else 0) := rfl
     have HU2 : Hid (hof x true 2 (k + 1) = hof x true 2 k + if hpt x true k = 2 then 1 + slN x k else 0) := rfl
     have HU3 : Hid (oof x true 3 (k + 1) = oof x true 3 k + if opt x true k = 3 then 1 + slN x k else 0) := rfl
     have HU4 : Hid (oof x true 4 (k + 1) = oof x true 4 k + if opt x true k = 4 then 1 + slN x k else 0) := rfl
     have hm0 := HHM.out 0 k (by omega)
     have hm1 := HHM.out 1 k (by omega)
     have hm2 := HHM.out 2 k (by omega)
     have hm3 := HOM.out 3 k (by omega)
     have hm4 := HOM.out 4 k (by omega)
     have hhl := HHL.out
     have hol := HOL.out
     have HPH : Hid (plH x true k = (hpt x true k, if hpt x true k = 0 then 0 else hof x true (hpt x true k) k)) := rfl
     have HPO : Hid (plO x true k = (opt x true k, if opt x true k = 0 then 0 else oof x true (opt x true k) k)) := rfl
     have HLs := Lib.hid (hereL_succ x true k)
     have OLs := Lib.hid (oldL_succ x true k)
     have HLl : Hid ((hereL x true k).length = k) := Lib.hid (by unfold hereL; simp)
     have OLl : Hid ((oldL x true k).length = k) := Lib.hid (by unfold oldL; simp)
     rw [hH] at HU0 HU1 HU2 HPH
     rw [hO] at HU3 HU4 HPO
     rw [← HZ.out] at HU0 HU1 HU2 HU3 HU4
     have hb0 : hof x true 0 k ≤ 90 := by omega
     have hb1 : hof x true 1 k ≤ 90 := by omega
     have hb2 : hof x true 2 k ≤ 90 := by omega
     have hb3 : oof x true 3 k ≤ 90 := by omega
     have hb4 : oof x true 4 k ≤ 90 := by omega
     clear hm0 hm1 hm2 hm3 hm4 hhl hol
     generalize hof x true 0 k = A0 at *
     generalize hof x true 1 k = A1 at *
     generalize hof x true 2 k = A2 at *
     generalize oof x true 3 k = A3 at *
     generalize oof x true 4 k = A4 at *
     have hz0 : IntKind.i64.wrap ((A0 : Int) + (Z : Int)) = (A0 : Int) + (Z : Int) := IntWalk.i64_in _ (by omega)
     have hz1 : IntKind.i64.wrap ((A1 : Int) + (Z : Int)) = (A1 : Int) + (Z : Int) := IntWalk.i64_in _ (by omega)
     have hz2 : IntKind.i64.wrap ((A2 : Int) + (Z : Int)) = (A2 : Int) + (Z : Int) := IntWalk.i64_in _ (by omega)
     have hz3 : IntKind.i64.wrap ((A3 : Int) + (Z : Int)) = (A3 : Int) + (Z : Int) := IntWalk.i64_in _ (by omega)
     have hz4 : IntKind.i64.wrap ((A4 : Int) + (Z : Int)) = (A4 : Int) + (Z : Int) := IntWalk.i64_in _ (by omega)
     go_upto_region 21 with (fail)
     have hSP : SP (W2.setCell ⟨w1.heap.size + 1, 4, none⟩ (.int .i64 ((A4 : Int) + (Z : Int)))) w1 _ _ _ _ _ _ W2.heap.size := (SP.set ⟨ib, inn, ih, io, ibel, rfl⟩ 4 _)
     clear ib inn ih io ibel lb cb fb ln cn fn
     generalize (W2.setCell ⟨w1.heap.size + 1, 4, none⟩ (.int .i64 ((A4 : Int) + (Z : Int)))) = Wn at *
     obtain ⟨ib, inn, ih, io, ibel, hszn⟩ := hSP
     generalize W2.heap.size = S at *
     have K1 : Blk ((Wn.alloc (.cells #[.int .i64 0, .int .i64 0] 113)).alloc (.cells #[.int .i64 4, .int .i64 A4] 113)) S #[.int .i64 0, .int .i64 0] 113 := (Blk.mk hszn.symm).alloc _
     have K2 : Blk ((Wn.alloc (.cells #[.int .i64 0, .int .i64 0] 113)).alloc (.cells #[.int .i64 4, .int .i64 A4] 113)) (S + 1) #[.int .i64 4, .int .i64 A4] 113 := Blk.mk (by simp [hszn])
     have kA : Below Wn.heap.size Wn ((Wn.alloc (.cells #[.int .i64 0, .int .i64 0] 113)).alloc (.cells #[.int .i64 4, .int .i64 A4] 113)) := by exact bm
     replace ib := ib.tr kA
     replace inn := inn.tr kA
     replace ih := ih.tr kA
     replace io := io.tr kA
     replace ibel := kp_tr ibel kA
     have hs3 := kA.size
     clear kA hszn
     generalize (Wn.alloc (.cells #[.int .i64 0, .int .i64 0] 113)).alloc (.cells #[.int .i64 4, .int .i64 A4] 113) = W3 at *
     obtain ⟨lb, cb, fb⟩ := ib.get
     obtain ⟨l1, d1, f1⟩ := K1.get
     obtain ⟨l2, d2, f2⟩ := K2.get
     obtain ⟨hva, hvl, hvc, rfl⟩ := own_form3 ih enP_len
     obtain ⟨ova, ovl, ovc, rfl⟩ := own_form3 io enP_len
     have hS3 : w1.heap.size + 2 ≤ W3.heap.size := by omega
     go_wp2_with (at_builtin; refine app_p _ rfl _ _ rfl (w1.heap.size + 2) _ _ (hereL x true k) [(0, 0)] rfl rfl (ih.tr ?e0) (one_g _ ((0 : Nat), (0 : Nat)) _ rfl _ rfl) ?e1 ?e2 ?e3)
     case e0 => exact bm
     case e1 => have := HLl.out; first | omega | (simp; omega)
     case e2 => first | omega | (simp; omega)
     case e3 =>
     intro v4 w4 o4 hg4 hat4
     obtain ⟨va, vl, vc, rfl⟩ := own_form3 o4 enP_len
     have ib4 := gr_blk hg4 (ib.alloc _) (fun j hj => by have := ih.block j hj; omega)
     have inn4 := gr_blk hg4 (inn.alloc _) (fun j hj => by have := ih.block j hj; omega)
     have K24 := gr_blk hg4 (K2.alloc _) (fun j hj => by have := ih.lt j hj; have := hKr.out j hj; omega)
     have io4 : OwnR 113 2 enP w4 (w1.heap.size + 2) (.slice ova ovl ovc) (oldL x true k) := OwnR.row (io.tr (Below.alloc (Below.refl _ _) (Nat.le_refl _) _)) hg4 iap.sym
     have iap4 : Apt (.slice va vl vc) (.slice ova ovl ovc) := Apt.left iap hat4 (fun j hj => by have := io.lt j hj; simp; omega)
     have ibel4 : Below w1.heap.size w1 w4 := gr_low (B := w1.heap.size + 2) hg4 (low_alloc ibel (Nat.le_refl _) _) ih.block (by omega) (Nat.le_refl _)
     have hs4 := hg4.size
     have hs40 : W3.heap.size + 1 ≤ w4.heap.size := by simpa using hs4
     have io5 := OwnR.setLow io4 (p := ⟨w1.heap.size, 12, none⟩) (show w1.heap.size < w1.heap.size + 2 by omega) (.slice va vl vc)
     have o5 := OwnR.setLow o4 (p := ⟨w1.heap.size, 12, none⟩) (show w1.heap.size < w1.heap.size + 2 by omega) (.slice va vl vc)
     have ib5 := ib4.set 12 (.slice va vl vc)
     have inn5 := inn4.other (p := ⟨w1.heap.size, 12, none⟩) (by simp) (.slice va vl vc)
     have ibel5 := low_set ibel4 (p := ⟨w1.heap.size, 12, none⟩) (Nat.le_refl _) (.slice va vl vc)
     obtain ⟨lb4, cb4, fb4⟩ := ib4.get
     obtain ⟨lk4, ck4, fk4⟩ := K24.get
     have hs5 : (w4.setCell ⟨w1.heap.size, 12, none⟩ (.slice va vl vc)).heap.size = w4.heap.size := by simp [World.setCell]
     clear lb cb fb d1 f1 d2 f2 K1 K2 ib ih io hg4 hat4 ib4 inn4 io4 o4 ibel4 ibel hs4
     go_wp2_with (at_builtin; refine app_p _ rfl _ _ rfl (w1.heap.size + 2) _ _ (oldL x true k) [(4, A4)] rfl rfl (io5.tr ?e0) (one_g _ ((4 : Nat), (A4 : Nat)) _ rfl _ ?e9) ?e1 ?e2 ?e3)
     case e0 => exact bm
     case e1 => have := OLl.out; first | omega | (simp; omega)
     case e2 => first | omega | (simp [World.setCell]; omega)
     case e9 => first | rfl | simp [World.setCell]
     case e3 =>
     intro v6 w6 o6 hg6 hat6
     obtain ⟨ua, ul, uc, rfl⟩ := own_form3 o6 enP_len
     have ib6 := gr_blk hg6 (ib5.alloc _) (fun j hj => by have := io5.block j hj; omega)
     have inn6 := gr_blk hg6 (inn5.alloc _) (fun j hj => by have := io5.block j hj; omega)
     have ih6 : OwnR 113 2 enP w6 (w1.heap.size + 2) (.slice va vl vc) _ := OwnR.row (o5.tr (Below.alloc (Below.refl _ _) (Nat.le_refl _) _)) hg6 iap4
     have iap6 : Apt (.slice va vl vc) (.slice ua ul uc) := (Apt.left iap4.sym hat6 (fun j hj => by have := o5.lt j hj; simp; omega)).sym
     have ibel6 : Below w1.heap.size w1 w6 := gr_low (B := w1.heap.size + 2) hg6 (low_alloc ibel5 (Nat.le_refl _) _) io5.block (by omega) (Nat.le_refl _)
     have hs6 := hg6.size
     have hs60 : w4.heap.size + 1 ≤ w6.heap.size := by simpa [World.setCell] using hs6
     obtain ⟨lb6, cb6, fb6⟩ := ib6.get
     have hfin : Hid (sInv x true w w1 ⟨(a1, n1, c1), (a2, n2, c2), (a3, n3, c3)⟩ (.slice (some ⟨gb, go, none⟩) N gc) (.slice qa (gRoots x).length qc) (k + 1) (.slice va vl vc) (.slice ua ul uc) (w6.setCell ⟨w1.heap.size, 13, none⟩ (.slice ua ul uc))) := Lib.hid (by
      refine ⟨?_, ?_, ?_, ?_, iap6, low_set ibel6 (Nat.le_refl _) _, by simp [World.setCell]; omega⟩
      ·exact ib6.set 13 (.slice ua ul uc)
      ·have := inn6.other (p := ⟨w1.heap.size, 13, none⟩) (by simp) (.slice ua ul uc)
       rw [HU1.out, HU2.out, HU3.out, HU4.out]
       simpa using this
      ·rw [HLs.out, HPH.out]
       exact OwnR.setLow ih6 (show w1.heap.size < w1.heap.size + 2 by omega) _
      ·rw [OLs.out, HPO.out]
       exact OwnR.setLow o6 (show w1.heap.size < w1.heap.size + 2 by omega) _)
     clear ib6 inn6 ih6 iap6 ibel6 o6 hg6 hat6 ib5 inn5 io5 o5 ibel5 K24 iap4 iap HLs OLs HPH HPO HU1 HU2 HU3 HU4
     go_wp2_with fail
     exact ⟨⟨k + 1, _, _, by omega, by go_num, by rw [HU0.out]; simp, hfin⟩, by simp [intOf]; omega⟩
    | false =>
     replace hO : opt x true k = 3 := by unfold opt; rw [hK, hf]; rfl
     have HC1 : Hid (∀ W, Below w.heap.size w W → Calls Tryz.prog 57 #[.agg #[.slice a1 n1 c1, .slice a2 n2 c2, .slice a3 n3 c3, .int .u64 x.base, .int .i64 x.slack, .int .i64 x.scan, .int .i64 x.tt], .int .i64 k, .bool _] W fun e w' => e = .returned (.tuple #[.int .i64 2, .bool (false)]) ∧ Below W.heap.size W w') := Lib.hid fun W hb => by
      have := hcl.out W k (by omega) hb
      rw [hK] at this
      try rw [hf] at this
      exact this
     have hbw : Below w.heap.size w wr := by exact bm
     have kx := KX.tr ibel
     obtain ⟨lx, cx, fx⟩ := kx.get
     go_wp2_with fail
     refine (HC1.out _ ?_).mono ?_
     ·exact bm
     rintro e w2 ⟨rfl, k2⟩
     replace ib := ib.tr k2
     replace inn := inn.tr k2
     replace ih := ih.tr k2
     replace io := io.tr k2
     replace hc0 := cell_tr k2 hc0
     replace hc1 := cell_tr k2 hc1
     have hs2 := k2.size
     replace ibel := kp_tr ibel k2
     obtain ⟨lb, cb, fb⟩ := ib.get
     obtain ⟨ln, cn, fn⟩ := inn.get
     clear HC1 hbw kx lx cx fx k2 hI
     go_upto_region 8 with (fail)
     go_quiet (fail)
     have kq : Below w2.heap.size w2 (w2.drewN nq) := below_drewN (Below.refl _ _) nq
     replace ib := ib.tr kq
     replace inn := inn.tr kq
     replace ih := ih.tr kq
     replace io := io.tr kq
     replace ibel := kp_tr ibel kq
     have hsq := kq.size
     clear lb cb fb ln cn fn kq
     generalize w2.drewN nq = W2 at *
     obtain ⟨lb, cb, fb⟩ := ib.get
     obtain ⟨ln, cn, fn⟩ := inn.get
     have hisz : w1.heap.size + 2 ≤ W2.heap.size := by omega
     have hKr : Hid (∀ j, hv.ownBlock = some j → j < W2.heap.size) := Lib.hid fun j hj => ih.lt j hj
     have HU0 : Hid (hof x true 0 (k + 1) = hof x true 0 k + if hpt x true k = 0 then 1 + slN x k else 0) := rfl
     have HU1 : Hid (hof x true 1 (k + 1) = hof x true 1 k + if hpt x true k = 1 then 1 + slN x k else 0) := rfl
     have HU2 : Hid (hof x true 2 (k + 1) = hof x true 2 k + if hpt x true k = 2 then 1 + slN x k else 0) := rfl
     have HU3 : Hid (oof x true 3 (k + 1) = oof x true 3 k + if opt x true k = 3 then 1 + slN x k else 0) := rfl
     have HU4 : Hid (oof x true 4 (k + 1) = oof x true 4 k + if opt x true k = 4 then 1 + slN x k else 0) := rfl
     have hm0 := HHM.out 0 k (by omega)
     have hm1 := HHM.out 1 k (by omega)
     have hm2 := HHM.out 2 k (by omega)
     have hm3 := HOM.out 3 k (by omega)
     have hm4 := HOM.out 4 k (by omega)
     have hhl := HHL.out
     have hol := HOL.out
     have HPH : Hid (plH x true k = (hpt x true k, if hpt x true k = 0 then 0 else hof x true (hpt x true k) k)) := rfl
     have HPO : Hid (plO x true k = (opt x true k, if opt x true k = 0 then 0 else oof x true (opt x true k) k)) := rfl
     have HLs := Lib.hid (hereL_succ x true k)
     have OLs := Lib.hid (oldL_succ x true k)
     have HLl : Hid ((hereL x true k).length = k) := Lib.hid (by unfold hereL; simp)
     have OLl : Hid ((oldL x true k).length = k) := Lib.hid (by unfold oldL; simp)
     rw [hH] at HU0 HU1 HU2 HPH
     rw [hO] at HU3 HU4 HPO
     rw [← HZ.out] at HU0 HU1 HU2 HU3 HU4
     have hb0 : hof x true 0 k ≤ 90 := by omega
     have hb1 : hof x true 1 k ≤ 90 := by omega
     have hb2 : hof x true 2 k ≤ 90 := by omega
     have hb3 : oof x true 3 k ≤ 90 := by omega
     have hb4 : oof x true 4 k ≤ 90 := by omega
     clear hm0 hm1 hm2 hm3 hm4 hhl hol
     generalize hof x true 0 k = A0 at *
     generalize hof x true 1 k = A1 at *
     generalize hof x true 2 k = A2 at *
     generalize oof x true 3 k = A3 at *
     generalize oof x true 4 k = A4 at *
     have hz0 : IntKind.i64.wrap ((A0 : Int) + (Z : Int)) = (A0 : Int) + (Z : Int) := IntWalk.i64_in _ (by omega)
     have hz1 : IntKind.i64.wrap ((A1 : Int) + (Z : Int)) = (A1 : Int) + (Z : Int) := IntWalk.i64_in _ (by omega)
     have hz2 : IntKind.i64.wrap ((A2 : Int) + (Z : Int)) = (A2 : Int) + (Z : Int) := IntWalk.i64_in _ (by omega)
     have hz3 : IntKind.i64.wrap ((A3 : Int) + (Z : Int)) = (A3 : Int) + (Z : Int) := IntWalk.i64_in _ (by omega)
     have hz4 : IntKind.i64.wrap ((A4 : Int) + (Z : Int)) = (A4 : Int) + (Z : Int) := IntWalk.i64_in _ (by omega)
     go_upto_region 21 with (fail)
     have hSP : SP (W2.setCell ⟨w1.heap.size + 1, 3, none⟩ (.int .i64 ((A3 : Int) + (Z : Int)))) w1 _ _ _ _ _ _ W2.heap.size := (SP.set ⟨ib, inn, ih, io, ibel, rfl⟩ 3 _)
     clear ib inn ih io ibel lb cb fb ln cn fn
     generalize (W2.setCell ⟨w1.heap.size + 1, 3, none⟩ (.int .i64 ((A3 : Int) + (Z : Int)))) = Wn at *
     obtain ⟨ib, inn, ih, io, ibel, hszn⟩ := hSP
     generalize W2.heap.size = S at *
     have K1 : Blk ((Wn.alloc (.cells #[.int .i64 0, .int .i64 0] 113)).alloc (.cells #[.int .i64 3, .int .i64 A3] 113)) S #[.int .i64 0, .int .i64 0] 113 := (Blk.mk hszn.symm).alloc _
     have K2 : Blk ((Wn.alloc (.cells #[.int .i64 0, .int .i64 0] 113)).alloc (.cells #[.int .i64 3, .int .i64 A3] 113)) (S + 1) #[.int .i64 3, .int .i64 A3] 113 := Blk.mk (by simp [hszn])
     have kA : Below Wn.heap.size Wn ((Wn.alloc (.cells #[.int .i64 0, .int .i64 0] 113)).alloc (.cells #[.int .i64 3, .int .i64 A3] 113)) := by exact bm
     replace ib := ib.tr kA
     replace inn := inn.tr kA
     replace ih := ih.tr kA
     replace io := io.tr kA
     replace ibel := kp_tr ibel kA
     have hs3 := kA.size
     clear kA hszn
     generalize (Wn.alloc (.cells #[.int .i64 0, .int .i64 0] 113)).alloc (.cells #[.int .i64 3, .int .i64 A3] 113) = W3 at *
     obtain ⟨lb, cb, fb⟩ := ib.get
     obtain ⟨l1, d1, f1⟩ := K1.get
     obtain ⟨l2, d2, f2⟩ := K2.get
     obtain ⟨hva, hvl, hvc, rfl⟩ := own_form3 ih enP_len
     obtain ⟨ova, ovl, ovc, rfl⟩ := own_form3 io enP_len
     have hS3 : w1.heap.size + 2 ≤ W3.heap.size := by omega
     go_wp2_with (at_builtin; refine app_p _ rfl _ _ rfl (w1.heap.size + 2) _ _ (hereL x true k) [(0, 0)] rfl rfl (ih.tr ?e0) (one_g _ ((0 : Nat), (0 : Nat)) _ rfl _ rfl) ?e1 ?e2 ?e3)
     case e0 => exact bm
     case e1 => have := HLl.out; first | omega | (simp; omega)
     case e2 => first | omega | (simp; omega)
     case e3 =>
     intro v4 w4 o4 hg4 hat4
     obtain ⟨va, vl, vc, rfl⟩ := own_form3 o4 enP_len
     have ib4 := gr_blk hg4 (ib.alloc _) (fun j hj => by have := ih.block j hj; omega)
     have inn4 := gr_blk hg4 (inn.alloc _) (fun j hj => by have := ih.block j hj; omega)
     have K24 := gr_blk hg4 (K2.alloc _) (fun j hj => by have := ih.lt j hj; have := hKr.out j hj; omega)
     have io4 : OwnR 113 2 enP w4 (w1.heap.size + 2) (.slice ova ovl ovc) (oldL x true k) := OwnR.row (io.tr (Below.alloc (Below.refl _ _) (Nat.le_refl _) _)) hg4 iap.sym
     have iap4 : Apt (.slice va vl vc) (.slice ova ovl ovc) := Apt.left iap hat4 (fun j hj => by have := io.lt j hj; simp; omega)
     have ibel4 : Below w1.heap.size w1 w4 := gr_low (B := w1.heap.size + 2) hg4 (low_alloc ibel (Nat.le_refl _) _) ih.block (by omega) (Nat.le_refl _)
     have hs4 := hg4.size
     have hs40 : W3.heap.size + 1 ≤ w4.heap.size := by simpa using hs4
     have io5 := OwnR.setLow io4 (p := ⟨w1.heap.size, 12, none⟩) (show w1.heap.size < w1.heap.size + 2 by omega) (.slice va vl vc)
     have o5 := OwnR.setLow o4 (p := ⟨w1.heap.size, 12, none⟩) (show w1.heap.size < w1.heap.size + 2 by omega) (.slice va vl vc)
     have ib5 := ib4.set 12 (.slice va vl vc)
     have inn5 := inn4.other (p := ⟨w1.heap.size, 12, none⟩) (by simp) (.slice va vl vc)
     have ibel5 := low_set ibel4 (p := ⟨w1.heap.size, 12, none⟩) (Nat.le_refl _) (.slice va vl vc)
     obtain ⟨lb4, cb4, fb4⟩ := ib4.get
     obtain ⟨lk4, ck4, fk4⟩ := K24.get
     have hs5 : (w4.setCell ⟨w1.heap.size, 12, none⟩ (.slice va vl vc)).heap.size = w4.heap.size := by simp [World.setCell]
     clear lb cb fb d1 f1 d2 f2 K1 K2 ib ih io hg4 hat4 ib4 inn4 io4 o4 ibel4 ibel hs4
     go_wp2_with (at_builtin; refine app_p _ rfl _ _ rfl (w1.heap.size + 2) _ _ (oldL x true k) [(3, A3)] rfl rfl (io5.tr ?e0) (one_g _ ((3 : Nat), (A3 : Nat)) _ rfl _ ?e9) ?e1 ?e2 ?e3)
     case e0 => exact bm
     case e1 => have := OLl.out; first | omega | (simp; omega)
     case e2 => first | omega | (simp [World.setCell]; omega)
     case e9 => first | rfl | simp [World.setCell]
     case e3 =>
     intro v6 w6 o6 hg6 hat6
     obtain ⟨ua, ul, uc, rfl⟩ := own_form3 o6 enP_len
     have ib6 := gr_blk hg6 (ib5.alloc _) (fun j hj => by have := io5.block j hj; omega)
     have inn6 := gr_blk hg6 (inn5.alloc _) (fun j hj => by have := io5.block j hj; omega)
     have ih6 : OwnR 113 2 enP w6 (w1.heap.size + 2) (.slice va vl vc) _ := OwnR.row (o5.tr (Below.alloc (Below.refl _ _) (Nat.le_refl _) _)) hg6 iap4
     have iap6 : Apt (.slice va vl vc) (.slice ua ul uc) := (Apt.left iap4.sym hat6 (fun j hj => by have := o5.lt j hj; simp; omega)).sym
     have ibel6 : Below w1.heap.size w1 w6 := gr_low (B := w1.heap.size + 2) hg6 (low_alloc ibel5 (Nat.le_refl _) _) io5.block (by omega) (Nat.le_refl _)
     have hs6 := hg6.size
     have hs60 : w4.heap.size + 1 ≤ w6.heap.size := by simpa [World.setCell] using hs6
     obtain ⟨lb6, cb6, fb6⟩ := ib6.get
     have hfin : Hid (sInv x true w w1 ⟨(a1, n1, c1), (a2, n2, c2), (a3, n3, c3)⟩ (.slice (some ⟨gb, go, none⟩) N gc) (.slice qa (gRoots x).length qc) (k + 1) (.slice va vl vc) (.slice ua ul uc) (w6.setCell ⟨w1.heap.size, 13, none⟩ (.slice ua ul uc))) := Lib.hid (by
      refine ⟨?_, ?_, ?_, ?_, iap6, low_set ibel6 (Nat.le_refl _) _, by simp [World.setCell]; omega⟩
      ·exact ib6.set 13 (.slice ua ul uc)
      ·have := inn6.other (p := ⟨w1.heap.size, 13, none⟩) (by simp) (.slice ua ul uc)
       rw [HU1.out, HU2.out, HU3.out, HU4.out]
       simpa using this
      ·rw [HLs.out, HPH.out]
       exact OwnR.setLow ih6 (show w1.heap.size < w1.heap.size + 2 by omega) _
      ·rw [OLs.out, HPO.out]
       exact OwnR.setLow o6 (show w1.heap.size < w1.heap.size + 2 by omega) _)
     clear ib6 inn6 ih6 iap6 ibel6 o6 hg6 hat6 ib5 inn5 io5 o5 ibel5 K24 iap4 iap HLs OLs HPH HPO HU1 HU2 HU3 HU4
     go_wp2_with fail
     exact ⟨⟨k + 1, _, _, by omega, by go_num, by rw [HU0.out]; simp, hfin⟩, by simp [intOf]; omega⟩
  ·obtain rfl : k = N := by omega
   obtain ⟨hva, hvl, hvc, rfl⟩ := own_form3 ih enP_len
   obtain ⟨ova, ovl, ovc, rfl⟩ := own_form3 io enP_len
   have hhl := HHL.out
   have hol := HOL.out
   have HIH := Lib.hid (ih.sees enP_len)
   have HIO := Lib.hid (io.sees enP_len)
   have hbx := KX.tr ibel
   have HXS := Lib.hid HXI.out.num
   obtain ⟨hsl1, hsl2⟩ := HXS.out.slack
   obtain ⟨hsc1, hsc2⟩ := HXS.out.scan
   obtain ⟨htt1, htt2⟩ := HXS.out.tt
   have HPT : Hid (∀ W, Calls Tryz.prog 23 #[.int .i64 x.tt, .int .i64 2] W fun e w' => e = .returned (.int .i64 (pickI x.tt 2)) ∧ W = w') := Lib.hid fun W => pick11_any _ 2 W (by decide) (by decide) htt1 htt2
   have HPS : Hid (∀ W, Calls Tryz.prog 23 #[.int .i64 x.slack, .int .i64 12] W fun e w' => e = .returned (.int .i64 (pickI x.slack 12)) ∧ W = w') := Lib.hid fun W => pick11_any _ 12 W (by decide) (by decide) hsl1 hsl2
   have hmk1 := fun W => make_u (hof x c 1 k) W (by omega)
   have hmk2 := fun W => make_u (hof x c 2 k) W (by omega)
   have hmk3 := fun W => make_u (oof x c 3 k) W (by omega)
   have hmk4 := fun W => make_u (oof x c 4 k) W (by omega)
   obtain ⟨lx, cx, fx⟩ := hbx.get
   obtain ⟨lb, cb, fb⟩ := ib.get
   obtain ⟨ln, cn, fn⟩ := inn.get
   clear hI
   go_upto_region 23 with (fail)
   refine wp_region_held_drew (S := (fun w' => (∀ i, w'.cell? ⟨w.heap.size, i, none⟩ = #[Value.slice a1 n1 c1, .slice a2 n2 c2, .slice a3 n3 c3, .int .u64 x.base, .int .i64 x.slack, .int .i64 x.scan, .int .i64 x.tt][i]?) ∧ (∀ i, w'.cell? ⟨w1.heap.size + 1, i, none⟩ = #[Value.int .i64 0, .int .i64 (hof x c 1 k), .int .i64 (hof x c 2 k), .int .i64 (oof x c 3 k), .int .i64 (oof x c 4 k)][i]?))) (by kernel_rfl) ?_ (fun hHeld => ?_)
   ·(try dsimp only); refine two_blk0 (W := wr) ?_ lx ln cx cn; exact bm
   refine tk 0 ?_
   refine tk 1 ?_
   refine tk 3 ?_
   refine tk 4 ?_
   refine tk 5 ?_
   refine tk 7 ?_
   refine tk 8 ?_
   refine tk 10 ?_
   refine tk 11 ?_
   refine tk 13 ?_
   refine tk 14 ?_
   refine five.any5 (i1 := 2) (i2 := 6) (i3 := 9) (i4 := 12) (i5 := 15) (d1 := 109) (d2 := 113) (d3 := 116) (d4 := 119) (d5 := 122) (f := 3)
    (fun o1 o2 o3 o4 o5 w' => Below wr.heap.size wr w' ∧ (∀ v, o1 = some v → v = .int .i64 (pickI x.tt 2)) ∧ (∀ v, o2 = some v → ZW w.heap.size w' (hof x c 1 k) v) ∧ (∀ v, o3 = some v → ZW w.heap.size w' (hof x c 2 k) v) ∧ (∀ v, o4 = some v → ZW w.heap.size w' (oof x c 3 k) v) ∧ (∀ v, o5 = some v → ZW w.heap.size w' (oof x c 4 k) v))
    (by decide) (by decide) ?_ ?_ ?_ ?_ ?_ ?_ ?_ hHeld ⟨by exact bm, (fun v h => by cases h), (fun v h => by cases h), (fun v h => by cases h), (fun v h => by cases h), (fun v h => by cases h)⟩
   ·intro o1 o2 o3 o4 o5 hc
    cases o1 <;> cases o2 <;> cases o3 <;> cases o4 <;> cases o5
    all_goals first
     | (exfalso; simp [five.cnt] at hc; done)
     | kernel_rfl
   ·intro o2 o3 o4 o5 W hG
    obtain ⟨gb0, gb1, gb2, gb3, gb4, gb5⟩ := hG
    refine five.wpOp_fn (o := { dst := some 109, op := .call { callee := .value (.func 23), args := #[.tmp 108, .const (.int .i64 2)], argTypes := #[3, 3] }, type := 3, pos := "law.go:85", after := #[{ on := 1, ground := Ground.data }], guard := none }) rfl rfl (f := 23) (args := #[.int .i64 x.tt, .int .i64 2]) (v := .int .i64 (pickI x.tt 2)) ?_ (HPT.out W) ⟨_, rfl, two_blk0 (W := wr) gb0 lx ln cx cn, gb0, (fun v hv => by cases hv; rfl), gb2, gb3, gb4, gb5⟩
    have ev : ∀ a0 : Act, a0.eval (.tmp 108) = .int .i64 x.tt → Act.eval (five.A5 109 113 116 119 122 a0 none o2 o3 o4 o5) (.tmp 108) = .int .i64 x.tt := fun a0 h => by
     unfold five.A5
     repeat rw [five.pO_eval (by decide)]
     exact h
    simp only [execOp, resolve, invoke, Sem.run_bind, Sem.run_pure, Result.andThen_ok, List.map_toArray, List.map_cons, List.map_nil]
    rw [ev]
    ·rfl
    ·rfl
   ·intro o1 o3 o4 o5 W hG
    obtain ⟨gb0, gb1, gb2, gb3, gb4, gb5⟩ := hG
    have kW : Below W.heap.size W (W.alloc (.cells (zerosU (hof x c 1 k)) 24)) := by exact bm
    have ev : ∀ a0 : Act, a0.eval (.tmp 112) = .int .i64 (hof x c 1 k) → Act.eval (five.A5 109 113 116 119 122 a0 o1 none o3 o4 o5) (.tmp 112) = .int .i64 (hof x c 1 k) := fun a0 h => by
     unfold five.A5
     repeat rw [five.pO_eval (by decide)]
     exact h
    refine five.wpOp_val rfl rfl (v := .slice (some ⟨W.heap.size, 0, none⟩) (hof x c 1 k) (hof x c 1 k)) (w' := W.alloc (.cells (zerosU (hof x c 1 k)) 24)) ?_ ⟨_, rfl, ?_, ?_⟩
    ·refine five.run_make (ev _ rfl) ?_
     exact hmk1 W
    ·have kk := kp_tr gb0 kW
     refine two_blk0 (W := wr) kk lx ln cx cn
    ·refine ⟨kp_tr gb0 kW, gb1, ?_, ?_, ?_, ?_⟩
     all_goals
      intro v hv
      first
       | (cases hv; exact ⟨_, rfl, Blk.new _ _ _, by have := gb0.size; omega⟩)
       | exact (gb2 v hv).tr kW
       | exact (gb3 v hv).tr kW
       | exact (gb4 v hv).tr kW
       | exact (gb5 v hv).tr kW
   ·intro o1 o2 o4 o5 W hG
    obtain ⟨gb0, gb1, gb2, gb3, gb4, gb5⟩ := hG
    have kW : Below W.heap.size W (W.alloc (.cells (zerosU (hof x c 2 k)) 24)) := by exact bm
    have ev : ∀ a0 : Act, a0.eval (.tmp 115) = .int .i64 (hof x c 2 k) → Act.eval (five.A5 109 113 116 119 122 a0 o1 o2 none o4 o5) (.tmp 115) = .int .i64 (hof x c 2 k) := fun a0 h => by
     unfold five.A5
     repeat rw [five.pO_eval (by decide)]
     exact h
    refine five.wpOp_val rfl rfl (v := .slice (some ⟨W.heap.size, 0, none⟩) (hof x c 2 k) (hof x c 2 k)) (w' := W.alloc (.cells (zerosU (hof x c 2 k)) 24)) ?_ ⟨_, rfl, ?_, ?_⟩
    ·refine five.run_make (ev _ rfl) ?_
     exact hmk2 W
    ·have kk := kp_tr gb0 kW
     refine two_blk0 (W := wr) kk lx ln cx cn
    ·refine ⟨kp_tr gb0 kW, gb1, ?_, ?_, ?_, ?_⟩
     all_goals
      intro v hv
      first
       | (cases hv; exact ⟨_, rfl, Blk.new _ _ _, by have := gb0.size; omega⟩)
       | exact (gb2 v hv).tr kW
       | exact (gb3 v hv).tr kW
       | exact (gb4 v hv).tr kW
       | exact (gb5 v hv).tr kW
   ·intro o1 o2 o3 o5 W hG
    obtain ⟨gb0, gb1, gb2, gb3, gb4, gb5⟩ := hG
    have kW : Below W.heap.size W (W.alloc (.cells (zerosU (oof x c 3 k)) 24)) := by exact bm
    have ev : ∀ a0 : Act, a0.eval (.tmp 118) = .int .i64 (oof x c 3 k) → Act.eval (five.A5 109 113 116 119 122 a0 o1 o2 o3 none o5) (.tmp 118) = .int .i64 (oof x c 3 k) := fun a0 h => by
     unfold five.A5
     repeat rw [five.pO_eval (by decide)]
     exact h
    refine five.wpOp_val rfl rfl (v := .slice (some ⟨W.heap.size, 0, none⟩) (oof x c 3 k) (oof x c 3 k)) (w' := W.alloc (.cells (zerosU (oof x c 3 k)) 24)) ?_ ⟨_, rfl, ?_, ?_⟩
    ·refine five.run_make (ev _ rfl) ?_
     exact hmk3 W
    ·have kk := kp_tr gb0 kW
     refine two_blk0 (W := wr) kk lx ln cx cn
    ·refine ⟨kp_tr gb0 kW, gb1, ?_, ?_, ?_, ?_⟩
     all_goals
      intro v hv
      first
       | (cases hv; exact ⟨_, rfl, Blk.new _ _ _, by have := gb0.size; omega⟩)
       | exact (gb2 v hv).tr kW
       | exact (gb3 v hv).tr kW
       | exact (gb4 v hv).tr kW
       | exact (gb5 v hv).tr kW
   ·intro o1 o2 o3 o4 W hG
    obtain ⟨gb0, gb1, gb2, gb3, gb4, gb5⟩ := hG
    have kW : Below W.heap.size W (W.alloc (.cells (zerosU (oof x c 4 k)) 24)) := by exact bm
    have ev : ∀ a0 : Act, a0.eval (.tmp 121) = .int .i64 (oof x c 4 k) → Act.eval (five.A5 109 113 116 119 122 a0 o1 o2 o3 o4 none) (.tmp 121) = .int .i64 (oof x c 4 k) := fun a0 h => by
     unfold five.A5
     repeat rw [five.pO_eval (by decide)]
     exact h
    refine five.wpOp_val rfl rfl (v := .slice (some ⟨W.heap.size, 0, none⟩) (oof x c 4 k) (oof x c 4 k)) (w' := W.alloc (.cells (zerosU (oof x c 4 k)) 24)) ?_ ⟨_, rfl, ?_, ?_⟩
    ·refine five.run_make (ev _ rfl) ?_
     exact hmk4 W
    ·have kk := kp_tr gb0 kW
     refine two_blk0 (W := wr) kk lx ln cx cn
    ·refine ⟨kp_tr gb0 kW, gb1, ?_, ?_, ?_, ?_⟩
     all_goals
      intro v hv
      first
       | (cases hv; exact ⟨_, rfl, Blk.new _ _ _, by have := gb0.size; omega⟩)
       | exact (gb2 v hv).tr kW
       | exact (gb3 v hv).tr kW
       | exact (gb4 v hv).tr kW
       | exact (gb5 v hv).tr kW
   ·intro v1 v2 v3 v4 v5 W3 hHeld hG
    obtain ⟨gb0, gb1, gb2, gb3, gb4, gb5⟩ := hG
    obtain rfl := gb1 v1 rfl
    obtain ⟨z1, rfl, kz1, hzb1⟩ := gb2 v2 rfl
    obtain ⟨z2, rfl, kz2, hzb2⟩ := gb3 v3 rfl
    obtain ⟨z3, rfl, kz3, hzb3⟩ := gb4 v4 rfl
    obtain ⟨z4, rfl, kz4, hzb4⟩ := gb5 v5 rfl
    have HCX := Lib.hid (And.intro cx cn)
    clear gb1 gb2 gb3 gb4 gb5 hmk1 hmk2 hmk3 hmk4 hcl hg HPT cb cn cx fb fx
    simp only [five.A5, five.L5, five.pO, five.lO, Act.put, List.setIfInBounds_toArray, List.set_cons_zero, List.set_cons_succ]
    refine tk 16 ?_
    refine tk 17 ?_
    have ib3 := ib.tr gb0
    have inn3 := inn.tr gb0
    have bx3 := hbx.tr gb0
    have bel3 := kp_tr ibel gb0
    have ih3 := ih.tr gb0
    have io3 := io.tr gb0
    obtain ⟨lb3, cb3, fb3⟩ := ib3.get
    have hS0 := Lib.hid (two_blk0 (W := wr) gb0 lx ln HCX.out.1 HCX.out.2)
    have hx01 : w.heap.size ≠ w1.heap.size := by omega
    have hx02 : w1.heap.size + 1 ≠ w1.heap.size := by omega
    have hb12 : w1.heap.size < w1.heap.size + 2 := by omega
    have hr12 : w.heap.size + 1 < w1.heap.size + 2 := by omega
    refine co 18 fun K hK => ?_
    go_simp
    skip
    refine hK.out _ _ ?_ (fun hHeld => ?_)
    ·(try dsimp only); (repeat (first | with_reducible exact hS0.out | with_reducible refine two_blk_set ?_ hx01 hx02 _))
    clear hK K
    refine nx ?_
    refine wpAnyH_done (by kernel_rfl) ?_ _
    have hz1 := blk_ne kz1 ib3 (by decide)
    have hz2 := blk_ne kz2 ib3 (by decide)
    have hz3 := blk_ne kz3 ib3 (by decide)
    have hz4 := blk_ne kz4 ib3 (by decide)
    clear lb3 cb3 fb3 hHeld HCX hS0 gb0 hbx ib inn ibel lx lb ln fn ih io
    obtain ⟨LV, hLV⟩ : ∃ L : List (Nat × Value), L = [(0, Value.int .u64 0), (1, .int .i64 0), (2, .int .i64 (pickI x.tt 2)), (3, .bool c), (4, .int .i64 0), (5, .slice (some ⟨z1, 0, none⟩) (hof x c 1 k) (hof x c 1 k)), (6, .slice (some ⟨z2, 0, none⟩) (hof x c 2 k) (hof x c 2 k)), (7, .slice (some ⟨z3, 0, none⟩) (oof x c 3 k) (oof x c 3 k)), (8, .slice (some ⟨z4, 0, none⟩) (oof x c 4 k) (oof x c 4 k)), (9, .slice none 0 0)] := ⟨_, rfl⟩
    have hW : ((((((((((W3.setCell ⟨w1.heap.size, 0, none⟩ (.int .u64 0)).setCell ⟨w1.heap.size, 1, none⟩ (.int .i64 0)).setCell ⟨w1.heap.size, 2, none⟩ (.int .i64 (pickI x.tt 2))).setCell ⟨w1.heap.size, 3, none⟩ (.bool c)).setCell ⟨w1.heap.size, 4, none⟩ (.int .i64 0)).setCell ⟨w1.heap.size, 5, none⟩ (.slice (some ⟨z1, 0, none⟩) (hof x c 1 k) (hof x c 1 k))).setCell ⟨w1.heap.size, 6, none⟩ (.slice (some ⟨z2, 0, none⟩) (hof x c 2 k) (hof x c 2 k))).setCell ⟨w1.heap.size, 7, none⟩ (.slice (some ⟨z3, 0, none⟩) (oof x c 3 k) (oof x c 3 k))).setCell ⟨w1.heap.size, 8, none⟩ (.slice (some ⟨z4, 0, none⟩) (oof x c 4 k) (oof x c 4 k))).setCell ⟨w1.heap.size, 9, none⟩ (.slice none 0 0)) = setC W3 (w1.heap.size) LV := by rw [hLV]; simp only [setC]
    replace ib3 := Blk.setC (L := LV) ib3
    replace inn3 := Blk.offC (L := LV) inn3 hx02
    replace bx3 := Blk.offC (L := LV) bx3 hx01
    replace kz1 := Blk.offC (L := LV) kz1 hz1
    replace kz2 := Blk.offC (L := LV) kz2 hz2
    replace kz3 := Blk.offC (L := LV) kz3 hz3
    replace kz4 := Blk.offC (L := LV) kz4 hz4
    replace ih3 := OwnR.offC (L := LV) ih3 hb12
    replace io3 := OwnR.offC (L := LV) io3 hb12
    replace bel3 := low_setC (L := LV) bel3 (Nat.le_refl _)
    rw [← hW] at ib3 inn3 bx3 kz1 kz2 kz3 kz4 ih3 io3 bel3
    clear hW
    generalize ((((((((((W3.setCell ⟨w1.heap.size, 0, none⟩ (.int .u64 0)).setCell ⟨w1.heap.size, 1, none⟩ (.int .i64 0)).setCell ⟨w1.heap.size, 2, none⟩ (.int .i64 (pickI x.tt 2))).setCell ⟨w1.heap.size, 3, none⟩ (.bool c)).setCell ⟨w1.heap.size, 4, none⟩ (.int .i64 0)).setCell ⟨w1.heap.size, 5, none⟩ (.slice (some ⟨z1, 0, none⟩) (hof x c 1 k) (hof x c 1 k))).setCell ⟨w1.heap.size, 6, none⟩ (.slice (some ⟨z2, 0, none⟩) (hof x c 2 k) (hof x c 2 k))).setCell ⟨w1.heap.size, 7, none⟩ (.slice (some ⟨z3, 0, none⟩) (oof x c 3 k) (oof x c 3 k))).setCell ⟨w1.heap.size, 8, none⟩ (.slice (some ⟨z4, 0, none⟩) (oof x c 4 k) (oof x c 4 k))).setCell ⟨w1.heap.size, 9, none⟩ (.slice none 0 0)) = W4 at *
    rw [hLV] at ib3
    simp only [setA, List.setIfInBounds_toArray, List.set_cons_zero, List.set_cons_succ] at ib3
    clear hLV
    obtain ⟨lx, cx, fx⟩ := bx3.get
    obtain ⟨lb, cb, fb⟩ := ib3.get
    obtain ⟨ln, cn, fn⟩ := inn3.get
    have hcap : (capN x c : Int) = (if ((hof x c 1 k + hof x c 2 k + hof x c 0 k : Nat) : Int) < ((oof x c 3 k + oof x c 4 k : Nat) : Int) then ((oof x c 3 k + oof x c 4 k : Nat) : Int) else ((hof x c 1 k + hof x c 2 k + hof x c 0 k : Nat) : Int)) + pickI x.slack 12 := by
     have := pickI_in x.slack (n := 12) (by decide)
     unfold capN
     rw [hNe]
     split <;> omega
    have hp12 := pickI_in x.slack (n := 12) (by decide)
    have hw1 : IntKind.i64.wrap ((hof x c 1 k : Int) + (hof x c 2 k : Int)) = (hof x c 1 k : Int) + (hof x c 2 k : Int) := IntWalk.i64_in _ (by omega)
    have hw2 : IntKind.i64.wrap ((hof x c 1 k : Int) + (hof x c 2 k : Int) + (hof x c 0 k : Int)) = (hof x c 1 k : Int) + (hof x c 2 k : Int) + (hof x c 0 k : Int) := IntWalk.i64_in _ (by omega)
    have hw3 : IntKind.i64.wrap ((oof x c 3 k : Int) + (oof x c 4 k : Int)) = (oof x c 3 k : Int) + (oof x c 4 k : Int) := IntWalk.i64_in _ (by omega)
    have HCAP := Lib.hid hcap
    have HP12 := Lib.hid hp12
    clear hcap hp12
    generalize pickI x.slack 12 = SL at *
    obtain ⟨MX, hMX⟩ : ∃ M : Int, (if (hof x c 1 k : Int) + (hof x c 2 k : Int) + (hof x c 0 k : Int) < (oof x c 3 k : Int) + (oof x c 4 k : Int) then (oof x c 3 k : Int) + (oof x c 4 k : Int) else (hof x c 1 k : Int) + (hof x c 2 k : Int) + (hof x c 0 k : Int)) = M := ⟨_, rfl⟩
    have hwc : IntKind.i64.wrap (MX + SL) = (capN x c : Int) := by
     have h1 := HP12.out
     have h2 := HCAP.out
     simp only [Int.natCast_add] at h2
     have h3 : -1 ≤ MX ∧ MX ≤ 1000 := by rw [← hMX]; split <;> omega
     rw [IntWalk.i64_in _ (by omega), h2, ← hMX]
    have HMX := Lib.hid hMX
    go_upto_region 24 with (fail)
    go_region_held3 (fun w' => (∀ i, w'.cell? ⟨w.heap.size, i, none⟩ = #[Value.slice a1 n1 c1, .slice a2 n2 c2, .slice a3 n3 c3, .int .u64 x.base, .int .i64 x.slack, .int .i64 x.scan, .int .i64 x.tt][i]?) ∧ (∀ i, w'.cell? ⟨w1.heap.size + 1, i, none⟩ = #[Value.int .i64 0, .int .i64 (hof x c 1 k), .int .i64 (hof x c 2 k), .int .i64 (oof x c 3 k), .int .i64 (oof x c 4 k)][i]?))
      (first | (with_reducible refine two_blk_drew (two_blk_set ?_ hx01 hx02 _); refine two_blk0 (W := W4) ?_ lx ln cx cn; exact bm) | (with_reducible refine two_blk_set ?_ hx01 hx02 _; refine two_blk0 (W := W4) ?_ lx ln cx cn; exact bm) | (refine two_blk0 (W := W4) ?_ lx ln cx cn; exact bm))
      (first | (go_at_call 23; refine (HPS.out _).mono ?_; rintro e w5 ⟨rfl, rfl⟩))
    all_goals
     have hcl2 := cap_le x c
     clear lx cx fx lb cb fb ln cn fn HMX hwc HPS
     obtain ⟨LV, hLV⟩ : ∃ L : List (Nat × Value), L = [(1, Value.int .i64 (capN x c : Int))] := ⟨_, rfl⟩
     have hW : (W4.setCell ⟨w1.heap.size, 1, none⟩ (.int .i64 (capN x c : Int))) = setC W4 (w1.heap.size) LV := by rw [hLV]; simp only [setC]
     replace ib3 := Blk.setC (L := LV) ib3
     replace inn3 := Blk.offC (L := LV) inn3 hx02
     replace bx3 := Blk.offC (L := LV) bx3 hx01
     replace kz1 := Blk.offC (L := LV) kz1 hz1
     replace kz2 := Blk.offC (L := LV) kz2 hz2
     replace kz3 := Blk.offC (L := LV) kz3 hz3
     replace kz4 := Blk.offC (L := LV) kz4 hz4
     replace ih3 := OwnR.offC (L := LV) ih3 hb12
     replace io3 := OwnR.offC (L := LV) io3 hb12
     replace bel3 := low_setC (L := LV) bel3 (Nat.le_refl _)
     rw [← hW] at ib3 inn3 bx3 kz1 kz2 kz3 kz4 ih3 io3 bel3
     clear hW
     generalize (W4.setCell ⟨w1.heap.size, 1, none⟩ (.int .i64 (capN x c : Int))) = W4b at *
     rw [hLV] at ib3
     simp only [setA, List.setIfInBounds_toArray, List.set_cons_zero, List.set_cons_succ] at ib3
     clear hLV
     replace ib3 := ib3.drew
     replace inn3 := inn3.drew
     replace bx3 := bx3.drew
     replace kz1 := kz1.drew
     replace kz2 := kz2.drew
     replace kz3 := kz3.drew
     replace kz4 := kz4.drew
     replace ih3 := OwnR.tr ih3 (kp_drew (Below.refl _ _))
     replace io3 := OwnR.tr io3 (kp_drew (Below.refl _ _))
     replace bel3 := low_drew bel3
     generalize W4b.drew = W5 at *
     have HRR : Blk W5 (w.heap.size + 1) _ 64 := KR.tr bel3
     unfold bCells at HRR
     obtain ⟨lx, cx, fx⟩ := bx3.get
     obtain ⟨lb, cb, fb⟩ := ib3.get
     obtain ⟨ln, cn, fn⟩ := inn3.get
     obtain ⟨hbs1, hbs2⟩ := HXI.out.ok.base
     have u1 : IntKind.u64.wrap (capN x c : Int) = (capN x c : Int) := IntWalk.u64_in _ (by omega)
     have u2 : IntKind.u64.wrap (2 * (capN x c : Int)) = 2 * (capN x c : Int) := IntWalk.u64_in _ (by omega)
     have u3 : IntKind.u64.wrap (9223372036854775808 - 2 * (capN x c : Int)) = 9223372036854775808 - 2 * (capN x c : Int) := IntWalk.u64_in _ (by omega)
     have hmd := Int.emod_nonneg x.base (b := 9223372036854775808 - 2 * (capN x c : Int)) (by omega)
     have hmd2 := Int.emod_lt_of_pos x.base (b := 9223372036854775808 - 2 * (capN x c : Int)) (by omega)
     have u4 : x.base.tmod (9223372036854775808 - 2 * (capN x c : Int)) = x.base % (9223372036854775808 - 2 * (capN x c : Int)) := Int.tmod_eq_emod_of_nonneg hbs1
     have u6 : IntKind.u64.wrap (x.base % (9223372036854775808 - 2 * (capN x c : Int))) = x.base % (9223372036854775808 - 2 * (capN x c : Int)) := IntWalk.u64_in _ (by omega)
     have u5 : IntKind.u64.wrap (1 + x.base % (9223372036854775808 - 2 * (capN x c : Int))) = 1 + x.base % (9223372036854775808 - 2 * (capN x c : Int)) := IntWalk.u64_in _ (by omega)
     have u0 : ((9223372036854775808 - 2 * (capN x c : Int)) == 0) = false := by rw [beq_eq_false_iff_ne]; omega
     have hrx : w.heap.size + 1 ≠ w1.heap.size := by omega
     have h1w : Below w.heap.size w w1 := by exact bm
     have hsf : w.heap.size + 1 ≤ w.heap.size + 1 + 1 + 1 := by omega
     cases c with
     | false =>
      have hscv : (scanN x false : Int) = hof x false 1 k := by unfold scanN; rw [if_neg (by simp), hNe]
      go_upto_region 29 with (fail)
      clear lx cx fx lb cb fb ln cn fn inn3 bx3
      obtain ⟨LV, hLV⟩ : ∃ L : List (Nat × Value), L = [(0, Value.int .u64 (1 + x.base % (9223372036854775808 - 2 * (capN x false : Int)))), (4, .int .i64 (hof x false 1 k))] := ⟨_, rfl⟩
      have hW : ((W5.setCell ⟨w1.heap.size, 0, none⟩ (.int .u64 (1 + x.base % (9223372036854775808 - 2 * (capN x false : Int))))).setCell ⟨w1.heap.size, 4, none⟩ (.int .i64 (hof x false 1 k))) = setC W5 (w1.heap.size) LV := by rw [hLV]; simp only [setC]
      replace ib3 := Blk.setC (L := LV) ib3
      replace HRR := Blk.offC (L := LV) HRR hrx
      replace kz1 := Blk.offC (L := LV) kz1 hz1
      replace kz2 := Blk.offC (L := LV) kz2 hz2
      replace kz3 := Blk.offC (L := LV) kz3 hz3
      replace kz4 := Blk.offC (L := LV) kz4 hz4
      replace ih3 := OwnR.offC (L := LV) ih3 hb12
      replace io3 := OwnR.offC (L := LV) io3 hb12
      replace bel3 := low_setC (L := LV) bel3 (Nat.le_refl _)
      rw [← hW] at ib3 HRR kz1 kz2 kz3 kz4 ih3 io3 bel3
      clear hW
      generalize ((W5.setCell ⟨w1.heap.size, 0, none⟩ (.int .u64 (1 + x.base % (9223372036854775808 - 2 * (capN x false : Int))))).setCell ⟨w1.heap.size, 4, none⟩ (.int .i64 (hof x false 1 k))) = W6 at *
      rw [hLV] at ib3
      simp only [setA, List.setIfInBounds_toArray, List.set_cons_zero, List.set_cons_succ] at ib3
      clear hLV
      obtain ⟨lb, cb, fb⟩ := ib3.get
      obtain ⟨lr, cr, fr⟩ := HRR.get
      go_wp2_with fail
      have hq1 := blk_ne kz1 HRR (by decide)
      have hq2 := blk_ne kz2 HRR (by decide)
      have hq3 := blk_ne kz3 HRR (by decide)
      have hq4 := blk_ne kz4 HRR (by decide)
      have HS6 := Safe.tr HGS.out bel3
      have HR6 := Safe.tr HGR.out bel3
      have bw6 : Below w.heap.size w W6 := Below.trans h1w (bel3.mono h1w.size)
      clear lb cb fb lr cr fr ib3 bel3
      obtain ⟨LV, hLV⟩ : ∃ L : List (Nat × Value), L = [(0, Value.int .u64 (1 + x.base % (9223372036854775808 - 2 * (capN x false : Int)))), (1, .int .i64 (capN x false : Int)), (2, .int .i64 (pickI x.tt 2)), (3, .bool false), (4, .int .i64 (hof x false 1 k)), (5, .slice (some ⟨z1, 0, none⟩) (hof x false 1 k) (hof x false 1 k)), (6, .slice (some ⟨z2, 0, none⟩) (hof x false 2 k) (hof x false 2 k)), (7, .slice (some ⟨z3, 0, none⟩) (oof x false 3 k) (oof x false 3 k)), (8, .slice (some ⟨z4, 0, none⟩) (oof x false 4 k) (oof x false 4 k)), (9, .slice none 0 0), (10, .slice ga k gc), (11, .slice qa (gRoots x).length qc), (12, .slice hva hvl hvc), (13, .slice ova ovl ovc)] := ⟨_, rfl⟩
      have hW : ((((((((((((((W6.setCell ⟨w.heap.size + 1, 0, none⟩ (.int .u64 (1 + x.base % (9223372036854775808 - 2 * (capN x false : Int))))).setCell ⟨w.heap.size + 1, 1, none⟩ (.int .i64 (capN x false : Int))).setCell ⟨w.heap.size + 1, 2, none⟩ (.int .i64 (pickI x.tt 2))).setCell ⟨w.heap.size + 1, 3, none⟩ (.bool false)).setCell ⟨w.heap.size + 1, 4, none⟩ (.int .i64 (hof x false 1 k))).setCell ⟨w.heap.size + 1, 5, none⟩ (.slice (some ⟨z1, 0, none⟩) (hof x false 1 k) (hof x false 1 k))).setCell ⟨w.heap.size + 1, 6, none⟩ (.slice (some ⟨z2, 0, none⟩) (hof x false 2 k) (hof x false 2 k))).setCell ⟨w.heap.size + 1, 7, none⟩ (.slice (some ⟨z3, 0, none⟩) (oof x false 3 k) (oof x false 3 k))).setCell ⟨w.heap.size + 1, 8, none⟩ (.slice (some ⟨z4, 0, none⟩) (oof x false 4 k) (oof x false 4 k))).setCell ⟨w.heap.size + 1, 9, none⟩ (.slice none 0 0)).setCell ⟨w.heap.size + 1, 10, none⟩ (.slice ga k gc)).setCell ⟨w.heap.size + 1, 11, none⟩ (.slice qa (gRoots x).length qc)).setCell ⟨w.heap.size + 1, 12, none⟩ (.slice hva hvl hvc)).setCell ⟨w.heap.size + 1, 13, none⟩ (.slice ova ovl ovc)) = setC W6 (w.heap.size + 1) LV := by rw [hLV]; simp only [setC]
      replace HRR := Blk.setC (L := LV) HRR
      replace kz1 := Blk.offC (L := LV) kz1 hq1
      replace kz2 := Blk.offC (L := LV) kz2 hq2
      replace kz3 := Blk.offC (L := LV) kz3 hq3
      replace kz4 := Blk.offC (L := LV) kz4 hq4
      replace ih3 := OwnR.offC (L := LV) ih3 hr12
      replace io3 := OwnR.offC (L := LV) io3 hr12
      replace HS6 := Safe.setC (L := LV) (b := w.heap.size + 1) HS6 (by first | (simp; done) | (simp; omega))
      replace HR6 := Safe.setC (L := LV) (b := w.heap.size + 1) HR6 (by first | (simp; done) | (simp; omega))
      replace bw6 := low_setC (L := LV) bw6 (Nat.le_succ _)
      rw [← hW] at HRR kz1 kz2 kz3 kz4 ih3 io3 HS6 HR6 bw6
      clear hW
      generalize ((((((((((((((W6.setCell ⟨w.heap.size + 1, 0, none⟩ (.int .u64 (1 + x.base % (9223372036854775808 - 2 * (capN x false : Int))))).setCell ⟨w.heap.size + 1, 1, none⟩ (.int .i64 (capN x false : Int))).setCell ⟨w.heap.size + 1, 2, none⟩ (.int .i64 (pickI x.tt 2))).setCell ⟨w.heap.size + 1, 3, none⟩ (.bool false)).setCell ⟨w.heap.size + 1, 4, none⟩ (.int .i64 (hof x false 1 k))).setCell ⟨w.heap.size + 1, 5, none⟩ (.slice (some ⟨z1, 0, none⟩) (hof x false 1 k) (hof x false 1 k))).setCell ⟨w.heap.size + 1, 6, none⟩ (.slice (some ⟨z2, 0, none⟩) (hof x false 2 k) (hof x false 2 k))).setCell ⟨w.heap.size + 1, 7, none⟩ (.slice (some ⟨z3, 0, none⟩) (oof x false 3 k) (oof x false 3 k))).setCell ⟨w.heap.size + 1, 8, none⟩ (.slice (some ⟨z4, 0, none⟩) (oof x false 4 k) (oof x false 4 k))).setCell ⟨w.heap.size + 1, 9, none⟩ (.slice none 0 0)).setCell ⟨w.heap.size + 1, 10, none⟩ (.slice ga k gc)).setCell ⟨w.heap.size + 1, 11, none⟩ (.slice qa (gRoots x).length qc)).setCell ⟨w.heap.size + 1, 12, none⟩ (.slice hva hvl hvc)).setCell ⟨w.heap.size + 1, 13, none⟩ (.slice ova ovl ovc)) = W7 at *
      rw [hLV] at HRR
      simp only [setA, List.setIfInBounds_toArray, List.set_cons_zero, List.set_cons_succ] at HRR
      clear hLV
      obtain ⟨lr, cr, fr⟩ := HRR.get
      refine bodyPost_ret (v := .agg #[Value.int .u64 (1 + x.base % (9223372036854775808 - 2 * (capN x false : Int))), .int .i64 (capN x false : Int), .int .i64 (pickI x.tt 2), .bool false, .int .i64 (hof x false 1 k), .slice (some ⟨z1, 0, none⟩) (hof x false 1 k) (hof x false 1 k), .slice (some ⟨z2, 0, none⟩) (hof x false 2 k) (hof x false 2 k), .slice (some ⟨z3, 0, none⟩) (oof x false 3 k) (oof x false 3 k), .slice (some ⟨z4, 0, none⟩) (oof x false 4 k) (oof x false 4 k), .slice none 0 0, .slice ga k gc, .slice qa (gRoots x).length qc, .slice hva hvl hvc, .slice ova ovl ovc]) (by simp only [results, Tryz.results21]; go_simp) rfl ?_
      unfold StandR
      refine ⟨⟨⟨(.slice (some ⟨z1, 0, none⟩) (hof x false 1 k) (hof x false 1 k)), (.slice (some ⟨z2, 0, none⟩) (hof x false 2 k) (hof x false 2 k)), (.slice (some ⟨z3, 0, none⟩) (oof x false 3 k) (oof x false 3 k)), (.slice (some ⟨z4, 0, none⟩) (oof x false 4 k) (oof x false 4 k)), (.slice none 0 0)⟩, (ga, k, gc), (qa, (gRoots x).length, qc), (hva, hvl, hvc), (ova, ovl, ovc), ?_, fun W8 hs8 hg8 => ⟨⟨standH_lay x _, rfl, ?_, ?_, ?_⟩, safe_off HS6 (by first | (simp; done) | (simp; omega)) W8 hs8 hg8, safe_off HR6 (by first | (simp; done) | (simp; omega)) W8 hs8 hg8, ?_, ?_, ?_, ?_, rfl⟩⟩, bw6⟩
      ·unfold builtV bCells2 standH layL
       dsimp only
       rw [hscv]
       try rfl
      ·exact ⟨⟨some ⟨z1, 0, none⟩, hof x false 1 k, by simp only [standH, List.length_replicate, hNe]⟩, ⟨some ⟨z2, 0, none⟩, hof x false 2 k, by simp only [standH, List.length_replicate, hNe]⟩, ⟨some ⟨z3, 0, none⟩, oof x false 3 k, by simp only [standH, List.length_replicate, hNe]⟩, ⟨some ⟨z4, 0, none⟩, oof x false 4 k, by simp only [standH, List.length_replicate, hNe]⟩, ⟨_, _, _, rfl⟩⟩
      ·rw [hNe]
       exact own_off enP_len (n := 0) (m := w.heap.size) ih3 (by omega) W8 hs8 hg8
      ·rw [hNe]
       exact own_off enP_len (n := 0) (m := w.heap.size) io3 (by omega) W8 hs8 hg8
      ·simp only [standH, hNe]
       exact zv_off kz1 (by omega) hzb1 W8 hs8 hg8
      ·simp only [standH, hNe]
       exact zv_off kz2 (by omega) hzb2 W8 hs8 hg8
      ·simp only [standH, hNe]
       exact zv_off kz3 (by omega) hzb3 W8 hs8 hg8
      ·simp only [standH, hNe]
       exact zv_off kz4 (by omega) hzb4 W8 hs8 hg8
     | true =>
      obtain ⟨hsc1, hsc2⟩ := HXS.out.scan
      by_cases hn0 : hof x true 1 k = 0
      ·have hn1 : ¬ ((hof x true 1 k : Int) > 0) := by omega
       have hscv : (scanN x true : Int) = hof x true 1 k := by unfold scanN; rw [hNe, if_neg (by omega)]
       clear hn0
       go_upto_region 29 with (fail)
       clear lx cx fx lb cb fb ln cn fn inn3 bx3
       obtain ⟨LV, hLV⟩ : ∃ L : List (Nat × Value), L = [(0, Value.int .u64 (1 + x.base % (9223372036854775808 - 2 * (capN x true : Int)))), (4, .int .i64 (hof x true 1 k))] := ⟨_, rfl⟩
       have hW : ((W5.setCell ⟨w1.heap.size, 0, none⟩ (.int .u64 (1 + x.base % (9223372036854775808 - 2 * (capN x true : Int))))).setCell ⟨w1.heap.size, 4, none⟩ (.int .i64 (hof x true 1 k))) = setC W5 (w1.heap.size) LV := by rw [hLV]; simp only [setC]
       replace ib3 := Blk.setC (L := LV) ib3
       replace HRR := Blk.offC (L := LV) HRR hrx
       replace kz1 := Blk.offC (L := LV) kz1 hz1
       replace kz2 := Blk.offC (L := LV) kz2 hz2
       replace kz3 := Blk.offC (L := LV) kz3 hz3
       replace kz4 := Blk.offC (L := LV) kz4 hz4
       replace ih3 := OwnR.offC (L := LV) ih3 hb12
       replace io3 := OwnR.offC (L := LV) io3 hb12
       replace bel3 := low_setC (L := LV) bel3 (Nat.le_refl _)
       rw [← hW] at ib3 HRR kz1 kz2 kz3 kz4 ih3 io3 bel3
       clear hW
       generalize ((W5.setCell ⟨w1.heap.size, 0, none⟩ (.int .u64 (1 + x.base % (9223372036854775808 - 2 * (capN x true : Int))))).setCell ⟨w1.heap.size, 4, none⟩ (.int .i64 (hof x true 1 k))) = W6 at *
       rw [hLV] at ib3
       simp only [setA, List.setIfInBounds_toArray, List.set_cons_zero, List.set_cons_succ] at ib3
       clear hLV
       obtain ⟨lb, cb, fb⟩ := ib3.get
       obtain ⟨lr, cr, fr⟩ := HRR.get
       go_wp2_with fail
       have hq1 := blk_ne kz1 HRR (by decide)
       have hq2 := blk_ne kz2 HRR (by decide)
       have hq3 := blk_ne kz3 HRR (by decide)
       have hq4 := blk_ne kz4 HRR (by decide)
       have HS6 := Safe.tr HGS.out bel3
       have HR6 := Safe.tr HGR.out bel3
       have bw6 : Below w.heap.size w W6 := Below.trans h1w (bel3.mono h1w.size)
       clear lb cb fb lr cr fr ib3 bel3
       obtain ⟨LV, hLV⟩ : ∃ L : List (Nat × Value), L = [(0, Value.int .u64 (1 + x.base % (9223372036854775808 - 2 * (capN x true : Int)))), (1, .int .i64 (capN x true : Int)), (2, .int .i64 (pickI x.tt 2)), (3, .bool true), (4, .int .i64 (hof x true 1 k)), (5, .slice (some ⟨z1, 0, none⟩) (hof x true 1 k) (hof x true 1 k)), (6, .slice (some ⟨z2, 0, none⟩) (hof x true 2 k) (hof x true 2 k)), (7, .slice (some ⟨z3, 0, none⟩) (oof x true 3 k) (oof x true 3 k)), (8, .slice (some ⟨z4, 0, none⟩) (oof x true 4 k) (oof x true 4 k)), (9, .slice none 0 0), (10, .slice ga k gc), (11, .slice qa (gRoots x).length qc), (12, .slice hva hvl hvc), (13, .slice ova ovl ovc)] := ⟨_, rfl⟩
       have hW : ((((((((((((((W6.setCell ⟨w.heap.size + 1, 0, none⟩ (.int .u64 (1 + x.base % (9223372036854775808 - 2 * (capN x true : Int))))).setCell ⟨w.heap.size + 1, 1, none⟩ (.int .i64 (capN x true : Int))).setCell ⟨w.heap.size + 1, 2, none⟩ (.int .i64 (pickI x.tt 2))).setCell ⟨w.heap.size + 1, 3, none⟩ (.bool true)).setCell ⟨w.heap.size + 1, 4, none⟩ (.int .i64 (hof x true 1 k))).setCell ⟨w.heap.size + 1, 5, none⟩ (.slice (some ⟨z1, 0, none⟩) (hof x true 1 k) (hof x true 1 k))).setCell ⟨w.heap.size + 1, 6, none⟩ (.slice (some ⟨z2, 0, none⟩) (hof x true 2 k) (hof x true 2 k))).setCell ⟨w.heap.size + 1, 7, none⟩ (.slice (some ⟨z3, 0, none⟩) (oof x true 3 k) (oof x true 3 k))).setCell ⟨w.heap.size + 1, 8, none⟩ (.slice (some ⟨z4, 0, none⟩) (oof x true 4 k) (oof x true 4 k))).setCell ⟨w.heap.size + 1, 9, none⟩ (.slice none 0 0)).setCell ⟨w.heap.size + 1, 10, none⟩ (.slice ga k gc)).setCell ⟨w.heap.size + 1, 11, none⟩ (.slice qa (gRoots x).length qc)).setCell ⟨w.heap.size + 1, 12, none⟩ (.slice hva hvl hvc)).setCell ⟨w.heap.size + 1, 13, none⟩ (.slice ova ovl ovc)) = setC W6 (w.heap.size + 1) LV := by rw [hLV]; simp only [setC]
       replace HRR := Blk.setC (L := LV) HRR
       replace kz1 := Blk.offC (L := LV) kz1 hq1
       replace kz2 := Blk.offC (L := LV) kz2 hq2
       replace kz3 := Blk.offC (L := LV) kz3 hq3
       replace kz4 := Blk.offC (L := LV) kz4 hq4
       replace ih3 := OwnR.offC (L := LV) ih3 hr12
       replace io3 := OwnR.offC (L := LV) io3 hr12
       replace HS6 := Safe.setC (L := LV) (b := w.heap.size + 1) HS6 (by first | (simp; done) | (simp; omega))
       replace HR6 := Safe.setC (L := LV) (b := w.heap.size + 1) HR6 (by first | (simp; done) | (simp; omega))
       replace bw6 := low_setC (L := LV) bw6 (Nat.le_succ _)
       rw [← hW] at HRR kz1 kz2 kz3 kz4 ih3 io3 HS6 HR6 bw6
       clear hW
       generalize ((((((((((((((W6.setCell ⟨w.heap.size + 1, 0, none⟩ (.int .u64 (1 + x.base % (9223372036854775808 - 2 * (capN x true : Int))))).setCell ⟨w.heap.size + 1, 1, none⟩ (.int .i64 (capN x true : Int))).setCell ⟨w.heap.size + 1, 2, none⟩ (.int .i64 (pickI x.tt 2))).setCell ⟨w.heap.size + 1, 3, none⟩ (.bool true)).setCell ⟨w.heap.size + 1, 4, none⟩ (.int .i64 (hof x true 1 k))).setCell ⟨w.heap.size + 1, 5, none⟩ (.slice (some ⟨z1, 0, none⟩) (hof x true 1 k) (hof x true 1 k))).setCell ⟨w.heap.size + 1, 6, none⟩ (.slice (some ⟨z2, 0, none⟩) (hof x true 2 k) (hof x true 2 k))).setCell ⟨w.heap.size + 1, 7, none⟩ (.slice (some ⟨z3, 0, none⟩) (oof x true 3 k) (oof x true 3 k))).setCell ⟨w.heap.size + 1, 8, none⟩ (.slice (some ⟨z4, 0, none⟩) (oof x true 4 k) (oof x true 4 k))).setCell ⟨w.heap.size + 1, 9, none⟩ (.slice none 0 0)).setCell ⟨w.heap.size + 1, 10, none⟩ (.slice ga k gc)).setCell ⟨w.heap.size + 1, 11, none⟩ (.slice qa (gRoots x).length qc)).setCell ⟨w.heap.size + 1, 12, none⟩ (.slice hva hvl hvc)).setCell ⟨w.heap.size + 1, 13, none⟩ (.slice ova ovl ovc)) = W7 at *
       rw [hLV] at HRR
       simp only [setA, List.setIfInBounds_toArray, List.set_cons_zero, List.set_cons_succ] at HRR
       clear hLV
       obtain ⟨lr, cr, fr⟩ := HRR.get
       refine bodyPost_ret (v := .agg #[Value.int .u64 (1 + x.base % (9223372036854775808 - 2 * (capN x true : Int))), .int .i64 (capN x true : Int), .int .i64 (pickI x.tt 2), .bool true, .int .i64 (hof x true 1 k), .slice (some ⟨z1, 0, none⟩) (hof x true 1 k) (hof x true 1 k), .slice (some ⟨z2, 0, none⟩) (hof x true 2 k) (hof x true 2 k), .slice (some ⟨z3, 0, none⟩) (oof x true 3 k) (oof x true 3 k), .slice (some ⟨z4, 0, none⟩) (oof x true 4 k) (oof x true 4 k), .slice none 0 0, .slice ga k gc, .slice qa (gRoots x).length qc, .slice hva hvl hvc, .slice ova ovl ovc]) (by simp only [results, Tryz.results21]; go_simp) rfl ?_
       unfold StandR
       refine ⟨⟨⟨(.slice (some ⟨z1, 0, none⟩) (hof x true 1 k) (hof x true 1 k)), (.slice (some ⟨z2, 0, none⟩) (hof x true 2 k) (hof x true 2 k)), (.slice (some ⟨z3, 0, none⟩) (oof x true 3 k) (oof x true 3 k)), (.slice (some ⟨z4, 0, none⟩) (oof x true 4 k) (oof x true 4 k)), (.slice none 0 0)⟩, (ga, k, gc), (qa, (gRoots x).length, qc), (hva, hvl, hvc), (ova, ovl, ovc), ?_, fun W8 hs8 hg8 => ⟨⟨standH_lay x _, rfl, ?_, ?_, ?_⟩, safe_off HS6 (by first | (simp; done) | (simp; omega)) W8 hs8 hg8, safe_off HR6 (by first | (simp; done) | (simp; omega)) W8 hs8 hg8, ?_, ?_, ?_, ?_, rfl⟩⟩, bw6⟩
       ·unfold builtV bCells2 standH layL
        dsimp only
        rw [hscv]
        try rfl
       ·exact ⟨⟨some ⟨z1, 0, none⟩, hof x true 1 k, by simp only [standH, List.length_replicate, hNe]⟩, ⟨some ⟨z2, 0, none⟩, hof x true 2 k, by simp only [standH, List.length_replicate, hNe]⟩, ⟨some ⟨z3, 0, none⟩, oof x true 3 k, by simp only [standH, List.length_replicate, hNe]⟩, ⟨some ⟨z4, 0, none⟩, oof x true 4 k, by simp only [standH, List.length_replicate, hNe]⟩, ⟨_, _, _, rfl⟩⟩
       ·rw [hNe]
        exact own_off enP_len (n := 0) (m := w.heap.size) ih3 (by omega) W8 hs8 hg8
       ·rw [hNe]
        exact own_off enP_len (n := 0) (m := w.heap.size) io3 (by omega) W8 hs8 hg8
       ·simp only [standH, hNe]
        exact zv_off kz1 (by omega) hzb1 W8 hs8 hg8
       ·simp only [standH, hNe]
        exact zv_off kz2 (by omega) hzb2 W8 hs8 hg8
       ·simp only [standH, hNe]
        exact zv_off kz3 (by omega) hzb3 W8 hs8 hg8
       ·simp only [standH, hNe]
        exact zv_off kz4 (by omega) hzb4 W8 hs8 hg8
      ·have hn1 : ((hof x true 1 k : Int) > 0) := by omega
       have hscv : (scanN x true : Int) = pickI x.scan (hof x true 1 k : Int) := by
        have := pickI_in x.scan (n := (hof x true 1 k : Int)) (by omega)
        unfold scanN
        rw [hNe, if_pos ⟨rfl, by omega⟩]
        omega
       go_wp2_with fail
       refine (pick11_any x.scan (hof x true 1 k : Int) _ (by omega) (by omega) hsc1 hsc2).mono ?_; rintro e w6 ⟨rfl, rfl⟩
       generalize pickI x.scan (hof x true 1 k : Int) = SCV at *
       go_upto_region 29 with (fail)
       clear lx cx fx lb cb fb ln cn fn inn3 bx3
       obtain ⟨LV, hLV⟩ : ∃ L : List (Nat × Value), L = [(0, Value.int .u64 (1 + x.base % (9223372036854775808 - 2 * (capN x true : Int)))), (4, .int .i64 (hof x true 1 k)), (4, .int .i64 SCV)] := ⟨_, rfl⟩
       have hW : (((W5.setCell ⟨w1.heap.size, 0, none⟩ (.int .u64 (1 + x.base % (9223372036854775808 - 2 * (capN x true : Int))))).setCell ⟨w1.heap.size, 4, none⟩ (.int .i64 (hof x true 1 k))).setCell ⟨w1.heap.size, 4, none⟩ (.int .i64 SCV)) = setC W5 (w1.heap.size) LV := by rw [hLV]; simp only [setC]
       replace ib3 := Blk.setC (L := LV) ib3
       replace HRR := Blk.offC (L := LV) HRR hrx
       replace kz1 := Blk.offC (L := LV) kz1 hz1
       replace kz2 := Blk.offC (L := LV) kz2 hz2
       replace kz3 := Blk.offC (L := LV) kz3 hz3
       replace kz4 := Blk.offC (L := LV) kz4 hz4
       replace ih3 := OwnR.offC (L := LV) ih3 hb12
       replace io3 := OwnR.offC (L := LV) io3 hb12
       replace bel3 := low_setC (L := LV) bel3 (Nat.le_refl _)
       rw [← hW] at ib3 HRR kz1 kz2 kz3 kz4 ih3 io3 bel3
       clear hW
       generalize (((W5.setCell ⟨w1.heap.size, 0, none⟩ (.int .u64 (1 + x.base % (9223372036854775808 - 2 * (capN x true : Int))))).setCell ⟨w1.heap.size, 4, none⟩ (.int .i64 (hof x true 1 k))).setCell ⟨w1.heap.size, 4, none⟩ (.int .i64 SCV)) = W6 at *
       rw [hLV] at ib3
       simp only [setA, List.setIfInBounds_toArray, List.set_cons_zero, List.set_cons_succ] at ib3
       clear hLV
       obtain ⟨lb, cb, fb⟩ := ib3.get
       obtain ⟨lr, cr, fr⟩ := HRR.get
       go_wp2_with fail
       have hq1 := blk_ne kz1 HRR (by decide)
       have hq2 := blk_ne kz2 HRR (by decide)
       have hq3 := blk_ne kz3 HRR (by decide)
       have hq4 := blk_ne kz4 HRR (by decide)
       have HS6 := Safe.tr HGS.out bel3
       have HR6 := Safe.tr HGR.out bel3
       have bw6 : Below w.heap.size w W6 := Below.trans h1w (bel3.mono h1w.size)
       clear lb cb fb lr cr fr ib3 bel3
       obtain ⟨LV, hLV⟩ : ∃ L : List (Nat × Value), L = [(0, Value.int .u64 (1 + x.base % (9223372036854775808 - 2 * (capN x true : Int)))), (1, .int .i64 (capN x true : Int)), (2, .int .i64 (pickI x.tt 2)), (3, .bool true), (4, .int .i64 SCV), (5, .slice (some ⟨z1, 0, none⟩) (hof x true 1 k) (hof x true 1 k)), (6, .slice (some ⟨z2, 0, none⟩) (hof x true 2 k) (hof x true 2 k)), (7, .slice (some ⟨z3, 0, none⟩) (oof x true 3 k) (oof x true 3 k)), (8, .slice (some ⟨z4, 0, none⟩) (oof x true 4 k) (oof x true 4 k)), (9, .slice none 0 0), (10, .slice ga k gc), (11, .slice qa (gRoots x).length qc), (12, .slice hva hvl hvc), (13, .slice ova ovl ovc)] := ⟨_, rfl⟩
       have hW : ((((((((((((((W6.setCell ⟨w.heap.size + 1, 0, none⟩ (.int .u64 (1 + x.base % (9223372036854775808 - 2 * (capN x true : Int))))).setCell ⟨w.heap.size + 1, 1, none⟩ (.int .i64 (capN x true : Int))).setCell ⟨w.heap.size + 1, 2, none⟩ (.int .i64 (pickI x.tt 2))).setCell ⟨w.heap.size + 1, 3, none⟩ (.bool true)).setCell ⟨w.heap.size + 1, 4, none⟩ (.int .i64 SCV)).setCell ⟨w.heap.size + 1, 5, none⟩ (.slice (some ⟨z1, 0, none⟩) (hof x true 1 k) (hof x true 1 k))).setCell ⟨w.heap.size + 1, 6, none⟩ (.slice (some ⟨z2, 0, none⟩) (hof x true 2 k) (hof x true 2 k))).setCell ⟨w.heap.size + 1, 7, none⟩ (.slice (some ⟨z3, 0, none⟩) (oof x true 3 k) (oof x true 3 k))).setCell ⟨w.heap.size + 1, 8, none⟩ (.slice (some ⟨z4, 0, none⟩) (oof x true 4 k) (oof x true 4 k))).setCell ⟨w.heap.size + 1, 9, none⟩ (.slice none 0 0)).setCell ⟨w.heap.size + 1, 10, none⟩ (.slice ga k gc)).setCell ⟨w.heap.size + 1, 11, none⟩ (.slice qa (gRoots x).length qc)).setCell ⟨w.heap.size + 1, 12, none⟩ (.slice hva hvl hvc)).setCell ⟨w.heap.size + 1, 13, none⟩ (.slice ova ovl ovc)) = setC W6 (w.heap.size + 1) LV := by rw [hLV]; simp only [setC]
       replace HRR := Blk.setC (L := LV) HRR
       replace kz1 := Blk.offC (L := LV) kz1 hq1
       replace kz2 := Blk.offC (L := LV) kz2 hq2
       replace kz3 := Blk.offC (L := LV) kz3 hq3
       replace kz4 := Blk.offC (L := LV) kz4 hq4
       replace ih3 := OwnR.offC (L := LV) ih3 hr12
       replace io3 := OwnR.offC (L := LV) io3 hr12
       replace HS6 := Safe.setC (L := LV) (b := w.heap.size + 1) HS6 (by first | (simp; done) | (simp; omega))
       replace HR6 := Safe.setC (L := LV) (b := w.heap.size + 1) HR6 (by first | (simp; done) | (simp; omega))
       replace bw6 := low_setC (L := LV) bw6 (Nat.le_succ _)
       rw [← hW] at HRR kz1 kz2 kz3 kz4 ih3 io3 HS6 HR6 bw6
       clear hW
       generalize ((((((((((((((W6.setCell ⟨w.heap.size + 1, 0, none⟩ (.int .u64 (1 + x.base % (9223372036854775808 - 2 * (capN x true : Int))))).setCell ⟨w.heap.size + 1, 1, none⟩ (.int .i64 (capN x true : Int))).setCell ⟨w.heap.size + 1, 2, none⟩ (.int .i64 (pickI x.tt 2))).setCell ⟨w.heap.size + 1, 3, none⟩ (.bool true)).setCell ⟨w.heap.size + 1, 4, none⟩ (.int .i64 SCV)).setCell ⟨w.heap.size + 1, 5, none⟩ (.slice (some ⟨z1, 0, none⟩) (hof x true 1 k) (hof x true 1 k))).setCell ⟨w.heap.size + 1, 6, none⟩ (.slice (some ⟨z2, 0, none⟩) (hof x true 2 k) (hof x true 2 k))).setCell ⟨w.heap.size + 1, 7, none⟩ (.slice (some ⟨z3, 0, none⟩) (oof x true 3 k) (oof x true 3 k))).setCell ⟨w.heap.size + 1, 8, none⟩ (.slice (some ⟨z4, 0, none⟩) (oof x true 4 k) (oof x true 4 k))).setCell ⟨w.heap.size + 1, 9, none⟩ (.slice none 0 0)).setCell ⟨w.heap.size + 1, 10, none⟩ (.slice ga k gc)).setCell ⟨w.heap.size + 1, 11, none⟩ (.slice qa (gRoots x).length qc)).setCell ⟨w.heap.size + 1, 12, none⟩ (.slice hva hvl hvc)).setCell ⟨w.heap.size + 1, 13, none⟩ (.slice ova ovl ovc)) = W7 at *
       rw [hLV] at HRR
       simp only [setA, List.setIfInBounds_toArray, List.set_cons_zero, List.set_cons_succ] at HRR
       clear hLV
       obtain ⟨lr, cr, fr⟩ := HRR.get
       refine bodyPost_ret (v := .agg #[Value.int .u64 (1 + x.base % (9223372036854775808 - 2 * (capN x true : Int))), .int .i64 (capN x true : Int), .int .i64 (pickI x.tt 2), .bool true, .int .i64 SCV, .slice (some ⟨z1, 0, none⟩) (hof x true 1 k) (hof x true 1 k), .slice (some ⟨z2, 0, none⟩) (hof x true 2 k) (hof x true 2 k), .slice (some ⟨z3, 0, none⟩) (oof x true 3 k) (oof x true 3 k), .slice (some ⟨z4, 0, none⟩) (oof x true 4 k) (oof x true 4 k), .slice none 0 0, .slice ga k gc, .slice qa (gRoots x).length qc, .slice hva hvl hvc, .slice ova ovl ovc]) (by simp only [results, Tryz.results21]; go_simp) rfl ?_
       unfold StandR
       refine ⟨⟨⟨(.slice (some ⟨z1, 0, none⟩) (hof x true 1 k) (hof x true 1 k)), (.slice (some ⟨z2, 0, none⟩) (hof x true 2 k) (hof x true 2 k)), (.slice (some ⟨z3, 0, none⟩) (oof x true 3 k) (oof x true 3 k)), (.slice (some ⟨z4, 0, none⟩) (oof x true 4 k) (oof x true 4 k)), (.slice none 0 0)⟩, (ga, k, gc), (qa, (gRoots x).length, qc), (hva, hvl, hvc), (ova, ovl, ovc), ?_, fun W8 hs8 hg8 => ⟨⟨standH_lay x _, rfl, ?_, ?_, ?_⟩, safe_off HS6 (by first | (simp; done) | (simp; omega)) W8 hs8 hg8, safe_off HR6 (by first | (simp; done) | (simp; omega)) W8 hs8 hg8, ?_, ?_, ?_, ?_, rfl⟩⟩, bw6⟩
       ·unfold builtV bCells2 standH layL
        dsimp only
        rw [hscv]
        try rfl
       ·exact ⟨⟨some ⟨z1, 0, none⟩, hof x true 1 k, by simp only [standH, List.length_replicate, hNe]⟩, ⟨some ⟨z2, 0, none⟩, hof x true 2 k, by simp only [standH, List.length_replicate, hNe]⟩, ⟨some ⟨z3, 0, none⟩, oof x true 3 k, by simp only [standH, List.length_replicate, hNe]⟩, ⟨some ⟨z4, 0, none⟩, oof x true 4 k, by simp only [standH, List.length_replicate, hNe]⟩, ⟨_, _, _, rfl⟩⟩
       ·rw [hNe]
        exact own_off enP_len (n := 0) (m := w.heap.size) ih3 (by omega) W8 hs8 hg8
       ·rw [hNe]
        exact own_off enP_len (n := 0) (m := w.heap.size) io3 (by omega) W8 hs8 hg8
       ·simp only [standH, hNe]
        exact zv_off kz1 (by omega) hzb1 W8 hs8 hg8
       ·simp only [standH, hNe]
        exact zv_off kz2 (by omega) hzb2 W8 hs8 hg8
       ·simp only [standH, hNe]
        exact zv_off kz3 (by omega) hzb3 W8 hs8 hg8
       ·simp only [standH, hNe]
        exact zv_off kz4 (by omega) hzb4 W8 hs8 hg8
end Go.Proofs.YtpgjploaliefdaaGreat.rh
