/- Layer 11's raw heaps: a node's words are laid. No conditions. -/
import Derived.Test.YtpgjploaliefdaaGreatG20
namespace Go.Proofs.YtpgjploaliefdaaGreat.rh
open Go Go.RowKit hp ob hd cp ck gr lx
set_option linter.unusedVariables false
set_option linter.unusedSimpArgs false
set_option maxRecDepth 100000
set_option maxHeartbeats 4000000
theorem s4b_tr {W w1 : World} {b b2 b3 : Nat} {cs ds es : Array Value} {q : Addr} {v : Value} (hb : Below W.heap.size W w1) (h1 : b < W.heap.size) (h2 : b2 < W.heap.size) (h3 : b3 < W.heap.size) (d1 : ∀ i, W.cell? ⟨b, i, none⟩ = cs[i]?) (d2 : ∀ i, W.cell? ⟨b2, i, none⟩ = ds[i]?) (d3 : ∀ i, W.cell? ⟨b3, i, none⟩ = es[i]?) (hq : W.cell? q = some v) :
  (∀ i, w1.cell? ⟨b, i, none⟩ = cs[i]?) ∧ (∀ i, w1.cell? ⟨b2, i, none⟩ = ds[i]?) ∧ (∀ i, w1.cell? ⟨b3, i, none⟩ = es[i]?) ∧ w1.cell? q = some v := ⟨fun i => (hb.cell (p := ⟨b, i, none⟩) h1).trans (d1 i), fun i => (hb.cell (p := ⟨b2, i, none⟩) h2).trans (d2 i), fun i => (hb.cell (p := ⟨b3, i, none⟩) h3).trans (d3 i), cell_tr hb hq⟩
theorem SF.setP {v : Hv} (h : SF v) (p : Nat) (a : Option Addr) (n c : Nat) : ∃ l h' o f r : Sl, setV v p (.slice a n c) = ⟨slV l, slV h', slV o, slV f, slV r⟩ := by
 obtain ⟨vl, vh, vo, vf, vr⟩ := v
 obtain ⟨⟨la, ln, lc, e1⟩, ⟨ha, hn, hc, e2⟩, ⟨oa, on_, oc, e3⟩, ⟨fa, fn, fc, e4⟩, ⟨ra, rn, rc, e5⟩⟩ := h
 dsimp only at e1 e2 e3 e4 e5
 subst e1 e2 e3 e4 e5
 unfold setV
 split
 ·exact ⟨(a, n, c), (ha, hn, hc), (oa, on_, oc), (fa, fn, fc), (ra, rn, rc), rfl⟩
 split
 ·exact ⟨(la, ln, lc), (a, n, c), (oa, on_, oc), (fa, fn, fc), (ra, rn, rc), rfl⟩
 split
 ·exact ⟨(la, ln, lc), (ha, hn, hc), (a, n, c), (fa, fn, fc), (ra, rn, rc), rfl⟩
 ·exact ⟨(la, ln, lc), (ha, hn, hc), (oa, on_, oc), (a, n, c), (ra, rn, rc), rfl⟩
theorem slots_take (x : Rh) (c : Bool) (p a : Nat) (tw : Int) (ps : List Int) {k : Nat} (hk : k < ps.length) : slotsV x c p a tw 0 (ps.take (k + 1)) = slotsV x c p a tw 0 (ps.take k) ++ [slotV x c p (a + 1 + k) ps[k] (wr (tw + k))] := by
 rw [List.take_succ_eq_append_getElem hk, slotsV_snoc]
 simp only [List.length_take, Nat.min_eq_left (Nat.le_of_lt hk), Nat.zero_add]
theorem layn_any (x : Rh) (c : Bool) (ok : RhOk x) (hh : Hp) (v : Hv) (gs qs hs os : Sl) (p a : Nat) (nd : Sl × Sl) (ps ds : List Int) (tw : Int) (w : World) (hb : BIn w x c hh v gs qs hs os) (hrow : RIn 1 enU w (v.part p) (hh.part p)) (hnd : NodeIn w nd (ps, ds)) (hp : 1 ≤ p ∧ p ≤ 4)
  (hfit : a + 1 + ps.length + ds.length ≤ (hh.part p).length) (hlen : (hh.part p).length ≤ 900) (hps : ∀ t ∈ ps, t < nN x) (hpl : ps.length ≤ 4) (hdl : ds.length ≤ 4) :
  Calls Tryz.prog 58 #[builtV hh v (slV gs) (slV qs) (slV hs) (slV os), .agg #[.int .i64 p, .int .i64 a], .agg #[slV nd.1, slV nd.2], .int .i64 tw] w fun e w' => (∃ u, e = .returned (builtV hh (setV v p u) (slV gs) (slV qs) (slV hs) (slV os)) ∧ OwnR 24 1 enU w' w.heap.size u (ovl (hh.part p) a (packV ((ps.length + ds.length : Nat) : Int) ps.length :: (slotsV x c p a tw 0 ps ++ ds)))) ∧ Below w.heap.size w w' := by
 have hsf := hb.hf.sf
 have HPA : Hid (∀ W, Calls Tryz.prog 24 #[hpV hh v, .int .i64 p] W fun e w' => e = .returned (v.part p) ∧ Below W.heap.size W w') := Lib.hid fun W => part10_any hh v p hp W hsf
 have HWI : Hid (∀ W ua un uc, Calls Tryz.prog 25 #[hpV hh v, .int .i64 p, .slice ua un uc] W fun e w' => (∃ l h' o f r : Sl, e = .returned (hpV hh ⟨slV l, slV h', slV o, slV f, slV r⟩) ∧ setV v p (.slice ua un uc) = ⟨slV l, slV h', slV o, slV f, slV r⟩) ∧ Below W.heap.size W w') := Lib.hid fun W ua un uc => by
  refine (with10_any hh v p hp ua un uc W hsf).mono ?_
  rintro e w' ⟨rfl, k⟩
  obtain ⟨l, h', o, f, r, e⟩ := hsf.setP p ua un uc
  exact ⟨⟨l, h', o, f, r, by rw [e], e⟩, k⟩
 have HSL : Hid (∀ W (j : Nat) (t tw : Int), a + 1 + j < 1000 → t < nN x → Below w.heap.size w W → Calls Tryz.prog 81 #[builtV hh v (slV gs) (slV qs) (slV hs) (slV os), .agg #[.int .i64 p, .int .i64 ((a + 1 + j : Nat) : Int)], .int .i64 t, .int .i64 tw] W fun e w' => e = .returned (.int .u64 (slotV x c p (a + 1 + j) t tw)) ∧ Below W.heap.size W w') := Lib.hid fun W j t tw hj ht hb' => slot_any x c ok hh v gs qs hs os p (a + 1 + j) t tw W (hb.tr hb') hp ht hj
 obtain ⟨⟨pa, pn, pc⟩, ⟨da, dn, dc⟩⟩ := nd
 obtain ⟨hpi, hdi⟩ := hnd
 obtain ⟨pa', pb, po, pc', e1, p1, p2, p3, p4, p5, p6⟩ := hpi.form
 obtain ⟨da', db, dof, dc', e2, d1, d2, d3, d4, d5, d6⟩ := hdi.form
 obtain ⟨wa, wb, wo, wc, e3, r1, r2, r3, r4, r5, r6⟩ := hrow.form
 simp only [slV, Value.slice.injEq] at e1 e2
 obtain ⟨rfl, rfl, rfl⟩ := e1
 obtain ⟨rfl, rfl, rfl⟩ := e2
 rw [e3] at HPA hrow
 have HPS := Lib.hid hps
 have HP6 := Lib.hid p6
 have HD6 := Lib.hid d6
 have HPK : Hid (∀ W, Calls Tryz.prog 40 #[.agg #[.int .i64 ((ps.length + ds.length : Nat) : Int), .int .i64 (ps.length : Nat)]] W fun e w' => e = .returned (.tuple #[.int .u64 (packV ((ps.length + ds.length : Nat) : Int) ps.length), .int .i64 (packE ((ps.length + ds.length : Nat) : Int) ps.length)]) ∧ Below W.heap.size W w') := Lib.hid fun W => packref_any _ _ W
 generalize packV ((ps.length + ds.length : Nat) : Int) ps.length = PK at *
 generalize packE ((ps.length + ds.length : Nat) : Int) ps.length = PE at *
 have HSK : Hid (∀ k, k < ps.length → slotsV x c p a tw 0 (ps.take (k + 1)) = slotsV x c p a tw 0 (ps.take k) ++ [slotV x c p (a + 1 + k) (ps.getD k 0) (wr (tw + k))]) := Lib.hid fun k hk => by
  rw [slots_take _ _ _ _ _ _ hk, List.getD_eq_getElem?_getD, List.getElem?_eq_getElem hk]
  rfl
 have HL0 : Hid (slotsV x c p a tw 0 (ps.take 0) = []) := rfl
 have HLL : Hid (∀ k, k ≤ ps.length → (slotsV x c p a tw 0 (ps.take k)).length = k) := Lib.hid fun k hk => by rw [slotsV_len]; simp [hk]
 have HLF : Hid (slotsV x c p a tw 0 (ps.take ps.length) = slotsV x c p a tw 0 ps) := Lib.hid (by rw [List.take_length])
 generalize hLs : (fun k => slotsV x c p a tw 0 (ps.take k)) = Ls at *
 have hLk : ∀ k, slotsV x c p a tw 0 (ps.take k) = Ls k := fun k => by rw [← hLs]
 simp only [hLk] at HSK HL0 HLL HLF
 clear hLk hLs
 rw [← HLF.out]
 have HTK : Hid (∀ k (hk : k < ps.length), RIn 1 enI w (.slice pa ps.length pc) ps) := Lib.hid fun _ _ => HP6.out
 generalize hPv : hh.part p = P at *
 clear hb hpi hdi p6 d6 r6 hps hPv HTK r1 r2 r3 r4 r5 e3
 obtain ⟨ga, gn, gc⟩ := gs
 obtain ⟨qa, qn, qc⟩ := qs
 obtain ⟨ia, inn, ic⟩ := hs
 obtain ⟨ja, jn, jc⟩ := os
 obtain ⟨vl, vh, vo, vf, vr⟩ := v
 obtain ⟨⟨la, ln, lc, e1⟩, ⟨ha, hn, hc, e2⟩, ⟨oa, on_, oc, e3⟩, ⟨fa, fn, fc, e4⟩, ⟨ra, rn, rc, e5⟩⟩ := hsf
 dsimp only at e1 e2 e3 e4 e5
 subst e1 e2 e3 e4 e5
 unfold builtV bCells2 hpV slV at *
 dsimp only at *
 generalize hNP : ps.length = NP at *
 generalize hND : ds.length = ND at *
 have HNP := Lib.hid hNP
 have HND := Lib.hid hND
 clear hNP hND
 have hw1 : IntKind.i64.wrap ((NP : Int) + (ND : Int)) = ((NP + ND : Nat) : Int) := by rw [IntWalk.i64_in _ (by omega)]; omega
 have hPn : P.length ≤ 900 := hlen
 have hfit2 := hfit
 generalize hn0 : P.length = n at *
 have HN0 := Lib.hid hn0
 clear hn0
 obtain ⟨M, hM⟩ : ∃ M, NP + ND = M := ⟨_, rfl⟩
 rw [hM] at hw1 HPK
 have HM := Lib.hid hM
 clear hM
 go_enter Tryz.func58, Tryz.ntmps58
 go_wp2_with fail
 refine (HPA.out _).mono ?_; rintro e w1 ⟨rfl, k1⟩
 have KB : Blk w1 w.heap.size #[Value.int .u64 hh.base, .int .i64 hh.cap, .int .i64 hh.tt, .bool hh.cyc, .int .i64 hh.scan, .slice la ln lc, .slice ha hn hc, .slice oa on_ oc, .slice fa fn fc, .slice ra rn rc, .slice ga gn gc, .slice qa qn qc, .slice ia inn ic, .slice ja jn jc] 64 := Blk.tr (.alloc (.alloc (.alloc (.new _ _ _) _) _) _) k1
 have KP : Blk w1 (w.heap.size + 1) #[.int .i64 p, .int .i64 a] 113 := Blk.tr (.alloc (.alloc (.mk (by simp)) _) _) k1
 have KN : Blk w1 (w.heap.size + 2) #[.slice pa NP pc, .slice da ND dc] 111 := Blk.tr (.alloc (.mk (by simp)) _) k1
 have KR : Blk w1 (w.heap.size + 1 + 1 + 1) _ 64 := Blk.tr (.mk (by simp)) k1
 have hb1 : Below w.heap.size w w1 := by exact bm
 clear k1
 have lB := KB.lt
 obtain ⟨lP, cP, fP⟩ := KP.get
 obtain ⟨lN, cN, fN⟩ := KN.get
 go_wp2_with (at_builtin; refine app_u _ rfl (.const (.slice none 0 0)) (.tmp 18) rfl w1.heap.size (.slice none 0 0) (.slice wa n wc) [] P rfl rfl (OwnR.nil _ _) (hrow.tr ?e0) ?e1 ?e2 ?e3)
 case e0 => exact hb1
 case e1 => have := HN0.out; simp; omega
 case e2 => exact Nat.le_refl _
 case e3 =>
 intro v2 w2 o2 hg2 hat2
 have k2 : Below w1.heap.size w1 w2 := gr_below hg2 (Below.refl _ _) (Nat.le_refl _) (fun k hk => by cases hk)
 obtain ⟨g, cap, rfl, hgB, hgl, hgc, hgf⟩ := own_blk o2 (by rw [HN0.out]; omega)
 rw [HN0.out] at o2 hgc ⊢
 replace cP := fun i => (k2.cell (p := ⟨w.heap.size + 1, i, none⟩) lP).trans (cP i)
 replace cN := fun i => (k2.cell (p := ⟨w.heap.size + 2, i, none⟩) lN).trans (cN i)
 have lP2 : w.heap.size + 1 < w2.heap.size := by omega
 have lN2 : w.heap.size + 2 < w2.heap.size := by omega
 go_wp2_with fail
 refine (HPK.out _).mono ?_; rintro e w3 ⟨rfl, k3⟩
 have ho3 := o2.tr k3
 have hgl3 : g < w3.heap.size := by have := k3.size; omega
 have hgf3 := own_frozen ho3
 have b3 : Below w1.heap.size w1 w3 := by exact bm
 replace cP := fun i => (k3.cell (p := ⟨w.heap.size + 1, i, none⟩) lP2).trans (cP i)
 replace cN := fun i => (k3.cell (p := ⟨w.heap.size + 2, i, none⟩) lN2).trans (cN i)
 clear o2 hg2 hat2 hgf hgl k2 k3 HPA HPK
 have hai : (a : Int) < (n : Int) := by omega
 obtain ⟨y3, hy3⟩ := own_cell ho3 (k := a) (by rw [HN0.out]; omega)
 go_wp2_with fail
 have ho4 := own_set (k := a) ho3 PK
 rw [ovl_one (by rw [HN0.out]; omega)] at ho4
 have b4 : Below w1.heap.size w1 (w3.setCell ⟨g, a, none⟩ (.int .u64 PK)) := kp_set b3 hgB _
 clear ho3 hy3 hgf3 hgl3 b3 cP cN lP2 lN2
 go_loopw [12] (fun i wr => ∃ k : Nat, k ≤ NP ∧ i = .int .i64 k ∧ OwnR 24 1 enU wr w1.heap.size (.slice (some ⟨g, 0, none⟩) n cap) (ovl P a (PK :: Ls k)) ∧ Below w1.heap.size w1 wr) (fun i _ => NP - (intOf i).toNat)
 case atStart =>
  refine ⟨0, Nat.zero_le _, rfl, ?_, ?_⟩
  ·rw [HL0.out]; exact ho4
  ·exact b4
 case round =>
  obtain ⟨k, hk, rfl, ho, bel⟩ := hrel
  obtain ⟨_, cB1, _⟩ := KB.get
  obtain ⟨lP1, cP1, _⟩ := KP.get
  obtain ⟨lN1, cN1, _⟩ := KN.get
  have lB' : w.heap.size < wr.heap.size := by have := bel.size; omega
  have lP' : w.heap.size + 1 < wr.heap.size := by have := bel.size; omega
  have lN' : w.heap.size + 2 < wr.heap.size := by have := bel.size; omega
  obtain ⟨_, cB, fB⟩ := (KB.tr bel).get
  obtain ⟨_, cP, fP⟩ := (KP.tr bel).get
  obtain ⟨_, cN, fN⟩ := (KN.tr bel).get
  by_cases hlt : k < NP
  ·obtain rfl := p1 (by omega)
   have hps0 : k < ps.length := by rw [HNP.out]; exact hlt
   have hpc1 := cell_tr hb1 (HP6.out.at (i := k) (List.getElem?_eq_getElem hps0) 0 (.int .i64 ps[k]) rfl)
   rw [Nat.mul_one, Nat.add_zero] at hpc1
   have hpc := cell_tr bel hpc1
   have hpbl : pb < wr.heap.size := by have := bel.size; have := p5 (by omega); have := hb1.size; omega
   obtain ⟨TW, hTW⟩ : ∃ m, IntKind.i64.wrap (tw + (k : Int)) = m := ⟨_, rfl⟩
   obtain ⟨A1, hA1⟩ : ∃ m, a + 1 = m := ⟨_, rfl⟩
   obtain ⟨AK, hAK⟩ : ∃ m, a + 1 + k = m := ⟨_, rfl⟩
   have HT : ps[k] < nN x := HPS.out _ (List.getElem_mem hps0)
   have HSV : Hid ((ovl P a (PK :: Ls k)).set AK (slotV x c p AK ps[k] TW) = ovl P a (PK :: Ls (k + 1))) := Lib.hid (by
    have h1 := HSK.out k hlt
    have h2 := HLL.out k hk
    rw [List.getD_eq_getElem?_getD, List.getElem?_eq_getElem hps0, hAK] at h1
    have h3 : rh.wr (tw + k) = TW := hTW
    rw [h3] at h1
    rw [ovl_snoc (by simp; omega) (by rw [HN0.out]; omega), h1]
    rfl)
   have HS1 : Hid (∀ W, Below w.heap.size w W → Calls Tryz.prog 81 #[.agg #[Value.int .u64 hh.base, .int .i64 hh.cap, .int .i64 hh.tt, .bool hh.cyc, .int .i64 hh.scan, .slice la ln lc, .slice ha hn hc, .slice oa on_ oc, .slice fa fn fc, .slice ra rn rc, .slice ga gn gc, .slice qa qn qc, .slice ia inn ic, .slice ja jn jc], .agg #[.int .i64 p, .int .i64 (AK : Int)], .int .i64 ps[k], .int .i64 TW] W fun e w' => e = .returned (.int .u64 (slotV x c p AK ps[k] TW)) ∧ Below W.heap.size W w') := Lib.hid fun W hW => by
    have := HSL.out W k ps[k] TW (by omega) HT hW
    rw [hAK] at this
    exact this
   generalize slotV x c p AK ps[k] TW = SV at *
   generalize ps[k] = TT at *
   have ha1 : IntKind.i64.wrap ((a : Int) + 1) = (A1 : Int) := by rw [IntWalk.i64_in _ (by omega)]; omega
   have ha2 : IntKind.i64.wrap ((A1 : Int) + (k : Int)) = (AK : Int) := by rw [IntWalk.i64_in _ (by omega)]; omega
   have hAn : AK < n := by omega
   have HAK := Lib.hid hAK
   obtain ⟨yk, hyk⟩ := own_cell ho (k := AK) (by rw [ovl_len (by simp; have := HLL.out k hk; rw [HN0.out]; omega), HN0.out]; exact hAn)
   have hof := own_frozen ho
   have hgr : g < wr.heap.size := ho.lt g rfl
   clear hA1 hAK HT hps0
   go_upto_region 7 with (fail)
   go_region_held3 (fun w' => (∀ i, w'.cell? ⟨w.heap.size, i, none⟩ = #[Value.int .u64 hh.base, .int .i64 hh.cap, .int .i64 hh.tt, .bool hh.cyc, .int .i64 hh.scan, .slice la ln lc, .slice ha hn hc, .slice oa on_ oc, .slice fa fn fc, .slice ra rn rc, .slice ga gn gc, .slice qa qn qc, .slice ia inn ic, .slice ja jn jc][i]?) ∧ (∀ i, w'.cell? ⟨w.heap.size + 1, i, none⟩ = #[Value.int .i64 p, .int .i64 a][i]?) ∧ (∀ i, w'.cell? ⟨w.heap.size + 2, i, none⟩ = #[Value.slice (some ⟨pb, po, none⟩) NP pc, .slice da ND dc][i]?) ∧ w'.cell? ⟨pb, po + k, none⟩ = some (.int .i64 TT))
    (first | (refine s4b_tr (W := w1) ?_ lB lP1 lN1 cB1 cP1 cN1 hpc1; exact bm))
    (first | (go_at_call 81; refine (HS1.out _ (by exact bm)).mono ?_; rintro e w5 ⟨rfl, k5⟩; have kk : Below wr.heap.size wr w5 := (by exact bm); have ho5 := ho.tr kk; have hof5 := own_frozen ho5; have hyk5 := cell_tr kk hyk; have hg5 := Nat.lt_of_lt_of_le hgr kk.size))
   have ho6 := own_set (k := AK) ho5 SV
   rw [HSV.out] at ho6
   have b6 : Below w1.heap.size w1 (w5.setCell ⟨g, AK, none⟩ (.int .u64 SV)) := by exact bm
   go_wp2_with fail
   exact ⟨⟨k + 1, by omega, by go_num, ho6, b6⟩, by simp [intOf]; omega⟩
  ·obtain rfl : k = NP := by omega
   rw [HLF.out] at ho
   obtain ⟨A1, hA1⟩ : ∃ m, a + 1 = m := ⟨_, rfl⟩
   obtain ⟨A2, hA2⟩ : ∃ m, a + 1 + k = m := ⟨_, rfl⟩
   have ha1 : IntKind.i64.wrap ((a : Int) + 1) = (A1 : Int) := by rw [IntWalk.i64_in _ (by omega)]; omega
   have ha2 : IntKind.i64.wrap ((A1 : Int) + (k : Int)) = (A2 : Int) := by rw [IntWalk.i64_in _ (by omega)]; omega
   have HLZ : Hid ((slotsV x c p a tw 0 ps).length = k) := Lib.hid (by rw [slotsV_len]; exact HNP.out)
   generalize slotsV x c p a tw 0 ps = LF at *
   clear HSL HSK HLL hA1
   have HA2 := Lib.hid hA2
   clear hA2
   go_wp2_with fail
   go_loopw [13] (fun i ws => ∃ j : Nat, j ≤ ND ∧ i = .int .i64 j ∧ OwnR 24 1 enU ws w1.heap.size (.slice (some ⟨g, 0, none⟩) n cap) (ovl P a (PK :: (LF ++ ds.take j))) ∧ Below w1.heap.size w1 ws) (fun i _ => ND - (intOf i).toNat)
   case atStart =>
    refine ⟨0, Nat.zero_le _, rfl, ?_, bel⟩
    rw [List.take_zero, List.append_nil]
    exact ho
   case round =>
    obtain ⟨j, hj, rfl, hov, bev⟩ := hrel
    clear cB fB cP fP cN fN lB' lP' lN' ho bel
    have lB' : w.heap.size < wr.heap.size := by have := bev.size; omega
    have lP' : w.heap.size + 1 < wr.heap.size := by have := bev.size; omega
    have lN' : w.heap.size + 2 < wr.heap.size := by have := bev.size; omega
    obtain ⟨_, cB, fB⟩ := (KB.tr bev).get
    obtain ⟨_, cP, fP⟩ := (KP.tr bev).get
    obtain ⟨_, cN, fN⟩ := (KN.tr bev).get
    by_cases hlt2 : j < ND
    ·obtain rfl := d1 (by omega)
     have hds0 : j < ds.length := by rw [HND.out]; exact hlt2
     have hdc := cell_tr (kp_tr hb1 bev) (HD6.out.at (i := j) (List.getElem?_eq_getElem hds0) 0 (.int .u64 ds[j]) rfl)
     rw [Nat.mul_one, Nat.add_zero] at hdc
     have HDC := Lib.hid (cell_tr hb1 (HD6.out.at (i := j) (List.getElem?_eq_getElem hds0) 0 (.int .u64 ds[j]) rfl))
     rw [Nat.mul_one, Nat.add_zero] at HDC
     obtain ⟨AJ, hAJ⟩ : ∃ m, a + 1 + k + j = m := ⟨_, rfl⟩
     have ha3 : IntKind.i64.wrap ((A2 : Int) + (j : Int)) = (AJ : Int) := by have := HA2.out; rw [IntWalk.i64_in _ (by omega)]; omega
     have hAn : AJ < n := by omega
     have HSV : Hid ((ovl P a (PK :: (LF ++ ds.take j))).set AJ ds[j] = ovl P a (PK :: (LF ++ ds.take (j + 1)))) := Lib.hid (by
      have h2 := HLZ.out
      have h3 : (ds.take j).length = j := by simp; omega
      rw [ovl_snoc (by simp [h2]; omega) (by rw [HN0.out]; omega), List.take_succ_eq_append_getElem hds0]
      simp)
     have HAJ := Lib.hid hAJ
     obtain ⟨yk, hyk⟩ := own_cell hov (k := AJ) (by rw [ovl_len (by simp; have := HLZ.out; rw [HN0.out]; omega), HN0.out]; exact hAn)
     have hof := own_frozen hov
     have hgr : g < wr.heap.size := hov.lt g rfl
     generalize ds[j] = DJ at *
     clear hAJ hds0
     go_upto_region 11 with (fail)
     go_region_held3 (fun w' => (∀ i, w'.cell? ⟨w.heap.size, i, none⟩ = #[Value.int .u64 hh.base, .int .i64 hh.cap, .int .i64 hh.tt, .bool hh.cyc, .int .i64 hh.scan, .slice la ln lc, .slice ha hn hc, .slice oa on_ oc, .slice fa fn fc, .slice ra rn rc, .slice ga gn gc, .slice qa qn qc, .slice ia inn ic, .slice ja jn jc][i]?) ∧ (∀ i, w'.cell? ⟨w.heap.size + 1, i, none⟩ = #[Value.int .i64 p, .int .i64 a][i]?) ∧ (∀ i, w'.cell? ⟨w.heap.size + 2, i, none⟩ = #[Value.slice pa k pc, .slice (some ⟨db, dof, none⟩) ND dc][i]?) ∧ w'.cell? ⟨db, dof + j, none⟩ = some (.int .u64 DJ))
      (first | (refine s4b_tr (W := w1) ?_ lB lP1 lN1 cB1 cP1 cN1 HDC.out; exact bm))
      (first | (fail))
     have ho6 := own_set (k := AJ) hov DJ
     rw [HSV.out] at ho6
     have b6 : Below w1.heap.size w1 (wr.setCell ⟨g, AJ, none⟩ (.int .u64 DJ)) := by exact bm
     go_wp2_with fail
     exact ⟨⟨j + 1, by omega, by go_num, ho6.tr (kp_drew (Below.refl _ _)), b6.drew⟩, by simp [intOf]; omega⟩
    ·obtain rfl : j = ND := by omega
     have HDT : Hid (ds.take j = ds) := Lib.hid (by rw [← HND.out, List.take_length])
     rw [HDT.out] at hov
     go_wp2_with fail
     refine (HWI.out _ _ _ _).mono ?_
     rintro e wz ⟨⟨⟨l1, l2, l3⟩, ⟨m1, m2, m3⟩, ⟨o1, o2, o3⟩, ⟨f1, f2, f3⟩, ⟨q1, q2, q3⟩, rfl, hsv⟩, kz⟩
     have HSV := Lib.hid hsv
     clear hsv
     have bz : Below w1.heap.size w1 wz := kp_tr bev kz
     have KBz := KB.tr bz
     have KRz := KR.tr bz
     have hoz := hov.tr kz
     obtain ⟨lz, cz, fz⟩ := KBz.get
     clear cB fB cP fP cN fN lB' lP' lN' cB1 cP1 cN1
     go_upto_region 13 with (fail)
     have h03 : w.heap.size + 1 + 1 + 1 ≠ w.heap.size := by omega
     have hlow : w.heap.size < w1.heap.size := lB
     have hlow3 : w.heap.size + 1 + 1 + 1 < w1.heap.size := KR.lt
     have KB2 := ((((((((((KBz.set 0 (.int .u64 hh.base)).set 1 (.int .i64 hh.cap)).set 2 (.int .i64 hh.tt)).set 3 (.bool hh.cyc)).set 4 (.int .i64 hh.scan)).set 5 (.slice l1 l2 l3)).set 6 (.slice m1 m2 m3)).set 7 (.slice o1 o2 o3)).set 8 (.slice f1 f2 f3)).set 9 (.slice q1 q2 q3))
     have KR2 := ((((((((((KRz.other (p := ⟨w.heap.size, 0, none⟩) h03 (.int .u64 hh.base)).other (p := ⟨w.heap.size, 1, none⟩) h03 (.int .i64 hh.cap)).other (p := ⟨w.heap.size, 2, none⟩) h03 (.int .i64 hh.tt)).other (p := ⟨w.heap.size, 3, none⟩) h03 (.bool hh.cyc)).other (p := ⟨w.heap.size, 4, none⟩) h03 (.int .i64 hh.scan)).other (p := ⟨w.heap.size, 5, none⟩) h03 (.slice l1 l2 l3)).other (p := ⟨w.heap.size, 6, none⟩) h03 (.slice m1 m2 m3)).other (p := ⟨w.heap.size, 7, none⟩) h03 (.slice o1 o2 o3)).other (p := ⟨w.heap.size, 8, none⟩) h03 (.slice f1 f2 f3)).other (p := ⟨w.heap.size, 9, none⟩) h03 (.slice q1 q2 q3))
     have ho2 := (OwnR.setLow (OwnR.setLow (OwnR.setLow (OwnR.setLow (OwnR.setLow (OwnR.setLow (OwnR.setLow (OwnR.setLow (OwnR.setLow (OwnR.setLow hoz (p := ⟨w.heap.size, 0, none⟩) hlow (.int .u64 hh.base)) (p := ⟨w.heap.size, 1, none⟩) hlow (.int .i64 hh.cap)) (p := ⟨w.heap.size, 2, none⟩) hlow (.int .i64 hh.tt)) (p := ⟨w.heap.size, 3, none⟩) hlow (.bool hh.cyc)) (p := ⟨w.heap.size, 4, none⟩) hlow (.int .i64 hh.scan)) (p := ⟨w.heap.size, 5, none⟩) hlow (.slice l1 l2 l3)) (p := ⟨w.heap.size, 6, none⟩) hlow (.slice m1 m2 m3)) (p := ⟨w.heap.size, 7, none⟩) hlow (.slice o1 o2 o3)) (p := ⟨w.heap.size, 8, none⟩) hlow (.slice f1 f2 f3)) (p := ⟨w.heap.size, 9, none⟩) hlow (.slice q1 q2 q3))
     have be2 : Below w.heap.size w _ := (low_set (low_set (low_set (low_set (low_set (low_set (low_set (low_set (low_set (low_set (kp_tr hb1 (kp_tr bev kz)) (p := ⟨w.heap.size, 0, none⟩) (Nat.le_refl _) (.int .u64 hh.base)) (p := ⟨w.heap.size, 1, none⟩) (Nat.le_refl _) (.int .i64 hh.cap)) (p := ⟨w.heap.size, 2, none⟩) (Nat.le_refl _) (.int .i64 hh.tt)) (p := ⟨w.heap.size, 3, none⟩) (Nat.le_refl _) (.bool hh.cyc)) (p := ⟨w.heap.size, 4, none⟩) (Nat.le_refl _) (.int .i64 hh.scan)) (p := ⟨w.heap.size, 5, none⟩) (Nat.le_refl _) (.slice l1 l2 l3)) (p := ⟨w.heap.size, 6, none⟩) (Nat.le_refl _) (.slice m1 m2 m3)) (p := ⟨w.heap.size, 7, none⟩) (Nat.le_refl _) (.slice o1 o2 o3)) (p := ⟨w.heap.size, 8, none⟩) (Nat.le_refl _) (.slice f1 f2 f3)) (p := ⟨w.heap.size, 9, none⟩) (Nat.le_refl _) (.slice q1 q2 q3))
     clear KBz KRz hoz lz cz fz hov bev bz kz
     generalize ((((((((((wz.setCell ⟨w.heap.size, 0, none⟩ (.int .u64 hh.base)).setCell ⟨w.heap.size, 1, none⟩ (.int .i64 hh.cap)).setCell ⟨w.heap.size, 2, none⟩ (.int .i64 hh.tt)).setCell ⟨w.heap.size, 3, none⟩ (.bool hh.cyc)).setCell ⟨w.heap.size, 4, none⟩ (.int .i64 hh.scan)).setCell ⟨w.heap.size, 5, none⟩ (.slice l1 l2 l3)).setCell ⟨w.heap.size, 6, none⟩ (.slice m1 m2 m3)).setCell ⟨w.heap.size, 7, none⟩ (.slice o1 o2 o3)).setCell ⟨w.heap.size, 8, none⟩ (.slice f1 f2 f3)).setCell ⟨w.heap.size, 9, none⟩ (.slice q1 q2 q3)) = W2 at *
     simp only [List.setIfInBounds_toArray, List.set_cons_zero, List.set_cons_succ] at KB2
     obtain ⟨lz, cz, fz⟩ := KB2.get
     obtain ⟨lr, cr, fr⟩ := KR2.get
     go_wp2_with fail
     have h30 : w.heap.size ≤ w.heap.size + 1 + 1 + 1 := by omega
     have KR3 := ((((((((((((((KR2.set 0 (.int .u64 hh.base)).set 1 (.int .i64 hh.cap)).set 2 (.int .i64 hh.tt)).set 3 (.bool hh.cyc)).set 4 (.int .i64 hh.scan)).set 5 (.slice l1 l2 l3)).set 6 (.slice m1 m2 m3)).set 7 (.slice o1 o2 o3)).set 8 (.slice f1 f2 f3)).set 9 (.slice q1 q2 q3)).set 10 (.slice ga gn gc)).set 11 (.slice qa qn qc)).set 12 (.slice ia inn ic)).set 13 (.slice ja jn jc))
     have ho3 := (OwnR.setLow (OwnR.setLow (OwnR.setLow (OwnR.setLow (OwnR.setLow (OwnR.setLow (OwnR.setLow (OwnR.setLow (OwnR.setLow (OwnR.setLow (OwnR.setLow (OwnR.setLow (OwnR.setLow (OwnR.setLow ho2 (p := ⟨w.heap.size + 1 + 1 + 1, 0, none⟩) hlow3 (.int .u64 hh.base)) (p := ⟨w.heap.size + 1 + 1 + 1, 1, none⟩) hlow3 (.int .i64 hh.cap)) (p := ⟨w.heap.size + 1 + 1 + 1, 2, none⟩) hlow3 (.int .i64 hh.tt)) (p := ⟨w.heap.size + 1 + 1 + 1, 3, none⟩) hlow3 (.bool hh.cyc)) (p := ⟨w.heap.size + 1 + 1 + 1, 4, none⟩) hlow3 (.int .i64 hh.scan)) (p := ⟨w.heap.size + 1 + 1 + 1, 5, none⟩) hlow3 (.slice l1 l2 l3)) (p := ⟨w.heap.size + 1 + 1 + 1, 6, none⟩) hlow3 (.slice m1 m2 m3)) (p := ⟨w.heap.size + 1 + 1 + 1, 7, none⟩) hlow3 (.slice o1 o2 o3)) (p := ⟨w.heap.size + 1 + 1 + 1, 8, none⟩) hlow3 (.slice f1 f2 f3)) (p := ⟨w.heap.size + 1 + 1 + 1, 9, none⟩) hlow3 (.slice q1 q2 q3)) (p := ⟨w.heap.size + 1 + 1 + 1, 10, none⟩) hlow3 (.slice ga gn gc)) (p := ⟨w.heap.size + 1 + 1 + 1, 11, none⟩) hlow3 (.slice qa qn qc)) (p := ⟨w.heap.size + 1 + 1 + 1, 12, none⟩) hlow3 (.slice ia inn ic)) (p := ⟨w.heap.size + 1 + 1 + 1, 13, none⟩) hlow3 (.slice ja jn jc))
     have be3 := (low_set (low_set (low_set (low_set (low_set (low_set (low_set (low_set (low_set (low_set (low_set (low_set (low_set (low_set be2 (p := ⟨w.heap.size + 1 + 1 + 1, 0, none⟩) h30 (.int .u64 hh.base)) (p := ⟨w.heap.size + 1 + 1 + 1, 1, none⟩) h30 (.int .i64 hh.cap)) (p := ⟨w.heap.size + 1 + 1 + 1, 2, none⟩) h30 (.int .i64 hh.tt)) (p := ⟨w.heap.size + 1 + 1 + 1, 3, none⟩) h30 (.bool hh.cyc)) (p := ⟨w.heap.size + 1 + 1 + 1, 4, none⟩) h30 (.int .i64 hh.scan)) (p := ⟨w.heap.size + 1 + 1 + 1, 5, none⟩) h30 (.slice l1 l2 l3)) (p := ⟨w.heap.size + 1 + 1 + 1, 6, none⟩) h30 (.slice m1 m2 m3)) (p := ⟨w.heap.size + 1 + 1 + 1, 7, none⟩) h30 (.slice o1 o2 o3)) (p := ⟨w.heap.size + 1 + 1 + 1, 8, none⟩) h30 (.slice f1 f2 f3)) (p := ⟨w.heap.size + 1 + 1 + 1, 9, none⟩) h30 (.slice q1 q2 q3)) (p := ⟨w.heap.size + 1 + 1 + 1, 10, none⟩) h30 (.slice ga gn gc)) (p := ⟨w.heap.size + 1 + 1 + 1, 11, none⟩) h30 (.slice qa qn qc)) (p := ⟨w.heap.size + 1 + 1 + 1, 12, none⟩) h30 (.slice ia inn ic)) (p := ⟨w.heap.size + 1 + 1 + 1, 13, none⟩) h30 (.slice ja jn jc))
     clear KR2 ho2 be2 lz cz fz lr cr fr KB2
     generalize ((((((((((((((W2.setCell ⟨w.heap.size + 1 + 1 + 1, 0, none⟩ (.int .u64 hh.base)).setCell ⟨w.heap.size + 1 + 1 + 1, 1, none⟩ (.int .i64 hh.cap)).setCell ⟨w.heap.size + 1 + 1 + 1, 2, none⟩ (.int .i64 hh.tt)).setCell ⟨w.heap.size + 1 + 1 + 1, 3, none⟩ (.bool hh.cyc)).setCell ⟨w.heap.size + 1 + 1 + 1, 4, none⟩ (.int .i64 hh.scan)).setCell ⟨w.heap.size + 1 + 1 + 1, 5, none⟩ (.slice l1 l2 l3)).setCell ⟨w.heap.size + 1 + 1 + 1, 6, none⟩ (.slice m1 m2 m3)).setCell ⟨w.heap.size + 1 + 1 + 1, 7, none⟩ (.slice o1 o2 o3)).setCell ⟨w.heap.size + 1 + 1 + 1, 8, none⟩ (.slice f1 f2 f3)).setCell ⟨w.heap.size + 1 + 1 + 1, 9, none⟩ (.slice q1 q2 q3)).setCell ⟨w.heap.size + 1 + 1 + 1, 10, none⟩ (.slice ga gn gc)).setCell ⟨w.heap.size + 1 + 1 + 1, 11, none⟩ (.slice qa qn qc)).setCell ⟨w.heap.size + 1 + 1 + 1, 12, none⟩ (.slice ia inn ic)).setCell ⟨w.heap.size + 1 + 1 + 1, 13, none⟩ (.slice ja jn jc)) = W3 at *
     simp only [List.setIfInBounds_toArray, List.set_cons_zero, List.set_cons_succ] at KR3
     obtain ⟨lr, cr, fr⟩ := KR3.get
     refine bodyPost_ret (v := .agg #[Value.int .u64 hh.base, .int .i64 hh.cap, .int .i64 hh.tt, .bool hh.cyc, .int .i64 hh.scan, .slice l1 l2 l3, .slice m1 m2 m3, .slice o1 o2 o3, .slice f1 f2 f3, .slice q1 q2 q3, .slice ga gn gc, .slice qa qn qc, .slice ia inn ic, .slice ja jn jc]) (by simp only [results, Tryz.results58]; go_simp) rfl ⟨⟨.slice (some ⟨g, 0, none⟩) n cap, ?_, by rw [HLF.out]; exact OwnR.lift ho3 (Nat.le_of_lt hlow)⟩, be3⟩
     rw [HSV.out]
end Go.Proofs.YtpgjploaliefdaaGreat.rh
