/- ObjectsBack: the walk. No conditions. -/
import Derived.Test.YtiboinckdjiniaaSz
import Derived.Deep.RegionHeld3
import Derived.Deep.DeepCutAuto
import Derived.Deep.CutRange
namespace Go.Proofs.Ytiboinckdjiniaa.ob
open Go.RowKit Go.Proofs.Ytiboinckdjiniaa.hd
set_option linter.unusedVariables false
set_option linter.unusedSimpArgs false
theorem field0 (s p : Int) (W : World) : Sem.run Try.prog (Instr.field 28 (.agg #[.int .i64 s, .int .i64 p]) 0) W = .ok (.int .i64 s) W := by kernel_rfl
set_option maxRecDepth 100000 in
set_option maxHeartbeats 16000000 in
theorem back_walk_law (v0 : Value) (L : List Rw) (w : World) (hL : RawsIn w v0 L) :
    Calls Try.prog 4 #[v0] w fun e w' => e = .returned (.bool true) ∧ Below w.heap.size w w' := by
  obtain ⟨ad, b, off, cap, rfl, h1, h2, h3, h4⟩ := hL
  generalize hn : L.length = n at *
  have H1 := Lib.hid h1
  clear hn h1
  have H4 := Lib.hid h4
  clear h4
  go_enter Try.func4, Try.ntmps4
  go_wp2_with fail
  refine (awake_any2 _).mono ?_; rintro e w1 ⟨rfl, k1, z1⟩
  have B1 := Lib.hid k1
  clear k1
  go_wp2_with fail
  go_loopw [6, 4, 5] (fun i v u wr => ∃ (k : Nat) (pcs : List Pc), k ≤ n ∧ k ≤ 8 ∧ i = .int .i64 (k : Int) ∧ Hid (pcs.length = k ∧ PcsOk false L pcs) ∧ Hid (OwnNums wr w1.heap.size v (wordsOf pcs)) ∧ Hid (ObsAt wr w1.heap.size u (obsAt 0 pcs)) ∧ Hid (Apart v u) ∧ Hid (Below w1.heap.size w1 wr)) (fun i _ _ _ => 8 - (intOf i).toNat)
  case atStart => exact ⟨0, [], Nat.zero_le _, Nat.zero_le _, rfl, ⟨rfl, fun i hi => by simp at hi⟩, OwnNums.nil _ _, ObsAt.nil _ _, .inl rfl, Below.refl _ _⟩
  case round =>
    obtain ⟨k, pcs, hkn, hk8, rfl, hpc, hv, hu, hvu, hb⟩ := hrel
    by_cases hlt : k < n ∧ k < 8
    · obtain ⟨l1, l2⟩ := hlt
      obtain ⟨rfl, hbl⟩ := H1.out (by omega)
      obtain ⟨x0, x1, x2, x3, hok⟩ := H4.out k l1
      have hbw : Below w.heap.size w wr := kp_tr B1.out hb.out
      replace x0 := cell_tr hbw x0
      replace x1 := cell_tr hbw x1
      replace x2 := cell_tr hbw x2
      replace x3 := cell_tr hbw x3
      have hok2 := hok.tr hbw
      obtain ⟨hone, hsl⟩ := raw_one hok
      have HOK := Lib.hid hok2
      have hg := good_of hpc.out.2 (by have := hpc.out.1; omega)
      have hwl := words_len hpc.out.2
      have HWL : Hid ((wordsOf pcs).length ≤ 56 ∧ pcs.length ≤ 8) := by have := hpc.out.1; show _ ∧ _; omega
      have HRW : Hid (∀ c, PcOk k false (rwD L k) c → PcsOk false L (pcs ++ [c])) := fun c hc => pcs_snoc hpc.out.1 hpc.out.2 hc
      have HPL := Lib.hid hpc.out.1
      have HGP := Lib.hid hg
      have hbls := hbw.size
      clear hok hok2 hwl hg hpc
      generalize rwD L k = r at *
      obtain ⟨sz, pt, sl, g, zs⟩ := r
      dsimp only at x0 x1 x2 x3 hone hsl
      obtain ⟨a0, l0, c0, rfl⟩ := hsl
      obtain ⟨hS1, hS2⟩ := pickI_in sz (n := 7) (by omega)
      obtain ⟨hP1, hP2⟩ := pickI_in pt (n := pickI sz 7 + 1) (by omega)
      generalize hSS : pickI sz 7 = sI at *
      generalize hPP : pickI pt (sI + 1) = pI at *
      obtain ⟨S, rfl⟩ := Int.eq_ofNat_of_zero_le hS1
      obtain ⟨p, rfl⟩ := Int.eq_ofNat_of_zero_le hP1
      have HSP : Hid (pickI sz 7 = (S : Int) ∧ pickI pt ((S : Int) + 1) = (p : Int)) := ⟨hSS, hPP⟩
      clear hSS hPP
      have hS6 : S ≤ 6 := by omega
      have hpS : p ≤ S := by omega
      have l1i : (k : Int) < (n : Int) := by omega
      have l2i : (k : Int) < 8 := by omega
      obtain ⟨va, lv, vc, hv4, hlv⟩ := hv.out.form
      subst hv4
      have HLV := Lib.hid hlv
      have hblr : b < wr.heap.size := by omega
      have HX4 := Lib.hid (show _ ∧ _ ∧ _ ∧ _ from ⟨x0, x1, x2, x3⟩)
      clear hbw hlv
      go_upto_region 7 with (fail)
      go_region_held3 (fun w' => w'.cell? ⟨b, off + k * 4, none⟩ = some (.int .i64 sz) ∧ w'.cell? ⟨b, off + k * 4 + 1, none⟩ = some (.int .i64 pt) ∧ w'.cell? ⟨b, off + k * 4 + 2, none⟩ = some (.slice a0 l0 c0) ∧ w'.cell? ⟨b, off + k * 4 + 3, none⟩ = some (.bool g))
        (first | (refine s4_tr ?_ HX4.out; (repeat (first | with_reducible exact Below.refl _ _ | with_reducible refine kp_alloc ?_ _ | with_reducible refine kp_drew ?_ | with_reducible refine kp_set ?_ (by first | omega | (simp; done) | (simp; omega)) _ | with_reducible refine kp_tr ?_ (by with_reducible assumption)))))
        (first
          | (go_at_call 23; refine (shape_any2 sz pt _ g _ hone HOK.out.sz HOK.out.pt HSP.out.1 HSP.out.2).mono ?_; rintro e w6 ⟨rfl, k6⟩)
          | (go_at_call 24; refine (slots_raw2 sz pt (.slice a0 l0 c0) g zs _ (HOK.out.sl.tr ?_) HOK.out.sz HOK.out.pt HSP.out.1 HSP.out.2 hS6).mono ?_; (repeat (first | with_reducible exact Below.refl _ _ | with_reducible refine kp_alloc ?_ _ | with_reducible refine kp_drew ?_ | with_reducible refine kp_set ?_ (by first | omega | (simp; done) | (simp; omega)) _ | with_reducible refine kp_tr ?_ (by with_reducible assumption))); rintro e w7 ⟨⟨v7, ys, rfl, o7, hso, hsl⟩, k7⟩)
          | (go_at_call 20; refine (lay_any2 S p _ ys _ (o7.sees ?_ hsl) hso hS6 hpS).mono ?_; (exact Nat.lt_of_lt_of_le (Nat.lt_of_le_of_lt (Nat.zero_le _) hblr) (Nat.le_trans (Nat.le_trans k6.size (Nat.le_refl _)) k7.size)); rintro e w8 ⟨⟨v8, c8, rfl, o8⟩, k8⟩))
      have hk8' : Below wr.heap.size wr w8 := by (repeat (first | with_reducible exact Below.refl _ _ | with_reducible refine kp_alloc ?_ _ | with_reducible refine kp_drew ?_ | with_reducible refine kp_set ?_ (by first | omega | (simp; done) | (simp; omega)) _ | with_reducible refine kp_tr ?_ (by with_reducible assumption)))
      have hcomm : (1 : Int) + (S : Int) = (S : Int) + 1 := by omega
      have HV8 := Lib.hid (hv.out.tr hk8')
      have HU8 := Lib.hid (obs_tr hu.out hk8')
      have B8 : Hid (Below w1.heap.size w1 w8) := kp_tr hb.out hk8'
      obtain ⟨y0, y1, y2, y3⟩ := s4_tr hk8' HX4.out
      have hs8 := hk8'.size
      have hb8 : b < w8.heap.size := by omega
      have HSO := Lib.hid hso
      have O8 := Lib.hid o8
      have hVb : Hid (∀ j, (Value.slice va lv vc).ownBlock = some j → j < w8.heap.size) := own_lt HV8.out (Nat.le_refl _)
      have hUb : Hid (∀ j, u5.ownBlock = some j → j < w8.heap.size) := obs_lt HU8.out (Nat.le_refl _)
      have H7U : Hid (∀ j, u5.ownBlock = some j → j < w7.heap.size) := fun j hj => by have := obs_lt hu.out (Nat.le_refl _) j hj; have := k6.size; have := k7.size; simp at *; omega
      clear hk8' k6 k7 k8 o7 o8 hso hsl x0 x1 x2 x3 hv hu HX4 hb hbl hbls hblr
      go_wp2_with fail
      refine (shape_any2 sz pt _ g _ hone HOK.out.sz HOK.out.pt HSP.out.1 HSP.out.2).mono ?_; rintro e w9 ⟨rfl, k9⟩
      replace y0 := cell_tr k9 y0
      replace y1 := cell_tr k9 y1
      replace y2 := cell_tr k9 y2
      replace y3 := cell_tr k9 y3
      have K9 := Lib.hid k9
      have hb9 : b < w9.heap.size := by have := k9.size; omega
      clear k9
      have hfld := field0 (S : Int) (p : Int)
      go_wp2_with fail
      refine (shape_any2 sz pt _ g _ hone HOK.out.sz HOK.out.pt HSP.out.1 HSP.out.2).mono ?_; rintro e w10 ⟨rfl, k10⟩
      have K10 : Hid (Below w8.heap.size w8 w10) := kp_tr K9.out k10
      have B10 : Hid (Below w1.heap.size w1 w10) := kp_tr B8.out K10.out
      have HV10 := Lib.hid (HV8.out.tr K10.out)
      have HU10 := Lib.hid (obs_tr HU8.out K10.out)
      have hs10 := B10.out.size
      have hs810 := K10.out.size
      have O10 := Lib.hid (O8.out.tr K10.out)
      clear k10 y0 y1 y2 y3 K9 HV8 HU8 B8 O8
      have hsrc : ObjsIn (w10.alloc (.cells #[.int .i64 (lv : Int), .int .i64 (S : Int), .int .i64 (p : Int), .bool false, .int .u64 0] 53)) (.slice (some ⟨w10.heap.size, 0, none⟩) 1 1) [⟨(lv : Int), S, p, false, 0⟩] := objs_lit _ [⟨(lv : Int), S, p, false, 0⟩] w10.heap.size (Blk.new _ _ _) (by simp)
      have HSRC := Lib.hid hsrc
      clear hsrc
      go_wp2_with (at_builtin; refine app_objs _ rfl _ _ rfl w1.heap.size u5 (.slice (some ⟨w10.heap.size, 0, none⟩) 1 1) (obsAt 0 pcs) [⟨(lv : Int), S, p, false, 0⟩] rfl rfl (obs_tr HU10.out ((Below.refl _ _).alloc (Nat.le_refl _) _)) HSRC.out ?c0 ?c1 ?c2)
      case c0 => have := HWL.out; simp [obsAt_len]; omega
      case c1 => exact le_alloc hs10
      case c2 =>
      intro v11 w11 o11 hg11 hat11
      have HA11 : Hid (Apart (Value.slice va lv vc) v11) := (Apart.left hvu.out.sym hat11 (fun j hj => by have := hVb.out j hj; simp; omega)).sym
      have B11 : Hid (Below w1.heap.size w1 w11) := obs_own (B10.out.alloc hs10 _) HU10.out hg11
      have HV11 : Hid (OwnNums w11 w1.heap.size (.slice va lv vc) (wordsOf pcs)) := (HV10.out.tr ((Below.refl _ _).alloc (Nat.le_refl _) (.cells #[.int .i64 (lv : Int), .int .i64 (S : Int), .int .i64 (p : Int), .bool false, .int .u64 0] 53))).row hg11 hvu.out
      have hO11 : OwnNums w11 w7.heap.size (.slice v8 (S + 1) c8) (packV S p :: ys) := by
        refine (O10.out.tr ((Below.refl _ _).alloc (Nat.le_refl _) (.cells #[.int .i64 (lv : Int), .int .i64 (S : Int), .int .i64 (p : Int), .bool false, .int .u64 0] 53))).row hg11 ?_
        rcases hq : (Value.slice v8 (S + 1) c8).ownBlock with _ | q
        · exact .inl rfl
        · refine .inr (fun e => ?_)
          have h1 := World.ownsRow.lt O10.out q hq
          have h2 := H7U.out q e.symm
          omega
      have hs11 := B11.out.size
      have N11 := Lib.hid (hO11.sees (Nat.lt_of_lt_of_le z1 hs11) (by have := HSO.out.len; simp; omega))
      have HO11 := Lib.hid o11
      clear hO11 o11 hg11 hat11 HU10 HV10 B10 O10 HSRC
      go_wp2_with (at_builtin; refine app_OwnNums _ rfl _ _ rfl w1.heap.size (.slice va lv vc) (.slice v8 (S + 1) c8) (wordsOf pcs) (packV S p :: ys) rfl rfl HV11.out N11.out ?c0 hs11 ?c2)
      case c0 => have := HWL.out; have := HSO.out.len; simp; omega
      case c2 =>
      intro v12 w12 o12 hg12 hat12
      have HU12 : Hid (ObsAt w12 w1.heap.size v11 (obsAt 0 (pcs ++ [⟨packV S p, S, p, false, ys⟩]))) := by
        show ObsAt _ _ _ _
        rw [obs_snoc _ _ HGP.out]
        have := obs_row HO11.out hg12 HA11.out.sym
        have e : obOf (wordsOf pcs).length ⟨packV S p, S, p, false, ys⟩ = ⟨(lv : Int), S, p, false, 0⟩ := by simp [obOf, HLV.out]
        rw [e]
        exact this
      have HV12 : Hid (OwnNums w12 w1.heap.size v12 (wordsOf (pcs ++ [⟨packV S p, S, p, false, ys⟩]))) := by
        show OwnNums _ _ _ _
        rw [words_snoc]
        exact o12
      have HA12 : Hid (Apart v12 v11) := Apart.left HA11.out hat12 (obs_lt HO11.out (Nat.le_refl _))
      have B12 : Hid (Below w1.heap.size w1 w12) := row_own B11.out HV11.out hg12
      clear o12 hg12 hat12 HO11 HV11 N11
      go_wp2_with fail
      refine ⟨⟨k + 1, pcs ++ [(⟨packV (S : Int) (p : Int), S, p, false, ys⟩ : Pc)], by omega, by omega, by go_num, ⟨by have := HPL.out; simp; omega, HRW.out _ ?_⟩, HV12.out, HU12.out, HA12.out, B12.out⟩, by simp [intOf]; omega⟩
      exact ⟨HSP.out.1, HSP.out.2, rfl, HSO.out.len, (show S ≤ 6 by omega), (show p ≤ S by omega), HSO.out.small, (fun _ => ⟨rfl, HSO.out.ptrs⟩), (fun h => by cases h)⟩
    · have HP : Hid (pcs.length = k ∧ PcsOk false L pcs) := hpc
      have htst : Hid (¬ (k : Int) < (n : Int) ∨ ((k : Int) < (n : Int) ∧ ¬ (k : Int) < 8)) := by show _ ∨ _; omega
      have hg := good_of hpc.out.2 (by have := hpc.out.1; omega)
      have hnw := news_of hpc.out.2 rfl
      have hwl := words_len hpc.out.2
      have HLW : Hid ((wordsOf pcs).length ≤ 56 ∧ pcs.length ≤ 8) := by have := hpc.out.1; show _ ∧ _; omega
      have z2 : 0 < wr.heap.size := Nat.lt_of_lt_of_le z1 hb.out.size
      have B2 : Hid (Below w.heap.size w wr) := kp_tr B1.out hb.out
      have NV := Lib.hid (hv.out.sees z2 (by have := HLW.out; omega))
      have NU := Lib.hid (obs_sees hu.out z2 (by rw [obsAt_len]; have := HLW.out; omega))
      obtain ⟨va, lw, vc, hv4, hlv⟩ := hv.out.form
      subst hv4
      obtain ⟨ua, uc, hu5⟩ := obs_form hu.out
      subst hu5
      rw [obsAt_len] at *
      generalize hm : pcs.length = m at *
      have HM := Lib.hid hm
      have HLV := Lib.hid hlv
      have HG := Lib.hid hg
      have HSM := Lib.hid (words_small hg)
      have HNA : Hid (newF (wordsOf pcs) = .ok (obsAt 0 pcs) 0) := new_all hg hnw
      have HOA : Hid (oldF (wordsOf pcs) [] = .ok (obsAt 0 pcs) 0) := by
        have h1 := no_shapes hnw
        have h2 := old_all hg []
        rw [h1] at h2
        exact h2
      have HKA : Hid (kindsF (wordsOf pcs).length (obsAt 0 pcs) [] = some (kindsOf pcs)) := kinds_all hg
      have HKL : Hid ((kindsOf pcs).length = (wordsOf pcs).length) := kinds_words hg
      have HC1 : Hid (cnt 1 (kindsOf pcs) = m) := by show _ = _; rw [← hm]; exact cnt_heads
      have HC2 : Hid (cnt 2 (kindsOf pcs) = sumP pcs) := cnt_ptrs hg
      have HSP : Hid (sumP pcs ≤ 48) := by have := sumP_le hg; have := HLW.out; show _ ≤ _; omega
      have hm8 : m ≤ 8 := HLW.out.2
      clear hpc hg hnw hwl hb hv hu hvu hlt hm hlv
      go_upto_region 5 with (fail)
      go_cut [27] (fun v wx => v = .bool false ∧ wx = wr)
      case first =>
        rcases htst.out with h | ⟨h, h'⟩
        · go_wp2_with fail
          go_meet
          exact ⟨rfl, rfl⟩
        · go_wp2_with fail
          go_meet
          exact ⟨rfl, rfl⟩
      case rest =>
      obtain ⟨rfl, rfl⟩ := hcut
      obtain ⟨wr, hX⟩ : ∃ y, y = wc := ⟨_, rfl⟩
      subst hX
      go_wp2_with fail
      refine (walk_in _ _ _ NV.out HSM.out).mono ?_; rintro e w3 ⟨h3, k3⟩
      replace h3 : WalkedAs (wr.heap.size + 6) (newF (wordsOf pcs)) e w3 := h3
      rw [HNA.out] at h3
      obtain ⟨v3, rfl, o3⟩ := h3
      have z3 : 0 < w3.heap.size := Nat.lt_of_lt_of_le z2 k3.size
      have NV3 := Lib.hid (NV.out.tr k3)
      have NU3 := Lib.hid (NU.out.tr k3)
      have NO3 := Lib.hid (obs_sees o3 z3 (by rw [obsAt_len]; have := HLW.out; have := HM.out; omega))
      have B3 : Hid (Below w.heap.size w w3) := kp_tr B2.out k3
      clear o3 k3
      go_wp2_with fail
      refine (walkold_in _ _ _ [] _ NV3.out HSM.out (ShapesIn.nil z3)).mono ?_; rintro e w4 ⟨⟨B4, hB4, h4⟩, k4⟩
      rw [HOA.out] at h4
      obtain ⟨v4, rfl, o4⟩ := h4
      have z4 : 0 < w4.heap.size := Nat.lt_of_lt_of_le z3 k4.size
      have NV4 := Lib.hid (NV3.out.tr k4)
      have NU4 := Lib.hid (NU3.out.tr k4)
      have NO4 := Lib.hid (NO3.out.tr k4)
      have NP4 := Lib.hid (obs_sees o4 z4 (by rw [obsAt_len]; have := HLW.out; have := HM.out; omega))
      have B4' : Hid (Below w.heap.size w w4) := kp_tr B3.out k4
      clear o4 k4 hB4 NV3 NU3 NO3 B3 z3
      have hlw2 : lw < 1000000000000 := by have := HLV.out; have := HLW.out; omega
      go_wp2_with fail
      refine (kinds_any _ _ _ _ _ _ hlw2 NO4.out).mono ?_; rintro e w5 ⟨h5, k5⟩
      clear hlw2
      rw [show kindsF lw (obsAt 0 pcs) [] = some (kindsOf pcs) from by rw [HLV.out]; exact HKA.out] at h5
      obtain ⟨v5, rfl, o5⟩ := h5
      obtain ⟨v5a, l5, v5c, rfl⟩ := o5.form2
      have hl5 : l5 = lw := by obtain ⟨a, c, h⟩ := o5.form; simp at h; have := HKL.out; have := HLV.out; omega
      subst hl5
      have hl56 : l5 ≤ 56 := by have := HLV.out; have := HLW.out; omega
      have O5 := Lib.hid o5
      have z5 : 0 < w5.heap.size := Nat.lt_of_lt_of_le z4 k5.size
      have NU5 := Lib.hid (NU4.out.tr k5)
      have NO5 := Lib.hid (NO4.out.tr k5)
      have NP5 := Lib.hid (NP4.out.tr k5)
      have B5 : Hid (Below w.heap.size w w5) := kp_tr B4'.out k5
      clear o5 k5 NV4 NU4 NO4 NP4 B4' z4
      go_wp2_with fail
      refine (same_any _ _ (obsAt 0 pcs) (obsAt 0 pcs) _ NO5.out NU5.out).mono ?_; rintro e w6 ⟨rfl, k6⟩
      rw [decSelf]
      have NU6 := Lib.hid (NU5.out.tr k6)
      have NP6 := Lib.hid (NP5.out.tr k6)
      have O6 := Lib.hid (O5.out.tr k6)
      have B6 : Hid (Below w.heap.size w w6) := kp_tr B5.out k6
      clear k6 NU5 NP5 O5 B5 NO5
      go_wp2_with fail
      refine (same_any _ _ (obsAt 0 pcs) (obsAt 0 pcs) _ NP6.out NU6.out).mono ?_; rintro e w7 ⟨rfl, k7⟩
      rw [decSelf]
      have NU7 := Lib.hid (NU6.out.tr k7)
      have O7 := Lib.hid (O6.out.tr k7)
      have B7 : Hid (Below w.heap.size w w7) := kp_tr B6.out k7
      clear k7 NU6 NP6 O6 B6
      go_wp2_with fail
      go_loopw [17, 15, 16] (fun i h p wr => ∃ q : Nat, q ≤ l5 ∧ i = .int .i64 (q : Int) ∧ h = .int .i64 (cnt 1 ((kindsOf pcs).take q) : Int) ∧ p = .int .i64 (cnt 2 ((kindsOf pcs).take q) : Int) ∧ Hid (Below w7.heap.size w7 wr)) (fun i _ _ _ => l5 - (intOf i).toNat)
      case atStart => exact ⟨0, Nat.zero_le _, rfl, by simp [cnt], by simp [cnt], Below.refl _ _⟩
      case round =>
        obtain ⟨q, hq, rfl, rfl, rfl, hb⟩ := hrel
        by_cases hlt : q < l5
        · have hlti : (q : Int) < (l5 : Int) := by omega
          obtain ⟨gk, ck, hvk, hgk0, hgkl, hkc⟩ := (O7.out.tr hb.out).block (by have := HKL.out; have := HLV.out; omega)
          simp at hvk
          obtain ⟨rfl, hmx, rfl⟩ := hvk
          clear hmx
          have hkq := hkc q (by have := HKL.out; have := HLV.out; omega)
          have ht1 := cnt_take 1 (kindsOf pcs) q (by have := HKL.out; have := HLV.out; omega)
          have ht2 := cnt_take 2 (kindsOf pcs) q (by have := HKL.out; have := HLV.out; omega)
          have hb1 := cnt_le 1 ((kindsOf pcs).take q)
          have hb2 := cnt_le 2 ((kindsOf pcs).take q)
          have hl57 : (kindsOf pcs).length ≤ 56 := by have := HKL.out; have := HLW.out; omega
          have hb3 : cnt 1 ((kindsOf pcs).take q) ≤ 56 ∧ cnt 2 ((kindsOf pcs).take q) ≤ 56 := by simp at hb1 hb2; omega
          obtain ⟨hb4, hb5⟩ := hb3
          clear hkc hb1 hb2 hl57
          have HT1 := Lib.hid ht1
          have HT2 := Lib.hid ht2
          clear ht1 ht2
          generalize cnt 1 ((kindsOf pcs).take q) = c1 at *
          generalize cnt 2 ((kindsOf pcs).take q) = c2 at *
          generalize (kindsOf pcs).getD q 0 = κ at *
          by_cases hκ1 : κ = 1
          · subst hκ1
            go_wp2_with fail
            exact ⟨⟨q + 1, by omega, by go_num, by rw [HT1.out]; go_num, by rw [HT2.out]; simp, hb.out⟩, by simp [intOf]; omega⟩
          · have hκ1b : (κ == 1) = false := beq_eq_false_iff_ne.mpr hκ1
            by_cases hκ2 : κ = 2
            · subst hκ2
              go_wp2_with fail
              exact ⟨⟨q + 1, by omega, by go_num, by rw [HT1.out]; simp, by rw [HT2.out]; go_num, hb.out⟩, by simp [intOf]; omega⟩
            · have hκ2b : (κ == 2) = false := beq_eq_false_iff_ne.mpr hκ2
              go_wp2_with fail
              exact ⟨⟨q + 1, by omega, by go_num, by rw [HT1.out, if_neg hκ1]; simp, by rw [HT2.out, if_neg hκ2]; simp, hb.out⟩, by simp [intOf]; omega⟩
        · obtain rfl : q = l5 := by omega
          have hall : (kindsOf pcs).take q = kindsOf pcs := List.take_of_length_le (by have := HKL.out; have := HLV.out; omega)
          have e1 : (cnt 1 ((kindsOf pcs).take q) : Int) = (m : Int) := by rw [hall, HC1.out]
          have e2 : (cnt 2 ((kindsOf pcs).take q) : Int) = (sumP pcs : Int) - (sumP (pcs.take 0) : Int) := by rw [hall, HC2.out]; simp [sumP]
          rw [e1, e2]
          have B8 : Hid (Below w.heap.size w wr) := kp_tr B7.out hb.out
          obtain ⟨X, hX⟩ : ∃ y, y = wr := ⟨_, rfl⟩
          subst hX
          have NU8 := Lib.hid (NU7.out.tr hb.out)
          have HTP : Hid (∀ j, j < m → sumP (pcs.take (j + 1)) = sumP (pcs.take j) + (pcD pcs j).p ∧ (obD (obsAt 0 pcs) j).p = ((pcD pcs j).p : Int) ∧ sumP (pcs.take j) + (pcD pcs j).p ≤ sumP pcs) := fun j hj => by
            have hj2 : j < pcs.length := by have := HM.out; omega
            refine ⟨sumP_take pcs j hj2, obs_p pcs HG.out j hj2, ?_⟩
            rw [← sumP_take pcs j hj2]
            have h9 : sumP pcs = sumP (pcs.take (j + 1)) + sumP (pcs.drop (j + 1)) := by rw [← sumP_app, List.take_append_drop]
            omega
          have hsp := HSP.out
          clear hall e1 e2 hlt O7 NU7 hb
          generalize hsum : sumP pcs = sp at *
          have HSUM := Lib.hid hsum
          clear hsum
          go_wp2_with fail
          go_loopw [18, 16] (fun i p wr => ∃ j : Nat, j ≤ m ∧ i = .int .i64 (j : Int) ∧ p = .int .i64 ((sp : Int) - (sumP (pcs.take j) : Int)) ∧ Hid (Below X.heap.size X wr)) (fun i _ _ => m - (intOf i).toNat)
          case atStart => exact ⟨0, Nat.zero_le _, rfl, rfl, Below.refl _ _⟩
          case round =>
            obtain ⟨j, hj, rfl, rfl, hb⟩ := hrel
            by_cases hjm : j < m
            · have hjmi : (j : Int) < (m : Int) := by omega
              obtain ⟨t1, t2, t3⟩ := HTP.out j hjm
              obtain ⟨ad6, b6, off6, cap6, e6, ⟨a1, a2⟩, a3, a4, a5, a6⟩ := NU8.out.tr hb.out
              have hol : (obsAt 0 pcs).length = m := by rw [obsAt_len]; exact HM.out
              rw [hol] at e6 a1 a3 a4 a6
              simp at e6
              obtain ⟨rfl, rfl⟩ := e6
              obtain rfl := a1 (by omega)
              obtain ⟨y0, y1, y2, y3, y4⟩ := a6.at j hjm
              rw [t2] at y2
              clear a1 a2
              have HT1 := Lib.hid t1
              clear t1
              generalize sumP (pcs.take j) = sj at *
              generalize (pcD pcs j).p = pj at *
              go_wp2_with fail
              exact ⟨⟨j + 1, by omega, by go_num, by rw [HT1.out]; simp; omega, hb.out⟩, by simp [intOf]; omega⟩
            · obtain rfl : j = m := by omega
              have hall : pcs.take j = pcs := List.take_of_length_le (by have := HM.out; omega)
              have e1 : (sp : Int) - (sumP (pcs.take j) : Int) = 0 := by rw [hall, HSUM.out]; omega
              rw [e1]
              clear hall e1
              go_wp2_with fail
              go_ret
              exact ⟨rfl, kp_tr B8.out hb.out⟩
end Go.Proofs.Ytiboinckdjiniaa.ob
