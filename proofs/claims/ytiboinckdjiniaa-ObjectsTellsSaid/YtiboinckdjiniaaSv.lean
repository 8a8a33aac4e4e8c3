/- ObjectsSlots: the walk. No conditions. -/
import Derived.Test.YtiboinckdjiniaaSu
namespace Go.Proofs.Ytiboinckdjiniaa.ob
open Go.RowKit Go.Proofs.Ytiboinckdjiniaa.hd
set_option linter.unusedVariables false
set_option linter.unusedSimpArgs false
theorem news_of {old : Bool} {L : List Rw} {l : List Pc} (h : PcsOk old L l) (ho : old = false) : ∀ c ∈ l, c.g = false := fun c hc => by
  obtain ⟨i, _, _, hok⟩ := pcs_mem h hc
  rw [hok.hg, ho]; rfl
theorem OwnInts.block {W : World} {B : Nat} {v : Value} {zs : List Int} (h : OwnInts W B v zs) (h0 : 0 < zs.length) : ∃ g cap, v = .slice (some ⟨g, 0, none⟩) zs.length cap ∧ B ≤ g ∧ g < W.heap.size ∧ ∀ i, i < zs.length → W.cell? ⟨g, i, none⟩ = some (.int .i64 (zs.getD i 0)) := by
  rcases h.2 with ⟨rfl, h1⟩ | ⟨g, cap, cur, rfl, h1, h2, h3, h4, h5, h6⟩
  · omega
  · have hB : Blk W g cur 3 := Blk.of h2
    refine ⟨g, cap, rfl, h1, hB.lt, fun i hi => ?_⟩
    have h7 := World.ownsRow.cells h (g := g) rfl i (.int .i64 (zs.getD i 0)) (by simp [List.getD, List.getElem?_eq_getElem hi])
    have e : (⟨g, 0, none⟩ : Addr).add i = ⟨g, i, none⟩ := by unfold Addr.add; split <;> simp_all
    rw [e] at h7
    exact h7
theorem cell_other {w : World} {p q : Addr} {v : Value} (h : p.block ≠ q.block) : (w.setCell q v).cell? p = w.cell? p := by
  unfold World.cell?; rw [Below.heap_setCell _ _ _ _ h]
theorem tmod2 {x : Int} (h : 0 ≤ x) : x.tmod 2 = x % 2 := Int.tmod_eq_emod_of_nonneg h
set_option maxRecDepth 100000 in
set_option maxHeartbeats 16000000 in
theorem slots_walk_law (v0 : Value) (L : List Rw) (at' x : Int) (w : World) (hL : RawsIn w v0 L) (h3 : i64In at') (hx : 0 ≤ x ∧ x < 18446744073709551616) :
    Calls Try.prog 7 #[v0, .int .i64 at', .int .u64 x] w fun e w' => e = .returned (.bool true) ∧ Below w.heap.size w w' := by
  have HL := Lib.hid hL
  have H3 := Lib.hid h3
  have HXX := Lib.hid hx
  clear hL h3
  obtain ⟨hx0, hx1⟩ := hx
  go_enter Try.func7, Try.ntmps7
  go_wp2_with fail
  refine (awake_any2 _).mono ?_; rintro e w1 ⟨rfl, k1, z1⟩
  have B1 := Lib.hid k1
  clear k1
  go_wp2_with fail
  refine (words_any _ false L _ (HL.out.tr B1.out)).mono ?_; rintro e w2 ⟨⟨pcs, v, u, rfl, hpl, hok, hv, hu⟩, k2⟩
  have hg := good_of hok (by omega)
  have hnw := news_of hok rfl
  have hwl := words_len hok
  have hlw : (wordsOf pcs).length ≤ 56 ∧ pcs.length ≤ 8 := by omega
  have B2 : Hid (Below w.heap.size w w2) := kp_tr B1.out k2
  have z2 : 0 < w2.heap.size := Nat.lt_of_lt_of_le z1 k2.size
  have HG := Lib.hid hg
  have HNW := Lib.hid hnw
  have HLW := Lib.hid hlw
  have NV := Lib.hid (hv.sees z2 (by omega))
  obtain ⟨va, lw, vc, rfl, hlv⟩ := hv.form
  have HLV := Lib.hid hlv
  have HSM := Lib.hid (words_small hg)
  have HNA : Hid (newF (wordsOf pcs) = .ok (obsAt 0 pcs) 0) := new_all hg hnw
  have HKA : Hid (kindsF (wordsOf pcs).length (obsAt 0 pcs) [] = some (kindsOf pcs)) := kinds_all hg
  have HKL : Hid ((kindsOf pcs).length = (wordsOf pcs).length) := kinds_words hg
  have HSC : Hid (∀ k, k < (wordsOf pcs).length → SlotCase pcs k x) := fun k hk => slot_case HG.out HNW.out hk HXX.out
  clear hok hpl hlw hwl hlv hv hu hg hnw k2
  go_wp2_with fail
  refine (walk_in _ _ _ NV.out HSM.out).mono ?_; rintro e w3 ⟨h3, k3⟩
  replace h3 : WalkedAs (w2.heap.size + 6) (newF (wordsOf pcs)) e w3 := h3
  rw [HNA.out] at h3
  obtain ⟨v3, rfl, o3⟩ := h3
  have z3 : 0 < w3.heap.size := Nat.lt_of_lt_of_le z2 k3.size
  have HO3 := Lib.hid o3
  have NV3 := Lib.hid (NV.out.tr k3)
  have B3 : Hid (Below w.heap.size w w3) := kp_tr B2.out k3
  have NO3 := Lib.hid (obs_sees o3 z3 (by rw [obsAt_len]; have := HLW.out; omega))
  clear o3 k3 NV B2 z2
  go_wp2_with fail
  have hlw2 : lw < 1000000000000 := by have := HLV.out; have := HLW.out; omega
  refine (kinds_any _ _ _ _ _ _ hlw2 NO3.out).mono ?_; rintro e w4 ⟨h4, k4⟩
  clear hlw2
  rw [show kindsF lw (obsAt 0 pcs) [] = some (kindsOf pcs) from by rw [HLV.out]; exact HKA.out] at h4
  obtain ⟨v4, rfl, o4⟩ := h4
  obtain ⟨v4a, l4, v4c, rfl⟩ := o4.form2
  have HO4 := Lib.hid o4
  have hl4 : l4 = lw := by obtain ⟨a, c, h⟩ := o4.form; simp at h; have := HKL.out; have := HLV.out; omega
  subst hl4
  have NV4 := Lib.hid (NV3.out.tr k4)
  have B4 : Hid (Below w.heap.size w w4) := kp_tr B3.out k4
  have z4 : 0 < w4.heap.size := Nat.lt_of_lt_of_le z3 k4.size
  have HA4 := Lib.hid (obs_tr HO3.out k4)
  clear o4 k4 NV3 NO3 HO3 B3 z3
  by_cases hz : l4 = 0
  · subst hz
    go_wp2_with fail
    go_ret
    exact ⟨rfl, B4.out⟩
  · have hz1 : ((l4 : Int) == 0) = false := beq_eq_false_iff_ne.mpr (by omega)
    have hl56 : l4 ≤ 56 := by have := HLV.out; have := HLW.out; omega
    obtain ⟨hk1, hk2⟩ := pickI_in at' (n := (l4 : Int)) (by omega)
    go_wp2_with fail
    refine (pick_any _ _ _ (by omega) (by omega) H3.out.1 H3.out.2).mono ?_; rintro e ww ⟨rfl, rfl⟩
    generalize pickI at' (l4 : Int) = kI at *
    obtain ⟨k, rfl⟩ := Int.eq_ofNat_of_zero_le hk1
    go_wp2_with (at_builtin; refine app_OwnNums _ rfl _ _ rfl w4.heap.size (.slice none 0 0) (.slice va l4 vc) [] (wordsOf pcs) rfl rfl (OwnNums.nil _ _) NV4.out ?c1 (Nat.le_refl _) ?c2)
    case c1 => have := HLW.out; simp; omega
    case c2 =>
    intro v5 w5 o5 hg5 hat5
    have k5 : Below w4.heap.size w4 w5 := grown_below hg5
    have hkl : k < (wordsOf pcs).length := by have := HLV.out; omega
    obtain ⟨g5, c5, rfl, hg0, hgl, hcell⟩ := o5.block (by omega)
    obtain ⟨hxc, hxf⟩ := hcell k (by omega)
    have O5 := Lib.hid (o5.set (k := k) x)
    have hlen5 : (wordsOf pcs).length = l4 := by have := HLV.out; omega
    rw [hlen5] at O5
    rw [hlen5]
    obtain ⟨gk, ck, hvk, hgk0, hgkl, hkc⟩ := HO4.out.block (by have := HKL.out; omega)
    simp at hvk
    obtain ⟨rfl, hx5, rfl⟩ := hvk
    clear hx5
    have hkk := hkc k (by have := HKL.out; omega)
    have hkk5 := cell_tr k5 hkk
    have hne5 : gk ≠ g5 := by omega
    have HB6 : Hid (Below w.heap.size w (w5.setCell ⟨g5, k, none⟩ (.int .u64 x))) := by
      have h4 := B4.out
      have := h4.size
      exact kp_set (kp_tr h4 k5) (by show w.heap.size ≤ g5; omega) _
    have HA5 : Hid (ObsAt (w5.setCell ⟨g5, k, none⟩ (.int .u64 x)) (w2.heap.size + 6) v3 (obsAt 0 pcs)) := by
      refine World.ownsRow.kept (obs_tr HA4.out k5) (row := some g5) (grown_set (gr_refl _ _) _ (.inr rfl) _) ?_
      rcases hvo : v3.ownBlock with _ | q
      · exact .inl rfl
      · refine .inr (fun e => ?_)
        cases e
        have := World.ownsRow.lt HA4.out _ hvo
        omega
    have hsc := HSC.out k hkl
    have z5 : 0 < w5.heap.size := by omega
    have HSM5 : Hid (Small ((wordsOf pcs).set k x)) := small_set HSM.out HXX.out k
    have NW := Lib.hid (O5.out.sees (by simp; omega) (by have := HLW.out; simp; omega))
    have HSL : Hid (((wordsOf pcs).set k x).length = (wordsOf pcs).length) := by show _ = _; simp
    clear hcell hlen5 o5 hg5 hat5 hkc hkk HO4 NV4 O5 k5 HA4
    go_wp2_with fail
    have hkk6 : (w5.setCell ⟨g5, k, none⟩ (.int .u64 x)).cell? ⟨gk, k, none⟩ = some (.int .i64 ((kindsOf pcs).getD k 0)) := (cell_other (by show gk ≠ g5; exact hne5)).trans hkk5
    have htm := tmod2 hx0
    rcases hsc with ⟨hκ, hF⟩ | ⟨hκ, hp, hF⟩ | ⟨hκ, hp, t, hF⟩ | ⟨hκ, hh⟩
    · refine (walk_in _ _ _ NW.out HSM5.out).mono ?_; rintro e w7 ⟨h7, k7⟩
      replace h7 : WalkedAs ((w5.setCell ⟨g5, k, none⟩ (.int .u64 x)).heap.size + 6) (newF ((wordsOf pcs).set k x)) e w7 := h7
      have hkk7 := cell_tr k7 hkk6
      rw [hκ] at hkk7
      have B7 : Hid (Below w.heap.size w w7) := kp_tr HB6.out k7
      have HA7 := Lib.hid (obs_tr HA5.out k7)
      have z7 : 0 < w7.heap.size := by have := k7.size; simp at this; omega
      rw [hF] at h7
      obtain ⟨v7, rfl, o7⟩ := h7
      have N7 := Lib.hid (obs_sees o7 z7 (by rw [obsAt_len]; have := HLW.out; omega))
      have N37 := Lib.hid (obs_sees HA7.out z7 (by rw [obsAt_len]; have := HLW.out; omega))
      clear o7 HA7 k7 hκ hF
      go_wp2_with fail
      refine (same_any _ _ (obsAt 0 pcs) (obsAt 0 pcs) _ N7.out N37.out).mono ?_; rintro e w8 ⟨rfl, k8⟩
      rw [decSelf]
      go_wp2_with fail
      go_ret
      exact ⟨rfl, kp_tr B7.out k8⟩
    · refine (walk_in _ _ _ NW.out HSM5.out).mono ?_; rintro e w7 ⟨h7, k7⟩
      replace h7 : WalkedAs ((w5.setCell ⟨g5, k, none⟩ (.int .u64 x)).heap.size + 6) (newF ((wordsOf pcs).set k x)) e w7 := h7
      have hkk7 := cell_tr k7 hkk6
      rw [hκ] at hkk7
      have B7 : Hid (Below w.heap.size w w7) := kp_tr HB6.out k7
      have HA7 := Lib.hid (obs_tr HA5.out k7)
      have z7 : 0 < w7.heap.size := by have := k7.size; simp at this; omega
      rw [hF] at h7
      obtain ⟨v7, rfl, o7⟩ := h7
      have N7 := Lib.hid (obs_sees o7 z7 (by rw [obsAt_len]; have := HLW.out; omega))
      have N37 := Lib.hid (obs_sees HA7.out z7 (by rw [obsAt_len]; have := HLW.out; omega))
      clear o7 HA7 k7 hκ hF
      unfold ptrB at hp
      rw [decide_eq_true_eq] at hp
      by_cases hx2 : x = 0
      · have hxb : (x == 0) = true := by simp [hx2]
        clear hp htm
        go_wp2_with fail
        refine (same_any _ _ (obsAt 0 pcs) (obsAt 0 pcs) _ N7.out N37.out).mono ?_; rintro e w8 ⟨rfl, k8⟩
        rw [decSelf]
        go_wp2_with fail
        go_ret
        exact ⟨rfl, kp_tr B7.out k8⟩
      · have hxb : (x == 0) = false := beq_eq_false_iff_ne.mpr hx2
        have hm : x % 2 = 1 := by omega
        have hx13 : ¬ x = 1 := by omega
        have hx1b : (x == 1) = false := beq_eq_false_iff_ne.mpr hx13
        have hne1 : (x != 1) = true := by simp [hx13]
        rw [hm] at htm
        clear hp
        go_wp2_with fail
        refine (same_any _ _ (obsAt 0 pcs) (obsAt 0 pcs) _ N7.out N37.out).mono ?_; rintro e w8 ⟨rfl, k8⟩
        rw [decSelf]
        go_wp2_with fail
        go_ret
        exact ⟨rfl, kp_tr B7.out k8⟩
    · refine (walk_in _ _ _ NW.out HSM5.out).mono ?_; rintro e w7 ⟨h7, k7⟩
      replace h7 : WalkedAs ((w5.setCell ⟨g5, k, none⟩ (.int .u64 x)).heap.size + 6) (newF ((wordsOf pcs).set k x)) e w7 := h7
      have hkk7 := cell_tr k7 hkk6
      rw [hκ] at hkk7
      have B7 : Hid (Below w.heap.size w w7) := kp_tr HB6.out k7
      have HA7 := Lib.hid (obs_tr HA5.out k7)
      have z7 : 0 < w7.heap.size := by have := k7.size; simp at this; omega
      rw [hF] at h7
      obtain rfl := h7
      clear HA7 k7 hκ hF
      unfold ptrB at hp
      rw [decide_eq_false_iff_not] at hp
      have hx2 : x ≠ 0 := by omega
      have hxb : (x == 0) = false := beq_eq_false_iff_ne.mpr hx2
      by_cases hx3 : x = 1
      · have hx1b : (x == 1) = true := by simp [hx3]
        have hm : x % 2 = 1 := by omega
        rw [hm] at htm
        clear hp
        go_wp2_with fail
        go_ret
        exact ⟨rfl, B7.out⟩
      · have hm : x % 2 = 0 := by omega
        rw [hm] at htm
        clear hp
        go_wp2_with fail
        go_ret
        exact ⟨rfl, B7.out⟩
    · rcases hh with hm | ⟨hm, t, hF⟩
      · rw [hm] at htm
        refine (walk_in _ _ _ NW.out HSM5.out).mono ?_; rintro e w7 ⟨h7, k7⟩
        replace h7 : WalkedAs ((w5.setCell ⟨g5, k, none⟩ (.int .u64 x)).heap.size + 6) (newF ((wordsOf pcs).set k x)) e w7 := h7
        have hkk7 := cell_tr k7 hkk6
        rw [hκ] at hkk7
        have B7 : Hid (Below w.heap.size w w7) := kp_tr HB6.out k7
        have HA7 := Lib.hid (obs_tr HA5.out k7)
        have z7 : 0 < w7.heap.size := by have := k7.size; simp at this; omega
        rcases hr : newF ((wordsOf pcs).set k x) with ⟨l, q⟩ | ⟨c, q⟩
        · rw [hr] at h7
          obtain ⟨v7, rfl, o7⟩ := h7
          clear o7 HA7 k7 hκ hr
          go_wp2_with fail
          go_ret
          exact ⟨rfl, B7.out⟩
        · rw [hr] at h7
          obtain rfl := h7
          clear HA7 k7 hκ hr
          go_wp2_with fail
          go_ret
          exact ⟨rfl, B7.out⟩
      · rw [hm] at htm
        refine (walk_in _ _ _ NW.out HSM5.out).mono ?_; rintro e w7 ⟨h7, k7⟩
        replace h7 : WalkedAs ((w5.setCell ⟨g5, k, none⟩ (.int .u64 x)).heap.size + 6) (newF ((wordsOf pcs).set k x)) e w7 := h7
        have hkk7 := cell_tr k7 hkk6
        rw [hκ] at hkk7
        have B7 : Hid (Below w.heap.size w w7) := kp_tr HB6.out k7
        have HA7 := Lib.hid (obs_tr HA5.out k7)
        have z7 : 0 < w7.heap.size := by have := k7.size; simp at this; omega
        rw [hF] at h7
        obtain rfl := h7
        clear HA7 k7 hκ hF
        go_wp2_with fail
        go_ret
        exact ⟨rfl, B7.out⟩
end Go.Proofs.Ytiboinckdjiniaa.ob
