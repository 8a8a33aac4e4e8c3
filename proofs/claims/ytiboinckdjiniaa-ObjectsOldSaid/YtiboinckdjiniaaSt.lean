/- ObjectsOld: the walk. No conditions. -/
import Derived.Test.YtiboinckdjiniaaSs
import Derived.Deep.DeepCutAuto
import Derived.Deep.CutRange
namespace Go.Proofs.Ytiboinckdjiniaa.ob
open Go.RowKit Go.Proofs.Ytiboinckdjiniaa.hd
set_option linter.unusedVariables false
set_option linter.unusedSimpArgs false
set_option maxRecDepth 100000 in
set_option maxHeartbeats 16000000 in
theorem old_walk_law (v0 : Value) (L : List Rw) (w : World) (hL : RawsIn w v0 L) :
    Calls Try.prog 5 #[v0] w fun e w' => e = .returned (.bool true) ∧ Below w.heap.size w w' := by
  have HL := Lib.hid hL
  obtain ⟨ad, b, off, cap, rfl, h1, h2, h3, h4⟩ := hL
  generalize hn : L.length = n at *
  have HN := Lib.hid hn
  have H1 := Lib.hid h1
  clear hn h1
  have H4 := Lib.hid h4
  clear h4
  go_enter Try.func5, Try.ntmps5
  go_wp2_with fail
  refine (awake_any2 _).mono ?_; rintro e w1 ⟨rfl, k1, z1⟩
  have B1 := Lib.hid k1
  clear k1
  go_wp2_with fail
  refine (words_any _ true L _ (HL.out.tr B1.out)).mono ?_; rintro e w2 ⟨⟨pcs, v, u, rfl, hpl, hok, hv, hu⟩, k2⟩
  have hg := good_of hok (by omega)
  have hwl := words_len hok
  have hsl := shapes_len pcs
  rw [HN.out] at hpl
  have hlw : (wordsOf pcs).length ≤ 56 ∧ (shapesOf pcs).length ≤ 8 := by omega
  have B2 : Hid (Below w.heap.size w w2) := kp_tr B1.out k2
  have z2 : 0 < w2.heap.size := Nat.lt_of_lt_of_le z1 k2.size
  have HG := Lib.hid hg
  have HOK := Lib.hid hok
  have HPL := Lib.hid hpl
  have HLW := Lib.hid hlw
  have NV := Lib.hid (hv.sees z2 (by omega))
  have OU := Lib.hid (hu.tr (Below.refl _ _))
  have NU := Lib.hid (hu.sees z2 (by omega))
  obtain ⟨va, lw, vc, rfl, hlv⟩ := hv.form
  obtain ⟨ua, lu, uc, rfl, hlu⟩ := hu.form
  have HLV := Lib.hid hlv
  have HLU := Lib.hid hlu
  have HSM := Lib.hid (words_small hg)
  clear hok hpl hlw hwl hsl hlv hlu hv hu hg k2
  go_wp2_with fail
  refine (walkold_in _ _ _ _ _ NV.out HSM.out NU.out).mono ?_; rintro e w3 ⟨⟨B3, hB3, h3'⟩, k3⟩
  have e3 := old_all HG.out []
  rw [List.append_nil, if_pos rfl] at e3
  rw [e3] at h3'
  obtain ⟨v3, rfl, o3⟩ := h3'
  obtain ⟨v3a, v3c, rfl⟩ := obs_form o3
  rw [obsAt_len] at *
  generalize hm3 : pcs.length = m at *
  have HM := Lib.hid hm3
  clear hm3
  have HO3 := Lib.hid o3
  have B3' : Hid (Below w.heap.size w w3) := kp_tr B2.out k3
  have NV3 := Lib.hid (NV.out.tr k3)
  have OU3 := Lib.hid (OU.out.tr k3)
  have z3 : 0 < w3.heap.size := Nat.lt_of_lt_of_le z2 k3.size
  have NU3 := Lib.hid (NU.out.tr k3)
  clear o3 e3 hB3 k3 NV OU NU
  go_wp2_with (first
    | (at_builtin; refine app_shapes _ rfl _ _ rfl w3.heap.size (.slice none 0 0) (.slice ua lu uc) [] (shapesOf pcs) rfl rfl (OwnShapes.nil _ _) NU3.out ?c0 (Nat.le_refl _) ?c1))
  case c0 => have := HLW.out; simp; omega
  case c1 =>
  intro v4 w4 o4 hg4 hat4
  have k4 : Below w3.heap.size w3 w4 := grown_below hg4
  have B4 : Hid (Below w.heap.size w w4) := kp_tr B3'.out k4
  have HO4 := Lib.hid o4
  have hs34 := k4.size
  have K34 := Lib.hid k4
  clear o4 hg4 hat4 k4
  go_wp2_with (first
    | (at_builtin; refine app_shapes _ rfl _ _ rfl w3.heap.size v4 (.slice (some ⟨w4.heap.size, 0, none⟩) 1 1) (shapesOf pcs) [(0, 0)] rfl rfl (HO4.out.tr ((Below.refl _ _).alloc (Nat.le_refl _) _)) (shapes_lit _ 0 0 _ (Blk.new _ _ _)) ?c0 ?c1 ?c2))
  case c0 => have := HLW.out; simp; omega
  case c1 => exact le_alloc hs34
  case c2 =>
  intro v5 w5 o5 hg5 hat5
  have k5 : Below w3.heap.size w3 w5 := rows_own (K34.out.alloc hs34 _) HO4.out hg5
  have B5 : Hid (Below w.heap.size w w5) := kp_tr B3'.out k5
  have z5 : 0 < w5.heap.size := Nat.lt_of_lt_of_le z3 k5.size
  have NV5 := Lib.hid (NV3.out.tr k5)
  have OU5 := Lib.hid (OU3.out.tr k5)
  have HO5 := Lib.hid (obs_tr HO3.out k5)
  have NS5 := Lib.hid (o5.sees z5 (by have := HLW.out; simp; omega))
  clear o5 hg5 hat5 k5 HO4 K34 B4 hs34 NV3 OU3 HO3 NU3 B3' z3
  go_wp2_with fail
  refine (walkold_in _ _ _ _ _ NV5.out HSM.out NS5.out).mono ?_; rintro e w6 ⟨⟨B6, hB6, h6⟩, k6⟩
  have e6 := old_all HG.out [(0, 0)]
  rw [if_neg (by simp)] at e6
  rw [e6] at h6
  obtain rfl := h6
  have B6' : Hid (Below w.heap.size w w6) := kp_tr B5.out k6
  have z6 : 0 < w6.heap.size := Nat.lt_of_lt_of_le z5 k6.size
  have NV6 := Lib.hid (NV5.out.tr k6)
  have OU6 := Lib.hid (OU5.out.tr k6)
  have HO6 := Lib.hid (obs_tr HO5.out k6)
  clear e6 hB6 k6 NV5 OU5 HO5 NS5 z5 B5
  have hmn : m = min n 8 := HPL.out
  have hm8 : Hid (n < 8 ∧ m = n ∨ n = 8 ∧ m = 8 ∨ 8 < n ∧ m = 8) := by show _ ∨ _ ∨ _; omega
  have hmm : m ≤ n ∧ m ≤ 8 := by omega
  obtain ⟨hmn1, hmn2⟩ := hmm
  clear hmn
  go_upto_region 5 with (fail)
  go_cut [53] (fun v wx => v = .bool false ∧ wx = w6)
  case first =>
    rcases hm8.out with ⟨hc1, rfl⟩ | ⟨rfl, rfl⟩ | ⟨hc1, rfl⟩
    · have hci : (m : Int) < 8 := by omega
      go_wp2_with fail
      go_meet
      exact ⟨rfl, rfl⟩
    · go_wp2_with fail
      go_meet
      exact ⟨rfl, rfl⟩
    · have hci : (8 : Int) < (n : Int) := by omega
      go_wp2_with fail
      go_meet
      exact ⟨rfl, rfl⟩
  case rest =>
  obtain ⟨rfl, rfl⟩ := hcut
  obtain ⟨W, hW⟩ : ∃ y, y = wc := ⟨_, rfl⟩
  subst hW
  have hkk : Hid (8 ≤ 8 ∨ True) := .inr trivial
  have HGT : Hid (∀ k, k < m → obD (obsAt 0 pcs) k = obOf (wordsOf (pcs.take k)).length (pcD pcs k)) := fun k hk => obs_take pcs HG.out k (by have := HM.out; omega)
  have HWT : Hid (∀ k, k < m → (wordsOf (pcs.take (k + 1))).length = (wordsOf (pcs.take k)).length + 1 + (pcD pcs k).s) := fun k hk => words_take pcs HG.out k (by have := HM.out; omega)
  have HWB : Hid (∀ k, (wordsOf (pcs.take k)).length ≤ 56) := fun k => by
    have h1 : wordsOf pcs = wordsOf (pcs.take k) ++ wordsOf (pcs.drop k) := by rw [← wordsOf_app, List.take_append_drop]
    have := HLW.out
    rw [h1] at this
    simp at this
    omega
  clear hkk hm8
  go_wp2_with fail
  go_loopw [11, 10] (fun i at' wr => ∃ k : Nat, k ≤ m ∧ i = .int .i64 (k : Int) ∧ at' = .int .i64 ((wordsOf (pcs.take k)).length : Int) ∧ Hid (Below W.heap.size W wr)) (fun i _ _ => m - (intOf i).toNat)
  case atStart => exact ⟨0, Nat.zero_le _, rfl, by simp [wordsOf], Below.refl _ _⟩
  case round =>
    obtain ⟨k, hk, rfl, rfl, hb⟩ := hrel
    by_cases hlt : k < m
    · have hlti : (k : Int) < (m : Int) := by omega
      obtain ⟨rfl, hbl⟩ := H1.out (by omega)
      obtain ⟨x0, x1, x2, x3, hok⟩ := H4.out k (by omega)
      have hbw : Below w.heap.size w wr := kp_tr B6'.out hb.out
      replace x0 := cell_tr hbw x0
      replace x1 := cell_tr hbw x1
      replace x2 := cell_tr hbw x2
      replace x3 := cell_tr hbw x3
      obtain ⟨hone, hsl⟩ := raw_one hok
      have hpc := HOK.out k (by have := HM.out; omega)
      have hgt := HGT.out k hlt
      have hwt := HWT.out k hlt
      have hwb := HWB.out k
      have hbs := hbw.size
      generalize rwD L k = r at *
      generalize pcD pcs k = c at *
      obtain ⟨sz, pt, sl, g, zs⟩ := r
      obtain ⟨ch, cs, cp, cg, cy⟩ := c
      obtain ⟨q1, q2, q3, q4, q5, q6, q7, q8, q9⟩ := hpc
      dsimp only at x0 x1 x2 x3 hone hsl q1 q2 q3 q5 q6 q9 hwt
      simp at q3
      subst q3
      obtain ⟨a0, l0, c0, rfl⟩ := hsl
      have ho3 := obs_tr HO6.out hb.out
      obtain ⟨g3, c3, he3, hgB, hgl, hca⟩ := obs_at ho3 (by rw [obsAt_len]; have := HM.out; omega)
      simp at he3
      obtain ⟨rfl, hmx, rfl⟩ := he3
      clear hmx
      obtain ⟨y0, y1, y2, y3, y4⟩ := hca.at k (by rw [obsAt_len]; have := HM.out; omega)
      rw [hgt] at y0 y1 y2 y3 y4
      simp only [obOf, Nat.zero_add] at y0 y1 y2 y3 y4
      clear hca ho3 hgt q4 q7 q8
      generalize hT : (wordsOf (pcs.take k)).length = T at *
      have HWN := Lib.hid hwt
      have HHB := Lib.hid hbw
      have hblw : b < wr.heap.size := by omega
      have HQ1 : Hid (pickI sz 7 = (cs : Int) ∧ pickI pt ((cs : Int) + 1) = (cp : Int)) := ⟨q1, q2⟩
      have hhok := Lib.hid hok
      clear hT hwt hbw q1 q2 hok
      cases cg with
      | false =>
        simp only [Bool.false_eq_true, if_false] at y4
        go_wp2_with fail
        refine (shape_any sz pt _ false _ hone hhok.out.sz hhok.out.pt).mono ?_; rintro e w8 ⟨rfl, k8⟩
        rw [HQ1.out.1, HQ1.out.2]
        have x38 := cell_tr k8 x3
        have y08 := cell_tr k8 y0
        have y18 := cell_tr k8 y1
        have y28 := cell_tr k8 y2
        have y38 := cell_tr k8 y3
        have y48 := cell_tr k8 y4
        have hs8 := k8.size
        have hb8 : b < w8.heap.size := by omega
        have hb81 : b ≠ w8.heap.size := by omega
        have hb82 : b ≠ w8.heap.size + 1 := by omega
        have hb83 : b < w8.heap.size + 1 := by omega
        have hg8 : g3 < w8.heap.size := by omega
        have hg81 : g3 ≠ w8.heap.size := by omega
        have hg82 : g3 ≠ w8.heap.size + 1 := by omega
        have hg83 : g3 < w8.heap.size + 1 := by omega
        have K8 : Hid (Below W.heap.size W w8) := kp_tr hb.out k8
        have hW8 := K8.out.size
        clear x0 x1 x2 x3 y0 y1 y2 y3 y4 k8
        go_wp2_with fail
        go_region
        go_wp2_with fail
        refine ⟨⟨k + 1, by omega, by go_num, ?_, ?_⟩, by simp [intOf]; omega⟩
        · rw [HWN.out]; go_num
        · have := K8.out
          show Below _ _ _
          (repeat (first | with_reducible exact Below.refl _ _ | with_reducible refine kp_alloc ?_ _ | with_reducible refine kp_drew ?_ | with_reducible refine kp_set ?_ (by first | omega | (simp; done) | (simp; omega)) _ | with_reducible refine kp_tr ?_ (by with_reducible assumption)))
      | true =>
        obtain ⟨rfl, _⟩ := q9 rfl
        have hav : adV (2 * (100 + (k : Int)) + 1) = 100 + k := (adE_odd (by omega)).2
        simp only [if_true, hav] at y4
        go_wp2_with fail
        refine (shape_any sz pt _ true _ hone hhok.out.sz hhok.out.pt).mono ?_; rintro e w8 ⟨rfl, k8⟩
        rw [HQ1.out.1, HQ1.out.2]
        have x38 := cell_tr k8 x3
        have y08 := cell_tr k8 y0
        have y18 := cell_tr k8 y1
        have y28 := cell_tr k8 y2
        have y38 := cell_tr k8 y3
        have y48 := cell_tr k8 y4
        have hs8 := k8.size
        have hb8 : b < w8.heap.size := by omega
        have hb81 : b ≠ w8.heap.size := by omega
        have hb82 : b ≠ w8.heap.size + 1 := by omega
        have hb83 : b < w8.heap.size + 1 := by omega
        have hg8 : g3 < w8.heap.size := by omega
        have hg81 : g3 ≠ w8.heap.size := by omega
        have hg82 : g3 ≠ w8.heap.size + 1 := by omega
        have hg83 : g3 < w8.heap.size + 1 := by omega
        have K8 : Hid (Below W.heap.size W w8) := kp_tr hb.out k8
        have hW8 := K8.out.size
        clear x0 x1 x2 x3 y0 y1 y2 y3 y4 k8
        go_wp2_with fail
        go_region
        go_wp2_with fail
        refine ⟨⟨k + 1, by omega, by go_num, ?_, ?_⟩, by simp [intOf]; omega⟩
        · rw [HWN.out]; go_num
        · have := K8.out
          show Below _ _ _
          (repeat (first | with_reducible exact Below.refl _ _ | with_reducible refine kp_alloc ?_ _ | with_reducible refine kp_drew ?_ | with_reducible refine kp_set ?_ (by first | omega | (simp; done) | (simp; omega)) _ | with_reducible refine kp_tr ?_ (by with_reducible assumption)))
    · obtain rfl : k = m := by omega
      have B7 : Hid (Below w.heap.size w wr) := kp_tr B6'.out hb.out
      have NV7 := Lib.hid (NV6.out.tr hb.out)
      have NU7 := Lib.hid ((OU6.out.tr hb.out).sees (Nat.lt_of_lt_of_le z6 hb.out.size) (by have := HLW.out; omega))
      clear hlt NV6 OU6 HO6 HWT HWB HGT
      by_cases hz : lu = 0
      · subst hz
        go_wp2_with fail
        go_ret
        exact ⟨rfl, B7.out⟩
      · obtain ⟨l, rfl⟩ : ∃ l, lu = l + 1 := ⟨lu - 1, by omega⟩
        have hz1 : (((l + 1 : Nat) : Int) == 0) = false := beq_eq_false_iff_ne.mpr (by omega)
        have hlen := NU7.out.len
        have i1 : l ≤ uc := by omega
        have i2 : (l : Int) ≤ (uc : Int) := by omega
        have hne : shapesOf pcs ≠ [] := fun e => by have := HLU.out; rw [e] at this; simp at this
        have NS7 := Lib.hid (NU7.out.take (m := l) (by omega))
        have hdl : (shapesOf pcs).dropLast = (shapesOf pcs).take l := by rw [List.dropLast_eq_take]; congr 1; have := HLU.out; omega
        obtain ⟨t1, e1⟩ := old_short HG.out hne
        obtain ⟨t2, e2⟩ := new_gone HG.out hne
        rw [hdl] at e1
        have HE1 := Lib.hid e1
        have HE2 := Lib.hid e2
        have j1 : IntKind.i64.wrap (l : Int) = (l : Int) := wr_i64 _ (by omega)
        have hl8 : l < 8 := by have := HLU.out; have := HLW.out; omega
        clear hlen hdl e1 e2 hne
        go_wp2_with fail
        refine (walkold_in _ _ _ _ _ NV7.out HSM.out NS7.out).mono ?_; rintro e w8 ⟨⟨B8, hB8, h8⟩, k8⟩
        rw [HE1.out] at h8
        obtain rfl := h8
        have NV8 := Lib.hid (NV7.out.tr k8)
        have BB8 : Hid (Below w.heap.size w w8) := kp_tr B7.out k8
        clear k8 hB8 NV7 NU7 NS7
        go_wp2_with fail
        refine (walk_in _ _ _ NV8.out HSM.out).mono ?_; rintro e w9 ⟨h9, k9⟩
        have h9' : WalkedAs (w8.heap.size + 6) (newF (wordsOf pcs)) e w9 := h9
        rw [HE2.out] at h9'
        obtain rfl := h9'
        clear h9
        go_wp2_with fail
        go_ret
        exact ⟨rfl, kp_tr BB8.out k9⟩
end Go.Proofs.Ytiboinckdjiniaa.ob
