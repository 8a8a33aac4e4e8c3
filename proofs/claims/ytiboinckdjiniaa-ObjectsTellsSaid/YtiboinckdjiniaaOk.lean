/- ObjectsTells: the walk. No conditions. -/
import Derived.Test.YtiboinckdjiniaaOj
import Derived.Test.YtiboinckdjiniaaSv
import Derived.Deep.RegionHeld3
import Derived.Deep.DeepCutAuto
import Derived.Deep.CutRange
import Derived.StillTailTactics
namespace Go.Proofs.Ytiboinckdjiniaa.ob
open Go.RowKit Go.Proofs.Ytiboinckdjiniaa.hd
set_option linter.unusedVariables false
set_option linter.unusedSimpArgs false
/-- One of the four rows of words. -/
def RowOk (W : World) (v : Value) : Prop := ∃ ad len cap zs, v = .slice ad len cap ∧ NumsIn W v zs ∧ Small zs ∧ len = zs.length ∧ zs.length ≤ 60
theorem RowOk.tr {W w : World} {v : Value} (h : RowOk W v) (hb : Below W.heap.size W w) : RowOk w v := by
  obtain ⟨ad, len, cap, zs, e, h1, h2⟩ := h
  exact ⟨ad, len, cap, zs, e, h1.tr hb, h2⟩
/-- One of the four rows of shapes. -/
def ShpOk (W : World) (v : Value) : Prop := ∃ ad len cap ss, v = .slice ad len cap ∧ ShapesIn W v ss ∧ ss.length ≤ 60
theorem ShpOk.tr {W w : World} {v : Value} (h : ShpOk W v) (hb : Below W.heap.size W w) : ShpOk w v := by
  obtain ⟨ad, len, cap, zs, e, h1, h2⟩ := h
  exact ⟨ad, len, cap, zs, e, h1.tr hb, h2⟩
theorem four {P : Nat → Value → Prop} {W w : World} {n : Nat} {a b c d : Value} {T : TypeId} (hW : Blk W n #[a, b, c, d] T) (ha : P 0 a) (hb : P 1 b) (hc : P 2 c) (hd : P 3 d) : ∀ k, k < 4 → ∃ v, W.cell? ⟨n, k, none⟩ = some v ∧ P k v := by
  intro k hk
  obtain ⟨_, h, _⟩ := hW.get
  match k, hk with
  | 0, _ => exact ⟨a, h 0, ha⟩
  | 1, _ => exact ⟨b, h 1, hb⟩
  | 2, _ => exact ⟨c, h 2, hc⟩
  | 3, _ => exact ⟨d, h 3, hd⟩
set_option maxRecDepth 100000 in
set_option maxHeartbeats 16000000 in
theorem tells_walk_law (v0 v1 v4 v5 v7 : Value) (z0 : List Int) (L : List Rw) (wh x : Int) (ss : List (Int × Int)) (os : List Ob) (sz pt : Int) (z7 : List Int) (w : World) (h0 : RowIn w v0 z0) (hL : RawsIn w v1 L) (h2 : i64In wh) (hx : 0 ≤ x ∧ x < 18446744073709551616) (h4 : SRowIn w v4 ss) (h5 : ORowIn w v5 os) (h61 : i64In sz) (h62 : i64In pt) (h7 : RowIn w v7 z7) :
    Calls Try.prog 3 #[v0, v1, .int .i64 wh, .int .u64 x, v4, v5, .agg #[.int .i64 sz, .int .i64 pt], v7] w fun e w' => e = .returned (.bool true) ∧ Below w.heap.size w w' := by
  have H0 := Lib.hid h0
  have HL := Lib.hid hL
  have H2 := Lib.hid h2
  have HXX := Lib.hid hx
  have H4 := Lib.hid h4
  have H5 := Lib.hid h5
  have H6 := Lib.hid (And.intro h61 h62)
  have H7 := Lib.hid h7
  obtain ⟨ad0, n0, cap0, rfl, l01, l02, l03, l04, l05⟩ := cut_sliceN h0
  obtain ⟨ad4, n4, cap4, rfl, l41, l42, l43, l44⟩ := cut_slice h4
  obtain ⟨ad5, n5, cap5, rfl, l51, l52, l53, l54⟩ := cut_sliceO h5
  obtain ⟨ad7, n7, cap7, rfl, l71, l72, l73, l74, l75⟩ := cut_sliceN h7
  have HZ0 := Lib.hid (And.intro l04 l05)
  have HZ4 := Lib.hid l44
  have HZ5 := Lib.hid l54
  have HZ7 := Lib.hid (And.intro l74 l75)
  clear h0 hL h2 hx h4 h5 h61 h62 h7 l04 l05 l44 l54 l74 l75
  go_enter Try.func3, Try.ntmps3
  go_wp2_with fail
  refine (awake_any2 _).mono ?_; rintro e w1 ⟨rfl, k1, z1⟩
  have Kx : Blk w1 w.heap.size #[.int .i64 sz, .int .i64 pt] 28 := Blk.tr (by (repeat (first | with_reducible assumption | exact Blk.mk rfl | exact Blk.mk (by simp) | refine Blk.drew ?_ | refine Blk.alloc ?_ _ | refine Blk.tr ?_ (by with_reducible assumption)))) k1
  have B1 : Hid (Below w.heap.size w w1) := kp_tr ((Below.refl _ _).alloc (Nat.le_refl _) _) k1
  clear k1
  obtain ⟨lx, cx, fx⟩ := Kx.get
  go_wp2_with fail
  refine (words_any _ false L _ (HL.out.tr B1.out)).mono ?_; rintro e w2 ⟨⟨pcs, v, u, rfl, hpl, hok, hv, hu⟩, k2⟩
  have hwl := words_len hok
  have hsl := shapes_len pcs
  have hlw : (wordsOf pcs).length ≤ 56 ∧ (shapesOf pcs).length ≤ 8 := by omega
  have B2 : Hid (Below w.heap.size w w2) := kp_tr B1.out k2
  have z2 : 0 < w2.heap.size := Nat.lt_of_lt_of_le z1 k2.size
  replace Kx := Kx.tr k2
  have NV := Lib.hid (hv.sees z2 (by omega))
  have NU := Lib.hid (hu.sees z2 (by omega))
  have HSM := Lib.hid (words_small (good_of hok (by omega)))
  obtain ⟨va, lw, vc, rfl, hlv⟩ := hv.form
  obtain ⟨ua, lu, uc, rfl, hlu⟩ := hu.form
  generalize wordsOf pcs = zo at *
  generalize shapesOf pcs = so at *
  have HLV : Hid (lw = zo.length ∧ zo.length ≤ 56) := ⟨hlv, hlw.1⟩
  have HLU : Hid (lu = so.length ∧ so.length ≤ 8) := ⟨hlu, hlw.2⟩
  clear hpl hok hv hu hwl hsl hlw hlv hlu k2 z1 lx cx fx B1
  obtain ⟨lx, cx, fx⟩ := Kx.get
  go_wp2_with fail
  refine (words_any _ true L _ (HL.out.tr B2.out)).mono ?_; rintro e w3 ⟨⟨pcs3, v3, u3, rfl, hpl, hok, hv, hu⟩, k3⟩
  have hwl := words_len hok
  have hsl := shapes_len pcs3
  have hlw : (wordsOf pcs3).length ≤ 56 ∧ (shapesOf pcs3).length ≤ 8 := by omega
  have B3 : Hid (Below w.heap.size w w3) := kp_tr B2.out k3
  have z3 : 0 < w3.heap.size := Nat.lt_of_lt_of_le z2 k3.size
  replace Kx := Kx.tr k3
  have NV3 := Lib.hid (NV.out.tr k3)
  have NU3 := Lib.hid (NU.out.tr k3)
  have NW3 := Lib.hid (hv.sees z3 (by omega))
  have NX3 := Lib.hid (hu.sees z3 (by omega))
  have HSM3 := Lib.hid (words_small (good_of hok (by omega)))
  obtain ⟨qa, lw3, qc, rfl, hlv⟩ := hv.form
  obtain ⟨xa, lu3, xc, rfl, hlu⟩ := hu.form
  generalize wordsOf pcs3 = zp at *
  generalize shapesOf pcs3 = sp at *
  have HLV3 : Hid (lw3 = zp.length ∧ zp.length ≤ 56) := ⟨hlv, hlw.1⟩
  have HLU3 : Hid (lu3 = sp.length ∧ sp.length ≤ 8) := ⟨hlu, hlw.2⟩
  clear hpl hok hv hu hwl hsl hlw hlv hlu k3 z2 lx cx fx B2 NV NU
  obtain ⟨lx, cx, fx⟩ := Kx.get
  go_wp2_with (at_builtin; refine app_OwnNums _ rfl _ _ rfl w3.heap.size (.slice none 0 0) (.slice qa lw3 qc) [] zp rfl rfl (OwnNums.nil _ _) NW3.out ?c1 (Nat.le_refl _) ?c2)
  case c1 => have := HLV3.out; simp; omega
  case c2 =>
  intro v4 w4 o4 hg4 hat4
  have k4 : Below w3.heap.size w3 w4 := grown_below hg4
  obtain ⟨ta, lt4, tc, rfl, hlt4⟩ := o4.form
  replace o4 : OwnNums w4 w3.heap.size (.slice ta lt4 tc) zp := o4
  replace hlt4 : lt4 = zp.length := hlt4
  obtain rfl : lt4 = lw3 := by have := HLV3.out; omega
  have HO4 := Lib.hid o4
  have K4 := Lib.hid k4
  have HLT := Lib.hid hlt4
  have hl56 : lt4 ≤ 56 := by have := HLV3.out; omega
  clear hat4 lx cx fx hlt4 o4 hg4 k4
  go_upto_if 65 with (fail)
  go_cut [] (fun wx => ∃ zt, OwnNums wx w3.heap.size (.slice ta lt4 tc) zt ∧ zt.length = lt4 ∧ Small zt ∧ Below w3.heap.size w3 wx)
  case first => as_aux_lemma =>
    by_cases hz : lt4 = 0
    · subst hz
      go_wp2_with fail
      all_goals go_meet
      all_goals exact ⟨zp, HO4.out, HLT.out.symm, HSM3.out, K4.out⟩
    · obtain ⟨hk1, hk2⟩ := pickI_in wh (n := (lt4 : Int)) (by omega)
      obtain ⟨g5, c5, e5, hg0, hgl, hcell⟩ := HO4.out.block (by have := HLT.out; omega)
      simp at e5
      obtain ⟨rfl, hx5, rfl⟩ := e5
      clear hx5
      go_wp2_with fail
      refine (pick_any _ _ _ (by omega) (by omega) H2.out.1 H2.out.2).mono ?_; rintro e ww ⟨rfl, rfl⟩
      generalize pickI wh (lt4 : Int) = kI at *
      obtain ⟨k, rfl⟩ := Int.eq_ofNat_of_zero_le hk1
      obtain ⟨hxc, hxf⟩ := hcell k (by have := HLT.out; omega)
      have hklt : k < lt4 := by omega
      clear hcell
      go_wp2_with fail
      all_goals go_meet
      all_goals exact ⟨zp.set k x, HO4.out.set (k := k) x, by simp; exact HLT.out.symm, small_set HSM3.out HXX.out k, kp_set K4.out (by show w3.heap.size ≤ g5; omega) _⟩
  case rest =>
  obtain ⟨zt, ot, hlt, hst, k5⟩ := hcut
  have z5 : 0 < wc.heap.size := Nat.lt_of_lt_of_le z3 k5.size
  have B5 : Hid (Below w.heap.size w wc) := kp_tr B3.out k5
  have NA := Lib.hid (NV3.out.tr k5)
  have NB := Lib.hid (NW3.out.tr k5)
  have NC := Lib.hid (ot.sees z5 (by omega))
  have NUa := Lib.hid (NU3.out.tr k5)
  have NUb := Lib.hid (NX3.out.tr k5)
  have OUb := Lib.hid (ot.tr (Below.refl _ _))
  replace Kx := Kx.tr k5
  have HSMt := Lib.hid hst
  have HLt := Lib.hid hlt
  clear hlt hst ot k5 HO4 K4 HLT NV3 NU3 NW3 NX3 B3 z3 OUb
  obtain ⟨lx, cx, fx⟩ := Kx.get
  obtain ⟨m4, hm4⟩ : ∃ m : Nat, m = min n4 6 := ⟨_, rfl⟩
  have jM4 : (if (6 : Int) < (n4 : Int) then (6 : Int) else (n4 : Int)) = (m4 : Int) := by split <;> omega
  have hm40 : (0 : Int) ≤ (m4 : Int) := by omega
  have hm4c : (m4 : Int) ≤ (cap4 : Int) := by omega
  have HFEW : Hid (ShapesIn wc (.slice ad4 m4 cap4) (ss.take m4)) := (H4.out.tr B5.out).cut z5 (by omega) (by omega)
  have HFL : Hid ((ss.take m4).length = m4 ∧ m4 ≤ 6) := by have := HZ4.out; show _ ∧ _; simp; omega
  generalize ss.take m4 = few at *
  clear hm4
  obtain ⟨m0, hm0⟩ : ∃ m : Nat, m = min n0 30 := ⟨_, rfl⟩
  have jM0 : (if (30 : Int) < (n0 : Int) then (30 : Int) else (n0 : Int)) = (m0 : Int) := by split <;> omega
  have hm00 : (0 : Int) ≤ (m0 : Int) := by omega
  have hm0c : (m0 : Int) ≤ (cap0 : Int) := by omega
  have HM0 : Hid (m0 ≤ n0 ∧ m0 ≤ 30) := by show _ ∧ _; omega
  clear hm0
  obtain ⟨w5, hX⟩ : ∃ y, y = wc := ⟨_, rfl⟩
  subst hX
  go_upto_region 8 with (fail)
  go_cut [23, 86, 87, 88] (fun s v n i wx => s = .slice ad4 m4 cap4 ∧ v = .slice (some ⟨w5.heap.size, 0, none⟩) 4 4 ∧ n = .int .i64 4 ∧ i = .int .i64 0 ∧ wx = w5.alloc (.cells #[.slice ad0 m0 cap0, .slice va lw vc, .slice qa lt4 qc, .slice ta lt4 tc] 22))
  case first => as_aux_lemma =>
    go_wp2_with fail
    all_goals go_meet
    all_goals exact ⟨rfl, rfl, rfl, rfl, rfl⟩
  case rest =>
  obtain ⟨rfl, rfl, rfl, rfl, hwx⟩ := hcut
  obtain ⟨W8, hX⟩ : ∃ y, y = wc := ⟨_, rfl⟩
  subst hX
  have k8 : Below w5.heap.size w5 W8 := by rw [hwx]; exact (Below.refl _ _).alloc (Nat.le_refl _) _
  have hblk : Blk W8 w5.heap.size #[.slice ad0 m0 cap0, .slice va lw vc, .slice qa lt4 qc, .slice ta lt4 tc] 22 := by rw [hwx]; exact Blk.new _ _ _
  clear hwx
  have z8 : 0 < W8.heap.size := by have := hblk.lt; omega
  have B8 : Hid (Below w.heap.size w W8) := kp_tr B5.out k8
  have hr1 : RowOk W8 (.slice ad0 m0 cap0) := ⟨_, _, _, _, rfl, (H0.out.tr B8.out).cut z8 HM0.out.1 (by have := HM0.out.2; omega), small_take HZ0.out.2 _, by have := HZ0.out.1; have := HM0.out.1; simp; omega, by have := HM0.out.2; simp; omega⟩
  have hr2 : RowOk W8 (.slice va lw vc) := ⟨_, _, _, _, rfl, NA.out.tr k8, HSM.out, HLV.out.1, by have := HLV.out.2; omega⟩
  have hr3 : RowOk W8 (.slice qa lt4 qc) := ⟨_, _, _, _, rfl, NB.out.tr k8, HSM3.out, HLV3.out.1, by have := HLV3.out.2; omega⟩
  have hr4 : RowOk W8 (.slice ta lt4 tc) := ⟨_, _, _, _, rfl, NC.out.tr k8, HSMt.out, HLt.out.symm, by have := HLt.out; omega⟩
  have HROWS : Hid (∀ k, k < 4 → ∃ v, W8.cell? ⟨w5.heap.size, k, none⟩ = some v ∧ RowOk W8 v) := four (P := fun _ v => RowOk W8 v) (W := W8) (w := W8) hblk hr1 hr2 hr3 hr4
  clear hr1 hr2 hr3 hr4
  have NF8 := Lib.hid (HFEW.out.tr k8)
  have NU8 := Lib.hid (NUa.out.tr k8)
  have NV8 := Lib.hid (NUb.out.tr k8)
  replace Kx := Kx.tr k8
  have HB0 := Lib.hid hblk
  clear lx cx fx hblk k8 NA NB NC NUa NUb B5 z5 HFEW jM4 hm40 hm4c jM0 hm00 hm0c
  go_wp2_with fail
  go_loopw [88] (fun i wr => ∃ k : Nat, k ≤ 4 ∧ i = .int .i64 (k : Int) ∧ Hid (Below W8.heap.size W8 wr)) (fun i _ => 4 - (intOf i).toNat)
  case atStart => exact ⟨0, by omega, rfl, Below.refl _ _⟩
  case round => as_aux_lemma =>
    obtain ⟨k, hk4, rfl, hb⟩ := hrel
    by_cases hlt : k < 4
    · have hlti : (k : Int) < 4 := by omega
      obtain ⟨vk, hvk, hrow⟩ := HROWS.out k hlt
      replace hvk := cell_tr hb.out hvk
      replace hrow := hrow.tr hb.out
      obtain ⟨ad, len, cap, zs, rfl, hN, hS, hL0, hL60⟩ := hrow
      have HS := Lib.hid hS
      have HL0 := Lib.hid hL0
      have HL60 := Lib.hid hL60
      have HN := Lib.hid hN
      have zr : 0 < wr.heap.size := Nat.lt_of_lt_of_le z8 hb.out.size
      have hlen : len < 1000000000000 := by omega
      clear hS hL0 hL60 hN
      go_wp2_with fail
      refine (walk_in _ _ _ HN.out HS.out).mono ?_; rintro e w9 ⟨h9, k9⟩
      have z9 : 0 < w9.heap.size := Nat.lt_of_lt_of_le zr k9.size
      replace h9 : WalkedAs (wr.heap.size + 6) (newF zs) e w9 := h9
      obtain ⟨v9, rfl, o9⟩ := walked_out h9 z9 (by have := newF_len zs; have := HL60.out; omega)
      have O9 := Lib.hid o9
      have HN9 := Lib.hid (HN.out.tr k9)
      have B9 : Hid (Below W8.heap.size W8 w9) := kp_tr hb.out k9
      clear h9 o9 k9 hvk HN
      go_wp2_with fail
      refine (refwalk_in _ _ _ HN9.out HS.out (by have := HL60.out; omega)).mono ?_; rintro e w10 ⟨h10, k10⟩
      have z10 : 0 < w10.heap.size := Nat.lt_of_lt_of_le z9 k10.size
      obtain ⟨v10, rfl, o10⟩ := walked_out h10 z10 (by have := newF_len zs; have := HL60.out; omega)
      have O10 := Lib.hid o10
      have HN10 := Lib.hid (HN9.out.tr k10)
      have P10 := Lib.hid (O9.out.tr k10)
      have B10 : Hid (Below W8.heap.size W8 w10) := kp_tr B9.out k10
      generalize resC (newF zs) = cw at *
      clear h10 o10 k10 HN9 O9 B9 z9
      go_wp2_with fail
      refine (same_any _ _ (resL (newF zs)) (resL (newF zs)) _ P10.out O10.out).mono ?_; rintro e w11 ⟨rfl, k11⟩
      rw [decSelf]
      have z11 : 0 < w11.heap.size := Nat.lt_of_lt_of_le z10 k11.size
      have HN11 := Lib.hid (HN10.out.tr k11)
      have B11 : Hid (Below W8.heap.size W8 w11) := kp_tr B10.out k11
      have NF11 := Lib.hid (NF8.out.tr B11.out)
      have NU11 := Lib.hid (NU8.out.tr B11.out)
      have NV11 := Lib.hid (NV8.out.tr B11.out)
      have HFL8 : few.length ≤ 6 := by have := HFL.out; omega
      have HSO8 : so.length ≤ 8 := HLU.out.2
      have HSP8 : sp.length ≤ 8 := HLU3.out.2
      clear k11 HN10 P10 O10 B10 z10
      go_wp2_with (first
        | (at_builtin; refine app_shapes _ rfl _ _ rfl w11.heap.size (.slice none 0 0) (.slice xa lu3 xc) [] sp rfl rfl (OwnShapes.nil _ _) NV11.out ?c0 (Nat.le_refl _) ?c1))
      case c0 => first | omega | (simp; omega)
      case c1 =>
      intro v12 w12 o12 hg12 hat12
      have k12 : Below w11.heap.size w11 w12 := grown_below hg12
      have HO12 : Hid (OwnShapes w12 w11.heap.size v12 sp) := o12
      have K12 := Lib.hid k12
      have NF12 := Lib.hid (NF11.out.tr k12)
      have hs12 := k12.size
      clear o12 hg12 hat12 k12
      go_wp2_with (first
        | (at_builtin; refine app_shapes _ rfl _ _ rfl w11.heap.size v12 (.slice ad4 m4 cap4) sp few rfl rfl HO12.out NF12.out ?c0 hs12 ?c2))
      case c0 => first | omega | (simp; omega)
      case c2 =>
      intro v13 w13 o13 hg13 hat13
      have k13 : Below w11.heap.size w11 w13 := rows_own K12.out HO12.out hg13
      have z13 : 0 < w13.heap.size := Nat.lt_of_lt_of_le z11 k13.size
      obtain ⟨sa, sl, sc, rfl, hsl⟩ := o13.form
      have NS13 := Lib.hid (o13.sees z13 (by simp; omega))
      have NF13 := Lib.hid (NF11.out.tr k13)
      have NU13 := Lib.hid (NU11.out.tr k13)
      have NV13 := Lib.hid (NV11.out.tr k13)
      have HN13 := Lib.hid (HN11.out.tr k13)
      have B13 : Hid (Below W8.heap.size W8 w13) := kp_tr B11.out k13
      have hspf : (sp ++ few).length ≤ 60 := by simp; omega
      clear o13 hg13 hat13 k13 HO12 K12 NF12 NF11 NU11 NV11 HN11 B11 z11 hs12 hsl
      generalize sp ++ few = sf at *
      go_wp2_with fail
      obtain ⟨W14, hW14⟩ : ∃ y, y = w13.alloc (.cells #[.slice ad4 m4 cap4, .slice xa lu3 xc, .slice ua lu uc, .slice sa sl sc] 25) := ⟨_, rfl⟩
      rw [← hW14]
      have hblk : Blk W14 w13.heap.size #[.slice ad4 m4 cap4, .slice xa lu3 xc, .slice ua lu uc, .slice sa sl sc] 25 := by rw [hW14]; exact Blk.new _ _ _
      have k14 : Below w13.heap.size w13 W14 := by rw [hW14]; exact (Below.refl _ _).alloc (Nat.le_refl _) _
      clear hW14
      have z14 : 0 < W14.heap.size := Nat.lt_of_lt_of_le z13 k14.size
      have hs1 : ShpOk W14 (.slice ad4 m4 cap4) := ⟨_, _, _, _, rfl, NF13.out.tr k14, by omega⟩
      have hs2 : ShpOk W14 (.slice xa lu3 xc) := ⟨_, _, _, _, rfl, NV13.out.tr k14, by omega⟩
      have hs3 : ShpOk W14 (.slice ua lu uc) := ⟨_, _, _, _, rfl, NU13.out.tr k14, by omega⟩
      have hs4 : ShpOk W14 (.slice sa sl sc) := ⟨_, _, _, _, rfl, NS13.out.tr k14, hspf⟩
      have HSHP : Hid (∀ j, j < 4 → ∃ v, W14.cell? ⟨w13.heap.size, j, none⟩ = some v ∧ ShpOk W14 v) := four (P := fun _ v => ShpOk W14 v) (W := W14) (w := W14) hblk hs1 hs2 hs3 hs4
      have HN14 := Lib.hid (HN13.out.tr k14)
      have B14 : Hid (Below W8.heap.size W8 W14) := kp_tr B13.out k14
      have hb13 : w13.heap.size < W14.heap.size := hblk.lt
      generalize w13.heap.size = c14 at *
      clear hs1 hs2 hs3 hs4 hblk k14 NF13 NU13 NV13 NS13 HN13 B13 z13
      go_loopw [120] (fun i wr => ∃ j : Nat, j ≤ 4 ∧ i = .int .i64 (j : Int) ∧ Hid (Below W14.heap.size W14 wr)) (fun i _ => 4 - (intOf i).toNat)
      case atStart => exact ⟨0, by omega, rfl, Below.refl _ _⟩
      case round => as_aux_lemma =>
        obtain ⟨j, hj4, rfl, hb14⟩ := hrel
        by_cases hltj : j < 4
        · have hltji : (j : Int) < 4 := by omega
          obtain ⟨vj, hvj, hshp⟩ := HSHP.out j hltj
          replace hvj := cell_tr hb14.out hvj
          replace hshp := hshp.tr hb14.out
          obtain ⟨bd, ble, bca, ss2, rfl, hSS, hSSl⟩ := hshp
          have HSS := Lib.hid hSS
          have HSSl := Lib.hid hSSl
          have HN15 := Lib.hid (HN14.out.tr hb14.out)
          have z15 : 0 < wr.heap.size := Nat.lt_of_lt_of_le z14 hb14.out.size
          clear hSS hSSl
          go_wp2_with fail
          refine (walkold_in _ _ _ _ _ HN15.out HS.out HSS.out).mono ?_; rintro e w16 ⟨⟨B16, hB16, h16⟩, k16⟩
          have z16 : 0 < w16.heap.size := Nat.lt_of_lt_of_le z15 k16.size
          obtain ⟨v16, rfl, o16⟩ := walked_out h16 z16 (by have := oldF_len zs ss2; have := HL60.out; omega)
          have O16 := Lib.hid o16
          have HN16 := Lib.hid (HN15.out.tr k16)
          have HSS16 := Lib.hid (HSS.out.tr k16)
          have B16' : Hid (Below W14.heap.size W14 w16) := kp_tr hb14.out k16
          clear h16 o16 k16 hB16 hvj HN15 HSS z15
          go_wp2_with fail
          refine (refwalkold_in _ _ _ _ _ HN16.out HS.out HSS16.out (by have := HL60.out; omega) (by have := HSSl.out; omega)).mono ?_; rintro e w17 ⟨h17, k17⟩
          have z17 : 0 < w17.heap.size := Nat.lt_of_lt_of_le z16 k17.size
          obtain ⟨v17, rfl, o17⟩ := walked_out h17 z17 (by have := oldF_len zs ss2; have := HL60.out; omega)
          have O17 := Lib.hid o17
          have P17 := Lib.hid (O16.out.tr k17)
          have B17 : Hid (Below W14.heap.size W14 w17) := kp_tr B16'.out k17
          have HOL : Hid ((resL (oldF zs ss2)).length ≤ 60) := by show _ ≤ _; have := oldF_len zs ss2; have := HL60.out; omega
          generalize resC (oldF zs ss2) = co at *
          generalize resL (oldF zs ss2) = lo at *
          clear h17 o17 k17 HN16 HSS16 O16 B16' z16
          go_wp2_with fail
          refine (kinds_any _ _ _ _ _ _ hlen O17.out).mono ?_; rintro e w18 ⟨h18, k18⟩
          have z18 : 0 < w18.heap.size := Nat.lt_of_lt_of_le z17 k18.size
          have hkl : (kinL (kindsF len lo [])).length ≤ len := kindsF_le (Nat.zero_le _)
          have HKL := Lib.hid hkl
          obtain ⟨v18, rfl, o18⟩ := kinds_out h18 z18 (by omega)
          have Q18 := Lib.hid o18
          have O18 := Lib.hid (O17.out.tr k18)
          have P18 := Lib.hid (P17.out.tr k18)
          have B18 : Hid (Below W14.heap.size W14 w18) := kp_tr B17.out k18
          clear h18 o18 k18 O17 P17 B17 z17 hkl
          go_wp2_with fail
          refine (kindsref_any _ _ _ _ _ _ hlen O18.out (by have := HOL.out; omega)).mono ?_; rintro e w19 ⟨h19, k19⟩
          have z19 : 0 < w19.heap.size := Nat.lt_of_lt_of_le z18 k19.size
          rw [kindsR_eq] at h19
          obtain ⟨v19, rfl, o19⟩ := kinds_out h19 z19 (by have := HKL.out; omega)
          have R19 := Lib.hid o19
          have Q19 := Lib.hid (Q18.out.tr k19)
          have O19 := Lib.hid (O18.out.tr k19)
          have P19 := Lib.hid (P18.out.tr k19)
          have B19 : Hid (Below W14.heap.size W14 w19) := kp_tr B18.out k19
          generalize kinC (kindsF len lo []) = ck at *
          generalize kinL (kindsF len lo []) = lk at *
          clear h19 o19 k19 Q18 O18 P18 B18 z18 HKL
          go_wp2_with fail
          refine (same_any _ _ lo lo _ P19.out O19.out).mono ?_; rintro e w20 ⟨rfl, k20⟩
          rw [decSelf]
          have R20 := Lib.hid (R19.out.tr k20)
          have Q20 := Lib.hid (Q19.out.tr k20)
          have B20 : Hid (Below W14.heap.size W14 w20) := kp_tr B19.out k20
          clear k20 R19 Q19 O19 P19 B19 z19
          go_wp2_with fail
          refine (ints_any _ _ lk lk _ Q20.out R20.out).mono ?_; rintro e w21 ⟨rfl, k21⟩
          rw [decSelf]
          have B21 : Hid (Below W14.heap.size W14 w21) := kp_tr B20.out k21
          clear k21 R20 Q20 B20
          go_wp2_with fail
          exact ⟨⟨j + 1, by omega, by go_num, B21.out⟩, by simp [intOf]; omega⟩
        · obtain rfl : j = 4 := by omega
          have BX : Hid (Below W8.heap.size W8 wr) := kp_tr B14.out hb14.out
          have HNX := Lib.hid (HN14.out.tr hb14.out)
          have zX : 0 < wr.heap.size := Nat.lt_of_lt_of_le z14 hb14.out.size
          have HODD : Hid (∀ m, m ≤ n5 → m < 1000000 → ObjsIn wr (.slice ad5 m cap5) (os.take m)) := fun m h1 h2 => (H5.out.tr (kp_tr B8.out BX.out)).cut zX h1 (by omega)
          clear HN14 B14 hb14 hb HSHP z14 hb13 hltj
          obtain ⟨m5, hm5⟩ : ∃ m : Nat, m = min n5 6 := ⟨_, rfl⟩
          have jM5 : (if (6 : Int) < (n5 : Int) then (6 : Int) else (n5 : Int)) = (m5 : Int) := by split <;> omega
          have hm50 : (0 : Int) ≤ (m5 : Int) := by omega
          have hm5c : (m5 : Int) ≤ (cap5 : Int) := by omega
          have HM5 : Hid (m5 ≤ n5 ∧ m5 ≤ 6) := by show _ ∧ _; omega
          clear hm5
          have NOD := Lib.hid (HODD.out m5 HM5.out.1 (by have := HM5.out.2; omega))
          have NOL : Hid ((os.take m5).length ≤ 6) := by show _ ≤ _; have := HM5.out.2; simp; omega
          go_wp2_with fail
          refine (kinds_any _ _ _ _ _ _ hlen NOD.out).mono ?_; rintro e w18 ⟨h18, k18⟩
          have z18 : 0 < w18.heap.size := Nat.lt_of_lt_of_le zX k18.size
          generalize os.take m5 = oo at *
          have hkl : (kinL (kindsF len oo [])).length ≤ len := kindsF_le (Nat.zero_le _)
          have HKL := Lib.hid hkl
          obtain ⟨v18, rfl, o18⟩ := kinds_out h18 z18 (by omega)
          have Q18 := Lib.hid o18
          have O18 := Lib.hid (NOD.out.tr k18)
          have B18 : Hid (Below W8.heap.size W8 w18) := kp_tr BX.out k18
          clear h18 o18 k18 hkl NOD HODD
          go_wp2_with fail
          refine (kindsref_any _ _ _ _ _ _ hlen O18.out (by have := NOL.out; omega)).mono ?_; rintro e w19 ⟨h19, k19⟩
          have z19 : 0 < w19.heap.size := Nat.lt_of_lt_of_le z18 k19.size
          rw [kindsR_eq] at h19
          obtain ⟨v19, rfl, o19⟩ := kinds_out h19 z19 (by have := HKL.out; omega)
          have R19 := Lib.hid o19
          have Q19 := Lib.hid (Q18.out.tr k19)
          have B19 : Hid (Below W8.heap.size W8 w19) := kp_tr B18.out k19
          generalize kinC (kindsF len oo []) = ck at *
          generalize kinL (kindsF len oo []) = lk at *
          clear h19 o19 k19 Q18 O18 B18 z18 HKL
          go_wp2_with fail
          refine (ints_any _ _ lk lk _ Q19.out R19.out).mono ?_; rintro e w21 ⟨rfl, k21⟩
          rw [decSelf]
          have B21 : Hid (Below W8.heap.size W8 w21) := kp_tr B19.out k21
          clear k21 R19 Q19 B19
          go_wp2_with fail
          exact ⟨⟨k + 1, by omega, by go_num, B21.out⟩, by simp [intOf]; omega⟩
    · have hk4e : (k : Int) = 4 := by omega
      rw [hk4e]
      have BY : Hid (Below w.heap.size w wr) := kp_tr B8.out hb.out
      have KY := Kx.tr hb.out
      obtain ⟨ly, cy, fy⟩ := KY.get
      have cs0 : wr.cell? ⟨w.heap.size, 0, none⟩ = some (.int .i64 sz) := cy 0
      have cs1 : wr.cell? ⟨w.heap.size, 1, none⟩ = some (.int .i64 pt) := cy 1
      have zY : 0 < wr.heap.size := Nat.lt_of_lt_of_le z8 hb.out.size
      clear hb HROWS NF8 NU8 NV8 HB0 cy fy KY
      obtain ⟨M, hM⟩ : ∃ M : Nat, M = min n7 9 := ⟨_, rfl⟩
      obtain ⟨Q, hQ⟩ : ∃ Q : Nat, Q = M + 1 := ⟨_, rfl⟩
      have jM : (if (9 : Int) < (n7 : Int) then (9 : Int) else (n7 : Int)) = (M : Int) := by split <;> omega
      have jQ : IntKind.i64.wrap ((M : Int) + 1) = (Q : Int) := by rw [wr_i64 _ (by omega)]; omega
      have hq1 : (1 : Int) ≤ (Q : Int) := by omega
      have hq2 : (Q : Int) < 1000000 := by omega
      have hM9 : M ≤ 9 ∧ M ≤ n7 := by omega
      have HM9 := Lib.hid hM9
      clear hQ hM hM9
      go_upto_region 30 with (fail)
      go_cut [211, 212, 213] (fun v n i wx => ∃ g pk, v = .slice (some ⟨g, 0, none⟩) 2 2 ∧ n = .int .i64 2 ∧ i = .int .i64 0 ∧ Blk wx g #[.int .i64 sz, .int .i64 pt, .int .i64 (M : Int), .int .i64 pk] 28 ∧ i64In pk ∧ Below wr.heap.size wr wx)
      case first => as_aux_lemma =>
        have h62 : -9223372036854775808 ≤ pt ∧ pt < 9223372036854775808 := H6.out.2
        have hpk : i64In (pickI pt (Q : Int)) := by have := pickI_in pt (n := (Q : Int)) (by omega); unfold i64In; omega
        clear H0 HL H2 HXX H4 H5 H6 H7 HZ0 HZ4 HZ5 HZ7 BY B8 HFL HLU HLU3 HLV HLV3 HSM HSM3 HSMt HLt
        go_region_held3 (fun w' => w'.cell? ⟨w.heap.size, 0, none⟩ = some (.int .i64 sz) ∧ w'.cell? ⟨w.heap.size, 1, none⟩ = some (.int .i64 pt))
          (first | go_keep | (refine s2_tr (W := wr) ?_ ⟨cs0, cs1⟩; (repeat (first | with_reducible exact Below.refl _ _ | with_reducible refine kp_alloc ?_ _ | with_reducible refine kp_drew ?_ | with_reducible refine kp_set ?_ (by first | omega | (simp; done) | (simp; omega)) _ | with_reducible refine kp_tr ?_ (by with_reducible assumption)))))
          (first
            | (go_at_call 11; refine (pick_any pt (Q : Int) _ hq1 hq2 h62.1 h62.2).mono ?_; rintro e ww ⟨rfl, rfl⟩))
        all_goals (go_wp2_with fail)
        all_goals go_meet
        all_goals refine ⟨wr.heap.size, pickI pt (Q : Int), rfl, rfl, rfl, ?_, hpk, ?_⟩
        all_goals first | (repeat (first | with_reducible assumption | exact Blk.mk rfl | exact Blk.mk (by simp) | refine Blk.drew ?_ | refine Blk.alloc ?_ _ | refine Blk.tr ?_ (by with_reducible assumption))); done | (repeat (first | with_reducible exact Below.refl _ _ | with_reducible refine kp_alloc ?_ _ | with_reducible refine kp_drew ?_ | with_reducible refine kp_set ?_ (by first | omega | (simp; done) | (simp; omega)) _ | with_reducible refine kp_tr ?_ (by with_reducible assumption)))
      case rest =>
      obtain ⟨g, pk, rfl, rfl, rfl, KG, hpk, kg⟩ := hcut
      obtain ⟨W3, hX⟩ : ∃ y, y = wc := ⟨_, rfl⟩
      subst hX
      have z3' : 0 < W3.heap.size := Nat.lt_of_lt_of_le zY kg.size
      have BZ : Hid (Below w.heap.size w W3) := kp_tr BY.out kg
      have N7 : Hid (NumsIn W3 (.slice ad7 M cap7) (z7.take M)) := (H7.out.tr BZ.out).cut z3' HM9.out.2 (by have := HM9.out.1; omega)
      have S7 : Hid (Small (z7.take M)) := small_take HZ7.out.2 _
      have L7 : Hid ((z7.take M).length < 1000000) := by show _ < _; have := HM9.out.1; simp; omega
      obtain ⟨lG, cG, fG⟩ := KG.get
      have HSH2 : Hid (∀ j, j < 2 → ∃ a b, W3.cell? ⟨g, j * 2, none⟩ = some (.int .i64 a) ∧ W3.cell? ⟨g, j * 2 + 1, none⟩ = some (.int .i64 b) ∧ i64In a ∧ i64In b) := fun j hj => by
        match j, hj with
        | 0, _ => exact ⟨sz, pt, cG 0, cG 1, H6.out.1, H6.out.2⟩
        | 1, _ => exact ⟨(M : Int), pk, cG 2, cG 3, by have := HM9.out.1; unfold i64In; omega, hpk⟩
      clear kg KG cG fG hpk zY BY cs0 cs1 jQ hq1 hq2
      generalize z7.take M = y7 at *
      have hM := HM9.out
      obtain ⟨hM1, hM2⟩ := hM
      go_wp2_with fail
      go_loopw [213] (fun i wr => ∃ j : Nat, j ≤ 2 ∧ i = .int .i64 (j : Int) ∧ Hid (Below W3.heap.size W3 wr)) (fun i _ => 2 - (intOf i).toNat)
      case atStart => exact ⟨0, by omega, rfl, Below.refl _ _⟩
      case round => as_aux_lemma =>
        obtain ⟨j, hj2, rfl, hb⟩ := hrel
        by_cases hlt : j < 2
        · have hlti : (j : Int) < 2 := by omega
          obtain ⟨a, b, c0, c1, ha, hb2⟩ := HSH2.out j hlt
          replace c0 := cell_tr hb.out c0
          replace c1 := cell_tr hb.out c1
          have HA := Lib.hid (And.intro ha hb2)
          have hgl : g < wr.heap.size := Nat.lt_of_lt_of_le lG hb.out.size
          have hgn : g ≠ wr.heap.size := by omega
          clear ha hb2
          obtain ⟨cL, lL, hLO⟩ := lay_out a b y7 L7.out
          have HLO := Lib.hid hLO
          clear hLO
          go_upto_region 33 with (fail)
          obtain ⟨wb, hwb⟩ : ∃ y, y = wr.alloc (.cells #[.int .i64 a, .int .i64 b] 28) := ⟨_, rfl⟩
          rw [← hwb]
          have KB : Blk wb wr.heap.size #[.int .i64 a, .int .i64 b] 28 := by rw [hwb]; exact Blk.new _ _ _
          have kb : Below wr.heap.size wr wb := by rw [hwb]; exact (Below.refl _ _).alloc (Nat.le_refl _) _
          have BB : Hid (Below W3.heap.size W3 wb) := kp_tr hb.out kb
          have NB := Lib.hid (N7.out.tr BB.out)
          have zb : 0 < wb.heap.size := Nat.lt_of_lt_of_le z3' BB.out.size
          obtain ⟨lB, cB, fB⟩ := KB.get
          have cb0 : wb.cell? ⟨wr.heap.size, 0, none⟩ = some (.int .i64 a) := cB 0
          have cb1 : wb.cell? ⟨wr.heap.size, 1, none⟩ = some (.int .i64 b) := cB 1
          clear hwb KB kb c0 c1 hb cB fB hgl hgn
          generalize wr.heap.size = nb at *
          have S7o := S7.out
          have hm0 : (0 : Int) ≤ (M : Int) := by omega
          have hmc : (M : Int) ≤ (cap7 : Int) := by omega
          have ha1 : -9223372036854775808 ≤ a ∧ a < 9223372036854775808 := HA.out.1
          have hb1 : -9223372036854775808 ≤ b ∧ b < 9223372036854775808 := HA.out.2
          go_cut [46, 47] from 214 to 246 (fun v e wx => e = .int .i64 cL ∧ NumsIn wx v lL ∧ Below wb.heap.size wb wx)
          case first => as_aux_lemma =>
            clear H0 HL H2 HXX H4 H5 H6 H7 HZ0 HZ4 HZ5 HZ7 B8 HFL HLU HLU3 HLV HLV3 HSM HSM3 HSMt HLt HSH2 BZ
            go_region_held3 (fun w' => w'.cell? ⟨nb, 0, none⟩ = some (.int .i64 a) ∧ w'.cell? ⟨nb, 1, none⟩ = some (.int .i64 b))
              (first | go_keep | (refine s2_tr (W := wb) ?_ ⟨cb0, cb1⟩; (repeat (first | with_reducible exact Below.refl _ _ | with_reducible refine kp_alloc ?_ _ | with_reducible refine kp_drew ?_ | with_reducible refine kp_set ?_ (by first | omega | (simp; done) | (simp; omega)) _ | with_reducible refine kp_tr ?_ (by with_reducible assumption)))))
              (first
                | (go_at_call 20; refine (lay_any a b _ y7 _ (NB.out.tr ?_) S7o ha1 hb1).mono ?_; (repeat (first | with_reducible exact Below.refl _ _ | with_reducible refine kp_alloc ?_ _ | with_reducible refine kp_drew ?_ | with_reducible refine kp_set ?_ (by first | omega | (simp; done) | (simp; omega)) _ | with_reducible refine kp_tr ?_ (by with_reducible assumption))); rintro e w8 ⟨h8, k8⟩; obtain ⟨v8, rfl, n8⟩ := HLO.out _ _ _ (Nat.lt_of_lt_of_le zb (Nat.le_trans (Nat.le_refl _) k8.size)) h8))
            all_goals (go_wp2_with fail)
            all_goals go_meet
            all_goals refine ⟨rfl, ?_, ?_⟩
            all_goals first | exact n8 | (repeat (first | with_reducible exact Below.refl _ _ | with_reducible refine kp_alloc ?_ _ | with_reducible refine kp_drew ?_ | with_reducible refine kp_set ?_ (by first | omega | (simp; done) | (simp; omega)) _ | with_reducible refine kp_tr ?_ (by with_reducible assumption)))
          case rest =>
          obtain ⟨rfl, n33, k33⟩ := hcut
          obtain ⟨wd, hX⟩ : ∃ y, y = wc := ⟨_, rfl⟩
          subst hX
          have N33 := Lib.hid n33
          have BD : Hid (Below W3.heap.size W3 wd) := kp_tr BB.out k33
          have ND := Lib.hid (NB.out.tr k33)
          have zd : 0 < wd.heap.size := Nat.lt_of_lt_of_le zb k33.size
          have cd0 := cell_tr k33 cb0
          have cd1 := cell_tr k33 cb1
          have ld : nb < wd.heap.size := Nat.lt_of_lt_of_le lB k33.size
          clear n33 k33 cb0 cb1 lB NB BB zb
          go_upto_region 34 with (fail)
          go_cut [48, 49] from 214 to 246 (fun v e wx => e = .int .i64 cL ∧ NumsIn wx v lL ∧ Below wd.heap.size wd wx)
          case first => as_aux_lemma =>
            clear H0 HL H2 HXX H4 H5 H6 H7 HZ0 HZ4 HZ5 HZ7 B8 HFL HLU HLU3 HLV HLV3 HSM HSM3 HSMt HLt HSH2 BZ
            go_region_held3 (fun w' => w'.cell? ⟨nb, 0, none⟩ = some (.int .i64 a) ∧ w'.cell? ⟨nb, 1, none⟩ = some (.int .i64 b))
              (first | go_keep | (refine s2_tr (W := wd) ?_ ⟨cd0, cd1⟩; (repeat (first | with_reducible exact Below.refl _ _ | with_reducible refine kp_alloc ?_ _ | with_reducible refine kp_drew ?_ | with_reducible refine kp_set ?_ (by first | omega | (simp; done) | (simp; omega)) _ | with_reducible refine kp_tr ?_ (by with_reducible assumption)))))
              (first
                | (go_at_call 21; refine (layref_any a b _ y7 _ (ND.out.tr ?_) S7o ha1 hb1).mono ?_; (repeat (first | with_reducible exact Below.refl _ _ | with_reducible refine kp_alloc ?_ _ | with_reducible refine kp_drew ?_ | with_reducible refine kp_set ?_ (by first | omega | (simp; done) | (simp; omega)) _ | with_reducible refine kp_tr ?_ (by with_reducible assumption))); rintro e w8 ⟨h8, k8⟩; obtain ⟨v8, rfl, n8⟩ := HLO.out _ _ _ (Nat.lt_of_lt_of_le zd (Nat.le_trans (Nat.le_refl _) k8.size)) h8))
            all_goals (go_wp2_with fail)
            all_goals go_meet
            all_goals refine ⟨rfl, ?_, ?_⟩
            all_goals first | exact n8 | (repeat (first | with_reducible exact Below.refl _ _ | with_reducible refine kp_alloc ?_ _ | with_reducible refine kp_drew ?_ | with_reducible refine kp_set ?_ (by first | omega | (simp; done) | (simp; omega)) _ | with_reducible refine kp_tr ?_ (by with_reducible assumption)))
          case rest =>
          obtain ⟨rfl, n34, k34⟩ := hcut
          obtain ⟨we, hX⟩ : ∃ y, y = wc := ⟨_, rfl⟩
          subst hX
          have N34 := Lib.hid n34
          have M34 := Lib.hid (N33.out.tr k34)
          have BE : Hid (Below W3.heap.size W3 we) := kp_tr BD.out k34
          clear n34 k34 cd0 cd1 ld ND BD zd N33
          go_wp2_with fail
          refine (nums_any _ _ lL lL _ M34.out N34.out).mono ?_; rintro e w21 ⟨rfl, k21⟩
          rw [decSelf]
          have B21 : Hid (Below W3.heap.size W3 w21) := kp_tr BE.out k21
          clear k21 M34 N34 BE
          go_wp2_with fail
          exact ⟨⟨j + 1, by omega, by go_num, B21.out⟩, by simp [intOf]; omega⟩
        · obtain rfl : j = 2 := by omega
          go_wp2_with fail
          go_ret
          exact ⟨rfl, kp_tr BZ.out hb.out⟩
end Go.Proofs.Ytiboinckdjiniaa.ob
