/- ObjectsParts: the walk. No conditions. -/
import Derived.Test.YtiboinckdjiniaaSx
import Derived.Deep.DeepCutAuto
import Derived.Deep.CutRange
namespace Go.Proofs.Ytiboinckdjiniaa.ob
open Go.RowKit Go.Proofs.Ytiboinckdjiniaa.hd
set_option linter.unusedVariables false
set_option linter.unusedSimpArgs false
theorem NumsIn.rest {W : World} {g n cap : Nat} {zs : List Int} (h : NumsIn W (.slice (some ⟨g, 0, none⟩) n cap) zs) (h0 : 0 < n) {k : Nat} (hk : k ≤ n) : NumsIn W (.slice (some ⟨g, k, none⟩) (n - k) (cap - k)) (zs.drop k) := by
  obtain ⟨ad', b, off, cap', e, ⟨h1, h2⟩, h3, h4, h5, h6⟩ := h
  simp at e
  obtain ⟨rfl, rfl, rfl⟩ := e
  have := h1 h0
  simp at this
  obtain ⟨rfl, rfl⟩ := this
  have hl : (zs.drop k).length = zs.length - k := by simp
  refine ⟨some ⟨g, k, none⟩, g, k, cap - k, by rw [hl], ⟨fun _ => rfl, fun e => by cases e⟩, by omega, by omega, h5, words_of fun i hi => ?_⟩
  rw [hl] at hi
  have := h6.at (k + i) (by omega)
  rw [Nat.zero_add] at this
  rw [this]
  simp [List.getD]
theorem obs_pos (l : List Pc) (hg : Good l) (i : Nat) (hi : i < l.length) : (obD (obsAt 0 l) i).pos = (posOf l i : Int) := by
  rw [obs_take l hg i hi]; rfl
theorem nF_succ (l : List Pc) (k i : Nat) : nF l k (i + 1) = if posOf l i = k then (i : Int) else nF l k i := rfl
theorem nF_in (l : List Pc) (k : Nat) : ∀ i, -1 ≤ nF l k i ∧ nF l k i < (i : Int) + 1
  | 0 => by simp [nF]
  | i + 1 => by
    have := nF_in l k i
    unfold nF
    split <;> omega
theorem own_nil_or {W : World} {B : Nat} {va : Option Addr} {l c : Nat} {zs : List Int} (h : OwnNums W B (.slice va l c) zs) : (va = none ∧ l = 0 ∧ c = 0) ∨ ∃ g, va = some ⟨g, 0, none⟩ := by
  rcases h.2 with ⟨h0, _⟩ | ⟨g, cap, cur, h0, _⟩
  · simp at h0; exact .inl h0
  · simp at h0; exact .inr ⟨g, h0.1⟩
theorem take_snoc (l : List Ob) (k q : Nat) (hq : q < l.length) : (l.take q).map (shiftO k) ++ [shiftO k (obD l q)] = (l.take (q + 1)).map (shiftO k) := by
  rw [List.take_add_one, List.map_append]; congr 1; simp [obD, List.getD, hq]
/-- Behind the walk of the words that follow. -/
def RestPost (W wx : World) (b : List Pc) (v e : Value) : Prop := e = .int .i64 0 ∧ ObsAt wx (W.heap.size + 6) v (obsAt 0 b) ∧ Below W.heap.size W wx
set_option maxRecDepth 100000 in
set_option maxHeartbeats 16000000 in
theorem parts_walk_law (v0 : Value) (L : List Rw) (at' : Int) (w : World) (hL : RawsIn w v0 L) (h3 : i64In at') :
    Calls Try.prog 6 #[v0, .int .i64 at'] w fun e w' => e = .returned (.bool true) ∧ Below w.heap.size w w' := by
  have HL := Lib.hid hL
  have H3 := Lib.hid h3
  clear hL h3
  go_enter Try.func6, Try.ntmps6
  go_wp2_with fail
  refine (awake_any2 _).mono ?_; rintro e w1 ⟨rfl, k1, z1⟩
  have B1 := Lib.hid k1
  clear k1
  go_wp2_with fail
  refine (words_any _ false L _ (HL.out.tr B1.out)).mono ?_; rintro e w2 ⟨⟨pcs, v, u, rfl, hpl, hok, hv, hu⟩, k2⟩
  have hg := good_of hok (by omega)
  have hnw := news_of hok rfl
  have hwl := words_len hok
  have hlw : (wordsOf pcs).length ≤ 56 ∧ pcs.length ≤ 8 := by omega
  have B2 : Hid (Below w.heap.size w w2) := kp_tr B1.out k2
  have z2 : 0 < w2.heap.size := Nat.lt_of_lt_of_le z1 k2.size
  have HG := Lib.hid hg
  have HNW := Lib.hid hnw
  have HLW := Lib.hid hlw
  have OV := Lib.hid (OwnNums.lift hv (Nat.zero_le _))
  have NV := Lib.hid (hv.sees z2 (by omega))
  obtain ⟨va, lw, vc, rfl, hlv⟩ := hv.form
  have HLV := Lib.hid hlv
  have HSM := Lib.hid (words_small hg)
  have HNA : Hid (newF (wordsOf pcs) = .ok (obsAt 0 pcs) 0) := new_all hg hnw
  have HCC : Hid (∀ k, k ≤ (wordsOf pcs).length → CutCase pcs k) := fun k hk => cut_case HG.out HNW.out hk
  clear hok hpl hlw hwl hlv hv hu hg hnw k2
  go_wp2_with fail
  refine (walk_in _ _ _ NV.out HSM.out).mono ?_; rintro e w3 ⟨h3, k3⟩
  replace h3 : WalkedAs (w2.heap.size + 6) (newF (wordsOf pcs)) e w3 := h3
  rw [HNA.out] at h3
  obtain ⟨v3, rfl, o3⟩ := h3
  obtain ⟨v3a, v3c, rfl⟩ := obs_form o3
  rw [obsAt_len] at *
  generalize hm3 : pcs.length = m at *
  have HM := Lib.hid hm3
  have z3 : 0 < w3.heap.size := Nat.lt_of_lt_of_le z2 k3.size
  have HO3 := Lib.hid o3
  have NV3 := Lib.hid (NV.out.tr k3)
  have OV3 := Lib.hid (OV.out.tr k3)
  have B3 : Hid (Below w.heap.size w w3) := kp_tr B2.out k3
  clear o3 k3 NV B2 z2 hm3 OV
  have hl56 : lw ≤ 56 := by have := HLV.out; have := HLW.out; omega
  have hm8 : m ≤ 8 := HLW.out.2
  obtain ⟨hk1, hk2⟩ := pickI_in at' (n := (lw : Int) + 1) (by omega)
  go_wp2_with fail
  refine (pick_any _ _ _ (by omega) (by omega) H3.out.1 H3.out.2).mono ?_; rintro e ww ⟨rfl, rfl⟩
  generalize pickI at' ((lw : Int) + 1) = kI at *
  obtain ⟨k, rfl⟩ := Int.eq_ofNat_of_zero_le hk1
  have hkl : k ≤ lw := by omega
  have hcc := HCC.out k (by have := HLV.out; omega)
  have NP3 := Lib.hid (NV3.out.part hkl)
  have hlen := NV3.out.len
  have i1 : k ≤ vc := by omega
  have i2 : (k : Int) ≤ (vc : Int) := by omega
  have HSMP : Hid (Small ((wordsOf pcs).take k)) := fun i => by
    have := HSM.out i
    simp only [List.getD, List.getElem?_take] at this ⊢
    split
    · exact this
    · simp
  have HVC : Hid (lw ≤ vc ∧ vc < 9223372036854775808) := ⟨hlen.2.1, hlen.2.2⟩
  clear hlen
  go_wp2_with fail
  refine (walk_in _ _ _ NP3.out HSMP.out).mono ?_; rintro e w4 ⟨h4, k4⟩
  replace h4 : WalkedAs (w3.heap.size + 6) (newF ((wordsOf pcs).take k)) e w4 := h4
  have B4 : Hid (Below w.heap.size w w4) := kp_tr B3.out k4
  have HO4 := Lib.hid (obs_tr HO3.out k4)
  have NV4 := Lib.hid (NV3.out.tr k4)
  have OV4 := Lib.hid (OV3.out.tr k4)
  have z4 : 0 < w4.heap.size := Nat.lt_of_lt_of_le z3 k4.size
  clear k4 NV3 OV3 HO3 B3 z3 NP3
  rcases hcc with ⟨a, b, hab, hka, hnf⟩ | ⟨⟨t, hF⟩, hnf, hkw⟩
  · have HN5 : Hid (nF pcs k m = if a.length < m then (a.length : Int) else -1) := by show _ = _; rw [← HM.out]; exact hnf
    have HAB := Lib.hid hab
    have HKA := Lib.hid hka
    have hga : Good a := good_left (hab ▸ HG.out)
    have hgb : Good b := good_right (hab ▸ HG.out)
    have hna : ∀ c ∈ a, c.g = false := fun c hc => HNW.out c (by rw [hab]; exact List.mem_append_left _ hc)
    have hnb : ∀ c ∈ b, c.g = false := fun c hc => HNW.out c (by rw [hab]; exact List.mem_append_right _ hc)
    have hta : (wordsOf pcs).take k = wordsOf a := by rw [hab, hka]; exact (cut_between a b).1
    have htb : (wordsOf pcs).drop k = wordsOf b := by rw [hab, hka]; exact (cut_between a b).2
    rw [hta, new_all hga hna] at h4
    obtain ⟨v4, rfl, o4⟩ := h4
    obtain ⟨v4a, v4c, rfl⟩ := obs_form o4
    rw [obsAt_len] at *
    have HOA := Lib.hid o4
    have HTB := Lib.hid htb
    have HNB := Lib.hid (new_all hgb hnb)
    have HSB : Hid (Small (wordsOf b)) := words_small hgb
    have hlb : (wordsOf b).length = lw - k := by rw [← htb]; have := HLV.out; simp; omega
    have hmab : m = a.length + b.length := by have := HM.out; rw [hab] at this; simp at this; omega
    have hbw := len_words (l := b)
    have hnn : Hid ((k = lw ∧ a.length = m) ∨ (k < lw ∧ nF pcs k m = a.length)) := by
      show _ ∨ _
      rcases Nat.lt_or_ge k lw with h | h
      · refine .inr ⟨h, ?_⟩
        rw [HN5.out, if_pos]
        rcases Nat.eq_zero_or_pos b.length with h0 | h0
        · have : b = [] := List.eq_nil_of_length_eq_zero h0
          rw [this] at hlb; simp [wordsOf] at hlb; omega
        · omega
      · exact .inl ⟨by omega, by omega⟩
    have HLB := Lib.hid hlb
    have HMAB := Lib.hid hmab
    have HGB := Lib.hid hgb
    have HEQ : Hid (obsAt 0 a ++ (obsAt 0 b).map (shiftO k) = obsAt 0 pcs) := by
      show _ = _
      rw [obs_shift, hab, obsAt_app _ _ hga, hka]
    generalize hal : a.length = al at *
    have HAL := Lib.hid hal
    clear hab hka hnf hga hgb hna hnb hta htb o4 hlb hmab hbw hal
    go_wp2_with fail
    go_loopw [14, 13] (fun i n wr => ∃ q : Nat, q ≤ m ∧ i = .int .i64 (q : Int) ∧ n = .int .i64 (nF pcs k q) ∧ Hid (Below w4.heap.size w4 wr)) (fun i _ _ => m - (intOf i).toNat)
    case atStart => exact ⟨0, Nat.zero_le _, rfl, rfl, Below.refl _ _⟩
    case round =>
      obtain ⟨q, hq, rfl, rfl, hb⟩ := hrel
      by_cases hlt : q < m
      · have hlti : (q : Int) < (m : Int) := by omega
        have ho := obs_tr HO4.out hb.out
        obtain ⟨g3, c3, he3, hgB, hgl, hca⟩ := obs_at ho (by rw [obsAt_len]; have := HM.out; omega)
        simp at he3
        obtain ⟨rfl, hmx, rfl⟩ := he3
        clear hmx
        obtain ⟨y0, _⟩ := hca.at q (by rw [obsAt_len]; have := HM.out; omega)
        rw [obs_pos _ HG.out q (by have := HM.out; omega), Nat.zero_add] at y0
        have HNS : Hid (nF pcs k (q + 1) = if posOf pcs q = k then (q : Int) else nF pcs k q) := nF_succ _ _ _
        clear hca ho
        generalize posOf pcs q = P at *
        by_cases hpk : P = k
        · have hpb : ((P : Int) == (k : Int)) = true := by simp [hpk]
          subst hpk
          go_wp2_with fail
          refine ⟨⟨q + 1, by omega, by go_num, by rw [HNS.out]; simp, hb.out⟩, by simp [intOf]; omega⟩
        · have hpb : ((P : Int) == (k : Int)) = false := beq_eq_false_iff_ne.mpr (by omega)
          go_wp2_with fail
          refine ⟨⟨q + 1, by omega, by go_num, by rw [HNS.out, if_neg hpk], hb.out⟩, by simp [intOf]; omega⟩
      · obtain rfl : q = m := by omega
        have B5 : Hid (Below w.heap.size w wr) := kp_tr B4.out hb.out
        have HB45 := Lib.hid hb.out
        clear hb hlt
        have NV5 := Lib.hid (NV4.out.tr HB45.out)
        have OV5 := Lib.hid (OV4.out.tr HB45.out)
        have HO5 := Lib.hid (obs_tr HO4.out HB45.out)
        have HOA5 := Lib.hid (obs_tr HOA.out HB45.out)
        have z5 : 0 < wr.heap.size := Nat.lt_of_lt_of_le z4 HB45.out.size
        clear NV4 OV4 HO4 HOA HB45
        rcases hnn.out with ⟨h1, h2⟩ | ⟨h1, h2⟩
        · have h1b : ((k : Int) == (lw : Int)) = true := beq_iff_eq.mpr (by omega)
          subst h2
          clear h1
          go_upto_region 18 with (fail)
          go_cut [15, 16] (fun v e wx => RestPost wr wx b v e)
          case first =>
            rcases own_nil_or OV5.out with ⟨rfl, hl0, hc0⟩ | ⟨gv, rfl⟩
            · have hk0 : k = 0 := by omega
              subst hk0
              subst hl0
              subst hc0
              have hb0 : wordsOf b = [] := List.eq_nil_of_length_eq_zero (by have := HLB.out; omega)
              have hnr := NumsIn.nil z5
              rw [← hb0] at hnr
              go_wp2_with fail
              refine (walk_in _ (wordsOf b) _ hnr HSB.out).mono ?_; rintro e w6 ⟨h6, k6⟩
              replace h6 : WalkedAs (wr.heap.size + 6) (newF (wordsOf b)) e w6 := h6
              rw [HNB.out] at h6
              obtain ⟨v6, rfl, o6⟩ := h6
              go_wp2_with fail
              go_meet
              exact ⟨rfl, o6, k6⟩
            · by_cases hkv : k = vc
              · have hkl2 : k = lw := by have := HVC.out; omega
                have hb0 : wordsOf b = [] := List.eq_nil_of_length_eq_zero (by have := HLB.out; omega)
                subst hkv
                subst hkl2
                have hnr : NumsIn wr (.slice (some ⟨gv, 0, none⟩) 0 0) (wordsOf b) := by
                  rw [hb0]
                  have hlt : gv < wr.heap.size := (World.ownsRow.lt OV5.out gv rfl).2
                  exact ⟨some ⟨gv, 0, none⟩, gv, 0, 0, rfl, ⟨fun _ => rfl, fun e => by cases e⟩, Nat.le_refl _, by simp, hlt, WordsAt.none _ _ _ _⟩
                go_wp2_with fail
                refine (walk_in _ (wordsOf b) _ hnr HSB.out).mono ?_; rintro e w6 ⟨h6, k6⟩
                replace h6 : WalkedAs (wr.heap.size + 6) (newF (wordsOf b)) e w6 := h6
                rw [HNB.out] at h6
                obtain ⟨v6, rfl, o6⟩ := h6
                go_wp2_with fail
                go_meet
                exact ⟨rfl, o6, k6⟩
              · have hkv2 : ¬ vc - k = 0 := by omega
                have hnr : NumsIn wr (.slice (some ⟨gv, k, none⟩) (lw - k) (vc - k)) (wordsOf b) := by
                  rcases Nat.eq_zero_or_pos lw with h0 | h0
                  · have hb0 : wordsOf b = [] := List.eq_nil_of_length_eq_zero (by have := HLB.out; omega)
                    have hlt : gv < wr.heap.size := (World.ownsRow.lt OV5.out gv rfl).2
                    rw [hb0]
                    exact ⟨some ⟨gv, k, none⟩, gv, k, vc - k, by simp; omega, ⟨fun _ => rfl, fun e => by cases e⟩, by simp, ⟨by have := HVC.out; omega, by simp⟩, hlt, WordsAt.none _ _ _ _⟩
                  · have := NumsIn.rest NV5.out h0 hkl
                    rw [HTB.out] at this
                    exact this
                have i3 : k ≤ lw := hkl
                have i4 : (k : Int) ≤ (lw : Int) := by omega
                have hvc := HVC.out.1
                have i5 : (lw : Int) ≤ (vc : Int) := by omega
                go_wp2_with fail
                refine (walk_in _ (wordsOf b) _ hnr HSB.out).mono ?_; rintro e w6 ⟨h6, k6⟩
                replace h6 : WalkedAs (wr.heap.size + 6) (newF (wordsOf b)) e w6 := h6
                rw [HNB.out] at h6
                obtain ⟨v6, rfl, o6⟩ := h6
                go_wp2_with fail
                go_meet
                exact ⟨rfl, o6, k6⟩
          case rest =>
          obtain ⟨rfl, o6, k6⟩ := hcut
          obtain ⟨X, hX⟩ : ∃ y, y = wc := ⟨_, rfl⟩
          subst hX
          have HO7 := Lib.hid (obs_tr HO5.out k6)
          have HA7 := Lib.hid (obs_tr HOA5.out k6)
          have B7 : Hid (Below w.heap.size w X) := kp_tr B5.out k6
          have z7 : 0 < X.heap.size := Nat.lt_of_lt_of_le z5 k6.size
          obtain ⟨v6a, v6c, he6⟩ := obs_form o6
          subst he6
          rw [obsAt_len] at *
          generalize hbl : b.length = bl at *
          have HBL := Lib.hid hbl
          have O6 := Lib.hid o6
          have hbl8 : bl ≤ 8 := by have := HMAB.out; omega
          have HPB : Hid (∀ q, q < bl → (obD (obsAt 0 b) q).pos = (posOf b q : Int) ∧ posOf b q ≤ 56) := fun q hq => by
            refine ⟨obs_pos b HGB.out q (by have := HBL.out; omega), ?_⟩
            have h1 : wordsOf b = wordsOf (b.take q) ++ wordsOf (b.drop q) := by rw [← wordsOf_app, List.take_append_drop]
            have h2 := HLB.out
            rw [h1] at h2
            simp at h2
            unfold posOf
            omega
          have HTS : Hid (∀ q, q < bl → ((obsAt 0 b).take q).map (shiftO k) ++ [shiftO k (obD (obsAt 0 b) q)] = ((obsAt 0 b).take (q + 1)).map (shiftO k)) := fun q hq => take_snoc _ _ _ (by rw [obsAt_len]; have := HBL.out; omega)
          have hk56 : k ≤ 56 := by omega
          clear o6 k6 hbl HO5 HOA5 NV5 OV5 B5 z5
          go_wp2_with fail
          go_loopw [18, 17] (fun i v wr => ∃ q : Nat, q ≤ bl ∧ i = .int .i64 (q : Int) ∧ Hid (ObsAt wr X.heap.size v (((obsAt 0 b).take q).map (shiftO k))) ∧ Hid (Below X.heap.size X wr)) (fun i _ _ => bl - (intOf i).toNat)
          case atStart => exact ⟨0, Nat.zero_le _, rfl, ObsAt.nil _ _, Below.refl _ _⟩
          case round =>
            obtain ⟨q, hq, rfl, hv, hb⟩ := hrel
            by_cases hlt : q < bl
            · have hlti : (q : Int) < (bl : Int) := by omega
              obtain ⟨g6, c6, he6, hgB, hgl, hca⟩ := obs_at (obs_tr O6.out hb.out) (by rw [obsAt_len]; have := HBL.out; omega)
              simp at he6
              obtain ⟨rfl, hmx, rfl⟩ := he6
              clear hmx
              obtain ⟨y0, y1, y2, y3, y4⟩ := hca.at q (by rw [obsAt_len]; have := HBL.out; omega)
              obtain ⟨hp, hp56⟩ := HPB.out q hlt
              have hts := HTS.out q hlt
              clear hca
              rw [hp] at y0
              generalize obD (obsAt 0 b) q = o at *
              obtain ⟨p0, s, p, g, t⟩ := o
              dsimp only at y1 y2 y3 y4 hp
              subst hp
              generalize posOf b q = P at *
              simp only [Nat.zero_add] at y0 y1 y2 y3 y4
              have hg61 : g6 ≠ wr.heap.size := by omega
              have HTQ := Lib.hid hts
              have hws := hb.out.size
              clear hts
              have hsrc : ObjsIn ((wr.alloc (.cells #[.int .i64 ((P : Int) + (k : Int)), .int .i64 s, .int .i64 p, .bool g, .int .u64 t] 53)).alloc (.cells #[.int .i64 ((P : Int) + (k : Int)), .int .i64 s, .int .i64 p, .bool g, .int .u64 t] 53)) (.slice (some ⟨wr.heap.size + 1, 0, none⟩) 1 1) [⟨(P : Int) + (k : Int), s, p, g, t⟩] := objs_lit _ [⟨(P : Int) + (k : Int), s, p, g, t⟩] (wr.heap.size + 1) (Blk.mk (by simp)) (by simp)
              have HSRC := Lib.hid hsrc
              clear hsrc
              go_wp2_with (at_builtin; refine app_objs _ rfl _ _ rfl X.heap.size u17 (.slice (some ⟨wr.heap.size + 1, 0, none⟩) 1 1) (((obsAt 0 b).take q).map (shiftO k)) [⟨(P : Int) + k, s, p, g, t⟩] rfl rfl (obs_tr hv.out (((Below.refl _ _).alloc (Nat.le_refl _) _).alloc (le_alloc (Nat.le_refl _)) _)) HSRC.out ?c0 ?c1 ?c2)
              case c0 => have := HBL.out; simp [obsAt_len]; omega
              case c1 => simp; omega
              case c2 =>
              intro v9 w9 o9 hg9 hat9
              have B9 : Hid (Below X.heap.size X w9) := obs_own ((hb.out.alloc hws _).alloc (by simp; omega) _) hv.out hg9
              have O9 : Hid (ObsAt w9 X.heap.size v9 (((obsAt 0 b).take (q + 1)).map (shiftO k))) := by
                show ObsAt _ _ _ _
                rw [← HTQ.out, List.map_take]
                exact o9
              clear o9 hg9 hat9 hv
              go_wp2_with fail
              exact ⟨⟨q + 1, by omega, by go_num, O9.out, B9.out⟩, by simp [intOf]; omega⟩
            · obtain rfl : q = bl := by omega
              have hall : (obsAt 0 b).take q = obsAt 0 b := List.take_of_length_le (by rw [obsAt_len]; have := HBL.out; omega)
              rw [hall] at hv
              have B8 : Hid (Below w.heap.size w wr) := kp_tr B7.out hb.out
              have z8 : 0 < wr.heap.size := Nat.lt_of_lt_of_le z7 hb.out.size
              have NA := Lib.hid (obs_sees (obs_tr HA7.out hb.out) z8 (by rw [obsAt_len]; have := HMAB.out; have := HAL.out; omega))
              have NM := Lib.hid (obs_sees hv.out z8 (by simp [obsAt_len]; have := HBL.out; omega))
              have NO := Lib.hid (obs_sees (obs_tr HO7.out hb.out) z8 (by rw [obsAt_len]; have := HLW.out; have := HM.out; omega))
              clear hall hlt hb
              go_wp2_with (at_builtin; refine app_objs _ rfl _ _ rfl wr.heap.size (.slice none 0 0) (.slice v4a al v4c) [] (obsAt 0 a) rfl rfl (ObsAt.nil _ _) NA.out ?c0 (Nat.le_refl _) ?c1)
              case c0 => have := HMAB.out; have := HAL.out; simp [obsAt_len]; omega
              case c1 =>
              intro v10 w10 o10 hg10 hat10
              have k10 : Below wr.heap.size wr w10 := grown_below hg10
              have hs10 := k10.size
              go_wp2_with (at_builtin; refine app_objs _ rfl _ _ rfl wr.heap.size v10 u17 (obsAt 0 a) ((obsAt 0 b).map (shiftO k)) rfl rfl o10 (NM.out.tr k10) ?c0 hs10 ?c1)
              case c0 => have := HMAB.out; have := HAL.out; have := HBL.out; simp [obsAt_len]; omega
              case c1 =>
              intro v11 w11 o11 hg11 hat11
              have k11 : Below wr.heap.size wr w11 := obs_own k10 o10 hg11
              have N11 := Lib.hid (obs_sees o11 (Nat.lt_of_lt_of_le z8 k11.size) (by have := HMAB.out; have := HAL.out; have := HBL.out; simp [obsAt_len]; omega))
              have NO11 := Lib.hid (NO.out.tr k11)
              have B11 : Hid (Below w.heap.size w w11) := kp_tr B8.out k11
              clear o10 hg10 hat10 k10 hs10 o11 hg11 hat11 k11 NA NM NO
              go_wp2_with fail
              refine (same_any _ _ _ _ _ N11.out NO11.out).mono ?_; rintro e w12 ⟨rfl, k12⟩
              rw [show decide (obsAt 0 a ++ (obsAt 0 b).map (shiftO k) = obsAt 0 pcs) = true from decide_eq_true HEQ.out]
              go_wp2_with fail
              go_ret
              exact ⟨rfl, kp_tr B11.out k12⟩
        · have h1b : ((k : Int) == (lw : Int)) = false := beq_eq_false_iff_ne.mpr (by omega)
          rw [h2]
          clear h2
          go_upto_region 18 with (fail)
          go_cut [15, 16] (fun v e wx => RestPost wr wx b v e)
          case first =>
            rcases own_nil_or OV5.out with ⟨rfl, hl0, hc0⟩ | ⟨gv, rfl⟩
            · have hk0 : k = 0 := by omega
              subst hk0
              subst hl0
              subst hc0
              have hb0 : wordsOf b = [] := List.eq_nil_of_length_eq_zero (by have := HLB.out; omega)
              have hnr := NumsIn.nil z5
              rw [← hb0] at hnr
              go_wp2_with fail
              refine (walk_in _ (wordsOf b) _ hnr HSB.out).mono ?_; rintro e w6 ⟨h6, k6⟩
              replace h6 : WalkedAs (wr.heap.size + 6) (newF (wordsOf b)) e w6 := h6
              rw [HNB.out] at h6
              obtain ⟨v6, rfl, o6⟩ := h6
              go_wp2_with fail
              go_meet
              exact ⟨rfl, o6, k6⟩
            · by_cases hkv : k = vc
              · have hkl2 : k = lw := by have := HVC.out; omega
                have hb0 : wordsOf b = [] := List.eq_nil_of_length_eq_zero (by have := HLB.out; omega)
                subst hkv
                subst hkl2
                have hnr : NumsIn wr (.slice (some ⟨gv, 0, none⟩) 0 0) (wordsOf b) := by
                  rw [hb0]
                  have hlt : gv < wr.heap.size := (World.ownsRow.lt OV5.out gv rfl).2
                  exact ⟨some ⟨gv, 0, none⟩, gv, 0, 0, rfl, ⟨fun _ => rfl, fun e => by cases e⟩, Nat.le_refl _, by simp, hlt, WordsAt.none _ _ _ _⟩
                go_wp2_with fail
                refine (walk_in _ (wordsOf b) _ hnr HSB.out).mono ?_; rintro e w6 ⟨h6, k6⟩
                replace h6 : WalkedAs (wr.heap.size + 6) (newF (wordsOf b)) e w6 := h6
                rw [HNB.out] at h6
                obtain ⟨v6, rfl, o6⟩ := h6
                go_wp2_with fail
                go_meet
                exact ⟨rfl, o6, k6⟩
              · have hkv2 : ¬ vc - k = 0 := by omega
                have hnr : NumsIn wr (.slice (some ⟨gv, k, none⟩) (lw - k) (vc - k)) (wordsOf b) := by
                  rcases Nat.eq_zero_or_pos lw with h0 | h0
                  · have hb0 : wordsOf b = [] := List.eq_nil_of_length_eq_zero (by have := HLB.out; omega)
                    have hlt : gv < wr.heap.size := (World.ownsRow.lt OV5.out gv rfl).2
                    rw [hb0]
                    exact ⟨some ⟨gv, k, none⟩, gv, k, vc - k, by simp; omega, ⟨fun _ => rfl, fun e => by cases e⟩, by simp, ⟨by have := HVC.out; omega, by simp⟩, hlt, WordsAt.none _ _ _ _⟩
                  · have := NumsIn.rest NV5.out h0 hkl
                    rw [HTB.out] at this
                    exact this
                have i3 : k ≤ lw := hkl
                have i4 : (k : Int) ≤ (lw : Int) := by omega
                have hvc := HVC.out.1
                have i5 : (lw : Int) ≤ (vc : Int) := by omega
                go_wp2_with fail
                refine (walk_in _ (wordsOf b) _ hnr HSB.out).mono ?_; rintro e w6 ⟨h6, k6⟩
                replace h6 : WalkedAs (wr.heap.size + 6) (newF (wordsOf b)) e w6 := h6
                rw [HNB.out] at h6
                obtain ⟨v6, rfl, o6⟩ := h6
                go_wp2_with fail
                go_meet
                exact ⟨rfl, o6, k6⟩
          case rest =>
          obtain ⟨rfl, o6, k6⟩ := hcut
          obtain ⟨X, hX⟩ : ∃ y, y = wc := ⟨_, rfl⟩
          subst hX
          have HO7 := Lib.hid (obs_tr HO5.out k6)
          have HA7 := Lib.hid (obs_tr HOA5.out k6)
          have B7 : Hid (Below w.heap.size w X) := kp_tr B5.out k6
          have z7 : 0 < X.heap.size := Nat.lt_of_lt_of_le z5 k6.size
          obtain ⟨v6a, v6c, he6⟩ := obs_form o6
          subst he6
          rw [obsAt_len] at *
          generalize hbl : b.length = bl at *
          have HBL := Lib.hid hbl
          have O6 := Lib.hid o6
          have hbl8 : bl ≤ 8 := by have := HMAB.out; omega
          have HPB : Hid (∀ q, q < bl → (obD (obsAt 0 b) q).pos = (posOf b q : Int) ∧ posOf b q ≤ 56) := fun q hq => by
            refine ⟨obs_pos b HGB.out q (by have := HBL.out; omega), ?_⟩
            have h1 : wordsOf b = wordsOf (b.take q) ++ wordsOf (b.drop q) := by rw [← wordsOf_app, List.take_append_drop]
            have h2 := HLB.out
            rw [h1] at h2
            simp at h2
            unfold posOf
            omega
          have HTS : Hid (∀ q, q < bl → ((obsAt 0 b).take q).map (shiftO k) ++ [shiftO k (obD (obsAt 0 b) q)] = ((obsAt 0 b).take (q + 1)).map (shiftO k)) := fun q hq => take_snoc _ _ _ (by rw [obsAt_len]; have := HBL.out; omega)
          have hk56 : k ≤ 56 := by omega
          clear o6 k6 hbl HO5 HOA5 NV5 OV5 B5 z5
          go_wp2_with fail
          go_loopw [18, 17] (fun i v wr => ∃ q : Nat, q ≤ bl ∧ i = .int .i64 (q : Int) ∧ Hid (ObsAt wr X.heap.size v (((obsAt 0 b).take q).map (shiftO k))) ∧ Hid (Below X.heap.size X wr)) (fun i _ _ => bl - (intOf i).toNat)
          case atStart => exact ⟨0, Nat.zero_le _, rfl, ObsAt.nil _ _, Below.refl _ _⟩
          case round =>
            obtain ⟨q, hq, rfl, hv, hb⟩ := hrel
            by_cases hlt : q < bl
            · have hlti : (q : Int) < (bl : Int) := by omega
              obtain ⟨g6, c6, he6, hgB, hgl, hca⟩ := obs_at (obs_tr O6.out hb.out) (by rw [obsAt_len]; have := HBL.out; omega)
              simp at he6
              obtain ⟨rfl, hmx, rfl⟩ := he6
              clear hmx
              obtain ⟨y0, y1, y2, y3, y4⟩ := hca.at q (by rw [obsAt_len]; have := HBL.out; omega)
              obtain ⟨hp, hp56⟩ := HPB.out q hlt
              have hts := HTS.out q hlt
              clear hca
              rw [hp] at y0
              generalize obD (obsAt 0 b) q = o at *
              obtain ⟨p0, s, p, g, t⟩ := o
              dsimp only at y1 y2 y3 y4 hp
              subst hp
              generalize posOf b q = P at *
              simp only [Nat.zero_add] at y0 y1 y2 y3 y4
              have hg61 : g6 ≠ wr.heap.size := by omega
              have HTQ := Lib.hid hts
              have hws := hb.out.size
              clear hts
              have hsrc : ObjsIn ((wr.alloc (.cells #[.int .i64 ((P : Int) + (k : Int)), .int .i64 s, .int .i64 p, .bool g, .int .u64 t] 53)).alloc (.cells #[.int .i64 ((P : Int) + (k : Int)), .int .i64 s, .int .i64 p, .bool g, .int .u64 t] 53)) (.slice (some ⟨wr.heap.size + 1, 0, none⟩) 1 1) [⟨(P : Int) + (k : Int), s, p, g, t⟩] := objs_lit _ [⟨(P : Int) + (k : Int), s, p, g, t⟩] (wr.heap.size + 1) (Blk.mk (by simp)) (by simp)
              have HSRC := Lib.hid hsrc
              clear hsrc
              go_wp2_with (at_builtin; refine app_objs _ rfl _ _ rfl X.heap.size u17 (.slice (some ⟨wr.heap.size + 1, 0, none⟩) 1 1) (((obsAt 0 b).take q).map (shiftO k)) [⟨(P : Int) + k, s, p, g, t⟩] rfl rfl (obs_tr hv.out (((Below.refl _ _).alloc (Nat.le_refl _) _).alloc (le_alloc (Nat.le_refl _)) _)) HSRC.out ?c0 ?c1 ?c2)
              case c0 => have := HBL.out; simp [obsAt_len]; omega
              case c1 => simp; omega
              case c2 =>
              intro v9 w9 o9 hg9 hat9
              have B9 : Hid (Below X.heap.size X w9) := obs_own ((hb.out.alloc hws _).alloc (by simp; omega) _) hv.out hg9
              have O9 : Hid (ObsAt w9 X.heap.size v9 (((obsAt 0 b).take (q + 1)).map (shiftO k))) := by
                show ObsAt _ _ _ _
                rw [← HTQ.out, List.map_take]
                exact o9
              clear o9 hg9 hat9 hv
              go_wp2_with fail
              exact ⟨⟨q + 1, by omega, by go_num, O9.out, B9.out⟩, by simp [intOf]; omega⟩
            · obtain rfl : q = bl := by omega
              have hall : (obsAt 0 b).take q = obsAt 0 b := List.take_of_length_le (by rw [obsAt_len]; have := HBL.out; omega)
              rw [hall] at hv
              have B8 : Hid (Below w.heap.size w wr) := kp_tr B7.out hb.out
              have z8 : 0 < wr.heap.size := Nat.lt_of_lt_of_le z7 hb.out.size
              have NA := Lib.hid (obs_sees (obs_tr HA7.out hb.out) z8 (by rw [obsAt_len]; have := HMAB.out; have := HAL.out; omega))
              have NM := Lib.hid (obs_sees hv.out z8 (by simp [obsAt_len]; have := HBL.out; omega))
              have NO := Lib.hid (obs_sees (obs_tr HO7.out hb.out) z8 (by rw [obsAt_len]; have := HLW.out; have := HM.out; omega))
              clear hall hlt hb
              go_wp2_with (at_builtin; refine app_objs _ rfl _ _ rfl wr.heap.size (.slice none 0 0) (.slice v4a al v4c) [] (obsAt 0 a) rfl rfl (ObsAt.nil _ _) NA.out ?c0 (Nat.le_refl _) ?c1)
              case c0 => have := HMAB.out; have := HAL.out; simp [obsAt_len]; omega
              case c1 =>
              intro v10 w10 o10 hg10 hat10
              have k10 : Below wr.heap.size wr w10 := grown_below hg10
              have hs10 := k10.size
              go_wp2_with (at_builtin; refine app_objs _ rfl _ _ rfl wr.heap.size v10 u17 (obsAt 0 a) ((obsAt 0 b).map (shiftO k)) rfl rfl o10 (NM.out.tr k10) ?c0 hs10 ?c1)
              case c0 => have := HMAB.out; have := HAL.out; have := HBL.out; simp [obsAt_len]; omega
              case c1 =>
              intro v11 w11 o11 hg11 hat11
              have k11 : Below wr.heap.size wr w11 := obs_own k10 o10 hg11
              have N11 := Lib.hid (obs_sees o11 (Nat.lt_of_lt_of_le z8 k11.size) (by have := HMAB.out; have := HAL.out; have := HBL.out; simp [obsAt_len]; omega))
              have NO11 := Lib.hid (NO.out.tr k11)
              have B11 : Hid (Below w.heap.size w w11) := kp_tr B8.out k11
              clear o10 hg10 hat10 k10 hs10 o11 hg11 hat11 k11 NA NM NO
              go_wp2_with fail
              refine (same_any _ _ _ _ _ N11.out NO11.out).mono ?_; rintro e w12 ⟨rfl, k12⟩
              rw [show decide (obsAt 0 a ++ (obsAt 0 b).map (shiftO k) = obsAt 0 pcs) = true from decide_eq_true HEQ.out]
              go_wp2_with fail
              go_ret
              exact ⟨rfl, kp_tr B11.out k12⟩
  · rw [hF] at h4
    obtain rfl := h4
    have hkw2 : k < lw := by have := HLV.out; omega
    have hkwb : ((k : Int) == (lw : Int)) = false := beq_eq_false_iff_ne.mpr (by omega)
    have HNF : Hid (nF pcs k m = -1) := by show _ = _; rw [← HM.out]; exact hnf
    clear hF hnf hkw
    go_wp2_with fail
    go_loopw [14, 13] (fun i n wr => ∃ q : Nat, q ≤ m ∧ i = .int .i64 (q : Int) ∧ n = .int .i64 (nF pcs k q) ∧ Hid (Below w4.heap.size w4 wr)) (fun i _ _ => m - (intOf i).toNat)
    case atStart => exact ⟨0, Nat.zero_le _, rfl, rfl, Below.refl _ _⟩
    case round =>
      obtain ⟨q, hq, rfl, rfl, hb⟩ := hrel
      by_cases hlt : q < m
      · have hlti : (q : Int) < (m : Int) := by omega
        have ho := obs_tr HO4.out hb.out
        obtain ⟨g3, c3, he3, hgB, hgl, hca⟩ := obs_at ho (by rw [obsAt_len]; have := HM.out; omega)
        simp at he3
        obtain ⟨rfl, hmx, rfl⟩ := he3
        clear hmx
        obtain ⟨y0, _⟩ := hca.at q (by rw [obsAt_len]; have := HM.out; omega)
        rw [obs_pos _ HG.out q (by have := HM.out; omega), Nat.zero_add] at y0
        have HNS : Hid (nF pcs k (q + 1) = if posOf pcs q = k then (q : Int) else nF pcs k q) := nF_succ _ _ _
        clear hca ho
        generalize posOf pcs q = P at *
        by_cases hpk : P = k
        · have hpb : ((P : Int) == (k : Int)) = true := by simp [hpk]
          subst hpk
          go_wp2_with fail
          refine ⟨⟨q + 1, by omega, by go_num, by rw [HNS.out]; simp, hb.out⟩, by simp [intOf]; omega⟩
        · have hpb : ((P : Int) == (k : Int)) = false := beq_eq_false_iff_ne.mpr (by omega)
          go_wp2_with fail
          refine ⟨⟨q + 1, by omega, by go_num, by rw [HNS.out, if_neg hpk], hb.out⟩, by simp [intOf]; omega⟩
      · obtain rfl : q = m := by omega
        have B5 : Hid (Below w.heap.size w wr) := kp_tr B4.out hb.out
        have HB45 := Lib.hid hb.out
        clear hb hlt
        rw [HNF.out]
        go_wp2_with fail
        go_ret
        exact ⟨rfl, B5.out⟩
end Go.Proofs.Ytiboinckdjiniaa.ob
