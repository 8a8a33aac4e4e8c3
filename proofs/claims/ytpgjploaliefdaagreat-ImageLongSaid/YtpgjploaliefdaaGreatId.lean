/- image.Objects: the walk. No conditions. -/
import Derived.Test.YtpgjploaliefdaaGreatG13
namespace Go.Proofs.YtpgjploaliefdaaGreat.im
open Go Go.RowKit Go.Proofs.YtpgjploaliefdaaGreat.cm Go.Proofs.YtpgjploaliefdaaGreat.cw Go.Proofs.YtpgjploaliefdaaGreat.ga Go.Proofs.YtpgjploaliefdaaGreat.gr Go.Proofs.YtpgjploaliefdaaGreat.ob Go.Proofs.YtpgjploaliefdaaGreat.hd Go.Proofs.YtpgjploaliefdaaGreat.cp
open Go.Proofs.YtpgjploaliefdaaGreat.fr (OwnB leB leB_succ leB_len strB app_B bel_alloc putN putN_10 putN_pos strB_size byteV put_any rowN row_any)
open Go.Proofs.YtpgjploaliefdaaGreat.ck (TgB obD_mem)
set_option linter.unusedVariables false
set_option linter.unusedSimpArgs false
set_option maxRecDepth 100000
set_option maxHeartbeats 4000000
theorem objsU_snoc (zs : List Int) (os : List Ob) (k : Nat) (h : k < os.length) : (os.take (k + 1)).flatMap (objU zs) = (os.take k).flatMap (objU zs) ++ objU zs (obD os k) := by
  rw [List.take_add_one, List.getElem?_eq_getElem h, List.flatMap_append]
  congr 1
  simp [obD, List.getD, h]
theorem objU_len {zs : List Int} {o : Ob} (hz : ∀ x ∈ zs, 0 ≤ x ∧ x < 18446744073709551616) (hf : FitB zs.length o) (ht : 0 ≤ o.t ∧ o.t < 18446744073709551616) : (objU zs o).length ≤ 5000 := by
  obtain ⟨f0, f1, f2, f3, f4, f5⟩ := hf
  have hs : ∀ l : List Nat, (strB l).data.toList.length = l.length := fun l => by
    rw [Array.length_toList]
    exact strB_size l
  unfold objU
  split
  · unfold uRow
    rw [hs]
    have h1 := putN_10 (v := 1) (by omega)
    have h2 := putN_10 (v := o.t.toNat) (by omega)
    simp [rowN]
    omega
  · have h1 := putN_10 (v := 0) (by omega)
    have h2 := putN_10 (v := o.s.toNat) (by omega)
    have h3 := putN_10 (v := o.p.toNat) (by omega)
    have h4 := refsU_len (sub zs (o.pos.toNat + 1) o.p.toNat) (fun x hx => hz x (List.mem_of_mem_take (List.mem_of_mem_drop hx)))
    have h5 : (sub zs (o.pos.toNat + 1) o.p.toNat).length = o.p.toNat := sub_len (by omega)
    have h6 : (sub zs (o.pos.toNat + 1 + o.p.toNat) (o.s.toNat - o.p.toNat)).length = o.s.toNat - o.p.toNat := sub_len (by omega)
    unfold uRow uWords
    rw [List.length_append, List.length_append, hs, hs, wordsN_len, h6]
    simp only [rowN, List.flatMap_cons, List.flatMap_nil, List.length_append, List.length_nil]
    omega
theorem size_u64 (W : World) : (sizeOf (Tryz.prog.elem 29)).run Tryz.prog W = .ok 1 W := by kernel_rfl
theorem slice_sub (b off n cap a k : Nat) (h : a + k ≤ cap) (l h' : Int) (hl : l = a) (hh : h' = ((a + k : Nat) : Int)) : ∃ A : Addr, (∀ W, (Instr.slice 29 (.slice (some ⟨b, off, none⟩) n cap) (some (.int .i64 l)) (some (.int .i64 h')) none).run Tryz.prog W = .ok (.slice (some A) k (cap - a)) W) ∧ (0 < k → A = ⟨b, off + a, none⟩) := by
  subst hl hh
  by_cases hc : cap = a
  · refine ⟨⟨b, off, none⟩, fun W => ?_, fun h => by omega⟩
    have hk : k = 0 := by omega
    have := run_slice_lh (P := Tryz.prog) W 29 (some ⟨b, off, none⟩) n cap Tryz.underlying29 .i64 .i64 (a : Int) ((a + k : Nat) : Int) (by omega) (by omega) (by omega)
    rw [this, size_u64]
    simp [sliced, Result.andThen, hk, hc]
  · refine ⟨⟨b, off + a, none⟩, fun W => ?_, fun _ => rfl⟩
    have := run_slice_lh (P := Tryz.prog) W 29 (some ⟨b, off, none⟩) n cap Tryz.underlying29 .i64 .i64 (a : Int) ((a + k : Nat) : Int) (by omega) (by omega) (by omega)
    rw [this, size_u64]
    simp [sliced, Result.andThen, hc, Addr.add]
    omega
theorem objs_any (u v0 : Value) (zs : List Int) (os : List Ob) (w : World) (hu : NumsIn w u zs) (hz : Small zs) (ho : ObjsIn w v0 os) (ht : TgB os) (hl : zs.length < 1000000) (hm : os.length < 1000000) :
    Calls Tryz.prog 15 #[u, v0] w fun e w' => e = .returned (.tuple #[.string (objsR zs os).1, .int .i64 (objsR zs os).2]) ∧ Below w.heap.size w w' := by
  obtain ⟨ad, b, off, cap, rfl, ⟨h1, h2⟩, h3, ⟨h4, h4'⟩, h5, h6⟩ := hu
  have HKc : Hid (Calls Tryz.prog 43 #[.slice ad zs.length cap, v0] w fun e w' => KindsPost w.heap.size (kindsF zs.length os []) e w' ∧ Below w.heap.size w w') := Lib.hid (kinds_any ad zs.length cap v0 os w (by omega) ho)
  obtain ⟨oa, ob, oo, oc, rfl, ⟨o1, o2⟩, o3, ⟨o4, o4'⟩, o5, o6⟩ := ho
  have HZ := Lib.hid hz
  have HZM : Hid (∀ x ∈ zs, 0 ≤ x ∧ x < 18446744073709551616) := small_mem hz
  have HT := Lib.hid ht
  have H1 := Lib.hid h1
  have H2 := Lib.hid h2
  have H6 := Lib.hid h6
  have HO1 := Lib.hid o1
  have HO6 := Lib.hid o6
  have HR : Hid (objsR zs os = if (kindsF zs.length os []).isNone then (⟨#[]⟩, 1) else if os.all (objOk zs) then (⟨(uP os.length ++ os.flatMap (objU zs)).toArray⟩, 0) else (⟨#[]⟩, 3)) := rfl
  generalize objsR zs os = R at *
  clear h1 h2 h6 hz ht o1 o2 o6
  rcases hK : kindsF zs.length os [] with _ | ks
  · have HR1 : Hid (R = (⟨#[]⟩, 1)) := by show _ = _; rw [HR.out, hK]; rfl
    rw [hK] at HKc
    clear hK HR
    generalize zs.length = n at *
    generalize os.length = m at *
    go_enter Tryz.func15, Tryz.ntmps15
    go_wp2_with fail
    refine HKc.out.mono ?_; rintro e w1 ⟨hk, k1⟩
    have hk : e = .returned (.tuple #[.slice none 0 0, .int .i64 1]) := hk
    subst hk
    go_wp2_with fail
    go_ret2
    exact ⟨by rw [HR1.out]; rfl, k1⟩
  · have HFit := Lib.hid (kinds_fit hK)
    have HR1 : Hid (R = if os.all (objOk zs) then (⟨(uP os.length ++ os.flatMap (objU zs)).toArray⟩, 0) else (⟨#[]⟩, 3)) := by show _ = _; rw [HR.out, hK]; rfl
    rw [hK] at HKc
    clear hK HR
    generalize hnn : zs.length = n at *
    have HNZ := Lib.hid hnn
    generalize hmm : os.length = m at *
    have HNO := Lib.hid hmm
    clear hnn hmm
    have HP : Hid (∀ W, Calls Tryz.prog 45 #[.int .u64 (m : Nat)] W fun e w' => e = .returned (.string (strB (putN m))) ∧ Below W.heap.size W w') := Lib.hid fun W => put_any m W (by omega)
    go_enter Tryz.func15, Tryz.ntmps15
    go_wp2_with fail
    refine HKc.out.mono ?_; rintro e w1 ⟨hk, k1⟩
    obtain ⟨kv, rfl, hk2⟩ : ∃ v, e = .returned (.tuple #[v, .int .i64 0]) ∧ OwnInts w1 w.heap.size v ks := hk
    have HB0 : Hid (Bld w1.heap.size w1.heap.size [] (w1.alloc (.cells #[.pointer none, .slice none 0 0] 93))) := Bld.fresh w1
    have hb0 : Hid (Below w.heap.size w (w1.alloc (.cells #[.pointer none, .slice none 0 0] 93))) := Lib.hid (by (repeat (first | with_reducible exact Below.refl _ _ | with_reducible refine kp_alloc ?_ _ | with_reducible refine kp_drew ?_ | with_reducible refine below_drewN ?_ _ | with_reducible refine kp_set ?_ (by first | omega | (simp; done) | (simp; omega)) _ | with_reducible refine kp_tr ?_ (by with_reducible assumption))))
    have hws1 := k1.size
    clear hk2 HKc
    go_wp2_with fail
    refine (HP.out _).mono ?_; rintro e w2 ⟨rfl, k2⟩
    have HB2 := Lib.hid (HB0.out.tr k2)
    have hb2 : Hid (Below w.heap.size w w2) := Lib.hid (by have := hb0.out; (repeat (first | with_reducible exact Below.refl _ _ | with_reducible refine kp_alloc ?_ _ | with_reducible refine kp_drew ?_ | with_reducible refine below_drewN ?_ _ | with_reducible refine kp_set ?_ (by first | omega | (simp; done) | (simp; omega)) _ | with_reducible refine kp_tr ?_ (by with_reducible assumption))))
    have hBs : w1.heap.size < w2.heap.size := Nat.lt_of_lt_of_le (by simp) k2.size
    have hsz : (strB (putN m)).size ≤ 10 := by
      rw [strB_size]
      exact putN_10 (by omega)
    have HU : Hid ((strB (putN m)).data.toList = uP m) := rfl
    clear k1 k2 HB0 hb0 HP
    generalize w1.heap.size = B at *
    go_wp2_with fail
    refine (write_any B B [] (strB (putN m)) _ HB2.out (by simp; omega) (Nat.le_of_lt hBs)).mono ?_; rintro e w3 ⟨rfl, hB3, k3⟩
    have HB3 : Hid (Bld B B (uP m) w3) := hB3
    have hb3 : Hid (Below w.heap.size w w3) := hb2.out.trans (k3.mono hws1)
    have hBs3 : B < w3.heap.size := Nat.lt_of_lt_of_le hBs k3.size
    have hul : (uP m).length ≤ 10 := (uP_len (by omega)).1
    clear hB3 k3 HB2 hb2 hBs HU hsz
    go_wp2_with fail
    go_loopw [31] (fun i wr => ∃ k : Nat, k ≤ m ∧ i = .int .i64 k ∧ Hid (∀ j, j < k → objOk zs (obD os j) = true) ∧ Hid (Bld B B (uP m ++ (os.take k).flatMap (objU zs)) wr) ∧ (uP m ++ (os.take k).flatMap (objU zs)).length ≤ 10 + 5000 * k ∧ B < wr.heap.size ∧ Hid (Below w.heap.size w wr)) (fun i _ => m - (intOf i).toNat)
    case atStart =>
      refine ⟨0, Nat.zero_le _, rfl, fun j hj => absurd hj (Nat.not_lt_zero _), ?_, ?_, hBs3, hb3.out⟩
      · show Bld _ _ _ _
        simp only [List.take_zero, List.flatMap_nil, List.append_nil]
        exact HB3.out
      · simp
        omega
    case round =>
      obtain ⟨k, hk, rfl, hok, hB, hdl, hBs, hb⟩ := hrel
      clear HB3 hb3 hBs3
      have hws := hb.out.size
      by_cases hlk : k < m
      · obtain rfl := HO1.out (by omega)
        have hkl : k < os.length := by have := HNO.out; omega
        have hxk := (HO6.out.block (hb.out.block ob o5)).at k hlk
        obtain ⟨f0, f1, f2, f3, f4, f5⟩ := HFit.out _ (obD_mem hkl)
        obtain ⟨t1, t2⟩ := HT.out _ (obD_mem hkl)
        have HS := Lib.hid (objsU_snoc zs os k hkl)
        have HOL : Hid ((objU zs (obD os k)).length ≤ 5000) := Lib.hid (objU_len HZM.out (by have := HFit.out _ (obD_mem hkl); have h := HNZ.out; rw [h]; exact this) ⟨t1, t2⟩)
        have HNX : Hid (objOk zs (obD os k) = true → ∀ j, j < k + 1 → objOk zs (obD os j) = true) := fun e j hj => by
          rcases Nat.lt_or_ge j k with h | h
          · exact hok.out j h
          · obtain rfl : j = k := by omega
            exact e
        have HBD : Hid (objOk zs (obD os k) = false → R = (⟨#[]⟩, 3)) := fun e => by
          rw [HR1.out, if_neg]
          intro e2
          rw [List.all_eq_true.1 e2 _ (obD_mem hkl)] at e
          cases e
        clear hok
        generalize obD os k = o at *
        generalize (os.take k).flatMap (objU zs) = done0 at *
        obtain ⟨p0, sz, pp, g, t⟩ := o
        obtain ⟨x0, x1, x2, x3, x4⟩ := hxk
        dsimp only at x0 x1 x2 x3 x4 f0 f1 f2 f3 f4 f5 t1 t2
        obtain ⟨P0, rfl⟩ := Int.eq_ofNat_of_zero_le f0
        obtain ⟨S, rfl⟩ := Int.eq_ofNat_of_zero_le f1
        obtain ⟨PP, rfl⟩ := Int.eq_ofNat_of_zero_le f3
        obtain ⟨T, rfl⟩ := Int.eq_ofNat_of_zero_le t1
        rcases g with _ | _
        · obtain rfl := H1.out (by omega)
          have j1 : ¬ (P0 : Int) + 1 < 0 := by omega
          have j2 : (P0 : Int) + 1 ≤ (P0 : Int) + 1 + PP := by omega
          have j3 : (P0 : Int) + 1 + PP ≤ cap := by omega
          obtain ⟨A1, hs1, ha1⟩ := slice_sub b off n cap (P0 + 1) PP (by omega) ((P0 : Int) + 1) ((P0 : Int) + 1 + PP) (by omega) (by omega)
          obtain ⟨A2, hs2, ha2⟩ := slice_sub b off n cap (P0 + 1 + PP) (S - PP) (by omega) ((P0 : Int) + 1 + PP) ((P0 : Int) + 1 + S) (by omega) (by omega)
          have HNa : Hid (NumsIn w (.slice (some A1) PP (cap - (P0 + 1))) (sub zs (P0 + 1) PP)) := nums_sub (b := b) (off := off) (by rw [HNZ.out]; exact H6.out) h5 (by rw [HNZ.out]; exact h4') (by rw [HNZ.out]; exact h3) h4 (by rw [HNZ.out]; omega) (fun h => by rw [ha1 h]) (fun e => by cases e)
          have HNb : Hid (NumsIn w (.slice (some A2) (S - PP) (cap - (P0 + 1 + PP))) (sub zs (P0 + 1 + PP) (S - PP))) := nums_sub (b := b) (off := off) (by rw [HNZ.out]; exact H6.out) h5 (by rw [HNZ.out]; exact h4') (by rw [HNZ.out]; exact h3) h4 (by rw [HNZ.out]; omega) (fun h => by rw [ha2 h]) (fun e => by cases e)
          have hla : (sub zs (P0 + 1) PP).length = PP := sub_len (by rw [HNZ.out]; omega)
          have hlb : (sub zs (P0 + 1 + PP) (S - PP)).length = S - PP := sub_len (by rw [HNZ.out]; omega)
          have HZa := Lib.hid (sub_small HZ.out (P0 + 1) PP)
          have HZb := Lib.hid (sub_small HZ.out (P0 + 1 + PP) (S - PP))
          have HRf : Hid (∀ W, Below w.heap.size w W → Calls Tryz.prog 17 #[.slice (some A1) PP (cap - (P0 + 1))] W fun e w' => e = .returned (.tuple #[.string (refsR (sub zs (P0 + 1) PP)).1, .int .i64 (refsR (sub zs (P0 + 1) PP)).2]) ∧ Below W.heap.size W w') := Lib.hid fun W hb => refs_any _ _ W (HNa.out.tr hb) HZa.out (by omega)
          have HWp : Hid (∀ W, Below w.heap.size w W → Calls Tryz.prog 47 #[.slice (some A2) (S - PP) (cap - (P0 + 1 + PP))] W fun e w' => e = .returned (.string (strB (wordsN (sub zs (P0 + 1 + PP) (S - PP))))) ∧ Below W.heap.size W w') := Lib.hid fun W hb => wput_any _ _ W (HNb.out.tr hb) HZb.out (by omega)
          have hrl := refsU_len (sub zs (P0 + 1) PP) (small_mem HZa.out)
          have hwl : (strB (wordsN (sub zs (P0 + 1 + PP) (S - PP)))).size ≤ 2040 := by
            rw [strB_size, wordsN_len]
            omega
          have hRl : (strB (rowN [0, S, PP])).size ≤ 30 := by
            rw [strB_size]
            have h1 := putN_10 (v := 0) (by omega)
            have h2 := putN_10 (v := S) (by omega)
            have h3 := putN_10 (v := PP) (by omega)
            simp [rowN]
            omega
          have HOU : Hid (objU zs ⟨(P0 : Int), (S : Int), (PP : Int), false, (T : Int)⟩ = (strB (rowN [0, S, PP])).data.toList ++ refsU (sub zs (P0 + 1) PP) ++ (strB (wordsN (sub zs (P0 + 1 + PP) (S - PP)))).data.toList) := rfl
          have HOK : Hid (objOk zs ⟨(P0 : Int), (S : Int), (PP : Int), false, (T : Int)⟩ = (sub zs (P0 + 1) PP).all refOkB) := by
            show (false || _) = _
            rw [Bool.false_or]
            rfl
          clear HNa HNb HZa HZb ha1 ha2 hlb
          generalize sub zs (P0 + 1 + PP) (S - PP) = zb at *
          generalize sub zs (P0 + 1) PP = za at *
          rcases hall : za.all refOkB with _ | _
          · have HRR : Hid (refsR za = (⟨#[]⟩, 3)) := if_neg (by rw [hall]; decide)
            have HR3 := Lib.hid (HBD.out (HOK.out.trans hall))
            rw [HRR.out] at HRf
            have hKb : Hid (Below w.heap.size w (wr.alloc (.cells #[.int .i64 P0, .int .i64 S, .int .i64 PP, .bool false, .int .u64 T] 58))) := Lib.hid (by have := hb.out; (repeat (first | with_reducible exact Below.refl _ _ | with_reducible refine kp_alloc ?_ _ | with_reducible refine kp_drew ?_ | with_reducible refine below_drewN ?_ _ | with_reducible refine kp_set ?_ (by first | omega | (simp; done) | (simp; omega)) _ | with_reducible refine kp_tr ?_ (by with_reducible assumption))))
            clear HNX HBD HS HOU HOK hall
            go_wp2_with fail
            refine (HRf.out _ hKb.out).mono ?_; rintro e w4 ⟨rfl, k4⟩
            go_wp2_with fail
            go_ret2
            exact ⟨by rw [HR3.out]; rfl, kp_tr hKb.out k4⟩
          · have HRR : Hid (refsR za = (⟨(refsU za).toArray⟩, 0)) := if_pos hall
            have HNX2 := Lib.hid (HNX.out (HOK.out.trans hall))
            rw [HRR.out] at HRf
            have hKb : Hid (Below w.heap.size w (wr.alloc (.cells #[.int .i64 P0, .int .i64 S, .int .i64 PP, .bool false, .int .u64 T] 58))) := Lib.hid (by have := hb.out; (repeat (first | with_reducible exact Below.refl _ _ | with_reducible refine kp_alloc ?_ _ | with_reducible refine kp_drew ?_ | with_reducible refine below_drewN ?_ _ | with_reducible refine kp_set ?_ (by first | omega | (simp; done) | (simp; omega)) _ | with_reducible refine kp_tr ?_ (by with_reducible assumption))))
            have Ko := Blk.new wr #[.int .i64 P0, .int .i64 S, .int .i64 PP, .bool false, .int .u64 T] 58
            have HB4 := Lib.hid (hB.out.tr ((Below.refl _ _).alloc (Nat.le_refl _) (.cells #[.int .i64 P0, .int .i64 S, .int .i64 PP, .bool false, .int .u64 T] 58)))
            clear HNX HBD HOK hall
            go_wp2_with fail
            refine (HRf.out _ hKb.out).mono ?_; rintro e w4 ⟨rfl, k4⟩
            have hb4 := Lib.hid (kp_tr hKb.out k4)
            have HB5 := Lib.hid (HB4.out.tr k4)
            have Ko4 := Ko.tr k4
            have hBs4 : B < w4.heap.size := Nat.lt_of_lt_of_le hBs (Nat.le_trans (by simp) k4.size)
            clear k4 hKb HB4 Ko HRf
            obtain ⟨lo, co, fo⟩ := Ko4.get
            go_wp2_with fail
            have K6 : Blk (w4.alloc (.cells #[.int .u64 (0 : Nat), .int .u64 S, .int .u64 PP] 24)) w4.heap.size #[.int .u64 (0 : Nat), .int .u64 S, .int .u64 PP] 24 := Blk.new _ _ _
            refine (row3_any 0 S PP _ w4.heap.size K6 (by omega) (by omega) (by omega)).mono ?_; rintro e w5 ⟨rfl, k5⟩
            have hno : wr.heap.size ≠ B := by omega
            have HB6 := Lib.hid ((HB5.out.tr ((Below.refl _ _).alloc (Nat.le_refl _) (.cells #[.int .u64 (0 : Nat), .int .u64 S, .int .u64 PP] 24))).tr k5)
            have Ko5 := (Ko4.alloc (.cells #[.int .u64 (0 : Nat), .int .u64 S, .int .u64 PP] 24)).tr k5
            have hb5 : Hid (Below w.heap.size w w5) := Lib.hid (by have := hb4.out; (repeat (first | with_reducible exact Below.refl _ _ | with_reducible refine kp_alloc ?_ _ | with_reducible refine kp_drew ?_ | with_reducible refine below_drewN ?_ _ | with_reducible refine kp_set ?_ (by first | omega | (simp; done) | (simp; omega)) _ | with_reducible refine kp_tr ?_ (by with_reducible assumption))))
            have hBs5 : B < w5.heap.size := Nat.lt_of_lt_of_le hBs4 (Nat.le_trans (by simp) k5.size)
            clear k5 lo co fo Ko4 K6 HB5 hb4 hBs4
            generalize hU0 : uP m ++ done0 = D0 at *
            go_wp2_with fail
            refine (writek_any B B D0 (strB (rowN [0, S, PP])) _ HB6.out (by omega) (Nat.le_of_lt hBs5)).mono ?_; rintro e w6 ⟨rfl, hB7, k6, ok6⟩
            have HB7 := Lib.hid hB7
            have Ko6 := blk_ok Ko5 ok6 hno (by decide)
            have hb6 : Hid (Below w.heap.size w w6) := hb5.out.trans (k6.mono hws1)
            have hBs6 : B < w6.heap.size := Nat.lt_of_lt_of_le hBs5 k6.size
            have hD1 : (D0 ++ (strB (rowN [0, S, PP])).data.toList).length ≤ 40 + 5000 * k := by
              have hq : (strB (rowN [0, S, PP])).data.toList.length = (strB (rowN [0, S, PP])).size := Array.length_toList
              rw [List.length_append, hq]
              omega
            clear hB7 k6 ok6 Ko5 HB6 hb5 hBs5
            generalize hU1 : D0 ++ (strB (rowN [0, S, PP])).data.toList = D1 at *
            go_wp2_with fail
            have hRS : (⟨(refsU za).toArray⟩ : ByteArray).size = (refsU za).length := by simp [ByteArray.size]
            refine (writek_any B B D1 ⟨(refsU za).toArray⟩ _ HB7.out (by rw [hRS]; omega) (Nat.le_of_lt hBs6)).mono ?_; rintro e w7 ⟨rfl, hB8, k7, ok7⟩
            have HB8 : Hid (Bld B B (D1 ++ refsU za) w7) := Lib.hid (by simpa using hB8)
            have Ko7 := blk_ok Ko6 ok7 hno (by decide)
            have hb7 : Hid (Below w.heap.size w w7) := hb6.out.trans (k7.mono hws1)
            have hBs7 : B < w7.heap.size := Nat.lt_of_lt_of_le hBs6 k7.size
            have hD2 : (D1 ++ refsU za).length ≤ 2600 + 5000 * k := by
              rw [List.length_append]
              omega
            clear hB8 k7 ok7 Ko6 HB7 hb6 hBs6
            generalize hU2 : D1 ++ refsU za = D2 at *
            obtain ⟨lo, co, fo⟩ := Ko7.get
            go_wp2_with fail
            refine (HWp.out _ hb7.out).mono ?_; rintro e w8 ⟨rfl, k8⟩
            have HB9 := Lib.hid (HB8.out.tr k8)
            have hb8 : Hid (Below w.heap.size w w8) := Lib.hid (kp_tr hb7.out k8)
            have hBs8 : B < w8.heap.size := Nat.lt_of_lt_of_le hBs7 k8.size
            clear k8 HB8 hb7 hBs7 lo co fo Ko7
            go_wp2_with fail
            refine (writek_any B B D2 (strB (wordsN zb)) _ HB9.out (by omega) (Nat.le_of_lt hBs8)).mono ?_; rintro e w9 ⟨rfl, hB10, k9, ok9⟩
            have HE : Hid (uP m ++ (os.take (k + 1)).flatMap (objU zs) = D2 ++ (strB (wordsN zb)).data.toList) := by
              show _ = _
              rw [HS.out, HOU.out, ← hU2, ← hU1, ← hU0]
              simp [List.append_assoc]
            have HB11 : Hid (Bld B B (uP m ++ (os.take (k + 1)).flatMap (objU zs)) w9) := by
              show Bld _ _ _ _
              rw [HE.out]
              exact hB10
            have hb9 : Hid (Below w.heap.size w w9) := hb8.out.trans (k9.mono hws1)
            have hBs9 : B < w9.heap.size := Nat.lt_of_lt_of_le hBs8 k9.size
            have hD3 : Hid ((uP m ++ (os.take (k + 1)).flatMap (objU zs)).length ≤ 10 + 5000 * (k + 1)) := by
              show _ ≤ _
              have hq : (strB (wordsN zb)).data.toList.length = (strB (wordsN zb)).size := Array.length_toList
              rw [HE.out, List.length_append, hq]
              omega
            clear hB10 k9 ok9 HB9 hb8 HE
            go_wp2_with fail
            exact ⟨⟨k + 1, by omega, by go_num, HNX2.out, HB11.out, hD3.out, hBs9, hb9.out⟩, by simp [intOf]; omega⟩
        · have hUl : (strB (rowN [1, T])).size ≤ 20 := by
            rw [strB_size]
            have h1 := putN_10 (v := 1) (by omega)
            have h2 := putN_10 (v := T) (by omega)
            simp [rowN]
            omega
          have HOU : Hid (objU zs ⟨(P0 : Int), (S : Int), (PP : Int), true, (T : Int)⟩ = (strB (rowN [1, T])).data.toList) := rfl
          have HNX2 := Lib.hid (HNX.out rfl)
          have HB4 := Lib.hid ((hB.out.tr ((Below.refl _ _).alloc (Nat.le_refl _) (.cells #[.int .i64 P0, .int .i64 S, .int .i64 PP, .bool true, .int .u64 T] 58))).tr ((Below.refl _ _).alloc (Nat.le_refl _) (.cells #[.int .u64 (1 : Nat), .int .u64 T] 24)))
          have hb4 : Hid (Below w.heap.size w ((wr.alloc (.cells #[.int .i64 P0, .int .i64 S, .int .i64 PP, .bool true, .int .u64 T] 58)).alloc (.cells #[.int .u64 (1 : Nat), .int .u64 T] 24))) := Lib.hid (by have := hb.out; (repeat (first | with_reducible exact Below.refl _ _ | with_reducible refine kp_alloc ?_ _ | with_reducible refine kp_drew ?_ | with_reducible refine below_drewN ?_ _ | with_reducible refine kp_set ?_ (by first | omega | (simp; done) | (simp; omega)) _ | with_reducible refine kp_tr ?_ (by with_reducible assumption))))
          have K6 : Blk ((wr.alloc (.cells #[.int .i64 P0, .int .i64 S, .int .i64 PP, .bool true, .int .u64 T] 58)).alloc (.cells #[.int .u64 (1 : Nat), .int .u64 T] 24)) (wr.heap.size + 1) #[.int .u64 (1 : Nat), .int .u64 T] 24 := Blk.mk (by simp)
          clear HNX HBD
          go_wp2_with fail
          refine (row2_any 1 T _ (wr.heap.size + 1) K6 (by omega) (by omega)).mono ?_; rintro e w5 ⟨rfl, k5⟩
          have HB6 := Lib.hid (HB4.out.tr k5)
          have hb5 : Hid (Below w.heap.size w w5) := Lib.hid (kp_tr hb4.out k5)
          have hBs5 : B < w5.heap.size := Nat.lt_of_lt_of_le hBs (Nat.le_trans (by simp) k5.size)
          clear k5 K6 HB4 hb4
          generalize hU0 : uP m ++ done0 = D0 at *
          go_wp2_with fail
          refine (writek_any B B D0 (strB (rowN [1, T])) _ HB6.out (by omega) (Nat.le_of_lt hBs5)).mono ?_; rintro e w6 ⟨rfl, hB7, k6, ok6⟩
          have HE : Hid (uP m ++ (os.take (k + 1)).flatMap (objU zs) = D0 ++ (strB (rowN [1, T])).data.toList) := by
            show _ = _
            rw [HS.out, HOU.out, ← hU0]
            simp [List.append_assoc]
          have HB11 : Hid (Bld B B (uP m ++ (os.take (k + 1)).flatMap (objU zs)) w6) := by
            show Bld _ _ _ _
            rw [HE.out]
            exact hB7
          have hb9 : Hid (Below w.heap.size w w6) := hb5.out.trans (k6.mono hws1)
          have hBs9 : B < w6.heap.size := Nat.lt_of_lt_of_le hBs5 k6.size
          have hD3 : Hid ((uP m ++ (os.take (k + 1)).flatMap (objU zs)).length ≤ 10 + 5000 * (k + 1)) := by
            show _ ≤ _
            have hq : (strB (rowN [1, T])).data.toList.length = (strB (rowN [1, T])).size := Array.length_toList
            rw [HE.out, List.length_append, hq]
            omega
          clear hB7 k6 ok6 HB6 hb5 HE
          go_wp2_with fail
          exact ⟨⟨k + 1, by omega, by go_num, HNX2.out, HB11.out, hD3.out, hBs9, hb9.out⟩, by simp [intOf]; omega⟩
      · obtain rfl : k = m := by omega
        have hok2 : os.take k = os := List.take_of_length_le (by have := HNO.out; omega)
        rw [hok2] at hB
        have HR2 : Hid (R = (⟨(uP k ++ os.flatMap (objU zs)).toArray⟩, 0)) := HR1.out.trans (if_pos (List.all_eq_true.2 fun x hx => by
          obtain ⟨i, hi, rfl⟩ := List.mem_iff_getElem.1 hx
          have h3 := hok.out i (by have := HNO.out; omega)
          have h4 : obD os i = os[i] := by simp [obD, List.getD, hi]
          rw [h4] at h3
          exact h3))
        clear hok hdl hok2
        go_wp2_with fail
        refine (string_any B B (uP k ++ os.flatMap (objU zs)) _ hB.out (Nat.le_of_lt hBs)).mono ?_; rintro e' w5 ⟨rfl, hB1, k5⟩
        have hb1 : Hid (Below w.heap.size w w5) := hb.out.trans (k5.mono hws1)
        clear hB1 k5 hB hb
        go_wp2_with fail
        go_ret2
        exact ⟨by rw [HR2.out]; rfl, hb1.out⟩
end Go.Proofs.YtpgjploaliefdaaGreat.im
