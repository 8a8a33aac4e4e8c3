/- image.Refs. No conditions. -/
import Derived.Test.YtpgjploaliefdaaGreatIa
import Derived.Test.YtpgjploaliefdaaGreatDh
import Derived.Shelf.Strings.BuilderK
namespace Go.Proofs.YtpgjploaliefdaaGreat.im
open Go Go.RowKit Go.Proofs.YtpgjploaliefdaaGreat.cm Go.Proofs.YtpgjploaliefdaaGreat.cw Go.Proofs.YtpgjploaliefdaaGreat.ga Go.Proofs.YtpgjploaliefdaaGreat.gr Go.Proofs.YtpgjploaliefdaaGreat.ob Go.Proofs.YtpgjploaliefdaaGreat.hd
open Go.Proofs.YtpgjploaliefdaaGreat.fr (OwnB leB leB_succ leB_len strB app_B bel_alloc putN putN_10 putN_pos strB_size byteV put_any)
set_option linter.unusedVariables false
set_option linter.unusedSimpArgs false
set_option maxRecDepth 100000
set_option maxHeartbeats 2000000
theorem refs_any (u : Value) (xs : List Int) (w : World) (hu : NumsIn w u xs) (hz : Small xs) (hl : xs.length < 1000000) :
    Calls Tryz.prog 17 #[u] w fun e w' => e = .returned (.tuple #[.string (refsR xs).1, .int .i64 (refsR xs).2]) ∧ Below w.heap.size w w' := by
  obtain ⟨ad, b, off, cap, rfl, ⟨h1, h2⟩, h3, ⟨h4, h4'⟩, h5, h6⟩ := hu
  have HZ : Hid (∀ i, 0 ≤ xs.getD i 0 ∧ xs.getD i 0 < 18446744073709551616) := hz
  have HZM : Hid (∀ x ∈ xs, 0 ≤ x ∧ x < 18446744073709551616) := small_mem hz
  have H1 := Lib.hid h1
  have H6 := Lib.hid h6
  have HR : Hid (refsR xs = if xs.all refOkB then (⟨(refsU xs).toArray⟩, 0) else (⟨#[]⟩, 3)) := rfl
  have HB0 : Hid (Bld w.heap.size w.heap.size [] (w.alloc (.cells #[.pointer none, .slice none 0 0] 93))) := Bld.fresh w
  have hB0 : Hid (Below w.heap.size w (w.alloc (.cells #[.pointer none, .slice none 0 0] 93))) := Lib.hid (by (repeat (first | with_reducible exact Below.refl _ _ | with_reducible refine kp_alloc ?_ _ | with_reducible refine kp_drew ?_ | with_reducible refine kp_set ?_ (by first | omega | (simp; done) | (simp; omega)) _ | with_reducible refine kp_tr ?_ (by with_reducible assumption))))
  generalize refsR xs = R at *
  clear h1 h2 h6 hz
  generalize hn : xs.length = n at *
  have HN := Lib.hid hn
  clear hn
  go_enter Tryz.func17, Tryz.ntmps17
  go_wp2_with fail
  go_loopw [11] (fun i wr => ∃ k : Nat, k ≤ n ∧ i = .int .i64 k ∧ Hid (∀ j, j < k → refOkB (xs.getD j 0) = true) ∧ Hid (Bld w.heap.size w.heap.size (refsU (xs.take k)) wr) ∧ Hid (Below w.heap.size w wr)) (fun i _ => n - (intOf i).toNat)
  case atStart => exact ⟨0, Nat.zero_le _, rfl, fun j hj => absurd hj (Nat.not_lt_zero _), HB0.out, hB0.out⟩
  case round =>
    obtain ⟨k, hk, rfl, hok, hB, hb⟩ := hrel
    clear HB0 hB0
    have hws := hb.out.size
    by_cases hlk : k < n
    · obtain rfl := H1.out (by omega)
      have hx := (H6.out.block (hb.out.block b h5)).at k hlk
      have hsm := HZ.out k
      have hdl : (refsU (xs.take k)).length ≤ 10000000 := by
        have := refsU_len (xs.take k) (fun x hx => HZM.out x (List.mem_of_mem_take hx))
        rw [List.length_take] at this
        omega
      have HS : Hid (refsU (xs.take (k + 1)) = refsU (xs.take k) ++ uP (adV (xs.getD k 0)).toNat) := refsU_snoc xs k (by have := HN.out; omega)
      have HNX : Hid (refOkB (xs.getD k 0) = true → ∀ j, j < k + 1 → refOkB (xs.getD j 0) = true) := fun e j hj => by
        rcases Nat.lt_or_ge j k with h | h
        · exact hok.out j h
        · obtain rfl : j = k := by omega
          exact e
      have HBD : Hid (refOkB (xs.getD k 0) = false → R = (⟨#[]⟩, 3)) := fun e => by
        rw [HR.out, if_neg]
        intro e2
        have hkl : k < xs.length := by have := HN.out; omega
        have h3 := List.all_eq_true.1 e2 xs[k] (List.getElem_mem hkl)
        have h4 : xs.getD k 0 = xs[k] := by simp [List.getD, hkl]
        rw [h4, h3] at e
        cases e
      clear hok
      generalize xs.getD k 0 = x at *
      generalize refsU (xs.take k) = done at *
      obtain ⟨hx1, hx2⟩ := hsm
      have hav := adV_in ⟨hx1, hx2⟩
      obtain ⟨Y, hY⟩ := Int.eq_ofNat_of_zero_le hav.1
      have hYl : Y < 18446744073709551616 := by omega
      have HA : Hid (∀ W, Calls Tryz.prog 52 #[.int .u64 x] W fun e w' => e = .returned (.tuple #[.int .u64 (adV x), .int .i64 (adE x)]) ∧ W = w') := Lib.hid fun W => addr_any x W hx1 hx2
      have HP : Hid (∀ W, Calls Tryz.prog 45 #[.int .u64 Y] W fun e w' => e = .returned (.string (strB (putN Y))) ∧ Below W.heap.size W w') := Lib.hid fun W => put_any Y W hYl
      have hul := uP_len hYl
      have HU : Hid (uP Y = (strB (putN Y)).data.toList) := rfl
      have HUL : (strB (putN Y)).size ≤ 10 := by
        have := hul.1
        rw [HU.out, Array.length_toList] at this
        exact this
      rw [hY] at HA HS
      have HS2 : Hid (refsU (xs.take (k + 1)) = done ++ (strB (putN Y)).data.toList) := HS.out
      clear HS HU hul
      generalize strB (putN Y) = S at *
      by_cases h0 : x = 0
      · subst h0
        obtain rfl : Y = 0 := by
          have : adV 0 = 0 := rfl
          omega
        have HN1 := Lib.hid (HNX.out rfl)
        clear HNX HBD
        go_wp2_with fail
        refine (HP.out _).mono ?_; rintro e' w1 ⟨rfl, k1⟩
        have HB1 : Hid (Bld w.heap.size w.heap.size done w1) := Lib.hid (hB.out.tr k1)
        have hb1 : Hid (Below w.heap.size w w1) := Lib.hid (by have := hb.out; (repeat (first | with_reducible exact Below.refl _ _ | with_reducible refine kp_alloc ?_ _ | with_reducible refine kp_drew ?_ | with_reducible refine kp_set ?_ (by first | omega | (simp; done) | (simp; omega)) _ | with_reducible refine kp_tr ?_ (by with_reducible assumption))))
        have hws1 := hb1.out.size
        clear k1 hB hb HP
        go_wp2_with fail
        refine (write_any w.heap.size w.heap.size done S _ HB1.out (by omega) hws1).mono ?_; rintro e' w2 ⟨rfl, hB2, k2⟩
        have HB2 := Lib.hid hB2
        have hb2 : Hid (Below w.heap.size w w2) := Lib.hid (hb1.out.trans k2)
        clear hB2 k2 HB1 hb1
        go_wp2_with fail
        exact ⟨⟨k + 1, by omega, by go_num, HN1.out, by show Bld _ _ _ _; rw [HS2.out]; exact HB2.out, hb2.out⟩, by simp [intOf]; omega⟩
      · have h0b : (x == 0) = false := beq_eq_false_iff_ne.mpr h0
        by_cases h1 : adE x = 0
        · have HN1 := Lib.hid (HNX.out (by simp [refOkB, h1]))
          rw [h1] at HA
          clear HNX HBD
          go_wp2_with fail
          refine (HA.out _).mono ?_; rintro e ww ⟨rfl, rfl⟩
          go_wp2_with fail
          refine (HP.out _).mono ?_; rintro e' w1 ⟨rfl, k1⟩
          have HB1 : Hid (Bld w.heap.size w.heap.size done w1) := Lib.hid (hB.out.tr k1)
          have hb1 : Hid (Below w.heap.size w w1) := Lib.hid (by have := hb.out; (repeat (first | with_reducible exact Below.refl _ _ | with_reducible refine kp_alloc ?_ _ | with_reducible refine kp_drew ?_ | with_reducible refine kp_set ?_ (by first | omega | (simp; done) | (simp; omega)) _ | with_reducible refine kp_tr ?_ (by with_reducible assumption))))
          have hws1 := hb1.out.size
          clear k1 hB hb HP
          go_wp2_with fail
          refine (write_any w.heap.size w.heap.size done S _ HB1.out (by omega) hws1).mono ?_; rintro e' w2 ⟨rfl, hB2, k2⟩
          have HB2 := Lib.hid hB2
          have hb2 : Hid (Below w.heap.size w w2) := Lib.hid (hb1.out.trans k2)
          clear hB2 k2 HB1 hb1
          go_wp2_with fail
          exact ⟨⟨k + 1, by omega, by go_num, HN1.out, by show Bld _ _ _ _; rw [HS2.out]; exact HB2.out, hb2.out⟩, by simp [intOf]; omega⟩
        · have h1b : (adE x == 0) = false := beq_eq_false_iff_ne.mpr h1
          have HR3 := Lib.hid (HBD.out (by simp [refOkB, h0, h1]))
          clear HNX HBD
          generalize adE x = z at *
          go_wp2_with fail
          refine (HA.out _).mono ?_; rintro e ww ⟨rfl, rfl⟩
          go_wp2_with fail
          go_ret2
          exact ⟨by rw [HR3.out]; rfl, hb.out⟩
    · obtain rfl : k = n := by omega
      have hxk : xs.take k = xs := List.take_of_length_le (by have := HN.out; omega)
      rw [hxk] at hB
      have HR2 : Hid (R = (⟨(refsU xs).toArray⟩, 0)) := by
        show _ = _
        rw [HR.out, if_pos]
        rw [List.all_eq_true]
        intro x hx
        obtain ⟨m, hm, rfl⟩ := List.mem_iff_getElem.1 hx
        have h3 := hok.out m (by have := HN.out; omega)
        have h4 : xs.getD m 0 = xs[m] := by simp [List.getD, hm]
        rw [h4] at h3
        exact h3
      go_wp2_with fail
      refine (string_any w.heap.size w.heap.size (refsU xs) _ hB.out hws).mono ?_; rintro e' w1 ⟨rfl, hB1, k1⟩
      have hb1 : Hid (Below w.heap.size w w1) := Lib.hid (hb.out.trans k1)
      clear hB1 k1 hB hb
      go_wp2_with fail
      go_ret2
      exact ⟨by rw [HR2.out]; rfl, hb1.out⟩
end Go.Proofs.YtpgjploaliefdaaGreat.im

namespace Go.Proofs.YtpgjploaliefdaaGreat.ck
open Go Go.RowKit Go.Proofs.YtpgjploaliefdaaGreat.hp Go.Proofs.YtpgjploaliefdaaGreat.ob Go.Proofs.YtpgjploaliefdaaGreat.hd Go.Proofs.YtpgjploaliefdaaGreat.cp Go.Proofs.YtpgjploaliefdaaGreat.mp Go.Proofs.YtpgjploaliefdaaGreat.cm Go.Proofs.YtpgjploaliefdaaGreat.gr
set_option linter.unusedVariables false
set_option linter.unusedSimpArgs false
set_option maxRecDepth 100000
set_option maxHeartbeats 4000000
variable {w0 w W : World} {p : Pl} {h : Hp} {v : Hv} {s : Fnd} {ov : Ov}
theorem right_any (h : Hp) (v : Hv) (w : World) (hin : HIn w h v) : Calls Tryz.prog 19 #[hpV h v] w fun e w' => e = .returned (.bool (lookF h).isSome) ∧ Below w.heap.size w w' := by
  have HL : Hid (∀ W, HIn W h v → Calls Tryz.prog 54 #[hpV h v] W fun e w' => LookPost W h v e w') := Lib.hid fun W hin => look_any h v W hin
  have HIN := Lib.hid hin
  obtain ⟨la, lc, e1⟩ := nums_form hin.low
  obtain ⟨ha, hc, e2⟩ := nums_form hin.high
  obtain ⟨oa, oc, e3⟩ := nums_form hin.old
  obtain ⟨fa, fc, e4⟩ := nums_form hin.far
  obtain ⟨ra, rc, e5⟩ := nums_form hin.roots
  clear hin
  obtain ⟨vl, vh, vo, vf, vr⟩ := v
  dsimp only at e1 e2 e3 e4 e5
  subst e1 e2 e3 e4 e5
  unfold hpV at *
  dsimp only at *
  have HI1 := Lib.hid (HIN.out.tr ((Below.refl _ _).alloc (Nat.le_refl _) (.cells #[.int .u64 h.base, .int .i64 h.cap, .int .i64 h.tt, .bool h.cyc, .int .i64 h.scan, .slice la h.low.length lc, .slice ha h.high.length hc, .slice oa h.old.length oc, .slice fa h.far.length fc, .slice ra h.roots.length rc] 32)))
  have HR : Hid ((lookF h).isSome = (lookF h).isSome) := rfl
  generalize hRR : (lookF h).isSome = R at *
  have HRR := Lib.hid hRR
  clear HR hRR
  go_enter Tryz.func19, Tryz.ntmps19
  go_wp2_with fail
  refine (HL.out _ HI1.out).mono ?_
  rintro e w1 (⟨hn, rfl, hb⟩ | ⟨p, s, ov, hn, rfl, hst⟩)
  · obtain rfl : R = false := by rw [← HRR.out, hn]; rfl
    have HB := Lib.hid hb
    clear hn hb
    go_wp2_with fail
    go_ret
    refine ⟨rfl, ?_⟩
    have := HB.out
    (repeat (first | with_reducible exact Below.refl _ _ | with_reducible refine kp_alloc ?_ _ | with_reducible refine kp_drew ?_ | with_reducible refine below_drewN ?_ _ | with_reducible refine kp_set ?_ (by first | omega | (simp; done) | (simp; omega)) _ | with_reducible refine kp_tr ?_ (by with_reducible assumption)))
  · obtain rfl : R = true := by rw [← HRR.out, hn]; rfl
    have HB := Lib.hid hst.bel
    clear hn hst
    go_wp2_with fail
    go_ret
    refine ⟨rfl, ?_⟩
    have := HB.out
    (repeat (first | with_reducible exact Below.refl _ _ | with_reducible refine kp_alloc ?_ _ | with_reducible refine kp_drew ?_ | with_reducible refine below_drewN ?_ _ | with_reducible refine kp_set ?_ (by first | omega | (simp; done) | (simp; omega)) _ | with_reducible refine kp_tr ?_ (by with_reducible assumption)))
/-- What check.Objects tells of a part. -/
def ObjsPost (w : World) (h : Hp) (q : Nat) (e : Ending) (w' : World) : Prop :=
  (lookF h = none ∧ e = .returned (.tuple #[.slice none 0 0, .int .i64 1])) ∨ (∃ s u, lookF h = some s ∧ e = .returned (.tuple #[u, .int .i64 0]) ∧ ObsAt w' w.heap.size u (s.obs q))
theorem objects_any (h : Hp) (v : Hv) (q : Nat) (hq : 1 ≤ q ∧ q ≤ 4) (w : World) (hin : HIn w h v) : Calls Tryz.prog 28 #[hpV h v, .int .i64 q] w fun e w' => ObjsPost w h q e w' ∧ Below w.heap.size w w' := by
  have HL : Hid (∀ W, HIn W h v → Calls Tryz.prog 54 #[hpV h v] W fun e w' => LookPost W h v e w') := Lib.hid fun W hin => look_any h v W hin
  have HIN := Lib.hid hin
  obtain ⟨la, lc, e1⟩ := nums_form hin.low
  obtain ⟨ha, hc, e2⟩ := nums_form hin.high
  obtain ⟨oa, oc, e3⟩ := nums_form hin.old
  obtain ⟨fa, fc, e4⟩ := nums_form hin.far
  obtain ⟨ra, rc, e5⟩ := nums_form hin.roots
  clear hin
  obtain ⟨vl, vh, vo, vf, vr⟩ := v
  dsimp only at e1 e2 e3 e4 e5
  subst e1 e2 e3 e4 e5
  unfold hpV at *
  dsimp only at *
  have HI1 := Lib.hid (HIN.out.tr ((Below.refl _ _).alloc (Nat.le_refl _) (.cells #[.int .u64 h.base, .int .i64 h.cap, .int .i64 h.tt, .bool h.cyc, .int .i64 h.scan, .slice la h.low.length lc, .slice ha h.high.length hc, .slice oa h.old.length oc, .slice fa h.far.length fc, .slice ra h.roots.length rc] 32)))
  obtain ⟨hq1, hq2⟩ := hq
  have i1 : ¬ (q : Int) < 1 := by omega
  have i2 : ¬ (4 : Int) < q := by omega
  go_enter Tryz.func28, Tryz.ntmps28
  go_wp2_with fail
  refine (HL.out _ HI1.out).mono ?_
  rintro e w1 (⟨hn, rfl, hb⟩ | ⟨p, s, ov, hn, rfl, hst⟩)
  · have HB := Lib.hid hb
    have HN := Lib.hid hn
    clear hn hb
    go_wp2_with fail
    go_ret2
    refine ⟨.inl ⟨HN.out, rfl⟩, ?_⟩
    have := HB.out
    (repeat (first | with_reducible exact Below.refl _ _ | with_reducible refine kp_alloc ?_ _ | with_reducible refine kp_drew ?_ | with_reducible refine below_drewN ?_ _ | with_reducible refine kp_set ?_ (by first | omega | (simp; done) | (simp; omega)) _ | with_reducible refine kp_tr ?_ (by with_reducible assumption)))
  · have HB := Lib.hid hst.bel
    have HN := Lib.hid hn
    have HS := Lib.hid hst
    obtain ⟨lb, cb, fb⟩ := hst.blk.get
    have hcq : w1.cell? ⟨p.b, 17 + (q - 1), none⟩ = some (ov.part q) := (cb _).trans (ov_cell _ _ _ _ _ _ ⟨hq1, hq2⟩)
    obtain ⟨oa', oc', eo⟩ := obs_form (hst.obs q).1
    rw [eo] at hcq
    clear hn hst cb fb
    go_wp2_with fail
    go_ret2
    refine ⟨.inr ⟨s, _, HN.out, rfl, ?_⟩, ?_⟩
    · rw [← eo]
      have h1 := HS.out.ok.b0
      have h2 := HS.out.ok.b1
      exact obs_lift (HS.out.obs q).1 (by simp at h1; omega)
    · have := HB.out
      (repeat (first | with_reducible exact Below.refl _ _ | with_reducible refine kp_alloc ?_ _ | with_reducible refine kp_drew ?_ | with_reducible refine below_drewN ?_ _ | with_reducible refine kp_set ?_ (by first | omega | (simp; done) | (simp; omega)) _ | with_reducible refine kp_tr ?_ (by with_reducible assumption)))
end Go.Proofs.YtpgjploaliefdaaGreat.ck

namespace Go.Proofs.YtpgjploaliefdaaGreat.im
open Go Go.RowKit Go.Proofs.YtpgjploaliefdaaGreat.cm Go.Proofs.YtpgjploaliefdaaGreat.cw Go.Proofs.YtpgjploaliefdaaGreat.ga Go.Proofs.YtpgjploaliefdaaGreat.gr Go.Proofs.YtpgjploaliefdaaGreat.ob Go.Proofs.YtpgjploaliefdaaGreat.hd Go.Proofs.YtpgjploaliefdaaGreat.cp
open Go.Proofs.YtpgjploaliefdaaGreat.fr (OwnB leB leB_succ leB_len strB app_B bel_alloc putN putN_10 putN_pos strB_size byteV put_any rowN row_any)
set_option linter.unusedVariables false
set_option linter.unusedSimpArgs false
set_option maxRecDepth 100000
set_option maxHeartbeats 2000000
/-- Numbers from a place on. -/
def sub (zs : List Int) (a n : Nat) : List Int := (zs.take (a + n)).drop a
theorem sub_len {zs : List Int} {a n : Nat} (h : a + n ≤ zs.length) : (sub zs a n).length = n := by simp [sub]; omega
theorem sub_get {zs : List Int} {a n i : Nat} (hi : i < n) : (sub zs a n).getD i 0 = zs.getD (a + i) 0 := by
  unfold sub
  simp only [List.getD, List.getElem?_drop, List.getElem?_take]
  rw [if_pos (by omega)]
theorem sub_small {zs : List Int} (h : Small zs) (a n : Nat) : Small (sub zs a n) := fun i => by
  by_cases hi : i < n
  · rw [sub_get hi]; exact h _
  · have : (sub zs a n).getD i 0 = 0 := by
      unfold sub
      simp only [List.getD, List.getElem?_drop, List.getElem?_take]
      rw [if_neg (by omega)]
      rfl
    rw [this]
    exact ⟨Int.le_refl _, by decide⟩
/-- A part of numbers that are read. -/
theorem nums_sub {W : World} {zs : List Int} {b off cap a n : Nat} {ad : Option Addr} (hw : WordsAt W b off zs.length zs) (hb : b < W.heap.size) (hl : zs.length < 1000000000000) (hc : zs.length ≤ cap) (hc2 : cap < 9223372036854775808) (h : a + n ≤ zs.length) (had : 0 < n → ad = some ⟨b, off + a, none⟩) (hnone : ad = none → cap - a = 0) : NumsIn W (.slice ad n (cap - a)) (sub zs a n) := by
  have hsl := sub_len h
  refine ⟨ad, b, off + a, cap - a, by rw [hsl], ⟨fun h => had (by omega), hnone⟩, by omega, by omega, hb, words_of fun i hi => ?_⟩
  rw [hsl] at hi
  rw [sub_get hi, Nat.add_assoc]
  exact hw.at (a + i) (by omega)
theorem row2_any (x y : Nat) (w : World) (b : Nat) (hb : Blk w b #[.int .u64 x, .int .u64 y] 24) (hx : x < 18446744073709551616) (hy : y < 18446744073709551616) :
    Calls Tryz.prog 46 #[.slice (some ⟨b, 0, none⟩) 2 2] w fun e w' => e = .returned (.string (strB (rowN [x, y]))) ∧ Below w.heap.size w w' := by
  obtain ⟨lb, cb, fb⟩ := hb.get
  exact row_any b 2 [x, y] w (fun i hi => by rcases (show i = 0 ∨ i = 1 by simp at hi; omega) with rfl | rfl <;> exact cb _) (fun i => by rcases i with _ | _ | i <;> simp [List.getD] <;> omega) (by simp) (by simp)
theorem row3_any (x y z : Nat) (w : World) (b : Nat) (hb : Blk w b #[.int .u64 x, .int .u64 y, .int .u64 z] 24) (hx : x < 18446744073709551616) (hy : y < 18446744073709551616) (hz : z < 18446744073709551616) :
    Calls Tryz.prog 46 #[.slice (some ⟨b, 0, none⟩) 3 3] w fun e w' => e = .returned (.string (strB (rowN [x, y, z]))) ∧ Below w.heap.size w w' := by
  obtain ⟨lb, cb, fb⟩ := hb.get
  exact row_any b 3 [x, y, z] w (fun i hi => by rcases (show i = 0 ∨ i = 1 ∨ i = 2 by simp at hi; omega) with rfl | rfl | rfl <;> exact cb _) (fun i => by rcases i with _ | _ | _ | i <;> simp [List.getD] <;> omega) (by simp) (by simp)
def uRow (l : List Nat) : List UInt8 := (strB (rowN l)).data.toList
def uWords (zs : List Int) : List UInt8 := (strB (wordsN zs)).data.toList
/-- An object's bytes. -/
def objU (zs : List Int) (o : Ob) : List UInt8 := if o.g then uRow [1, o.t.toNat] else uRow [0, o.s.toNat, o.p.toNat] ++ refsU (sub zs (o.pos.toNat + 1) o.p.toNat) ++ uWords (sub zs (o.pos.toNat + 1 + o.p.toNat) (o.s.toNat - o.p.toNat))
def objOk (zs : List Int) (o : Ob) : Bool := o.g || (sub zs (o.pos.toNat + 1) o.p.toNat).all refOkB
def objsR (zs : List Int) (os : List Ob) : ByteArray × Int :=
  if (kindsF zs.length os []).isNone then (⟨#[]⟩, 1) else if os.all (objOk zs) then (⟨(uP os.length ++ os.flatMap (objU zs)).toArray⟩, 0) else (⟨#[]⟩, 3)
/-- Kinds that are told: the objects are among the words. -/
theorem kinds_fit {len : Nat} : ∀ {os : List Ob} {acc l : List Int}, kindsF len os acc = some l → ∀ o ∈ os, FitB len o
  | [], acc, l, h, o, ho => by simp at ho
  | c :: os, acc, l, h, o, ho => by
    have h : (if kindBad len acc c then none else kindsF len os (acc ++ kindO c)) = some l := h
    split at h
    · cases h
    · rename_i hb
      rcases List.mem_cons.1 ho with rfl | ho
      · have h1 : o.pos = acc.length := Decidable.byContradiction fun e => hb (.inl e)
        have h2 : rightB o.s o.p = true := by
          rcases e : rightB o.s o.p with _ | _
          · exact absurd (.inr (.inr (.inl e))) hb
          · rfl
        have h3 : ¬ (len : Int) - o.pos - 1 < o.s := fun e => hb (.inr (.inr (.inr e)))
        obtain ⟨r1, r2, r3, r4⟩ := rightB_t h2
        exact ⟨by omega, r1, r2, r3, r4, by omega⟩
      · exact kinds_fit h o ho
/-- A write into a builder of one's own: what is no row of bytes stays. -/
theorem writek_any (B b : Nat) (l : List UInt8) (s : ByteArray) (w : World) (h : Bld B b l w) (hlen : l.length + s.size < 100000000000000) (hB : B ≤ w.heap.size) :
    Calls Tryz.prog 44 #[.pointer (some ⟨b, 0, none⟩), .string s] w fun e w' => e = .returned (.tuple #[.int .i64 s.size, .nilIface]) ∧ Bld B b (l ++ s.data.toList) w' ∧ Below B w w' ∧ Lib.OthersKept 5 (some b) w w' := by
  unfold Bld at *
  refine (Any.Builder_WriteString_k lays166 layX B b (Lib.byteCells l) s w h (by rw [Lib.byteCells_length]; omega) hB).mono ?_
  rintro e w' ⟨rfl, h1, h2, h3⟩
  refine ⟨rfl, .inr ?_, h2, h3⟩
  have e : Lib.byteCells (l ++ s.data.toList) = Lib.byteCells l ++ Lib.strCells s := by simp [Lib.byteCells, Lib.strCells]
  rw [e]
  exact h1
theorem blk_ok {w w' : World} {n b : Nat} {cs : Array Value} {T : TypeId} (h : Blk w n cs T) (ho : Lib.OthersKept 5 (some b) w w') (hn : n ≠ b) (hT : T ≠ 5) : Blk w' n cs T :=
  Blk.of (ho n _ h.raw (fun e => hn (Option.some.inj e)) (fun c fz e => hT (by cases e; rfl)))
end Go.Proofs.YtpgjploaliefdaaGreat.im
