/- image.Refs. No conditions. -/
import Derived.Test.YtpgjploaliefdaaIa
namespace Go.Proofs.Ytpgjploaliefdaa.im
open Go Go.RowKit Go.Proofs.Ytpgjploaliefdaa.cm Go.Proofs.Ytpgjploaliefdaa.cw Go.Proofs.Ytpgjploaliefdaa.ga Go.Proofs.Ytpgjploaliefdaa.gr Go.Proofs.Ytpgjploaliefdaa.ob Go.Proofs.Ytpgjploaliefdaa.hd
open Go.Proofs.Ytpgjploaliefdaa.fr (OwnB leB leB_succ leB_len strB app_B bel_alloc putN putN_10 putN_pos strB_size byteV put_any)
set_option linter.unusedVariables false
set_option linter.unusedSimpArgs false
set_option maxRecDepth 100000
set_option maxHeartbeats 2000000
theorem refs_any (u : Value) (xs : List Int) (w : World) (hu : NumsIn w u xs) (hz : Small xs) (hl : xs.length < 1000000) :
    Calls Try.prog 5 #[u] w fun e w' => e = .returned (.tuple #[.string (refsR xs).1, .int .i64 (refsR xs).2]) ∧ Below w.heap.size w w' := by
  obtain ⟨ad, b, off, cap, rfl, ⟨h1, h2⟩, h3, ⟨h4, h4'⟩, h5, h6⟩ := hu
  have HZ : Hid (∀ i, 0 ≤ xs.getD i 0 ∧ xs.getD i 0 < 18446744073709551616) := hz
  have HZM : Hid (∀ x ∈ xs, 0 ≤ x ∧ x < 18446744073709551616) := small_mem hz
  have H1 := Lib.hid h1
  have H6 := Lib.hid h6
  have HR : Hid (refsR xs = if xs.all refOkB then (⟨(refsU xs).toArray⟩, 0) else (⟨#[]⟩, 3)) := rfl
  have HB0 : Hid (Bld w.heap.size w.heap.size [] (w.alloc (.cells #[.pointer none, .slice none 0 0] 44))) := Bld.fresh w
  have hB0 : Hid (Below w.heap.size w (w.alloc (.cells #[.pointer none, .slice none 0 0] 44))) := Lib.hid (by (repeat (first | with_reducible exact Below.refl _ _ | with_reducible refine kp_alloc ?_ _ | with_reducible refine kp_drew ?_ | with_reducible refine kp_set ?_ (by first | omega | (simp; done) | (simp; omega)) _ | with_reducible refine kp_tr ?_ (by with_reducible assumption))))
  generalize refsR xs = R at *
  clear h1 h2 h6 hz
  generalize hn : xs.length = n at *
  have HN := Lib.hid hn
  clear hn
  go_enter Try.func5, Try.ntmps5
  go_wp2_with fail
  go_loopw [11] (fun i wr => ∃ k : Nat, k ≤ n ∧ i = .int .i64 k ∧ Hid (∀ j, j < k → refOkB (xs.getD j 0) = true) ∧ Hid (Bld w.heap.size w.heap.size (refsU (xs.take k)) wr) ∧ Hid (Below w.heap.size w wr)) (fun i _ => n - (intOf i).toNat)
  case atStart => exact ⟨0, Nat.zero_le _, rfl, fun j hj => absurd hj (Nat.not_lt_zero _), HB0.out, hB0.out⟩
  case round =>
    obtain ⟨k, hk, rfl, hok, hB, hb⟩ := hrel
    clear HB0 hB0
    have hws := hb.out.size
    by_cases hlk : k < n
    · obtain rfl := H1.out (by omega)
      have hx := (H6.out.block (hb.out.block b h5)).at k hlk
      have hsm := HZ.out k
      have hdl : (refsU (xs.take k)).length ≤ 10000000 := by
        have := refsU_len (xs.take k) (fun x hx => HZM.out x (List.mem_of_mem_take hx))
        rw [List.length_take] at this
        omega
      have HS : Hid (refsU (xs.take (k + 1)) = refsU (xs.take k) ++ uP (adV (xs.getD k 0)).toNat) := refsU_snoc xs k (by have := HN.out; omega)
      have HNX : Hid (refOkB (xs.getD k 0) = true → ∀ j, j < k + 1 → refOkB (xs.getD j 0) = true) := fun e j hj => by
        rcases Nat.lt_or_ge j k with h | h
        · exact hok.out j h
        · obtain rfl : j = k := by omega
          exact e
      have HBD : Hid (refOkB (xs.getD k 0) = false → R = (⟨#[]⟩, 3)) := fun e => by
        rw [HR.out, if_neg]
        intro e2
        have hkl : k < xs.length := by have := HN.out; omega
        have h3 := List.all_eq_true.1 e2 xs[k] (List.getElem_mem hkl)
        have h4 : xs.getD k 0 = xs[k] := by simp [List.getD, hkl]
        rw [h4, h3] at e
        cases e
      clear hok
      generalize xs.getD k 0 = x at *
      generalize refsU (xs.take k) = done at *
      obtain ⟨hx1, hx2⟩ := hsm
      have hav := adV_in ⟨hx1, hx2⟩
      obtain ⟨Y, hY⟩ := Int.eq_ofNat_of_zero_le hav.1
      have hYl : Y < 18446744073709551616 := by omega
      have HA : Hid (∀ W, Calls Try.prog 10 #[.int .u64 x] W fun e w' => e = .returned (.tuple #[.int .u64 (adV x), .int .i64 (adE x)]) ∧ W = w') := Lib.hid fun W => addr_any x W hx1 hx2
      have HP : Hid (∀ W, Calls Try.prog 12 #[.int .u64 Y] W fun e w' => e = .returned (.string (strB (putN Y))) ∧ Below W.heap.size W w') := Lib.hid fun W => put_any Y W hYl
      have hul := uP_len hYl
      have HU : Hid (uP Y = (strB (putN Y)).data.toList) := rfl
      have HUL : (strB (putN Y)).size ≤ 10 := by
        have := hul.1
        rw [HU.out, Array.length_toList] at this
        exact this
      rw [hY] at HA HS
      have HS2 : Hid (refsU (xs.take (k + 1)) = done ++ (strB (putN Y)).data.toList) := HS.out
      clear HS HU hul
      generalize strB (putN Y) = S at *
      by_cases h0 : x = 0
      · subst h0
        obtain rfl : Y = 0 := by
          have : adV 0 = 0 := rfl
          omega
        have HN1 := Lib.hid (HNX.out rfl)
        clear HNX HBD
        go_wp2_with fail
        refine (HP.out _).mono ?_; rintro e' w1 ⟨rfl, k1⟩
        have HB1 : Hid (Bld w.heap.size w.heap.size done w1) := Lib.hid (hB.out.tr k1)
        have hb1 : Hid (Below w.heap.size w w1) := Lib.hid (by have := hb.out; (repeat (first | with_reducible exact Below.refl _ _ | with_reducible refine kp_alloc ?_ _ | with_reducible refine kp_drew ?_ | with_reducible refine kp_set ?_ (by first | omega | (simp; done) | (simp; omega)) _ | with_reducible refine kp_tr ?_ (by with_reducible assumption))))
        have hws1 := hb1.out.size
        clear k1 hB hb HP
        go_wp2_with fail
        refine (write_any w.heap.size w.heap.size done S _ HB1.out (by omega) hws1).mono ?_; rintro e' w2 ⟨rfl, hB2, k2⟩
        have HB2 := Lib.hid hB2
        have hb2 : Hid (Below w.heap.size w w2) := Lib.hid (hb1.out.trans k2)
        clear hB2 k2 HB1 hb1
        go_wp2_with fail
        exact ⟨⟨k + 1, by omega, by go_num, HN1.out, by show Bld _ _ _ _; rw [HS2.out]; exact HB2.out, hb2.out⟩, by simp [intOf]; omega⟩
      · have h0b : (x == 0) = false := beq_eq_false_iff_ne.mpr h0
        by_cases h1 : adE x = 0
        · have HN1 := Lib.hid (HNX.out (by simp [refOkB, h1]))
          rw [h1] at HA
          clear HNX HBD
          go_wp2_with fail
          refine (HA.out _).mono ?_; rintro e ww ⟨rfl, rfl⟩
          go_wp2_with fail
          refine (HP.out _).mono ?_; rintro e' w1 ⟨rfl, k1⟩
          have HB1 : Hid (Bld w.heap.size w.heap.size done w1) := Lib.hid (hB.out.tr k1)
          have hb1 : Hid (Below w.heap.size w w1) := Lib.hid (by have := hb.out; (repeat (first | with_reducible exact Below.refl _ _ | with_reducible refine kp_alloc ?_ _ | with_reducible refine kp_drew ?_ | with_reducible refine kp_set ?_ (by first | omega | (simp; done) | (simp; omega)) _ | with_reducible refine kp_tr ?_ (by with_reducible assumption))))
          have hws1 := hb1.out.size
          clear k1 hB hb HP
          go_wp2_with fail
          refine (write_any w.heap.size w.heap.size done S _ HB1.out (by omega) hws1).mono ?_; rintro e' w2 ⟨rfl, hB2, k2⟩
          have HB2 := Lib.hid hB2
          have hb2 : Hid (Below w.heap.size w w2) := Lib.hid (hb1.out.trans k2)
          clear hB2 k2 HB1 hb1
          go_wp2_with fail
          exact ⟨⟨k + 1, by omega, by go_num, HN1.out, by show Bld _ _ _ _; rw [HS2.out]; exact HB2.out, hb2.out⟩, by simp [intOf]; omega⟩
        · have h1b : (adE x == 0) = false := beq_eq_false_iff_ne.mpr h1
          have HR3 := Lib.hid (HBD.out (by simp [refOkB, h0, h1]))
          clear HNX HBD
          generalize adE x = z at *
          go_wp2_with fail
          refine (HA.out _).mono ?_; rintro e ww ⟨rfl, rfl⟩
          go_wp2_with fail
          go_ret2
          exact ⟨by rw [HR3.out]; rfl, hb.out⟩
    · obtain rfl : k = n := by omega
      have hxk : xs.take k = xs := List.take_of_length_le (by have := HN.out; omega)
      rw [hxk] at hB
      have HR2 : Hid (R = (⟨(refsU xs).toArray⟩, 0)) := by
        show _ = _
        rw [HR.out, if_pos]
        rw [List.all_eq_true]
        intro x hx
        obtain ⟨m, hm, rfl⟩ := List.mem_iff_getElem.1 hx
        have h3 := hok.out m (by have := HN.out; omega)
        have h4 : xs.getD m 0 = xs[m] := by simp [List.getD, hm]
        rw [h4] at h3
        exact h3
      go_wp2_with fail
      refine (string_any w.heap.size w.heap.size (refsU xs) _ hB.out hws).mono ?_; rintro e' w1 ⟨rfl, hB1, k1⟩
      have hb1 : Hid (Below w.heap.size w w1) := Lib.hid (hb.out.trans k1)
      clear hB1 k1 hB hb
      go_wp2_with fail
      go_ret2
      exact ⟨by rw [HR2.out]; rfl, hb1.out⟩
end Go.Proofs.Ytpgjploaliefdaa.im
