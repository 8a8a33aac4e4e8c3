/- HeaderOrder, HeaderSlots, HeaderNext: the walks. No conditions. -/
import Derived.Test.YtnhpjlgmkfbojaaHd
import Derived.Deep.RegionHeld3
namespace Go.Proofs.Ytnhpjlgmkfbojaa.hd
open Go.RowKit
set_option linter.unusedVariables false
set_option linter.unusedSimpArgs false
theorem lt_dbl (p q : Int) : (decide (2 * p + 1 < 2 * q + 1) == decide (p < q)) = true := by
  by_cases h : p < q
  · have e2 : decide (2 * p + 1 < 2 * q + 1) = true := by simp; omega
    have e3 : decide (p < q) = true := by simp; omega
    simp [e2, e3]
  · have e2 : decide (2 * p + 1 < 2 * q + 1) = false := by simp; omega
    have e3 : decide (p < q) = false := by simp; omega
    simp [e2, e3]
theorem order_walk (a0 a1 more x y : Int) (w : World) (ha0 : -9223372036854775808 ≤ a0 ∧ a0 < 9223372036854775808) (ha1 : -9223372036854775808 ≤ a1 ∧ a1 < 9223372036854775808)
    (hm : -9223372036854775808 ≤ more ∧ more < 9223372036854775808) (hx : 0 ≤ x ∧ x < 18446744073709551616) (hy : 0 ≤ y ∧ y < 18446744073709551616) :
    Calls Try.prog 6 #[.agg #[.int .i64 a0, .int .i64 a1], .int .i64 more, .int .u64 x, .int .u64 y] w fun e w' => e = .returned (.bool true) ∧ Below w.heap.size w w' := by
  go_enter Try.func6, Try.ntmps6
  go_wp2_with fail
  refine (awake_any _).mono ?_; rintro e w1 ⟨rfl, k1⟩
  obtain ⟨k1c, k1f⟩ := bcell k1
  have k1z := k1.size
  have Ka : Blk w1 w.heap.size #[.int .i64 a0, .int .i64 a1] 23 := (Blk.mk rfl).tr k1
  obtain ⟨la, ca, fa⟩ := Ka.get
  clear k1c k1f
  go_wp2_with fail
  refine (pick_ex _ _ _ (by omega) (by omega) (by omega) (by omega)).mono ?_; rintro e ww ⟨⟨s0, s0g, s0l, rfl⟩, rfl⟩
  go_wp2_with fail
  refine (pick_ex _ _ _ (by omega) (by omega) (by omega) (by omega)).mono ?_; rintro e ww ⟨⟨s1, s1g, s1l, rfl⟩, rfl⟩
  go_wp2_with fail
  have Ks0 : Blk _ w1.heap.size #[.int .i64 s0, .int .i64 s1] 23 := Blk.new w1 _ _
  obtain ⟨ls0, cs0, fs0⟩ := Ks0.get
  go_region_held3 (fun w' => w'.cell? ⟨w1.heap.size, 0, none⟩ = some (.int .i64 s0) ∧ w'.cell? ⟨w1.heap.size, 1, none⟩ = some (.int .i64 s1)) (go_keep)
    (first | (go_at_call 10; refine (pick_ex _ _ _ (by omega) (by omega) (by omega) (by omega)).mono ?_; rintro e ww ⟨⟨m0, m0g, m0l, rfl⟩, rfl⟩))
  all_goals
    rw [IntWalk.i64_in (s0 + 1) (by omega), IntWalk.i64_in (s0 + 1 + m0) (by omega)]
    go_wp2_with fail
    refine (pack_ok _ _ _ (by omega)).mono ?_; rintro e w2 ⟨rfl, k2⟩
    obtain ⟨k2c, k2f⟩ := bcell k2
    have k2z := k2.size
    have Ks : Blk w2 w1.heap.size #[.int .i64 s0, .int .i64 s1] 23 := Blk.tr (by (repeat (first | with_reducible assumption | exact Blk.mk rfl | exact Blk.mk (by simp) | refine Blk.drew ?_ | refine Blk.alloc ?_ _ | refine Blk.tr ?_ (by with_reducible assumption)))) k2
    have Kt : Blk w2 (w1.heap.size + 1) #[.int .i64 (s0 + 1 + m0), .int .i64 s1] 23 := Blk.tr (by (repeat (first | with_reducible assumption | exact Blk.mk rfl | exact Blk.mk (by simp) | refine Blk.drew ?_ | refine Blk.alloc ?_ _ | refine Blk.tr ?_ (by with_reducible assumption)))) k2
    obtain ⟨ls, cs, fs⟩ := Ks.get
    obtain ⟨lt, ct, ft⟩ := Kt.get
    clear k2c k2f ca fa cs0 fs0 ls0
    go_wp2_with fail
    refine (pack_ok _ _ _ (by omega)).mono ?_; rintro e w3 ⟨rfl, k3⟩
    obtain ⟨k3c, k3f⟩ := bcell k3
    have k3z := k3.size
    obtain ⟨p, hp, hp1, hp2⟩ := or1_ex x hx
    obtain ⟨q, hq, hq1, hq2⟩ := or1_ex y hy
    go_wp2_with fail
    refine (ref_ok _ _ (by omega)).mono ?_; rintro e ww ⟨rfl, rfl⟩
    go_wp2_with fail
    refine (ref_ok _ _ (by omega)).mono ?_; rintro e ww ⟨rfl, rfl⟩
    clear hp hq
    have g1 : (2 * s0 + 131072 * s1) % 2 = 0 := by omega
    have g2 : (2 * p + 1) % 2 = 1 := by omega
    go_wp2_with fail
    go_ret
    exact retB (by first | rfl | exact lt_dbl p q | simp [lt_dbl]) (by (repeat (first | exact Below.refl _ _ | refine kp_alloc ?_ _ | refine kp_drew ?_ | refine kp_set ?_ (by first | (simp; done) | (simp; omega) | omega) _ | refine kp_tr ?_ (by with_reducible assumption))))
set_option maxHeartbeats 1000000 in
theorem slots_walk (a0 a1 : Int) (w : World) (ha0 : -9223372036854775808 ≤ a0 ∧ a0 < 9223372036854775808) (ha1 : -9223372036854775808 ≤ a1 ∧ a1 < 9223372036854775808) :
    Calls Try.prog 7 #[.agg #[.int .i64 a0, .int .i64 a1]] w fun e w' => e = .returned (.bool true) ∧ Below w.heap.size w w' := by
  go_enter Try.func7, Try.ntmps7
  go_wp2_with fail
  refine (awake_any _).mono ?_; rintro e w1 ⟨rfl, k1⟩
  obtain ⟨k1c, k1f⟩ := bcell k1
  have k1z := k1.size
  have Ka : Blk w1 w.heap.size #[.int .i64 a0, .int .i64 a1] 23 := (Blk.mk rfl).tr k1
  obtain ⟨la, ca, fa⟩ := Ka.get
  clear k1c k1f
  go_wp2_with fail
  refine (pick_ex _ _ _ (by omega) (by omega) (by omega) (by omega)).mono ?_; rintro e ww ⟨⟨s0, s0g, s0l, rfl⟩, rfl⟩
  go_wp2_with fail
  refine (pick_ex _ _ _ (by omega) (by omega) (by omega) (by omega)).mono ?_; rintro e ww ⟨⟨s1, s1g, s1l, rfl⟩, rfl⟩
  go_wp2_with fail
  refine (pack_ok _ _ _ (by omega)).mono ?_; rintro e w2 ⟨rfl, k2⟩
  obtain ⟨k2c, k2f⟩ := bcell k2
  have k2z := k2.size
  have Ks : Blk w2 w1.heap.size #[.int .i64 s0, .int .i64 s1] 23 := (Blk.mk rfl).tr k2
  obtain ⟨ls, cs, fs⟩ := Ks.get
  clear k2c k2f ca fa
  go_wp2_with fail
  have Km : Blk _ w2.heap.size #[.int .i64 (s0 + 1), .int .i64 s1] 23 := Blk.mk rfl
  replace Ks := Ks.alloc (.cells #[.int .i64 (s0 + 1), .int .i64 s1] 23)
  by_cases c1 : s0 < 255 <;> by_cases c2 : s1 < s0
  · go_wp2_with fail
    refine (pack_ok _ _ _ (by omega)).mono ?_; rintro e w3 ⟨rfl, k3⟩
    obtain ⟨k3c, k3f⟩ := bcell k3
    have k3z := k3.size
    replace Ks := Ks.tr k3
    obtain ⟨ls, cs, fs⟩ := Ks.get
    replace Km := Km.tr k3
    obtain ⟨lm, cm, fm⟩ := Km.get
    clear k3c k3f
    go_wp2_with fail
    refine (pack_ok _ _ _ (by omega)).mono ?_; rintro e w4 ⟨rfl, k4⟩
    obtain ⟨k4c, k4f⟩ := bcell k4
    have k4z := k4.size
    have Kp : Blk w4 w3.heap.size #[.int .i64 s0, .int .i64 (s1 + 1)] 23 := (Blk.mk rfl).tr k4
    obtain ⟨lp, cp, fp⟩ := Kp.get
    replace Km := (Km.alloc (.cells #[.int .i64 s0, .int .i64 (s1 + 1)] 23)).tr k4
    replace Ks := (Ks.alloc (.cells #[.int .i64 s0, .int .i64 (s1 + 1)] 23)).tr k4
    clear cs fs ls cm fm lm
    obtain ⟨lm, cm, fm⟩ := Km.get
    obtain ⟨ls, cs, fs⟩ := Ks.get
    clear k4c k4f
    go_wp2_with fail
    refine (right_any _ _ _).mono ?_; rintro e w5 ⟨rfl, k5⟩
    rw [show rightB (s0 + 1) s1 = true from by simp [rightB]; omega]
    replace Kp := Kp.tr k5
    obtain ⟨lp, cp, fp⟩ := Kp.get
    go_wp2_with fail
    refine (right_any _ _ _).mono ?_; rintro e w6 ⟨rfl, k6⟩
    rw [show rightB s0 (s1 + 1) = true from by simp [rightB]; omega]
    go_wp2_with fail
    go_ret
    exact retB (by first | rfl | (simp; done) | (simp; omega)) (by (repeat (first | exact Below.refl _ _ | refine kp_alloc ?_ _ | refine kp_drew ?_ | refine kp_set ?_ (by first | (simp; done) | (simp; omega) | omega) _ | refine kp_tr ?_ (by with_reducible assumption))))
  · go_wp2_with fail
    refine (pack_ok _ _ _ (by omega)).mono ?_; rintro e w3 ⟨rfl, k3⟩
    obtain ⟨k3c, k3f⟩ := bcell k3
    have k3z := k3.size
    replace Ks := Ks.tr k3
    obtain ⟨ls, cs, fs⟩ := Ks.get
    replace Km := Km.tr k3
    obtain ⟨lm, cm, fm⟩ := Km.get
    clear k3c k3f
    go_wp2_with fail
    refine (pack_no _ _ _ (by omega)).mono ?_; rintro e w4 ⟨rfl, k4⟩
    obtain ⟨k4c, k4f⟩ := bcell k4
    have k4z := k4.size
    have Kp : Blk w4 w3.heap.size #[.int .i64 s0, .int .i64 (s1 + 1)] 23 := (Blk.mk rfl).tr k4
    obtain ⟨lp, cp, fp⟩ := Kp.get
    replace Km := (Km.alloc (.cells #[.int .i64 s0, .int .i64 (s1 + 1)] 23)).tr k4
    replace Ks := (Ks.alloc (.cells #[.int .i64 s0, .int .i64 (s1 + 1)] 23)).tr k4
    clear cs fs ls cm fm lm
    obtain ⟨lm, cm, fm⟩ := Km.get
    obtain ⟨ls, cs, fs⟩ := Ks.get
    clear k4c k4f
    go_wp2_with fail
    refine (right_any _ _ _).mono ?_; rintro e w5 ⟨rfl, k5⟩
    rw [show rightB (s0 + 1) s1 = true from by simp [rightB]; omega]
    replace Kp := Kp.tr k5
    obtain ⟨lp, cp, fp⟩ := Kp.get
    go_wp2_with fail
    refine (right_any _ _ _).mono ?_; rintro e w6 ⟨rfl, k6⟩
    rw [show rightB s0 (s1 + 1) = false from by simp [rightB]; omega]
    go_wp2_with fail
    go_ret
    exact retB (by first | rfl | (simp; done) | (simp; omega)) (by (repeat (first | exact Below.refl _ _ | refine kp_alloc ?_ _ | refine kp_drew ?_ | refine kp_set ?_ (by first | (simp; done) | (simp; omega) | omega) _ | refine kp_tr ?_ (by with_reducible assumption))))
  · go_wp2_with fail
    refine (pack_no _ _ _ (by omega)).mono ?_; rintro e w3 ⟨rfl, k3⟩
    obtain ⟨k3c, k3f⟩ := bcell k3
    have k3z := k3.size
    replace Ks := Ks.tr k3
    obtain ⟨ls, cs, fs⟩ := Ks.get
    replace Km := Km.tr k3
    obtain ⟨lm, cm, fm⟩ := Km.get
    clear k3c k3f
    go_wp2_with fail
    refine (pack_ok _ _ _ (by omega)).mono ?_; rintro e w4 ⟨rfl, k4⟩
    obtain ⟨k4c, k4f⟩ := bcell k4
    have k4z := k4.size
    have Kp : Blk w4 w3.heap.size #[.int .i64 s0, .int .i64 (s1 + 1)] 23 := (Blk.mk rfl).tr k4
    obtain ⟨lp, cp, fp⟩ := Kp.get
    replace Km := (Km.alloc (.cells #[.int .i64 s0, .int .i64 (s1 + 1)] 23)).tr k4
    replace Ks := (Ks.alloc (.cells #[.int .i64 s0, .int .i64 (s1 + 1)] 23)).tr k4
    clear cs fs ls cm fm lm
    obtain ⟨lm, cm, fm⟩ := Km.get
    obtain ⟨ls, cs, fs⟩ := Ks.get
    clear k4c k4f
    go_wp2_with fail
    refine (right_any _ _ _).mono ?_; rintro e w5 ⟨rfl, k5⟩
    rw [show rightB (s0 + 1) s1 = false from by simp [rightB]; omega]
    replace Kp := Kp.tr k5
    obtain ⟨lp, cp, fp⟩ := Kp.get
    go_wp2_with fail
    refine (right_any _ _ _).mono ?_; rintro e w6 ⟨rfl, k6⟩
    rw [show rightB s0 (s1 + 1) = true from by simp [rightB]; omega]
    go_wp2_with fail
    go_ret
    exact retB (by first | rfl | (simp; done) | (simp; omega)) (by (repeat (first | exact Below.refl _ _ | refine kp_alloc ?_ _ | refine kp_drew ?_ | refine kp_set ?_ (by first | (simp; done) | (simp; omega) | omega) _ | refine kp_tr ?_ (by with_reducible assumption))))
  · go_wp2_with fail
    refine (pack_no _ _ _ (by omega)).mono ?_; rintro e w3 ⟨rfl, k3⟩
    obtain ⟨k3c, k3f⟩ := bcell k3
    have k3z := k3.size
    replace Ks := Ks.tr k3
    obtain ⟨ls, cs, fs⟩ := Ks.get
    replace Km := Km.tr k3
    obtain ⟨lm, cm, fm⟩ := Km.get
    clear k3c k3f
    go_wp2_with fail
    refine (pack_no _ _ _ (by omega)).mono ?_; rintro e w4 ⟨rfl, k4⟩
    obtain ⟨k4c, k4f⟩ := bcell k4
    have k4z := k4.size
    have Kp : Blk w4 w3.heap.size #[.int .i64 s0, .int .i64 (s1 + 1)] 23 := (Blk.mk rfl).tr k4
    obtain ⟨lp, cp, fp⟩ := Kp.get
    replace Km := (Km.alloc (.cells #[.int .i64 s0, .int .i64 (s1 + 1)] 23)).tr k4
    replace Ks := (Ks.alloc (.cells #[.int .i64 s0, .int .i64 (s1 + 1)] 23)).tr k4
    clear cs fs ls cm fm lm
    obtain ⟨lm, cm, fm⟩ := Km.get
    obtain ⟨ls, cs, fs⟩ := Ks.get
    clear k4c k4f
    go_wp2_with fail
    refine (right_any _ _ _).mono ?_; rintro e w5 ⟨rfl, k5⟩
    rw [show rightB (s0 + 1) s1 = false from by simp [rightB]; omega]
    replace Kp := Kp.tr k5
    obtain ⟨lp, cp, fp⟩ := Kp.get
    go_wp2_with fail
    refine (right_any _ _ _).mono ?_; rintro e w6 ⟨rfl, k6⟩
    rw [show rightB s0 (s1 + 1) = false from by simp [rightB]; omega]
    go_wp2_with fail
    go_ret
    exact retB (by first | rfl | (simp; done) | (simp; omega)) (by (repeat (first | exact Below.refl _ _ | refine kp_alloc ?_ _ | refine kp_drew ?_ | refine kp_set ?_ (by first | (simp; done) | (simp; omega) | omega) _ | refine kp_tr ?_ (by with_reducible assumption))))
theorem or63 (n : Int) (h1 : 0 ≤ n) (h2 : n < 9223372036854775808) : 9223372036854775808 ≤ bits .or .u64 n 9223372036854775808 ∧ bits .or .u64 n 9223372036854775808 < 18446744073709551616 := by
  obtain ⟨k, rfl⟩ := Int.eq_ofNat_of_zero_le h1
  have := u64_or_nat k 9223372036854775808 (by omega) (by omega)
  rw [show ((9223372036854775808 : Nat) : Int) = 9223372036854775808 from rfl] at this
  rw [this]
  have g1 : 9223372036854775808 ≤ k ||| 9223372036854775808 := Nat.right_le_or
  have g2 : k ||| 9223372036854775808 < 2 ^ 64 := Nat.or_lt_two_pow (by omega) (by omega)
  omega
theorem ref_over (a : Int) (w : World) (h1 : 9223372036854775808 ≤ a) (h2 : a < 18446744073709551616) :
    Calls Try.prog 17 #[.int .u64 a] w fun e w' => e = .returned (.tuple #[.int .u64 0, .int .i64 1]) ∧ w = w' :=
  (ref_any a w (by omega) (by omega)).mono fun e w' ⟨g1, g2⟩ => ⟨by rw [g1]; simp [refV, refE, refOk]; omega, g2⟩
set_option maxHeartbeats 1000000 in
theorem next_walk (x a0 a1 : Int) (w : World) (hx : 0 ≤ x ∧ x < 18446744073709551616) (ha0 : -9223372036854775808 ≤ a0 ∧ a0 < 9223372036854775808) (ha1 : -9223372036854775808 ≤ a1 ∧ a1 < 9223372036854775808) :
    Calls Try.prog 8 #[.int .u64 x, .agg #[.int .i64 a0, .int .i64 a1]] w fun e w' => e = .returned (.bool true) ∧ Below w.heap.size w w' := by
  go_enter Try.func8, Try.ntmps8
  go_wp2_with fail
  refine (awake_any _).mono ?_; rintro e w1 ⟨rfl, k1⟩
  obtain ⟨k1c, k1f⟩ := bcell k1
  have k1z := k1.size
  have Ka : Blk w1 w.heap.size #[.int .i64 a0, .int .i64 a1] 23 := (Blk.mk rfl).tr k1
  obtain ⟨la, ca, fa⟩ := Ka.get
  clear k1c k1f
  have hp : 0 ≤ x % 9223372036854775806 ∧ x % 9223372036854775806 < 9223372036854775806 := by omega
  have ho := or63 (1 + x % 9223372036854775806) (by omega) (by omega)
  generalize hq : bits .or .u64 (1 + x % 9223372036854775806) 9223372036854775808 = o at ho
  go_wp2_with fail
  refine (ref_ok _ _ (by omega)).mono ?_; rintro e ww ⟨rfl, rfl⟩
  go_wp2_with fail
  refine (ref_ok _ _ (by omega)).mono ?_; rintro e ww ⟨rfl, rfl⟩
  go_wp2_with fail
  refine (ref_ok _ _ (by omega)).mono ?_; rintro e ww ⟨rfl, rfl⟩
  go_wp2_with fail
  refine (ref_over _ _ ho.1 ho.2).mono ?_; rintro e ww ⟨rfl, rfl⟩
  clear hq
  go_wp2_with fail
  refine (pick_ex _ _ _ (by omega) (by omega) (by omega) (by omega)).mono ?_; rintro e ww ⟨⟨s0, s0g, s0l, rfl⟩, rfl⟩
  go_wp2_with fail
  refine (pick_ex _ _ _ (by omega) (by omega) (by omega) (by omega)).mono ?_; rintro e ww ⟨⟨s1, s1g, s1l, rfl⟩, rfl⟩
  go_wp2_with fail
  refine (pack_ok _ _ _ (by omega)).mono ?_; rintro e w2 ⟨rfl, k2⟩
  obtain ⟨k2c, k2f⟩ := bcell k2
  have k2z := k2.size
  have Ks : Blk w2 w1.heap.size #[.int .i64 s0, .int .i64 s1] 23 := (Blk.mk rfl).tr k2
  obtain ⟨ls, cs, fs⟩ := Ks.get
  clear k2c k2f ca fa
  have g1 : (2 * s0 + 131072 * s1) % 131072 = 2 * s0 := by omega
  have g2 : (2 * s0 + 131072 * s1) / 131072 = s1 := by omega
  go_wp2_with fail
  go_ret
  exact retB (by first | rfl | (simp; done) | (simp; omega)) (by (repeat (first | exact Below.refl _ _ | refine kp_alloc ?_ _ | refine kp_drew ?_ | refine kp_set ?_ (by first | (simp; done) | (simp; omega) | omega) _ | refine kp_tr ?_ (by with_reducible assumption))))
end Go.Proofs.Ytnhpjlgmkfbojaa.hd
