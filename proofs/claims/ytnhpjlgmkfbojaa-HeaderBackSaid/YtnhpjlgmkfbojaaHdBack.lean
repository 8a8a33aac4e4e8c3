/- HeaderBack: the walk. No conditions. -/
import Derived.Test.YtnhpjlgmkfbojaaHd
namespace Go.Proofs.Ytnhpjlgmkfbojaa.hd
open Go.RowKit
set_option linter.unusedVariables false
set_option linter.unusedSimpArgs false
theorem beq_dbl (p q : Int) : ((2 * p + 1 == 2 * q + 1) == (p == q)) = true := by
  by_cases h : p = q
  · subst h; simp
  · have e2 : (2 * p + 1 == 2 * q + 1) = false := by simp; omega
    have e3 : (p == q) = false := by simp; omega
    simp [e2, e3]
theorem back_walk (a0 a1 b0 b1 x y : Int) (w : World) (ha0 : -9223372036854775808 ≤ a0 ∧ a0 < 9223372036854775808) (ha1 : -9223372036854775808 ≤ a1 ∧ a1 < 9223372036854775808)
    (hb0 : -9223372036854775808 ≤ b0 ∧ b0 < 9223372036854775808) (hb1 : -9223372036854775808 ≤ b1 ∧ b1 < 9223372036854775808) (hx : 0 ≤ x ∧ x < 18446744073709551616) (hy : 0 ≤ y ∧ y < 18446744073709551616) :
    Calls Try.prog 4 #[.agg #[.int .i64 a0, .int .i64 a1], .agg #[.int .i64 b0, .int .i64 b1], .int .u64 x, .int .u64 y] w fun e w' => e = .returned (.bool true) ∧ Below w.heap.size w w' := by
  go_enter Try.func4, Try.ntmps4
  go_wp2_with fail
  refine (awake_any _).mono ?_; rintro e w1 ⟨rfl, k1⟩
  obtain ⟨k1c, k1f⟩ := bcell k1
  have k1z := k1.size
  have Ka : Blk w1 w.heap.size #[.int .i64 a0, .int .i64 a1] 23 := ((Blk.mk rfl).alloc _).tr k1
  have Kb : Blk w1 (w.heap.size + 1) #[.int .i64 b0, .int .i64 b1] 23 := (Blk.mk (by simp)).tr k1
  obtain ⟨la, ca, fa⟩ := Ka.get
  obtain ⟨lb, cb, fb⟩ := Kb.get
  clear k1c k1f
  go_wp2_with fail
  refine (pick_ex _ _ _ (by omega) (by omega) (by omega) (by omega)).mono ?_; rintro e ww ⟨⟨s0, s0g, s0l, rfl⟩, rfl⟩
  go_wp2_with fail
  refine (pick_ex _ _ _ (by omega) (by omega) (by omega) (by omega)).mono ?_; rintro e ww ⟨⟨s1, s1g, s1l, rfl⟩, rfl⟩
  go_wp2_with fail
  refine (pick_ex _ _ _ (by omega) (by omega) (by omega) (by omega)).mono ?_; rintro e ww ⟨⟨t0, t0g, t0l, rfl⟩, rfl⟩
  go_wp2_with fail
  refine (pick_ex _ _ _ (by omega) (by omega) (by omega) (by omega)).mono ?_; rintro e ww ⟨⟨t1, t1g, t1l, rfl⟩, rfl⟩
  go_wp2_with fail
  refine (pack_ok _ _ _ (by omega)).mono ?_; rintro e w2 ⟨rfl, k2⟩
  obtain ⟨k2c, k2f⟩ := bcell k2
  have k2z := k2.size
  have Ks : Blk w2 w1.heap.size #[.int .i64 s0, .int .i64 s1] 23 := ((Blk.mk rfl).alloc _).tr k2
  have Kt : Blk w2 (w1.heap.size + 1) #[.int .i64 t0, .int .i64 t1] 23 := (Blk.mk (by simp)).tr k2
  obtain ⟨ls, cs, fs⟩ := Ks.get
  obtain ⟨lt, ct, ft⟩ := Kt.get
  clear k2c k2f ca cb fa fb la lb
  go_wp2_with fail
  refine (pack_ok _ _ _ (by omega)).mono ?_; rintro e w3 ⟨rfl, k3⟩
  obtain ⟨k3c, k3f⟩ := bcell k3
  have k3z := k3.size
  replace Ks := Ks.tr k3
  obtain ⟨ls, cs, fs⟩ := Ks.get
  replace Kt := Kt.tr k3
  obtain ⟨lt, ct, ft⟩ := Kt.get
  clear k3c k3f
  go_wp2_with fail
  refine (unpack_ok _ _ _ (by omega)).mono ?_; rintro e w4 ⟨rfl, k4⟩
  obtain ⟨k4c, k4f⟩ := bcell k4
  have k4z := k4.size
  replace Ks := Ks.tr k4
  obtain ⟨ls, cs, fs⟩ := Ks.get
  replace Kt := Kt.tr k4
  obtain ⟨lt, ct, ft⟩ := Kt.get
  clear k4c k4f
  have Ku : Blk _ w4.heap.size #[.int .i64 s0, .int .i64 s1] 23 := Blk.new w4 _ _
  obtain ⟨p, hp, hp1, hp2⟩ := or1_ex x hx
  obtain ⟨q, hq, hq1, hq2⟩ := or1_ex y hy
  go_wp2_with fail
  refine (ref_ok _ _ (by omega)).mono ?_; rintro e ww ⟨rfl, rfl⟩
  go_wp2_with fail
  refine (ref_ok _ _ (by omega)).mono ?_; rintro e ww ⟨rfl, rfl⟩
  go_wp2_with fail
  refine (addr_ok _ _ (by omega)).mono ?_; rintro e ww ⟨rfl, rfl⟩
  clear hp hq
  by_cases g1 : s0 = t0 ∧ s1 = t1
  · obtain ⟨rfl, rfl⟩ := g1
    by_cases g2 : p = q
    · subst g2
      go_wp2_with fail
      go_ret
      exact retB (by simp) (by (repeat (first | exact Below.refl _ _ | refine kp_alloc ?_ _ | refine kp_drew ?_ | refine kp_set ?_ (by first | (simp; done) | (simp; omega) | omega) _ | refine kp_tr ?_ (by with_reducible assumption))))
    · have e2 : (2 * p + 1 == 2 * q + 1) = false := by simp; omega
      have e3 : (p == q) = false := by simp; omega
      clear g2
      go_wp2_with fail
      go_ret
      exact retB (by simp [e2, e3]) (by (repeat (first | exact Below.refl _ _ | refine kp_alloc ?_ _ | refine kp_drew ?_ | refine kp_set ?_ (by first | (simp; done) | (simp; omega) | omega) _ | refine kp_tr ?_ (by with_reducible assumption))))
  · have e1 : (2 * s0 + 131072 * s1 == 2 * t0 + 131072 * t1) = false := by simp; omega
    go_wp2_with fail
    all_goals
      go_ret
      exact retB (beq_dbl p q) (by (repeat (first | exact Below.refl _ _ | refine kp_alloc ?_ _ | refine kp_drew ?_ | refine kp_set ?_ (by first | (simp; done) | (simp; omega) | omega) _ | refine kp_tr ?_ (by with_reducible assumption))))
end Go.Proofs.Ytnhpjlgmkfbojaa.hd
