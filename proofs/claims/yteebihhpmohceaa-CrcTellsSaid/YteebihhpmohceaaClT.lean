/- CrcTells: the reference's contracts and the walk. No conditions. -/
import Derived.Test.YteebihhpmohceaaClA
import Derived.Deep.RegionHeld3
namespace Go.Proofs.Yteebihhpmohceaa.cw
open Go.RowKit Go.Proofs.Yteebihhpmohceaa.cm
set_option linter.unusedVariables false
set_option linter.unusedSimpArgs false
set_option maxRecDepth 100000 in
theorem rmore_any (c : Nat) (s : ByteArray) (w : World) (h : c < 4294967296) (hs : s.size ≤ maxLen) :
    Calls Try.prog 15 #[.int .u32 (c : Int), .string s] w fun e w' => e = .returned (.int .u32 ((moreN c (bytesN s) : Nat) : Int)) ∧ w = w' := by
  unfold maxLen at hs
  have hx := u32_xor_nat c 4294967295 h (by omega)
  rw [show ((4294967295 : Nat) : Int) = 4294967295 from rfl] at hx
  have hct : c ^^^ 4294967295 = c ^^^ top32 := by unfold top32; rfl
  rw [hct] at hx
  have hc0 : c ^^^ top32 < 4294967296 := xor32_lt h (by unfold top32; omega)
  have HM : Hid (moreN c (bytesN s) = feedN (c ^^^ top32) (bytesN s) ^^^ top32) := rfl
  generalize hg : c ^^^ top32 = c0 at hx hc0 HM
  clear hg hct
  have hend := u32_xor_nat (feedN c0 (bytesN s)) 4294967295 (feedN_lt _ hc0 (bytesN_lt s)) (by omega)
  rw [show ((4294967295 : Nat) : Int) = 4294967295 from rfl] at hend
  have HE := Lib.hid hend
  clear hend
  go_enter Try.func15, Try.ntmps15
  go_wp2_with fail
  go_loop [5, 6] (fun v i => ∃ k : Nat, k ≤ s.size ∧ i = .int .i64 k ∧ v = .int .u32 ((feedN c0 ((bytesN s).take k) : Nat) : Int)) (fun _ i => s.size - (intOf i).toNat)
  case atStart => exact ⟨0, Nat.zero_le _, rfl, rfl⟩
  case round =>
    obtain ⟨k, hk, rfl, rfl⟩ := hrel
    have hfl : feedN c0 ((bytesN s).take k) < 4294967296 := feedN_lt _ hc0 (fun b hb => bytesN_lt s b (List.mem_of_mem_take hb))
    by_cases hlt : k < s.size
    · have HS : Hid (feedN c0 ((bytesN s).take (k + 1)) = upN (feedN c0 ((bytesN s).take k)) s[k].toNat) := by rw [bytesN_snoc s k hlt]; exact feedN_snoc _ _ _
      generalize hq : feedN c0 ((bytesN s).take k) = q at *
      clear hq
      go_wp2_with fail
      refine (rbyte_any q _ _ hfl s[k].toNat_lt).mono ?_; rintro e w2 ⟨rfl, rfl⟩
      go_wp2_with fail
      exact ⟨⟨k + 1, by omega, by go_num, by rw [HS.out]⟩, by simp [intOf]; omega⟩
    · obtain rfl : k = s.size := by omega
      have ht : (bytesN s).take s.size = bytesN s := List.take_of_length_le (by rw [bytesN_len]; omega)
      rw [ht]
      have hE := HE.out
      go_wp2_with fail
      go_ret
      refine ⟨?_, rfl⟩
      rw [HM.out]; unfold top32; rfl
theorem rsum_any (s : ByteArray) (w : World) (hs : s.size ≤ maxLen) :
    Calls Try.prog 13 #[.string s] w fun e w' => e = .returned (.int .u32 ((sumN (bytesN s) : Nat) : Int)) ∧ w = w' := by
  go_enter Try.func13, Try.ntmps13
  go_wp2_with fail
  refine (rmore_any 0 s _ (by omega) hs).mono ?_; rintro e w2 ⟨rfl, rfl⟩
  go_wp2_with fail
  go_ret
  exact ⟨rfl, rfl⟩
theorem iterz_up (c k : Nat) : iter zeroN (k + 1) c = upN (iter zeroN k c) 0 := by
  rw [iter_succ']; show _ = zeroN (_ ^^^ 0); rw [Nat.xor_zero]
theorem rcombine_any (a b : Nat) (n : Int) (w : World) (ha : a < 4294967296) (hb : b < 4294967296) (hn : -9223372036854775808 ≤ n ∧ n < 9223372036854775808) :
    Calls Try.prog 11 #[.int .u32 (a : Int), .int .u32 (b : Int), .int .i64 n] w fun e w' => e = .returned (.int .u32 ((combineN a b n.toNat : Nat) : Int)) ∧ w = w' := by
  have HC : Hid (combineN a b n.toNat = iter zeroN n.toNat a ^^^ b) := rfl
  have hend := u32_xor_nat (iter zeroN n.toNat a) b (iterz_lt _ ha) hb
  have HE := Lib.hid hend
  clear hend
  go_enter Try.func11, Try.ntmps11
  go_wp2_with fail
  go_loop [7, 8] (fun v i => ∃ k : Nat, k ≤ n.toNat ∧ i = .int .i64 k ∧ v = .int .u32 ((iter zeroN k a : Nat) : Int)) (fun _ i => n.toNat - (intOf i).toNat)
  case atStart => exact ⟨0, Nat.zero_le _, rfl, rfl⟩
  case round =>
    obtain ⟨k, hk, rfl, rfl⟩ := hrel
    have hl : iter zeroN k a < 4294967296 := iterz_lt _ ha
    by_cases hlt : (k : Int) < n
    · have HS := Lib.hid (iterz_up a k)
      generalize hq : iter zeroN k a = q at *
      clear hq
      go_wp2_with fail
      refine (rbyte_any q 0 _ hl (by omega)).mono ?_; rintro e w2 ⟨rfl, rfl⟩
      go_wp2_with fail
      exact ⟨⟨k + 1, by omega, by go_num, by rw [HS.out]⟩, by simp [intOf]; omega⟩
    · obtain rfl : k = n.toNat := by omega
      have hE := HE.out
      go_wp2_with fail
      go_ret
      refine ⟨?_, rfl⟩
      rw [HC.out]; rfl
set_option maxRecDepth 100000 in
theorem tells_walk (s : ByteArray) (c d n : Int) (w : World) (hs : s.size ≤ maxLen) (hc : 0 ≤ c ∧ c < 4294967296) (hd : 0 ≤ d ∧ d < 4294967296) (hn : -9223372036854775808 ≤ n ∧ n < 9223372036854775808) :
    Calls Try.prog 3 #[.string s, .int .u32 c, .int .u32 d, .int .i64 n] w fun e w' => e = .returned (.bool true) ∧ Below w.heap.size w w' := by
  unfold maxLen at hs
  obtain ⟨C, rfl⟩ := Int.eq_ofNat_of_zero_le hc.1
  obtain ⟨D, rfl⟩ := Int.eq_ofNat_of_zero_le hd.1
  have lC : C < 4294967296 := by omega
  have lD : D < 4294967296 := by omega
  clear hc hd
  go_enter Try.func3, Try.ntmps3
  go_wp2_with fail
  refine (awake_any _).mono ?_; rintro e w1 ⟨rfl, k1⟩
  go_upto_region 2 with (fail)
  go_cut [10] (fun v wx => (∃ z : ByteArray, v = .string z ∧ z.size ≤ 100) ∧ w1 = wx)
  case first =>
    go_wp2_with fail
    all_goals go_meet
    all_goals exact ⟨⟨_, rfl, by first | omega | (simp; omega)⟩, rfl⟩
  case rest =>
  obtain ⟨⟨a, rfl, al⟩, hww⟩ := hcut
  subst hww
  clear hs
  have hm3 : n < 500 ∨ n = 500 ∨ 500 < n := by omega
  rcases hm3 with hm | rfl | hm
  ·   go_wp2_with fail
      refine (pick_ex _ _ _ (by omega) (by omega) (by omega) (by omega)).mono ?_; rintro e ww ⟨⟨r, rg, rl, rfl⟩, rfl⟩
      have lr : -9223372036854775808 ≤ r ∧ r < 9223372036854775808 := by omega
      go_wp2_with fail
      all_goals trace "HERE"
      go_loopw [25] (fun i wr => ∃ k : Nat, k ≤ 2 ∧ i = .int .i64 k ∧ Below w.heap.size w wr ∧ Blk wr w1.heap.size #[.int .i64 n, .int .i64 r] 3) (fun i _ => 2 - (intOf i).toNat)
      case atStart => exact ⟨0, Nat.zero_le _, rfl, by (repeat (first | exact Below.refl _ _ | refine kp_alloc ?_ _ | refine kp_drew ?_ | refine kp_set ?_ (by first | (simp; done) | (simp; omega) | omega) _ | refine kp_tr ?_ (by with_reducible assumption))), Blk.new _ _ _⟩
      case round =>
        obtain ⟨k, hk, rfl, hb, hB⟩ := hrel
        obtain ⟨lB, cB, fB⟩ := hB.get
        have cB0 := cB 0
        have cB1 := cB 1
        have hk3 : k = 0 ∨ k = 1 ∨ k = 2 := by omega
        rcases hk3 with rfl | rfl | rfl
        · go_wp2_with fail
          refine (combine_any C D n _ lC lD hn).mono ?_; rintro e w2 ⟨rfl, k2⟩
          go_wp2_with fail
          refine (rcombine_any C D n _ lC lD hn).mono ?_; rintro e w3 ⟨rfl, rfl⟩
          go_wp2_with fail
          exact ⟨⟨1, by omega, by go_num, by (repeat (first | exact Below.refl _ _ | refine kp_alloc ?_ _ | refine kp_drew ?_ | refine kp_set ?_ (by first | (simp; done) | (simp; omega) | omega) _ | refine kp_tr ?_ (by with_reducible assumption))), by (repeat (first | with_reducible assumption | exact Blk.mk rfl | exact Blk.mk (by simp) | refine Blk.drew ?_ | refine Blk.alloc ?_ _ | refine Blk.tr ?_ (by with_reducible assumption)))⟩, by simp [intOf]⟩
        · go_wp2_with fail
          refine (combine_any C D r _ lC lD lr).mono ?_; rintro e w2 ⟨rfl, k2⟩
          go_wp2_with fail
          refine (rcombine_any C D r _ lC lD lr).mono ?_; rintro e w3 ⟨rfl, rfl⟩
          go_wp2_with fail
          exact ⟨⟨2, by omega, by go_num, by (repeat (first | exact Below.refl _ _ | refine kp_alloc ?_ _ | refine kp_drew ?_ | refine kp_set ?_ (by first | (simp; done) | (simp; omega) | omega) _ | refine kp_tr ?_ (by with_reducible assumption))), by (repeat (first | with_reducible assumption | exact Blk.mk rfl | exact Blk.mk (by simp) | refine Blk.drew ?_ | refine Blk.alloc ?_ _ | refine Blk.tr ?_ (by with_reducible assumption)))⟩, by simp [intOf]⟩
        · clear cB cB0 cB1 fB
          go_wp2_with fail
          refine (sum_any _ _ (szc _ al (by omega))).mono ?_; rintro e w6 ⟨rfl, k6⟩
          go_wp2_with fail
          refine (rsum_any _ _ (szc _ al (by omega))).mono ?_; rintro e w7 ⟨rfl, rfl⟩
          go_wp2_with fail
          refine (more_any _ _ _ lC (szc _ al (by omega))).mono ?_; rintro e w8 ⟨rfl, k8⟩
          go_wp2_with fail
          refine (rmore_any _ _ _ lC (szc _ al (by omega))).mono ?_; rintro e w9 ⟨rfl, rfl⟩
          go_wp2_with fail
          go_ret
          refine ⟨rfl, ?_⟩
          (repeat (first | exact Below.refl _ _ | refine kp_alloc ?_ _ | refine kp_drew ?_ | refine kp_set ?_ (by first | (simp; done) | (simp; omega) | omega) _ | refine kp_tr ?_ (by with_reducible assumption)))
  ·   go_wp2_with fail
      refine (pick_ex _ _ _ (by omega) (by omega) (by omega) (by omega)).mono ?_; rintro e ww ⟨⟨r, rg, rl, rfl⟩, rfl⟩
      have lr : -9223372036854775808 ≤ r ∧ r < 9223372036854775808 := by omega
      go_wp2_with fail
      all_goals trace "HERE"
      go_loopw [25] (fun i wr => ∃ k : Nat, k ≤ 2 ∧ i = .int .i64 k ∧ Below w.heap.size w wr ∧ Blk wr w1.heap.size #[.int .i64 500, .int .i64 r] 3) (fun i _ => 2 - (intOf i).toNat)
      case atStart => exact ⟨0, Nat.zero_le _, rfl, by (repeat (first | exact Below.refl _ _ | refine kp_alloc ?_ _ | refine kp_drew ?_ | refine kp_set ?_ (by first | (simp; done) | (simp; omega) | omega) _ | refine kp_tr ?_ (by with_reducible assumption))), Blk.new _ _ _⟩
      case round =>
        obtain ⟨k, hk, rfl, hb, hB⟩ := hrel
        obtain ⟨lB, cB, fB⟩ := hB.get
        have cB0 := cB 0
        have cB1 := cB 1
        have hk3 : k = 0 ∨ k = 1 ∨ k = 2 := by omega
        rcases hk3 with rfl | rfl | rfl
        · go_wp2_with fail
          refine (combine_any C D 500 _ lC lD (by omega)).mono ?_; rintro e w2 ⟨rfl, k2⟩
          go_wp2_with fail
          refine (rcombine_any C D 500 _ lC lD (by omega)).mono ?_; rintro e w3 ⟨rfl, rfl⟩
          go_wp2_with fail
          exact ⟨⟨1, by omega, by go_num, by (repeat (first | exact Below.refl _ _ | refine kp_alloc ?_ _ | refine kp_drew ?_ | refine kp_set ?_ (by first | (simp; done) | (simp; omega) | omega) _ | refine kp_tr ?_ (by with_reducible assumption))), by (repeat (first | with_reducible assumption | exact Blk.mk rfl | exact Blk.mk (by simp) | refine Blk.drew ?_ | refine Blk.alloc ?_ _ | refine Blk.tr ?_ (by with_reducible assumption)))⟩, by simp [intOf]⟩
        · go_wp2_with fail
          refine (combine_any C D r _ lC lD lr).mono ?_; rintro e w2 ⟨rfl, k2⟩
          go_wp2_with fail
          refine (rcombine_any C D r _ lC lD lr).mono ?_; rintro e w3 ⟨rfl, rfl⟩
          go_wp2_with fail
          exact ⟨⟨2, by omega, by go_num, by (repeat (first | exact Below.refl _ _ | refine kp_alloc ?_ _ | refine kp_drew ?_ | refine kp_set ?_ (by first | (simp; done) | (simp; omega) | omega) _ | refine kp_tr ?_ (by with_reducible assumption))), by (repeat (first | with_reducible assumption | exact Blk.mk rfl | exact Blk.mk (by simp) | refine Blk.drew ?_ | refine Blk.alloc ?_ _ | refine Blk.tr ?_ (by with_reducible assumption)))⟩, by simp [intOf]⟩
        · clear cB cB0 cB1 fB
          go_wp2_with fail
          refine (sum_any _ _ (szc _ al (by omega))).mono ?_; rintro e w6 ⟨rfl, k6⟩
          go_wp2_with fail
          refine (rsum_any _ _ (szc _ al (by omega))).mono ?_; rintro e w7 ⟨rfl, rfl⟩
          go_wp2_with fail
          refine (more_any _ _ _ lC (szc _ al (by omega))).mono ?_; rintro e w8 ⟨rfl, k8⟩
          go_wp2_with fail
          refine (rmore_any _ _ _ lC (szc _ al (by omega))).mono ?_; rintro e w9 ⟨rfl, rfl⟩
          go_wp2_with fail
          go_ret
          refine ⟨rfl, ?_⟩
          (repeat (first | exact Below.refl _ _ | refine kp_alloc ?_ _ | refine kp_drew ?_ | refine kp_set ?_ (by first | (simp; done) | (simp; omega) | omega) _ | refine kp_tr ?_ (by with_reducible assumption)))
  ·   go_wp2_with fail
      refine (pick_ex _ _ _ (by omega) (by omega) (by omega) (by omega)).mono ?_; rintro e ww ⟨⟨r, rg, rl, rfl⟩, rfl⟩
      have lr : -9223372036854775808 ≤ r ∧ r < 9223372036854775808 := by omega
      go_wp2_with fail
      all_goals trace "HERE"
      go_loopw [25] (fun i wr => ∃ k : Nat, k ≤ 2 ∧ i = .int .i64 k ∧ Below w.heap.size w wr ∧ Blk wr w1.heap.size #[.int .i64 500, .int .i64 r] 3) (fun i _ => 2 - (intOf i).toNat)
      case atStart => exact ⟨0, Nat.zero_le _, rfl, by (repeat (first | exact Below.refl _ _ | refine kp_alloc ?_ _ | refine kp_drew ?_ | refine kp_set ?_ (by first | (simp; done) | (simp; omega) | omega) _ | refine kp_tr ?_ (by with_reducible assumption))), Blk.new _ _ _⟩
      case round =>
        obtain ⟨k, hk, rfl, hb, hB⟩ := hrel
        obtain ⟨lB, cB, fB⟩ := hB.get
        have cB0 := cB 0
        have cB1 := cB 1
        have hk3 : k = 0 ∨ k = 1 ∨ k = 2 := by omega
        rcases hk3 with rfl | rfl | rfl
        · go_wp2_with fail
          refine (combine_any C D 500 _ lC lD (by omega)).mono ?_; rintro e w2 ⟨rfl, k2⟩
          go_wp2_with fail
          refine (rcombine_any C D 500 _ lC lD (by omega)).mono ?_; rintro e w3 ⟨rfl, rfl⟩
          go_wp2_with fail
          exact ⟨⟨1, by omega, by go_num, by (repeat (first | exact Below.refl _ _ | refine kp_alloc ?_ _ | refine kp_drew ?_ | refine kp_set ?_ (by first | (simp; done) | (simp; omega) | omega) _ | refine kp_tr ?_ (by with_reducible assumption))), by (repeat (first | with_reducible assumption | exact Blk.mk rfl | exact Blk.mk (by simp) | refine Blk.drew ?_ | refine Blk.alloc ?_ _ | refine Blk.tr ?_ (by with_reducible assumption)))⟩, by simp [intOf]⟩
        · go_wp2_with fail
          refine (combine_any C D r _ lC lD lr).mono ?_; rintro e w2 ⟨rfl, k2⟩
          go_wp2_with fail
          refine (rcombine_any C D r _ lC lD lr).mono ?_; rintro e w3 ⟨rfl, rfl⟩
          go_wp2_with fail
          exact ⟨⟨2, by omega, by go_num, by (repeat (first | exact Below.refl _ _ | refine kp_alloc ?_ _ | refine kp_drew ?_ | refine kp_set ?_ (by first | (simp; done) | (simp; omega) | omega) _ | refine kp_tr ?_ (by with_reducible assumption))), by (repeat (first | with_reducible assumption | exact Blk.mk rfl | exact Blk.mk (by simp) | refine Blk.drew ?_ | refine Blk.alloc ?_ _ | refine Blk.tr ?_ (by with_reducible assumption)))⟩, by simp [intOf]⟩
        · clear cB cB0 cB1 fB
          go_wp2_with fail
          refine (sum_any _ _ (szc _ al (by omega))).mono ?_; rintro e w6 ⟨rfl, k6⟩
          go_wp2_with fail
          refine (rsum_any _ _ (szc _ al (by omega))).mono ?_; rintro e w7 ⟨rfl, rfl⟩
          go_wp2_with fail
          refine (more_any _ _ _ lC (szc _ al (by omega))).mono ?_; rintro e w8 ⟨rfl, k8⟩
          go_wp2_with fail
          refine (rmore_any _ _ _ lC (szc _ al (by omega))).mono ?_; rintro e w9 ⟨rfl, rfl⟩
          go_wp2_with fail
          go_ret
          refine ⟨rfl, ?_⟩
          (repeat (first | exact Below.refl _ _ | refine kp_alloc ?_ _ | refine kp_drew ?_ | refine kp_set ?_ (by first | (simp; done) | (simp; omega) | omega) _ | refine kp_tr ?_ (by with_reducible assumption)))
end Go.Proofs.Yteebihhpmohceaa.cw
