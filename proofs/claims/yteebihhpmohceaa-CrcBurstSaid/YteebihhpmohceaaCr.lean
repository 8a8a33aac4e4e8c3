/- Contracts of the reference of layer 3, and of the law's helpers. No conditions. -/
import Derived.Test.YteebihhpmohceaaCz
namespace Go.Proofs.Yteebihhpmohceaa.cw
open Go.RowKit Go.Proofs.Yteebihhpmohceaa.cm
set_option linter.unusedVariables false
set_option linter.unusedSimpArgs false
theorem pick_any (c n : Int) (w : World) (hn : 1 ≤ n) (hn2 : n < 100000) (h1 : -9223372036854775808 ≤ c) (h2 : c < 9223372036854775808) :
    Calls Try.prog 9 #[.int .i64 c, .int .i64 n] w fun e w' => e = .returned (.int .i64 ((if c < 0 then -(c+1) else c) % n)) ∧ w = w' := by
  by_cases h : c < 0
  · go_enter Try.func9, Try.ntmps9
    go_wp2
    go_ret
    exact retI (by rw [← Int.neg_tmod, Int.tmod_eq_emod_of_nonneg (by omega)]) rfl
  · go_enter Try.func9, Try.ntmps9
    go_wp2
    go_ret
    exact ⟨rfl, rfl⟩
theorem pick_ex (c n : Int) (w : World) (hn : 1 ≤ n) (hn2 : n < 100000) (h1 : -9223372036854775808 ≤ c) (h2 : c < 9223372036854775808) :
    Calls Try.prog 9 #[.int .i64 c, .int .i64 n] w fun e w' => (∃ r : Int, 0 ≤ r ∧ r < n ∧ e = .returned (.int .i64 r)) ∧ w = w' :=
  (pick_any c n w hn hn2 h1 h2).mono fun e w' h => ⟨⟨_, Int.emod_nonneg _ (by omega), Int.emod_lt_of_pos _ (by omega), h.1⟩, h.2⟩
theorem const_a : bytesN ⟨#[49, 50, 51, 52, 53, 54, 55, 56, 57]⟩ = [49, 50, 51, 52, 53, 54, 55, 56, 57] := rfl
theorem awake_any (w : World) :
    Calls Try.prog 8 #[] w fun e w' => e = .returned (.bool true) ∧ Below w.heap.size w w' := by
  have e0 : sumN (bytesN ⟨#[]⟩) = 0 := by decide +kernel
  have e1 : sumN (bytesN ⟨#[49, 50, 51, 52, 53, 54, 55, 56, 57]⟩) = 3421780262 := by decide +kernel
  have e2 : moreN (sumN (bytesN ⟨#[49, 50, 51, 52]⟩)) (bytesN ⟨#[53, 54, 55, 56, 57]⟩) = 3421780262 := by decide +kernel
  have e3 : combineN (sumN (bytesN ⟨#[49, 50, 51, 52]⟩)) (sumN (bytesN ⟨#[53, 54, 55, 56, 57]⟩)) 5 = 3421780262 := by decide +kernel
  have e4 : combineN 7 0 0 = 7 := by decide +kernel
  have e5 : combineN 7 1 0 = 6 := by decide +kernel
  have l1 : sumN (bytesN ⟨#[49, 50, 51, 52]⟩) < 4294967296 := by decide +kernel
  have l2 : sumN (bytesN ⟨#[53, 54, 55, 56, 57]⟩) < 4294967296 := by decide +kernel
  have H0 := Lib.hid e0
  have H1 := Lib.hid e1
  have H2 := Lib.hid e2
  have H3 := Lib.hid e3
  have H4 := Lib.hid e4
  have H5 := Lib.hid e5
  clear e0 e1 e2 e3 e4 e5
  go_enter Try.func8, Try.ntmps8
  go_wp2_with fail
  refine (sum_any _ _ (by decide)).mono ?_; rintro e w1 ⟨rfl, k1⟩
  rw [H0.out]
  go_wp2_with fail
  refine (sum_any _ _ (by decide)).mono ?_; rintro e w2 ⟨rfl, k2⟩
  rw [H1.out]
  go_wp2_with fail
  refine (sum_any _ _ (by decide)).mono ?_; rintro e w3 ⟨rfl, k3⟩
  generalize hs1 : sumN (bytesN ⟨#[49, 50, 51, 52]⟩) = s1 at *
  have HS1 := Lib.hid hs1
  clear hs1
  go_wp2_with fail
  refine (more_any s1 _ _ l1 (by decide)).mono ?_; rintro e w4 ⟨rfl, k4⟩
  rw [H2.out]
  go_wp2_with fail
  refine (sum_any ⟨#[49, 50, 51, 52]⟩ _ (by decide)).mono ?_; rintro e w5 ⟨rfl, k5⟩
  rw [HS1.out]
  go_wp2_with fail
  refine (sum_any ⟨#[53, 54, 55, 56, 57]⟩ _ (by decide)).mono ?_; rintro e w6 ⟨rfl, k6⟩
  generalize sumN (bytesN ⟨#[53, 54, 55, 56, 57]⟩) = s2 at *
  go_wp2_with fail
  refine (combine_any s1 s2 5 _ l1 l2 (by omega)).mono ?_; rintro e w7 ⟨rfl, k7⟩
  rw [show combineN s1 s2 (5 : Int).toNat = 3421780262 from H3.out]
  go_wp2_with fail
  refine (combine_any 7 0 0 _ (by omega) (by omega) (by omega)).mono ?_; rintro e w8 ⟨rfl, k8⟩
  rw [show combineN 7 0 (0 : Int).toNat = 7 from H4.out]
  go_wp2_with fail
  refine (combine_any 7 1 (-5) _ (by omega) (by omega) (by omega)).mono ?_; rintro e w9 ⟨rfl, k9⟩
  rw [show combineN 7 1 (-5 : Int).toNat = 6 from H5.out]
  go_wp2_with fail
  go_ret
  refine ⟨rfl, ?_⟩
  (repeat (first | exact Below.refl _ _ | refine kp_alloc ?_ _ | refine kp_drew ?_ | refine kp_set ?_ (by first | (simp; done) | (simp; omega) | omega) _ | refine kp_tr ?_ (by with_reducible assumption)))
theorem rup_any (c b : Nat) (w : World) (hc : c < 4294967296) (hb : b < 4294967296) :
    Calls Try.prog 21 #[.int .u32 (c : Int), .int .u32 (b : Int)] w fun e w' => e = .returned (.int .u32 ((halfN (c ^^^ b) : Nat) : Int)) ∧ w = w' := by
  have hx := u32_xor_nat c b hc hb
  have hl := xor32_lt hc hb
  generalize hi : c ^^^ b = i at hx hl
  clear hi
  by_cases h1 : i % 2 = 1
  · have H := Lib.hid (half_odd h1)
    have hy := u32_xor_nat (i / 2) 3988292384 (by omega) (by omega)
    rw [show ((i / 2 : Nat) : Int) = (i : Int) / 2 from by omega, show ((3988292384 : Nat) : Int) = 3988292384 from rfl] at hy
    have h2 : ((i : Int) % 2 == 1) = true := by simp; omega
    clear h1
    go_enter Try.func21, Try.ntmps21
    go_wp2
    go_ret
    exact retI (by rw [H.out]) rfl
  · have H := Lib.hid (half_even h1)
    have h2 : ((i : Int) % 2 == 1) = false := by simp; omega
    clear h1
    go_enter Try.func21, Try.ntmps21
    go_wp2
    go_ret
    exact retI (by rw [H.out]; omega) rfl
theorem rup_at (c : Nat) (x : Int) (w : World) (hc : c < 4294967296) (h1 : 0 ≤ x) (h2 : x < 4294967296) :
    Calls Try.prog 21 #[.int .u32 (c : Int), .int .u32 x] w fun e w' => e = .returned (.int .u32 ((halfN (c ^^^ x.toNat) : Nat) : Int)) ∧ w = w' := by
  obtain ⟨k, rfl⟩ := Int.eq_ofNat_of_zero_le h1
  exact rup_any c k w hc (by omega)
def bst (c b k : Nat) : Nat := iter halfN k (c ^^^ (b % 2 ^ k))
theorem bst_succ (c b k : Nat) : bst c b (k + 1) = halfN (bst c b k ^^^ (b / 2 ^ k % 2)) := by
  have e : b % 2 ^ (k + 1) = (b % 2 ^ k) ^^^ (2 ^ k * (b / 2 ^ k % 2)) := by
    have h := split_lo (b % 2 ^ (k + 1)) k
    rw [Nat.mod_mod_of_dvd _ (Nat.pow_dvd_pow 2 (by omega))] at h
    rw [h]; congr 1; congr 1
    rw [Nat.pow_succ, Nat.mod_mul_right_div_self]
  unfold bst
  rw [e, iter_succ', ← Nat.xor_assoc, iter_xor, iter_pow]
theorem bit_ex (b k : Nat) (hb : b < 256) : ∃ z : Nat, (b : Int) / 2 ^ k = (z : Int) ∧ z = b / 2 ^ k ∧ z < 256 :=
  ⟨b / 2 ^ k, by simp, rfl, Nat.lt_of_le_of_lt (Nat.div_le_self _ _) hb⟩
theorem rbyte_any (c b : Nat) (w : World) (hc : c < 4294967296) (hb : b < 256) :
    Calls Try.prog 18 #[.int .u32 (c : Int), .int .u8 (b : Int)] w fun e w' => e = .returned (.int .u32 ((upN c b : Nat) : Int)) ∧ w = w' := by
  have HE : Hid (bst c b 8 = upN c b) := by show iter halfN 8 (c ^^^ (b % 256)) = zeroN (c ^^^ b); rw [Nat.mod_eq_of_lt hb]; rfl
  have HL : Hid (∀ k, bst c b k < 4294967296) := fun k => iter_lt k (xor32_lt hc (Nat.lt_of_le_of_lt (Nat.mod_le _ _) (by omega)))
  go_enter Try.func18, Try.ntmps18
  go_wp2_with fail
  go_loop [5, 6] (fun v i => ∃ k : Nat, k ≤ 8 ∧ i = .int .i64 k ∧ v = .int .u32 ((bst c b k : Nat) : Int)) (fun _ i => 8 - (intOf i).toNat)
  case atStart => exact ⟨0, by omega, rfl, by simp [bst, iter, Nat.mod_one]⟩
  case round =>
    obtain ⟨k, hk, rfl, rfl⟩ := hrel
    by_cases hlt : k < 8
    · have HS := Lib.hid (bst_succ c b k)
      have hl := HL.out k
      generalize hq : bst c b k = q at *
      clear hq
      obtain ⟨z, hz, hzd, hzl⟩ := bit_ex b k hb
      have HZ := Lib.hid hzd
      clear hzd
      go_wp2_with fail
      refine (rup_at q _ _ hl (by omega) (by omega)).mono ?_; rintro e w' ⟨rfl, rfl⟩
      go_wp2_with fail
      exact ⟨⟨k + 1, by omega, by go_num, by rw [HS.out, ← HZ.out]; congr 4⟩, by simp [intOf]; omega⟩
    · obtain rfl : k = 8 := by omega
      go_wp2_with fail
      go_ret
      exact ⟨by rw [← HE.out]; rfl, rfl⟩
end Go.Proofs.Yteebihhpmohceaa.cw
