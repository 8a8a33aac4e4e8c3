/- CrcCombine, CrcZeros, CrcEnds: the walks. No conditions. -/
import Derived.Test.YteebihhpmohceaaCr
import Derived.Deep.DeepCutAuto
namespace Go.Proofs.Yteebihhpmohceaa.cw
open Go.RowKit Go.Proofs.Yteebihhpmohceaa.cm
set_option linter.unusedVariables false
set_option linter.unusedSimpArgs false
theorem bytesN_append (a b : ByteArray) : bytesN (a ++ b) = bytesN a ++ bytesN b := by simp [bytesN]
theorem sz60 {z : ByteArray} (h : z.size ≤ 60) : z.size ≤ maxLen := by unfold maxLen; omega
theorem szc (s : ByteArray) {n : Nat} (h : s.size ≤ n) (hn : n ≤ 1000) : s.size ≤ maxLen := by unfold maxLen; omega
set_option maxRecDepth 100000 in
theorem combine_walk (s t u : ByteArray) (w : World) (hs : s.size ≤ maxLen) (ht : t.size ≤ maxLen) (hu : u.size ≤ maxLen) :
    Calls Try.prog 4 #[.string s, .string t, .string u] w fun e w' => e = .returned (.bool true) ∧ Below w.heap.size w w' := by
  unfold maxLen at hs ht hu
  go_enter Try.func4, Try.ntmps4
  go_wp2_with fail
  refine (awake_any _).mono ?_; rintro e w1 ⟨rfl, k1⟩
  go_upto_region 2 with (fail)
  go_cut [8] (fun v wx => (∃ z : ByteArray, v = .string z ∧ z.size ≤ 60) ∧ w1 = wx)
  case first =>
    go_wp2_with fail
    all_goals go_meet
    all_goals exact ⟨⟨_, rfl, by first | omega | (simp; omega)⟩, rfl⟩
  case rest =>
  obtain ⟨⟨a, rfl, al⟩, hww⟩ := hcut
  subst hww
  go_upto_region 3 with (fail)
  go_cut [9] (fun v wx => (∃ z : ByteArray, v = .string z ∧ z.size ≤ 60) ∧ w1 = wx)
  case first =>
    go_wp2_with fail
    all_goals go_meet
    all_goals exact ⟨⟨_, rfl, by first | omega | (simp; omega)⟩, rfl⟩
  case rest =>
  obtain ⟨⟨b, rfl, bl⟩, hww⟩ := hcut
  subst hww
  go_upto_region 4 with (fail)
  go_cut [10] (fun v wx => (∃ z : ByteArray, v = .string z ∧ z.size ≤ 60) ∧ w1 = wx)
  case first =>
    go_wp2_with fail
    all_goals go_meet
    all_goals exact ⟨⟨_, rfl, by first | omega | (simp; omega)⟩, rfl⟩
  case rest =>
  obtain ⟨⟨c, rfl, cl⟩, hww⟩ := hcut
  subst hww
  have hA := moreN_lt (bytesN a) (c := 0) (by omega) (bytesN_lt a)
  have hB := moreN_lt (bytesN b) (c := 0) (by omega) (bytesN_lt b)
  have hC := moreN_lt (bytesN c) (c := 0) (by omega) (bytesN_lt c)
  change sumN (bytesN a) < _ at hA
  change sumN (bytesN b) < _ at hB
  change sumN (bytesN c) < _ at hC
  generalize eA : sumN (bytesN a) = A at hA
  generalize eB : sumN (bytesN b) = B at hB
  generalize eC : sumN (bytesN c) = C at hC
  have e1 : sumN (bytesN (a ++ b)) = combineN A B b.size := by rw [bytesN_append, sum_append, eA, eB, bytesN_len]
  have e2 : moreN A (bytesN b) = combineN A B b.size := by rw [← e1, ← eA, bytesN_append]; exact (moreN_append 0 _ _).symm
  have e3 : combineN (combineN A B b.size) C c.size = sumN (bytesN (a ++ b ++ c)) := by rw [bytesN_append, sum_append, e1, eC, bytesN_len]
  have e4 : combineN A (combineN B C c.size) (b.size + c.size) = sumN (bytesN (a ++ b ++ c)) := by rw [← e3, combine_assoc]
  have hAB : combineN A B b.size < 4294967296 := xor32_lt (iterz_lt _ hA) hB
  have hBC : combineN B C c.size < 4294967296 := xor32_lt (iterz_lt _ hB) hC
  generalize eS : sumN (bytesN (a ++ b ++ c)) = S at e3 e4
  generalize eAB : combineN A B b.size = AB at e1 e2 e3 hAB
  generalize eBC : combineN B C c.size = BC at e4 hBC
  have HA := Lib.hid eA
  have HB := Lib.hid eB
  have HC := Lib.hid eC
  have H1 := Lib.hid e1
  have H2 := Lib.hid e2
  have H3 := Lib.hid e3
  have H4 := Lib.hid e4
  have HS := Lib.hid eS
  have HAB := Lib.hid eAB
  have HBC := Lib.hid eBC
  clear eA eB eC e1 e2 e3 e4 eS eAB eBC hs ht hu
  go_wp2_with fail
  refine (sum_any _ _ (szc a al (by omega))).mono ?_; rintro e w2 ⟨rfl, k2⟩
  rw [HA.out]
  go_wp2_with fail
  refine (sum_any _ _ (szc b bl (by omega))).mono ?_; rintro e w3 ⟨rfl, k3⟩
  rw [HB.out]
  go_wp2_with fail
  refine (combine_any _ _ _ _ hA hB (by omega)).mono ?_; rintro e w4 ⟨rfl, k4⟩
  rw [show combineN A B ((b.size : Int)).toNat = AB from HAB.out]
  go_wp2_with fail
  refine (sum_any _ _ (szc b bl (by omega))).mono ?_; rintro e w5 ⟨rfl, k5⟩
  rw [HB.out]
  go_wp2_with fail
  refine (sum_any _ _ (szc c cl (by omega))).mono ?_; rintro e w6 ⟨rfl, k6⟩
  rw [HC.out]
  go_wp2_with fail
  refine (combine_any _ _ _ _ hB hC (by omega)).mono ?_; rintro e w7 ⟨rfl, k7⟩
  rw [show combineN B C ((c.size : Int)).toNat = BC from HBC.out]
  go_wp2_with fail
  refine (sum_any _ _ (szc (a ++ b) (n := 120) (by simp; omega) (by omega))).mono ?_; rintro e w8 ⟨rfl, k8⟩
  rw [H1.out]
  go_wp2_with fail
  refine (sum_any _ _ (szc a al (by omega))).mono ?_; rintro e w9 ⟨rfl, k9⟩
  rw [HA.out]
  go_wp2_with fail
  refine (more_any A _ _ hA (szc b bl (by omega))).mono ?_; rintro e w10 ⟨rfl, k10⟩
  rw [H2.out]
  go_wp2_with fail
  refine (sum_any _ _ (szc c cl (by omega))).mono ?_; rintro e w11 ⟨rfl, k11⟩
  rw [HC.out]
  go_wp2_with fail
  refine (combine_any _ _ _ _ hAB hC (by omega)).mono ?_; rintro e w12 ⟨rfl, k12⟩
  rw [show combineN AB C ((c.size : Int)).toNat = S from H3.out]
  go_wp2_with fail
  refine (sum_any _ _ (szc (a ++ b ++ c) (n := 180) (by simp; omega) (by omega))).mono ?_; rintro e w13 ⟨rfl, k13⟩
  rw [HS.out]
  go_wp2_with fail
  refine (sum_any _ _ (szc a al (by omega))).mono ?_; rintro e w14 ⟨rfl, k14⟩
  rw [HA.out]
  go_wp2_with fail
  refine (combine_any _ _ _ _ hA hBC (by omega)).mono ?_; rintro e w15 ⟨rfl, k15⟩
  rw [show combineN A BC ((b.size : Int) + (c.size : Int)).toNat = S from by rw [show ((b.size : Int) + (c.size : Int)).toNat = b.size + c.size from by omega]; exact H4.out]
  go_wp2_with fail
  refine (sum_any _ _ (szc (a ++ b ++ c) (n := 180) (by simp; omega) (by omega))).mono ?_; rintro e w16 ⟨rfl, k16⟩
  rw [HS.out]
  go_wp2_with fail
  go_ret
  refine ⟨rfl, ?_⟩
  (repeat (first | exact Below.refl _ _ | refine kp_alloc ?_ _ | refine kp_drew ?_ | refine kp_set ?_ (by first | (simp; done) | (simp; omega) | omega) _ | refine kp_tr ?_ (by with_reducible assumption)))
end Go.Proofs.Yteebihhpmohceaa.cw
