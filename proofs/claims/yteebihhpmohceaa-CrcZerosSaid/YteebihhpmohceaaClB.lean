/- CrcZeros: the walk. No conditions. -/
import Derived.Test.YteebihhpmohceaaClA
import Derived.Laws.BytesArg
import Derived.Laws.MakeOwn
namespace Go.Proofs.Yteebihhpmohceaa.cw
open Go.RowKit Go.Proofs.Yteebihhpmohceaa.cm
set_option linter.unusedVariables false
set_option linter.unusedSimpArgs false
theorem info_u8 : (Try.prog.info? 5).map (fun i => (i.zero, i.size, i.bytes)) = some (some (.int .u8 0), 1, 1) := by kernel_rfl
def zerosA (k : Nat) : Array Value := madeCells (Value.int .u8 0).cells k
theorem made_zeros (k j : Nat) (h : j < k) : (zerosA k)[j]? = some (.int .u8 0) := by
  simp [zerosA, madeCells, h, Value.cells, Nat.mod_one]
theorem make_zeros (k : Nat) (W : World) (h : k < 1000) : (Instr.makeSlice 31 (.int .i64 (k : Int)) (.int .i64 (k : Int))).run Try.prog W = .ok (.slice (some ⟨W.heap.size, 0, none⟩) k k) (W.alloc (.cells (zerosA k) 5)) := by
  obtain ⟨i0, hi, hz0, hz1, hz2⟩ := info_parts info_u8
  have := run_make (P := Try.prog) W 31 5 i0 (.int .u8 0) Try.underlying31 hi hz0 .i64 .i64 k k (by omega) (by omega) (by rw [hz2]; omega) (by omega)
  rw [this, hz1]
  simp [zerosA]
attribute [irreducible] zerosA
theorem conv_zeros (k : Nat) (W : World) : (convert 31 9 (.slice (some ⟨W.heap.size, 0, none⟩) k k)).run Try.prog (W.alloc (.cells (zerosA k) 5)) = .ok (.string (strOfNums (List.replicate k 0))) (W.alloc (.cells (zerosA k) 5)) := by
  refine run_convert_bytes_arg (P := Try.prog) _ 31 5 Try.underlying31 Try.underlying5 W.heap.size 0 k k (List.replicate k 0) (by simp) (fun i hi => ?_) 9 Try.underlying9
  rw [World.cell?_alloc_at _ _ _ _ rfl, Nat.zero_add, made_zeros k i hi]
  simp [List.getD, hi]
theorem bytesN_zeros (k : Nat) : bytesN (strOfNums (List.replicate k 0)) = List.replicate k 0 := by
  unfold bytesN
  rw [strOfNums_data]
  simp
set_option maxRecDepth 100000 in
theorem zeros_walk (s : ByteArray) (n : Int) (w : World) (hs : s.size ≤ maxLen) (hn : -9223372036854775808 ≤ n ∧ n < 9223372036854775808) :
    Calls Try.prog 7 #[.string s, .int .i64 n] w fun e w' => e = .returned (.bool true) ∧ Below w.heap.size w w' := by
  unfold maxLen at hs
  go_enter Try.func7, Try.ntmps7
  go_wp2_with fail
  refine (awake_any _).mono ?_; rintro e w1 ⟨rfl, k1⟩
  go_upto_region 2 with (fail)
  go_cut [6] (fun v wx => (∃ z : ByteArray, v = .string z ∧ z.size ≤ 60) ∧ w1 = wx)
  case first =>
    go_wp2_with fail
    all_goals go_meet
    all_goals exact ⟨⟨_, rfl, by first | omega | (simp; omega)⟩, rfl⟩
  case rest =>
  obtain ⟨⟨a, rfl, al⟩, hww⟩ := hcut
  subst hww
  go_wp2_with fail
  refine (pick_ex _ _ _ (by omega) (by omega) (by omega) (by omega)).mono ?_; rintro e ww ⟨⟨r, rg, rl, rfl⟩, rfl⟩
  obtain ⟨k, rfl⟩ := Int.eq_ofNat_of_zero_le rg
  have hk : k < 1000 := by omega
  have hmk := fun W => make_zeros k W hk
  have hcv := fun W => conv_zeros k W
  have hZs : (strOfNums (List.replicate k 0)).size = k := by rw [strOfNums_size]; simp
  have hbz := bytesN_zeros k
  generalize hZ : strOfNums (List.replicate k 0) = z at hcv hZs hbz
  clear hZ
  have hA := moreN_lt (bytesN a) (c := 0) (by omega) (bytesN_lt a)
  have hB := moreN_lt (bytesN z) (c := 0) (by omega) (bytesN_lt z)
  change sumN (bytesN a) < _ at hA
  change sumN (bytesN z) < _ at hB
  have e5 : combineN 0 (sumN (bytesN z)) k = sumN (bytesN z) := by rw [hbz]; exact sum_zeros k
  generalize eA : sumN (bytesN a) = A at hA
  generalize eB : sumN (bytesN z) = B at hB e5
  have e1 : sumN (bytesN (a ++ z)) = combineN A B k := by rw [bytesN_append, sum_append, eA, eB, bytesN_len, hZs]
  have e2 : moreN A (bytesN z) = combineN A B k := by rw [← e1, ← eA, bytesN_append]; exact (moreN_append 0 _ _).symm
  have HA := Lib.hid eA
  have HB := Lib.hid eB
  have H1 := Lib.hid e1
  have H2 := Lib.hid e2
  have H5 := Lib.hid e5
  have hzl : z.size ≤ 100 := by omega
  have hsz : (a ++ z).size ≤ 200 := by simp; omega
  clear eA eB e1 e2 e5 hs hn hbz hZs
  go_wp2_with fail
  refine (sum_any _ _ (szc (a ++ z) hsz (by omega))).mono ?_; rintro e w2 ⟨rfl, k2⟩
  rw [H1.out]
  clear hmk hcv
  go_wp2_with fail
  refine (sum_any _ _ (szc a al (by omega))).mono ?_; rintro e w3 ⟨rfl, k3⟩
  rw [HA.out]
  go_wp2_with fail
  refine (sum_any _ _ (szc z hzl (by omega))).mono ?_; rintro e w4 ⟨rfl, k4⟩
  rw [HB.out]
  go_wp2_with fail
  refine (combine_any _ _ _ _ hA hB (by omega)).mono ?_; rintro e w5 ⟨rfl, k5⟩
  rw [show combineN A B ((k : Int)).toNat = combineN A B k from rfl]
  go_wp2_with fail
  refine (sum_any _ _ (szc z hzl (by omega))).mono ?_; rintro e w6 ⟨rfl, k6⟩
  rw [HB.out]
  go_wp2_with fail
  refine (combine_any _ _ _ _ (show 0 < 4294967296 from by omega) hB (by omega)).mono ?_; rintro e w7 ⟨rfl, k7⟩
  rw [show combineN 0 B ((k : Int)).toNat = B from H5.out]
  go_wp2_with fail
  refine (sum_any _ _ (szc z hzl (by omega))).mono ?_; rintro e w8 ⟨rfl, k8⟩
  rw [HB.out]
  go_wp2_with fail
  refine (sum_any _ _ (szc a al (by omega))).mono ?_; rintro e w9 ⟨rfl, k9⟩
  rw [HA.out]
  go_wp2_with fail
  refine (more_any A _ _ hA (szc z hzl (by omega))).mono ?_; rintro e w10 ⟨rfl, k10⟩
  rw [H2.out]
  go_wp2_with fail
  refine (sum_any _ _ (szc (a ++ z) hsz (by omega))).mono ?_; rintro e w11 ⟨rfl, k11⟩
  rw [H1.out]
  go_wp2_with fail
  go_ret
  refine ⟨rfl, ?_⟩
  (repeat (first | exact Below.refl _ _ | refine kp_alloc ?_ _ | refine kp_drew ?_ | refine kp_set ?_ (by first | (simp; done) | (simp; omega) | omega) _ | refine kp_tr ?_ (by with_reducible assumption)))
end Go.Proofs.Yteebihhpmohceaa.cw
