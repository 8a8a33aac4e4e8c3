/- CrcEnds: the walk. No conditions. -/
import Derived.Test.YteebihhpmohceaaClA
import Derived.Laws.BytesArg
import Derived.Deep.RegionHeld3
namespace Go.Proofs.Yteebihhpmohceaa.cw
open Go.RowKit Go.Proofs.Yteebihhpmohceaa.cm
set_option linter.unusedVariables false
set_option linter.unusedSimpArgs false
theorem conv4_at (b : Nat) (b0 b1 b2 b3 : Int) (W : World) (h0 : W.cell? ⟨b, 0, none⟩ = some (.int .u8 b0)) (h1 : W.cell? ⟨b, 1, none⟩ = some (.int .u8 b1)) (h2 : W.cell? ⟨b, 2, none⟩ = some (.int .u8 b2)) (h3 : W.cell? ⟨b, 3, none⟩ = some (.int .u8 b3)) :
    (convert 31 9 (.slice (some ⟨b, 0, none⟩) 4 4)).run Try.prog W = .ok (.string (strOfNums [b0, b1, b2, b3])) W := by
  refine run_convert_bytes_arg (P := Try.prog) W 31 5 Try.underlying31 Try.underlying5 b 0 4 4 [b0, b1, b2, b3] rfl (fun i hi => ?_) 9 Try.underlying9
  rcases i with _ | _ | _ | _ | i
  · exact h0
  · exact h1
  · exact h2
  · exact h3
  · omega
theorem conv4 (b0 b1 b2 b3 : Int) (W : World) :
    (convert 31 9 (.slice (some ⟨W.heap.size, 0, none⟩) 4 4)).run Try.prog (W.alloc (.cells #[.int .u8 b0, .int .u8 b1, .int .u8 b2, .int .u8 b3] 5)) = .ok (.string (strOfNums [b0, b1, b2, b3])) (W.alloc (.cells #[.int .u8 b0, .int .u8 b1, .int .u8 b2, .int .u8 b3] 5)) :=
  conv4_at _ b0 b1 b2 b3 _ (by simp) (by simp) (by simp) (by simp)
theorem bytesN_4 (b0 b1 b2 b3 : Int) (h0 : 0 ≤ b0 ∧ b0 < 256) (h1 : 0 ≤ b1 ∧ b1 < 256) (h2 : 0 ≤ b2 ∧ b2 < 256) (h3 : 0 ≤ b3 ∧ b3 < 256) : bytesN (strOfNums [b0, b1, b2, b3]) = [b0.toNat, b1.toNat, b2.toNat, b3.toNat] := by
  unfold bytesN
  rw [strOfNums_data]
  simp only [List.map]
  have g : ∀ x : Int, 0 ≤ x ∧ x < 256 → (UInt8.ofNat x.toNat).toNat = x.toNat := fun x hx => by rw [UInt8.toNat_ofNat']; omega
  rw [g b0 h0, g b1 h1, g b2 h2, g b3 h3]
theorem le4_int (A : Nat) (h : A < 4294967296) : bytesN (strOfNums [(A : Int) % 256, (A : Int) / 256 % 256, (A : Int) / 65536 % 256, (A : Int) / 16777216]) = le4 A := by
  rw [bytesN_4 _ _ _ _ (by omega) (by omega) (by omega) (by omega)]
  unfold le4
  rw [show ((A : Int) % 256).toNat = A % 256 from by omega, show ((A : Int) / 256 % 256).toNat = A / 256 % 256 from by omega, show ((A : Int) / 65536 % 256).toNat = A / 65536 % 256 from by omega, show ((A : Int) / 16777216).toNat = A / 16777216 % 256 from by omega]
theorem sum_own (a : ByteArray) (A : Nat) (hA : sumN (bytesN a) = A) (z : ByteArray) (hz : bytesN z = le4 A) (h : A < 4294967296) : sumN (bytesN (a ++ z)) = iter zeroN 4 top32 ^^^ top32 := by
  rw [bytesN_append, hz, ← hA]; exact sum_ends _ (by rw [hA]; exact h)
theorem cells_u8 : Try.prog.cellsOf 5 = 1 := by kernel_rfl
theorem eq4 (x0 x1 x2 x3 y0 y1 y2 y3 : Int) (W : World) :
    (binOp .eql 33 (.agg #[.int .u8 x0, .int .u8 x1, .int .u8 x2, .int .u8 x3]) (.agg #[.int .u8 y0, .int .u8 y1, .int .u8 y2, .int .u8 y3])).run Try.prog W = .ok (.bool (x0 == y0 && (x1 == y1 && (x2 == y2 && x3 == y3)))) W := by
  obtain ⟨i0, hi, _, _, _⟩ := info_parts (show (Try.prog.info? 5).map (fun i => (i.zero, i.size, i.bytes)) = some (some (.int .u8 0), 1, 1) from by kernel_rfl)
  rw [run_eql_struct, run_equalIn_array W 9999 _ _ Try.underlying33 hi, cells_u8, show List.range 4 = [0, 1, 2, 3] from rfl]
  have hu := fun a b => run_equalIn_int (P := Try.prog) (w := W) 9998 5 .u8 .u8 a b Try.underlying5
  cases h0 : (x0 == y0) <;> cases h1 : (x1 == y1) <;> cases h2 : (x2 == y2) <;> cases h3 : (x3 == y3) <;>
    simp [Op.eqItems, part, hu, h0, h1, h2, h3, go_sem]
theorem s8_tr {W w1 : World} (hb : Below W.heap.size W w1) {p0 p1 p2 p3 q0 q1 q2 q3 : Addr} {u0 u1 u2 u3 v0 v1 v2 v3 : Value}
    (h : W.cell? p0 = some u0 ∧ W.cell? p1 = some u1 ∧ W.cell? p2 = some u2 ∧ W.cell? p3 = some u3 ∧ W.cell? q0 = some v0 ∧ W.cell? q1 = some v1 ∧ W.cell? q2 = some v2 ∧ W.cell? q3 = some v3) :
    w1.cell? p0 = some u0 ∧ w1.cell? p1 = some u1 ∧ w1.cell? p2 = some u2 ∧ w1.cell? p3 = some u3 ∧ w1.cell? q0 = some v0 ∧ w1.cell? q1 = some v1 ∧ w1.cell? q2 = some v2 ∧ w1.cell? q3 = some v3 := by
  obtain ⟨a, b, c, d, e, f, g, i⟩ := h
  exact ⟨cell_tr hb a, cell_tr hb b, cell_tr hb c, cell_tr hb d, cell_tr hb e, cell_tr hb f, cell_tr hb g, cell_tr hb i⟩
def num4 (x0 x1 x2 x3 : Int) : Nat := (x0 + 256 * x1 + 65536 * x2 + 16777216 * x3).toNat
theorem num4_lt (x0 x1 x2 x3 : Int) (h0 : 0 ≤ x0 ∧ x0 < 256) (h1 : 0 ≤ x1 ∧ x1 < 256) (h2 : 0 ≤ x2 ∧ x2 < 256) (h3 : 0 ≤ x3 ∧ x3 < 256) : num4 x0 x1 x2 x3 < 4294967296 := by unfold num4; omega
theorem num4_le4 (x0 x1 x2 x3 : Int) (h0 : 0 ≤ x0 ∧ x0 < 256) (h1 : 0 ≤ x1 ∧ x1 < 256) (h2 : 0 ≤ x2 ∧ x2 < 256) (h3 : 0 ≤ x3 ∧ x3 < 256) : [x0.toNat, x1.toNat, x2.toNat, x3.toNat] = le4 (num4 x0 x1 x2 x3) := by
  unfold num4 le4
  obtain ⟨a, rfl⟩ := Int.eq_ofNat_of_zero_le h0.1
  obtain ⟨b, rfl⟩ := Int.eq_ofNat_of_zero_le h1.1
  obtain ⟨c, rfl⟩ := Int.eq_ofNat_of_zero_le h2.1
  obtain ⟨d, rfl⟩ := Int.eq_ofNat_of_zero_le h3.1
  simp only [Int.toNat_natCast, List.cons.injEq, and_true]
  refine ⟨?_, ?_, ?_, ?_⟩ <;> omega
theorem ends_eq {l : List Nat} (hl : ∀ b ∈ l, b < 256) {X Y : Nat} {x0 x1 x2 x3 y0 y1 y2 y3 : Int} (hx0 : 0 ≤ x0 ∧ x0 < 256) (hx1 : 0 ≤ x1 ∧ x1 < 256) (hx2 : 0 ≤ x2 ∧ x2 < 256) (hx3 : 0 ≤ x3 ∧ x3 < 256) (hy0 : 0 ≤ y0 ∧ y0 < 256) (hy1 : 0 ≤ y1 ∧ y1 < 256) (hy2 : 0 ≤ y2 ∧ y2 < 256) (hy3 : 0 ≤ y3 ∧ y3 < 256)
    (hX : X = sumN (l ++ [x0.toNat, x1.toNat, x2.toNat, x3.toNat])) (hY : Y = sumN (l ++ [y0.toNat, y1.toNat, y2.toNat, y3.toNat])) :
    (((X : Int) == (Y : Int)) == (x0 == y0 && (x1 == y1 && (x2 == y2 && x3 == y3)))) = true := by
  have h := sum_tail_inj l hl (x := num4 x0 x1 x2 x3) (y := num4 y0 y1 y2 y3) (num4_lt _ _ _ _ hx0 hx1 hx2 hx3) (num4_lt _ _ _ _ hy0 hy1 hy2 hy3)
  rw [← num4_le4 _ _ _ _ hx0 hx1 hx2 hx3, ← num4_le4 _ _ _ _ hy0 hy1 hy2 hy3, ← hX, ← hY] at h
  have hr : num4 x0 x1 x2 x3 = num4 y0 y1 y2 y3 ↔ (x0 = y0 ∧ x1 = y1 ∧ x2 = y2 ∧ x3 = y3) := by unfold num4; omega
  rw [hr] at h
  have e1 : ((X : Int) == (Y : Int)) = decide (X = Y) := by rw [Bool.eq_iff_iff]; simp; omega
  rw [e1]
  by_cases g : X = Y
  · obtain ⟨rfl, rfl, rfl, rfl⟩ := h.mp g
    simp [g]
  · have : ¬ (x0 = y0 ∧ x1 = y1 ∧ x2 = y2 ∧ x3 = y3) := fun q => g (h.mpr q)
    simp [g]
    grind
set_option maxRecDepth 100000 in
set_option maxHeartbeats 4000000 in
theorem ends_walk (s t : ByteArray) (x0 x1 x2 x3 y0 y1 y2 y3 : Int) (w : World) (hs : s.size ≤ maxLen) (ht : t.size ≤ maxLen)
    (hx0 : 0 ≤ x0 ∧ x0 < 256) (hx1 : 0 ≤ x1 ∧ x1 < 256) (hx2 : 0 ≤ x2 ∧ x2 < 256) (hx3 : 0 ≤ x3 ∧ x3 < 256) (hy0 : 0 ≤ y0 ∧ y0 < 256) (hy1 : 0 ≤ y1 ∧ y1 < 256) (hy2 : 0 ≤ y2 ∧ y2 < 256) (hy3 : 0 ≤ y3 ∧ y3 < 256) :
    Calls Try.prog 6 #[.string s, .string t, .agg #[.int .u8 x0, .int .u8 x1, .int .u8 x2, .int .u8 x3], .agg #[.int .u8 y0, .int .u8 y1, .int .u8 y2, .int .u8 y3]] w fun e w' => e = .returned (.bool true) ∧ Below w.heap.size w w' := by
  unfold maxLen at hs ht
  go_enter Try.func6, Try.ntmps6
  go_wp2_with fail
  refine (awake_any _).mono ?_; rintro e w1 ⟨rfl, k1⟩
  have Kx : Blk w1 w.heap.size #[.int .u8 x0, .int .u8 x1, .int .u8 x2, .int .u8 x3] 33 := Blk.tr (by (repeat (first | with_reducible assumption | exact Blk.mk rfl | exact Blk.mk (by simp) | refine Blk.drew ?_ | refine Blk.alloc ?_ _ | refine Blk.tr ?_ (by with_reducible assumption)))) k1
  have Ky : Blk w1 (w.heap.size + 1) #[.int .u8 y0, .int .u8 y1, .int .u8 y2, .int .u8 y3] 33 := Blk.tr (by (repeat (first | with_reducible assumption | exact Blk.mk rfl | exact Blk.mk (by simp) | refine Blk.drew ?_ | refine Blk.alloc ?_ _ | refine Blk.tr ?_ (by with_reducible assumption)))) k1
  go_upto_region 2 with (fail)
  go_cut [10] (fun v wx => (∃ z : ByteArray, v = .string z ∧ z.size ≤ 60) ∧ w1 = wx)
  case first =>
    go_wp2_with fail
    all_goals go_meet
    all_goals exact ⟨⟨_, rfl, by first | omega | (simp; omega)⟩, rfl⟩
  case rest =>
  obtain ⟨⟨a, rfl, al⟩, hww⟩ := hcut
  subst hww
  go_upto_region 3 with (fail)
  go_cut [11] (fun v wx => (∃ z : ByteArray, v = .string z ∧ z.size ≤ 60) ∧ w1 = wx)
  case first =>
    go_wp2_with fail
    all_goals go_meet
    all_goals exact ⟨⟨_, rfl, by first | omega | (simp; omega)⟩, rfl⟩
  case rest =>
  obtain ⟨⟨b, rfl, bl⟩, hww⟩ := hcut
  subst hww
  have hA := moreN_lt (bytesN a) (c := 0) (by omega) (bytesN_lt a)
  have hB := moreN_lt (bytesN b) (c := 0) (by omega) (bytesN_lt b)
  change sumN (bytesN a) < _ at hA
  change sumN (bytesN b) < _ at hB
  generalize eA : sumN (bytesN a) = A at hA
  generalize eB : sumN (bytesN b) = B at hB
  have HA := Lib.hid eA
  have HB := Lib.hid eB
  have hcv := conv4
  have hs4 : ∀ b0 b1 b2 b3 : Int, (strOfNums [b0, b1, b2, b3]).size = 4 := fun b0 b1 b2 b3 => by rw [strOfNums_size]; rfl
  clear hs ht eA eB
  go_wp2_with fail
  refine (sum_any _ _ (szc a al (by omega))).mono ?_; rintro e w2 ⟨rfl, k2⟩
  rw [HA.out]
  go_wp2_with fail
  refine (sum_any _ _ (szc b bl (by omega))).mono ?_; rintro e w3 ⟨rfl, k3⟩
  rw [HB.out]
  have hza := le4_int A hA
  have hsa := hs4 ((A : Int) % 256) ((A : Int) / 256 % 256) ((A : Int) / 65536 % 256) ((A : Int) / 16777216)
  have HPa := Lib.hid (sum_own a A HA.out _ hza hA)
  have hzb := le4_int B hB
  have HPb := Lib.hid (sum_own b B HB.out _ hzb hB)
  clear hza hsa hzb
  generalize iter zeroN 4 top32 ^^^ top32 = R at HPa HPb
  go_wp2_with fail
  refine (sum_any _ _ (szc _ (n := 64) (by rw [ByteArray.size_append, hs4]; omega) (by omega))).mono ?_; rintro e w4 ⟨rfl, k4⟩
  rw [HPa.out]
  go_wp2_with fail
  refine (sum_any _ _ (szc _ (n := 64) (by rw [ByteArray.size_append, hs4]; omega) (by omega))).mono ?_; rintro e w5 ⟨rfl, k5⟩
  rw [HPb.out]
  go_wp2_with fail
  have Kx5 : Blk w5 w.heap.size #[.int .u8 x0, .int .u8 x1, .int .u8 x2, .int .u8 x3] 33 := ((((Kx.tr k2).tr k3).alloc _).tr k4 |>.alloc _).tr k5
  have Ky5 : Blk w5 (w.heap.size + 1) #[.int .u8 y0, .int .u8 y1, .int .u8 y2, .int .u8 y3] 33 := ((((Ky.tr k2).tr k3).alloc _).tr k4 |>.alloc _).tr k5
  obtain ⟨lx, cx, fx⟩ := Kx5.get
  obtain ⟨ly, cy, fy⟩ := Ky5.get
  have cx0 := cx 0
  have cx1 := cx 1
  have cx2 := cx 2
  have cx3 := cx 3
  have cy0 := cy 0
  have cy1 := cy 1
  have cy2 := cy 2
  have cy3 := cy 3
  have hcx := conv4_at w.heap.size x0 x1 x2 x3
  have hcy := conv4_at (w.heap.size + 1) y0 y1 y2 y3
  have HX : Hid (sumN (bytesN (a ++ strOfNums [x0, x1, x2, x3])) = sumN (bytesN a ++ [x0.toNat, x1.toNat, x2.toNat, x3.toNat])) := by show _ = _; rw [bytesN_append, bytesN_4 _ _ _ _ hx0 hx1 hx2 hx3]
  have HY : Hid (sumN (bytesN (a ++ strOfNums [y0, y1, y2, y3])) = sumN (bytesN a ++ [y0.toNat, y1.toNat, y2.toNat, y3.toNat])) := by show _ = _; rw [bytesN_append, bytesN_4 _ _ _ _ hy0 hy1 hy2 hy3]
  have heq := eq4 x0 x1 x2 x3 y0 y1 y2 y3
  have hsx := hs4 x0 x1 x2 x3
  have hsy := hs4 y0 y1 y2 y3
  have hmx : ¬ 9223372036854775807 < a.size + 4 := by omega
  clear hs4
  go_region_held3 (fun w' => w'.cell? ⟨w.heap.size, 0, none⟩ = some (.int .u8 x0) ∧ w'.cell? ⟨w.heap.size, 1, none⟩ = some (.int .u8 x1) ∧ w'.cell? ⟨w.heap.size, 2, none⟩ = some (.int .u8 x2) ∧ w'.cell? ⟨w.heap.size, 3, none⟩ = some (.int .u8 x3) ∧ w'.cell? ⟨w.heap.size + 1, 0, none⟩ = some (.int .u8 y0) ∧ w'.cell? ⟨w.heap.size + 1, 1, none⟩ = some (.int .u8 y1) ∧ w'.cell? ⟨w.heap.size + 1, 2, none⟩ = some (.int .u8 y2) ∧ w'.cell? ⟨w.heap.size + 1, 3, none⟩ = some (.int .u8 y3))
    (first | go_keep | (apply s8_tr <;> assumption))
    (first | (go_at_call 12; refine (sum_any _ _ (szc _ (n := 64) (by rw [ByteArray.size_append, strOfNums_size]; simp; omega) (by omega))).mono ?_; rintro e w6 ⟨rfl, k6⟩))
  go_wp2_with fail
  rename_i w6a k6a hh
  rw [ends_eq (bytesN_lt a) hx0 hx1 hx2 hx3 hy0 hy1 hy2 hy3 HX.out HY.out]
  go_ret
  refine ⟨rfl, ?_⟩
  (repeat (first | exact Below.refl _ _ | refine kp_alloc ?_ _ | refine kp_drew ?_ | refine kp_set ?_ (by first | (simp; done) | (simp; omega) | omega) _ | refine kp_tr ?_ (by with_reducible assumption)))
end Go.Proofs.Yteebihhpmohceaa.cw
