/- Contracts of layer 3's functions (crc), third part: noughts.of, Combine. No conditions. -/
import Derived.Test.YteebihhpmohceaaCx
namespace Go.Proofs.Yteebihhpmohceaa.cw
open Go.RowKit Go.Proofs.Yteebihhpmohceaa.cm
set_option linter.unusedVariables false
set_option linter.unusedSimpArgs false
def rowL (m : Nat → Nat) : List Value := (List.range 32).map fun i => Value.int .u32 ((m i : Nat) : Int)
theorem rowL_len (m : Nat → Nat) : (rowL m).length = 32 := by simp [rowL]
theorem rowL_get (m : Nat → Nat) (i : Nat) (h : i < 32) : (rowL m)[i]? = some (.int .u32 ((m i : Nat) : Int)) := by simp [rowL, h]
theorem rowA_size (m : Nat → Nat) : (rowL m).toArray.size = 32 := by simp [rowL]
theorem rowA_get (m : Nat → Nat) (i : Nat) (h : i < 32) : (rowL m).toArray[i]? = some (.int .u32 ((m i : Nat) : Int)) := by simp [rowL, h]
theorem rowA_one (m : Nat → Nat) : (rowL m).toArray.all (·.oneCell') = true := by
  rw [Array.all_eq_true_iff_forall_mem]
  intro v hv
  simp only [rowL, List.mem_toArray, List.mem_map] at hv
  obtain ⟨i, _, rfl⟩ := hv
  rfl
theorem zero_noughts (w : World) : Sem.run Try.prog (zeroValue 38) w = .ok (.agg (rowL fun _ => 0).toArray) w := by kernel_rfl
attribute [irreducible] rowL
def ofN (m : Nat → Nat) (c : Nat) : Nat → Nat
  | 0 => 0
  | k + 1 => if c.testBit k then ofN m c k ^^^ m k else ofN m c k
theorem ofN_lt (m : Nat → Nat) (c k : Nat) (hm : ∀ i, i < k → m i < 4294967296) : ofN m c k < 4294967296 := by
  induction k with
  | zero => simp [ofN]
  | succ k ih =>
    have := ih (fun i hi => hm i (by omega))
    unfold ofN; split
    · exact xor32_lt this (hm k (by omega))
    · exact this
theorem and1_test (c k : Nat) (hc : c < 4294967296) : (bits .and .u32 ((c : Int) / 2 ^ k) 1 == 1) = c.testBit k := by
  have h1 : c / 2 ^ k < 4294967296 := Nat.lt_of_le_of_lt (Nat.div_le_self _ _) hc
  have h2 := u32_and_nat (c / 2 ^ k) 1 h1 (by omega)
  have h3 : (((c / 2 ^ k : Nat)) : Int) = (c : Int) / 2 ^ k := by simp
  rw [h3, show ((1 : Nat) : Int) = 1 from rfl] at h2
  rw [h2, Nat.testBit_eq_decide_div_mod_eq, Nat.and_one_is_mod]
  rw [Bool.eq_iff_iff]
  simp; omega
def OfPost (v : Int) (w : World) (e : Ending) (w' : World) : Prop := e = .returned (.int .u32 v) ∧ Below w.heap.size w w'
set_option maxRecDepth 100000 in
theorem of_any (m : Nat → Nat) (c : Nat) (w : World) (hc : c < 4294967296) (hm : ∀ i, i < 32 → m i < 4294967296) :
    Calls Try.prog 17 #[.agg (rowL m).toArray, .int .u32 (c : Int)] w (OfPost ((ofN m c 32 : Nat) : Int) w) := by
  have HM := Lib.hid hm
  clear hm
  go_enter Try.func17, Try.ntmps17
  go_wp2_with fail
  go_loopw [5, 7] (fun v i wr => ∃ k : Nat, k ≤ 32 ∧ i = .int .i64 k ∧ v = .int .u32 ((ofN m c k : Nat) : Int) ∧ Blk wr w.heap.size (rowL m).toArray 38 ∧ Below w.heap.size w wr) (fun _ i _ => 32 - (intOf i).toNat)
  case atStart => exact ⟨0, by omega, rfl, rfl, Blk.new _ _ _, by (repeat (first | exact Below.refl _ _ | refine kp_alloc ?_ _ | refine kp_drew ?_ | refine kp_set ?_ (by first | (simp; done) | (simp; omega) | omega) _ | refine kp_tr ?_ (by with_reducible assumption)))⟩
  case round =>
    obtain ⟨k, hk, rfl, rfl, hB, hb⟩ := hrel
    by_cases hlt : k < 32
    · have ht := and1_test c k hc
      have hcell : wr.cell? ⟨w.heap.size, k, none⟩ = some (.int .u32 ((m k : Nat) : Int)) := (hB.get.2.1 k).trans (rowA_get m k hlt)
      have hx := u32_xor_nat (ofN m c k) (m k) (ofN_lt m c k fun i hi => HM.out i (by omega)) (HM.out k hlt)
      have HO : Hid (ofN m c (k + 1) = if c.testBit k then ofN m c k ^^^ m k else ofN m c k) := rfl
      generalize hq : ofN m c k = q at *
      clear hq
      rcases hbit : c.testBit k with _ | _
      · rw [hbit] at ht
        have HB := Lib.hid hbit
        clear hbit
        go_wp2_with fail
        exact ⟨⟨k + 1, by omega, by go_num, by rw [HO.out, HB.out]; rfl, hB, hb⟩, by simp [intOf]; omega⟩
      · rw [hbit] at ht
        have HB := Lib.hid hbit
        clear hbit
        go_wp2_with fail
        exact ⟨⟨k + 1, by omega, by go_num, by rw [HO.out, HB.out]; rfl, hB, hb⟩, by simp [intOf]; omega⟩
    · obtain rfl : k = 32 := by omega
      go_wp2_with fail
      go_ret
      exact ⟨rfl, hb⟩
end Go.Proofs.Yteebihhpmohceaa.cw
