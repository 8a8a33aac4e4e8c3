/- Contracts of layer 5's functions (header) and of its reference. No conditions. -/
import Derived.Test.YtpgjploaliefdaaBase
namespace Go.Proofs.Ytpgjploaliefdaa.hd
open Go.RowKit
set_option linter.unusedVariables false
set_option linter.unusedSimpArgs false

def rightB (s p : Int) : Bool := decide (0 ≤ s ∧ s ≤ 255 ∧ 0 ≤ p ∧ p ≤ s)
theorem rightB_t {s p : Int} (h : rightB s p = true) : 0 ≤ s ∧ s ≤ 255 ∧ 0 ≤ p ∧ p ≤ s := by simpa [rightB] using h
def packV (s p : Int) : Int := if rightB s p then 2 * s + 131072 * p else 0
def packE (s p : Int) : Int := if rightB s p then 0 else 1
def unOk (w : Int) : Bool := decide (w % 2 = 0) && rightB (w / 2 % 65536) (w / 131072)
def unS (w : Int) : Int := if unOk w then w / 2 % 65536 else 0
def unP (w : Int) : Int := if unOk w then w / 131072 else 0
def unE (w : Int) : Int := if unOk w then 0 else 3
def refOk (a : Int) : Bool := decide (1 ≤ a ∧ a ≤ 9223372036854775807)
def refV (a : Int) : Int := if refOk a then 2 * a + 1 else 0
def refE (a : Int) : Int := if refOk a then 0 else 1
def adV (w : Int) : Int := if w % 2 = 0 ∨ w = 1 then 0 else w / 2
def adE (w : Int) : Int := if w = 0 then 6 else if w % 2 = 0 ∨ w = 1 then 3 else 0

theorem right_any (s p : Int) (w : World) :
    Calls Try.prog 26 #[.agg #[.int .i64 s, .int .i64 p]] w fun e w' => e = .returned (.bool (rightB s p)) ∧ Below w.heap.size w w' := by
  go_enter Try.func26, Try.ntmps26
  go_wp2
  all_goals go_ret
  all_goals exact retB (by unfold rightB; rw [Bool.eq_iff_iff]; simp; try omega) ((Below.refl _ _).alloc (Nat.le_refl _) _)
theorem refOk_t {a : Int} (h : refOk a = true) : 1 ≤ a ∧ a ≤ 9223372036854775807 := by simpa [refOk] using h
theorem refOk_f {a : Int} (h : refOk a = false) : a < 1 ∨ 9223372036854775807 < a := by simp [refOk] at h; omega

theorem addr_any (a : Int) (w : World) (h1 : 0 ≤ a) (h2 : a < 18446744073709551616) :
    Calls Try.prog 10 #[.int .u64 a] w fun e w' => e = .returned (.tuple #[.int .u64 (adV a), .int .i64 (adE a)]) ∧ w = w' := by
  go_enter Try.func10, Try.ntmps10
  go_wp2
  all_goals go_ret2
  all_goals exact retII (by unfold adV; ((try simp only [beq_iff_eq, beq_eq_false_iff_ne, ne_eq] at *); (repeat' split) <;> omega)) (by unfold adE; ((try simp only [beq_iff_eq, beq_eq_false_iff_ne, ne_eq] at *); (repeat' split) <;> omega)) rfl
theorem unOk_of {a : Int} {b : Bool} (h : a % 2 = 0) (hb : (!rightB (a / 2 % 65536) (a / 131072)) = b) : unOk a = !b := by
  rw [← hb]; simp [unOk, h]
theorem unOk_odd {a : Int} (h : ¬ a % 2 = 0) : unOk a = false := by simp [unOk, h]
theorem unpack_any (a : Int) (w : World) (h1 : 0 ≤ a) (h2 : a < 18446744073709551616) :
    Calls Try.prog 62 #[.int .u64 a] w fun e w' => e = .returned (.tuple #[.agg #[.int .i64 (unS a), .int .i64 (unP a)], .int .i64 (unE a)]) ∧ Below w.heap.size w w' := by
  by_cases h3 : a % 2 = 0
  · go_enter Try.func62, Try.ntmps62
    go_wp2_with fail
    refine (right_any _ _ _).mono ?_; rintro e w1 ⟨rfl, hb⟩
    obtain ⟨hbc, hbf⟩ := bcell hb
    have hbz := hb.size
    go_wp2_with fail
    · rename_i hq
      have hu := unOk_of h3 hq
      refine bodyPost_ret (v := .tuple #[.agg #[.int .i64 0, .int .i64 0], .int .i64 3]) (by simp only [results, Try.results62]; go_simp) rfl ⟨?_, ?_⟩
      · simp [unS, unP, unE, hu]
      · (repeat (first | with_reducible exact Below.refl _ _ | with_reducible refine kp_alloc ?_ _ | with_reducible refine kp_drew ?_ | with_reducible refine kp_set ?_ (by first | omega | (simp; done) | (simp; omega)) _ | with_reducible refine kp_tr ?_ (by with_reducible assumption)))
    · rename_i hq
      have hu := unOk_of h3 hq
      refine bodyPost_ret (v := .tuple #[.agg #[.int .i64 (a / 2 % 65536), .int .i64 (a / 131072)], .int .i64 0]) (by simp only [results, Try.results62]; go_simp) rfl ⟨?_, ?_⟩
      · simp [unS, unP, unE, hu]
      · (repeat (first | with_reducible exact Below.refl _ _ | with_reducible refine kp_alloc ?_ _ | with_reducible refine kp_drew ?_ | with_reducible refine kp_set ?_ (by first | omega | (simp; done) | (simp; omega)) _ | with_reducible refine kp_tr ?_ (by with_reducible assumption)))
  · have hu := unOk_odd h3
    go_enter Try.func62, Try.ntmps62
    go_wp2_with fail
    refine bodyPost_ret (v := .tuple #[.agg #[.int .i64 0, .int .i64 0], .int .i64 3]) (by simp only [results, Try.results62]; go_simp) rfl ⟨?_, ?_⟩
    · simp [unS, unP, unE, hu]
    · (repeat (first | with_reducible exact Below.refl _ _ | with_reducible refine kp_alloc ?_ _ | with_reducible refine kp_drew ?_ | with_reducible refine kp_set ?_ (by first | omega | (simp; done) | (simp; omega)) _ | with_reducible refine kp_tr ?_ (by with_reducible assumption)))
theorem packE_01 (s p : Int) : packE s p = 0 ↔ rightB s p = true := by unfold packE; split <;> simp_all
theorem unOk_ref {a : Int} (h1 : 0 ≤ a) (h2 : a < 18446744073709551616) : unOk a = decide (packE (a / 2 % 65536) (a / 131072 % 65536) = 0 ∧ packV (a / 2 % 65536) (a / 131072 % 65536) = a) := by
  rw [Bool.eq_iff_iff, decide_eq_true_eq, packE_01]
  simp only [unOk, rightB, packV, Bool.and_eq_true, decide_eq_true_eq]
  constructor
  · intro h
    have e : a / 131072 % 65536 = a / 131072 := by omega
    rw [e, if_pos (by omega)]
    omega
  · rintro ⟨h, k⟩
    rw [if_pos h] at k
    omega
theorem unP_ref {a : Int} (h1 : 0 ≤ a) (h2 : a < 18446744073709551616) (h : unOk a = true) : a / 131072 % 65536 = a / 131072 := by
  simp only [unOk, rightB, Bool.and_eq_true, decide_eq_true_eq] at h; omega
theorem rightB_mk {s p : Int} (h : 0 ≤ s ∧ s ≤ 255 ∧ 0 ≤ p ∧ p ≤ s) : rightB s p = true := by simp [rightB, h]
theorem unpack_ok (s p : Int) (w : World) (h : 0 ≤ s ∧ s ≤ 255 ∧ 0 ≤ p ∧ p ≤ s) :
    Calls Try.prog 62 #[.int .u64 (2 * s + 131072 * p)] w fun e w' => e = .returned (.tuple #[.agg #[.int .i64 s, .int .i64 p], .int .i64 0]) ∧ Below w.heap.size w w' := by
  have h3 : unOk (2 * s + 131072 * p) = true := by simp [unOk, rightB]; omega
  refine (unpack_any _ w (by omega) (by omega)).mono fun e w' ⟨h1, h2⟩ => ⟨?_, h2⟩
  rw [h1]; simp [unS, unP, unE, h3]; omega
theorem addr_ok (a : Int) (w : World) (h : 1 ≤ a ∧ a ≤ 9223372036854775807) :
    Calls Try.prog 10 #[.int .u64 (2 * a + 1)] w fun e w' => e = .returned (.tuple #[.int .u64 a, .int .i64 0]) ∧ w = w' :=
  (addr_any _ w (by omega) (by omega)).mono fun e w' ⟨h1, h2⟩ => ⟨by
    rw [h1]; simp only [adV, adE]; rw [if_neg (by omega), if_neg (by omega), if_neg (by omega)]; rw [show (2 * a + 1) / 2 = a from by omega], h2⟩

theorem nat_or1 (n : Nat) : n ||| 1 = 2 * (n / 2) + 1 := by
  have h1 : (n ||| 1) / 2 = n / 2 := by rw [Nat.or_div_two]; simp
  have h2 : (n ||| 1) % 2 = 1 := by rw [Nat.or_mod_two_eq_one]; simp
  omega
theorem or1_u64 (n : Int) (h1 : 0 ≤ n) (h2 : n < 18446744073709551616) : bits .or .u64 n 1 = 2 * (n / 2) + 1 := by
  obtain ⟨k, rfl⟩ := Int.eq_ofNat_of_zero_le h1
  have := u64_or_nat k 1 (by omega) (by omega)
  rw [show ((1 : Nat) : Int) = 1 from rfl] at this
  rw [this, nat_or1]; omega
theorem or1_ex (x : Int) (h1 : 0 ≤ x ∧ x < 18446744073709551616) : ∃ p : Int, bits .or .u64 (x / 2) 1 = p ∧ 1 ≤ p ∧ p ≤ 9223372036854775807 :=
  ⟨_, or1_u64 (x / 2) (by omega) (by omega), by omega, by omega⟩
end Go.Proofs.Ytpgjploaliefdaa.hd
