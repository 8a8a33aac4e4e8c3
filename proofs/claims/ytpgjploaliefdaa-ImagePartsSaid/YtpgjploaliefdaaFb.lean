/- words.lay, words.PutHalf. LONE=1. No conditions. -/
import Derived.Test.YtpgjploaliefdaaFa
namespace Go.Proofs.Ytpgjploaliefdaa.fr
open Go.RowKit Go.Proofs.Ytpgjploaliefdaa.cm Go.Proofs.Ytpgjploaliefdaa.cw
set_option linter.unusedVariables false
set_option linter.unusedSimpArgs false
/-- A number's bytes, the lowest one first. -/
def leB (n x : Nat) : List Nat := (List.range n).map fun i => x / 256 ^ i % 256
theorem leB_succ (n x : Nat) : leB (n + 1) x = leB n x ++ [x / 256 ^ n % 256] := by simp [leB, List.range_succ]
theorem leB_len (n x : Nat) : (leB n x).length = n := by simp [leB]
theorem leB_4 (x : Nat) : leB 4 x = le4 x := by
  show [x / 256 ^ 0 % 256, x / 256 ^ 1 % 256, x / 256 ^ 2 % 256, x / 256 ^ 3 % 256] = _
  unfold le4
  simp
def strB (l : List Nat) : ByteArray := strOfNums (l.map fun b : Nat => (b : Int))
theorem lay32_any (v : Value) (xs : List Nat) (x B n : Nat) (w : World) (hn : n ≤ 8) (hx : x < 4294967296) (hv : OwnB w B v xs) (hl : xs.length < 1000000) (hB : B ≤ w.heap.size) :
    Calls Try.prog 43 #[v, .int .u32 x, .int .i64 n] w fun e w' => ∃ v', e = .returned v' ∧ OwnB w' B v' (xs ++ leB n x) ∧ Below B w w' := by
  go_enter Try.func43, Try.ntmps43
  go_wp2_with fail
  go_loopw [0, 1, 8] (fun b y i wr => ∃ k : Nat, k ≤ n ∧ i = .int .i64 k ∧ y = .int .u32 ((x / 256 ^ k : Nat) : Int) ∧ Hid (OwnB wr B b (xs ++ leB k x)) ∧ Hid (Below B w wr)) (fun _ _ i _ => n - (intOf i).toNat)
  case atStart => exact ⟨0, Nat.zero_le _, rfl, by simp, Lib.hid (by simpa [leB] using hv), Lib.hid (Below.refl _ _)⟩
  case round =>
    obtain ⟨k, hk, rfl, rfl, ho, hb⟩ := hrel
    by_cases hlk : k < n
    · have hq : x / 256 ^ k < 4294967296 := Nat.lt_of_le_of_lt (Nat.div_le_self _ _) hx
      have hq2 := leB_succ k x
      have hq3 : x / 256 ^ (k + 1) = x / 256 ^ k / 256 := by rw [Nat.pow_succ, Nat.div_div_eq_div_mul]
      have HQ := Lib.hid hq2
      have HR := Lib.hid hq3
      clear hq2 hq3
      generalize x / 256 ^ k = q at *
      have hwr := hb.out.size
      go_wp2_with (at_builtin; refine app_B _ rfl _ _ rfl B u0 (xs ++ leB k x) (q % 256) wr.heap.size 1 rfl rfl ?c0 ?c1 ?c2 ?c3 ?c4)
      case c0 => exact ho.out.tr (by (repeat (first | with_reducible exact Below.refl _ _ | with_reducible refine kp_alloc ?_ _ | with_reducible refine kp_drew ?_ | with_reducible refine kp_set ?_ (by first | omega | (simp; done) | (simp; omega)) _ | with_reducible refine kp_tr ?_ (by with_reducible assumption))))
      case c1 => simp [byteV]
      case c2 => simp [leB_len]; omega
      case c3 => simp; omega
      case c4 =>
      intro v' w2 ho2 hg hat
      have H2 : Hid (OwnB w2 B v' (xs ++ leB (k + 1) x)) := Lib.hid (by rw [HQ.out]; simpa using ho2)
      have H3 : Hid (Below B w w2) := Lib.hid (grown_below hg (bel_alloc hb.out hB _) hB ho.out.block)
      clear ho2 hg hat
      go_wp2_with fail
      refine ⟨⟨k + 1, by omega, by go_num, ?_, H2, H3⟩, by simp [intOf]; omega⟩
      rw [HR.out]
      rfl
    · obtain rfl : k = n := by omega
      go_wp2_with fail
      go_ret
      exact ⟨_, rfl, ho.out, hb.out⟩
/-- A number of 32 bits as four bytes. -/
def halfS (x : Nat) : ByteArray := strB (le4 x)
theorem putHalf_any (x : Nat) (w : World) (hx : x < 4294967296) :
    Calls Try.prog 33 #[.int .u32 x] w fun e w' => e = .returned (.string (halfS x)) ∧ Below w.heap.size w w' := by
  go_enter Try.func33, Try.ntmps33
  go_wp2_with fail
  refine (lay32_any (.slice none 0 0) [] x w.heap.size 4 _ (by omega) hx (OwnB.nil _ _) (by simp) (by simp)).mono ?_; rintro e w1 ⟨v, rfl, ho, hb⟩
  have hs := ho.str  (by simp [leB_len])
  rw [List.nil_append, leB_4] at hs
  go_wp2_with fail
  go_ret
  exact ⟨rfl, hb⟩
end Go.Proofs.Ytpgjploaliefdaa.fr
