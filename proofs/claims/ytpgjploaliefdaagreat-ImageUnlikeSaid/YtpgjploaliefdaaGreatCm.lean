/- The plain mathematics of layer 3's sums: numbers, bits, lists. No program in sight. No conditions. -/
import Derived.KernelRfl
namespace Go.Proofs.YtpgjploaliefdaaGreat.cm
set_option linter.unusedVariables false
set_option linter.unusedSimpArgs false
def poly : Nat := 3988292384
def top32 : Nat := 4294967295
def halfN (c : Nat) : Nat := if c % 2 = 1 then (c / 2) ^^^ poly else c / 2
def iter (f : Nat → Nat) : Nat → Nat → Nat
 | 0, c => c
 | k + 1, c => iter f k (f c)
def zeroN (c : Nat) : Nat := iter halfN 8 c
def upN (c b : Nat) : Nat := zeroN (c ^^^ b)
def feedN (c : Nat) (l : List Nat) : Nat := l.foldl upN c
def moreN (c : Nat) (l : List Nat) : Nat := feedN (c ^^^ top32) l ^^^ top32
def sumN (l : List Nat) : Nat := moreN 0 l
def numN : List Nat → Nat
 | [] => 0
 | b :: l => b ^^^ (256 * numN l)
attribute [irreducible] poly top32
theorem iter_add (f : Nat → Nat) (a b c : Nat) : iter f (a + b) c = iter f b (iter f a c) := by
 induction a generalizing c with
 | zero => simp [iter]
 | succ a ih => rw [Nat.succ_add]; simp [iter, ih]
theorem iter_succ' (f : Nat → Nat) (k c : Nat) : iter f (k + 1) c = f (iter f k c) := by
 rw [iter_add]; rfl
theorem iter_mul (f : Nat → Nat) (m k c : Nat) : iter (iter f m) k c = iter f (m * k) c := by
 induction k generalizing c with
 | zero => simp [iter]
 | succ k ih =>
  show iter (iter f m) k (iter f m c) = _
  rw [ih, ← iter_add, show m * (k + 1) = m + m * k from by rw [Nat.mul_succ]; omega]
theorem xor_swap (a b c d : Nat) : (a ^^^ b) ^^^ (c ^^^ d) = (a ^^^ c) ^^^ (b ^^^ d) := by
 rw [Nat.xor_assoc, Nat.xor_assoc, ← Nat.xor_assoc b, ← Nat.xor_assoc c, Nat.xor_comm b c]
theorem xor_eq_zero {a b : Nat} (h : a ^^^ b = 0) : a = b := by
 have h2 : (a ^^^ b) ^^^ b = 0 ^^^ b := by rw [h]
 rw [Nat.xor_assoc, Nat.xor_self] at h2
 simpa using h2
theorem xor_cancel (a b : Nat) : (a ^^^ b) ^^^ b = a := by rw [Nat.xor_assoc, Nat.xor_self]; simp
theorem xor_can {a b c : Nat} (h : a ^^^ c = b ^^^ c) : a = b := by rw [← xor_cancel a c, h, xor_cancel]
theorem halfN_xor (a b : Nat) : halfN (a ^^^ b) = halfN a ^^^ halfN b := by
 have h2 := @Nat.xor_mod_two_eq_one a b
 have h3 : (a ^^^ b) / 2 = a / 2 ^^^ b / 2 := Nat.xor_div_two
 unfold halfN
 by_cases ha : a % 2 = 1 <;> by_cases hb : b % 2 = 1
 ·rw [if_neg (by rw [h2]; simp [ha, hb]), if_pos ha, if_pos hb, h3, xor_swap, Nat.xor_self]; simp
 ·rw [if_pos (by rw [h2]; simp [ha, hb]), if_pos ha, if_neg hb, h3, Nat.xor_assoc, Nat.xor_comm (b / 2), ← Nat.xor_assoc]
 ·rw [if_pos (by rw [h2]; simp [ha, hb]), if_neg ha, if_pos hb, h3, Nat.xor_assoc]
 ·rw [if_neg (by rw [h2]; simp [ha, hb]), if_neg ha, if_neg hb, h3]
theorem halfN_zero : halfN 0 = 0 := rfl
theorem halfN_dbl (x : Nat) : halfN (2 * x) = x := by
 unfold halfN; rw [if_neg (by omega)]; omega
theorem halfN_lt {c : Nat} (h : c < 4294967296) : halfN c < 4294967296 := by
 unfold halfN poly
 split
 ·exact Nat.xor_lt_two_pow (n := 32) (by omega) (by omega)
 ·omega
theorem halfN_ker {c : Nat} (h : c < 4294967296) (h0 : halfN c = 0) : c = 0 := by
 unfold halfN at h0
 split at h0
 ·have := xor_eq_zero h0
  unfold poly at this; omega
 ·omega
theorem iter_xor (k a b : Nat) : iter halfN k (a ^^^ b) = iter halfN k a ^^^ iter halfN k b := by
 induction k generalizing a b with
 | zero => rfl
 | succ k ih => simp [iter, halfN_xor, ih]
theorem iter_zero (k : Nat) : iter halfN k 0 = 0 := by
 induction k with
 | zero => rfl
 | succ k ih => simp [iter, halfN_zero, ih]
theorem iter_lt (k : Nat) {c : Nat} (h : c < 4294967296) : iter halfN k c < 4294967296 := by
 induction k generalizing c with
 | zero => exact h
 | succ k ih => exact ih (halfN_lt h)
theorem iter_ker (k : Nat) {c : Nat} (h : c < 4294967296) (h0 : iter halfN k c = 0) : c = 0 := by
 induction k generalizing c with
 | zero => exact h0
 | succ k ih => exact halfN_ker h (ih (halfN_lt h) h0)
theorem iter_inj (k : Nat) {a b : Nat} (ha : a < 4294967296) (hb : b < 4294967296) (h : iter halfN k a = iter halfN k b) : a = b := by
 apply xor_eq_zero
 refine iter_ker k (Nat.xor_lt_two_pow (n := 32) ha hb) ?_
 rw [iter_xor, h, Nat.xor_self]
theorem iter_pow (k x : Nat) : iter halfN k (2 ^ k * x) = x := by
 induction k generalizing x with
 | zero => simp [iter]
 | succ k ih =>
  rw [show 2 ^ (k + 1) * x = 2 * (2 ^ k * x) from by rw [Nat.pow_succ]; rw [Nat.mul_comm (2 ^ k) 2, Nat.mul_assoc]]
  simp [iter, halfN_dbl, ih]
theorem zeroN_xor (a b : Nat) : zeroN (a ^^^ b) = zeroN a ^^^ zeroN b := iter_xor 8 a b
theorem zeroN_lt {c : Nat} (h : c < 4294967296) : zeroN c < 4294967296 := iter_lt 8 h
theorem zeroN_256 (x : Nat) : zeroN (256 * x) = x := iter_pow 8 x
theorem zeroN_zero : zeroN 0 = 0 := iter_zero 8
theorem iter_zeroN (k c : Nat) : iter zeroN k c = iter halfN (8 * k) c := iter_mul halfN 8 k c
theorem iterz_xor (k a b : Nat) : iter zeroN k (a ^^^ b) = iter zeroN k a ^^^ iter zeroN k b := by simp only [iter_zeroN, iter_xor]
theorem iterz_lt (k : Nat) {c : Nat} (h : c < 4294967296) : iter zeroN k c < 4294967296 := by rw [iter_zeroN]; exact iter_lt _ h
theorem iterz_inj (k : Nat) {a b : Nat} (ha : a < 4294967296) (hb : b < 4294967296) (h : iter zeroN k a = iter zeroN k b) : a = b := by
 rw [iter_zeroN, iter_zeroN] at h; exact iter_inj _ ha hb h
theorem split_lo (c k : Nat) : c = (c % 2 ^ k) ^^^ (2 ^ k * (c / 2 ^ k)) := by
 apply Nat.eq_of_testBit_eq
 intro i
 rw [Nat.testBit_xor, Nat.testBit_mod_two_pow, Nat.mul_comm, Nat.testBit_mul_two_pow, Nat.testBit_div_two_pow]
 by_cases h : i < k
 ·simp [h, Nat.not_le.2 h]
 ·have : i - k + k = i := by omega
  simp [h, this]; omega
theorem split_byte (c : Nat) : c = (c % 256) ^^^ (256 * (c / 256)) := split_lo c 8
theorem table_up (c b : Nat) : zeroN ((c % 256) ^^^ b) ^^^ (c / 256) = upN c b := by
 have h : c ^^^ b = ((c % 256) ^^^ b) ^^^ (256 * (c / 256)) := by
  conv => lhs; rw [split_byte c]
  rw [Nat.xor_assoc, Nat.xor_comm (256 * (c / 256)) b, ← Nat.xor_assoc]
 unfold upN
 rw [h, zeroN_xor (c % 256 ^^^ b), zeroN_256]
theorem xor_byte_lt {a b : Nat} (ha : a < 256) (hb : b < 256) : a ^^^ b < 256 := Nat.xor_lt_two_pow (n := 8) ha hb
theorem xor32_lt {a b : Nat} (ha : a < 4294967296) (hb : b < 4294967296) : a ^^^ b < 4294967296 := Nat.xor_lt_two_pow (n := 32) ha hb
theorem upN_lt {c b : Nat} (hc : c < 4294967296) (hb : b < 256) : upN c b < 4294967296 := zeroN_lt (xor32_lt hc (by omega))
theorem feedN_lt (l : List Nat) {c : Nat} (hc : c < 4294967296) (hl : ∀ b ∈ l, b < 256) : feedN c l < 4294967296 := by
 induction l generalizing c with
 | nil => exact hc
 | cons b l ih => exact ih (upN_lt hc (hl b (by simp))) (fun x hx => hl x (by simp [hx]))
theorem moreN_lt (l : List Nat) {c : Nat} (hc : c < 4294967296) (hl : ∀ b ∈ l, b < 256) : moreN c l < 4294967296 :=
 xor32_lt (feedN_lt l (xor32_lt hc (by unfold top32; omega)) hl) (by unfold top32; omega)
theorem feedN_append (c : Nat) (a b : List Nat) : feedN c (a ++ b) = feedN (feedN c a) b := by simp [feedN, List.foldl_append]
theorem feedN_snoc (c : Nat) (a : List Nat) (x : Nat) : feedN c (a ++ [x]) = upN (feedN c a) x := by simp [feedN, List.foldl_append]
theorem feedN_num (c : Nat) (l : List Nat) : feedN c l = iter zeroN l.length (c ^^^ numN l) := by
 induction l generalizing c with
 | nil => simp [feedN, numN, iter]
 | cons b l ih =>
  show feedN (upN c b) l = iter zeroN (l.length + 1) (c ^^^ numN (b :: l))
  rw [ih]
  show _ = iter zeroN l.length (zeroN (c ^^^ (b ^^^ 256 * numN l)))
  rw [← Nat.xor_assoc, zeroN_xor, zeroN_256]; rfl
theorem feedN_xor (c d : Nat) (l : List Nat) : feedN (c ^^^ d) l = iter zeroN l.length c ^^^ feedN d l := by
 rw [feedN_num, feedN_num, Nat.xor_assoc, iterz_xor]
def combineN (a b n : Nat) : Nat := iter zeroN n a ^^^ b
theorem moreN_append (c : Nat) (a b : List Nat) : moreN c (a ++ b) = moreN (moreN c a) b := by
 unfold moreN
 rw [feedN_append, xor_cancel]
theorem sum_append (a b : List Nat) : sumN (a ++ b) = combineN (sumN a) (sumN b) b.length := by
 unfold sumN combineN
 rw [moreN_append]
 show feedN (moreN 0 a ^^^ top32) b ^^^ top32 = _
 rw [feedN_xor, Nat.xor_assoc]
 show _ = _ ^^^ (feedN (0 ^^^ top32) b ^^^ top32)
 simp
theorem combine_assoc (a b c n m : Nat) : combineN (combineN a b n) c m = combineN a (combineN b c m) (n + m) := by
 unfold combineN
 rw [iterz_xor, ← iter_add, Nat.xor_assoc]
theorem sum_zeros (k : Nat) : combineN 0 (sumN (List.replicate k 0)) k = sumN (List.replicate k 0) := by
 unfold combineN
 rw [iter_zeroN, iter_zero]; simp
def le4 (c : Nat) : List Nat := [c % 256, c / 256 % 256, c / 65536 % 256, c / 16777216 % 256]
theorem num_le4 (c : Nat) (h : c < 4294967296) : numN (le4 c) = c := by
 have e1 := split_byte c
 have e2 := split_byte (c / 256)
 have e3 := split_byte (c / 256 / 256)
 have e4 : c / 256 / 256 / 256 = c / 16777216 % 256 := by omega
 have e5 : c / 256 / 256 = c / 65536 := by omega
 unfold le4
 simp only [numN]
 simp only [Nat.mul_zero, Nat.xor_zero]
 rw [← e4, ← e5, ← e3, ← e2, ← e1]
theorem feed_own (s : Nat) (h : s < 4294967296) : feedN (s ^^^ top32) (le4 s) = iter zeroN 4 top32 := by
 rw [feedN_num, num_le4 _ h, Nat.xor_comm s top32, xor_cancel]
 rfl
theorem sum_ends (a : List Nat) (h : sumN a < 4294967296) : sumN (a ++ le4 (sumN a)) = iter zeroN 4 top32 ^^^ top32 := by
 have e : sumN (a ++ le4 (sumN a)) = moreN (sumN a) (le4 (sumN a)) := moreN_append 0 a _
 rw [e]
 show feedN (sumN a ^^^ top32) (le4 (sumN a)) ^^^ top32 = _
 rw [feed_own _ h]
theorem sum_tail_inj (a : List Nat) (ha : ∀ b ∈ a, b < 256) {x y : Nat} (hx : x < 4294967296) (hy : y < 4294967296) : sumN (a ++ le4 x) = sumN (a ++ le4 y) ↔ x = y := by
 constructor
 ·intro h
  unfold sumN at h
  rw [moreN_append, moreN_append] at h
  generalize hs : moreN 0 a = s at h
  have hs' : s < 4294967296 := by rw [← hs]; exact moreN_lt a (by omega) ha
  unfold moreN at h
  have h2 := xor_can h
  rw [feedN_num, feedN_num, num_le4 _ hx, num_le4 _ hy] at h2
  have hl : (le4 x).length = (le4 y).length := rfl
  rw [hl] at h2
  have hF : s ^^^ top32 < 4294967296 := xor32_lt hs' (by unfold top32; omega)
  have h3 := iterz_inj _ (xor32_lt hF hx) (xor32_lt hF hy) h2
  rw [Nat.xor_comm _ x, Nat.xor_comm _ y] at h3
  exact xor_can h3
 ·rintro rfl; rfl
theorem burst (a b : List Nat) (hl : a.length = b.length) (k T : Nat) (hk : k ≤ 8 * a.length) (hT : T < 4294967296) (hd : numN a ^^^ numN b = 2 ^ k * T) : sumN a = sumN b ↔ T = 0 := by
 have h1 : sumN a ^^^ sumN b = iter halfN (8 * a.length - k) T := by
  unfold sumN moreN
  rw [xor_swap, Nat.xor_self, Nat.xor_zero, feedN_num, feedN_num, ← hl, iter_zeroN, iter_zeroN, ← iter_xor, xor_swap, Nat.xor_self, Nat.zero_xor, hd]
  rw [show 8 * a.length = k + (8 * a.length - k) from by omega, iter_add, iter_pow]
  congr 1; omega
 constructor
 ·intro h
  rw [h, Nat.xor_self] at h1
  exact iter_ker _ hT h1.symm
 ·rintro rfl
  rw [iter_zero] at h1
  exact xor_eq_zero h1
attribute [irreducible] halfN
end Go.Proofs.YtpgjploaliefdaaGreat.cm
