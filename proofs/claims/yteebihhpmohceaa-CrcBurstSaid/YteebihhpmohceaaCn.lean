/- CrcBurst: plain mathematics of turned bits, rows of bytes. No conditions. -/
import Derived.Test.YteebihhpmohceaaClA
import Derived.Laws.BytesArg
import Derived.Laws.IdiomStrings
import Derived.Laws.AppendOwn
namespace Go.Proofs.Yteebihhpmohceaa.cw
open Go.RowKit Go.Proofs.Yteebihhpmohceaa.cm
theorem pow_xor (k a b : Nat) : 2 ^ k * (a ^^^ b) = (2 ^ k * a) ^^^ (2 ^ k * b) := by
  have h : (a ^^^ b) <<< k = a <<< k ^^^ b <<< k := Nat.shiftLeft_xor_distrib
  simp only [Nat.shiftLeft_eq] at h
  rw [Nat.mul_comm, h, Nat.mul_comm a, Nat.mul_comm b]
def setX (l : List Nat) (j m : Nat) : List Nat := l.set j (l.getD j 0 ^^^ 2 ^ m)
theorem setX_len (l : List Nat) (j m : Nat) : (setX l j m).length = l.length := by simp [setX]
theorem setX_lt {l : List Nat} (h : ∀ b ∈ l, b < 256) (j m : Nat) (hm : m < 8) : ∀ b ∈ setX l j m, b < 256 := by
  intro b hb
  unfold setX at hb
  rcases List.mem_or_eq_of_mem_set hb with h1 | h1
  · exact h b h1
  · subst h1
    have h2 : l.getD j 0 < 256 := by
      by_cases hj : j < l.length
      · rw [show l.getD j 0 = l[j] from by simp [List.getD, hj]]; exact h _ (List.getElem_mem hj)
      · simp [List.getD, hj]
    have h3 : 2 ^ m < 2 ^ 8 := Nat.pow_lt_pow_right (by omega) hm
    exact xor_byte_lt h2 h3
theorem num_setX (l : List Nat) (j m : Nat) (hj : j < l.length) : numN (setX l j m) = numN l ^^^ 2 ^ (8 * j + m) := by
  induction l generalizing j with
  | nil => simp at hj
  | cons b l ih =>
    cases j with
    | zero =>
      show (b ^^^ 2 ^ m) ^^^ (256 * numN l) = (b ^^^ (256 * numN l)) ^^^ 2 ^ (8 * 0 + m)
      rw [show 8 * 0 + m = m from by omega, Nat.xor_assoc, Nat.xor_comm (2 ^ m), ← Nat.xor_assoc]
    | succ j =>
      have h := ih j (by simpa using hj)
      show b ^^^ (256 * numN (setX l j m)) = (b ^^^ (256 * numN l)) ^^^ 2 ^ (8 * (j + 1) + m)
      rw [h, show (256 : Nat) = 2 ^ 8 from rfl, pow_xor, ← Nat.pow_add, Nat.xor_assoc, show 8 + (8 * j + m) = 8 * (j + 1) + m from by omega]
theorem low_succ (b k : Nat) : b % 2 ^ (k + 1) = (b % 2 ^ k) ^^^ (2 ^ k * (b / 2 ^ k % 2)) := by
  have h := split_lo (b % 2 ^ (k + 1)) k
  rw [Nat.mod_mod_of_dvd _ (Nat.pow_dvd_pow 2 (by omega))] at h
  rw [h]; congr 1; congr 1
  rw [Nat.pow_succ, Nat.mod_mul_right_div_self]
theorem low_one (b k : Nat) (h : b / 2 ^ k % 2 = 1) : b % 2 ^ (k + 1) ≠ 0 := by
  rw [Nat.mod_pow_succ, h]
  have := Nat.two_pow_pos k
  omega
theorem low_none (b k : Nat) (h : ¬ b / 2 ^ k % 2 = 1) : b % 2 ^ (k + 1) = b % 2 ^ k := by
  rw [Nat.mod_pow_succ, show b / 2 ^ k % 2 = 0 from by omega]; omega
theorem step_num {t u : List Nat} {k i T : Nat} (hu : numN u = numN t ^^^ 2 ^ k * (T % 2 ^ i)) (hb : T / 2 ^ i % 2 = 1) (hj : (k + i) / 8 < u.length) :
    numN (setX u ((k + i) / 8) ((k + i) % 8)) = numN t ^^^ 2 ^ k * (T % 2 ^ (i + 1)) := by
  rw [num_setX u _ _ hj, hu, low_succ, hb, Nat.mul_one, pow_xor, ← Nat.pow_add, Nat.xor_assoc, Nat.div_add_mod]
theorem burst_end {t u : List Nat} {k i T : Nat} (hl : u.length = t.length) (hu : numN u = numN t ^^^ 2 ^ k * (T % 2 ^ i)) (hk : k ≤ 8 * t.length) (hT : T < 4294967296) :
    ((((sumN t : Nat) : Int) == ((sumN u : Nat) : Int)) == decide (T % 2 ^ i = 0)) = true := by
  have h := burst t u hl.symm k (T % 2 ^ i) hk (Nat.lt_of_le_of_lt (Nat.mod_le _ _) hT) (by rw [hu, ← Nat.xor_assoc, Nat.xor_self, Nat.zero_xor])
  have e1 : (((sumN t : Nat) : Int) == ((sumN u : Nat) : Int)) = decide (sumN t = sumN u) := by rw [Bool.eq_iff_iff]; simp; omega
  rw [e1]
  by_cases g : T % 2 ^ i = 0
  · simp [g, h.mpr g]
  · have : ¬ sumN t = sumN u := fun q => g (h.mp q)
    simp [g, this]
/-- A row of bytes from a block's head. -/
def RowN (w : World) (n : Nat) (l : List Nat) : Prop := ∀ i, i < l.length → w.cell? ⟨n, i, none⟩ = some (.int .u8 ((l.getD i 0 : Nat) : Int))
theorem RowN.tr {W w : World} {n : Nat} {l : List Nat} (h : RowN W n l) (hb : Below W.heap.size W w) : RowN w n l := fun i hi => cell_tr hb (h i hi)
theorem RowN.drew {w : World} {n : Nat} {l : List Nat} (h : RowN w n l) : RowN w.drew n l := h
theorem RowN.alloc {w : World} {n : Nat} {l : List Nat} (h : RowN w n l) (o : Obj) : RowN (w.alloc o) n l := h.tr (kp_alloc (Below.refl _ _) o)
theorem RowN.setCell {w : World} {n : Nat} {l : List Nat} (h : RowN w n l) {p : Addr} (hp : p.block ≠ n) (v : Value) : RowN (w.setCell p v) n l :=
  fun i hi => by rw [← h i hi]; apply World.cell?_setCell_other; intro q; exact hp (by rw [q])
theorem RowN.at {w : World} {n : Nat} {l : List Nat} (h : RowN w n l) (i : Nat) (hi : i < l.length) : w.cell? ⟨n, i, none⟩ = some (.int .u8 ((l.getD i 0 : Nat) : Int)) := h i hi
theorem RowN.mk {w : World} {n : Nat} {l : List Nat} (h : ∀ i, i < l.length → w.cell? ⟨n, i, none⟩ = some (.int .u8 ((l.getD i 0 : Nat) : Int))) : RowN w n l := h
attribute [irreducible] RowN
theorem getD_map (l : List Nat) (i : Nat) (hi : i < l.length) : (l.map (fun b : Nat => (b : Int))).getD i 0 = ((l.getD i 0 : Nat) : Int) := by
  simp [List.getD, hi]
def strN (l : List Nat) : ByteArray := strOfNums (l.map (fun b : Nat => (b : Int)))
theorem bytesN_strN (l : List Nat) (hl : ∀ b ∈ l, b < 256) : bytesN (strN l) = l := by
  unfold bytesN strN
  rw [strOfNums_data]
  simp only [List.map_map]
  conv => rhs; rw [← List.map_id l]
  apply List.map_congr_left
  intro b hb
  have := hl b hb
  simp
  omega
theorem strN_size (l : List Nat) : (strN l).size = l.length := by unfold strN; rw [strOfNums_size]; simp
theorem RowN.conv {w : World} {n : Nat} {l : List Nat} (h : RowN w n l) (m c : Nat) (hm : l.length = m) :
    (convert 31 9 (.slice (some ⟨n, 0, none⟩) m c)).run Try.prog w = .ok (.string (strN l)) w := by
  refine run_convert_bytes_arg (P := Try.prog) w 31 5 Try.underlying31 Try.underlying5 n 0 m c (l.map (fun b : Nat => (b : Int))) (by simp [hm]) (fun i hi => ?_) 9 Try.underlying9
  rw [Nat.zero_add, h.at i (by omega), getD_map l i (by omega)]
theorem RowN.str (w : World) (z : ByteArray) (c : Nat) (f : Nat × Nat) : RowN (w.alloc (.cells (bytesRow z c) 5 f)) w.heap.size (bytesN z) := by
  apply RowN.mk
  intro i hi
  rw [bytesN_len] at hi
  rw [World.cell?_alloc_mark, bytesRow_at z c i hi]
  simp [bytesN, List.getD, hi]
attribute [irreducible] strN
end Go.Proofs.Yteebihhpmohceaa.cw
