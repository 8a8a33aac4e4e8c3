/- image.Dump's frames: their sizes. Plain. -/
import Derived.Test.YtpgjploaliefdaaIg
namespace Go.Proofs.Ytpgjploaliefdaa.im
open Go Go.RowKit Go.Proofs.Ytpgjploaliefdaa.cm Go.Proofs.Ytpgjploaliefdaa.cw Go.Proofs.Ytpgjploaliefdaa.ga Go.Proofs.Ytpgjploaliefdaa.gr Go.Proofs.Ytpgjploaliefdaa.hp Go.Proofs.Ytpgjploaliefdaa.ob Go.Proofs.Ytpgjploaliefdaa.hd Go.Proofs.Ytpgjploaliefdaa.cp Go.Proofs.Ytpgjploaliefdaa.ck
open Go.Proofs.Ytpgjploaliefdaa.fr (strB putN rowN strB_size putN_10 putN_len)
set_option linter.unusedVariables false
set_option linter.unusedSimpArgs false
/-- A right heap's frames. -/
def framesOf (h : Hp) (s : Fnd) : List (Int × ByteArray) := [(1, strB (rowN (headN h))), (2, rootS h), (3, partU h s 1), (4, partU h s 2), (5, partU h s 3), (6, partU h s 4)]
theorem flat_le {α β : Type} (f : α → List β) (m : Nat) : ∀ l : List α, (∀ x ∈ l, (f x).length ≤ m) → (l.flatMap f).length ≤ m * l.length
  | [], _ => by simp
  | x :: l, h => by
    have h1 := h x (by simp)
    have h2 := flat_le f m l (fun y hy => h y (by simp [hy]))
    rw [List.flatMap_cons, List.length_append, List.length_cons, Nat.mul_add]
    omega
theorem strB_list (l : List Nat) : (strB l).data.toList.length = l.length := by
  have := strB_size l
  rw [Array.length_toList]
  exact this
theorem uP_10 {v : Nat} (h : v < 18446744073709551616) : (uP v).length ≤ 10 := by
  unfold uP
  rw [strB_list]
  exact putN_10 h
theorem small_mem2 {zs : List Int} (h : Small zs) (x : Int) (hx : x ∈ zs) : 0 ≤ x ∧ x < 18446744073709551616 := by
  obtain ⟨i, hi, rfl⟩ := List.mem_iff_getElem.1 hx
  have := h i
  rw [List.getD_eq_getElem?_getD, List.getElem?_eq_getElem hi] at this
  exact this
theorem putN_2 {v : Nat} (h : v < 16384) : (putN v).length ≤ 2 := putN_len 1 v (Nat.lt_of_lt_of_le h (by decide))
theorem putN_1 {v : Nat} (h : v < 128) : (putN v).length ≤ 1 := putN_len 0 v (Nat.lt_of_lt_of_le h (by decide))
theorem refsU_le {xs : List Int} (h : Small xs) : (refsU xs).length ≤ 10 * xs.length := by
  unfold refsU
  refine flat_le _ 10 xs fun x hx => ?_
  refine uP_10 ?_
  obtain ⟨h1, h2⟩ := small_mem2 h x hx
  have : adV x < 18446744073709551616 := by unfold adV; split <;> omega
  omega
theorem uWords_le {xs : List Int} (h : Small xs) : (uWords xs).length ≤ 10 * xs.length := by
  unfold uWords wordsN
  rw [strB_list]
  refine flat_le _ 10 xs fun x hx => ?_
  rw [Go.Proofs.Ytpgjploaliefdaa.fr.leB_len]
  omega
theorem objU_le {zs : List Int} {o : Ob} (hz : Small zs) (hf : FitB zs.length o) (ht : 0 ≤ o.t ∧ o.t < 18446744073709551616) : (objU zs o).length ≤ 11 * (1 + o.s.toNat) := by
  obtain ⟨f1, f2, f3, f4, f5, f6⟩ := hf
  unfold objU
  split
  · unfold uRow rowN
    rw [strB_list]
    have h1 := putN_1 (v := 1) (by omega)
    have h2 := putN_10 (v := o.t.toNat) (by omega)
    simp
    omega
  · have h1 : (uRow [0, o.s.toNat, o.p.toNat]).length ≤ 5 := by
      unfold uRow rowN
      rw [strB_list]
      have h1 := putN_1 (v := 0) (by omega)
      have h2 := putN_2 (v := o.s.toNat) (by omega)
      have h3 := putN_2 (v := o.p.toNat) (by omega)
      simp
      omega
    have h2 := refsU_le (sub_small hz (o.pos.toNat + 1) o.p.toNat)
    have h3 := uWords_le (sub_small hz (o.pos.toNat + 1 + o.p.toNat) (o.s.toNat - o.p.toNat))
    rw [sub_len (by omega)] at h2 h3
    rw [List.length_append, List.length_append]
    omega
theorem objs_le {zs : List Int} (hz : Small zs) : ∀ {pos : Nat} {l : List Ob}, ChainO zs.length pos l → TgB l → (l.flatMap (objU zs)).length ≤ 11 * (zs.length - pos)
  | pos, [], h, _ => by simp
  | pos, o :: l, h, ht => by
    have hf := h.from o (by simp)
    obtain ⟨h1, h2, h3, h4⟩ := h
    have e1 := objU_le hz hf.2 (ht o (by simp))
    have e2 := objs_le hz h4 (fun o ho => ht o (by simp [ho]))
    rw [List.flatMap_cons, List.length_append]
    omega
theorem head_pos {h : Hp} {s : Fnd} (e : lookF h = some s) : 0 ≤ h.cap ∧ 0 ≤ h.tt ∧ 0 ≤ h.scan ∧ h.roots.length ≤ 16 ∧ h.roots.all refOkB = true ∧ h.cap < 9223372036854775808 ∧ h.tt ≤ 1 ∧ h.scan ≤ 4096 ∧ ∀ q, 1 ≤ q ∧ q ≤ 4 → (h.part q).length ≤ 4096 := by
  have hr := roots_ok e
  obtain ⟨ha1, ha2, hf, ha4⟩ := looks_rest e
  unfold boundedB at ha1
  rw [Bool.and_eq_true, decide_eq_true_eq] at ha1
  obtain ⟨r1, r2, r3, r4, r5, r6, r7⟩ := layR_t ha1.1
  obtain ⟨s1, s2, s3⟩ := ha1.2
  unfold Hp.lay at r1 r2 r3 r4 r5 r6 r7
  dsimp only at r1 r2 r3 r4 r5 r6 r7
  refine ⟨r1, by omega, s2, s1, hr, by omega, by omega, by omega, fun q hq => ?_⟩
  unfold Hp.part
  rcases (show q = 1 ∨ q = 2 ∨ q = 3 ∨ q = 4 by omega) with rfl | rfl | rfl | rfl <;> simp <;> omega
theorem part_le {h : Hp} {s : Fnd} (e : lookF h = some s) (z1 : Small h.low) (z2 : Small h.high) (z3 : Small h.old) (z4 : Small h.far) (q : Nat) (hq : 1 ≤ q ∧ q ≤ 4) : (partU h s q).size ≤ 100000 := by
  obtain ⟨p1, p2, p3, p4, p5, p6, p7, p8, hl⟩ := head_pos e
  have hl := hl q hq
  obtain ⟨ha1, ha2, hf, ha4⟩ := looks_rest e
  have hc := hf.chain q hq
  have ht := found_tg hf z1 z2 z3 z4 q hq
  have hs : Small (h.part q) := by
    unfold Hp.part
    rcases (show q = 1 ∨ q = 2 ∨ q = 3 ∨ q = 4 by omega) with rfl | rfl | rfl | rfl
    · exact z1
    · exact z2
    · exact z3
    · exact z4
  have h1 := objs_le hs hc ht
  have h2 := chain_len hc
  have h3 := uP_10 (v := (s.obs q).length) (by omega)
  show (uP (s.obs q).length ++ (s.obs q).flatMap (objU (h.part q))).toArray.size ≤ 100000
  simp only [List.size_toArray, List.length_append]
  omega
theorem frames_le {h : Hp} {s : Fnd} (e : lookF h = some s) (hb : 0 ≤ h.base ∧ h.base < 18446744073709551616) (z1 : Small h.low) (z2 : Small h.high) (z3 : Small h.old) (z4 : Small h.far) (z5 : Small h.roots) : ∀ f ∈ framesOf h s, f.2.size ≤ 100000 := by
  obtain ⟨p1, p2, p3, p4, p5, p6, p7, p8, hl⟩ := head_pos e
  intro f hf
  unfold framesOf at hf
  simp only [List.mem_cons, List.not_mem_nil, or_false] at hf
  rcases hf with rfl | rfl | rfl | rfl | rfl | rfl
  · show (strB (rowN (headN h))).size ≤ 100000
    rw [strB_size]
    unfold rowN
    refine Nat.le_trans (flat_le putN 10 (headN h) fun x hx => ?_) (by unfold headN; simp)
    refine putN_10 ?_
    unfold headN at hx
    simp only [List.mem_cons, List.not_mem_nil, or_false] at hx
    rcases hx with rfl | rfl | rfl | rfl | rfl | rfl
    · omega
    · omega
    · omega
    · omega
    · split <;> omega
    · omega
  · show (rootS h).size ≤ 100000
    unfold rootS
    have h1 := refsU_le z5
    have h2 := putN_10 (v := h.roots.length) (by omega)
    rw [ByteArray.size_append, strB_size]
    have : (ByteArray.mk (refsU h.roots).toArray).size = (refsU h.roots).length := by
      show (refsU h.roots).toArray.size = _
      simp
    omega
  · exact part_le e z1 z2 z3 z4 1 (by omega)
  · exact part_le e z1 z2 z3 z4 2 (by omega)
  · exact part_le e z1 z2 z3 z4 3 (by omega)
  · exact part_le e z1 z2 z3 z4 4 (by omega)
theorem frames_63 {h : Hp} {s : Fnd} : ∀ f ∈ framesOf h s, -9223372036854775808 ≤ f.1 ∧ f.1 < 9223372036854775808 := by
  intro f hf
  unfold framesOf at hf
  simp only [List.mem_cons, List.not_mem_nil, or_false] at hf
  rcases hf with rfl | rfl | rfl | rfl | rfl | rfl <;> (dsimp only; omega)
end Go.Proofs.Ytpgjploaliefdaa.im
