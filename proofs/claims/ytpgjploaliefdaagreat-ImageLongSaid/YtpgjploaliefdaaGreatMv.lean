/- How long an image is, plain. No conditions. -/
import Derived.Test.YtpgjploaliefdaaGreatG16
namespace Go.Proofs.YtpgjploaliefdaaGreat.im
open Go Go.RowKit Go.Proofs.YtpgjploaliefdaaGreat.cm Go.Proofs.YtpgjploaliefdaaGreat.cw Go.Proofs.YtpgjploaliefdaaGreat.ga Go.Proofs.YtpgjploaliefdaaGreat.gr Go.Proofs.YtpgjploaliefdaaGreat.hp Go.Proofs.YtpgjploaliefdaaGreat.ob Go.Proofs.YtpgjploaliefdaaGreat.hd Go.Proofs.YtpgjploaliefdaaGreat.cp Go.Proofs.YtpgjploaliefdaaGreat.ck
open Go.Proofs.YtpgjploaliefdaaGreat.fr (strB putN rowN strB_size putN_10 putN_len putN_pos frameS headS halfS joinU joinR bytesU idOk)
set_option linter.unusedVariables false
set_option linter.unusedSimpArgs false
theorem walkF_ad {bg : Nat → Nat → Int → Option (Ob × Nat)} {zs : List Int} {len : Nat} (hz : Small zs) (hbg : ∀ k pos x o k', (0 ≤ x ∧ x < 18446744073709551616) → bg k pos x = some (o, k') → 0 ≤ o.t ∧ o.t < 9223372036854775808) :
    ∀ {f k pos : Nat} {acc l : List Ob} {k2 : Nat}, (∀ o ∈ acc, 0 ≤ o.t ∧ o.t < 9223372036854775808) → walkF bg zs len f k pos acc = .ok l k2 → ∀ o ∈ l, 0 ≤ o.t ∧ o.t < 9223372036854775808
  | 0, k, pos, acc, l, k2, ha, h => by cases h
  | f + 1, k, pos, acc, l, k2, ha, h => by
    by_cases hp : pos < len
    · rw [walkF_step hp] at h
      split at h
      · cases h
      · rename_i o k' hb
        have h1 := hbg _ _ _ _ _ (hz pos) hb
        split at h
        · cases h
        · split at h
          · exact walkF_ad hz hbg (acc := acc ++ [o]) (fun o' ho' => by
              rcases List.mem_append.1 ho' with h6 | h6
              · exact ha _ h6
              · simp at h6; subst h6; exact h1) h
          · cases h
    · rw [walkF_end hp] at h
      cases h
      exact ha
theorem bgN_ad {k pos : Nat} {x : Int} {o : Ob} {k' : Nat} (hb : bgN k pos x = some (o, k')) : 0 ≤ o.t ∧ o.t < 9223372036854775808 := by
  unfold bgN at hb
  split at hb
  · cases hb
    exact ⟨Int.le_refl _, (show (0 : Int) < 9223372036854775808 by decide)⟩
  · cases hb
theorem newF_ad {zs : List Int} {l : List Ob} {k : Nat} (hz : Small zs) (h : newF zs = .ok l k) : ∀ o ∈ l, 0 ≤ o.t ∧ o.t < 9223372036854775808 :=
  walkF_ad hz (fun k pos x o k' hx hb => bgN_ad hb) (acc := []) (fun o ho => by simp at ho) h
theorem oldF_ad {zs : List Int} {ss : List (Int × Int)} {l : List Ob} {k : Nat} (hz : Small zs) (h : oldF zs ss = .ok l k) : ∀ o ∈ l, 0 ≤ o.t ∧ o.t < 9223372036854775808 := by
  unfold oldF at h
  generalize hw : walkF (bgO ss.length ss) zs zs.length (zs.length + 1) 0 0 [] = r at h
  rcases r with ⟨l', k'⟩ | ⟨c, k'⟩
  · obtain rfl := oldRes_ok h
    refine walkF_ad hz (fun k pos x o k' hx hb => ?_) (acc := []) (fun o ho => by simp at ho) hw
    unfold bgO at hb
    split at hb
    · split at hb
      · cases hb
        show 0 ≤ adV x ∧ adV x < _
        unfold adV
        split <;> omega
      · cases hb
    · exact bgN_ad hb
  · cases h
theorem found_ad {h : Hp} {s : Fnd} (f : Go.Proofs.YtpgjploaliefdaaGreat.cp.Found h s) (z1 : Small h.low) (z2 : Small h.high) (z3 : Small h.old) (z4 : Small h.far) (q : Nat) (hq : 1 ≤ q ∧ q ≤ 4) : ∀ o ∈ s.obs q, 0 ≤ o.t ∧ o.t < 9223372036854775808 := by
  obtain ⟨⟨k1, e1⟩, ⟨k2, e2⟩, ⟨k3, e3⟩, ⟨k4, e4⟩, e5, e6⟩ := f
  rcases (show q = 1 ∨ q = 2 ∨ q = 3 ∨ q = 4 by omega) with rfl | rfl | rfl | rfl
  · exact newF_ad z1 e1
  · exact newF_ad z2 e2
  · exact oldF_ad z3 e3
  · exact oldF_ad z4 e4
theorem putN_9 {v : Nat} (h : v < 9223372036854775808) : (putN v).length ≤ 9 := putN_len 8 v (Nat.lt_of_lt_of_le h (by decide))
theorem obj_le {zs : List Int} {o : Ob} (hz : Small zs) (hf : FitB zs.length o) (ht : 0 ≤ o.t ∧ o.t < 9223372036854775808) : (objU zs o).length ≤ 10 * (1 + o.s.toNat) := by
  obtain ⟨f1, f2, f3, f4, f5, f6⟩ := hf
  unfold objU
  split
  · unfold uRow rowN
    rw [strB_list]
    have h1 := putN_1 (v := 1) (by omega)
    have h2 := putN_9 (v := o.t.toNat) (by omega)
    simp
    omega
  · have h1 : (uRow [0, o.s.toNat, o.p.toNat]).length ≤ 5 := by
      unfold uRow rowN
      rw [strB_list]
      have h1 := putN_1 (v := 0) (by omega)
      have h2 := putN_2 (v := o.s.toNat) (by omega)
      have h3 := putN_2 (v := o.p.toNat) (by omega)
      simp
      omega
    have h2 := refsU_le (sub_small hz (o.pos.toNat + 1) o.p.toNat)
    have h3 := uWords_le (sub_small hz (o.pos.toNat + 1 + o.p.toNat) (o.s.toNat - o.p.toNat))
    rw [sub_len (by omega)] at h2 h3
    rw [List.length_append, List.length_append]
    omega
theorem objs_le10 {zs : List Int} (hz : Small zs) : ∀ {pos : Nat} {l : List Ob}, ChainO zs.length pos l → (∀ o ∈ l, 0 ≤ o.t ∧ o.t < 9223372036854775808) → (l.flatMap (objU zs)).length ≤ 10 * (zs.length - pos)
  | pos, [], h, _ => by simp
  | pos, o :: l, h, ht => by
    have hf := h.from o (by simp)
    obtain ⟨h1, h2, h3, h4⟩ := h
    have e1 := obj_le hz hf.2 (ht o (by simp))
    have e2 := objs_le10 hz h4 (fun o ho => ht o (by simp [ho]))
    rw [List.flatMap_cons, List.length_append]
    omega
theorem part_len10 {h : Hp} {s : Fnd} (e : lookF h = some s) (z1 : Small h.low) (z2 : Small h.high) (z3 : Small h.old) (z4 : Small h.far) (q : Nat) (hq : 1 ≤ q ∧ q ≤ 4) : (partU h s q).size ≤ 10 * (h.part q).length + 2 := by
  obtain ⟨p1, p2, p3, p4, p5, p6, p7, p8, hl⟩ := head_pos e
  have hl := hl q hq
  obtain ⟨ha1, ha2, hf, ha4⟩ := looks_rest e
  have hc := hf.chain q hq
  have ht := found_ad hf z1 z2 z3 z4 q hq
  have hs : Small (h.part q) := by
    unfold Hp.part
    rcases (show q = 1 ∨ q = 2 ∨ q = 3 ∨ q = 4 by omega) with rfl | rfl | rfl | rfl
    · exact z1
    · exact z2
    · exact z3
    · exact z4
  have h1 := objs_le10 hs hc ht
  have h2 := chain_len hc
  have h3 : (uP (s.obs q).length).length ≤ 2 := by
    unfold uP
    rw [strB_list]
    exact putN_2 (by omega)
  show (uP (s.obs q).length ++ (s.obs q).flatMap (objU (h.part q))).toArray.size ≤ _
  simp only [List.size_toArray, List.length_append]
  omega
theorem bytes_len (f : Int × ByteArray) (hs : f.2.size < 100000000000) : (bytesU f).length ≤ f.2.size + 15 ∧ f.2.size + 6 ≤ (bytesU f).length := by
  have h1 : (strB [f.1.toNat]).size = 1 := strB_size _
  have h2 : (strB (putN f.2.size)).size ≤ 10 := by rw [strB_size]; exact putN_10 (by omega)
  have h4 : 1 ≤ (strB (putN f.2.size)).size := by rw [strB_size]; exact putN_pos _
  have h3 : ∀ X, (halfS X).size = 4 := fun X => by unfold halfS; rw [strB_size]; simp [le4]
  have e : (bytesU f).length = (frameS f.1.toNat f.2).size := by unfold bytesU; rw [Array.length_toList]; rfl
  rw [e]
  unfold frameS headS
  simp only [ByteArray.size_append, h1, h3]
  omega
/-- An image's length. -/
theorem image_len {h : Hp} {s : Fnd} (e : lookF h = some s) (hb : 0 ≤ h.base ∧ h.base < 18446744073709551616) (z1 : Small h.low) (z2 : Small h.high) (z3 : Small h.old) (z4 : Small h.far) (z5 : Small h.roots) :
    (joinR (framesOf h s)).2 = 0 ∧ (joinR (framesOf h s)).1.size ≤ 10 * (h.low.length + h.high.length + h.old.length + h.far.length) + 10 * h.roots.length + 150 ∧ 36 + h.roots.length ≤ (joinR (framesOf h s)).1.size := by
  have hle := frames_le e hb z1 z2 z3 z4 z5
  obtain ⟨p1, p2, p3, p4, p5, p6, p7, p8, hl⟩ := head_pos e
  have hid : ∀ f ∈ framesOf h s, idOk f := by
    intro f hf
    unfold framesOf at hf
    simp only [List.mem_cons, List.not_mem_nil, or_false] at hf
    rcases hf with rfl | rfl | rfl | rfl | rfl | rfl <;> (unfold idOk; dsimp only; decide)
  have hsz : (joinR (framesOf h s)).1.size = (joinU (framesOf h s)).length := by
    unfold joinR
    rw [if_pos hid]
    show (joinU (framesOf h s)).toArray.size = _
    simp
  refine ⟨by unfold joinR; rw [if_pos hid], ?_⟩
  rw [hsz]
  have hm : ∀ f ∈ framesOf h s, (bytesU f).length ≤ f.2.size + 15 ∧ f.2.size + 6 ≤ (bytesU f).length := fun f hf => bytes_len f (by have := hle f hf; omega)
  have b1 := hm (1, strB (rowN (headN h))) (by unfold framesOf; simp)
  have b2 := hm (2, rootS h) (by unfold framesOf; simp)
  have b3 := hm (3, partU h s 1) (by unfold framesOf; simp)
  have b4 := hm (4, partU h s 2) (by unfold framesOf; simp)
  have b5 := hm (5, partU h s 3) (by unfold framesOf; simp)
  have b6 := hm (6, partU h s 4) (by unfold framesOf; simp)
  have c3 := part_len10 e z1 z2 z3 z4 1 (by omega)
  have c4 := part_len10 e z1 z2 z3 z4 2 (by omega)
  have c5 := part_len10 e z1 z2 z3 z4 3 (by omega)
  have c6 := part_len10 e z1 z2 z3 z4 4 (by omega)
  have q1 : (h.part 1) = h.low := rfl
  have q2 : (h.part 2) = h.high := rfl
  have q3 : (h.part 3) = h.old := rfl
  have q4 : (h.part 4) = h.far := rfl
  rw [q1] at c3
  rw [q2] at c4
  rw [q3] at c5
  rw [q4] at c6
  have c1 : (strB (rowN (headN h))).size ≤ 17 := by
    rw [strB_size]
    unfold rowN headN
    have h1 := putN_1 (v := 1) (by omega)
    have h2 := putN_10 (v := h.base.toNat) (by omega)
    have hc : h.cap.toNat ≤ 4096 := by
      obtain ⟨ha1, ha2, hf, ha4⟩ := looks_rest e
      unfold boundedB at ha1
      rw [Bool.and_eq_true, decide_eq_true_eq] at ha1
      obtain ⟨r1, r2, r3, r4, r5, r6, r7⟩ := layR_t ha1.1
      have : h.cap ≤ 4096 := r2
      omega
    have h3 := putN_2 (v := h.cap.toNat) (by omega)
    have h4 := putN_1 (v := h.tt.toNat) (by omega)
    have h5 := putN_1 (v := if h.cyc then 1 else 0) (by split <;> omega)
    have h6 := putN_2 (v := h.scan.toNat) (by
      obtain ⟨ha1, ha2, hf, ha4⟩ := looks_rest e
      unfold boundedB at ha1
      rw [Bool.and_eq_true, decide_eq_true_eq] at ha1
      have := hl 1 (by omega)
      rw [q1] at this
      omega)
    simp only [List.flatMap_cons, List.flatMap_nil, List.length_append, List.length_nil]
    omega
  have c2 : (rootS h).size ≤ 1 + 10 * h.roots.length ∧ h.roots.length ≤ (rootS h).size := by
    have h1 := refsU_le z5
    have h2 := putN_1 (v := h.roots.length) (by omega)
    have h3 : h.roots.length ≤ (refsU h.roots).length := by
      unfold refsU
      generalize h.roots = l
      induction l with
      | nil => simp
      | cons a l ih =>
        rw [List.flatMap_cons, List.length_append, List.length_cons]
        have : 1 ≤ (uP (adV a).toNat).length := by unfold uP; rw [strB_list]; exact putN_pos _
        omega
    have e1 : (rootS h).size = (putN h.roots.length).length + (refsU h.roots).length := by
      unfold rootS
      rw [ByteArray.size_append, strB_size]
      congr 1
    omega
  have hj : (joinU (framesOf h s)).length = (bytesU (1, strB (rowN (headN h)))).length + (bytesU (2, rootS h)).length + (bytesU (3, partU h s 1)).length + (bytesU (4, partU h s 2)).length + (bytesU (5, partU h s 3)).length + (bytesU (6, partU h s 4)).length := by
    unfold joinU framesOf
    simp only [List.flatMap_cons, List.flatMap_nil, List.length_append, List.length_nil]
    omega
  rw [hj]
  dsimp only at b1 b2 b3 b4 b5 b6
  omega
end Go.Proofs.YtpgjploaliefdaaGreat.im
