/- Layer 11's raw heaps, plain: pointers, pieces, objects. No conditions. -/
import Derived.Test.YtpgjploaliefdaaGreatG06
namespace Go.Proofs.YtpgjploaliefdaaGreat.rh
open Go Go.Proofs.YtpgjploaliefdaaGreat.hp Go.Proofs.YtpgjploaliefdaaGreat.ob Go.Proofs.YtpgjploaliefdaaGreat.hd Go.Proofs.YtpgjploaliefdaaGreat.cp
set_option linter.unusedVariables false
set_option linter.unusedSimpArgs false
theorem clK_le (x : Rh) (c : Bool) (i : Nat) : clK x c i ≤ 2 ∧ (c = false → clK x c i ≤ 1) := by
  have := pickI_in (clC x i) (n := 3) (by decide)
  unfold clK
  split
  · exact ⟨by omega, fun _ => by omega⟩
  · rename_i h
    refine ⟨by omega, fun e => ?_⟩
    have : ¬ (pickI (clC x i) 3).toNat = 2 := fun h2 => h ⟨h2, e⟩
    omega
theorem parts_of (x : Rh) (c : Bool) (i : Nat) : (clK x c i = 0 ∧ hpt x c i = 2 ∧ opt x c i = 0) ∨ (clK x c i = 1 ∧ c = false ∧ hpt x c i = 1 ∧ opt x c i = 0) ∨ (clK x c i = 1 ∧ c = true ∧ hpt x c i = 1 ∧ (opt x c i = 3 ∨ opt x c i = 4)) ∨ (clK x c i = 2 ∧ c = true ∧ hpt x c i = 0 ∧ (opt x c i = 3 ∨ opt x c i = 4)) := by
  have h := clK_le x c i
  unfold hpt opt
  generalize clK x c i = k at *
  cases c
  · have h2 := h.2 rfl
    rcases (show k = 0 ∨ k = 1 by omega) with rfl | rfl
    · exact .inl ⟨rfl, rfl, rfl⟩
    · exact .inr (.inl ⟨rfl, rfl, rfl, rfl⟩)
  · rcases (show k = 0 ∨ k = 1 ∨ k = 2 by omega) with rfl | rfl | rfl
    · exact .inl ⟨rfl, rfl, rfl⟩
    · exact .inr (.inr (.inl ⟨rfl, rfl, rfl, by simp only [and_self, if_true, Nat.lt_irrefl, Nat.zero_lt_one]; split <;> simp⟩))
    · exact .inr (.inr (.inr ⟨rfl, rfl, rfl, by simp only [and_self, if_true, show 0 < 2 from by decide]; split <;> simp⟩))
theorem hpt_le (x : Rh) (c : Bool) (i : Nat) : hpt x c i ≤ 2 := by rcases parts_of x c i with h | h | h | h <;> omega
theorem opt_cases (x : Rh) (c : Bool) (i : Nat) : opt x c i = 0 ∨ opt x c i = 3 ∨ opt x c i = 4 := by rcases parts_of x c i with h | h | h | h <;> omega
/-- In which part a node stands, or stood. -/
def isAt (x : Rh) (c : Bool) (p j : Nat) : Prop := (1 ≤ p ∧ p ≤ 2 ∧ hpt x c j = p) ∨ (3 ≤ p ∧ p ≤ 4 ∧ opt x c j = p)
def offP (x : Rh) (c : Bool) (p j : Nat) : Nat := if p ≤ 2 then hof x c p j else oof x c p j
def lenP (x : Rh) (c : Bool) (p : Nat) : Nat := offP x c p (nN x)
theorem lenI_L (x : Rh) (c : Bool) {p : Nat} (hp : 1 ≤ p ∧ p ≤ 4) : lenI (layL x c) p = lenP x c p := by
  unfold lenI layL lenP offP
  rcases (show p = 1 ∨ p = 2 ∨ p = 3 ∨ p = 4 by omega) with rfl | rfl | rfl | rfl <;> simp
theorem isAt_p {x : Rh} {c : Bool} {p j : Nat} (h : isAt x c p j) : 1 ≤ p ∧ p ≤ 4 := by
  rcases h with h | h <;> omega
theorem isAt_lt {x : Rh} {c : Bool} {p j : Nat} (h : isAt x c p j) (hj : j < nN x) : offP x c p j + 1 + slN x j ≤ lenP x c p := by
  unfold lenP offP
  rcases h with ⟨h1, h2, h3⟩ | ⟨h1, h2, h3⟩
  · rw [if_pos h2, if_pos h2]
    exact offs_lt hj h3
  · rw [if_neg (by omega), if_neg (by omega)]
    exact offs_lt hj h3
/-- A word that is 0, or the pointer to a node. -/
def RefTo (x : Rh) (c : Bool) (lo hi : Nat) (v : Int) : Prop := v = 0 ∨ ∃ p j, lo ≤ p ∧ p ≤ hi ∧ isAt x c p j ∧ j < nN x ∧ v = 2 * (firstI (layL x c) p + offP x c p j) + 1
theorem RefTo.wide {x : Rh} {c : Bool} {lo hi lo' hi' : Nat} {v : Int} (h : RefTo x c lo hi v) (h1 : lo' ≤ lo) (h2 : hi ≤ hi') : RefTo x c lo' hi' v := by
  rcases h with h | ⟨p, j, a, b, d⟩
  · exact .inl h
  · exact .inr ⟨p, j, by omega, by omega, d⟩
theorem ref_in {x : Rh} (hx : 0 ≤ x.base) {c : Bool} {p j : Nat} (h : isAt x c p j) (hj : j < nN x) : 1 ≤ firstI (layL x c) p + offP x c p j ∧ firstI (layL x c) p + offP x c p j < 9223372036854775808 := by
  have h1 := isAt_p h
  have h2 := isAt_lt h hj
  exact adr_pos (lay_right hx c) (p := (p : Int)) (by omega) (by rw [lenI_L x c h1]; omega)
theorem RefTo.ptr {x : Rh} (hx : 0 ≤ x.base) {c : Bool} {lo hi : Nat} {v : Int} (h : RefTo x c lo hi v) : ptrB v = true ∧ 0 ≤ v ∧ v < 18446744073709551616 := by
  rcases h with rfl | ⟨p, j, _, _, h3, h4, rfl⟩
  · exact ⟨rfl, by decide, by decide⟩
  · have := ref_in hx h3 h4
    refine ⟨?_, by omega, by omega⟩
    unfold ptrB
    simp only [decide_eq_true_eq]
    omega
theorem hrf_to (x : Rh) (c : Bool) {j : Nat} (hj : j < nN x) : RefTo x c 1 2 (hrf x c j) := by
  have h2 := hpt_le x c j
  unfold hrf refP
  by_cases h : hpt x c j = 0
  · rw [if_pos h]; exact .inl rfl
  · rw [if_neg h]
    exact .inr ⟨hpt x c j, j, by omega, h2, .inl ⟨by omega, h2, rfl⟩, hj, by unfold offP; rw [if_pos h2]⟩
theorem orf_to (x : Rh) (c : Bool) {j : Nat} (hj : j < nN x) : RefTo x c 3 4 (orf x c j) := by
  have h2 := opt_cases x c j
  unfold orf refP
  by_cases h : opt x c j = 0
  · rw [if_pos h]; exact .inl rfl
  · rw [if_neg h]
    exact .inr ⟨opt x c j, j, by omega, by omega, .inr ⟨by omega, by omega, rfl⟩, hj, by unfold offP; rw [if_neg (by omega)]⟩
theorem slot_to (x : Rh) (c : Bool) {p at_ : Nat} {tg tw : Int} (ht : tg < nN x) : RefTo x c 1 4 (slotV x c p at_ tg tw) ∧ (2 < p → RefTo x c 3 4 (slotV x c p at_ tg tw)) ∧ (p ≤ 2 → (p = 1 → at_ < scanN x c) → RefTo x c 1 2 (slotV x c p at_ tg tw)) := by
  unfold slotV
  split
  · exact ⟨.inl rfl, fun _ => .inl rfl, fun _ _ => .inl rfl⟩
  · rename_i h0
    have hj : tg.toNat < nN x := by omega
    have h1 := hrf_to x c hj
    have h2 := orf_to x c hj
    split
    · exact ⟨h2.wide (by omega) (by omega), fun _ => h2, fun h _ => by omega⟩
    · rename_i hp
      split
      · rename_i h3
        exact ⟨h2.wide (by omega) (by omega), fun h => absurd h hp, fun _ h => by have := h h3.1.1; omega⟩
      · exact ⟨h1.wide (by omega) (by omega), fun h => absurd h hp, fun _ _ => h1⟩
theorem gPtrs_in (x : Rh) (i : Nat) : ∀ t ∈ gPtrs x i, -1 ≤ t ∧ t < nN x := by
  intro t ht
  unfold gPtrs at ht
  obtain ⟨c, _, rfl⟩ := List.mem_map.1 ht
  have := pickI_in c (n := (nN x : Int) + 1) (by omega)
  omega
theorem gRoots_in (x : Rh) : ∀ t ∈ gRoots x, -1 ≤ t ∧ t < nN x := by
  intro t ht
  unfold gRoots at ht
  split at ht
  · simp at ht; omega
  · obtain ⟨c, _, rfl⟩ := List.mem_map.1 ht
    have := pickI_in c (n := (nN x : Int) + 1) (by omega)
    omega
theorem gData_in {x : Rh} (ok : RhOk x) (i : Nat) : ∀ d ∈ gData x i, U64 d := by
  intro d hd
  unfold gData at hd
  have h1 := List.mem_of_mem_take hd
  by_cases hi : i < x.nodes.length
  · rw [List.getD_eq_getElem?_getD, List.getElem?_eq_getElem hi] at h1
    exact ok.data _ (List.getElem_mem hi) d h1
  · rw [List.getD_eq_getElem?_getD, List.getElem?_eq_none (by omega)] at h1
    simp at h1
theorem slotsV_get (x : Rh) (c : Bool) (p a : Nat) (tw : Int) : ∀ (l : List Int) (k m : Nat), m < l.length → (slotsV x c p a tw k l).getD m 0 = slotV x c p (a + 1 + (k + m)) (l.getD m 0) (wr (tw + ((k + m : Nat) : Int)))
  | [], k, m, h => by simp at h
  | t :: l, k, 0, h => rfl
  | t :: l, k, m + 1, h => by
    have := slotsV_get x c p a tw l (k + 1) m (by simpa using h)
    simp only [slotsV, List.getD_cons_succ]
    rw [this, show k + 1 + m = k + (m + 1) from by omega]
theorem slots_small {x : Rh} (ok : RhOk x) (c : Bool) (p a : Nat) (tw : Int) (i : Nat) : Small (slotsV x c p a tw 0 (gPtrs x i) ++ gData x i) := by
  intro k
  have hl := slotsV_len x c p a tw (gPtrs x i) 0
  by_cases h1 : k < (gPtrs x i).length
  · have e : (slotsV x c p a tw 0 (gPtrs x i) ++ gData x i).getD k 0 = (slotsV x c p a tw 0 (gPtrs x i)).getD k 0 := by
      simp only [List.getD]
      rw [List.getElem?_append_left (by omega)]
    rw [e, slotsV_get _ _ _ _ _ _ _ _ h1]
    exact ((slot_to x c (gPtrs_in x i _ (by rw [List.getD_eq_getElem?_getD, List.getElem?_eq_getElem h1]; exact List.getElem_mem h1)).2).1.ptr ok.base.1).2
  · have e : (slotsV x c p a tw 0 (gPtrs x i) ++ gData x i).getD k 0 = (gData x i).getD (k - (gPtrs x i).length) 0 := by
      simp only [List.getD]
      rw [List.getElem?_append_right (by omega), hl]
    rw [e]
    by_cases h2 : k - (gPtrs x i).length < (gData x i).length
    · rw [List.getD_eq_getElem?_getD, List.getElem?_eq_getElem h2]
      exact gData_in ok i _ (List.getElem_mem h2)
    · rw [List.getD_eq_getElem?_getD, List.getElem?_eq_none (by omega)]
      exact ⟨by decide, by decide⟩
theorem slots_ptr {x : Rh} (ok : RhOk x) (c : Bool) (p a : Nat) (tw : Int) (i k : Nat) (hk : k < (gPtrs x i).length) :
    ∃ t tw', t < (nN x : Int) ∧ (slotsV x c p a tw 0 (gPtrs x i) ++ gData x i).getD k 0 = slotV x c p (a + 1 + k) t tw' := by
  have hl := slotsV_len x c p a tw (gPtrs x i) 0
  have e : (slotsV x c p a tw 0 (gPtrs x i) ++ gData x i).getD k 0 = (slotsV x c p a tw 0 (gPtrs x i)).getD k 0 := by
    simp only [List.getD]
    rw [List.getElem?_append_left (by omega)]
  refine ⟨_, _, ?_, by rw [e, slotsV_get _ _ _ _ _ _ _ _ hk, Nat.zero_add]⟩
  exact (gPtrs_in x i _ (by rw [List.getD_eq_getElem?_getD, List.getElem?_eq_getElem hk]; exact List.getElem_mem hk)).2
theorem hPc_good {x : Rh} (ok : RhOk x) (c : Bool) (i : Nat) : PcGood (hPc x c i) := by
  refine ⟨(hPc_s x c i).2.trans (hPc_s x c i).1.symm, by rw [(hPc_s x c i).1]; have := slN_le x i; omega, ?_, slots_small ok _ _ _ _ _, fun _ => ⟨rfl, fun k hk => ?_⟩, fun h => (by cases h)⟩
  · show (gPtrs x i).length ≤ slN x i
    unfold slN; omega
  · obtain ⟨t, tw', h1, h2⟩ := slots_ptr ok c (hpt x c i) (hof x c (hpt x c i) i) (wr (x.slack + i)) i k hk
    show ptrB ((slotsV x c (hpt x c i) (hof x c (hpt x c i) i) (wr (x.slack + i)) 0 (gPtrs x i) ++ gData x i).getD k 0) = true
    rw [h2]
    exact ((slot_to x c h1).1.ptr ok.base.1).1
theorem oPc_good {x : Rh} (ok : RhOk x) (c : Bool) {i : Nat} (hi : i < nN x) : PcGood (oPc x c i) := by
  have hs := slN_le x i
  have hp : (gPtrs x i).length ≤ slN x i := by unfold slN; omega
  have hpl := hpt_le x c i
  unfold oPc
  split
  · rename_i h0
    refine ⟨by simp, by show slN x i ≤ 255; omega, hp, ?_, fun h => (by cases h), fun _ => ?_⟩
    · intro k
      simp only [List.getD, List.getElem?_replicate]
      split <;> simp
    · have hat : isAt x c (hpt x c i) i := .inl ⟨by omega, hpl, rfl⟩
      have := ref_in ok.base.1 hat hi
      refine ⟨firstI (layL x c) (hpt x c i) + offP x c (hpt x c i) i, this.1, this.2, ?_, rfl⟩
      show hrf x c i = _
      unfold hrf refP offP
      rw [if_neg (by omega), if_pos hpl]
  · refine ⟨?_, by show slN x i ≤ 255; omega, hp, slots_small ok _ _ _ _ _, fun _ => ⟨rfl, fun k hk => ?_⟩, fun h => (by cases h)⟩
    · show (slotsV _ _ _ _ _ _ _ ++ gData x i).length = slN x i
      rw [List.length_append, slotsV_len]
      rfl
    · obtain ⟨t, tw', h1, h2⟩ := slots_ptr ok c (opt x c i) (oof x c (opt x c i) i) 0 i k hk
      show ptrB ((slotsV x c (opt x c i) (oof x c (opt x c i) i) 0 0 (gPtrs x i) ++ gData x i).getD k 0) = true
      rw [h2]
      exact ((slot_to x c h1).1.ptr ok.base.1).1
theorem mem_pieces {q : Nat → Nat} {P : Nat → Pc} {p n : Nat} {d : Pc} : d ∈ pieces q P p n ↔ ∃ i, i < n ∧ q i = p ∧ d = P i := by
  unfold pieces
  rw [List.mem_flatMap]
  constructor
  · rintro ⟨i, hi, h⟩
    split at h
    · rename_i hq
      exact ⟨i, List.mem_range.1 hi, hq, List.mem_singleton.1 h⟩
    · cases h
  · rintro ⟨i, hi, hq, rfl⟩
    exact ⟨i, List.mem_range.2 hi, by rw [if_pos hq]; exact List.mem_singleton.2 rfl⟩
theorem pieces_good {q : Nat → Nat} {P : Nat → Pc} {n : Nat} (h : ∀ i, i < n → PcGood (P i)) (p : Nat) : ob.Good (pieces q P p n) := fun d hd => by
  obtain ⟨i, hi, _, rfl⟩ := mem_pieces.1 hd
  exact h i hi
theorem hpcs_good {x : Rh} (ok : RhOk x) (c : Bool) (p : Nat) : ob.Good (hpcs x c p (nN x)) := pieces_good (fun i _ => hPc_good ok c i) p
theorem opcs_good {x : Rh} (ok : RhOk x) (c : Bool) (p : Nat) : ob.Good (opcs x c p (nN x)) := pieces_good (fun i hi => oPc_good ok c hi) p
theorem obs_succ {z q : Nat → Nat} {P : Nat → Pc} {n : Nat} (hz : ∀ i, (P i).s = z i ∧ (P i).ys.length = z i) (hg : ∀ i, i < n + 1 → PcGood (P i)) (p : Nat) :
    obsAt 0 (pieces q P p (n + 1)) = obsAt 0 (pieces q P p n) ++ if q n = p then [obOf (offs z q p n) (P n)] else [] := by
  rw [pieces_succ, obsAt_app _ _ (pieces_good (fun i hi => hg i (by omega)) p), words_pieces hz p n]
  congr 1
  split
  · simp [obsAt]
  · rfl
theorem mem_obs {z q : Nat → Nat} {P : Nat → Pc} (hz : ∀ i, (P i).s = z i ∧ (P i).ys.length = z i) (p : Nat) : ∀ {n : Nat}, (∀ i, i < n → PcGood (P i)) → ∀ o : Ob, (o ∈ obsAt 0 (pieces q P p n) ↔ ∃ i, i < n ∧ q i = p ∧ o = obOf (offs z q p i) (P i))
  | 0, _, o => by
    constructor
    · intro h; cases h
    · rintro ⟨i, hi, _⟩; omega
  | n + 1, hg, o => by
    rw [obs_succ hz hg p, List.mem_append, mem_obs hz p (fun i hi => hg i (by omega)) o]
    constructor
    · rintro (⟨i, hi, h⟩ | h)
      · exact ⟨i, by omega, h⟩
      · split at h
        · rename_i hq
          exact ⟨n, by omega, hq, List.mem_singleton.1 h⟩
        · cases h
    · rintro ⟨i, hi, hq, rfl⟩
      rcases Nat.lt_or_ge i n with h | h
      · exact .inl ⟨i, h, hq, rfl⟩
      · obtain rfl : i = n := by omega
        exact .inr (by rw [if_pos hq]; exact List.mem_singleton.2 rfl)
theorem lies_piece {z q : Nat → Nat} {P : Nat → Pc} (hz : ∀ i, (P i).s = z i ∧ (P i).ys.length = z i) {p : Nat} : ∀ {n i : Nat}, i < n → q i = p → ∃ C, wordsOf (pieces q P p n) = wordsOf (pieces q P p i) ++ wordsOf [P i] ++ C
  | 0, i, h, _ => by omega
  | n + 1, i, h, hq => by
    rw [pieces_succ, wordsOf_app]
    rcases Nat.lt_or_ge i n with h1 | h1
    · obtain ⟨C, e⟩ := lies_piece hz (P := P) h1 hq
      exact ⟨C ++ wordsOf (if q n = p then [P n] else []), by rw [e, List.append_assoc]⟩
    · obtain rfl : i = n := by omega
      exact ⟨[], by rw [if_pos hq, List.append_nil]⟩
theorem slot_at {z q : Nat → Nat} {P : Nat → Pc} (hz : ∀ i, (P i).s = z i ∧ (P i).ys.length = z i) {p n i k : Nat} (hi : i < n) (hq : q i = p) (hk : k < z i) : (wordsOf (pieces q P p n)).getD (offs z q p i + 1 + k) 0 = (P i).ys.getD k 0 := by
  obtain ⟨C, e⟩ := lies_piece hz hi hq
  rw [e, ← words_pieces hz p i]
  exact lies_slot (lies_mid _ _ _) (by rw [(hz i).2]; exact hk)
end Go.Proofs.YtpgjploaliefdaaGreat.rh
