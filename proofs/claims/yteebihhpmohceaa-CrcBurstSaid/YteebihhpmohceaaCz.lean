/- Contracts of layer 3's functions (crc), fourth part: Combine. No conditions. -/
import Derived.Test.YteebihhpmohceaaCy
import Derived.Deep.MidRow
namespace Go.Proofs.Yteebihhpmohceaa.cw
open Go.RowKit Go.Proofs.Yteebihhpmohceaa.cm
set_option linter.unusedVariables false
set_option linter.unusedSimpArgs false
theorem ofN_mod (M : Nat → Nat) (p c k : Nat) (hk : k ≤ 32) (hM : ∀ i, i < 32 → M i = iter zeroN p (2 ^ i)) : ofN M c k = iter zeroN p (c % 2 ^ k) := by
  induction k with
  | zero => simp [ofN, Nat.mod_one]; rw [iter_zeroN, iter_zero]
  | succ k ih =>
    have e : c % 2 ^ (k + 1) = (c % 2 ^ k) ^^^ (if c.testBit k then 2 ^ k else 0) := by
      apply Nat.eq_of_testBit_eq
      intro i
      rw [Nat.testBit_xor, Nat.testBit_mod_two_pow, Nat.testBit_mod_two_pow]
      split
      · rename_i hb
        rw [Nat.testBit_two_pow]
        by_cases h : i < k
        · simp [h, show i < k + 1 from by omega, show ¬ k = i from by omega]
        · by_cases h2 : k = i
          · subst h2; simp [hb]
          · simp [h, show ¬ i < k + 1 from by omega, h2]
      · rename_i hb
        by_cases h : i < k
        · simp [h, show i < k + 1 from by omega]
        · by_cases h2 : k = i
          · subst h2; simp [hb]
          · simp [h, show ¬ i < k + 1 from by omega]
    unfold ofN
    rw [e, ih (by omega)]
    split
    · rw [iterz_xor, hM k (by omega)]
    · simp
theorem ofN_lin (M : Nat → Nat) (p c : Nat) (hc : c < 4294967296) (hM : ∀ i, i < 32 → M i = iter zeroN p (2 ^ i)) : ofN M c 32 = iter zeroN p c := by
  rw [ofN_mod M p c 32 (by omega) hM, Nat.mod_eq_of_lt (by omega)]
def putM (M : Nat → Nat) (k v : Nat) : Nat → Nat := fun i => if i = k then v else M i
theorem rowA_set (M : Nat → Nat) (k v : Nat) (hk : k < 32) : (rowL M).toArray.setIfInBounds k (.int .u32 ((v : Nat) : Int)) = (rowL (putM M k v)).toArray := by
  apply Array.ext_getElem?
  intro i
  by_cases h : i = k
  · subst h; rw [fix_same (by rw [rowA_size]; exact hk), rowA_get _ _ hk]; simp [putM]
  · rw [fix_get (by omega)]
    by_cases h2 : i < 32
    · rw [rowA_get _ _ h2, rowA_get _ _ h2]; simp [putM, h]
    · rw [Array.getElem?_eq_none (by rw [rowA_size]; omega), Array.getElem?_eq_none (by rw [rowA_size]; omega)]
theorem zero_pow (k : Nat) (w : World) (hk : k < 32) :
    Calls Try.prog 16 #[.int .u32 (2 ^ k % 4294967296)] w fun e w' => e = .returned (.int .u32 ((zeroN (2 ^ k) : Nat) : Int)) ∧ w = w' := by
  have h : (2 : Nat) ^ k < 4294967296 := Nat.pow_lt_pow_right (a := 2) (n := 32) (by omega) hk
  have h1 := zero_any (2 ^ k) w h
  have h2 : ((2 ^ k : Nat) : Int) = (2 : Int) ^ k := by simp
  have e : ((2 : Int) ^ k % 4294967296) = ((2 ^ k : Nat) : Int) := by
    rw [← h2]; generalize (2 ^ k : Nat) = z at h; omega
  rw [e]
  exact h1
def Rng (m : Int) : Prop := -9223372036854775808 ≤ m ∧ m < 9223372036854775808
def SmallA (a : Nat) : Prop := a < 4294967296
theorem range_row {w : World} {n : Nat} {L : List Value} {T : TypeId} (h : w.heap[n]? = some (.cells L.toArray T (0, 0))) : w.rangeAt n 0 L := by
  intro j v hv
  rw [cell_of_row w n (0 + j) _ _ _ h]
  simpa using hv
theorem s2r_tr {W w1 : World} (hb : Below W.heap.size W w1) {n : Nat} {L : List Value} {p : Addr} {u : Value}
    (h : W.rangeAt n 0 L ∧ W.cell? p = some u) : w1.rangeAt n 0 L ∧ w1.cell? p = some u :=
  ⟨fun j x hx => cell_tr hb (h.1 j x hx), cell_tr hb h.2⟩
theorem s2r_set {W : World} {n : Nat} {L : List Value} {u v : Value} {k b : Nat} (h : W.rangeAt n 0 L ∧ W.cell? ⟨n, k, none⟩ = some u) (hq : b ≠ n) :
    (W.setCell ⟨b, k, none⟩ v).rangeAt n 0 L ∧ (W.setCell ⟨b, k, none⟩ v).cell? ⟨n, k, none⟩ = some u :=
  ⟨fun j x hx => (World.cell?_setCell_far _ _ _ _ hq).trans (h.1 j x hx), (World.cell?_setCell_far _ _ _ _ hq).trans h.2⟩
theorem wrap_half {q : Nat} (h : Rng ((q : Int) / 2)) : wrap64 ((q : Int) / 2) = (q : Int) / 2 :=
  IntWalk.wrap64_in _ (by unfold Rng at h; omega)
theorem slot_half {q : Nat} (h : Rng ((q : Int) / 2)) : Value.int .i64 (wrap64 ((q : Int) / 2)) = .int .i64 ((q : Int) / 2) := by rw [wrap_half h]
theorem meas_half {q : Nat} (hq : 0 < (q : Int)) (h : Rng ((q : Int) / 2)) : (intOf (.int .i64 (wrap64 ((q : Int) / 2)))).toNat < (intOf (.int .i64 (q : Int))).toNat := by
  rw [wrap_half h]; simp only [intOf]; omega
theorem below_row {w W : World} {cs : Array Value} (h : Below w.heap.size w W) : Below w.heap.size w (W.setRow w.heap.size cs) :=
  h.trans ⟨rfl, rfl, rfl, by simp, fun k hk => setRow_other _ _ _ _ (by omega)⟩
theorem noughts_info {M : Nat → Nat} : (Try.prog.info? 38).map (·.size) = some (rowL M).toArray.size := by
  rw [rowA_size]; kernel_rfl
set_option maxRecDepth 100000 in
theorem combine_any (a b : Nat) (n : Int) (w : World) (ha : a < 4294967296) (hb : b < 4294967296) (hn : -9223372036854775808 ≤ n ∧ n < 9223372036854775808) :
    Calls Try.prog 10 #[.int .u32 (a : Int), .int .u32 (b : Int), .int .i64 n] w (OfPost ((combineN a b n.toNat : Nat) : Int) w) := by
  have hz := zero_noughts
  have hr0 : Hid (∀ i, i < 32 → (fun _ => 0 : Nat → Nat) i < 4294967296) := fun i _ => by simp
  go_enter Try.func10, Try.ntmps10
  go_wp2_with fail
  go_loopw [11] (fun i wr => ∃ k : Nat, ∃ M : Nat → Nat, k ≤ 32 ∧ i = .int .i64 k ∧ (∀ j, j < k → M j = zeroN (2 ^ j)) ∧ Blk wr w.heap.size (rowL M).toArray 38 ∧ Below w.heap.size w wr) (fun i _ => 32 - (intOf i).toNat)
  case atStart => exact ⟨0, _, by omega, rfl, fun _ h => by omega, Blk.new _ _ _, by (repeat (first | exact Below.refl _ _ | refine kp_alloc ?_ _ | refine kp_drew ?_ | refine kp_set ?_ (by first | (simp; done) | (simp; omega) | omega) _ | refine kp_tr ?_ (by with_reducible assumption)))⟩
  case round =>
    obtain ⟨k, M, hk, rfl, hM, hB, hbel⟩ := hrel
    have HM := Lib.hid hM
    clear hM
    by_cases hlt : k < 32
    · have hcell : ∃ v, wr.cell? ⟨w.heap.size, k, none⟩ = some v := ⟨_, (hB.get.2.1 k).trans (rowA_get M k hlt)⟩
      obtain ⟨v0, hcell⟩ := hcell
      have hfr := hB.get.2.2 k
      go_wp2_with fail
      refine (zero_pow k _ hlt).mono ?_; rintro e ww ⟨rfl, rfl⟩
      go_wp2_with fail
      refine ⟨⟨k + 1, putM M k (zeroN (2 ^ k)), by omega, by go_num, fun j hj => ?_, ?_, ?_⟩, by simp [intOf]; omega⟩
      · unfold putM; split
        · rename_i h; rw [h]
        · exact HM.out j (by omega)
      · rw [← rowA_set M k _ hlt]; exact hB.set _ _
      · exact hbel.setCell (Nat.le_refl _) _
    · obtain rfl : k = 32 := by omega
      rw [show ((32 : Nat) : Int) = 32 from rfl]
      clear hlt hr0
      obtain ⟨wo, rfl⟩ : ∃ wo : World, wo = wr := ⟨_, rfl⟩
      go_wp2_with fail
      go_loopw [0, 2] (fun av nv wr => ∃ a' : Nat, ∃ m : Int, ∃ p : Nat, ∃ M : Nat → Nat, av = .int .u32 ((a' : Nat) : Int) ∧ nv = .int .i64 m ∧ SmallA a' ∧ Rng m ∧ iter zeroN (p * m.toNat) a' = iter zeroN n.toNat a ∧ (∀ i, i < 32 → M i = iter zeroN p (2 ^ i)) ∧ Blk wr w.heap.size (rowL M).toArray 38 ∧ Below w.heap.size w wr) (fun _ nv _ => (intOf nv).toNat)
      case atStart => exact ⟨a, n, 1, M, rfl, rfl, ha, hn, by rw [Nat.one_mul], fun i hi => HM.out i hi, hB, hbel⟩
      case round =>
        obtain ⟨a', m, p, M', rfl, rfl, ha', ⟨hm1, hm2⟩, ht, hM', hB', hbel'⟩ := hrel
        obtain ⟨wq, rfl⟩ : ∃ wq : World, wq = wr := ⟨_, rfl⟩
        have HT := Lib.hid ht
        have HM2 := Lib.hid hM'
        clear ht hM'
        by_cases hpos : 0 < m
        · obtain ⟨q, rfl⟩ : ∃ q : Nat, m = (q : Int) := ⟨m.toNat, by omega⟩
          have HQ : Rng ((q : Int) / 2) := ⟨by omega, by omega⟩
          clear hm1 hm2
          have hraw : wq.heap[w.heap.size]? = some (.cells (rowL M').toArray 38 (0, 0)) := hB'.raw
          have HR := Lib.hid hraw
          clear hraw
          have hMl : ∀ i, i < 32 → M' i < 4294967296 := fun i hi => by rw [HM2.out i hi]; exact iterz_lt _ (Nat.pow_lt_pow_right (a := 2) (n := 32) (by omega) hi)
          have HL := Lib.hid hMl
          clear hMl
          rcases Nat.mod_two_eq_zero_or_one q with hq | hq
          · have ho : ((q : Int) % 2 == 1) = false := by simp; omega
            have HTq : Hid (iter zeroN ((p + p) * (q / 2)) a' = iter zeroN n.toNat a) := by
              have := HT.out
              rw [show ((q : Int)).toNat = q from rfl] at this
              show _ = _
              rw [← this]; congr 1
              rw [← Nat.two_mul, Nat.mul_comm 2 p, Nat.mul_assoc]; congr 1; omega
            clear HT hq
            go_wp2_with fail
            try rw [show decide (0 < q) = true from decide_eq_true (by omega)]
            go_loopw [30] (fun i w3 => ∃ k : Nat, ∃ M2 : Nat → Nat, k ≤ 32 ∧ i = .int .i64 k ∧ (∀ j, j < k → M2 j = ofN M' (M' j) 32) ∧ Blk w3 wq.heap.size (rowL M2).toArray 38 ∧ Blk w3 w.heap.size (rowL M').toArray 38 ∧ Below w.heap.size w w3) (fun i _ => 32 - (intOf i).toNat)
            case atStart => exact ⟨0, _, by omega, rfl, fun _ h => by omega, Blk.new _ _ _, hB'.alloc _, hbel'.alloc hbel'.size _⟩
            case round =>
              obtain ⟨k, M2, hk2, rfl, hM2, hBn, hBo, hbl⟩ := hrel
              have HM3 := Lib.hid hM2
              clear hM2
              by_cases hlt : k < 32
              · have hcell : wr.cell? ⟨w.heap.size, k, none⟩ = some (.int .u32 ((M' k : Nat) : Int)) := (hBo.get.2.1 k).trans (rowA_get M' k hlt)
                have hrange : wr.rangeAt w.heap.size 0 (rowL M') := range_row hBo.raw
                obtain ⟨v2, hcell2⟩ : ∃ v, wr.cell? ⟨wq.heap.size, k, none⟩ = some v := ⟨_, (hBn.get.2.1 k).trans (rowA_get M2 k hlt)⟩
                have hfr2 := hBn.get.2.2 k
                have hun := Try.underlying38
                have hinf : (Try.prog.info? 38).map (·.size) = some (rowL M').length := by rw [rowL_len]; kernel_rfl
                have hki : (k : Int) < 32 := by omega
                have hMk : M' k < 4294967296 := HL.out k hlt
                go_wp2_with fail
                have hne : wq.heap.size ≠ w.heap.size := by have := hB'.lt; omega
                go_region_held3 (fun w' => w'.rangeAt w.heap.size 0 (rowL M') ∧ w'.cell? ⟨w.heap.size, k, none⟩ = some (.int .u32 ((M' k : Nat) : Int))) (first | (refine s2r_set ?_ hne; assumption) | (apply s2r_tr <;> assumption) | go_keep)
                  (first | (go_at_call 17; refine (of_any M' (M' k) _ hMk HL.out).mono ?_; rintro e w4 ⟨rfl, k4⟩; have hc4 : w4.cell? ⟨wq.heap.size, k, none⟩ = some v2 := cell_tr k4 hcell2; have hf4 : w4.frozen? ⟨wq.heap.size, k, none⟩ = false := (k4.frozen hBn.lt).trans hfr2))
                clear hun hinf
                go_wp2_with fail
                have hbl4 : Below w.heap.size w w4 := hbl.drew.trans (k4.mono hbl.size)
                have hR : ∃ k_1 : Nat, ∃ M3 : Nat → Nat, k_1 ≤ 32 ∧ Value.int .i64 ((k : Int) + 1) = .int .i64 k_1 ∧ (∀ j, j < k_1 → M3 j = ofN M' (M' j) 32) ∧
                    Blk (w4.setCell ⟨wq.heap.size, k, none⟩ (.int .u32 ((ofN M' (M' k) 32 : Nat) : Int))) wq.heap.size (rowL M3).toArray 38 ∧
                    Blk (w4.setCell ⟨wq.heap.size, k, none⟩ (.int .u32 ((ofN M' (M' k) 32 : Nat) : Int))) w.heap.size (rowL M').toArray 38 ∧
                    Below w.heap.size w (w4.setCell ⟨wq.heap.size, k, none⟩ (.int .u32 ((ofN M' (M' k) 32 : Nat) : Int))) := by
                  refine ⟨k + 1, putM M2 k (ofN M' (M' k) 32), by omega, by go_num, fun j hj => ?_, ?_, ((hBo.drew.tr k4).other hne.symm _), hbl4.setCell (by show w.heap.size ≤ wq.heap.size; have := hB'.lt; omega) _⟩
                  · unfold putM; split
                    · rename_i h; rw [h]
                    · exact HM3.out j (by omega)
                  · rw [← rowA_set M2 k _ hlt]; exact (hBn.drew.tr k4).set _ _
                exact ⟨hR, by simp [intOf]; omega⟩
              · obtain rfl : k = 32 := by omega
                rw [show ((32 : Nat) : Int) = 32 from rfl]
                clear hz
                go_wp2_with (first
                  | (refine wpList_load_row rfl 38 _ rfl wq.heap.size rfl 38 _ (0, 0) _ hBn.raw Try.underlying38 rfl noughts_info ?_)
                  | (refine wpList_store_row rfl 38 _ _ rfl w.heap.size (rowL M2).toArray rfl rfl 38 (rowL M').toArray hBo.raw noughts_info (by rw [rowA_size, rowA_size]) (rowA_one M2) ?_))
                refine ⟨⟨a', (q : Int) / 2, p + p, M2, rfl, slot_half HQ, by assumption, HQ, ?_, fun i hi => ?_, Blk.of (setRow_heap _ _ _ _ _ _ hBo.raw), below_row hbl⟩, ?_⟩
                · have := HTq.out
                  rw [show ((q : Int) / 2).toNat = q / 2 from by omega]; exact this
                · rw [HM3.out i hi, ofN_lin M' p (M' i) (HL.out i hi) HM2.out, HM2.out i hi, ← iter_add]
                · exact meas_half hpos HQ
          · have ho : ((q : Int) % 2 == 1) = true := by simp; omega
            have HTq : Hid (iter zeroN ((p + p) * (q / 2)) (ofN M' a' 32) = iter zeroN n.toNat a) := by
              have := HT.out
              rw [show ((q : Int)).toNat = q from rfl] at this
              show _ = _
              rw [← this, ofN_lin M' p a' ha' HM2.out, ← iter_add]; congr 1
              rw [← Nat.two_mul, Nat.mul_comm 2 p, Nat.mul_assoc, Nat.add_comm]
              rw [show p * (2 * (q / 2)) + p = p * (2 * (q / 2) + 1) from by rw [Nat.mul_add, Nat.mul_one]]; congr 1; omega
            clear HT hq
            go_wp2_with (refine wpList_load_row rfl 38 _ rfl w.heap.size rfl 38 _ (0, 0) _ HR.out Try.underlying38 rfl noughts_info ?_)
            refine (of_any M' a' _ ha' HL.out).mono ?_; rintro e w2 ⟨rfl, hb2⟩
            have hB2 := hB'.tr hb2
            have hbel2 := hbel'.trans (hb2.mono hbel'.size)
            have ha2 : ofN M' a' 32 < 4294967296 := ofN_lt M' a' 32 HL.out
            go_wp2_with fail
            generalize hqq : ofN M' a' 32 = a2 at *
            clear hqq
            try rw [show decide (0 < q) = true from decide_eq_true (by omega)]
            go_loopw [30] (fun i w3 => ∃ k : Nat, ∃ M2 : Nat → Nat, k ≤ 32 ∧ i = .int .i64 k ∧ (∀ j, j < k → M2 j = ofN M' (M' j) 32) ∧ Blk w3 w2.heap.size (rowL M2).toArray 38 ∧ Blk w3 w.heap.size (rowL M').toArray 38 ∧ Below w.heap.size w w3) (fun i _ => 32 - (intOf i).toNat)
            case atStart => exact ⟨0, _, by omega, rfl, fun _ h => by omega, Blk.new _ _ _, hB2.alloc _, hbel2.alloc hbel2.size _⟩
            case round =>
              obtain ⟨k, M2, hk2, rfl, hM2, hBn, hBo, hbl⟩ := hrel
              have HM3 := Lib.hid hM2
              clear hM2
              by_cases hlt : k < 32
              · have hcell : wr.cell? ⟨w.heap.size, k, none⟩ = some (.int .u32 ((M' k : Nat) : Int)) := (hBo.get.2.1 k).trans (rowA_get M' k hlt)
                have hrange : wr.rangeAt w.heap.size 0 (rowL M') := range_row hBo.raw
                obtain ⟨v2, hcell2⟩ : ∃ v, wr.cell? ⟨w2.heap.size, k, none⟩ = some v := ⟨_, (hBn.get.2.1 k).trans (rowA_get M2 k hlt)⟩
                have hfr2 := hBn.get.2.2 k
                have hun := Try.underlying38
                have hinf : (Try.prog.info? 38).map (·.size) = some (rowL M').length := by rw [rowL_len]; kernel_rfl
                have hki : (k : Int) < 32 := by omega
                have hMk : M' k < 4294967296 := HL.out k hlt
                go_wp2_with fail
                have hne : w2.heap.size ≠ w.heap.size := by have := hB2.lt; omega
                go_region_held3 (fun w' => w'.rangeAt w.heap.size 0 (rowL M') ∧ w'.cell? ⟨w.heap.size, k, none⟩ = some (.int .u32 ((M' k : Nat) : Int))) (first | (refine s2r_set ?_ hne; assumption) | (apply s2r_tr <;> assumption) | go_keep)
                  (first | (go_at_call 17; refine (of_any M' (M' k) _ hMk HL.out).mono ?_; rintro e w4 ⟨rfl, k4⟩; have hc4 : w4.cell? ⟨w2.heap.size, k, none⟩ = some v2 := cell_tr k4 hcell2; have hf4 : w4.frozen? ⟨w2.heap.size, k, none⟩ = false := (k4.frozen hBn.lt).trans hfr2))
                clear hun hinf
                go_wp2_with fail
                have hbl4 : Below w.heap.size w w4 := hbl.drew.trans (k4.mono hbl.size)
                have hR : ∃ k_1 : Nat, ∃ M3 : Nat → Nat, k_1 ≤ 32 ∧ Value.int .i64 ((k : Int) + 1) = .int .i64 k_1 ∧ (∀ j, j < k_1 → M3 j = ofN M' (M' j) 32) ∧
                    Blk (w4.setCell ⟨w2.heap.size, k, none⟩ (.int .u32 ((ofN M' (M' k) 32 : Nat) : Int))) w2.heap.size (rowL M3).toArray 38 ∧
                    Blk (w4.setCell ⟨w2.heap.size, k, none⟩ (.int .u32 ((ofN M' (M' k) 32 : Nat) : Int))) w.heap.size (rowL M').toArray 38 ∧
                    Below w.heap.size w (w4.setCell ⟨w2.heap.size, k, none⟩ (.int .u32 ((ofN M' (M' k) 32 : Nat) : Int))) := by
                  refine ⟨k + 1, putM M2 k (ofN M' (M' k) 32), by omega, by go_num, fun j hj => ?_, ?_, ((hBo.drew.tr k4).other hne.symm _), hbl4.setCell (by show w.heap.size ≤ w2.heap.size; have := hB2.lt; omega) _⟩
                  · unfold putM; split
                    · rename_i h; rw [h]
                    · exact HM3.out j (by omega)
                  · rw [← rowA_set M2 k _ hlt]; exact (hBn.drew.tr k4).set _ _
                exact ⟨hR, by simp [intOf]; omega⟩
              · obtain rfl : k = 32 := by omega
                rw [show ((32 : Nat) : Int) = 32 from rfl]
                clear hz
                go_wp2_with (first
                  | (refine wpList_load_row rfl 38 _ rfl w2.heap.size rfl 38 _ (0, 0) _ hBn.raw Try.underlying38 rfl noughts_info ?_)
                  | (refine wpList_store_row rfl 38 _ _ rfl w.heap.size (rowL M2).toArray rfl rfl 38 (rowL M').toArray hBo.raw noughts_info (by rw [rowA_size, rowA_size]) (rowA_one M2) ?_))
                refine ⟨⟨a2, (q : Int) / 2, p + p, M2, rfl, slot_half HQ, by assumption, HQ, ?_, fun i hi => ?_, Blk.of (setRow_heap _ _ _ _ _ _ hBo.raw), below_row hbl⟩, ?_⟩
                · have := HTq.out
                  rw [show ((q : Int) / 2).toNat = q / 2 from by omega]; exact this
                · rw [HM3.out i hi, ofN_lin M' p (M' i) (HL.out i hi) HM2.out, HM2.out i hi, ← iter_add]
                · exact meas_half hpos HQ
        · have hm0 : m.toNat = 0 := by omega
          have hd : combineN a b n.toNat = a' ^^^ b := by
            unfold combineN; rw [← HT.out, hm0]; simp [iter]
          have hx := u32_xor_nat a' b ha' hb
          have HD := Lib.hid hd
          clear hd hm0
          go_wp2_with fail
          go_ret
          refine ⟨?_, hbel'⟩
          rw [HD.out]; rfl
end Go.Proofs.Yteebihhpmohceaa.cw
