/- HeaderForms: the walk. No conditions. -/
import Derived.Test.YtnhpjlgmkfbojaaHd
namespace Go.Proofs.Ytnhpjlgmkfbojaa.hd
open Go.RowKit
set_option linter.unusedVariables false
set_option linter.unusedSimpArgs false
def SixU (cs : Array Value) : Prop := ∀ k, k < 6 → ∃ x : Int, cs[k]? = some (.int .u64 x) ∧ 0 ≤ x ∧ x < 18446744073709551616
theorem six_mk {a b c d e f : Int} (h : 0 ≤ a ∧ a < 18446744073709551616) (h1 : 0 ≤ b ∧ b < 18446744073709551616) (h2 : 0 ≤ c ∧ c < 18446744073709551616) (h3 : 0 ≤ d ∧ d < 18446744073709551616) (h4 : 0 ≤ e ∧ e < 18446744073709551616) (h5 : 0 ≤ f ∧ f < 18446744073709551616) :
    SixU #[.int .u64 a, .int .u64 b, .int .u64 c, .int .u64 d, .int .u64 e, .int .u64 f] := by
  intro k hk
  rcases k with _ | _ | _ | _ | _ | _ | k
  · exact ⟨a, rfl, h⟩
  · exact ⟨b, rfl, h1⟩
  · exact ⟨c, rfl, h2⟩
  · exact ⟨d, rfl, h3⟩
  · exact ⟨e, rfl, h4⟩
  · exact ⟨f, rfl, h5⟩
  · omega
theorem forms_cases (y : Int) (h1 : 0 ≤ y) (h2 : y < 18446744073709551616) :
    (∃ s p : Int, y = 2 * s + 131072 * p ∧ (0 ≤ s ∧ s ≤ 255 ∧ 0 ≤ p ∧ p ≤ s) ∧ unS y = s ∧ unP y = p ∧ unE y = 0 ∧ adV y = 0 ∧ adE y = if y = 0 then 6 else 3) ∨
    (¬ y = 0 ∧ unS y = 0 ∧ unP y = 0 ∧ unE y = 3 ∧ adV y = 0 ∧ adE y = 3) ∨
    (∃ a : Int, y = 2 * a + 1 ∧ (1 ≤ a ∧ a ≤ 9223372036854775807) ∧ unS y = 0 ∧ unP y = 0 ∧ unE y = 3 ∧ adV y = a ∧ adE y = 0) := by
  rcases hu : unOk y with _ | _
  · have h0 : ¬ y = 0 := by rintro rfl; simp [unOk, rightB] at hu
    by_cases h3 : y % 2 = 0 ∨ y = 1
    · exact .inr (.inl ⟨h0, by simp [unS, hu], by simp [unP, hu], by simp [unE, hu], by simp [adV, h3], by simp [adE, h0, h3]⟩)
    · exact .inr (.inr ⟨y / 2, by omega, by omega, by simp [unS, hu], by simp [unP, hu], by simp [unE, hu], by unfold adV; rw [if_neg h3], by unfold adE; rw [if_neg h0, if_neg h3]⟩)
  · have h4 := hu
    simp only [unOk, rightB, Bool.and_eq_true, decide_eq_true_eq] at h4
    refine .inl ⟨y / 2 % 65536, y / 131072, by omega, by omega, by simp [unS, hu], by simp [unP, hu], by simp [unE, hu], by simp [adV, h4.1], ?_⟩
    unfold adE; by_cases h0 : y = 0
    · simp [h0]
    · rw [if_neg h0, if_neg h0, if_pos (.inl h4.1)]
theorem ref_no (w : World) :
    Calls Try.prog 17 #[.int .u64 0] w fun e w' => e = .returned (.tuple #[.int .u64 0, .int .i64 1]) ∧ w = w' :=
  (ref_any 0 w (by omega) (by omega)).mono fun e w' ⟨h1, h2⟩ => ⟨by rw [h1]; simp [refV, refE, refOk], h2⟩
set_option maxHeartbeats 1000000 in
set_option maxRecDepth 100000 in
theorem forms_walk (x : Int) (w : World) (hx : 0 ≤ x ∧ x < 18446744073709551616) :
    Calls Try.prog 5 #[.int .u64 x] w fun e w' => e = .returned (.bool true) ∧ Below w.heap.size w w' := by
  obtain ⟨p, hp, hp1, hp2⟩ : ∃ p, bits .or .u64 x 1 = p ∧ 0 ≤ p ∧ p < 18446744073709551616 := ⟨_, or1_u64 x (by omega) (by omega), by omega, by omega⟩
  have S6 : SixU #[.int .u64 x, .int .u64 (x % 33554432), .int .u64 (x % 512), .int .u64 0, .int .u64 1, .int .u64 p] := six_mk hx (by omega) (by omega) (by omega) (by omega) (by omega)
  go_enter Try.func5, Try.ntmps5
  go_wp2_with fail
  refine (awake_any _).mono ?_; rintro e w1 ⟨rfl, k1⟩
  obtain ⟨k1c, k1f⟩ := bcell k1
  have k1z := k1.size
  go_wp2_with fail
  generalize hC : #[Value.int .u64 x, .int .u64 (x % 33554432), .int .u64 (x % 512), .int .u64 0, .int .u64 1, .int .u64 p] = C at *
  clear hp hC k1c k1f
  go_loopw [24] (fun i wr => ∃ k : Nat, k ≤ 6 ∧ i = .int .i64 k ∧ Blk wr w1.heap.size C 24 ∧ Below w.heap.size w wr) (fun i _ => 6 - (intOf i).toNat)
  case atStart => exact ⟨0, by omega, rfl, Blk.new _ _ _, by (repeat (first | exact Below.refl _ _ | refine kp_alloc ?_ _ | refine kp_drew ?_ | refine kp_set ?_ (by first | (simp; done) | (simp; omega) | omega) _ | refine kp_tr ?_ (by with_reducible assumption)))⟩
  case round =>
    obtain ⟨k, hk, rfl, Kc, hB⟩ := hrel
    by_cases hlt : k < 6
    · obtain ⟨y, hy, hy1, hy2⟩ := S6 k hlt
      obtain ⟨lc, cc, fc⟩ := Kc.get
      have hcell : wr.cell? ⟨w1.heap.size, k, none⟩ = some (.int .u64 y) := by rw [cc, hy]
      have HY := Lib.hid hy
      clear cc fc hy
      rcases forms_cases y hy1 hy2 with ⟨s, p, rfl, hsp, e1, e2, e3, e4, e5⟩ | ⟨h0, e1, e2, e3, e4, e5⟩ | ⟨a, rfl, ha, e1, e2, e3, e4, e5⟩
      · clear e1 e2 e3
        have hr := rightB_mk hsp
        go_wp2_with fail
        refine (unpack_ok _ _ _ hsp).mono ?_; rintro e w2 ⟨rfl, k2⟩
        obtain ⟨k2c, k2f⟩ := bcell k2
        have k2z := k2.size
        by_cases h0 : 2 * s + 131072 * p = 0
        · obtain ⟨rfl, rfl⟩ : s = 0 ∧ p = 0 := by omega
          clear h0
          simp at e4 e5
          go_wp2_with fail
          refine (addr_any _ _ (by omega) (by omega)).mono ?_; rintro e ww ⟨rfl, rfl⟩
          have Ks : Blk _ w2.heap.size #[.int .i64 0, .int .i64 0] 23 := Blk.new w2 _ _
          go_wp2_with fail
          refine (pack_ok _ _ _ (by omega)).mono ?_; rintro e w3 ⟨rfl, k3⟩
          obtain ⟨k3c, k3f⟩ := bcell k3
          have k3z := k3.size
          replace Ks := Ks.tr k3
          obtain ⟨ls, cs, fs⟩ := Ks.get
          clear k3c k3f k2c k2f
          go_wp2_with fail
          refine (ref_no _).mono ?_; rintro e ww ⟨rfl, rfl⟩
          go_wp2_with fail
          refine (right_any _ _ _).mono ?_; rintro e w4 ⟨rfl, k4⟩
          clear e4 e5
          go_wp2_with fail
          refine ⟨⟨k + 1, by omega, by go_num, ((((Kc.tr k2).alloc _).tr k3).tr k4), by (repeat (first | exact Below.refl _ _ | refine kp_alloc ?_ _ | refine kp_drew ?_ | refine kp_set ?_ (by first | (simp; done) | (simp; omega) | omega) _ | refine kp_tr ?_ (by with_reducible assumption)))⟩, by simp [intOf]; omega⟩
        · rw [if_neg h0] at e5
          have h0' : (2 * s + 131072 * p == 0) = false := by simp; omega
          go_wp2_with fail
          refine (addr_any _ _ (by omega) (by omega)).mono ?_; rintro e ww ⟨rfl, rfl⟩
          have Ks : Blk _ w2.heap.size #[.int .i64 s, .int .i64 p] 23 := Blk.new w2 _ _
          go_wp2_with fail
          refine (pack_ok _ _ _ (by omega)).mono ?_; rintro e w3 ⟨rfl, k3⟩
          obtain ⟨k3c, k3f⟩ := bcell k3
          have k3z := k3.size
          replace Ks := Ks.tr k3
          obtain ⟨ls, cs, fs⟩ := Ks.get
          clear k3c k3f k2c k2f
          go_wp2_with fail
          refine (ref_no _).mono ?_; rintro e ww ⟨rfl, rfl⟩
          go_wp2_with fail
          refine (right_any _ _ _).mono ?_; rintro e w4 ⟨rfl, k4⟩
          clear e4 e5
          go_wp2_with fail
          refine ⟨⟨k + 1, by omega, by go_num, ((((Kc.tr k2).alloc _).tr k3).tr k4), by (repeat (first | exact Below.refl _ _ | refine kp_alloc ?_ _ | refine kp_drew ?_ | refine kp_set ?_ (by first | (simp; done) | (simp; omega) | omega) _ | refine kp_tr ?_ (by with_reducible assumption)))⟩, by simp [intOf]; omega⟩
      · go_wp2_with fail
        refine (unpack_any _ _ (by omega) (by omega)).mono ?_; rintro e w2 ⟨rfl, k2⟩
        obtain ⟨k2c, k2f⟩ := bcell k2
        have k2z := k2.size
        go_wp2_with fail
        refine (addr_any _ _ (by omega) (by omega)).mono ?_; rintro e ww ⟨rfl, rfl⟩
        have Ks : Blk _ w2.heap.size #[.int .i64 0, .int .i64 0] 23 := Blk.new w2 _ _
        go_wp2_with fail
        refine (pack_ok _ _ _ (by omega)).mono ?_; rintro e w3 ⟨rfl, k3⟩
        obtain ⟨k3c, k3f⟩ := bcell k3
        have k3z := k3.size
        go_wp2_with fail
        refine (ref_no _).mono ?_; rintro e ww ⟨rfl, rfl⟩
        clear e1 e2 e3 e4 e5
        go_wp2_with fail
        refine ⟨⟨k + 1, by omega, by go_num, (((Kc.tr k2).alloc _).tr k3), by (repeat (first | exact Below.refl _ _ | refine kp_alloc ?_ _ | refine kp_drew ?_ | refine kp_set ?_ (by first | (simp; done) | (simp; omega) | omega) _ | refine kp_tr ?_ (by with_reducible assumption)))⟩, by simp [intOf]; omega⟩
      · go_wp2_with fail
        refine (unpack_any _ _ (by omega) (by omega)).mono ?_; rintro e w2 ⟨rfl, k2⟩
        obtain ⟨k2c, k2f⟩ := bcell k2
        have k2z := k2.size
        go_wp2_with fail
        refine (addr_any _ _ (by omega) (by omega)).mono ?_; rintro e ww ⟨rfl, rfl⟩
        have Ks : Blk _ w2.heap.size #[.int .i64 0, .int .i64 0] 23 := Blk.new w2 _ _
        go_wp2_with fail
        refine (pack_ok _ _ _ (by omega)).mono ?_; rintro e w3 ⟨rfl, k3⟩
        obtain ⟨k3c, k3f⟩ := bcell k3
        have k3z := k3.size
        go_wp2_with fail
        refine (ref_ok _ _ ha).mono ?_; rintro e ww ⟨rfl, rfl⟩
        clear e1 e2 e3 e4 e5
        go_wp2_with fail
        refine ⟨⟨k + 1, by omega, by go_num, (((Kc.tr k2).alloc _).tr k3), by (repeat (first | exact Below.refl _ _ | refine kp_alloc ?_ _ | refine kp_drew ?_ | refine kp_set ?_ (by first | (simp; done) | (simp; omega) | omega) _ | refine kp_tr ?_ (by with_reducible assumption)))⟩, by simp [intOf]; omega⟩
    · go_wp2_with fail
      go_ret
      exact retB rfl hB
end Go.Proofs.Ytnhpjlgmkfbojaa.hd
