/- HeaderTells: the walk. No conditions. -/
import Derived.Test.YtnhpjlgmkfbojaaHd
import Derived.Deep.RegionHeld3
namespace Go.Proofs.Ytnhpjlgmkfbojaa.hd
open Go.RowKit
set_option linter.unusedVariables false
set_option linter.unusedSimpArgs false
def FourU (cs : Array Value) : Prop := ∀ k, k < 4 → ∃ x : Int, cs[k]? = some (.int .u64 x) ∧ 0 ≤ x ∧ x < 18446744073709551616
theorem four_mk {a b c d : Int} (h : 0 ≤ a ∧ a < 18446744073709551616) (h1 : 0 ≤ b ∧ b < 18446744073709551616) (h2 : 0 ≤ c ∧ c < 18446744073709551616) (h3 : 0 ≤ d ∧ d < 18446744073709551616) :
    FourU #[.int .u64 a, .int .u64 b, .int .u64 c, .int .u64 d] := by
  intro k hk
  rcases k with _ | _ | _ | _ | k
  · exact ⟨a, rfl, h⟩
  · exact ⟨b, rfl, h1⟩
  · exact ⟨c, rfl, h2⟩
  · exact ⟨d, rfl, h3⟩
  · omega
set_option maxHeartbeats 1000000 in
set_option maxRecDepth 100000 in
theorem tells_walk (a0 a1 v u : Int) (w : World) (ha0 : -9223372036854775808 ≤ a0 ∧ a0 < 9223372036854775808) (ha1 : -9223372036854775808 ≤ a1 ∧ a1 < 9223372036854775808)
    (hv : 0 ≤ v ∧ v < 18446744073709551616) (hu : 0 ≤ u ∧ u < 18446744073709551616) :
    Calls Try.prog 3 #[.agg #[.int .i64 a0, .int .i64 a1], .int .u64 v, .int .u64 u] w fun e w' => e = .returned (.bool true) ∧ Below w.heap.size w w' := by
  go_enter Try.func3, Try.ntmps3
  go_wp2_with fail
  refine (awake_any _).mono ?_; rintro e w1 ⟨rfl, k1⟩
  obtain ⟨k1c, k1f⟩ := bcell k1
  have k1z := k1.size
  have Ka : Blk w1 w.heap.size #[.int .i64 a0, .int .i64 a1] 23 := (Blk.mk rfl).tr k1
  obtain ⟨la, ca, fa⟩ := Ka.get
  go_wp2_with fail
  have tok1 : True := trivial
  go_region_held3 (fun w' => w'.cell? ⟨w.heap.size, 0, none⟩ = some (.int .i64 a0) ∧ w'.cell? ⟨w.heap.size, 1, none⟩ = some (.int .i64 a1)) (go_keep)
    (first
      | (have _t := tok1; go_at_call 10; refine (pick_ex _ _ _ (by omega) (by omega) (by omega) (by omega)).mono ?_; rintro e ww ⟨⟨b0, b0g, b0l, rfl⟩, rfl⟩; clear tok1)
      | (go_at_call 10; refine (pick_ex _ _ _ (by omega) (by omega) (by omega) (by omega)).mono ?_; rintro e ww ⟨⟨b1, b1g, b1l, rfl⟩, rfl⟩))
  go_wp2_with fail
  go_loopw [39] (fun i wr => ∃ k : Nat, k ≤ 2 ∧ i = .int .i64 k ∧ Blk wr w1.heap.size #[.int .i64 a0, .int .i64 a1, .int .i64 b0, .int .i64 b1] 23 ∧ Below w.heap.size w wr) (fun i _ => 2 - (intOf i).toNat)
  case atStart => exact ⟨0, by omega, rfl, by (repeat (first | with_reducible assumption | exact Blk.mk rfl | exact Blk.mk (by simp) | refine Blk.drew ?_ | refine Blk.alloc ?_ _ | refine Blk.tr ?_ (by with_reducible assumption))), by (repeat (first | exact Below.refl _ _ | refine kp_alloc ?_ _ | refine kp_drew ?_ | refine kp_set ?_ (by first | (simp; done) | (simp; omega) | omega) _ | refine kp_tr ?_ (by with_reducible assumption)))⟩
  case round =>
    obtain ⟨k, hk, rfl, Kc, hB⟩ := hrel
    clear k1c k1f ca fa
    by_cases hlt : k < 2
    · have ⟨x0, x1, h0, h1⟩ : ∃ x0 x1 : Int, wr.cell? ⟨w1.heap.size, k * 2, none⟩ = some (.int .i64 x0) ∧ wr.cell? ⟨w1.heap.size, k * 2 + 1, none⟩ = some (.int .i64 x1) := by
        obtain ⟨lc, cc, fc⟩ := Kc.get
        rcases k with _ | _ | k
        · exact ⟨a0, a1, cc 0, cc 1⟩
        · exact ⟨b0, b1, cc 2, cc 3⟩
        · omega
      go_wp2_with fail
      refine (pack_any _ _ _).mono ?_; rintro e w2 ⟨rfl, k2⟩
      obtain ⟨k2c, k2f⟩ := bcell k2
      have k2z := k2.size
      have Kx : Blk w2 wr.heap.size #[.int .i64 x0, .int .i64 x1] 23 := Blk.tr (by (repeat (first | with_reducible assumption | exact Blk.mk rfl | exact Blk.mk (by simp) | refine Blk.drew ?_ | refine Blk.alloc ?_ _ | refine Blk.tr ?_ (by with_reducible assumption)))) k2
      obtain ⟨lx, cx, fx⟩ := Kx.get
      clear k2c k2f h0 h1
      go_wp2_with fail
      refine (packref_any _ _ _).mono ?_; rintro e w3 ⟨rfl, k3⟩
      obtain ⟨k3c, k3f⟩ := bcell k3
      have k3z := k3.size
      replace Kx := Kx.tr k3
      obtain ⟨lx, cx, fx⟩ := Kx.get
      clear k3c k3f
      have g0 : (packV x0 x1 != packV x0 x1) = false := by simp
      have g1 : (packE x0 x1 != packE x0 x1) = false := by simp
      go_wp2_with fail
      go_region_held3 (fun w' => w'.cell? ⟨wr.heap.size, 0, none⟩ = some (.int .i64 x0) ∧ w'.cell? ⟨wr.heap.size, 1, none⟩ = some (.int .i64 x1)) (first | go_keep | (exact s2_tr (by assumption) (by assumption)))
        (first
          | (go_at_call 13; refine (right_any _ _ _).mono ?_; rintro e w4 ⟨rfl, k4⟩)
          | (go_at_call 14; refine (rrref_any _ _ _).mono ?_; rintro e w5 ⟨rfl, k5⟩))
      go_wp2_with fail
      exact ⟨⟨k + 1, by omega, by go_num, by (repeat (first | with_reducible assumption | exact Blk.mk rfl | exact Blk.mk (by simp) | refine Blk.drew ?_ | refine Blk.alloc ?_ _ | refine Blk.tr ?_ (by with_reducible assumption))), by (repeat (first | exact Below.refl _ _ | refine kp_alloc ?_ _ | refine kp_drew ?_ | refine kp_set ?_ (by first | (simp; done) | (simp; omega) | omega) _ | refine kp_tr ?_ (by with_reducible assumption)))⟩, by simp [intOf]; omega⟩
    · have C4 : FourU #[.int .u64 v, .int .u64 u, .int .u64 (u % 33554432), .int .u64 (v % 131072)] := four_mk hv hu (by omega) (by omega)
      clear Kc
      go_wp2_with fail
      obtain ⟨wo, rfl⟩ : ∃ wo : World, wo = wr := ⟨_, rfl⟩
      generalize hC : #[Value.int .u64 v, .int .u64 u, .int .u64 (u % 33554432), .int .u64 (v % 131072)] = C at *
      clear hC
      go_loopw [77] (fun i wr => ∃ k : Nat, k ≤ 4 ∧ i = .int .i64 k ∧ Blk wr wo.heap.size C 24 ∧ Below w.heap.size w wr) (fun i _ => 4 - (intOf i).toNat)
      case atStart => exact ⟨0, by omega, rfl, by (repeat (first | with_reducible assumption | exact Blk.mk rfl | exact Blk.mk (by simp) | refine Blk.drew ?_ | refine Blk.alloc ?_ _ | refine Blk.tr ?_ (by with_reducible assumption))), by (repeat (first | exact Below.refl _ _ | refine kp_alloc ?_ _ | refine kp_drew ?_ | refine kp_set ?_ (by first | (simp; done) | (simp; omega) | omega) _ | refine kp_tr ?_ (by with_reducible assumption)))⟩
      case round =>
        obtain ⟨j, hj, rfl, Kc, hB2⟩ := hrel
        by_cases hjl : j < 4
        · obtain ⟨y, hy, hy1, hy2⟩ := C4 j hjl
          obtain ⟨lc, cc, fc⟩ := Kc.get
          have hcell : wr.cell? ⟨wo.heap.size, j, none⟩ = some (.int .u64 y) := by rw [cc, hy]
          clear cc fc hy
          go_wp2_with fail
          refine (unpack_any _ _ (by omega) (by omega)).mono ?_; rintro e w2 ⟨rfl, k2⟩
          obtain ⟨k2c, k2f⟩ := bcell k2
          have k2z := k2.size
          go_wp2_with fail
          refine (unpackref_any _ _ (by omega) (by omega)).mono ?_; rintro e w3 ⟨rfl, k3⟩
          obtain ⟨k3c, k3f⟩ := bcell k3
          have k3z := k3.size
          have Kx : Blk w3 w2.heap.size #[.int .i64 (unS y), .int .i64 (unP y)] 23 := Blk.tr (by (repeat (first | with_reducible assumption | exact Blk.mk rfl | exact Blk.mk (by simp) | refine Blk.drew ?_ | refine Blk.alloc ?_ _ | refine Blk.tr ?_ (by with_reducible assumption)))) k3
          obtain ⟨lx, cx, fx⟩ := Kx.get
          clear k2c k2f k3c k3f hcell
          go_wp2_with fail
          refine (ref_any _ _ (by omega) (by omega)).mono ?_; rintro e ww ⟨rfl, rfl⟩
          go_wp2_with fail
          refine (refref_any _ _ (by omega) (by omega)).mono ?_; rintro e ww ⟨rfl, rfl⟩
          go_wp2_with fail
          refine (addr_any _ _ (by omega) (by omega)).mono ?_; rintro e ww ⟨rfl, rfl⟩
          go_wp2_with fail
          refine (addrref_any _ _ (by omega) (by omega)).mono ?_; rintro e ww ⟨rfl, rfl⟩
          go_wp2_with fail
          exact ⟨⟨j + 1, by omega, by go_num, by (repeat (first | with_reducible assumption | exact Blk.mk rfl | exact Blk.mk (by simp) | refine Blk.drew ?_ | refine Blk.alloc ?_ _ | refine Blk.tr ?_ (by with_reducible assumption))), by (repeat (first | exact Below.refl _ _ | refine kp_alloc ?_ _ | refine kp_drew ?_ | refine kp_set ?_ (by first | (simp; done) | (simp; omega) | omega) _ | refine kp_tr ?_ (by with_reducible assumption)))⟩, by simp [intOf]; omega⟩
        · go_wp2_with fail
          go_ret
          exact retB rfl hB2
end Go.Proofs.Ytnhpjlgmkfbojaa.hd
