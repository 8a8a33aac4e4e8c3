/- The reference of layer 6: Lay. No conditions. -/
import Derived.Test.YtiboinckdjiniaaRa
import Derived.Test.YtiboinckdjiniaaSz
namespace Go.Proofs.Ytiboinckdjiniaa.ob
open Go.RowKit Go.Proofs.Ytiboinckdjiniaa.hd
set_option linter.unusedVariables false
set_option linter.unusedSimpArgs false
set_option maxHeartbeats 2000000 in
theorem layref_any (s p : Int) (u : Value) (ys : List Int) (w : World) (hu : NumsIn w u ys) (hz : Small ys) (h1 : -9223372036854775808 ≤ s ∧ s < 9223372036854775808) (h2 : -9223372036854775808 ≤ p ∧ p < 9223372036854775808) :
    Calls Try.prog 21 #[.agg #[.int .i64 s, .int .i64 p], u] w fun e w' => LayPost w.heap.size s p ys e w' ∧ Below w.heap.size w w' := by
  have HU := Lib.hid hu
  obtain ⟨ad, b, off, cap, rfl, ⟨a1, a2⟩, a3, a4, a5, a6⟩ := hu
  have HA := Lib.hid a1
  have HC := Lib.hid a6
  have HZ := Lib.hid hz
  clear a1 a2 a6 hz
  rcases hr : rightB s p with _ | _
  · have hE := packE_no hr
    go_enter Try.func21, Try.ntmps21
    go_wp2_with fail
    refine (packref_any s p _).mono ?_; rintro e w1 ⟨rfl, k1⟩
    rw [hE]
    go_wp2_with fail
    go_ret2
    exact ⟨.inl ⟨fun q => (by have := q.1; rw [hr] at this; cases this), rfl⟩, by (repeat (first | with_reducible exact Below.refl _ _ | with_reducible refine kp_alloc ?_ _ | with_reducible refine kp_drew ?_ | with_reducible refine kp_set ?_ (by first | omega | (simp; done) | (simp; omega)) _ | with_reducible refine kp_tr ?_ (by with_reducible assumption)))⟩
  · have hE := packE_ok hr
    obtain ⟨r1, r2, r3, r4⟩ := rightB_t hr
    obtain ⟨P, rfl⟩ := Int.eq_ofNat_of_zero_le r3
    by_cases hl : (ys.length : Int) = s
    · subst hl
      have HOK : Hid (layOk (ys.length : Int) P ys) := ⟨hr, rfl⟩
      generalize hn : ys.length = n at *
      have HN := Lib.hid hn
      clear hn hr
      go_enter Try.func21, Try.ntmps21
      go_wp2_with fail
      refine (packref_any n P _).mono ?_; rintro e w1 ⟨rfl, k1⟩
      rw [hE]
      have Ks : Blk w1 w.heap.size #[.int .i64 n, .int .i64 P] 28 := Blk.tr (by (repeat (first | with_reducible assumption | exact Blk.mk rfl | exact Blk.mk (by simp) | refine Blk.drew ?_ | refine Blk.alloc ?_ _ | refine Blk.tr ?_ (by with_reducible assumption)))) k1
      obtain ⟨ls, cs, fs⟩ := Ks.get
      have HB1 : Below w.heap.size w w1 := by (repeat (first | with_reducible exact Below.refl _ _ | with_reducible refine kp_alloc ?_ _ | with_reducible refine kp_drew ?_ | with_reducible refine kp_set ?_ (by first | omega | (simp; done) | (simp; omega)) _ | with_reducible refine kp_tr ?_ (by with_reducible assumption)))
      go_wp2_with fail
      go_loopw [8] (fun i wr => ∃ k : Nat, k ≤ P ∧ i = .int .i64 k ∧ Hid (ptrsOk ys k) ∧ wr = w1) (fun i _ => P - (intOf i).toNat)
      case atStart => exact ⟨0, Nat.zero_le _, rfl, fun i hi => by omega, rfl⟩
      case round =>
        obtain ⟨k, hk, rfl, hok, rfl⟩ := hrel
        by_cases hlk : k < P
        · obtain rfl := HA.out (by omega)
          have hxk := (HC.out.block (HB1.block b a5)).at k (by omega)
          have hzk := HZ.out k
          have HG := Lib.hid (ptrsOk_succ (ys := ys) hok.out)
          have HX := Lib.hid (ptrsOk_bad (ys := ys) (n := P) hlk)
          generalize ys.getD k 0 = x at *
          go_wp2_with fail
          refine (ptrref_any x _ hzk.1 hzk.2).mono ?_; rintro e ww ⟨rfl, rfl⟩
          rcases hpb : ptrB x with _ | _
          · go_wp2_with fail
            go_ret2
            exact ⟨.inr (.inl ⟨HOK.out, by simpa using HX.out hpb, rfl⟩), HB1⟩
          · go_wp2_with fail
            exact ⟨⟨k + 1, by omega, by go_num, HG.out (by trivial), by trivial⟩, by simp [intOf]; omega⟩
        · obtain rfl : k = P := by omega
          have HS := Lib.hid (HU.out.tr HB1)
          have HB := Lib.hid HB1
          have hws := HB1.size
          clear HB1
          go_wp2_with (at_builtin; refine app_OwnNums _ rfl _ _ rfl wr.heap.size (.slice (some ⟨wr.heap.size, 0, none⟩) 1 1) (.slice ad n cap) [packV n k] ys rfl rfl (own_one _ _) ?c0 ?c1 (by simp) ?c2)
          case c0 => exact HS.out.alloc _
          case c1 => have := HN.out; simp; omega
          case c2 =>
          intro v' w2 ho hg hat
          go_wp2_with fail
          go_ret2
          refine ⟨.inr (.inr ⟨HOK.out, by simpa using hok.out, v', rfl, ho.lift hws⟩), ?_⟩
          have := HB.out
          exact ⟨hg.os.trans this.os, hg.tape.trans this.tape, hg.output.trans this.output, Nat.le_trans this.size (Nat.le_trans (by simp) hg.size), fun j hj => (hg.block j (by simp; omega) (by simp [Value.ownBlock]; omega)).trans ((Below.heap_alloc _ _ _ (by omega)).trans (this.block j hj))⟩
    · have HOK : Hid (¬ layOk s P ys) := fun q => hl q.2
      have hbq : (((ys.length : Nat) : Int) == s) = false := beq_eq_false_iff_ne.mpr hl
      generalize ys.length = n at *
      clear hl hr
      go_enter Try.func21, Try.ntmps21
      go_wp2_with fail
      refine (packref_any s P _).mono ?_; rintro e w1 ⟨rfl, k1⟩
      rw [hE]
      have Ks : Blk w1 w.heap.size #[.int .i64 s, .int .i64 P] 28 := Blk.tr (by (repeat (first | with_reducible assumption | exact Blk.mk rfl | exact Blk.mk (by simp) | refine Blk.drew ?_ | refine Blk.alloc ?_ _ | refine Blk.tr ?_ (by with_reducible assumption)))) k1
      obtain ⟨ls, cs, fs⟩ := Ks.get
      have HB1 : Below w.heap.size w w1 := by (repeat (first | with_reducible exact Below.refl _ _ | with_reducible refine kp_alloc ?_ _ | with_reducible refine kp_drew ?_ | with_reducible refine kp_set ?_ (by first | omega | (simp; done) | (simp; omega)) _ | with_reducible refine kp_tr ?_ (by with_reducible assumption)))
      go_wp2_with fail
      go_ret2
      exact ⟨.inl ⟨HOK.out, rfl⟩, HB1⟩
end Go.Proofs.Ytiboinckdjiniaa.ob
