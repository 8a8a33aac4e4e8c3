/- The reference of layer 6: small functions. No conditions. -/
import Derived.Test.YtiboinckdjiniaaOo
namespace Go.Proofs.Ytiboinckdjiniaa.ob
open Go.RowKit Go.Proofs.Ytiboinckdjiniaa.hd
set_option linter.unusedVariables false
set_option linter.unusedSimpArgs false
theorem ptrref_any (x : Int) (w : World) (h1 : 0 ≤ x) (h2 : x < 18446744073709551616) :
    Calls Try.prog 34 #[.int .u64 x] w fun e w' => e = .returned (.bool (ptrB x)) ∧ w = w' := by
  have HP := Lib.hid (ptrB_eq x)
  go_enter Try.func34, Try.ntmps34
  go_wp2_with fail
  refine (addrref_any x _ h1 h2).mono ?_; rintro e ww ⟨rfl, rfl⟩
  generalize adE x = E at *
  go_wp2_with fail
  all_goals go_ret
  all_goals (refine ⟨?_, rfl⟩; rw [HP.out]; simp_all; try rw [Bool.eq_iff_iff]; try simp_all)
def rowOk (o : Ob) (ys : List Int) (k : Nat) : Prop := ∀ i, i < k → slotOk o i (ys.getD i 0) = true
theorem rowOk_succ {o : Ob} {ys : List Int} {k : Nat} (h : rowOk o ys k) : slotOk o k (ys.getD k 0) = true → rowOk o ys (k + 1) := fun g i hi => by
  by_cases e : i < k
  · exact h i e
  · obtain rfl : i = k := by omega
    exact g
theorem rowOk_bad {o : Ob} {ys : List Int} {k n : Nat} (h : k < n) : slotOk o k (ys.getD k 0) = false → ¬ rowOk o ys n := fun g q => by
  have := q k h; rw [g] at this; cases this
def SlotsPost (o : Ob) (ys : List Int) (S : Nat) (e : Ending) : Prop := (rowOk o ys S ∧ e = .returned (.int .i64 0)) ∨ (¬ rowOk o ys S ∧ e = .returned (.int .i64 3))
set_option maxHeartbeats 2000000 in
theorem slots_any (b off S c : Nat) (ad : Option Addr) (o : Ob) (ys : List Int) (w : World) (hS : S < 1000000000000) (had : 0 < S → ad = some ⟨b, off, none⟩) (hx : WordsAt w b off S ys) (hz : ∀ i, 0 ≤ ys.getD i 0 ∧ ys.getD i 0 < 18446744073709551616) :
    Calls Try.prog 39 #[.slice ad S c, oV o] w fun e w' => SlotsPost o ys S e ∧ Below w.heap.size w w' := by
  obtain ⟨p0, s, p, g, t⟩ := o
  have HX := Lib.hid hx
  have HZ := Lib.hid hz
  have HA := Lib.hid had
  clear hx hz had
  unfold oV
  go_enter Try.func39, Try.ntmps39
  go_wp2_with fail
  go_loop [5] (fun i => ∃ k : Nat, k ≤ S ∧ i = .int .i64 k ∧ Hid (rowOk ⟨p0, s, p, g, t⟩ ys k)) (fun i => S - (intOf i).toNat)
  case atStart => exact ⟨0, Nat.zero_le _, rfl, fun i hi => by omega⟩
  case round =>
    obtain ⟨k, hk, rfl, hok⟩ := hrel
    by_cases hlk : k < S
    · obtain rfl := HA.out (by omega)
      have hxk := HX.out.at k hlk
      have hbl : b < w.heap.size := HX.out.lt (by omega)
      have hb0 : b ≠ w.heap.size := by omega
      have hzk := HZ.out k
      have HG := Lib.hid (rowOk_succ (o := ⟨p0, s, p, g, t⟩) (ys := ys) hok.out)
      have HB := Lib.hid (rowOk_bad (o := ⟨p0, s, p, g, t⟩) (ys := ys) (n := S) hlk)
      generalize ys.getD k 0 = x at *
      cases g with
      | true =>
        by_cases hx0 : x = 0
        · have hxb : (x == 0) = true := by simp [hx0]
          subst hx0
          by_cases hkp : (k : Int) < p
          · have hkd : decide ((k : Int) < p) = true := decide_eq_true hkp
            have hp0 : ptrB 0 = true := by decide
            go_wp2_with fail
            refine (ptrref_any 0 _ (by omega) (by omega)).mono ?_; rintro e ww ⟨rfl, rfl⟩
            rw [hp0]
            go_wp2_with fail
            exact ⟨⟨k + 1, by omega, by go_num, HG.out (by simp [slotOk])⟩, by simp [intOf]; omega⟩
          · have hkd : decide ((k : Int) < p) = false := decide_eq_false hkp
            go_wp2_with fail
            exact ⟨⟨k + 1, by omega, by go_num, HG.out (by simp [slotOk])⟩, by simp [intOf]; omega⟩
        · have hxb : (x == 0) = false := by simp [hx0]
          go_wp2_with fail
          go_ret
          refine ⟨.inr ⟨HB.out (by simp [slotOk, hx0]), rfl⟩, ?_⟩
          (repeat (first | with_reducible exact Below.refl _ _ | with_reducible refine kp_alloc ?_ _ | with_reducible refine kp_drew ?_ | with_reducible refine kp_set ?_ (by first | omega | (simp; done) | (simp; omega)) _ | with_reducible refine kp_tr ?_ (by with_reducible assumption)))
      | false =>
        by_cases hkp : (k : Int) < p
        · have hkd : decide ((k : Int) < p) = true := decide_eq_true hkp
          go_wp2_with fail
          refine (ptrref_any x _ hzk.1 hzk.2).mono ?_; rintro e ww ⟨rfl, rfl⟩
          rcases hpb : ptrB x with _ | _
          · go_wp2_with fail
            go_ret
            refine ⟨.inr ⟨HB.out (by simp [slotOk, hkp, hpb]), rfl⟩, ?_⟩
            (repeat (first | with_reducible exact Below.refl _ _ | with_reducible refine kp_alloc ?_ _ | with_reducible refine kp_drew ?_ | with_reducible refine kp_set ?_ (by first | omega | (simp; done) | (simp; omega)) _ | with_reducible refine kp_tr ?_ (by with_reducible assumption)))
          · go_wp2_with fail
            exact ⟨⟨k + 1, by omega, by go_num, HG.out (by simp [slotOk, hpb])⟩, by simp [intOf]; omega⟩
        · have hkd : decide ((k : Int) < p) = false := decide_eq_false hkp
          go_wp2_with fail
          exact ⟨⟨k + 1, by omega, by go_num, HG.out (by simp [slotOk, hkp])⟩, by simp [intOf]; omega⟩
    · obtain rfl : k = S := by omega
      go_wp2_with fail
      go_ret
      refine ⟨.inl ⟨hok.out, rfl⟩, ?_⟩
      (repeat (first | with_reducible exact Below.refl _ _ | with_reducible refine kp_alloc ?_ _ | with_reducible refine kp_drew ?_ | with_reducible refine kp_set ?_ (by first | omega | (simp; done) | (simp; omega)) _ | with_reducible refine kp_tr ?_ (by with_reducible assumption)))
end Go.Proofs.Ytiboinckdjiniaa.ob
