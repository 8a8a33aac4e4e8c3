/- The reference of layer 6: small functions. No conditions. -/
import Derived.Test.YtpgjploaliefdaaGreatOo
import Derived.Test.YtpgjploaliefdaaGreatSb
namespace Go.Proofs.YtpgjploaliefdaaGreat.ob
open Go.RowKit Go.Proofs.YtpgjploaliefdaaGreat.hd
set_option linter.unusedVariables false
set_option linter.unusedSimpArgs false
theorem ptrref_any (x : Int) (w : World) (h1 : 0 ≤ x) (h2 : x < 18446744073709551616) :
    Calls Tryz.prog 71 #[.int .u64 x] w fun e w' => e = .returned (.bool (ptrB x)) ∧ w = w' := by
  have HP := Lib.hid (ptrB_eq x)
  go_enter Tryz.func71, Tryz.ntmps71
  go_wp2_with fail
  refine (addrref_any x _ h1 h2).mono ?_; rintro e ww ⟨rfl, rfl⟩
  generalize adE x = E at *
  go_wp2_with fail
  all_goals go_ret
  all_goals (refine ⟨?_, rfl⟩; rw [HP.out]; simp_all; try rw [Bool.eq_iff_iff]; try simp_all)
def rowOk (o : Ob) (ys : List Int) (k : Nat) : Prop := ∀ i, i < k → slotOk o i (ys.getD i 0) = true
theorem rowOk_succ {o : Ob} {ys : List Int} {k : Nat} (h : rowOk o ys k) : slotOk o k (ys.getD k 0) = true → rowOk o ys (k + 1) := fun g i hi => by
  by_cases e : i < k
  · exact h i e
  · obtain rfl : i = k := by omega
    exact g
theorem rowOk_bad {o : Ob} {ys : List Int} {k n : Nat} (h : k < n) : slotOk o k (ys.getD k 0) = false → ¬ rowOk o ys n := fun g q => by
  have := q k h; rw [g] at this; cases this
def SlotsPost (o : Ob) (ys : List Int) (S : Nat) (e : Ending) : Prop := (rowOk o ys S ∧ e = .returned (.int .i64 0)) ∨ (¬ rowOk o ys S ∧ e = .returned (.int .i64 3))
set_option maxHeartbeats 2000000 in
theorem slots_any (b off S c : Nat) (ad : Option Addr) (o : Ob) (ys : List Int) (w : World) (hS : S < 1000000000000) (had : 0 < S → ad = some ⟨b, off, none⟩) (hx : WordsAt w b off S ys) (hz : ∀ i, 0 ≤ ys.getD i 0 ∧ ys.getD i 0 < 18446744073709551616) :
    Calls Tryz.prog 73 #[.slice ad S c, oV o] w fun e w' => SlotsPost o ys S e ∧ Below w.heap.size w w' := by
  obtain ⟨p0, s, p, g, t⟩ := o
  have HX := Lib.hid hx
  have HZ := Lib.hid hz
  have HA := Lib.hid had
  clear hx hz had
  unfold oV
  go_enter Tryz.func73, Tryz.ntmps73
  go_wp2_with fail
  go_loop [5] (fun i => ∃ k : Nat, k ≤ S ∧ i = .int .i64 k ∧ Hid (rowOk ⟨p0, s, p, g, t⟩ ys k)) (fun i => S - (intOf i).toNat)
  case atStart => exact ⟨0, Nat.zero_le _, rfl, fun i hi => by omega⟩
  case round =>
    obtain ⟨k, hk, rfl, hok⟩ := hrel
    by_cases hlk : k < S
    · obtain rfl := HA.out (by omega)
      have hxk := HX.out.at k hlk
      have hbl : b < w.heap.size := HX.out.lt (by omega)
      have hb0 : b ≠ w.heap.size := by omega
      have hzk := HZ.out k
      have HG := Lib.hid (rowOk_succ (o := ⟨p0, s, p, g, t⟩) (ys := ys) hok.out)
      have HB := Lib.hid (rowOk_bad (o := ⟨p0, s, p, g, t⟩) (ys := ys) (n := S) hlk)
      generalize ys.getD k 0 = x at *
      cases g with
      | true =>
        by_cases hx0 : x = 0
        · have hxb : (x == 0) = true := by simp [hx0]
          subst hx0
          by_cases hkp : (k : Int) < p
          · have hkd : decide ((k : Int) < p) = true := decide_eq_true hkp
            have hp0 : ptrB 0 = true := by decide
            go_wp2_with fail
            refine (ptrref_any 0 _ (by omega) (by omega)).mono ?_; rintro e ww ⟨rfl, rfl⟩
            rw [hp0]
            go_wp2_with fail
            exact ⟨⟨k + 1, by omega, by go_num, HG.out (by simp [slotOk])⟩, by simp [intOf]; omega⟩
          · have hkd : decide ((k : Int) < p) = false := decide_eq_false hkp
            go_wp2_with fail
            exact ⟨⟨k + 1, by omega, by go_num, HG.out (by simp [slotOk])⟩, by simp [intOf]; omega⟩
        · have hxb : (x == 0) = false := by simp [hx0]
          go_wp2_with fail
          go_ret
          refine ⟨.inr ⟨HB.out (by simp [slotOk, hx0]), rfl⟩, ?_⟩
          (repeat (first | with_reducible exact Below.refl _ _ | with_reducible refine kp_alloc ?_ _ | with_reducible refine kp_drew ?_ | with_reducible refine kp_set ?_ (by first | omega | (simp; done) | (simp; omega)) _ | with_reducible refine kp_tr ?_ (by with_reducible assumption)))
      | false =>
        by_cases hkp : (k : Int) < p
        · have hkd : decide ((k : Int) < p) = true := decide_eq_true hkp
          go_wp2_with fail
          refine (ptrref_any x _ hzk.1 hzk.2).mono ?_; rintro e ww ⟨rfl, rfl⟩
          rcases hpb : ptrB x with _ | _
          · go_wp2_with fail
            go_ret
            refine ⟨.inr ⟨HB.out (by simp [slotOk, hkp, hpb]), rfl⟩, ?_⟩
            (repeat (first | with_reducible exact Below.refl _ _ | with_reducible refine kp_alloc ?_ _ | with_reducible refine kp_drew ?_ | with_reducible refine kp_set ?_ (by first | omega | (simp; done) | (simp; omega)) _ | with_reducible refine kp_tr ?_ (by with_reducible assumption)))
          · go_wp2_with fail
            exact ⟨⟨k + 1, by omega, by go_num, HG.out (by simp [slotOk, hpb])⟩, by simp [intOf]; omega⟩
        · have hkd : decide ((k : Int) < p) = false := decide_eq_false hkp
          go_wp2_with fail
          exact ⟨⟨k + 1, by omega, by go_num, HG.out (by simp [slotOk, hkp])⟩, by simp [intOf]; omega⟩
    · obtain rfl : k = S := by omega
      go_wp2_with fail
      go_ret
      refine ⟨.inl ⟨hok.out, rfl⟩, ?_⟩
      (repeat (first | with_reducible exact Below.refl _ _ | with_reducible refine kp_alloc ?_ _ | with_reducible refine kp_drew ?_ | with_reducible refine kp_set ?_ (by first | omega | (simp; done) | (simp; omega)) _ | with_reducible refine kp_tr ?_ (by with_reducible assumption)))
end Go.Proofs.YtpgjploaliefdaaGreat.ob

namespace Go.Proofs.YtpgjploaliefdaaGreat.ob
open Go.RowKit Go.Proofs.YtpgjploaliefdaaGreat.hd
set_option linter.unusedVariables false
set_option linter.unusedSimpArgs false
/-- The first p of the slots may all be pointers'. -/
def ptrsOk (ys : List Int) (p : Nat) : Prop := ∀ i, i < p → ptrB (ys.getD i 0) = true
theorem ptrsOk_succ {ys : List Int} {k : Nat} (h : ptrsOk ys k) : ptrB (ys.getD k 0) = true → ptrsOk ys (k + 1) := fun g i hi => by
  by_cases e : i < k
  · exact h i e
  · obtain rfl : i = k := by omega
    exact g
theorem ptrsOk_bad {ys : List Int} {k n : Nat} (h : k < n) : ptrB (ys.getD k 0) = false → ¬ ptrsOk ys n := fun g q => by
  have := q k h; rw [g] at this; cases this
def layOk (s p : Int) (ys : List Int) : Prop := rightB s p = true ∧ (ys.length : Int) = s
/-- What Lay hands back. -/
def LayPost (B : Nat) (s p : Int) (ys : List Int) (e : Ending) (W : World) : Prop :=
  (¬ layOk s p ys ∧ e = .returned (.tuple #[.slice none 0 0, .int .i64 1])) ∨
  (layOk s p ys ∧ ¬ ptrsOk ys p.toNat ∧ e = .returned (.tuple #[.slice none 0 0, .int .i64 3])) ∨
  (layOk s p ys ∧ ptrsOk ys p.toNat ∧ ∃ v, e = .returned (.tuple #[v, .int .i64 0]) ∧ OwnNums W B v (packV s p :: ys))
theorem packE_ok {s p : Int} (h : rightB s p = true) : packE s p = 0 := by simp [packE, h]
theorem packE_no {s p : Int} (h : rightB s p = false) : packE s p = 1 := by simp [packE, h]
/-- A slice of raw numbers that came in. -/
def RawIn (W : World) (sl : Value) (zs : List Int) : Prop := ∃ (ad : Option Addr) (n cap : Nat), sl = .slice ad n cap ∧ n < 9223372036854775808 ∧ (∀ i, i < n → ∃ x, ad = some x ∧ (x.add i).block < W.heap.size ∧ W.cell? (x.add i) = some (.int .u64 (zs.getD i 0))) ∧ Small zs
theorem RawIn.tr {W w : World} {sl : Value} {zs : List Int} (h : RawIn W sl zs) (hb : Below W.heap.size W w) : RawIn w sl zs := by
  obtain ⟨ad, n, cap, e, h1, h2, h3⟩ := h
  refine ⟨ad, n, cap, e, h1, fun i hi => ?_, h3⟩
  obtain ⟨x, e1, e2, e3⟩ := h2 i hi
  exact ⟨x, e1, Nat.lt_of_lt_of_le e2 hb.size, cell_tr hb e3⟩
theorem or3_in {w : Int} (h1 : 0 ≤ w) (h2 : w < 18446744073709551616) : ptrB (bits .or .u64 w 3) = true ∧ 0 ≤ bits .or .u64 w 3 ∧ bits .or .u64 w 3 < 18446744073709551616 := by
  obtain ⟨A, rfl⟩ := Int.eq_ofNat_of_zero_le h1
  have hA : A < 2 ^ 64 := by omega
  have e : bits .or .u64 (A : Int) 3 = ((A ||| 3 : Nat) : Int) := u64_or_nat A 3 (by omega) (by omega)
  have hx : A ||| 3 < 2 ^ 64 := Nat.or_lt_two_pow hA (by omega)
  have h3 : 3 ≤ A ||| 3 := Nat.right_le_or
  have h4 : (A ||| 3) % 2 = 1 := by
    have := Nat.or_mod_two_pow (a := A) (b := 3) (n := 1)
    simp only [Nat.pow_one] at this
    rw [this]
    rcases Nat.mod_two_eq_zero_or_one A with h | h <;> rw [h] <;> rfl
  rw [e]
  refine ⟨?_, by omega, by omega⟩
  unfold ptrB
  rw [decide_eq_true_eq]
  omega
/-- Slots that may be. -/
structure SlotsOf (S p : Nat) (ys : List Int) : Prop where
  len : ys.length = S
  ptrs : ptrsOk ys p
  small : Small ys
theorem small_snoc {ys : List Int} {x : Int} (h : Small ys) (h1 : 0 ≤ x) (h2 : x < 18446744073709551616) : Small (ys ++ [x]) := by
  intro i
  by_cases e : i < ys.length
  · have := h i
    simp only [List.getD, List.getElem?_append_left e] at this ⊢
    exact this
  · by_cases e2 : i = ys.length
    · subst e2; simp [List.getD]; omega
    · simp [List.getD, List.getElem?_append_right (Nat.le_of_not_lt e), List.getElem?_eq_none (show [x].length ≤ i - ys.length by simp; omega)]
theorem small_nil : Small [] := fun i => by simp
theorem ptrs_snoc {ys : List Int} {x : Int} {k p : Nat} (hk : ys.length = k) (h : ptrsOk ys (min k p)) (hx : k < p → ptrB x = true) : ptrsOk (ys ++ [x]) (min (k + 1) p) := by
  intro i hi
  by_cases e : i < ys.length
  · have := h i (by omega)
    simp only [List.getD, List.getElem?_append_left e] at this ⊢
    exact this
  · have e2 : i = ys.length := by omega
    subst e2
    simp [List.getD]
    exact hx (by omega)
set_option maxHeartbeats 1000000 in
theorem slots_raw (sz pt : Int) (sl : Value) (g : Bool) (zs : List Int) (w : World) (hs : RawIn w sl zs) (h1 : -9223372036854775808 ≤ sz ∧ sz < 9223372036854775808) (h2 : -9223372036854775808 ≤ pt ∧ pt < 9223372036854775808) :
    Calls Tryz.prog 41 #[rawV sz pt sl g] w fun e w' => (∃ v ys, e = .returned v ∧ OwnNums w' w.heap.size v ys ∧ SlotsOf (pickI sz 7).toNat (pickI pt (pickI sz 7 + 1)).toNat ys) ∧ Below w.heap.size w w' := by
  have hone : sl.oneCell' = true := by obtain ⟨_, _, _, rfl, _⟩ := hs; rfl
  obtain ⟨ad, n, cap, rfl, hn, hc, hz⟩ := hs
  have HC := Lib.hid hc
  have HZ := Lib.hid hz
  clear hc hz
  obtain ⟨hS1, hS2⟩ := pickI_in sz (n := 7) (by omega)
  obtain ⟨hP1, hP2⟩ := pickI_in pt (n := pickI sz 7 + 1) (by omega)
  go_enter Tryz.func41, Tryz.ntmps41
  unfold rawV
  go_wp2_with fail
  refine (shape_any sz pt _ g _ hone h1 h2).mono ?_; rintro e w1 ⟨rfl, k1⟩
  generalize hSS : pickI sz 7 = sI at *
  generalize hPP : pickI pt (sI + 1) = pI at *
  obtain ⟨S, rfl⟩ := Int.eq_ofNat_of_zero_le hS1
  obtain ⟨p, rfl⟩ := Int.eq_ofNat_of_zero_le hP1
  have HSP : Hid (pickI sz 7 = (S : Int) ∧ pickI pt ((S : Int) + 1) = (p : Int)) := ⟨hSS, hPP⟩
  clear hSS hPP
  have Kx : Blk w1 w.heap.size #[.int .i64 sz, .int .i64 pt, .slice ad n cap, .bool g] 83 := Blk.tr (by (repeat (first | with_reducible assumption | exact Blk.mk rfl | exact Blk.mk (by simp) | refine Blk.drew ?_ | refine Blk.alloc ?_ _ | refine Blk.tr ?_ (by with_reducible assumption)))) k1
  have HB1 : Below w.heap.size w w1 := by (repeat (first | with_reducible exact Below.refl _ _ | with_reducible refine kp_alloc ?_ _ | with_reducible refine kp_drew ?_ | with_reducible refine kp_set ?_ (by first | omega | (simp; done) | (simp; omega)) _ | with_reducible refine kp_tr ?_ (by with_reducible assumption)))
  clear k1
  have Ks := Blk.new w1 #[.int .i64 S, .int .i64 p] 56
  replace Kx := Kx.alloc (.cells #[.int .i64 S, .int .i64 p] 56)
  have HB2 : Below w.heap.size w (w1.alloc (.cells #[.int .i64 S, .int .i64 p] 56)) := by (repeat (first | with_reducible exact Below.refl _ _ | with_reducible refine kp_alloc ?_ _ | with_reducible refine kp_drew ?_ | with_reducible refine kp_set ?_ (by first | omega | (simp; done) | (simp; omega)) _ | with_reducible refine kp_tr ?_ (by with_reducible assumption)))
  have hs1 := HB1.size
  go_wp2_with fail
  generalize hW2 : w1.alloc (.cells #[.int .i64 S, .int .i64 p] 56) = w2 at *
  clear hW2 HB1
  go_loopw [5, 4] (fun i v wr => ∃ (k : Nat) (ys : List Int), k ≤ S ∧ i = .int .i64 k ∧ ys.length = k ∧ Hid (ptrsOk ys (min k p)) ∧ Hid (Small ys) ∧ OwnNums wr w2.heap.size v ys ∧ Below w2.heap.size w2 wr) (fun i _ _ => S - (intOf i).toNat)
  case atStart => exact ⟨0, [], Nat.zero_le _, rfl, rfl, fun i hi => by omega, small_nil, OwnNums.nil _ _, Below.refl _ _⟩
  case round =>
    obtain ⟨k, ys, hk, rfl, hyl, hpo, hsm, hown, hbr⟩ := hrel
    replace Kx := Kx.tr hbr
    replace Ks := Ks.tr hbr
    obtain ⟨lx, cx, fx⟩ := Kx.get
    obtain ⟨ls, cs, fs⟩ := Ks.get
    have cs0 := cs 0
    have cs1 := cs 1
    have HO := Lib.hid hown
    have HBR := Lib.hid hbr
    have hws := hbr.size
    clear hown hbr
    by_cases hlk : k < S
    · by_cases hkn : k < n
      · have hknI : (k : Int) < (n : Int) := by omega
        obtain ⟨x0, rfl, hxl, hxc⟩ := HC.out k hkn
        have hxk := cell_tr (HB2.trans (HBR.out.mono HB2.size)) hxc
        have hzk := HZ.out k
        clear hxc
        generalize zs.getD k 0 = x at *
        by_cases hkp : k < p
        · have hkpI : (k : Int) < (p : Int) := by omega
          go_wp2_with fail
          refine (ptrref_any x _ hzk.1 hzk.2).mono ?_; rintro e ww ⟨rfl, rfl⟩
          rcases hpb : ptrB x with _ | _
          · have h3 := or3_in hzk.1 hzk.2
            go_wp2_with (at_builtin; refine app_OwnNums _ rfl _ _ rfl w2.heap.size _ (.slice (some ⟨wr.heap.size, 0, none⟩) 1 1) ys [(bits .or .u64 x 3)] rfl rfl (HO.out.tr ((Below.refl _ _).alloc (Nat.le_refl _) _)) (one_nums _ _) ?c0 ?c1 ?c2)
            case c0 => first | omega | (simp; omega)
            case c1 => exact Nat.le_trans hws (by simp)
            case c2 =>
            intro v' w3 ho hg hat
            have hol := World.ownsRow.lt HO.out
            go_wp2_with fail
            refine ⟨⟨k + 1, ys ++ [(bits .or .u64 x 3)], by omega, by go_num, by simp; omega, ptrs_snoc hyl hpo.out (fun h => h3.1), small_snoc hsm.out h3.2.1 h3.2.2, ho, ?_⟩, by simp [intOf]; omega⟩
            have hB3 := HBR.out
            exact ⟨hg.os.trans hB3.os, hg.tape.trans hB3.tape, hg.output.trans hB3.output, Nat.le_trans hB3.size (Nat.le_trans (by simp) hg.size), fun j hj => (hg.block j (by simp; omega) (fun e => by have := hol j e.symm; omega)).trans ((Below.heap_alloc _ _ _ (by omega)).trans (hB3.block j hj))⟩
          · go_wp2_with (at_builtin; refine app_OwnNums _ rfl _ _ rfl w2.heap.size _ (.slice (some ⟨wr.heap.size, 0, none⟩) 1 1) ys [x] rfl rfl (HO.out.tr ((Below.refl _ _).alloc (Nat.le_refl _) _)) (one_nums _ _) ?c0 ?c1 ?c2)
            case c0 => first | omega | (simp; omega)
            case c1 => exact Nat.le_trans hws (by simp)
            case c2 =>
            intro v' w3 ho hg hat
            have hol := World.ownsRow.lt HO.out
            go_wp2_with fail
            refine ⟨⟨k + 1, ys ++ [x], by omega, by go_num, by simp; omega, ptrs_snoc hyl hpo.out (fun h => hpb), small_snoc hsm.out hzk.1 hzk.2, ho, ?_⟩, by simp [intOf]; omega⟩
            have hB3 := HBR.out
            exact ⟨hg.os.trans hB3.os, hg.tape.trans hB3.tape, hg.output.trans hB3.output, Nat.le_trans hB3.size (Nat.le_trans (by simp) hg.size), fun j hj => (hg.block j (by simp; omega) (fun e => by have := hol j e.symm; omega)).trans ((Below.heap_alloc _ _ _ (by omega)).trans (hB3.block j hj))⟩
        · have hkpI : ¬ (k : Int) < (p : Int) := by omega
          go_wp2_with (at_builtin; refine app_OwnNums _ rfl _ _ rfl w2.heap.size _ (.slice (some ⟨wr.heap.size, 0, none⟩) 1 1) ys [x] rfl rfl (HO.out.tr ((Below.refl _ _).alloc (Nat.le_refl _) _)) (one_nums _ _) ?c0 ?c1 ?c2)
          case c0 => first | omega | (simp; omega)
          case c1 => exact Nat.le_trans hws (by simp)
          case c2 =>
          intro v' w3 ho hg hat
          have hol := World.ownsRow.lt HO.out
          go_wp2_with fail
          refine ⟨⟨k + 1, ys ++ [x], by omega, by go_num, by simp; omega, ptrs_snoc hyl hpo.out (fun h => absurd h hkp), small_snoc hsm.out hzk.1 hzk.2, ho, ?_⟩, by simp [intOf]; omega⟩
          have hB3 := HBR.out
          exact ⟨hg.os.trans hB3.os, hg.tape.trans hB3.tape, hg.output.trans hB3.output, Nat.le_trans hB3.size (Nat.le_trans (by simp) hg.size), fun j hj => (hg.block j (by simp; omega) (fun e => by have := hol j e.symm; omega)).trans ((Below.heap_alloc _ _ _ (by omega)).trans (hB3.block j hj))⟩
      · have hknI : ¬ (k : Int) < (n : Int) := by omega
        have hp0 : ptrB 0 = true := by decide
        by_cases hkp : k < p
        · have hkpI : (k : Int) < (p : Int) := by omega
          go_wp2_with fail
          refine (ptrref_any 0 _ (by omega) (by omega)).mono ?_; rintro e ww ⟨rfl, rfl⟩
          rw [hp0]
          go_wp2_with (at_builtin; refine app_OwnNums _ rfl _ _ rfl w2.heap.size _ (.slice (some ⟨wr.heap.size, 0, none⟩) 1 1) ys [0] rfl rfl (HO.out.tr ((Below.refl _ _).alloc (Nat.le_refl _) _)) (one_nums _ _) ?c0 ?c1 ?c2)
          case c0 => first | omega | (simp; omega)
          case c1 => exact Nat.le_trans hws (by simp)
          case c2 =>
          intro v' w3 ho hg hat
          have hol := World.ownsRow.lt HO.out
          go_wp2_with fail
          refine ⟨⟨k + 1, ys ++ [0], by omega, by go_num, by simp; omega, ptrs_snoc hyl hpo.out (fun h => (by decide)), small_snoc hsm.out (by omega) (by omega), ho, ?_⟩, by simp [intOf]; omega⟩
          have hB3 := HBR.out
          exact ⟨hg.os.trans hB3.os, hg.tape.trans hB3.tape, hg.output.trans hB3.output, Nat.le_trans hB3.size (Nat.le_trans (by simp) hg.size), fun j hj => (hg.block j (by simp; omega) (fun e => by have := hol j e.symm; omega)).trans ((Below.heap_alloc _ _ _ (by omega)).trans (hB3.block j hj))⟩
        · have hkpI : ¬ (k : Int) < (p : Int) := by omega
          go_wp2_with (at_builtin; refine app_OwnNums _ rfl _ _ rfl w2.heap.size _ (.slice (some ⟨wr.heap.size, 0, none⟩) 1 1) ys [0] rfl rfl (HO.out.tr ((Below.refl _ _).alloc (Nat.le_refl _) _)) (one_nums _ _) ?c0 ?c1 ?c2)
          case c0 => first | omega | (simp; omega)
          case c1 => exact Nat.le_trans hws (by simp)
          case c2 =>
          intro v' w3 ho hg hat
          have hol := World.ownsRow.lt HO.out
          go_wp2_with fail
          refine ⟨⟨k + 1, ys ++ [0], by omega, by go_num, by simp; omega, ptrs_snoc hyl hpo.out (fun h => (by decide)), small_snoc hsm.out (by omega) (by omega), ho, ?_⟩, by simp [intOf]; omega⟩
          have hB3 := HBR.out
          exact ⟨hg.os.trans hB3.os, hg.tape.trans hB3.tape, hg.output.trans hB3.output, Nat.le_trans hB3.size (Nat.le_trans (by simp) hg.size), fun j hj => (hg.block j (by simp; omega) (fun e => by have := hol j e.symm; omega)).trans ((Below.heap_alloc _ _ _ (by omega)).trans (hB3.block j hj))⟩
    · obtain rfl : k = S := by omega
      go_wp2_with fail
      go_ret
      refine ⟨⟨_, ys, rfl, HO.out.lift HB2.size, ⟨by have := HSP.out.1; omega, ?_, hsm.out⟩⟩, HB2.trans (HBR.out.mono HB2.size)⟩
      have h5 := hpo.out
      rw [Nat.min_eq_right (by omega)] at h5
      rw [HSP.out.1, HSP.out.2]
      exact h5
end Go.Proofs.YtpgjploaliefdaaGreat.ob
