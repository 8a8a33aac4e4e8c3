/- ObjectsLay: the walk. No conditions. -/
import Derived.Test.YtiboinckdjiniaaSg
import Derived.Deep.DeepCutAuto
import Derived.Deep.CutRange
namespace Go.Proofs.Ytiboinckdjiniaa.ob
open Go.RowKit Go.Proofs.Ytiboinckdjiniaa.hd
set_option linter.unusedVariables false
set_option linter.unusedSimpArgs false
set_option maxRecDepth 100000 in
set_option maxHeartbeats 4000000 in
theorem lay_walk (sz pt : Int) (sl : Value) (g : Bool) (at' x : Int) (zs : List Int) (w : World) (hs : RawIn w sl zs) (h1 : -9223372036854775808 ≤ sz ∧ sz < 9223372036854775808) (h2 : -9223372036854775808 ≤ pt ∧ pt < 9223372036854775808) (h3 : -9223372036854775808 ≤ at' ∧ at' < 9223372036854775808) (hx : 0 ≤ x ∧ x < 18446744073709551616) :
    Calls Try.prog 8 #[rawV sz pt sl g, .int .i64 at', .int .u64 x] w fun e w' => e = .returned (.bool true) ∧ Below w.heap.size w w' := by
  have hone : sl.oneCell' = true := by obtain ⟨_, _, _, rfl, _⟩ := hs; rfl
  obtain ⟨hS1, hS2⟩ := pickI_in sz (n := 7) (by omega)
  obtain ⟨hP1, hP2⟩ := pickI_in pt (n := pickI sz 7 + 1) (by omega)
  have HS := Lib.hid hs
  have hsl : ∃ a l c, sl = .slice a l c := by obtain ⟨_, _, _, rfl, _⟩ := hs; exact ⟨_, _, _, rfl⟩
  obtain ⟨a0, l0, c0, rfl⟩ := hsl
  clear hs
  go_enter Try.func8, Try.ntmps8
  have HX := Lib.hid (show rawV sz pt (.slice a0 l0 c0) g = .agg #[.int .i64 sz, .int .i64 pt, .slice a0 l0 c0, .bool g] from rfl)
  unfold rawV
  go_wp2_with fail
  refine (awake_any _).mono ?_; rintro e w1 ⟨rfl, k1⟩
  have Kx : Blk w1 w.heap.size #[.int .i64 sz, .int .i64 pt, .slice a0 l0 c0, .bool g] 50 := Blk.tr (by (repeat (first | with_reducible assumption | exact Blk.mk rfl | exact Blk.mk (by simp) | refine Blk.drew ?_ | refine Blk.alloc ?_ _ | refine Blk.tr ?_ (by with_reducible assumption)))) k1
  have B1 : Below w.heap.size w w1 := by (repeat (first | with_reducible exact Below.refl _ _ | with_reducible refine kp_alloc ?_ _ | with_reducible refine kp_drew ?_ | with_reducible refine kp_set ?_ (by first | omega | (simp; done) | (simp; omega)) _ | with_reducible refine kp_tr ?_ (by with_reducible assumption)))
  clear k1
  obtain ⟨lx, cx, fx⟩ := Kx.get
  go_wp2_with fail
  refine (shape_any sz pt _ g _ hone h1 h2).mono ?_; rintro e w2 ⟨rfl, k2⟩
  generalize hSS : pickI sz 7 = sI at *
  generalize hPP : pickI pt (sI + 1) = pI at *
  obtain ⟨S, rfl⟩ := Int.eq_ofNat_of_zero_le hS1
  obtain ⟨p, rfl⟩ := Int.eq_ofNat_of_zero_le hP1
  have HSP : Hid (pickI sz 7 = (S : Int) ∧ pickI pt ((S : Int) + 1) = (p : Int)) := ⟨hSS, hPP⟩
  clear hSS hPP
  have Ks := Blk.new w2 #[.int .i64 S, .int .i64 p] 28
  replace Kx := (Kx.tr k2).alloc (.cells #[.int .i64 S, .int .i64 p] 28)
  replace B1 : Below w.heap.size w (w2.alloc (.cells #[.int .i64 S, .int .i64 p] 28)) := by (repeat (first | with_reducible exact Below.refl _ _ | with_reducible refine kp_alloc ?_ _ | with_reducible refine kp_drew ?_ | with_reducible refine kp_set ?_ (by first | omega | (simp; done) | (simp; omega)) _ | with_reducible refine kp_tr ?_ (by with_reducible assumption)))
  clear k2 lx cx fx
  obtain ⟨lx, cx, fx⟩ := Kx.get
  go_wp2_with fail
  refine (slots_raw sz pt _ g zs _ (HS.out.tr B1) h1 h2).mono ?_; rintro e w3 ⟨⟨v, ys, rfl, ho, hso⟩, k3⟩
  rw [HSP.out.1, HSP.out.2] at hso
  have hyl := hso.len
  have HSO := Lib.hid hso
  have HO := Lib.hid ho
  clear ho hso
  replace Ks := Ks.tr k3
  replace B1 := kp_tr B1 k3
  clear Kx lx cx fx k3
  obtain ⟨ls, cs, fs⟩ := Ks.get
  obtain ⟨va, l3, vc, rfl, hl3⟩ := HO.out.form
  obtain rfl : l3 = S := by omega
  clear hl3
  have hS7 : l3 < 7 := by omega
  have hpS : p ≤ l3 := by omega
  have z3 : 0 < w3.heap.size := by have := Ks.lt; omega
  have NV := Lib.hid (HO.out.sees z3 (by omega))
  have HYL := Lib.hid hyl
  have HLB := Lib.hid (rightB_mk (s := (l3 : Int)) (p := (p : Int)) (by omega))
  go_wp2_with fail
  refine (lay_any l3 p _ ys _ NV.out HSO.out.small (by omega) (by omega)).mono ?_; rintro e w4 ⟨h4, k4⟩
  obtain ⟨v4, rfl, o4⟩ := lay_ok h4 (by omega) hpS HYL.out HSO.out.ptrs
  have O4 := Lib.hid o4
  clear h4 o4
  replace Ks := Ks.tr k4
  replace B1 := kp_tr B1 k4
  have NV4 := Lib.hid (NV.out.tr k4)
  clear ls cs fs k4 NV
  obtain ⟨ls, cs, fs⟩ := Ks.get
  go_wp2_with fail
  refine (pack_any l3 p _).mono ?_; rintro e w5 ⟨rfl, k5⟩
  rw [packE_ok HLB.out]
  replace Ks := Ks.tr k5
  replace B1 := kp_tr B1 k5
  have NV5 := Lib.hid (NV4.out.tr k5)
  have O5 := Lib.hid (O4.out.tr k5)
  have z5 : 0 < w5.heap.size := by have := Ks.lt; omega
  clear ls cs fs k5 NV4 O4 z3
  obtain ⟨ls, cs, fs⟩ := Ks.get
  go_wp2_with (at_builtin; refine app_OwnNums _ rfl _ _ rfl w5.heap.size (.slice (some ⟨w5.heap.size, 0, none⟩) 1 1) (.slice va l3 vc) [packV l3 p] ys rfl rfl (own_one _ _) ?c0 ?c1 (by simp) ?c2)
  case c0 => exact NV5.out.alloc _
  case c1 => have := HYL.out; simp; omega
  case c2 =>
  intro v6 w6 o6 hg6 hat6
  have k6 : Below w5.heap.size w5 w6 := below_app hg6 (fun k e => by cases e; exact Nat.le_refl _)
  have NV6 := Lib.hid (NV5.out.tr k6)
  have z6 : 0 < w6.heap.size := by have := k6.size; omega
  have N4 := Lib.hid ((O5.out.tr k6).sees z6 (by have := HYL.out; simp; omega))
  have N6 := Lib.hid (o6.sees z6 (by have := HYL.out; simp; omega))
  replace Ks := Ks.tr k6
  replace B1 := kp_tr B1 k6
  clear ls cs fs k6 NV5 O5 o6 hg6 hat6 z5
  go_wp2_with fail
  refine (nums_any _ _ _ _ _ N4.out N6.out).mono ?_; rintro e w7 ⟨rfl, k7⟩
  rw [decSelf]
  have NV7 := Lib.hid (NV6.out.tr k7)
  replace Ks := Ks.tr k7
  replace B1 := kp_tr B1 k7
  clear k7 NV6 N4 N6
  obtain ⟨ls, cs, fs⟩ := Ks.get
  have cs0 : w7.cell? ⟨w2.heap.size, 0, none⟩ = some (.int .i64 (l3 : Int)) := cs 0
  have cs1 : w7.cell? ⟨w2.heap.size, 1, none⟩ = some (.int .i64 (p : Int)) := cs 1
  have hlt7 : w2.heap.size < w7.heap.size := ls
  have HL8 : Hid (([] : List Int).length + ys.length < 1000000000000) := by have := HYL.out; show _ < _; simp; omega
  have HL9 : Hid ((([] : List Int) ++ ys).length + [(0 : Int)].length < 1000000000000) := by have := HYL.out; show _ < _; simp; omega
  have HN8 : Hid (((([] : List Int) ++ ys ++ [(0 : Int)]).length : Int) ≠ l3) := by have := HYL.out; show _ ≠ _; simp; omega
  go_upto_region 8 with (fail)
  go_cut [15] (fun v wx => v = .int .i64 1 ∧ Below w7.heap.size w7 wx)
  case first =>
    go_region_held3 (fun w' => w'.cell? ⟨w2.heap.size, 0, none⟩ = some (.int .i64 (l3 : Int)) ∧ w'.cell? ⟨w2.heap.size, 1, none⟩ = some (.int .i64 (p : Int)))
      (first | go_keep | (refine s2_tr (W := w7) ?_ ⟨cs0, cs1⟩; (repeat (first | with_reducible exact Below.refl _ _ | with_reducible refine kp_alloc ?_ _ | with_reducible refine kp_drew ?_ | with_reducible refine kp_set ?_ (by first | omega | (simp; done) | (simp; omega)) _ | with_reducible refine kp_tr ?_ (by with_reducible assumption)))))
      (first
        | (refine step_nums ?_ (.const (.slice none 0 0)) (.tmp 57) ?_ w7.heap.size (.slice none 0 0) (.slice va l3 vc) [] ys ?_ ?_ (OwnNums.nil _ _) ?_ HL8.out ?_ ?_; rfl; rfl; rfl; rfl; (refine NV7.out.tr ?_; (repeat (first | with_reducible exact Below.refl _ _ | with_reducible refine kp_alloc ?_ _ | with_reducible refine kp_drew ?_ | with_reducible refine kp_set ?_ (by first | omega | (simp; done) | (simp; omega)) _ | with_reducible refine kp_tr ?_ (by with_reducible assumption)))); (first | exact Nat.le_refl _ | exact le_alloc (Nat.le_refl _)); intro v8 w8 o8 hg8 hat8; have k8 : Below w7.heap.size w7 w8 := (by refine kp_tr ?_ (grown_below hg8); (repeat (first | with_reducible exact Below.refl _ _ | with_reducible refine kp_alloc ?_ _ | with_reducible refine kp_drew ?_ | with_reducible refine kp_set ?_ (by first | omega | (simp; done) | (simp; omega)) _ | with_reducible refine kp_tr ?_ (by with_reducible assumption)))))
        | (refine step_nums ?_ (.tmp 58) (.tmp 59) ?_ w7.heap.size v8 (.slice (some ⟨w8.heap.size, 0, none⟩) 1 1) ([] ++ ys) [0] ?_ ?_ ?_ ?_ HL9.out ?_ ?_; rfl; rfl; rfl; rfl; (refine o8.tr ?_; (repeat (first | with_reducible exact Below.refl _ _ | with_reducible refine kp_alloc ?_ _ | with_reducible refine kp_drew ?_ | with_reducible refine kp_set ?_ (by first | omega | (simp; done) | (simp; omega)) _ | with_reducible refine kp_tr ?_ (by with_reducible assumption)))); (refine (one_nums w8 0).tr ?_; (repeat (first | with_reducible exact Below.refl _ _ | with_reducible refine kp_alloc ?_ _ | with_reducible refine kp_drew ?_ | with_reducible refine kp_set ?_ (by first | omega | (simp; done) | (simp; omega)) _ | with_reducible refine kp_tr ?_ (by with_reducible assumption)))); exact le_alloc k8.size; intro v9 w9 o9 hg9 hat9; have k9 : Below w7.heap.size w7 w9 := (by refine row_own ?_ o8 hg9; (repeat (first | with_reducible exact Below.refl _ _ | with_reducible refine kp_alloc ?_ _ | with_reducible refine kp_drew ?_ | with_reducible refine kp_set ?_ (by first | omega | (simp; done) | (simp; omega)) _ | with_reducible refine kp_tr ?_ (by with_reducible assumption)))); obtain ⟨a9, l9, c9, rfl, hl9⟩ := o9.form)
        | (refine step_nums ?_ (.tmp 58) (.tmp 59) ?_ w7.heap.size v8 (.slice (some ⟨w7.heap.size, 0, none⟩) 1 1) ([] ++ ys) [0] ?_ ?_ ?_ ?_ HL9.out ?_ ?_; rfl; rfl; rfl; rfl; (refine o8.tr ?_; (repeat (first | with_reducible exact Below.refl _ _ | with_reducible refine kp_alloc ?_ _ | with_reducible refine kp_drew ?_ | with_reducible refine kp_set ?_ (by first | omega | (simp; done) | (simp; omega)) _ | with_reducible refine kp_tr ?_ (by with_reducible assumption)))); (refine (one_nums w7 0).tr ?_; refine kp_tr ?_ (grown_below hg8); (repeat (first | with_reducible exact Below.refl _ _ | with_reducible refine kp_alloc ?_ _ | with_reducible refine kp_drew ?_ | with_reducible refine kp_set ?_ (by first | omega | (simp; done) | (simp; omega)) _ | with_reducible refine kp_tr ?_ (by with_reducible assumption)))); exact k8.size; intro v9 w9 o9 hg9 hat9; have k9 : Below w7.heap.size w7 w9 := (by refine row_own ?_ o8 hg9; (repeat (first | with_reducible exact Below.refl _ _ | with_reducible refine kp_alloc ?_ _ | with_reducible refine kp_drew ?_ | with_reducible refine kp_set ?_ (by first | omega | (simp; done) | (simp; omega)) _ | with_reducible refine kp_tr ?_ (by with_reducible assumption)))); obtain ⟨a9, l9, c9, rfl, hl9⟩ := o9.form)
        | (go_at_call 20; refine (lay_short _ _ _ _ _ _ ?_).mono ?_; (first | omega | (rw [hl9]; exact HN8.out)); rintro e w10 ⟨rfl, k10⟩))
    all_goals (go_wp2_with fail)
    all_goals go_meet
    all_goals exact ⟨rfl, kp_tr k9 k10⟩
  case rest =>
  obtain ⟨rfl, k8⟩ := hcut
  obtain ⟨w8, hw8⟩ : ∃ y, y = wc := ⟨_, rfl⟩
  subst hw8
  have NV8 := Lib.hid (NV7.out.tr k8)
  replace Ks := Ks.tr k8
  replace B1 := kp_tr B1 k8
  clear k8 NV7 ls cs fs cs0 cs1 hlt7
  obtain ⟨ls, cs, fs⟩ := Ks.get
  by_cases hz0 : l3 = 0
  · subst hz0
    go_wp2_with fail
    go_ret
    exact ⟨rfl, B1⟩
  · have hz1 : ((l3 : Int) == 0) = false := beq_eq_false_iff_ne.mpr (by omega)
    obtain ⟨hk1, hk2⟩ := pickI_in at' (n := (l3 : Int)) (by omega)
    have HB1 := Lib.hid B1
    clear B1
    go_wp2_with fail
    refine (pick_any _ _ _ (by omega) (by omega) h3.1 h3.2).mono ?_; rintro e ww ⟨rfl, rfl⟩
    generalize pickI at' (l3 : Int) = kI at *
    obtain ⟨k, rfl⟩ := Int.eq_ofNat_of_zero_le hk1
    go_wp2_with (at_builtin; refine app_OwnNums _ rfl _ _ rfl w8.heap.size (.slice none 0 0) (.slice va l3 vc) [] ys rfl rfl (OwnNums.nil _ _) ?c0 ?c1 (Nat.le_refl _) ?c2)
    case c0 => exact NV8.out
    case c1 => have := HYL.out; simp; omega
    case c2 =>
    intro v9 w9 o9 hg9 hat9
    have k9 : Below w8.heap.size w8 w9 := grown_below hg9
    obtain ⟨g9, c9, rfl, hg0, hgl, hcell⟩ := o9.block (by have := HYL.out; simp; omega)
    have hyl2 := HYL.out
    rw [Int.toNat_natCast] at hyl2
    obtain ⟨hxc, hxf⟩ := hcell k (by omega)
    have O10 := Lib.hid (o9.set (k := k) x)
    replace Ks := (Ks.tr k9).other (p := ⟨g9, k, none⟩) (by have := Ks.lt; show w2.heap.size ≠ g9; omega) (.int .u64 x)
    have HB2 : Hid (Below w.heap.size w (w9.setCell ⟨g9, k, none⟩ (.int .u64 x))) := by
      have h8 := HB1.out
      have := h8.size
      have h9 := kp_tr h8 k9
      exact kp_set h9 (by show w.heap.size ≤ g9; omega) _
    have HYS : Hid (ys.length = l3) := hyl2
    have HQ : Hid (ptrsOk (ys.set k x) p ↔ (k < p → ptrB x = true)) := ptrs_set (by omega) HSO.out.ptrs
    have HSM : Hid (Small (ys.set k x)) := small_set HSO.out.small hx k
    have HSL : Hid ((ys.set k x).length = l3) := by show _ = _; simp; omega
    have hne2 : w2.heap.size ≠ g9 := by have := Ks.lt; simp at this; omega
    have hlen9 : ys.length = l3 := HYS.out
    rw [hlen9] at O10
    rw [hlen9]
    clear hcell o9 hg9 hat9 ls cs fs HB1 NV8 hyl2 hyl hlen9 k9
    obtain ⟨ls, cs, fs⟩ := Ks.get
    go_wp2_with fail
    have z10 : 0 < (w9.setCell ⟨g9, k, none⟩ (.int .u64 x)).heap.size := by simp; omega
    refine (lay_any l3 p _ (ys.set k x) _ (O10.out.sees z10 (by have := HSL.out; omega)) HSM.out (by omega) (by omega)).mono ?_; rintro e w11 ⟨h11, k11⟩
    replace Ks := Ks.tr k11
    have HB3 : Hid (Below w.heap.size w w11) := kp_tr HB2.out k11
    have z11 : 0 < w11.heap.size := by have := Ks.lt; omega
    have HH := Lib.hid h11
    have hhs := Nat.le_trans HB2.out.size k11.size
    clear ls cs fs HB2 O10 z10 k11 h11 hxc hxf
    obtain ⟨ls, cs, fs⟩ := Ks.get
    by_cases hbad : k < p ∧ ptrB x = false
    · obtain ⟨hkp, hpb⟩ := hbad
      have hkpI : (k : Int) < (p : Int) := by omega
      have hnp : ¬ ptrsOk (ys.set k x) p := fun q => by have := HQ.out.1 q hkp; rw [hpb] at this; cases this
      obtain rfl := lay_no HH.out (by omega) hpS HSL.out hnp
      have hE := adE_bad.2 hpb
      go_wp2_with fail
      refine (addr_any x _ hx.1 hx.2).mono ?_; rintro e ww ⟨rfl, rfl⟩
      rw [hE]
      go_wp2_with fail
      go_ret
      exact ⟨rfl, HB3.out⟩
    · have hyp : k < p → ptrB x = true := fun h => by
        rcases hpb : ptrB x with _ | _
        · exact absurd ⟨h, hpb⟩ hbad
        · rfl
      have hpo := HQ.out.2 hyp
      have HW1 := Lib.hid (walk_one (by omega) hpS HSL.out hpo)
      obtain ⟨v11, rfl, o11⟩ := lay_ok HH.out (by omega) hpS HSL.out hpo
      have N11 := Lib.hid (o11.sees z11 (by have := HSL.out; rw [List.length_cons]; omega))
      have hpk := pack_in (s := l3) (p := p) (by omega) hpS
      have HS11 : Hid (Small (packV l3 p :: ys.set k x)) := fun i => by
        cases i with
        | zero => simpa using hpk
        | succ i => simpa using HSM.out i
      clear o11 hpo hbad
      have htest : Hid ((k < p ∧ ¬ adE x = 3) ∨ ¬ k < p) := by
        by_cases h : k < p
        · refine .inl ⟨h, fun e => ?_⟩
          have := adE_bad.1 e
          rw [hyp h] at this; cases this
        · exact .inr h
      clear hyp
      rcases htest.out with ⟨h, hE⟩ | h
      · have hkpI : (k : Int) < (p : Int) := by omega
        have hEb : (adE x == 3) = false := beq_eq_false_iff_ne.mpr hE
        go_wp2_with fail
        refine (addr_any x _ hx.1 hx.2).mono ?_; rintro e ww ⟨rfl, rfl⟩
        go_wp2_with fail
        refine (walk_in _ _ _ N11.out HS11.out).mono ?_; rintro e w12 ⟨h12, k12⟩
        rw [HW1.out] at h12
        obtain ⟨v12, rfl, o12⟩ := h12
        obtain ⟨g12, c12, rfl, hg12, hl12, ha12⟩ := obs_at o12 (Nat.zero_lt_one)
        obtain ⟨q0, q1, q2, q3, q4⟩ := ha12.at 0 (Nat.zero_lt_one)
        have HB4 : Hid (Below w.heap.size w w12) := kp_tr HB3.out k12
        replace Ks := Ks.tr k12
        clear ls cs fs k12 o12 ha12 q0 q3 q4
        obtain ⟨ls, cs, fs⟩ := Ks.get
        have cs0 : w12.cell? ⟨w2.heap.size, 0, none⟩ = some (.int .i64 (l3 : Int)) := cs 0
        have cs1 : w12.cell? ⟨w2.heap.size, 1, none⟩ = some (.int .i64 (p : Int)) := cs 1
        replace q1 : w12.cell? ⟨g12, 1, none⟩ = some (.int .i64 (l3 : Int)) := q1
        replace q2 : w12.cell? ⟨g12, 2, none⟩ = some (.int .i64 (p : Int)) := q2
        have hlt12 : w2.heap.size < w12.heap.size := ls
        go_wp2_with fail
        go_region
        go_wp2_with fail
        go_ret
        refine ⟨rfl, ?_⟩
        have := HB4.out
        (repeat (first | with_reducible exact Below.refl _ _ | with_reducible refine kp_alloc ?_ _ | with_reducible refine kp_drew ?_ | with_reducible refine kp_set ?_ (by first | omega | (simp; done) | (simp; omega)) _ | with_reducible refine kp_tr ?_ (by with_reducible assumption)))
      · have hkpI : ¬ (k : Int) < (p : Int) := by omega
        go_wp2_with fail
        refine (addr_any x _ hx.1 hx.2).mono ?_; rintro e ww ⟨rfl, rfl⟩
        go_wp2_with fail
        refine (walk_in _ _ _ N11.out HS11.out).mono ?_; rintro e w12 ⟨h12, k12⟩
        rw [HW1.out] at h12
        obtain ⟨v12, rfl, o12⟩ := h12
        obtain ⟨g12, c12, rfl, hg12, hl12, ha12⟩ := obs_at o12 (Nat.zero_lt_one)
        obtain ⟨q0, q1, q2, q3, q4⟩ := ha12.at 0 (Nat.zero_lt_one)
        have HB4 : Hid (Below w.heap.size w w12) := kp_tr HB3.out k12
        replace Ks := Ks.tr k12
        clear ls cs fs k12 o12 ha12 q0 q3 q4
        obtain ⟨ls, cs, fs⟩ := Ks.get
        have cs0 : w12.cell? ⟨w2.heap.size, 0, none⟩ = some (.int .i64 (l3 : Int)) := cs 0
        have cs1 : w12.cell? ⟨w2.heap.size, 1, none⟩ = some (.int .i64 (p : Int)) := cs 1
        replace q1 : w12.cell? ⟨g12, 1, none⟩ = some (.int .i64 (l3 : Int)) := q1
        replace q2 : w12.cell? ⟨g12, 2, none⟩ = some (.int .i64 (p : Int)) := q2
        have hlt12 : w2.heap.size < w12.heap.size := ls
        go_wp2_with fail
        go_region
        go_wp2_with fail
        go_ret
        refine ⟨rfl, ?_⟩
        have := HB4.out
        (repeat (first | with_reducible exact Below.refl _ _ | with_reducible refine kp_alloc ?_ _ | with_reducible refine kp_drew ?_ | with_reducible refine kp_set ?_ (by first | omega | (simp; done) | (simp; omega)) _ | with_reducible refine kp_tr ?_ (by with_reducible assumption)))
end Go.Proofs.Ytiboinckdjiniaa.ob
