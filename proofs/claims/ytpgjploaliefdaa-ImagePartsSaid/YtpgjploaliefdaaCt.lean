/- check: the state's words, points. No conditions. -/
import Derived.Test.YtpgjploaliefdaaHb
import Derived.Deep.DeepCutAuto
import Derived.Deep.CutRange
import Derived.Deep.RegionHeld3
import Derived.RegionTactic
import Derived.Deep.QuietTactic
import Derived.BigQuiet
import Derived.WalkSmall
namespace Go.Proofs.Ytpgjploaliefdaa.ck
open Go Go.RowKit Go.Proofs.Ytpgjploaliefdaa.hp Go.Proofs.Ytpgjploaliefdaa.ob Go.Proofs.Ytpgjploaliefdaa.hd Go.Proofs.Ytpgjploaliefdaa.cp Go.Proofs.Ytpgjploaliefdaa.mp Go.Proofs.Ytpgjploaliefdaa.cm
set_option linter.unusedVariables false
set_option linter.unusedSimpArgs false
variable {w0 w W : World} {p : Pl} {h : Hp} {v : Hv} {s : Fnd} {ov : Ov}
theorem nums_form {W : World} {v : Value} {zs : List Int} (h : NumsIn W v zs) : ∃ ad cap, v = .slice ad zs.length cap := by
  obtain ⟨ad, b, off, cap, rfl, _⟩ := h
  exact ⟨_, _, rfl⟩
set_option maxRecDepth 100000
set_option maxHeartbeats 2000000
theorem words_any (a : St w0 W p h v s ov) (q : Nat) (hq : 1 ≤ q ∧ q ≤ 4) :
    Calls Try.prog 47 #[.pointer (some ⟨p.b, 0, none⟩), .int .i64 q] W fun e w' => e = .returned (v.part q) ∧ Below W.heap.size W w' := by
  obtain ⟨la, lc, e1⟩ := nums_form a.hin.low
  obtain ⟨ha, hc, e2⟩ := nums_form a.hin.high
  obtain ⟨oa, oc, e3⟩ := nums_form a.hin.old
  obtain ⟨fa, fc, e4⟩ := nums_form a.hin.far
  obtain ⟨lb, cb, fb⟩ := a.blk.get
  have c5 : W.cell? ⟨p.b, 5, none⟩ = some v.l := cb 5
  have c6 : W.cell? ⟨p.b, 6, none⟩ = some v.h := cb 6
  have c7 : W.cell? ⟨p.b, 7, none⟩ = some v.o := cb 7
  have c8 : W.cell? ⟨p.b, 8, none⟩ = some v.f := cb 8
  have hp : v.part q = if q = 1 then v.l else if q = 2 then v.h else if q = 3 then v.o else v.f := rfl
  rw [hp]
  rw [e1] at c5
  rw [e2] at c6
  rw [e3] at c7
  rw [e4] at c8
  rw [e1, e2, e3, e4]
  clear e1 e2 e3 e4 cb fb hp a
  generalize h.low.length = nl at *
  generalize h.high.length = nh at *
  generalize h.old.length = no at *
  generalize h.far.length = nf at *
  generalize p.b = b at *
  obtain ⟨q1, q2⟩ := hq
  rcases (show q = 1 ∨ q = 2 ∨ q = 3 ∨ q = 4 by omega) with rfl | rfl | rfl | rfl
  · have hwz : IntKind.i64.wrap 0 = 0 := by decide
    have hix : ∀ W, Sem.run Try.prog (Instr.index 125 (.agg #[.slice la nl lc, .slice ha nh hc, .slice oa no oc, .slice fa nf fc]) (.int .i64 0)) W = .ok (.slice la nl lc) W := fun W => by kernel_rfl
    go_enter Try.func47, Try.ntmps47
    go_wp2_with fail
    go_quiet (fail)
    go_wp2_with fail
    go_ret
    refine ⟨rfl, ?_⟩
    (repeat (first | with_reducible exact Below.refl _ _ | with_reducible refine kp_alloc ?_ _ | with_reducible refine kp_drew ?_ | with_reducible refine below_drewN ?_ _ | with_reducible refine kp_set ?_ (by first | omega | (simp; done) | (simp; omega)) _ | with_reducible refine kp_tr ?_ (by with_reducible assumption)))
  · have hwz : IntKind.i64.wrap 1 = 1 := by decide
    have hix : ∀ W, Sem.run Try.prog (Instr.index 125 (.agg #[.slice la nl lc, .slice ha nh hc, .slice oa no oc, .slice fa nf fc]) (.int .i64 1)) W = .ok (.slice ha nh hc) W := fun W => by kernel_rfl
    go_enter Try.func47, Try.ntmps47
    go_wp2_with fail
    go_quiet (fail)
    go_wp2_with fail
    go_ret
    refine ⟨rfl, ?_⟩
    (repeat (first | with_reducible exact Below.refl _ _ | with_reducible refine kp_alloc ?_ _ | with_reducible refine kp_drew ?_ | with_reducible refine below_drewN ?_ _ | with_reducible refine kp_set ?_ (by first | omega | (simp; done) | (simp; omega)) _ | with_reducible refine kp_tr ?_ (by with_reducible assumption)))
  · have hwz : IntKind.i64.wrap 2 = 2 := by decide
    have hix : ∀ W, Sem.run Try.prog (Instr.index 125 (.agg #[.slice la nl lc, .slice ha nh hc, .slice oa no oc, .slice fa nf fc]) (.int .i64 2)) W = .ok (.slice oa no oc) W := fun W => by kernel_rfl
    go_enter Try.func47, Try.ntmps47
    go_wp2_with fail
    go_quiet (fail)
    go_wp2_with fail
    go_ret
    refine ⟨rfl, ?_⟩
    (repeat (first | with_reducible exact Below.refl _ _ | with_reducible refine kp_alloc ?_ _ | with_reducible refine kp_drew ?_ | with_reducible refine below_drewN ?_ _ | with_reducible refine kp_set ?_ (by first | omega | (simp; done) | (simp; omega)) _ | with_reducible refine kp_tr ?_ (by with_reducible assumption)))
  · have hwz : IntKind.i64.wrap 3 = 3 := by decide
    have hix : ∀ W, Sem.run Try.prog (Instr.index 125 (.agg #[.slice la nl lc, .slice ha nh hc, .slice oa no oc, .slice fa nf fc]) (.int .i64 3)) W = .ok (.slice fa nf fc) W := fun W => by kernel_rfl
    go_enter Try.func47, Try.ntmps47
    go_wp2_with fail
    go_quiet (fail)
    go_wp2_with fail
    go_ret
    refine ⟨rfl, ?_⟩
    (repeat (first | with_reducible exact Below.refl _ _ | with_reducible refine kp_alloc ?_ _ | with_reducible refine kp_drew ?_ | with_reducible refine below_drewN ?_ _ | with_reducible refine kp_set ?_ (by first | omega | (simp; done) | (simp; omega)) _ | with_reducible refine kp_tr ?_ (by with_reducible assumption)))
theorem K64_of {x : Int} (h : 0 ≤ x ∧ x < 18446744073709551616) : K64 (adV x) := by
  unfold K64 adV
  split <;> omega
theorem points_any (a : St w0 W p h v s ov) (x lo hi : Int) (hx : 0 ≤ x ∧ x < 18446744073709551616) :
    Calls Try.prog 51 #[.pointer (some ⟨p.b, 0, none⟩), .int .u64 x, .int .i64 lo, .int .i64 hi] W fun e w' => e = .returned (.bool (pointsB s.pf x lo hi)) ∧ W = w' := by
  obtain ⟨lb, cb, fb⟩ := a.blk.get
  have c5 : W.cell? ⟨p.b, 21, none⟩ = some (.map (some p.bp)) := cb 21
  obtain ⟨n, hn, hm⟩ := a.pm
  have hk := K64_of hx
  have HP : Hid (pointsB s.pf x lo hi = (decide (x = 0) || (decide (adE x = 0) && (match s.pf (adV x) with | none => false | some q => decide (lo ≤ q ∧ q ≤ hi))))) := rfl
  have HA : Hid (∀ W, Calls Try.prog 10 #[.int .u64 x] W fun e w' => e = .returned (.tuple #[.int .u64 (adV x), .int .i64 (adE x)]) ∧ W = w') := Lib.hid fun W => addr_any x W hx.1 hx.2
  have HM : Hid (MapIs Try.prog 24 W p.bp n (pfV s.pf)) := Lib.hid hm
  clear a cb fb hm hn
  generalize p.b = b at *
  generalize p.bp = bp at *
  generalize s.pf = f at *
  have HF : Hid (f (adV x) = none ∧ pfV f (adV x) = none ∨ ∃ q, f (adV x) = some q ∧ pfV f (adV x) = some (.int .i64 q)) := by
    unfold pfV
    rcases f (adV x) with _ | q
    · exact .inl ⟨rfl, rfl⟩
    · exact .inr ⟨q, rfl, rfl⟩
  generalize adV x = y at *
  generalize hE : adE x = z at *
  generalize hR : pointsB f x lo hi = R at *
  clear hE hR
  by_cases h0 : x = 0
  · subst h0
    obtain rfl : R = true := by rw [HP.out]; rfl
    go_enter Try.func51, Try.ntmps51
    go_wp2_with fail
    go_ret
    exact ⟨rfl, rfl⟩
  have h0b : (x == 0) = false := beq_eq_false_iff_ne.mpr h0
  by_cases h1 : z = 0
  · subst h1
    rcases HF.out with ⟨g1, g2⟩ | ⟨q, g1, g2⟩
    · obtain rfl : R = false := by rw [HP.out, g1]; simp [h0]
      have hz : (zeroValue 3).run Try.prog W = .ok (.int .i64 0) W := by rw [Try.zeroValue3]
      go_enter Try.func51, Try.ntmps51
      go_wp2_with fail
      refine (HA.out _).mono ?_; rintro e ww ⟨rfl, rfl⟩
      go_wp2_with (at_lookup; refine wp_look_ok (n := n) (b := bp) (k := 24) (f := pfV f) W rfl _ _ _ rfl 3 Try.underlying24 Try.underlying77 (.int .i64 0) hz rfl HM.out y rfl hk ?_; rw [g2])
      go_ret
      exact ⟨rfl, rfl⟩
    · have hz : (zeroValue 3).run Try.prog W = .ok (.int .i64 0) W := by rw [Try.zeroValue3]
      go_enter Try.func51, Try.ntmps51
      go_wp2_with fail
      refine (HA.out _).mono ?_; rintro e ww ⟨rfl, rfl⟩
      go_wp2_with (at_lookup; refine wp_look_ok (n := n) (b := bp) (k := 24) (f := pfV f) W rfl _ _ _ rfl 3 Try.underlying24 Try.underlying77 (.int .i64 0) hz rfl HM.out y rfl hk ?_; rw [g2])
      all_goals go_ret
      all_goals refine retB (by rw [HP.out, g1, Bool.eq_iff_iff]; simp [h0]; try omega) rfl
  · obtain rfl : R = false := by rw [HP.out]; simp [h0, h1]
    have h1b : (z == 0) = false := beq_eq_false_iff_ne.mpr h1
    go_enter Try.func51, Try.ntmps51
    go_wp2_with fail
    refine (HA.out _).mono ?_; rintro e ww ⟨rfl, rfl⟩
    go_wp2_with fail
    go_ret
    exact ⟨rfl, rfl⟩
end Go.Proofs.Ytpgjploaliefdaa.ck
