/- check.Right, check.Objects. No conditions. -/
import Derived.Test.YtpgjploaliefdaaDh
namespace Go.Proofs.Ytpgjploaliefdaa.ck
open Go Go.RowKit Go.Proofs.Ytpgjploaliefdaa.hp Go.Proofs.Ytpgjploaliefdaa.ob Go.Proofs.Ytpgjploaliefdaa.hd Go.Proofs.Ytpgjploaliefdaa.cp Go.Proofs.Ytpgjploaliefdaa.mp Go.Proofs.Ytpgjploaliefdaa.cm Go.Proofs.Ytpgjploaliefdaa.gr
set_option linter.unusedVariables false
set_option linter.unusedSimpArgs false
set_option maxRecDepth 100000
set_option maxHeartbeats 4000000
variable {w0 w W : World} {p : Pl} {h : Hp} {v : Hv} {s : Fnd} {ov : Ov}
theorem right_any (h : Hp) (v : Hv) (w : World) (hin : HIn w h v) : Calls Try.prog 16 #[hpV h v] w fun e w' => e = .returned (.bool (lookF h).isSome) ∧ Below w.heap.size w w' := by
  have HL : Hid (∀ W, HIn W h v → Calls Try.prog 28 #[hpV h v] W fun e w' => LookPost W h v e w') := Lib.hid fun W hin => look_any h v W hin
  have HIN := Lib.hid hin
  obtain ⟨la, lc, e1⟩ := nums_form hin.low
  obtain ⟨ha, hc, e2⟩ := nums_form hin.high
  obtain ⟨oa, oc, e3⟩ := nums_form hin.old
  obtain ⟨fa, fc, e4⟩ := nums_form hin.far
  obtain ⟨ra, rc, e5⟩ := nums_form hin.roots
  clear hin
  obtain ⟨vl, vh, vo, vf, vr⟩ := v
  dsimp only at e1 e2 e3 e4 e5
  subst e1 e2 e3 e4 e5
  unfold hpV at *
  dsimp only at *
  have HI1 := Lib.hid (HIN.out.tr ((Below.refl _ _).alloc (Nat.le_refl _) (.cells #[.int .u64 h.base, .int .i64 h.cap, .int .i64 h.tt, .bool h.cyc, .int .i64 h.scan, .slice la h.low.length lc, .slice ha h.high.length hc, .slice oa h.old.length oc, .slice fa h.far.length fc, .slice ra h.roots.length rc] 40)))
  have HR : Hid ((lookF h).isSome = (lookF h).isSome) := rfl
  generalize hRR : (lookF h).isSome = R at *
  have HRR := Lib.hid hRR
  clear HR hRR
  go_enter Try.func16, Try.ntmps16
  go_wp2_with fail
  refine (HL.out _ HI1.out).mono ?_
  rintro e w1 (⟨hn, rfl, hb⟩ | ⟨p, s, ov, hn, rfl, hst⟩)
  · obtain rfl : R = false := by rw [← HRR.out, hn]; rfl
    have HB := Lib.hid hb
    clear hn hb
    go_wp2_with fail
    go_ret
    refine ⟨rfl, ?_⟩
    have := HB.out
    (repeat (first | with_reducible exact Below.refl _ _ | with_reducible refine kp_alloc ?_ _ | with_reducible refine kp_drew ?_ | with_reducible refine below_drewN ?_ _ | with_reducible refine kp_set ?_ (by first | omega | (simp; done) | (simp; omega)) _ | with_reducible refine kp_tr ?_ (by with_reducible assumption)))
  · obtain rfl : R = true := by rw [← HRR.out, hn]; rfl
    have HB := Lib.hid hst.bel
    clear hn hst
    go_wp2_with fail
    go_ret
    refine ⟨rfl, ?_⟩
    have := HB.out
    (repeat (first | with_reducible exact Below.refl _ _ | with_reducible refine kp_alloc ?_ _ | with_reducible refine kp_drew ?_ | with_reducible refine below_drewN ?_ _ | with_reducible refine kp_set ?_ (by first | omega | (simp; done) | (simp; omega)) _ | with_reducible refine kp_tr ?_ (by with_reducible assumption)))
/-- What check.Objects tells of a part. -/
def ObjsPost (w : World) (h : Hp) (q : Nat) (e : Ending) (w' : World) : Prop :=
  (lookF h = none ∧ e = .returned (.tuple #[.slice none 0 0, .int .i64 1])) ∨ (∃ s u, lookF h = some s ∧ e = .returned (.tuple #[u, .int .i64 0]) ∧ ObsAt w' w.heap.size u (s.obs q))
theorem objects_any (h : Hp) (v : Hv) (q : Nat) (hq : 1 ≤ q ∧ q ≤ 4) (w : World) (hin : HIn w h v) : Calls Try.prog 19 #[hpV h v, .int .i64 q] w fun e w' => ObjsPost w h q e w' ∧ Below w.heap.size w w' := by
  have HL : Hid (∀ W, HIn W h v → Calls Try.prog 28 #[hpV h v] W fun e w' => LookPost W h v e w') := Lib.hid fun W hin => look_any h v W hin
  have HIN := Lib.hid hin
  obtain ⟨la, lc, e1⟩ := nums_form hin.low
  obtain ⟨ha, hc, e2⟩ := nums_form hin.high
  obtain ⟨oa, oc, e3⟩ := nums_form hin.old
  obtain ⟨fa, fc, e4⟩ := nums_form hin.far
  obtain ⟨ra, rc, e5⟩ := nums_form hin.roots
  clear hin
  obtain ⟨vl, vh, vo, vf, vr⟩ := v
  dsimp only at e1 e2 e3 e4 e5
  subst e1 e2 e3 e4 e5
  unfold hpV at *
  dsimp only at *
  have HI1 := Lib.hid (HIN.out.tr ((Below.refl _ _).alloc (Nat.le_refl _) (.cells #[.int .u64 h.base, .int .i64 h.cap, .int .i64 h.tt, .bool h.cyc, .int .i64 h.scan, .slice la h.low.length lc, .slice ha h.high.length hc, .slice oa h.old.length oc, .slice fa h.far.length fc, .slice ra h.roots.length rc] 40)))
  obtain ⟨hq1, hq2⟩ := hq
  have i1 : ¬ (q : Int) < 1 := by omega
  have i2 : ¬ (4 : Int) < q := by omega
  go_enter Try.func19, Try.ntmps19
  go_wp2_with fail
  refine (HL.out _ HI1.out).mono ?_
  rintro e w1 (⟨hn, rfl, hb⟩ | ⟨p, s, ov, hn, rfl, hst⟩)
  · have HB := Lib.hid hb
    have HN := Lib.hid hn
    clear hn hb
    go_wp2_with fail
    go_ret2
    refine ⟨.inl ⟨HN.out, rfl⟩, ?_⟩
    have := HB.out
    (repeat (first | with_reducible exact Below.refl _ _ | with_reducible refine kp_alloc ?_ _ | with_reducible refine kp_drew ?_ | with_reducible refine below_drewN ?_ _ | with_reducible refine kp_set ?_ (by first | omega | (simp; done) | (simp; omega)) _ | with_reducible refine kp_tr ?_ (by with_reducible assumption)))
  · have HB := Lib.hid hst.bel
    have HN := Lib.hid hn
    have HS := Lib.hid hst
    obtain ⟨lb, cb, fb⟩ := hst.blk.get
    have hcq : w1.cell? ⟨p.b, 17 + (q - 1), none⟩ = some (ov.part q) := (cb _).trans (ov_cell _ _ _ _ _ _ ⟨hq1, hq2⟩)
    obtain ⟨oa', oc', eo⟩ := obs_form (hst.obs q).1
    rw [eo] at hcq
    clear hn hst cb fb
    go_wp2_with fail
    go_ret2
    refine ⟨.inr ⟨s, _, HN.out, rfl, ?_⟩, ?_⟩
    · rw [← eo]
      have h1 := HS.out.ok.b0
      have h2 := HS.out.ok.b1
      exact obs_lift (HS.out.obs q).1 (by simp at h1; omega)
    · have := HB.out
      (repeat (first | with_reducible exact Below.refl _ _ | with_reducible refine kp_alloc ?_ _ | with_reducible refine kp_drew ?_ | with_reducible refine below_drewN ?_ _ | with_reducible refine kp_set ?_ (by first | omega | (simp; done) | (simp; omega)) _ | with_reducible refine kp_tr ?_ (by with_reducible assumption)))
end Go.Proofs.Ytpgjploaliefdaa.ck
