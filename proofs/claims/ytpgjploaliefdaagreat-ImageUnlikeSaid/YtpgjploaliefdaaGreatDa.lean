/- check: bounded, resting. No conditions. -/
import Derived.Test.YtpgjploaliefdaaGreatTk
import Derived.Test.YtpgjploaliefdaaGreatG12
namespace Go.Proofs.YtpgjploaliefdaaGreat.ck
open Go Go.RowKit hp ob hd cp mp cm
set_option linter.unusedVariables false
set_option linter.unusedSimpArgs false
set_option maxRecDepth 100000
set_option maxHeartbeats 2000000
variable {w0 w W : World} {p : Pl} {h : Hp} {v : Hv} {s : Fnd} {ov : Ov}
theorem sb_tr {W w1 : World} {b : Nat} (hb : Below W.heap.size W w1) (hn : b < W.heap.size) {o1 o2 o3 o4 o5 o6 o7 o8 o9 o10 : Nat} {v1 v2 v3 v4 v5 v6 v7 v8 v9 v10 : Value} (h : W.cell? ⟨b, o1, none⟩ = some v1 ∧ W.cell? ⟨b, o2, none⟩ = some v2 ∧ W.cell? ⟨b, o3, none⟩ = some v3 ∧ W.cell? ⟨b, o4, none⟩ = some v4 ∧ W.cell? ⟨b, o5, none⟩ = some v5 ∧ W.cell? ⟨b, o6, none⟩ = some v6 ∧ W.cell? ⟨b, o7, none⟩ = some v7 ∧ W.cell? ⟨b, o8, none⟩ = some v8 ∧ W.cell? ⟨b, o9, none⟩ = some v9 ∧ W.cell? ⟨b, o10, none⟩ = some v10) :
  w1.cell? ⟨b, o1, none⟩ = some v1 ∧ w1.cell? ⟨b, o2, none⟩ = some v2 ∧ w1.cell? ⟨b, o3, none⟩ = some v3 ∧ w1.cell? ⟨b, o4, none⟩ = some v4 ∧ w1.cell? ⟨b, o5, none⟩ = some v5 ∧ w1.cell? ⟨b, o6, none⟩ = some v6 ∧ w1.cell? ⟨b, o7, none⟩ = some v7 ∧ w1.cell? ⟨b, o8, none⟩ = some v8 ∧ w1.cell? ⟨b, o9, none⟩ = some v9 ∧ w1.cell? ⟨b, o10, none⟩ = some v10 := by
 have hc : ∀ o, w1.cell? ⟨b, o, none⟩ = W.cell? ⟨b, o, none⟩ := fun o => hb.cell (p := ⟨b, o, none⟩) hn
 rw [hc, hc, hc, hc, hc, hc, hc, hc, hc, hc]
 exact h
theorem bounded_any (a : St w0 W p h v s ov) : Calls Tryz.prog 94 #[.pointer (some ⟨p.b, 0, none⟩)] W fun e w' => e = .returned (.bool (boundedB h)) ∧ Below W.heap.size W w' := by
 obtain ⟨lb, cb, fb⟩ := a.blk.get
 obtain ⟨la, lc, e1⟩ := nums_form a.hin.low
 obtain ⟨ra, rc, e2⟩ := nums_form a.hin.roots
 have c5 : W.cell? ⟨p.b, 5, none⟩ = some v.l := cb 5
 have c9 : W.cell? ⟨p.b, 9, none⟩ = some v.r := cb 9
 rw [e1] at c5
 rw [e2] at c9
 have hcc : W.cell? ⟨p.b, 10, none⟩ = some (.int .u64 h.base) ∧ W.cell? ⟨p.b, 11, none⟩ = some (.int .i64 h.cap) ∧ W.cell? ⟨p.b, 12, none⟩ = some (.int .i64 h.tt) ∧ W.cell? ⟨p.b, 13, none⟩ = some (.int .i64 h.low.length) ∧ W.cell? ⟨p.b, 14, none⟩ = some (.int .i64 h.high.length) ∧ W.cell? ⟨p.b, 15, none⟩ = some (.int .i64 h.old.length) ∧ W.cell? ⟨p.b, 16, none⟩ = some (.int .i64 h.far.length) ∧ W.cell? ⟨p.b, 9, none⟩ = some (.slice ra h.roots.length rc) ∧ W.cell? ⟨p.b, 4, none⟩ = some (.int .i64 h.scan) ∧ W.cell? ⟨p.b, 5, none⟩ = some (.slice la h.low.length lc) :=
  ⟨cb 10, cb 11, cb 12, cb 13, cb 14, cb 15, cb 16, c9, cb 4, c5⟩
 have HL : Hid (∀ W, Calls Tryz.prog 106 #[layV h.lay] W fun e w' => e = .returned (.bool (layR h.lay)) ∧ Below W.heap.size W w') := Lib.hid fun W => right_lay _ W a.hin.ok
 have HR : Hid (boundedB h = (layR h.lay && decide (h.roots.length ≤ 16 ∧ 0 ≤ h.scan ∧ h.scan ≤ h.low.length))) := rfl
 generalize boundedB h = R at *
 generalize layR h.lay = L at *
 clear a cb fb c5 c9 e1 e2
 obtain ⟨base, cap, tt, cyc, scan, low, high, old, far, roots⟩ := h
 unfold layV Hp.lay at *
 dsimp only at *
 generalize low.length = nl at *
 generalize high.length = nh at *
 generalize old.length = no at *
 generalize far.length = nf at *
 generalize roots.length = nr at *
 generalize p.b = b at *
 rcases L with _ | _
 ·obtain rfl : R = false := by rw [HR.out]; rfl
  go_enter Tryz.func94, Tryz.ntmps94
  go_wp2_with fail
  refine wp_region_held_drew (S := (fun w' => w'.cell? ⟨b, 10, none⟩ = some (.int .u64 base) ∧ w'.cell? ⟨b, 11, none⟩ = some (.int .i64 cap) ∧ w'.cell? ⟨b, 12, none⟩ = some (.int .i64 tt) ∧ w'.cell? ⟨b, 13, none⟩ = some (.int .i64 nl) ∧ w'.cell? ⟨b, 14, none⟩ = some (.int .i64 nh) ∧ w'.cell? ⟨b, 15, none⟩ = some (.int .i64 no) ∧ w'.cell? ⟨b, 16, none⟩ = some (.int .i64 nf) ∧ w'.cell? ⟨b, 9, none⟩ = some (.slice ra nr rc) ∧ w'.cell? ⟨b, 4, none⟩ = some (.int .i64 scan) ∧ w'.cell? ⟨b, 5, none⟩ = some (.slice la nl lc))) (by kernel_rfl) ?_ (fun hHeld => ?_)
  ·(try dsimp only); refine sb_tr (W := W) ?_ lb hcc; exact bm
  refine tk 0 ?_
  refine tk 1 ?_
  refine tk 2 ?_
  refine tk 3 ?_
  refine co 4 fun K hK => ?_
  go_simp
  go_at_call 106; refine (HL.out _).mono ?_; rintro e w2 ⟨rfl, k2⟩; go_wp2_with fail
  refine hK.out _ _ ?_ (fun hHeld => ?_)
  ·(try dsimp only); refine sb_tr (W := W) ?_ lb hcc; exact bm
  clear hK K
  refine nx ?_
  refine tk 5 ?_
  refine sk 6 ?_
  refine sk 7 ?_
  refine sk 8 ?_
  refine sk 9 ?_
  refine sk 10 ?_
  refine sk 11 ?_
  refine sk 12 ?_
  refine tk 13 ?_
  refine tk 14 ?_
  refine sk 15 ?_
  refine sk 16 ?_
  refine sk 17 ?_
  refine sk 18 ?_
  refine sk 19 ?_
  refine sk 20 ?_
  refine tk 21 ?_
  refine tk 22 ?_
  refine sk 23 ?_
  refine sk 24 ?_
  refine sk 25 ?_
  refine sk 26 ?_
  refine sk 27 ?_
  refine sk 28 ?_
  refine sk 29 ?_
  refine sk 30 ?_
  refine sk 31 ?_
  refine sk 32 ?_
  refine sk 33 ?_
  refine sk 34 ?_
  refine tk 35 ?_
  refine tk 36 ?_
  refine wpAnyH_done (by kernel_rfl) ?_ _
  go_wp2_with fail
  go_ret
  refine ⟨rfl, ?_⟩
  exact bm
 by_cases h1 : ¬ nr ≤ 16
 ·have d1 : decide ((nr : Int) ≤ 16) = false := decide_eq_false (by omega)
  obtain rfl : R = false := by rw [HR.out]; simp; omega
  go_enter Tryz.func94, Tryz.ntmps94
  go_wp2_with fail
  refine wp_region_held_drew (S := (fun w' => w'.cell? ⟨b, 10, none⟩ = some (.int .u64 base) ∧ w'.cell? ⟨b, 11, none⟩ = some (.int .i64 cap) ∧ w'.cell? ⟨b, 12, none⟩ = some (.int .i64 tt) ∧ w'.cell? ⟨b, 13, none⟩ = some (.int .i64 nl) ∧ w'.cell? ⟨b, 14, none⟩ = some (.int .i64 nh) ∧ w'.cell? ⟨b, 15, none⟩ = some (.int .i64 no) ∧ w'.cell? ⟨b, 16, none⟩ = some (.int .i64 nf) ∧ w'.cell? ⟨b, 9, none⟩ = some (.slice ra nr rc) ∧ w'.cell? ⟨b, 4, none⟩ = some (.int .i64 scan) ∧ w'.cell? ⟨b, 5, none⟩ = some (.slice la nl lc))) (by kernel_rfl) ?_ (fun hHeld => ?_)
  ·(try dsimp only); refine sb_tr (W := W) ?_ lb hcc; exact bm
  refine tk 0 ?_
  refine tk 1 ?_
  refine tk 2 ?_
  refine tk 3 ?_
  refine co 4 fun K hK => ?_
  go_simp
  go_at_call 106; refine (HL.out _).mono ?_; rintro e w2 ⟨rfl, k2⟩; go_wp2_with fail
  refine hK.out _ _ ?_ (fun hHeld => ?_)
  ·(try dsimp only); refine sb_tr (W := W) ?_ lb hcc; exact bm
  clear hK K
  refine nx ?_
  refine tk 5 ?_
  refine tk 6 ?_
  refine tk 7 ?_
  refine tk 8 ?_
  refine tk 9 ?_
  refine tk 10 ?_
  refine tk 11 ?_
  refine tk 12 ?_
  refine tk 13 ?_
  refine tk 14 ?_
  refine sk 15 ?_
  refine sk 16 ?_
  refine sk 17 ?_
  refine sk 18 ?_
  refine sk 19 ?_
  refine sk 20 ?_
  refine tk 21 ?_
  refine tk 22 ?_
  refine sk 23 ?_
  refine sk 24 ?_
  refine sk 25 ?_
  refine sk 26 ?_
  refine sk 27 ?_
  refine sk 28 ?_
  refine sk 29 ?_
  refine sk 30 ?_
  refine sk 31 ?_
  refine sk 32 ?_
  refine sk 33 ?_
  refine sk 34 ?_
  refine tk 35 ?_
  refine tk 36 ?_
  refine wpAnyH_done (by kernel_rfl) ?_ _
  go_wp2_with fail
  go_ret
  refine ⟨rfl, ?_⟩
  exact bm
 have d1 : decide ((nr : Int) ≤ 16) = true := decide_eq_true (by omega)
 by_cases h2 : ¬ 0 ≤ scan
 ·have d2 : decide ((0 : Int) ≤ scan) = false := decide_eq_false (by omega)
  obtain rfl : R = false := by rw [HR.out]; simp; omega
  go_enter Tryz.func94, Tryz.ntmps94
  go_wp2_with fail
  refine wp_region_held_drew (S := (fun w' => w'.cell? ⟨b, 10, none⟩ = some (.int .u64 base) ∧ w'.cell? ⟨b, 11, none⟩ = some (.int .i64 cap) ∧ w'.cell? ⟨b, 12, none⟩ = some (.int .i64 tt) ∧ w'.cell? ⟨b, 13, none⟩ = some (.int .i64 nl) ∧ w'.cell? ⟨b, 14, none⟩ = some (.int .i64 nh) ∧ w'.cell? ⟨b, 15, none⟩ = some (.int .i64 no) ∧ w'.cell? ⟨b, 16, none⟩ = some (.int .i64 nf) ∧ w'.cell? ⟨b, 9, none⟩ = some (.slice ra nr rc) ∧ w'.cell? ⟨b, 4, none⟩ = some (.int .i64 scan) ∧ w'.cell? ⟨b, 5, none⟩ = some (.slice la nl lc))) (by kernel_rfl) ?_ (fun hHeld => ?_)
  ·(try dsimp only); refine sb_tr (W := W) ?_ lb hcc; exact bm
  refine tk 0 ?_
  refine tk 1 ?_
  refine tk 2 ?_
  refine tk 3 ?_
  refine co 4 fun K hK => ?_
  go_simp
  go_at_call 106; refine (HL.out _).mono ?_; rintro e w2 ⟨rfl, k2⟩; go_wp2_with fail
  refine hK.out _ _ ?_ (fun hHeld => ?_)
  ·(try dsimp only); refine sb_tr (W := W) ?_ lb hcc; exact bm
  clear hK K
  refine nx ?_
  refine tk 5 ?_
  refine tk 6 ?_
  refine tk 7 ?_
  refine tk 8 ?_
  refine tk 9 ?_
  refine tk 10 ?_
  refine tk 11 ?_
  refine tk 12 ?_
  refine tk 13 ?_
  refine tk 14 ?_
  refine tk 15 ?_
  refine tk 16 ?_
  refine tk 17 ?_
  refine tk 18 ?_
  refine tk 19 ?_
  refine tk 20 ?_
  refine tk 21 ?_
  refine tk 22 ?_
  refine sk 23 ?_
  refine sk 24 ?_
  refine sk 25 ?_
  refine sk 26 ?_
  refine sk 27 ?_
  refine sk 28 ?_
  refine sk 29 ?_
  refine sk 30 ?_
  refine sk 31 ?_
  refine sk 32 ?_
  refine sk 33 ?_
  refine sk 34 ?_
  refine tk 35 ?_
  refine tk 36 ?_
  refine wpAnyH_done (by kernel_rfl) ?_ _
  go_wp2_with fail
  go_ret
  refine ⟨rfl, ?_⟩
  exact bm
 have d2 : decide ((0 : Int) ≤ scan) = true := decide_eq_true (by omega)
 by_cases h3 : ¬ scan ≤ nl
 ·have d3 : decide (scan ≤ (nl : Int)) = false := decide_eq_false (by omega)
  obtain rfl : R = false := by rw [HR.out]; simp; omega
  go_enter Tryz.func94, Tryz.ntmps94
  go_wp2_with fail
  refine wp_region_held_drew (S := (fun w' => w'.cell? ⟨b, 10, none⟩ = some (.int .u64 base) ∧ w'.cell? ⟨b, 11, none⟩ = some (.int .i64 cap) ∧ w'.cell? ⟨b, 12, none⟩ = some (.int .i64 tt) ∧ w'.cell? ⟨b, 13, none⟩ = some (.int .i64 nl) ∧ w'.cell? ⟨b, 14, none⟩ = some (.int .i64 nh) ∧ w'.cell? ⟨b, 15, none⟩ = some (.int .i64 no) ∧ w'.cell? ⟨b, 16, none⟩ = some (.int .i64 nf) ∧ w'.cell? ⟨b, 9, none⟩ = some (.slice ra nr rc) ∧ w'.cell? ⟨b, 4, none⟩ = some (.int .i64 scan) ∧ w'.cell? ⟨b, 5, none⟩ = some (.slice la nl lc))) (by kernel_rfl) ?_ (fun hHeld => ?_)
  ·(try dsimp only); refine sb_tr (W := W) ?_ lb hcc; exact bm
  refine tk 0 ?_
  refine tk 1 ?_
  refine tk 2 ?_
  refine tk 3 ?_
  refine co 4 fun K hK => ?_
  go_simp
  go_at_call 106; refine (HL.out _).mono ?_; rintro e w2 ⟨rfl, k2⟩; go_wp2_with fail
  refine hK.out _ _ ?_ (fun hHeld => ?_)
  ·(try dsimp only); refine sb_tr (W := W) ?_ lb hcc; exact bm
  clear hK K
  refine nx ?_
  refine tk 5 ?_
  refine tk 6 ?_
  refine tk 7 ?_
  refine tk 8 ?_
  refine tk 9 ?_
  refine tk 10 ?_
  refine tk 11 ?_
  refine tk 12 ?_
  refine tk 13 ?_
  refine tk 14 ?_
  refine tk 15 ?_
  refine tk 16 ?_
  refine tk 17 ?_
  refine tk 18 ?_
  refine tk 19 ?_
  refine tk 20 ?_
  refine tk 21 ?_
  refine tk 22 ?_
  refine tk 23 ?_
  refine tk 24 ?_
  refine tk 25 ?_
  refine tk 26 ?_
  refine tk 27 ?_
  refine tk 28 ?_
  refine tk 29 ?_
  refine tk 30 ?_
  refine tk 31 ?_
  refine tk 32 ?_
  refine tk 33 ?_
  refine tk 34 ?_
  refine tk 35 ?_
  refine tk 36 ?_
  refine wpAnyH_done (by kernel_rfl) ?_ _
  go_wp2_with fail
  go_ret
  refine ⟨rfl, ?_⟩
  exact bm
 have d3 : decide (scan ≤ (nl : Int)) = true := decide_eq_true (by omega)
 obtain rfl : R = true := by rw [HR.out]; simp; omega
 go_enter Tryz.func94, Tryz.ntmps94
 go_wp2_with fail
 refine wp_region_held_drew (S := (fun w' => w'.cell? ⟨b, 10, none⟩ = some (.int .u64 base) ∧ w'.cell? ⟨b, 11, none⟩ = some (.int .i64 cap) ∧ w'.cell? ⟨b, 12, none⟩ = some (.int .i64 tt) ∧ w'.cell? ⟨b, 13, none⟩ = some (.int .i64 nl) ∧ w'.cell? ⟨b, 14, none⟩ = some (.int .i64 nh) ∧ w'.cell? ⟨b, 15, none⟩ = some (.int .i64 no) ∧ w'.cell? ⟨b, 16, none⟩ = some (.int .i64 nf) ∧ w'.cell? ⟨b, 9, none⟩ = some (.slice ra nr rc) ∧ w'.cell? ⟨b, 4, none⟩ = some (.int .i64 scan) ∧ w'.cell? ⟨b, 5, none⟩ = some (.slice la nl lc))) (by kernel_rfl) ?_ (fun hHeld => ?_)
 ·(try dsimp only); refine sb_tr (W := W) ?_ lb hcc; exact bm
 refine tk 0 ?_
 refine tk 1 ?_
 refine tk 2 ?_
 refine tk 3 ?_
 refine co 4 fun K hK => ?_
 go_simp
 go_at_call 106; refine (HL.out _).mono ?_; rintro e w2 ⟨rfl, k2⟩; go_wp2_with fail
 refine hK.out _ _ ?_ (fun hHeld => ?_)
 ·(try dsimp only); refine sb_tr (W := W) ?_ lb hcc; exact bm
 clear hK K
 refine nx ?_
 refine tk 5 ?_
 refine tk 6 ?_
 refine tk 7 ?_
 refine tk 8 ?_
 refine tk 9 ?_
 refine tk 10 ?_
 refine tk 11 ?_
 refine tk 12 ?_
 refine tk 13 ?_
 refine tk 14 ?_
 refine tk 15 ?_
 refine tk 16 ?_
 refine tk 17 ?_
 refine tk 18 ?_
 refine tk 19 ?_
 refine tk 20 ?_
 refine tk 21 ?_
 refine tk 22 ?_
 refine tk 23 ?_
 refine tk 24 ?_
 refine tk 25 ?_
 refine tk 26 ?_
 refine tk 27 ?_
 refine tk 28 ?_
 refine tk 29 ?_
 refine tk 30 ?_
 refine tk 31 ?_
 refine tk 32 ?_
 refine tk 33 ?_
 refine tk 34 ?_
 refine tk 35 ?_
 refine tk 36 ?_
 refine wpAnyH_done (by kernel_rfl) ?_ _
 go_wp2_with fail
 go_ret
 refine ⟨rfl, ?_⟩
 exact bm
end Go.Proofs.YtpgjploaliefdaaGreat.ck
