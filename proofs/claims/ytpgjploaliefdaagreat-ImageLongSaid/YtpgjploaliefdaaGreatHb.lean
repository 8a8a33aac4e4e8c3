/- places.Address, heap.Layout. No conditions. -/
import Derived.Test.YtpgjploaliefdaaGreatG05
import Derived.Test.YtpgjploaliefdaaGreatG08
namespace Go.Proofs.YtpgjploaliefdaaGreat.hp
open Go Go.RowKit Go.Proofs.YtpgjploaliefdaaGreat.cm Go.Proofs.YtpgjploaliefdaaGreat.cp Go.Proofs.YtpgjploaliefdaaGreat.ck
set_option linter.unusedVariables false
set_option linter.unusedSimpArgs false
set_option maxRecDepth 100000 in
set_option maxHeartbeats 4000000 in
theorem layout_any (h : Hp) (v : Hv) (w : World) (hin : HIn w h v) :
    Calls Tryz.prog 78 #[hpV h v] w fun e w' => e = .returned (layV h.lay) ∧ Below w.heap.size w w' := by
  obtain ⟨b0, b1, b2, b3, ⟨la, lb, lo, lc, e1, l1, l2, ⟨l3, l3'⟩, l4, l5⟩, ⟨ha, hb, ho, hc, e2, h1, h2, ⟨h3, h3'⟩, h4, h5⟩, ⟨oa, ob, oo, oc, e3, o1, o2, ⟨o3, o3'⟩, o4, o5⟩, ⟨fa, fb, fo, fc, e4, f1, f2, ⟨f3, f3'⟩, f4, f5⟩, ⟨ra, rb, ro, rc, e5, r1, r2, ⟨r3, r3'⟩, r4, r5⟩, s1, s2, s3, s4, s5⟩ := hin
  obtain ⟨vl, vh, vo, vf, vr⟩ := v
  obtain ⟨base, cap, tt, cyc, scan, low, high, old, far, roots⟩ := h
  dsimp only at *
  subst e1 e2 e3 e4 e5
  unfold hpV layV Hp.lay
  dsimp only
  clear l1 l5 h1 h5 o1 o5 f1 f5 r1 r5 s1 s2 s3 s4 s5 b0 b1 b2 b3
  generalize low.length = nl at *
  generalize high.length = nh at *
  generalize old.length = no at *
  generalize far.length = nf at *
  generalize roots.length = nr at *
  go_enter Tryz.func78, Tryz.ntmps78
  go_wp2_with fail
  refine bodyPost_ret (v := .agg #[.int .u64 base, .int .i64 cap, .int .i64 tt, .int .i64 nl, .int .i64 nh, .int .i64 no, .int .i64 nf]) (by simp only [results, Tryz.results78]; go_simp) rfl ⟨rfl, ?_⟩
  (repeat (first | with_reducible exact Below.refl _ _ | with_reducible refine kp_alloc ?_ _ | with_reducible refine kp_drew ?_ | with_reducible refine kp_set ?_ (by first | omega | (simp; done) | (simp; omega)) _ | with_reducible refine kp_tr ?_ (by with_reducible assumption)))
theorem s8_tr {W w1 : World} {n b c : Nat} (hb : Below n W w1) (hn : b < n) (hc : c < n) {v1 v2 v3 v4 v5 v6 v7 v8 : Value} (h : W.cell? ⟨b, 0, none⟩ = some v1 ∧ W.cell? ⟨b, 1, none⟩ = some v2 ∧ W.cell? ⟨b, 2, none⟩ = some v3 ∧ W.cell? ⟨b, 3, none⟩ = some v4 ∧ W.cell? ⟨b, 4, none⟩ = some v5 ∧ W.cell? ⟨b, 5, none⟩ = some v6 ∧ W.cell? ⟨b, 6, none⟩ = some v7 ∧ W.cell? ⟨c, 0, none⟩ = some v8) :
    w1.cell? ⟨b, 0, none⟩ = some v1 ∧ w1.cell? ⟨b, 1, none⟩ = some v2 ∧ w1.cell? ⟨b, 2, none⟩ = some v3 ∧ w1.cell? ⟨b, 3, none⟩ = some v4 ∧ w1.cell? ⟨b, 4, none⟩ = some v5 ∧ w1.cell? ⟨b, 5, none⟩ = some v6 ∧ w1.cell? ⟨b, 6, none⟩ = some v7 ∧ w1.cell? ⟨c, 0, none⟩ = some v8 := by
  have hc1 : ∀ o, w1.cell? ⟨b, o, none⟩ = W.cell? ⟨b, o, none⟩ := fun o => hb.cell (p := ⟨b, o, none⟩) hn
  have hc2 : ∀ o, w1.cell? ⟨c, o, none⟩ = W.cell? ⟨c, o, none⟩ := fun o => hb.cell (p := ⟨c, o, none⟩) hc
  rw [hc1, hc1, hc1, hc1, hc1, hc1, hc1, hc2]
  exact h
set_option maxRecDepth 100000 in
set_option maxHeartbeats 40000000 in
theorem address_1 (L : Lay) (x : Int) (w : World) (ok : L.ok) (hr : layR L = true) (hx : 0 ≤ x ∧ x < L.low) :
    Calls Tryz.prog 125 #[layV L, .agg #[.int .i64 1, .int .i64 x]] w fun e w' => e = .returned (.tuple #[.int .u64 (firstI L 1 + x), .int .i64 0]) ∧ Below w.heap.size w w' := by
  have R1 : Hid (∀ W, Calls Tryz.prog 106 #[layV L] W fun e w' => e = .returned (.bool true) ∧ Below W.heap.size W w') := Lib.hid fun W => by
    have := right_lay L W ok
    rw [hr] at this
    exact this
  have R2 : Hid (∀ W, Calls Tryz.prog 131 #[layV L] W fun e w' => e = .returned (spanV L) ∧ Below W.heap.size W w') := Lib.hid fun W => spans_any L W ok hr
  have hx3 := adr_pos hr (p := 1) (x := x) (by omega) hx
  have hx4 : x < 9223372036854775808 := by
    obtain ⟨_, _, _, ⟨_, h1⟩, ⟨_, h2⟩, ⟨_, h3⟩, ⟨_, h4⟩⟩ := ok
    omega
  unfold spanV at *
  obtain ⟨base, cap, tt, low, high, old, far⟩ := L
  unfold layV at *
  dsimp only at *
  clear ok hr
  generalize firstI ⟨base, cap, tt, low, high, old, far⟩ 1 = A at *
  generalize firstI ⟨base, cap, tt, low, high, old, far⟩ 2 = B at *
  generalize firstI ⟨base, cap, tt, low, high, old, far⟩ 3 = C at *
  generalize firstI ⟨base, cap, tt, low, high, old, far⟩ 4 = D at *
  obtain ⟨hx1, hx2⟩ := hx
  obtain ⟨hx3, hx5⟩ := hx3
  go_enter Tryz.func125, Tryz.ntmps125
  go_wp2_with fail
  have K0 : Blk ((w.alloc (.cells #[.int .u64 base, .int .i64 cap, .int .i64 tt, .int .i64 low, .int .i64 high, .int .i64 old, .int .i64 far] 117)).alloc (.cells #[.int .i64 1, .int .i64 x] 113)) w.heap.size #[.int .u64 base, .int .i64 cap, .int .i64 tt, .int .i64 low, .int .i64 high, .int .i64 old, .int .i64 far] 117 := (Blk.mk rfl).alloc _
  have K1 : Blk ((w.alloc (.cells #[.int .u64 base, .int .i64 cap, .int .i64 tt, .int .i64 low, .int .i64 high, .int .i64 old, .int .i64 far] 117)).alloc (.cells #[.int .i64 1, .int .i64 x] 113)) (w.heap.size + 1) #[.int .i64 1, .int .i64 x] 113 := Blk.mk (by simp)
  refine (R1.out _).mono ?_; rintro e w1 ⟨rfl, k1⟩
  replace K0 := K0.tr k1
  replace K1 := K1.tr k1
  have kW : Below w.heap.size w w1 := by (repeat (first | with_reducible exact Below.refl _ _ | with_reducible refine kp_alloc ?_ _ | with_reducible refine kp_drew ?_ | with_reducible refine kp_set ?_ (by first | omega | (simp; done) | (simp; omega)) _ | with_reducible refine kp_tr ?_ (by with_reducible assumption)))
  clear k1
  obtain ⟨l0, c0, f0⟩ := K0.get
  obtain ⟨l1, c1, f1⟩ := K1.get
  go_wp2_with fail
  have hwz : IntKind.i64.wrap 0 = 0 := by decide
  have hix : ∀ W, Sem.run Tryz.prog (Instr.index 203 (.agg #[.int .u64 A, .int .i64 low, .int .u64 B, .int .i64 high, .int .u64 C, .int .i64 old, .int .u64 D, .int .i64 far]) (.int .i64 0)) W = .ok (.agg #[.int .u64 A, .int .i64 low]) W := fun W => by kernel_rfl
  go_region_held3 (fun w' => w'.cell? ⟨w.heap.size, 0, none⟩ = some (.int .u64 base) ∧ w'.cell? ⟨w.heap.size, 1, none⟩ = some (.int .i64 cap) ∧ w'.cell? ⟨w.heap.size, 2, none⟩ = some (.int .i64 tt) ∧ w'.cell? ⟨w.heap.size, 3, none⟩ = some (.int .i64 low) ∧ w'.cell? ⟨w.heap.size, 4, none⟩ = some (.int .i64 high) ∧ w'.cell? ⟨w.heap.size, 5, none⟩ = some (.int .i64 old) ∧ w'.cell? ⟨w.heap.size, 6, none⟩ = some (.int .i64 far) ∧ w'.cell? ⟨w.heap.size + 1, 0, none⟩ = some (.int .i64 1))
    ((refine s8_tr (W := w1) (n := w1.heap.size) ?_ l0 l1 ⟨c0 0, c0 1, c0 2, c0 3, c0 4, c0 5, c0 6, c1 0⟩; (repeat (first | with_reducible exact Below.refl _ _ | with_reducible refine kp_alloc ?_ _ | with_reducible refine kp_drew ?_ | with_reducible refine kp_set ?_ (by first | omega | (simp; done) | (simp; omega)) _ | with_reducible refine kp_tr ?_ (by with_reducible assumption)))))
    (first
      | (go_at_call 131; refine (R2.out _).mono ?_; rintro e w2 ⟨rfl, k2⟩; obtain ⟨k2c, k2f⟩ := bcell k2; have kb : Below w1.heap.size w1 w2 := (by first | exact kp_tr (kp_drew (Below.refl _ _)) k2 | exact kp_tr (kp_alloc (kp_drew (Below.refl _ _)) _) k2); have k2z : w1.heap.size ≤ w2.heap.size := Nat.le_trans (by simp) k2.size))
  all_goals
    obtain ⟨m1, d1, g1⟩ := (K1.tr kb).get
    have n1 : ¬ w.heap.size + 1 = w2.heap.size := by omega
    have n2 : ¬ w.heap.size + 1 = w1.heap.size := by omega
    go_wp2_with fail
    go_ret2
    refine ⟨rfl, ?_⟩
    (repeat (first | with_reducible exact Below.refl _ _ | with_reducible refine kp_alloc ?_ _ | with_reducible refine kp_drew ?_ | with_reducible refine kp_set ?_ (by first | omega | (simp; done) | (simp; omega)) _ | with_reducible refine kp_tr ?_ (by with_reducible assumption)))
set_option maxRecDepth 100000 in
set_option maxHeartbeats 40000000 in
theorem address_2 (L : Lay) (x : Int) (w : World) (ok : L.ok) (hr : layR L = true) (hx : 0 ≤ x ∧ x < L.high) :
    Calls Tryz.prog 125 #[layV L, .agg #[.int .i64 2, .int .i64 x]] w fun e w' => e = .returned (.tuple #[.int .u64 (firstI L 2 + x), .int .i64 0]) ∧ Below w.heap.size w w' := by
  have R1 : Hid (∀ W, Calls Tryz.prog 106 #[layV L] W fun e w' => e = .returned (.bool true) ∧ Below W.heap.size W w') := Lib.hid fun W => by
    have := right_lay L W ok
    rw [hr] at this
    exact this
  have R2 : Hid (∀ W, Calls Tryz.prog 131 #[layV L] W fun e w' => e = .returned (spanV L) ∧ Below W.heap.size W w') := Lib.hid fun W => spans_any L W ok hr
  have hx3 := adr_pos hr (p := 2) (x := x) (by omega) hx
  have hx4 : x < 9223372036854775808 := by
    obtain ⟨_, _, _, ⟨_, h1⟩, ⟨_, h2⟩, ⟨_, h3⟩, ⟨_, h4⟩⟩ := ok
    omega
  unfold spanV at *
  obtain ⟨base, cap, tt, low, high, old, far⟩ := L
  unfold layV at *
  dsimp only at *
  clear ok hr
  generalize firstI ⟨base, cap, tt, low, high, old, far⟩ 1 = A at *
  generalize firstI ⟨base, cap, tt, low, high, old, far⟩ 2 = B at *
  generalize firstI ⟨base, cap, tt, low, high, old, far⟩ 3 = C at *
  generalize firstI ⟨base, cap, tt, low, high, old, far⟩ 4 = D at *
  obtain ⟨hx1, hx2⟩ := hx
  obtain ⟨hx3, hx5⟩ := hx3
  go_enter Tryz.func125, Tryz.ntmps125
  go_wp2_with fail
  have K0 : Blk ((w.alloc (.cells #[.int .u64 base, .int .i64 cap, .int .i64 tt, .int .i64 low, .int .i64 high, .int .i64 old, .int .i64 far] 117)).alloc (.cells #[.int .i64 2, .int .i64 x] 113)) w.heap.size #[.int .u64 base, .int .i64 cap, .int .i64 tt, .int .i64 low, .int .i64 high, .int .i64 old, .int .i64 far] 117 := (Blk.mk rfl).alloc _
  have K1 : Blk ((w.alloc (.cells #[.int .u64 base, .int .i64 cap, .int .i64 tt, .int .i64 low, .int .i64 high, .int .i64 old, .int .i64 far] 117)).alloc (.cells #[.int .i64 2, .int .i64 x] 113)) (w.heap.size + 1) #[.int .i64 2, .int .i64 x] 113 := Blk.mk (by simp)
  refine (R1.out _).mono ?_; rintro e w1 ⟨rfl, k1⟩
  replace K0 := K0.tr k1
  replace K1 := K1.tr k1
  have kW : Below w.heap.size w w1 := by (repeat (first | with_reducible exact Below.refl _ _ | with_reducible refine kp_alloc ?_ _ | with_reducible refine kp_drew ?_ | with_reducible refine kp_set ?_ (by first | omega | (simp; done) | (simp; omega)) _ | with_reducible refine kp_tr ?_ (by with_reducible assumption)))
  clear k1
  obtain ⟨l0, c0, f0⟩ := K0.get
  obtain ⟨l1, c1, f1⟩ := K1.get
  go_wp2_with fail
  have hwz : IntKind.i64.wrap 1 = 1 := by decide
  have hix : ∀ W, Sem.run Tryz.prog (Instr.index 203 (.agg #[.int .u64 A, .int .i64 low, .int .u64 B, .int .i64 high, .int .u64 C, .int .i64 old, .int .u64 D, .int .i64 far]) (.int .i64 1)) W = .ok (.agg #[.int .u64 B, .int .i64 high]) W := fun W => by kernel_rfl
  go_region_held3 (fun w' => w'.cell? ⟨w.heap.size, 0, none⟩ = some (.int .u64 base) ∧ w'.cell? ⟨w.heap.size, 1, none⟩ = some (.int .i64 cap) ∧ w'.cell? ⟨w.heap.size, 2, none⟩ = some (.int .i64 tt) ∧ w'.cell? ⟨w.heap.size, 3, none⟩ = some (.int .i64 low) ∧ w'.cell? ⟨w.heap.size, 4, none⟩ = some (.int .i64 high) ∧ w'.cell? ⟨w.heap.size, 5, none⟩ = some (.int .i64 old) ∧ w'.cell? ⟨w.heap.size, 6, none⟩ = some (.int .i64 far) ∧ w'.cell? ⟨w.heap.size + 1, 0, none⟩ = some (.int .i64 2))
    ((refine s8_tr (W := w1) (n := w1.heap.size) ?_ l0 l1 ⟨c0 0, c0 1, c0 2, c0 3, c0 4, c0 5, c0 6, c1 0⟩; (repeat (first | with_reducible exact Below.refl _ _ | with_reducible refine kp_alloc ?_ _ | with_reducible refine kp_drew ?_ | with_reducible refine kp_set ?_ (by first | omega | (simp; done) | (simp; omega)) _ | with_reducible refine kp_tr ?_ (by with_reducible assumption)))))
    (first
      | (go_at_call 131; refine (R2.out _).mono ?_; rintro e w2 ⟨rfl, k2⟩; obtain ⟨k2c, k2f⟩ := bcell k2; have kb : Below w1.heap.size w1 w2 := (by first | exact kp_tr (kp_drew (Below.refl _ _)) k2 | exact kp_tr (kp_alloc (kp_drew (Below.refl _ _)) _) k2); have k2z : w1.heap.size ≤ w2.heap.size := Nat.le_trans (by simp) k2.size))
  all_goals
    obtain ⟨m1, d1, g1⟩ := (K1.tr kb).get
    have n1 : ¬ w.heap.size + 1 = w2.heap.size := by omega
    have n2 : ¬ w.heap.size + 1 = w1.heap.size := by omega
    go_wp2_with fail
    go_ret2
    refine ⟨rfl, ?_⟩
    (repeat (first | with_reducible exact Below.refl _ _ | with_reducible refine kp_alloc ?_ _ | with_reducible refine kp_drew ?_ | with_reducible refine kp_set ?_ (by first | omega | (simp; done) | (simp; omega)) _ | with_reducible refine kp_tr ?_ (by with_reducible assumption)))
set_option maxRecDepth 100000 in
set_option maxHeartbeats 40000000 in
theorem address_3 (L : Lay) (x : Int) (w : World) (ok : L.ok) (hr : layR L = true) (hx : 0 ≤ x ∧ x < L.old) :
    Calls Tryz.prog 125 #[layV L, .agg #[.int .i64 3, .int .i64 x]] w fun e w' => e = .returned (.tuple #[.int .u64 (firstI L 3 + x), .int .i64 0]) ∧ Below w.heap.size w w' := by
  have R1 : Hid (∀ W, Calls Tryz.prog 106 #[layV L] W fun e w' => e = .returned (.bool true) ∧ Below W.heap.size W w') := Lib.hid fun W => by
    have := right_lay L W ok
    rw [hr] at this
    exact this
  have R2 : Hid (∀ W, Calls Tryz.prog 131 #[layV L] W fun e w' => e = .returned (spanV L) ∧ Below W.heap.size W w') := Lib.hid fun W => spans_any L W ok hr
  have hx3 := adr_pos hr (p := 3) (x := x) (by omega) hx
  have hx4 : x < 9223372036854775808 := by
    obtain ⟨_, _, _, ⟨_, h1⟩, ⟨_, h2⟩, ⟨_, h3⟩, ⟨_, h4⟩⟩ := ok
    omega
  unfold spanV at *
  obtain ⟨base, cap, tt, low, high, old, far⟩ := L
  unfold layV at *
  dsimp only at *
  clear ok hr
  generalize firstI ⟨base, cap, tt, low, high, old, far⟩ 1 = A at *
  generalize firstI ⟨base, cap, tt, low, high, old, far⟩ 2 = B at *
  generalize firstI ⟨base, cap, tt, low, high, old, far⟩ 3 = C at *
  generalize firstI ⟨base, cap, tt, low, high, old, far⟩ 4 = D at *
  obtain ⟨hx1, hx2⟩ := hx
  obtain ⟨hx3, hx5⟩ := hx3
  go_enter Tryz.func125, Tryz.ntmps125
  go_wp2_with fail
  have K0 : Blk ((w.alloc (.cells #[.int .u64 base, .int .i64 cap, .int .i64 tt, .int .i64 low, .int .i64 high, .int .i64 old, .int .i64 far] 117)).alloc (.cells #[.int .i64 3, .int .i64 x] 113)) w.heap.size #[.int .u64 base, .int .i64 cap, .int .i64 tt, .int .i64 low, .int .i64 high, .int .i64 old, .int .i64 far] 117 := (Blk.mk rfl).alloc _
  have K1 : Blk ((w.alloc (.cells #[.int .u64 base, .int .i64 cap, .int .i64 tt, .int .i64 low, .int .i64 high, .int .i64 old, .int .i64 far] 117)).alloc (.cells #[.int .i64 3, .int .i64 x] 113)) (w.heap.size + 1) #[.int .i64 3, .int .i64 x] 113 := Blk.mk (by simp)
  refine (R1.out _).mono ?_; rintro e w1 ⟨rfl, k1⟩
  replace K0 := K0.tr k1
  replace K1 := K1.tr k1
  have kW : Below w.heap.size w w1 := by (repeat (first | with_reducible exact Below.refl _ _ | with_reducible refine kp_alloc ?_ _ | with_reducible refine kp_drew ?_ | with_reducible refine kp_set ?_ (by first | omega | (simp; done) | (simp; omega)) _ | with_reducible refine kp_tr ?_ (by with_reducible assumption)))
  clear k1
  obtain ⟨l0, c0, f0⟩ := K0.get
  obtain ⟨l1, c1, f1⟩ := K1.get
  go_wp2_with fail
  have hwz : IntKind.i64.wrap 2 = 2 := by decide
  have hix : ∀ W, Sem.run Tryz.prog (Instr.index 203 (.agg #[.int .u64 A, .int .i64 low, .int .u64 B, .int .i64 high, .int .u64 C, .int .i64 old, .int .u64 D, .int .i64 far]) (.int .i64 2)) W = .ok (.agg #[.int .u64 C, .int .i64 old]) W := fun W => by kernel_rfl
  go_region_held3 (fun w' => w'.cell? ⟨w.heap.size, 0, none⟩ = some (.int .u64 base) ∧ w'.cell? ⟨w.heap.size, 1, none⟩ = some (.int .i64 cap) ∧ w'.cell? ⟨w.heap.size, 2, none⟩ = some (.int .i64 tt) ∧ w'.cell? ⟨w.heap.size, 3, none⟩ = some (.int .i64 low) ∧ w'.cell? ⟨w.heap.size, 4, none⟩ = some (.int .i64 high) ∧ w'.cell? ⟨w.heap.size, 5, none⟩ = some (.int .i64 old) ∧ w'.cell? ⟨w.heap.size, 6, none⟩ = some (.int .i64 far) ∧ w'.cell? ⟨w.heap.size + 1, 0, none⟩ = some (.int .i64 3))
    ((refine s8_tr (W := w1) (n := w1.heap.size) ?_ l0 l1 ⟨c0 0, c0 1, c0 2, c0 3, c0 4, c0 5, c0 6, c1 0⟩; (repeat (first | with_reducible exact Below.refl _ _ | with_reducible refine kp_alloc ?_ _ | with_reducible refine kp_drew ?_ | with_reducible refine kp_set ?_ (by first | omega | (simp; done) | (simp; omega)) _ | with_reducible refine kp_tr ?_ (by with_reducible assumption)))))
    (first
      | (go_at_call 131; refine (R2.out _).mono ?_; rintro e w2 ⟨rfl, k2⟩; obtain ⟨k2c, k2f⟩ := bcell k2; have kb : Below w1.heap.size w1 w2 := (by first | exact kp_tr (kp_drew (Below.refl _ _)) k2 | exact kp_tr (kp_alloc (kp_drew (Below.refl _ _)) _) k2); have k2z : w1.heap.size ≤ w2.heap.size := Nat.le_trans (by simp) k2.size))
  all_goals
    obtain ⟨m1, d1, g1⟩ := (K1.tr kb).get
    have n1 : ¬ w.heap.size + 1 = w2.heap.size := by omega
    have n2 : ¬ w.heap.size + 1 = w1.heap.size := by omega
    go_wp2_with fail
    go_ret2
    refine ⟨rfl, ?_⟩
    (repeat (first | with_reducible exact Below.refl _ _ | with_reducible refine kp_alloc ?_ _ | with_reducible refine kp_drew ?_ | with_reducible refine kp_set ?_ (by first | omega | (simp; done) | (simp; omega)) _ | with_reducible refine kp_tr ?_ (by with_reducible assumption)))
set_option maxRecDepth 100000 in
set_option maxHeartbeats 40000000 in
theorem address_4 (L : Lay) (x : Int) (w : World) (ok : L.ok) (hr : layR L = true) (hx : 0 ≤ x ∧ x < L.far) :
    Calls Tryz.prog 125 #[layV L, .agg #[.int .i64 4, .int .i64 x]] w fun e w' => e = .returned (.tuple #[.int .u64 (firstI L 4 + x), .int .i64 0]) ∧ Below w.heap.size w w' := by
  have R1 : Hid (∀ W, Calls Tryz.prog 106 #[layV L] W fun e w' => e = .returned (.bool true) ∧ Below W.heap.size W w') := Lib.hid fun W => by
    have := right_lay L W ok
    rw [hr] at this
    exact this
  have R2 : Hid (∀ W, Calls Tryz.prog 131 #[layV L] W fun e w' => e = .returned (spanV L) ∧ Below W.heap.size W w') := Lib.hid fun W => spans_any L W ok hr
  have hx3 := adr_pos hr (p := 4) (x := x) (by omega) hx
  have hx4 : x < 9223372036854775808 := by
    obtain ⟨_, _, _, ⟨_, h1⟩, ⟨_, h2⟩, ⟨_, h3⟩, ⟨_, h4⟩⟩ := ok
    omega
  unfold spanV at *
  obtain ⟨base, cap, tt, low, high, old, far⟩ := L
  unfold layV at *
  dsimp only at *
  clear ok hr
  generalize firstI ⟨base, cap, tt, low, high, old, far⟩ 1 = A at *
  generalize firstI ⟨base, cap, tt, low, high, old, far⟩ 2 = B at *
  generalize firstI ⟨base, cap, tt, low, high, old, far⟩ 3 = C at *
  generalize firstI ⟨base, cap, tt, low, high, old, far⟩ 4 = D at *
  obtain ⟨hx1, hx2⟩ := hx
  obtain ⟨hx3, hx5⟩ := hx3
  go_enter Tryz.func125, Tryz.ntmps125
  go_wp2_with fail
  have K0 : Blk ((w.alloc (.cells #[.int .u64 base, .int .i64 cap, .int .i64 tt, .int .i64 low, .int .i64 high, .int .i64 old, .int .i64 far] 117)).alloc (.cells #[.int .i64 4, .int .i64 x] 113)) w.heap.size #[.int .u64 base, .int .i64 cap, .int .i64 tt, .int .i64 low, .int .i64 high, .int .i64 old, .int .i64 far] 117 := (Blk.mk rfl).alloc _
  have K1 : Blk ((w.alloc (.cells #[.int .u64 base, .int .i64 cap, .int .i64 tt, .int .i64 low, .int .i64 high, .int .i64 old, .int .i64 far] 117)).alloc (.cells #[.int .i64 4, .int .i64 x] 113)) (w.heap.size + 1) #[.int .i64 4, .int .i64 x] 113 := Blk.mk (by simp)
  refine (R1.out _).mono ?_; rintro e w1 ⟨rfl, k1⟩
  replace K0 := K0.tr k1
  replace K1 := K1.tr k1
  have kW : Below w.heap.size w w1 := by (repeat (first | with_reducible exact Below.refl _ _ | with_reducible refine kp_alloc ?_ _ | with_reducible refine kp_drew ?_ | with_reducible refine kp_set ?_ (by first | omega | (simp; done) | (simp; omega)) _ | with_reducible refine kp_tr ?_ (by with_reducible assumption)))
  clear k1
  obtain ⟨l0, c0, f0⟩ := K0.get
  obtain ⟨l1, c1, f1⟩ := K1.get
  go_wp2_with fail
  have hwz : IntKind.i64.wrap 3 = 3 := by decide
  have hix : ∀ W, Sem.run Tryz.prog (Instr.index 203 (.agg #[.int .u64 A, .int .i64 low, .int .u64 B, .int .i64 high, .int .u64 C, .int .i64 old, .int .u64 D, .int .i64 far]) (.int .i64 3)) W = .ok (.agg #[.int .u64 D, .int .i64 far]) W := fun W => by kernel_rfl
  go_region_held3 (fun w' => w'.cell? ⟨w.heap.size, 0, none⟩ = some (.int .u64 base) ∧ w'.cell? ⟨w.heap.size, 1, none⟩ = some (.int .i64 cap) ∧ w'.cell? ⟨w.heap.size, 2, none⟩ = some (.int .i64 tt) ∧ w'.cell? ⟨w.heap.size, 3, none⟩ = some (.int .i64 low) ∧ w'.cell? ⟨w.heap.size, 4, none⟩ = some (.int .i64 high) ∧ w'.cell? ⟨w.heap.size, 5, none⟩ = some (.int .i64 old) ∧ w'.cell? ⟨w.heap.size, 6, none⟩ = some (.int .i64 far) ∧ w'.cell? ⟨w.heap.size + 1, 0, none⟩ = some (.int .i64 4))
    ((refine s8_tr (W := w1) (n := w1.heap.size) ?_ l0 l1 ⟨c0 0, c0 1, c0 2, c0 3, c0 4, c0 5, c0 6, c1 0⟩; (repeat (first | with_reducible exact Below.refl _ _ | with_reducible refine kp_alloc ?_ _ | with_reducible refine kp_drew ?_ | with_reducible refine kp_set ?_ (by first | omega | (simp; done) | (simp; omega)) _ | with_reducible refine kp_tr ?_ (by with_reducible assumption)))))
    (first
      | (go_at_call 131; refine (R2.out _).mono ?_; rintro e w2 ⟨rfl, k2⟩; obtain ⟨k2c, k2f⟩ := bcell k2; have kb : Below w1.heap.size w1 w2 := (by first | exact kp_tr (kp_drew (Below.refl _ _)) k2 | exact kp_tr (kp_alloc (kp_drew (Below.refl _ _)) _) k2); have k2z : w1.heap.size ≤ w2.heap.size := Nat.le_trans (by simp) k2.size))
  all_goals
    obtain ⟨m1, d1, g1⟩ := (K1.tr kb).get
    have n1 : ¬ w.heap.size + 1 = w2.heap.size := by omega
    have n2 : ¬ w.heap.size + 1 = w1.heap.size := by omega
    go_wp2_with fail
    go_ret2
    refine ⟨rfl, ?_⟩
    (repeat (first | with_reducible exact Below.refl _ _ | with_reducible refine kp_alloc ?_ _ | with_reducible refine kp_drew ?_ | with_reducible refine kp_set ?_ (by first | omega | (simp; done) | (simp; omega)) _ | with_reducible refine kp_tr ?_ (by with_reducible assumption)))
theorem address_any (L : Lay) (p : Nat) (x : Int) (w : World) (ok : L.ok) (hr : layR L = true) (hp : 1 ≤ p ∧ p ≤ 4) (hx : 0 ≤ x ∧ x < lenI L p) :
    Calls Tryz.prog 125 #[layV L, .agg #[.int .i64 p, .int .i64 x]] w fun e w' => e = .returned (.tuple #[.int .u64 (firstI L p + x), .int .i64 0]) ∧ Below w.heap.size w w' := by
  rcases (show p = 1 ∨ p = 2 ∨ p = 3 ∨ p = 4 by omega) with rfl | rfl | rfl | rfl
  · exact address_1 L x w ok hr hx
  · exact address_2 L x w ok hr hx
  · exact address_3 L x w ok hr hx
  · exact address_4 L x w ok hr hx
end Go.Proofs.YtpgjploaliefdaaGreat.hp
