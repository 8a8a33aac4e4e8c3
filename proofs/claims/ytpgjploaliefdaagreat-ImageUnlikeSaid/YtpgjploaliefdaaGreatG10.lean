/- places.Address, heap.Layout. No conditions. -/
import Derived.Test.YtpgjploaliefdaaGreatG09
namespace Go.Proofs.YtpgjploaliefdaaGreat.hp
open Go Go.RowKit cm cp ck
set_option linter.unusedVariables false
set_option linter.unusedSimpArgs false
set_option maxRecDepth 100000 in
set_option maxHeartbeats 4000000 in
theorem layout_any (h : Hp) (v : Hv) (w : World) (hin : HIn w h v) :
  Calls Tryz.prog 78 #[hpV h v] w fun e w' => e = .returned (layV h.lay) ∧ Below w.heap.size w w' := by
 obtain ⟨b0, b1, b2, b3, ⟨la, lb, lo, lc, e1, l1, l2, ⟨l3, l3'⟩, l4, l5⟩, ⟨ha, hb, ho, hc, e2, h1, h2, ⟨h3, h3'⟩, h4, h5⟩, ⟨oa, ob, oo, oc, e3, o1, o2, ⟨o3, o3'⟩, o4, o5⟩, ⟨fa, fb, fo, fc, e4, f1, f2, ⟨f3, f3'⟩, f4, f5⟩, ⟨ra, rb, ro, rc, e5, r1, r2, ⟨r3, r3'⟩, r4, r5⟩, s1, s2, s3, s4, s5⟩ := hin
 obtain ⟨vl, vh, vo, vf, vr⟩ := v
 obtain ⟨base, cap, tt, cyc, scan, low, high, old, far, roots⟩ := h
 dsimp only at *
 subst e1 e2 e3 e4 e5
 unfold hpV layV Hp.lay
 dsimp only
 clear l1 l5 h1 h5 o1 o5 f1 f5 r1 r5 s1 s2 s3 s4 s5 b0 b1 b2 b3
 generalize low.length = nl at *
 generalize high.length = nh at *
 generalize old.length = no at *
 generalize far.length = nf at *
 generalize roots.length = nr at *
 go_enter Tryz.func78, Tryz.ntmps78
 go_wp2_with fail
 refine bodyPost_ret (v := .agg #[.int .u64 base, .int .i64 cap, .int .i64 tt, .int .i64 nl, .int .i64 nh, .int .i64 no, .int .i64 nf]) (by simp only [results, Tryz.results78]; go_simp) rfl ⟨rfl, ?_⟩
 exact bm
theorem s8_tr {W w1 : World} {n b c : Nat} (hb : Below n W w1) (hn : b < n) (hc : c < n) {v1 v2 v3 v4 v5 v6 v7 v8 : Value} (h : W.cell? ⟨b, 0, none⟩ = some v1 ∧ W.cell? ⟨b, 1, none⟩ = some v2 ∧ W.cell? ⟨b, 2, none⟩ = some v3 ∧ W.cell? ⟨b, 3, none⟩ = some v4 ∧ W.cell? ⟨b, 4, none⟩ = some v5 ∧ W.cell? ⟨b, 5, none⟩ = some v6 ∧ W.cell? ⟨b, 6, none⟩ = some v7 ∧ W.cell? ⟨c, 0, none⟩ = some v8) :
  w1.cell? ⟨b, 0, none⟩ = some v1 ∧ w1.cell? ⟨b, 1, none⟩ = some v2 ∧ w1.cell? ⟨b, 2, none⟩ = some v3 ∧ w1.cell? ⟨b, 3, none⟩ = some v4 ∧ w1.cell? ⟨b, 4, none⟩ = some v5 ∧ w1.cell? ⟨b, 5, none⟩ = some v6 ∧ w1.cell? ⟨b, 6, none⟩ = some v7 ∧ w1.cell? ⟨c, 0, none⟩ = some v8 := by
 have hc1 : ∀ o, w1.cell? ⟨b, o, none⟩ = W.cell? ⟨b, o, none⟩ := fun o => hb.cell (p := ⟨b, o, none⟩) hn
 have hc2 : ∀ o, w1.cell? ⟨c, o, none⟩ = W.cell? ⟨c, o, none⟩ := fun o => hb.cell (p := ⟨c, o, none⟩) hc
 rw [hc1, hc1, hc1, hc1, hc1, hc1, hc1, hc2]
 exact h
set_option maxRecDepth 100000 in
set_option maxHeartbeats 40000000 in
theorem address_1 (L : Lay) (x : Int) (w : World) (ok : L.ok) (hr : layR L = true) (hx : 0 ≤ x ∧ x < L.low) :
  Calls Tryz.prog 125 #[layV L, .agg #[.int .i64 1, .int .i64 x]] w fun e w' => e = .returned (.tuple #[.int .u64 (firstI L 1 + x), .int .i64 0]) ∧ Below w.heap.size w w' := by
 have R1 : Hid (∀ W, Calls Tryz.prog 106 #[layV L] W fun e w' => e = .returned (.bool true) ∧ Below W.heap.size W w') := Lib.hid fun W => by
  have := right_lay L W ok
  rw [hr] at this
  exact this
 have R2 : Hid (∀ W, Calls Tryz.prog 131 #[layV L] W fun e w' => e = .returned (spanV L) ∧ Below W.heap.size W w') := Lib.hid fun W => spans_any L W ok hr
 have hx3 := adr_pos hr (p := 1) (x := x) (by omega) hx
 have hx4 : x < 9223372036854775808 := by
  obtain ⟨_, _, _, ⟨_, h1⟩, ⟨_, h2⟩, ⟨_, h3⟩, ⟨_, h4⟩⟩ := ok
  omega
 unfold spanV at *
 obtain ⟨base, cap, tt, low, high, old, far⟩ := L
 unfold layV at *
 dsimp only at *
 clear ok hr
 generalize firstI ⟨base, cap, tt, low, high, old, far⟩ 1 = A at *
 generalize firstI ⟨base, cap, tt, low, high, old, far⟩ 2 = B at *
 generalize firstI ⟨base, cap, tt, low, high, old, far⟩ 3 = C at *
 generalize firstI ⟨base, cap, tt, low, high, old, far⟩ 4 = D at *
 obtain ⟨hx1, hx2⟩ := hx
 obtain ⟨hx3, hx5⟩ := hx3
 go_enter Tryz.func125, Tryz.ntmps125
 go_wp2_with fail
 have K0 : Blk ((w.alloc (.cells #[.int .u64 base, .int .i64 cap, .int .i64 tt, .int .i64 low, .int .i64 high, .int .i64 old, .int .i64 far] 117)).alloc (.cells #[.int .i64 1, .int .i64 x] 113)) w.heap.size #[.int .u64 base, .int .i64 cap, .int .i64 tt, .int .i64 low, .int .i64 high, .int .i64 old, .int .i64 far] 117 := (Blk.mk rfl).alloc _
 have K1 : Blk ((w.alloc (.cells #[.int .u64 base, .int .i64 cap, .int .i64 tt, .int .i64 low, .int .i64 high, .int .i64 old, .int .i64 far] 117)).alloc (.cells #[.int .i64 1, .int .i64 x] 113)) (w.heap.size + 1) #[.int .i64 1, .int .i64 x] 113 := Blk.mk (by simp)
 refine (R1.out _).mono ?_; rintro e w1 ⟨rfl, k1⟩
 replace K0 := K0.tr k1
 replace K1 := K1.tr k1
 have kW : Below w.heap.size w w1 := by exact bm
 clear k1
 obtain ⟨l0, c0, f0⟩ := K0.get
 obtain ⟨l1, c1, f1⟩ := K1.get
 go_wp2_with fail
 have hwz : IntKind.i64.wrap 0 = 0 := by decide
 have hix : ∀ W, Sem.run Tryz.prog (Instr.index 203 (.agg #[.int .u64 A, .int .i64 low, .int .u64 B, .int .i64 high, .int .u64 C, .int .i64 old, .int .u64 D, .int .i64 far]) (.int .i64 0)) W = .ok (.agg #[.int .u64 A, .int .i64 low]) W := fun W => by kernel_rfl
 go_region_held3 (fun w' => w'.cell? ⟨w.heap.size, 0, none⟩ = some (.int .u64 base) ∧ w'.cell? ⟨w.heap.size, 1, none⟩ = some (.int .i64 cap) ∧ w'.cell? ⟨w.heap.size, 2, none⟩ = some (.int .i64 tt) ∧ w'.cell? ⟨w.heap.size, 3, none⟩ = some (.int .i64 low) ∧ w'.cell? ⟨w.heap.size, 4, none⟩ = some (.int .i64 high) ∧ w'.cell? ⟨w.heap.size, 5, none⟩ = some (.int .i64 old) ∧ w'.cell? ⟨w.heap.size, 6, none⟩ = some (.int .i64 far) ∧ w'.cell? ⟨w.heap.size + 1, 0, none⟩ = some (.int .i64 1))
  ((refine s8_tr (W := w1) (n := w1.heap.size) ?_ l0 l1 ⟨c0 0, c0 1, c0 2, c0 3, c0 4, c0 5, c0 6, c1 0⟩; exact bm))
  (first
   | (go_at_call 131; refine (R2.out _).mono ?_; rintro e w2 ⟨rfl, k2⟩; obtain ⟨k2c, k2f⟩ := bcell k2; have kb : Below w1.heap.size w1 w2 := (by first | exact kp_tr (kp_drew (Below.refl _ _)) k2 | exact kp_tr (kp_alloc (kp_drew (Below.refl _ _)) _) k2); have k2z : w1.heap.size ≤ w2.heap.size := Nat.le_trans (by simp) k2.size))
 all_goals
  obtain ⟨m1, d1, g1⟩ := (K1.tr kb).get
  have n1 : ¬ w.heap.size + 1 = w2.heap.size := by omega
  have n2 : ¬ w.heap.size + 1 = w1.heap.size := by omega
  go_wp2_with fail
  go_ret2
  refine ⟨rfl, ?_⟩
  exact bm
set_option maxRecDepth 100000 in
set_option maxHeartbeats 40000000 in
theorem address_2 (L : Lay) (x : Int) (w : World) (ok : L.ok) (hr : layR L = true) (hx : 0 ≤ x ∧ x < L.high) :
  Calls Tryz.prog 125 #[layV L, .agg #[.int .i64 2, .int .i64 x]] w fun e w' => e = .returned (.tuple #[.int .u64 (firstI L 2 + x), .int .i64 0]) ∧ Below w.heap.size w w' := by
 have R1 : Hid (∀ W, Calls Tryz.prog 106 #[layV L] W fun e w' => e = .returned (.bool true) ∧ Below W.heap.size W w') := Lib.hid fun W => by
  have := right_lay L W ok
  rw [hr] at this
  exact this
 have R2 : Hid (∀ W, Calls Tryz.prog 131 #[layV L] W fun e w' => e = .returned (spanV L) ∧ Below W.heap.size W w') := Lib.hid fun W => spans_any L W ok hr
 have hx3 := adr_pos hr (p := 2) (x := x) (by omega) hx
 have hx4 : x < 9223372036854775808 := by
  obtain ⟨_, _, _, ⟨_, h1⟩, ⟨_, h2⟩, ⟨_, h3⟩, ⟨_, h4⟩⟩ := ok
  omega
 unfold spanV at *
 obtain ⟨base, cap, tt, low, high, old, far⟩ := L
 unfold layV at *
 dsimp only at *
 clear ok hr
 generalize firstI ⟨base, cap, tt, low, high, old, far⟩ 1 = A at *
 generalize firstI ⟨base, cap, tt, low, high, old, far⟩ 2 = B at *
 generalize firstI ⟨base, cap, tt, low, high, old, far⟩ 3 = C at *
 generalize firstI ⟨base, cap, tt, low, high, old, far⟩ 4 = D at *
 obtain ⟨hx1, hx2⟩ := hx
 obtain ⟨hx3, hx5⟩ := hx3
 go_enter Tryz.func125, Tryz.ntmps125
 go_wp2_with fail
 have K0 : Blk ((w.alloc (.cells #[.int .u64 base, .int .i64 cap, .int .i64 tt, .int .i64 low, .int .i64 high, .int .i64 old, .int .i64 far] 117)).alloc (.cells #[.int .i64 2, .int .i64 x] 113)) w.heap.size #[.int .u64 base, .int .i64 cap, .int .i64 tt, .int .i64 low, .int .i64 high, .int .i64 old, .int .i64 far] 117 := (Blk.mk rfl).alloc _
 have K1 : Blk ((w.alloc (.cells #[.int .u64 base, .int .i64 cap, .int .i64 tt, .int .i64 low, .int .i64 high, .int .i64 old, .int .i64 far] 117)).alloc (.cells #[.int .i64 2, .int .i64 x] 113)) (w.heap.size + 1) #[.int .i64 2, .int .i64 x] 113 := Blk.mk (by simp)
 refine (R1.out _).mono ?_; rintro e w1 ⟨rfl, k1⟩
 replace K0 := K0.tr k1
 replace K1 := K1.tr k1
 have kW : Below w.heap.size w w1 := by exact bm
 clear k1
 obtain ⟨l0, c0, f0⟩ := K0.get
 obtain ⟨l1, c1, f1⟩ := K1.get
 go_wp2_with fail
 have hwz : IntKind.i64.wrap 1 = 1 := by decide
 have hix : ∀ W, Sem.run Tryz.prog (Instr.index 203 (.agg #[.int .u64 A, .int .i64 low, .int .u64 B, .int .i64 high, .int .u64 C, .int .i64 old, .int .u64 D, .int .i64 far]) (.int .i64 1)) W = .ok (.agg #[.int .u64 B, .int .i64 high]) W := fun W => by kernel_rfl
 go_region_held3 (fun w' => w'.cell? ⟨w.heap.size, 0, none⟩ = some (.int .u64 base) ∧ w'.cell? ⟨w.heap.size, 1, none⟩ = some (.int .i64 cap) ∧ w'.cell? ⟨w.heap.size, 2, none⟩ = some (.int .i64 tt) ∧ w'.cell? ⟨w.heap.size, 3, none⟩ = some (.int .i64 low) ∧ w'.cell? ⟨w.heap.size, 4, none⟩ = some (.int .i64 high) ∧ w'.cell? ⟨w.heap.size, 5, none⟩ = some (.int .i64 old) ∧ w'.cell? ⟨w.heap.size, 6, none⟩ = some (.int .i64 far) ∧ w'.cell? ⟨w.heap.size + 1, 0, none⟩ = some (.int .i64 2))
  ((refine s8_tr (W := w1) (n := w1.heap.size) ?_ l0 l1 ⟨c0 0, c0 1, c0 2, c0 3, c0 4, c0 5, c0 6, c1 0⟩; exact bm))
  (first
   | (go_at_call 131; refine (R2.out _).mono ?_; rintro e w2 ⟨rfl, k2⟩; obtain ⟨k2c, k2f⟩ := bcell k2; have kb : Below w1.heap.size w1 w2 := (by first | exact kp_tr (kp_drew (Below.refl _ _)) k2 | exact kp_tr (kp_alloc (kp_drew (Below.refl _ _)) _) k2); have k2z : w1.heap.size ≤ w2.heap.size := Nat.le_trans (by simp) k2.size))
 all_goals
  obtain ⟨m1, d1, g1⟩ := (K1.tr kb).get
  have n1 : ¬ w.heap.size + 1 = w2.heap.size := by omega
  have n2 : ¬ w.heap.size + 1 = w1.heap.size := by omega
  go_wp2_with fail
  go_ret2
  refine ⟨rfl, ?_⟩
  exact bm
set_option maxRecDepth 100000 in
set_option maxHeartbeats 40000000 in
theorem address_3 (L : Lay) (x : Int) (w : World) (ok : L.ok) (hr : layR L = true) (hx : 0 ≤ x ∧ x < L.old) :
  Calls Tryz.prog 125 #[layV L, .agg #[.int .i64 3, .int .i64 x]] w fun e w' => e = .returned (.tuple #[.int .u64 (firstI L 3 + x), .int .i64 0]) ∧ Below w.heap.size w w' := by
 have R1 : Hid (∀ W, Calls Tryz.prog 106 #[layV L] W fun e w' => e = .returned (.bool true) ∧ Below W.heap.size W w') := Lib.hid fun W => by
  have := right_lay L W ok
  rw [hr] at this
  exact this
 have R2 : Hid (∀ W, Calls Tryz.prog 131 #[layV L] W fun e w' => e = .returned (spanV L) ∧ Below W.heap.size W w') := Lib.hid fun W => spans_any L W ok hr
 have hx3 := adr_pos hr (p := 3) (x := x) (by omega) hx
 have hx4 : x < 9223372036854775808 := by
  obtain ⟨_, _, _, ⟨_, h1⟩, ⟨_, h2⟩, ⟨_, h3⟩, ⟨_, h4⟩⟩ := ok
  omega
 unfold spanV at *
 obtain ⟨base, cap, tt, low, high, old, far⟩ := L
 unfold layV at *
 dsimp only at *
 clear ok hr
 generalize firstI ⟨base, cap, tt, low, high, old, far⟩ 1 = A at *
 generalize firstI ⟨base, cap, tt, low, high, old, far⟩ 2 = B at *
 generalize firstI ⟨base, cap, tt, low, high, old, far⟩ 3 = C at *
 generalize firstI ⟨base, cap, tt, low, high, old, far⟩ 4 = D at *
 obtain ⟨hx1, hx2⟩ := hx
 obtain ⟨hx3, hx5⟩ := hx3
 go_enter Tryz.func125, Tryz.ntmps125
 go_wp2_with fail
 have K0 : Blk ((w.alloc (.cells #[.int .u64 base, .int .i64 cap, .int .i64 tt, .int .i64 low, .int .i64 high, .int .i64 old, .int .i64 far] 117)).alloc (.cells #[.int .i64 3, .int .i64 x] 113)) w.heap.size #[.int .u64 base, .int .i64 cap, .int .i64 tt, .int .i64 low, .int .i64 high, .int .i64 old, .int .i64 far] 117 := (Blk.mk rfl).alloc _
 have K1 : Blk ((w.alloc (.cells #[.int .u64 base, .int .i64 cap, .int .i64 tt, .int .i64 low, .int .i64 high, .int .i64 old, .int .i64 far] 117)).alloc (.cells #[.int .i64 3, .int .i64 x] 113)) (w.heap.size + 1) #[.int .i64 3, .int .i64 x] 113 := Blk.mk (by simp)
 refine (R1.out _).mono ?_; rintro e w1 ⟨rfl, k1⟩
 replace K0 := K0.tr k1
 replace K1 := K1.tr k1
 have kW : Below w.heap.size w w1 := by exact bm
 clear k1
 obtain ⟨l0, c0, f0⟩ := K0.get
 obtain ⟨l1, c1, f1⟩ := K1.get
 go_wp2_with fail
 have hwz : IntKind.i64.wrap 2 = 2 := by decide
 have hix : ∀ W, Sem.run Tryz.prog (Instr.index 203 (.agg #[.int .u64 A, .int .i64 low, .int .u64 B, .int .i64 high, .int .u64 C, .int .i64 old, .int .u64 D, .int .i64 far]) (.int .i64 2)) W = .ok (.agg #[.int .u64 C, .int .i64 old]) W := fun W => by kernel_rfl
 go_region_held3 (fun w' => w'.cell? ⟨w.heap.size, 0, none⟩ = some (.int .u64 base) ∧ w'.cell? ⟨w.heap.size, 1, none⟩ = some (.int .i64 cap) ∧ w'.cell? ⟨w.heap.size, 2, none⟩ = some (.int .i64 tt) ∧ w'.cell? ⟨w.heap.size, 3, none⟩ = some (.int .i64 low) ∧ w'.cell? ⟨w.heap.size, 4, none⟩ = some (.int .i64 high) ∧ w'.cell? ⟨w.heap.size, 5, none⟩ = some (.int .i64 old) ∧ w'.cell? ⟨w.heap.size, 6, none⟩ = some (.int .i64 far) ∧ w'.cell? ⟨w.heap.size + 1, 0, none⟩ = some (.int .i64 3))
  ((refine s8_tr (W := w1) (n := w1.heap.size) ?_ l0 l1 ⟨c0 0, c0 1, c0 2, c0 3, c0 4, c0 5, c0 6, c1 0⟩; exact bm))
  (first
   | (go_at_call 131; refine (R2.out _).mono ?_; rintro e w2 ⟨rfl, k2⟩; obtain ⟨k2c, k2f⟩ := bcell k2; have kb : Below w1.heap.size w1 w2 := (by first | exact kp_tr (kp_drew (Below.refl _ _)) k2 | exact kp_tr (kp_alloc (kp_drew (Below.refl _ _)) _) k2); have k2z : w1.heap.size ≤ w2.heap.size := Nat.le_trans (by simp) k2.size))
 all_goals
  obtain ⟨m1, d1, g1⟩ := (K1.tr kb).get
  have n1 : ¬ w.heap.size + 1 = w2.heap.size := by omega
  have n2 : ¬ w.heap.size + 1 = w1.heap.size := by omega
  go_wp2_with fail
  go_ret2
  refine ⟨rfl, ?_⟩
  exact bm
set_option maxRecDepth 100000 in
set_option maxHeartbeats 40000000 in
theorem address_4 (L : Lay) (x : Int) (w : World) (ok : L.ok) (hr : layR L = true) (hx : 0 ≤ x ∧ x < L.far) :
  Calls Tryz.prog 125 #[layV L, .agg #[.int .i64 4, .int .i64 x]] w fun e w' => e = .returned (.tuple #[.int .u64 (firstI L 4 + x), .int .i64 0]) ∧ Below w.heap.size w w' := by
 have R1 : Hid (∀ W, Calls Tryz.prog 106 #[layV L] W fun e w' => e = .returned (.bool true) ∧ Below W.heap.size W w') := Lib.hid fun W => by
  have := right_lay L W ok
  rw [hr] at this
  exact this
 have R2 : Hid (∀ W, Calls Tryz.prog 131 #[layV L] W fun e w' => e = .returned (spanV L) ∧ Below W.heap.size W w') := Lib.hid fun W => spans_any L W ok hr
 have hx3 := adr_pos hr (p := 4) (x := x) (by omega) hx
 have hx4 : x < 9223372036854775808 := by
  obtain ⟨_, _, _, ⟨_, h1⟩, ⟨_, h2⟩, ⟨_, h3⟩, ⟨_, h4⟩⟩ := ok
  omega
 unfold spanV at *
 obtain ⟨base, cap, tt, low, high, old, far⟩ := L
 unfold layV at *
 dsimp only at *
 clear ok hr
 generalize firstI ⟨base, cap, tt, low, high, old, far⟩ 1 = A at *
 generalize firstI ⟨base, cap, tt, low, high, old, far⟩ 2 = B at *
 generalize firstI ⟨base, cap, tt, low, high, old, far⟩ 3 = C at *
 generalize firstI ⟨base, cap, tt, low, high, old, far⟩ 4 = D at *
 obtain ⟨hx1, hx2⟩ := hx
 obtain ⟨hx3, hx5⟩ := hx3
 go_enter Tryz.func125, Tryz.ntmps125
 go_wp2_with fail
 have K0 : Blk ((w.alloc (.cells #[.int .u64 base, .int .i64 cap, .int .i64 tt, .int .i64 low, .int .i64 high, .int .i64 old, .int .i64 far] 117)).alloc (.cells #[.int .i64 4, .int .i64 x] 113)) w.heap.size #[.int .u64 base, .int .i64 cap, .int .i64 tt, .int .i64 low, .int .i64 high, .int .i64 old, .int .i64 far] 117 := (Blk.mk rfl).alloc _
 have K1 : Blk ((w.alloc (.cells #[.int .u64 base, .int .i64 cap, .int .i64 tt, .int .i64 low, .int .i64 high, .int .i64 old, .int .i64 far] 117)).alloc (.cells #[.int .i64 4, .int .i64 x] 113)) (w.heap.size + 1) #[.int .i64 4, .int .i64 x] 113 := Blk.mk (by simp)
 refine (R1.out _).mono ?_; rintro e w1 ⟨rfl, k1⟩
 replace K0 := K0.tr k1
 replace K1 := K1.tr k1
 have kW : Below w.heap.size w w1 := by exact bm
 clear k1
 obtain ⟨l0, c0, f0⟩ := K0.get
 obtain ⟨l1, c1, f1⟩ := K1.get
 go_wp2_with fail
 have hwz : IntKind.i64.wrap 3 = 3 := by decide
 have hix : ∀ W, Sem.run Tryz.prog (Instr.index 203 (.agg #[.int .u64 A, .int .i64 low, .int .u64 B, .int .i64 high, .int .u64 C, .int .i64 old, .int .u64 D, .int .i64 far]) (.int .i64 3)) W = .ok (.agg #[.int .u64 D, .int .i64 far]) W := fun W => by kernel_rfl
 go_region_held3 (fun w' => w'.cell? ⟨w.heap.size, 0, none⟩ = some (.int .u64 base) ∧ w'.cell? ⟨w.heap.size, 1, none⟩ = some (.int .i64 cap) ∧ w'.cell? ⟨w.heap.size, 2, none⟩ = some (.int .i64 tt) ∧ w'.cell? ⟨w.heap.size, 3, none⟩ = some (.int .i64 low) ∧ w'.cell? ⟨w.heap.size, 4, none⟩ = some (.int .i64 high) ∧ w'.cell? ⟨w.heap.size, 5, none⟩ = some (.int .i64 old) ∧ w'.cell? ⟨w.heap.size, 6, none⟩ = some (.int .i64 far) ∧ w'.cell? ⟨w.heap.size + 1, 0, none⟩ = some (.int .i64 4))
  ((refine s8_tr (W := w1) (n := w1.heap.size) ?_ l0 l1 ⟨c0 0, c0 1, c0 2, c0 3, c0 4, c0 5, c0 6, c1 0⟩; exact bm))
  (first
   | (go_at_call 131; refine (R2.out _).mono ?_; rintro e w2 ⟨rfl, k2⟩; obtain ⟨k2c, k2f⟩ := bcell k2; have kb : Below w1.heap.size w1 w2 := (by first | exact kp_tr (kp_drew (Below.refl _ _)) k2 | exact kp_tr (kp_alloc (kp_drew (Below.refl _ _)) _) k2); have k2z : w1.heap.size ≤ w2.heap.size := Nat.le_trans (by simp) k2.size))
 all_goals
  obtain ⟨m1, d1, g1⟩ := (K1.tr kb).get
  have n1 : ¬ w.heap.size + 1 = w2.heap.size := by omega
  have n2 : ¬ w.heap.size + 1 = w1.heap.size := by omega
  go_wp2_with fail
  go_ret2
  refine ⟨rfl, ?_⟩
  exact bm
theorem address_any (L : Lay) (p : Nat) (x : Int) (w : World) (ok : L.ok) (hr : layR L = true) (hp : 1 ≤ p ∧ p ≤ 4) (hx : 0 ≤ x ∧ x < lenI L p) :
  Calls Tryz.prog 125 #[layV L, .agg #[.int .i64 p, .int .i64 x]] w fun e w' => e = .returned (.tuple #[.int .u64 (firstI L p + x), .int .i64 0]) ∧ Below w.heap.size w w' := by
 rcases (show p = 1 ∨ p = 2 ∨ p = 3 ∨ p = 4 by omega) with rfl | rfl | rfl | rfl
 ·exact address_1 L x w ok hr hx
 ·exact address_2 L x w ok hr hx
 ·exact address_3 L x w ok hr hx
 ·exact address_4 L x w ok hr hx
end Go.Proofs.YtpgjploaliefdaaGreat.hp
namespace Go.Proofs.YtpgjploaliefdaaGreat.rh
open Go hp ob hd cp
set_option linter.unusedVariables false
set_option linter.unusedSimpArgs false
theorem clK_le (x : Rh) (c : Bool) (i : Nat) : clK x c i ≤ 2 ∧ (c = false → clK x c i ≤ 1) := by
 have := pickI_in (clC x i) (n := 3) (by decide)
 unfold clK
 split
 ·exact ⟨by omega, fun _ => by omega⟩
 ·rename_i h
  refine ⟨by omega, fun e => ?_⟩
  have : ¬ (pickI (clC x i) 3).toNat = 2 := fun h2 => h ⟨h2, e⟩
  omega
theorem parts_of (x : Rh) (c : Bool) (i : Nat) : (clK x c i = 0 ∧ hpt x c i = 2 ∧ opt x c i = 0) ∨ (clK x c i = 1 ∧ c = false ∧ hpt x c i = 1 ∧ opt x c i = 0) ∨ (clK x c i = 1 ∧ c = true ∧ hpt x c i = 1 ∧ (opt x c i = 3 ∨ opt x c i = 4)) ∨ (clK x c i = 2 ∧ c = true ∧ hpt x c i = 0 ∧ (opt x c i = 3 ∨ opt x c i = 4)) := by
 have h := clK_le x c i
 unfold hpt opt
 generalize clK x c i = k at *
 cases c
 ·have h2 := h.2 rfl
  rcases (show k = 0 ∨ k = 1 by omega) with rfl | rfl
  ·exact .inl ⟨rfl, rfl, rfl⟩
  ·exact .inr (.inl ⟨rfl, rfl, rfl, rfl⟩)
 ·rcases (show k = 0 ∨ k = 1 ∨ k = 2 by omega) with rfl | rfl | rfl
  ·exact .inl ⟨rfl, rfl, rfl⟩
  ·exact .inr (.inr (.inl ⟨rfl, rfl, rfl, by simp only [and_self, if_true, Nat.lt_irrefl, Nat.zero_lt_one]; split <;> simp⟩))
  ·exact .inr (.inr (.inr ⟨rfl, rfl, rfl, by simp only [and_self, if_true, show 0 < 2 from by decide]; split <;> simp⟩))
theorem hpt_le (x : Rh) (c : Bool) (i : Nat) : hpt x c i ≤ 2 := by rcases parts_of x c i with h | h | h | h <;> omega
theorem opt_cases (x : Rh) (c : Bool) (i : Nat) : opt x c i = 0 ∨ opt x c i = 3 ∨ opt x c i = 4 := by rcases parts_of x c i with h | h | h | h <;> omega
def isAt (x : Rh) (c : Bool) (p j : Nat) : Prop := (1 ≤ p ∧ p ≤ 2 ∧ hpt x c j = p) ∨ (3 ≤ p ∧ p ≤ 4 ∧ opt x c j = p)
def offP (x : Rh) (c : Bool) (p j : Nat) : Nat := if p ≤ 2 then hof x c p j else oof x c p j
def lenP (x : Rh) (c : Bool) (p : Nat) : Nat := offP x c p (nN x)
theorem lenI_L (x : Rh) (c : Bool) {p : Nat} (hp : 1 ≤ p ∧ p ≤ 4) : lenI (layL x c) p = lenP x c p := by
 unfold lenI layL lenP offP
 rcases (show p = 1 ∨ p = 2 ∨ p = 3 ∨ p = 4 by omega) with rfl | rfl | rfl | rfl <;> simp
theorem isAt_p {x : Rh} {c : Bool} {p j : Nat} (h : isAt x c p j) : 1 ≤ p ∧ p ≤ 4 := by
 rcases h with h | h <;> omega
theorem isAt_lt {x : Rh} {c : Bool} {p j : Nat} (h : isAt x c p j) (hj : j < nN x) : offP x c p j + 1 + slN x j ≤ lenP x c p := by
 unfold lenP offP
 rcases h with ⟨h1, h2, h3⟩ | ⟨h1, h2, h3⟩
 ·rw [if_pos h2, if_pos h2]
  exact offs_lt hj h3
 ·rw [if_neg (by omega), if_neg (by omega)]
  exact offs_lt hj h3
def RefTo (x : Rh) (c : Bool) (lo hi : Nat) (v : Int) : Prop := v = 0 ∨ ∃ p j, lo ≤ p ∧ p ≤ hi ∧ isAt x c p j ∧ j < nN x ∧ v = 2 * (firstI (layL x c) p + offP x c p j) + 1
theorem RefTo.wide {x : Rh} {c : Bool} {lo hi lo' hi' : Nat} {v : Int} (h : RefTo x c lo hi v) (h1 : lo' ≤ lo) (h2 : hi ≤ hi') : RefTo x c lo' hi' v := by
 rcases h with h | ⟨p, j, a, b, d⟩
 ·exact .inl h
 ·exact .inr ⟨p, j, by omega, by omega, d⟩
theorem ref_in {x : Rh} (hx : 0 ≤ x.base) {c : Bool} {p j : Nat} (h : isAt x c p j) (hj : j < nN x) : 1 ≤ firstI (layL x c) p + offP x c p j ∧ firstI (layL x c) p + offP x c p j < 9223372036854775808 := by
 have h1 := isAt_p h
 have h2 := isAt_lt h hj
 exact adr_pos (lay_right hx c) (p := (p : Int)) (by omega) (by rw [lenI_L x c h1]; omega)
theorem RefTo.ptr {x : Rh} (hx : 0 ≤ x.base) {c : Bool} {lo hi : Nat} {v : Int} (h : RefTo x c lo hi v) : ptrB v = true ∧ 0 ≤ v ∧ v < 18446744073709551616 := by
 rcases h with rfl | ⟨p, j, _, _, h3, h4, rfl⟩
 ·exact ⟨rfl, by decide, by decide⟩
 ·have := ref_in hx h3 h4
  refine ⟨?_, by omega, by omega⟩
  unfold ptrB
  simp only [decide_eq_true_eq]
  omega
theorem hrf_to (x : Rh) (c : Bool) {j : Nat} (hj : j < nN x) : RefTo x c 1 2 (hrf x c j) := by
 have h2 := hpt_le x c j
 unfold hrf refP
 by_cases h : hpt x c j = 0
 ·rw [if_pos h]; exact .inl rfl
 ·rw [if_neg h]
  exact .inr ⟨hpt x c j, j, by omega, h2, .inl ⟨by omega, h2, rfl⟩, hj, by unfold offP; rw [if_pos h2]⟩
theorem orf_to (x : Rh) (c : Bool) {j : Nat} (hj : j < nN x) : RefTo x c 3 4 (orf x c j) := by
 have h2 := opt_cases x c j
 unfold orf refP
 by_cases h : opt x c j = 0
 ·rw [if_pos h]; exact .inl rfl
 ·rw [if_neg h]
  exact .inr ⟨opt x c j, j, by omega, by omega, .inr ⟨by omega, by omega, rfl⟩, hj, by unfold offP; rw [if_neg (by omega)]⟩
theorem slot_to (x : Rh) (c : Bool) {p at_ : Nat} {tg tw : Int} (ht : tg < nN x) : RefTo x c 1 4 (slotV x c p at_ tg tw) ∧ (2 < p → RefTo x c 3 4 (slotV x c p at_ tg tw)) ∧ (p ≤ 2 → (p = 1 → at_ < scanN x c) → RefTo x c 1 2 (slotV x c p at_ tg tw)) := by
 unfold slotV
 split
 ·exact ⟨.inl rfl, fun _ => .inl rfl, fun _ _ => .inl rfl⟩
 ·rename_i h0
  have hj : tg.toNat < nN x := by omega
  have h1 := hrf_to x c hj
  have h2 := orf_to x c hj
  split
  ·exact ⟨h2.wide (by omega) (by omega), fun _ => h2, fun h _ => by omega⟩
  ·rename_i hp
   split
   ·rename_i h3
    exact ⟨h2.wide (by omega) (by omega), fun h => absurd h hp, fun _ h => by have := h h3.1.1; omega⟩
   ·exact ⟨h1.wide (by omega) (by omega), fun h => absurd h hp, fun _ _ => h1⟩
theorem gPtrs_in (x : Rh) (i : Nat) : ∀ t ∈ gPtrs x i, -1 ≤ t ∧ t < nN x := by
 intro t ht
 unfold gPtrs at ht
 obtain ⟨c, _, rfl⟩ := List.mem_map.1 ht
 have := pickI_in c (n := (nN x : Int) + 1) (by omega)
 omega
theorem gRoots_in (x : Rh) : ∀ t ∈ gRoots x, -1 ≤ t ∧ t < nN x := by
 intro t ht
 unfold gRoots at ht
 split at ht
 ·simp at ht; omega
 ·obtain ⟨c, _, rfl⟩ := List.mem_map.1 ht
  have := pickI_in c (n := (nN x : Int) + 1) (by omega)
  omega
theorem gData_in {x : Rh} (ok : RhOk x) (i : Nat) : ∀ d ∈ gData x i, U64 d := by
 intro d hd
 unfold gData at hd
 have h1 := List.mem_of_mem_take hd
 by_cases hi : i < x.nodes.length
 ·rw [List.getD_eq_getElem?_getD, List.getElem?_eq_getElem hi] at h1
  exact ok.data _ (List.getElem_mem hi) d h1
 ·rw [List.getD_eq_getElem?_getD, List.getElem?_eq_none (by omega)] at h1
  simp at h1
theorem slotsV_get (x : Rh) (c : Bool) (p a : Nat) (tw : Int) : ∀ (l : List Int) (k m : Nat), m < l.length → (slotsV x c p a tw k l).getD m 0 = slotV x c p (a + 1 + (k + m)) (l.getD m 0) (wr (tw + ((k + m : Nat) : Int)))
 | [], k, m, h => by simp at h
 | t :: l, k, 0, h => rfl
 | t :: l, k, m + 1, h => by
  have := slotsV_get x c p a tw l (k + 1) m (by simpa using h)
  simp only [slotsV, List.getD_cons_succ]
  rw [this, show k + 1 + m = k + (m + 1) from by omega]
theorem slots_small {x : Rh} (ok : RhOk x) (c : Bool) (p a : Nat) (tw : Int) (i : Nat) : Small (slotsV x c p a tw 0 (gPtrs x i) ++ gData x i) := by
 intro k
 have hl := slotsV_len x c p a tw (gPtrs x i) 0
 by_cases h1 : k < (gPtrs x i).length
 ·have e : (slotsV x c p a tw 0 (gPtrs x i) ++ gData x i).getD k 0 = (slotsV x c p a tw 0 (gPtrs x i)).getD k 0 := by
   simp only [List.getD]
   rw [List.getElem?_append_left (by omega)]
  rw [e, slotsV_get _ _ _ _ _ _ _ _ h1]
  exact ((slot_to x c (gPtrs_in x i _ (by rw [List.getD_eq_getElem?_getD, List.getElem?_eq_getElem h1]; exact List.getElem_mem h1)).2).1.ptr ok.base.1).2
 ·have e : (slotsV x c p a tw 0 (gPtrs x i) ++ gData x i).getD k 0 = (gData x i).getD (k - (gPtrs x i).length) 0 := by
   simp only [List.getD]
   rw [List.getElem?_append_right (by omega), hl]
  rw [e]
  by_cases h2 : k - (gPtrs x i).length < (gData x i).length
  ·rw [List.getD_eq_getElem?_getD, List.getElem?_eq_getElem h2]
   exact gData_in ok i _ (List.getElem_mem h2)
  ·rw [List.getD_eq_getElem?_getD, List.getElem?_eq_none (by omega)]
   exact ⟨by decide, by decide⟩
theorem slots_ptr {x : Rh} (ok : RhOk x) (c : Bool) (p a : Nat) (tw : Int) (i k : Nat) (hk : k < (gPtrs x i).length) :
  ∃ t tw', t < (nN x : Int) ∧ (slotsV x c p a tw 0 (gPtrs x i) ++ gData x i).getD k 0 = slotV x c p (a + 1 + k) t tw' := by
 have hl := slotsV_len x c p a tw (gPtrs x i) 0
 have e : (slotsV x c p a tw 0 (gPtrs x i) ++ gData x i).getD k 0 = (slotsV x c p a tw 0 (gPtrs x i)).getD k 0 := by
  simp only [List.getD]
  rw [List.getElem?_append_left (by omega)]
 refine ⟨_, _, ?_, by rw [e, slotsV_get _ _ _ _ _ _ _ _ hk, Nat.zero_add]⟩
 exact (gPtrs_in x i _ (by rw [List.getD_eq_getElem?_getD, List.getElem?_eq_getElem hk]; exact List.getElem_mem hk)).2
theorem hPc_good {x : Rh} (ok : RhOk x) (c : Bool) (i : Nat) : PcGood (hPc x c i) := by
 refine ⟨(hPc_s x c i).2.trans (hPc_s x c i).1.symm, by rw [(hPc_s x c i).1]; have := slN_le x i; omega, ?_, slots_small ok _ _ _ _ _, fun _ => ⟨rfl, fun k hk => ?_⟩, fun h => (by cases h)⟩
 ·show (gPtrs x i).length ≤ slN x i
  unfold slN; omega
 ·obtain ⟨t, tw', h1, h2⟩ := slots_ptr ok c (hpt x c i) (hof x c (hpt x c i) i) (wr (x.slack + i)) i k hk
  show ptrB ((slotsV x c (hpt x c i) (hof x c (hpt x c i) i) (wr (x.slack + i)) 0 (gPtrs x i) ++ gData x i).getD k 0) = true
  rw [h2]
  exact ((slot_to x c h1).1.ptr ok.base.1).1
theorem oPc_good {x : Rh} (ok : RhOk x) (c : Bool) {i : Nat} (hi : i < nN x) : PcGood (oPc x c i) := by
 have hs := slN_le x i
 have hp : (gPtrs x i).length ≤ slN x i := by unfold slN; omega
 have hpl := hpt_le x c i
 unfold oPc
 split
 ·rename_i h0
  refine ⟨by simp, by show slN x i ≤ 255; omega, hp, ?_, fun h => (by cases h), fun _ => ?_⟩
  ·intro k
   simp only [List.getD, List.getElem?_replicate]
   split <;> simp
  ·have hat : isAt x c (hpt x c i) i := .inl ⟨by omega, hpl, rfl⟩
   have := ref_in ok.base.1 hat hi
   refine ⟨firstI (layL x c) (hpt x c i) + offP x c (hpt x c i) i, this.1, this.2, ?_, rfl⟩
   show hrf x c i = _
   unfold hrf refP offP
   rw [if_neg (by omega), if_pos hpl]
 ·refine ⟨?_, by show slN x i ≤ 255; omega, hp, slots_small ok _ _ _ _ _, fun _ => ⟨rfl, fun k hk => ?_⟩, fun h => (by cases h)⟩
  ·show (slotsV _ _ _ _ _ _ _ ++ gData x i).length = slN x i
   rw [List.length_append, slotsV_len]
   rfl
  ·obtain ⟨t, tw', h1, h2⟩ := slots_ptr ok c (opt x c i) (oof x c (opt x c i) i) 0 i k hk
   show ptrB ((slotsV x c (opt x c i) (oof x c (opt x c i) i) 0 0 (gPtrs x i) ++ gData x i).getD k 0) = true
   rw [h2]
   exact ((slot_to x c h1).1.ptr ok.base.1).1
theorem mem_pieces {q : Nat → Nat} {P : Nat → Pc} {p n : Nat} {d : Pc} : d ∈ pieces q P p n ↔ ∃ i, i < n ∧ q i = p ∧ d = P i := by
 unfold pieces
 rw [List.mem_flatMap]
 constructor
 ·rintro ⟨i, hi, h⟩
  split at h
  ·rename_i hq
   exact ⟨i, List.mem_range.1 hi, hq, List.mem_singleton.1 h⟩
  ·cases h
 ·rintro ⟨i, hi, hq, rfl⟩
  exact ⟨i, List.mem_range.2 hi, by rw [if_pos hq]; exact List.mem_singleton.2 rfl⟩
theorem pieces_good {q : Nat → Nat} {P : Nat → Pc} {n : Nat} (h : ∀ i, i < n → PcGood (P i)) (p : Nat) : ob.Good (pieces q P p n) := fun d hd => by
 obtain ⟨i, hi, _, rfl⟩ := mem_pieces.1 hd
 exact h i hi
theorem hpcs_good {x : Rh} (ok : RhOk x) (c : Bool) (p : Nat) : ob.Good (hpcs x c p (nN x)) := pieces_good (fun i _ => hPc_good ok c i) p
theorem opcs_good {x : Rh} (ok : RhOk x) (c : Bool) (p : Nat) : ob.Good (opcs x c p (nN x)) := pieces_good (fun i hi => oPc_good ok c hi) p
theorem obs_succ {z q : Nat → Nat} {P : Nat → Pc} {n : Nat} (hz : ∀ i, (P i).s = z i ∧ (P i).ys.length = z i) (hg : ∀ i, i < n + 1 → PcGood (P i)) (p : Nat) :
  obsAt 0 (pieces q P p (n + 1)) = obsAt 0 (pieces q P p n) ++ if q n = p then [obOf (offs z q p n) (P n)] else [] := by
 rw [pieces_succ, obsAt_app _ _ (pieces_good (fun i hi => hg i (by omega)) p), words_pieces hz p n]
 congr 1
 split
 ·simp [obsAt]
 ·rfl
theorem mem_obs {z q : Nat → Nat} {P : Nat → Pc} (hz : ∀ i, (P i).s = z i ∧ (P i).ys.length = z i) (p : Nat) : ∀ {n : Nat}, (∀ i, i < n → PcGood (P i)) → ∀ o : Ob, (o ∈ obsAt 0 (pieces q P p n) ↔ ∃ i, i < n ∧ q i = p ∧ o = obOf (offs z q p i) (P i))
 | 0, _, o => by
  constructor
  ·intro h; cases h
  ·rintro ⟨i, hi, _⟩; omega
 | n + 1, hg, o => by
  rw [obs_succ hz hg p, List.mem_append, mem_obs hz p (fun i hi => hg i (by omega)) o]
  constructor
  ·rintro (⟨i, hi, h⟩ | h)
   ·exact ⟨i, by omega, h⟩
   ·split at h
    ·rename_i hq
     exact ⟨n, by omega, hq, List.mem_singleton.1 h⟩
    ·cases h
  ·rintro ⟨i, hi, hq, rfl⟩
   rcases Nat.lt_or_ge i n with h | h
   ·exact .inl ⟨i, h, hq, rfl⟩
   ·obtain rfl : i = n := by omega
    exact .inr (by rw [if_pos hq]; exact List.mem_singleton.2 rfl)
theorem lies_piece {z q : Nat → Nat} {P : Nat → Pc} (hz : ∀ i, (P i).s = z i ∧ (P i).ys.length = z i) {p : Nat} : ∀ {n i : Nat}, i < n → q i = p → ∃ C, wordsOf (pieces q P p n) = wordsOf (pieces q P p i) ++ wordsOf [P i] ++ C
 | 0, i, h, _ => by omega
 | n + 1, i, h, hq => by
  rw [pieces_succ, wordsOf_app]
  rcases Nat.lt_or_ge i n with h1 | h1
  ·obtain ⟨C, e⟩ := lies_piece hz (P := P) h1 hq
   exact ⟨C ++ wordsOf (if q n = p then [P n] else []), by rw [e, List.append_assoc]⟩
  ·obtain rfl : i = n := by omega
   exact ⟨[], by rw [if_pos hq, List.append_nil]⟩
theorem slot_at {z q : Nat → Nat} {P : Nat → Pc} (hz : ∀ i, (P i).s = z i ∧ (P i).ys.length = z i) {p n i k : Nat} (hi : i < n) (hq : q i = p) (hk : k < z i) : (wordsOf (pieces q P p n)).getD (offs z q p i + 1 + k) 0 = (P i).ys.getD k 0 := by
 obtain ⟨C, e⟩ := lies_piece hz hi hq
 rw [e, ← words_pieces hz p i]
 exact lies_slot (lies_mid _ _ _) (by rw [(hz i).2]; exact hk)
end Go.Proofs.YtpgjploaliefdaaGreat.rh
