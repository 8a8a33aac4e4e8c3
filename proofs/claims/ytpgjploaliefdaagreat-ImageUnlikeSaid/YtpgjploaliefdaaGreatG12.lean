/- check: settled, unscanned, left, with their closures. No conditions. -/
import Derived.Test.YtpgjploaliefdaaGreatG11
namespace Go.Proofs.YtpgjploaliefdaaGreat.ck
open Go Go.RowKit hp ob hd cp mp cm
set_option linter.unusedVariables false
set_option linter.unusedSimpArgs false
set_option maxRecDepth 100000
set_option maxHeartbeats 2000000
variable {w0 w W : World} {p : Pl} {h : Hp} {v : Hv} {s : Fnd} {ov : Ov}
theorem clo1 (bx : Nat) (W' : World) (at_ x : Int) (a : St w0 W' p h v s ov) (hb : W'.cell? ⟨bx, 0, none⟩ = some (.pointer (some ⟨p.b, 0, none⟩))) (hx : 0 ≤ x ∧ x < 18446744073709551616) :
  Calls Tryz.prog 114 #[.int .i64 at_, .int .u64 x, .pointer (some ⟨bx, 0, none⟩)] W' fun e w' => e = .returned (.bool (pointsB s.pf x 1 2)) ∧ Below W'.heap.size W' w' := by
 have HP := Lib.hid (points_any a x 1 2 hx)
 clear a hx
 generalize pointsB s.pf x 1 2 = r at *
 go_enter Tryz.func114, Tryz.ntmps114
 go_wp2_with fail
 refine HP.out.mono ?_; rintro e w ⟨rfl, rfl⟩
 go_wp2_with fail
 go_ret
 refine ⟨rfl, ?_⟩
 exact bm
theorem clo4 (bx : Nat) (W' : World) (at_ x : Int) (a : St w0 W' p h v s ov) (hb : W'.cell? ⟨bx, 0, none⟩ = some (.pointer (some ⟨p.b, 0, none⟩))) (hx : 0 ≤ x ∧ x < 18446744073709551616) :
  Calls Tryz.prog 117 #[.int .i64 at_, .int .u64 x, .pointer (some ⟨bx, 0, none⟩)] W' fun e w' => e = .returned (.bool (pointsB s.pf x 3 4)) ∧ Below W'.heap.size W' w' := by
 have HP := Lib.hid (points_any a x 3 4 hx)
 clear a hx
 generalize pointsB s.pf x 3 4 = r at *
 go_enter Tryz.func117, Tryz.ntmps117
 go_wp2_with fail
 refine HP.out.mono ?_; rintro e w ⟨rfl, rfl⟩
 go_wp2_with fail
 go_ret
 refine ⟨rfl, ?_⟩
 exact bm
theorem clo2 (bx : Nat) (W' : World) (at_ x : Int) (a : St w0 W' p h v s ov) (hb : W'.cell? ⟨bx, 0, none⟩ = some (.pointer (some ⟨p.b, 0, none⟩))) (hx : 0 ≤ x ∧ x < 18446744073709551616) :
  Calls Tryz.prog 115 #[.int .i64 at_, .int .u64 x, .pointer (some ⟨bx, 0, none⟩)] W' fun e w' => e = .returned (.bool (decide (h.scan ≤ at_) || pointsB s.pf x 1 2)) ∧ Below W'.heap.size W' w' := by
 have HP := Lib.hid (points_any a x 1 2 hx)
 obtain ⟨lb, cb, fb⟩ := a.blk.get
 have c4 : W'.cell? ⟨p.b, 4, none⟩ = some (.int .i64 h.scan) := cb 4
 clear a hx cb fb
 generalize pointsB s.pf x 1 2 = r at *
 generalize h.scan = sc at *
 by_cases hs : sc ≤ at_
 ·have e : (decide (sc ≤ at_) || r) = true := by simp [hs]
  rw [e]
  go_enter Tryz.func115, Tryz.ntmps115
  go_wp2_with fail
  go_ret
  refine ⟨rfl, ?_⟩
  exact bm
 ·have e : (decide (sc ≤ at_) || r) = r := by simp [hs]
  rw [e]
  go_enter Tryz.func115, Tryz.ntmps115
  go_wp2_with fail
  refine HP.out.mono ?_; rintro e w ⟨rfl, rfl⟩
  go_wp2_with fail
  go_ret
  refine ⟨rfl, ?_⟩
  exact bm
theorem clo3 (bx : Nat) (W' : World) (at_ x : Int) (a : St w0 W' p h v s ov) (hb : W'.cell? ⟨bx, 0, none⟩ = some (.pointer (some ⟨p.b, 0, none⟩))) (hx : 0 ≤ x ∧ x < 18446744073709551616) :
  Calls Tryz.prog 116 #[.int .i64 at_, .int .u64 x, .pointer (some ⟨bx, 0, none⟩)] W' fun e w' => e = .returned (.bool (decide (at_ < h.scan) || pointsB s.pf x 1 4)) ∧ Below W'.heap.size W' w' := by
 have HP := Lib.hid (points_any a x 1 4 hx)
 obtain ⟨lb, cb, fb⟩ := a.blk.get
 have c4 : W'.cell? ⟨p.b, 4, none⟩ = some (.int .i64 h.scan) := cb 4
 clear a hx cb fb
 generalize pointsB s.pf x 1 4 = r at *
 generalize h.scan = sc at *
 by_cases hs : at_ < sc
 ·have e : (decide (at_ < sc) || r) = true := by simp [hs]
  rw [e]
  go_enter Tryz.func116, Tryz.ntmps116
  go_wp2_with fail
  go_ret
  refine ⟨rfl, ?_⟩
  exact bm
 ·have e : (decide (at_ < sc) || r) = r := by simp [hs]
  rw [e]
  go_enter Tryz.func116, Tryz.ntmps116
  go_wp2_with fail
  refine HP.out.mono ?_; rintro e w ⟨rfl, rfl⟩
  go_wp2_with fail
  go_ret
  refine ⟨rfl, ?_⟩
  exact bm
theorem unscanned_any (a : St w0 W p h v s ov) : Calls Tryz.prog 99 #[.pointer (some ⟨p.b, 0, none⟩)] W fun e w' => e = .returned (.bool (unscannedB h s)) ∧ Below W.heap.size W w' := by
 have HP : Hid (∀ bx W, St w0 W p h v s ov → W.cell? ⟨bx, 0, none⟩ = some (.pointer (some ⟨p.b, 0, none⟩)) → Calls Tryz.prog 113 #[.pointer (some ⟨p.b, 0, none⟩), .int .i64 1, .func (.func 116) #[] #[.pointer (some ⟨bx, 0, none⟩)]] W fun e w' => e = .returned (.bool (unscannedB h s)) ∧ Below W.heap.size W w') :=
  Lib.hid fun bx W a hb => pointers_any 1 ⟨by decide, by decide⟩ 116 bx _ Tryz.call116 a hb (clo3 bx)
 have A := Lib.hid (a.alloc (.cells #[.pointer (some ⟨p.b, 0, none⟩)] 102))
 generalize unscannedB h s = r at *
 clear a
 go_enter Tryz.func99, Tryz.ntmps99
 go_wp2_with fail
 refine (HP.out _ _ A.out (by simp)).mono ?_; rintro e w ⟨rfl, k1⟩
 go_wp2_with fail
 go_ret
 refine ⟨rfl, ?_⟩
 exact bm
theorem left_any (a : St w0 W p h v s ov) : Calls Tryz.prog 100 #[.pointer (some ⟨p.b, 0, none⟩)] W fun e w' => e = .returned (.bool (leftB h s)) ∧ Below W.heap.size W w' := by
 have HP : Hid (∀ bx W, St w0 W p h v s ov → W.cell? ⟨bx, 0, none⟩ = some (.pointer (some ⟨p.b, 0, none⟩)) → Calls Tryz.prog 113 #[.pointer (some ⟨p.b, 0, none⟩), .int .i64 3, .func (.func 117) #[] #[.pointer (some ⟨bx, 0, none⟩)]] W fun e w' => e = .returned (.bool (pointersB (fun _ x => pointsB s.pf x 3 4) h.old s.o3)) ∧ Below W.heap.size W w') :=
  Lib.hid fun bx W a hb => pointers_any 3 ⟨by decide, by decide⟩ 117 bx _ Tryz.call117 a hb (clo4 bx)
 have HQ : Hid (∀ bx W, St w0 W p h v s ov → W.cell? ⟨bx, 0, none⟩ = some (.pointer (some ⟨p.b, 0, none⟩)) → Calls Tryz.prog 113 #[.pointer (some ⟨p.b, 0, none⟩), .int .i64 4, .func (.func 117) #[] #[.pointer (some ⟨bx, 0, none⟩)]] W fun e w' => e = .returned (.bool (pointersB (fun _ x => pointsB s.pf x 3 4) h.far s.o4)) ∧ Below W.heap.size W w') :=
  Lib.hid fun bx W a hb => pointers_any 4 ⟨by decide, by decide⟩ 117 bx _ Tryz.call117 a hb (clo4 bx)
 have HR : Hid (leftB h s = (pointersB (fun _ x => pointsB s.pf x 3 4) h.old s.o3 && pointersB (fun _ x => pointsB s.pf x 3 4) h.far s.o4)) := rfl
 have A := Lib.hid (a.alloc (.cells #[.pointer (some ⟨p.b, 0, none⟩)] 102))
 have K0 := Blk.new W #[.pointer (some ⟨p.b, 0, none⟩)] 102
 generalize pointersB (fun _ x => pointsB s.pf x 3 4) h.old s.o3 = r1 at *
 generalize pointersB (fun _ x => pointsB s.pf x 3 4) h.far s.o4 = r2 at *
 rw [HR.out]
 clear a HR
 rcases r1 with _ | _
 ·go_enter Tryz.func100, Tryz.ntmps100
  go_wp2_with fail
  refine (HP.out _ _ A.out (by simp)).mono ?_; rintro e w ⟨rfl, k1⟩
  go_wp2_with fail
  go_ret
  refine ⟨rfl, ?_⟩
  exact bm
 ·go_enter Tryz.func100, Tryz.ntmps100
  go_wp2_with fail
  refine (HP.out _ _ A.out (by simp)).mono ?_; rintro e w ⟨rfl, k1⟩
  have K1 := K0.tr k1
  obtain ⟨l1, c1, f1⟩ := K1.get
  go_wp2_with fail
  refine (HQ.out _ _ (A.out.tr k1) (c1 0)).mono ?_; rintro e w2 ⟨rfl, k2⟩
  go_wp2_with fail
  go_ret
  refine ⟨rfl, ?_⟩
  exact bm
theorem settled_any (a : St w0 W p h v s ov) : Calls Tryz.prog 98 #[.pointer (some ⟨p.b, 0, none⟩)] W fun e w' => e = .returned (.bool (settledB h s)) ∧ Below W.heap.size W w' := by
 have HP : Hid (∀ bx W, St w0 W p h v s ov → W.cell? ⟨bx, 0, none⟩ = some (.pointer (some ⟨p.b, 0, none⟩)) → Calls Tryz.prog 113 #[.pointer (some ⟨p.b, 0, none⟩), .int .i64 2, .func (.func 114) #[] #[.pointer (some ⟨bx, 0, none⟩)]] W fun e w' => e = .returned (.bool (pointersB (fun _ x => pointsB s.pf x 1 2) h.high s.o2)) ∧ Below W.heap.size W w') :=
  Lib.hid fun bx W a hb => pointers_any 2 ⟨by decide, by decide⟩ 114 bx _ Tryz.call114 a hb (clo1 bx)
 have HQ : Hid (∀ bx W, St w0 W p h v s ov → W.cell? ⟨bx, 0, none⟩ = some (.pointer (some ⟨p.b, 0, none⟩)) → Calls Tryz.prog 113 #[.pointer (some ⟨p.b, 0, none⟩), .int .i64 1, .func (.func 115) #[] #[.pointer (some ⟨bx, 0, none⟩)]] W fun e w' => e = .returned (.bool (pointersB (fun at_ x => decide (h.scan ≤ at_) || pointsB s.pf x 1 2) h.low s.o1)) ∧ Below W.heap.size W w') :=
  Lib.hid fun bx W a hb => pointers_any 1 ⟨by decide, by decide⟩ 115 bx _ Tryz.call115 a hb (clo2 bx)
 have HR : Hid (settledB h s = (h.roots.all (fun x => pointsB s.pf x 1 2) && (pointersB (fun _ x => pointsB s.pf x 1 2) h.high s.o2 && pointersB (fun at_ x => decide (h.scan ≤ at_) || pointsB s.pf x 1 2) h.low s.o1))) := rfl
 have HT : Hid (∀ W x, St w0 W p h v s ov → (0 ≤ x ∧ x < 18446744073709551616) → Calls Tryz.prog 112 #[.pointer (some ⟨p.b, 0, none⟩), .int .u64 x, .int .i64 1, .int .i64 2] W fun e w' => e = .returned (.bool (pointsB s.pf x 1 2)) ∧ W = w') := Lib.hid fun W x a hx => points_any a x 1 2 hx
 obtain ⟨lb, cb, fb⟩ := a.blk.get
 have c9 : W.cell? ⟨p.b, 9, none⟩ = some v.r := cb 9
 obtain ⟨ra, rb, ro, rc, er, ⟨r1, r2⟩, r3, ⟨r4, r4'⟩, r5, r6⟩ := a.now.roots
 have HSm : Hid (∀ i, 0 ≤ h.roots.getD i 0 ∧ h.roots.getD i 0 < 18446744073709551616) := a.hin.sroots
 rw [er] at c9
 have A := Lib.hid a
 have K0 : Blk (W.alloc (.cells #[.pointer (some ⟨p.b, 0, none⟩)] 102)) W.heap.size #[.pointer (some ⟨p.b, 0, none⟩)] 102 := Blk.new W _ _
 have HB0 : Hid (Below W.heap.size W (W.alloc (.cells #[.pointer (some ⟨p.b, 0, none⟩)] 102))) := Lib.hid (by exact bm)
 generalize pointersB (fun _ x => pointsB s.pf x 1 2) h.high s.o2 = q1 at *
 generalize pointersB (fun at_ x => decide (h.scan ≤ at_) || pointsB s.pf x 1 2) h.low s.o1 = q2 at *
 have HR1 := Lib.hid r1
 have HR6 := Lib.hid r6
 clear a r1 r2 r6 er cb fb r4'
 generalize h.roots = zs at *
 generalize hn : zs.length = n at *
 have HN := Lib.hid hn
 clear hn
 generalize settledB h s = R at *
 go_enter Tryz.func98, Tryz.ntmps98
 go_wp2_with fail
 go_loopw [11] (fun i wr => ∃ j : Nat, j ≤ n ∧ i = .int .i64 j ∧ Hid (∀ m, m < j → pointsB s.pf (zs.getD m 0) 1 2 = true) ∧ Hid (Blk wr W.heap.size #[.pointer (some ⟨p.b, 0, none⟩)] 102) ∧ Hid (Below W.heap.size W wr)) (fun i _ => n - (intOf i).toNat)
 case atStart => exact ⟨0, Nat.zero_le _, rfl, fun m hm => absurd hm (Nat.not_lt_zero _), K0, HB0.out⟩
 case round =>
  obtain ⟨j, hj, rfl, hpre, hk, hbr⟩ := hrel
  clear K0 HB0
  obtain ⟨lo, co, fo⟩ := hk.out.get
  by_cases hlj : j < n
  ·obtain rfl := HR1.out (by omega)
   have hwi := (HR6.out.block (hbr.out.block rb r5)).at j hlj
   have hsmi := Lib.hid (HSm.out j)
   have HNo : Hid (pointsB s.pf (zs.getD j 0) 1 2 = false → R = false) := fun e => by
    have hall : zs.all (fun x => pointsB s.pf x 1 2) = false := by
     rw [Bool.eq_false_iff]
     intro e2
     have hjl : j < zs.length := by have := HN.out; omega
     have h3 := List.all_eq_true.1 e2 zs[j] (List.getElem_mem hjl)
     have h4 : zs.getD j 0 = zs[j] := by simp [List.getD, hjl]
     rw [h4, h3] at e
     cases e
    rw [HR.out, hall]; rfl
   have HYes : Hid (pointsB s.pf (zs.getD j 0) 1 2 = true → ∀ m, m < j + 1 → pointsB s.pf (zs.getD m 0) 1 2 = true) := fun e m hm => by
    rcases Nat.lt_or_ge m j with h | h
    ·exact hpre.out m h
    ·obtain rfl : m = j := by omega
     exact e
   clear hpre
   generalize zs.getD j 0 = x at *
   have hHF := Lib.hid (HT.out wr x (A.out.tr hbr.out) hsmi.out)
   generalize hP : pointsB s.pf x 1 2 = r at *
   clear hP
   rcases r with _ | _
   ·obtain rfl := HNo.out rfl
    clear HNo HYes
    go_wp2_with fail
    refine hHF.out.mono ?_; rintro e w3 ⟨rfl, rfl⟩
    go_wp2_with fail
    go_ret
    refine ⟨rfl, ?_⟩
    have := hbr.out
    exact bm
   ·have HY := Lib.hid (HYes.out rfl)
    clear HNo HYes
    go_wp2_with fail
    refine hHF.out.mono ?_; rintro e w3 ⟨rfl, rfl⟩
    go_wp2_with fail
    exact ⟨⟨j + 1, by omega, by go_num, HY.out, hk.out, hbr.out⟩, by simp [intOf]; omega⟩
  ·have HR2 : Hid (R = (q1 && q2)) := by
    have hall : zs.all (fun x => pointsB s.pf x 1 2) = true := by
     rw [List.all_eq_true]
     intro x hx
     obtain ⟨m, hm, rfl⟩ := List.mem_iff_getElem.1 hx
     have h3 := hpre.out m (by have := HN.out; omega)
     have h4 : zs.getD m 0 = zs[m] := by simp [List.getD, hm]
     rw [h4] at h3
     exact h3
    show _ = _
    rw [HR.out, hall]; rfl
   have HPw := Lib.hid (HP.out W.heap.size wr (A.out.tr hbr.out) (co 0))
   clear HR hpre
   rcases q1 with _ | _
   ·obtain rfl : R = false := HR2.out
    go_wp2_with fail
    refine HPw.out.mono ?_; rintro e w3 ⟨rfl, k3⟩
    go_wp2_with fail
    go_ret
    refine ⟨rfl, ?_⟩
    have := hbr.out
    exact bm
   ·obtain rfl : R = q2 := HR2.out
    go_wp2_with fail
    refine HPw.out.mono ?_; rintro e w3 ⟨rfl, k3⟩
    have hb3 := Lib.hid (kp_tr hbr.out k3)
    obtain ⟨l3, c3, f3⟩ := (hk.out.tr k3).get
    go_wp2_with fail
    refine (HQ.out W.heap.size w3 (A.out.tr hb3.out) (c3 0)).mono ?_; rintro e w4 ⟨rfl, k4⟩
    go_wp2_with fail
    go_ret
    refine ⟨rfl, ?_⟩
    have := hb3.out
    exact bm
end Go.Proofs.YtpgjploaliefdaaGreat.ck
namespace Go.Proofs.YtpgjploaliefdaaGreat.ck
open Go Go.RowKit hp ob hd cp mp cm
set_option linter.unusedVariables false
set_option linter.unusedSimpArgs false
set_option maxRecDepth 100000
set_option maxHeartbeats 2000000
variable {w0 w W : World} {p : Pl} {h : Hp} {v : Hv} {s : Fnd} {ov : Ov}
theorem resting_any (a : St w0 W p h v s ov) : Calls Tryz.prog 95 #[.pointer (some ⟨p.b, 0, none⟩)] W fun e w' => e = .returned (.bool (restingB h)) ∧ Below W.heap.size W w' := by
 obtain ⟨lb, cb, fb⟩ := a.blk.get
 obtain ⟨la, lc, e1⟩ := nums_form a.hin.low
 obtain ⟨oa, oc, e2⟩ := nums_form a.hin.old
 obtain ⟨fa, fc, e3⟩ := nums_form a.hin.far
 have c3 : W.cell? ⟨p.b, 3, none⟩ = some (.bool h.cyc) := cb 3
 have c4 : W.cell? ⟨p.b, 4, none⟩ = some (.int .i64 h.scan) := cb 4
 have c5 : W.cell? ⟨p.b, 5, none⟩ = some v.l := cb 5
 have c7 : W.cell? ⟨p.b, 7, none⟩ = some v.o := cb 7
 have c8 : W.cell? ⟨p.b, 8, none⟩ = some v.f := cb 8
 rw [e1] at c5
 rw [e2] at c7
 rw [e3] at c8
 have HR : Hid (restingB h = if h.cyc then decide (h.scan < h.low.length) else decide (h.old.length = 0 ∧ h.far.length = 0 ∧ h.scan = h.low.length)) := rfl
 generalize restingB h = R at *
 clear a cb fb e1 e2 e3
 obtain ⟨base, cap, tt, cyc, scan, low, high, old, far, roots⟩ := h
 dsimp only at *
 generalize low.length = nl at *
 generalize high.length = nh at *
 generalize old.length = no at *
 generalize far.length = nf at *
 generalize p.b = b at *
 rcases cyc with _ | _
 ·by_cases h1 : ¬ no = 0
  ·have d1 : ((no : Int) == 0) = false := beq_eq_false_iff_ne.mpr (by omega)
   obtain rfl : R = false := by rw [HR.out]; simp; omega
   go_enter Tryz.func95, Tryz.ntmps95
   go_wp2_with fail
   go_quiet (fail)
   go_wp2_with fail
   go_ret
   refine ⟨rfl, ?_⟩
   exact bm
  have d1 : ((no : Int) == 0) = true := beq_iff_eq.mpr (by omega)
  by_cases h2 : ¬ nf = 0
  ·have d2 : ((nf : Int) == 0) = false := beq_eq_false_iff_ne.mpr (by omega)
   obtain rfl : R = false := by rw [HR.out]; simp; omega
   go_enter Tryz.func95, Tryz.ntmps95
   go_wp2_with fail
   go_quiet (fail)
   go_wp2_with fail
   go_ret
   refine ⟨rfl, ?_⟩
   exact bm
  have d2 : ((nf : Int) == 0) = true := beq_iff_eq.mpr (by omega)
  by_cases h3 : ¬ scan = nl
  ·have d3 : (scan == (nl : Int)) = false := beq_eq_false_iff_ne.mpr h3
   obtain rfl : R = false := by rw [HR.out]; simp; omega
   go_enter Tryz.func95, Tryz.ntmps95
   go_wp2_with fail
   go_quiet (fail)
   go_wp2_with fail
   go_ret
   refine ⟨rfl, ?_⟩
   exact bm
  have d3 : (scan == (nl : Int)) = true := beq_iff_eq.mpr (by omega)
  obtain rfl : R = true := by rw [HR.out]; simp; omega
  go_enter Tryz.func95, Tryz.ntmps95
  go_wp2_with fail
  go_quiet (fail)
  go_wp2_with fail
  go_ret
  refine ⟨rfl, ?_⟩
  exact bm
 ·obtain rfl : R = decide (scan < nl) := HR.out
  go_enter Tryz.func95, Tryz.ntmps95
  go_wp2_with fail
  go_quiet (fail)
  go_wp2_with fail
  go_ret
  refine ⟨rfl, ?_⟩
  exact bm
def waitA (os : List Ob) (n : Int) : Int := os.foldl (fun n o => if o.g then n else n + (1 + o.s)) n
def waitR (s : Fnd) (q : Nat) : List Ob := if q = 3 then s.o3 ++ s.o4 else if q = 4 then s.o4 else []
theorem waitR_next (s : Fnd) {q : Nat} (hq : 3 ≤ q ∧ q ≤ 4) : waitR s q = s.obs q ++ waitR s (q + 1) := by
 rcases (show q = 3 ∨ q = 4 by omega) with rfl | rfl
 ·rfl
 ·show s.o4 = s.o4 ++ []
  simp
theorem waitA_app (a b : List Ob) (n : Int) : waitA (a ++ b) n = waitA b (waitA a n) := by unfold waitA; rw [List.foldl_append]
theorem waitA_drop {os : List Ob} {j : Nat} (h : j < os.length) (n : Int) : waitA (os.drop j) n = waitA (os.drop (j + 1)) (if (obD os j).g then n else n + (1 + (obD os j).s)) := by
 rw [drop_ob h]
 rfl
theorem waiting_any (a : St w0 W p h v s ov) :
  Calls Tryz.prog 118 #[.pointer (some ⟨p.b, 0, none⟩)] W fun e w' => e = .returned (.int .i64 (waitN (s.o3 ++ s.o4))) ∧ Below W.heap.size W w' := by
 have HT : Hid (waitN (s.o3 ++ s.o4) = waitA (waitR s 3) 0) := rfl
 generalize waitN (s.o3 ++ s.o4) = T at *
 have A := Lib.hid a
 clear a
 go_enter Tryz.func118, Tryz.ntmps118
 go_wp2_with fail
 go_loopw [4, 3] (fun i n wr => ∃ (q : Nat) (m : Int), (3 ≤ q ∧ q ≤ 5) ∧ i = .int .i64 q ∧ n = .int .i64 m ∧ (0 ≤ m ∧ m ≤ 256000000000000 * (q - 3)) ∧ Hid (T = waitA (waitR s q) m) ∧ Hid (Below W.heap.size W wr)) (fun i _ _ => 6 - (intOf i).toNat)
 case atStart => exact ⟨3, 0, by omega, rfl, rfl, by omega, HT.out, Below.refl _ _⟩
 case round =>
  obtain ⟨q, m, ⟨hq1, hq2⟩, rfl, rfl, ⟨hm1, hm2⟩, hres, hbr⟩ := hrel
  clear HT
  by_cases hq5 : q = 5
  ·subst hq5
   obtain rfl : T = m := hres.out
   go_wp2_with fail
   go_ret
   refine ⟨rfl, ?_⟩
   have := hbr.out
   exact bm
  ·have A1 := Lib.hid (A.out.tr hbr.out)
   generalize hW1 : wr = W1 at *
   clear hW1
   obtain ⟨lb, cb, fb⟩ := A1.out.blk.get
   obtain ⟨hob, hfit, hlen⟩ := A1.out.obs q
   have hzl := nums_len (A1.out.now.part q).1
   have hos := obs_sees hob (by omega) (by omega)
   have hcq : W1.cell? ⟨p.b, 17 + (q - 1), none⟩ = some (ov.part q) := (cb _).trans (ov_cell _ _ _ _ _ _ ⟨by omega, by omega⟩)
   obtain ⟨oa, ob, off, oc, eo, ⟨o1, o2⟩, o3, ⟨o4, o4'⟩, o5, o6⟩ := hos
   rw [eo] at hcq
   have HS : Hid (T = waitA (waitR s (q + 1)) (waitA (s.obs q) m)) := by
    show T = waitA (waitR s (q + 1)) (waitA (s.obs q) m)
    rw [← waitA_app, ← waitR_next s ⟨by omega, by omega⟩]
    exact hres.out
   have HO6 := Lib.hid o6
   have HFit := Lib.hid hfit
   have HO1 := Lib.hid o1
   clear hres hob hfit cb fb o2 o6 eo o1
   generalize s.obs q = os at *
   generalize hn : os.length = n at *
   have HN := Lib.hid hn
   clear hn
   go_wp2_with fail
   go_loopw [19, 3] (fun i nv wr2 => ∃ (j : Nat) (mm : Int), j ≤ n ∧ i = .int .i64 j ∧ nv = .int .i64 mm ∧ (0 ≤ mm ∧ mm ≤ 256000000000000 * (q - 3) + 256 * j) ∧ Hid (T = waitA (waitR s (q + 1)) (waitA (os.drop j) mm)) ∧ Hid (Below W1.heap.size W1 wr2)) (fun i _ _ => n - (intOf i).toNat)
   case atStart => exact ⟨0, m, Nat.zero_le _, rfl, rfl, by omega, HS.out, Below.refl _ _⟩
   case round =>
    obtain ⟨j, mm, hj, rfl, rfl, ⟨hmm1, hmm2⟩, hr2, hb2⟩ := hrel
    have hws := hb2.out.size
    by_cases hlj : j < n
    ·obtain rfl := HO1.out (by omega)
     have hxk := (HO6.out.block (hb2.out.block ob o5)).at j hlj
     have HS2 : Hid (T = waitA (waitR s (q + 1)) (waitA (os.drop (j + 1)) (if (obD os j).g then mm else mm + (1 + (obD os j).s)))) := by
      show _ = _
      rw [← waitA_drop (by have := HN.out; omega)]
      exact hr2.out
     obtain ⟨f0, f1, f2, f3, f4, f5⟩ := HFit.out _ (obD_mem (by have := HN.out; omega : j < os.length))
     clear hr2 HS
     generalize obD os j = o at *
     obtain ⟨p0, sz, pp, g, t⟩ := o
     obtain ⟨x0, x1, x2, x3, x4⟩ := hxk
     dsimp only at x0 x1 x2 x3 x4 f0 f1 f2 f3 f4 f5
     rcases g with _ | _
     ·have HS3 : Hid (T = waitA (waitR s (q + 1)) (waitA (os.drop (j + 1)) (mm + (1 + sz)))) := HS2.out
      clear HS2
      go_wp2_with fail
      refine ⟨⟨j + 1, mm + (1 + sz), by omega, by go_num, rfl, by omega, HS3.out, ?_⟩, by simp [intOf]; omega⟩
      have := hb2.out
      show Below _ _ _
      exact bm
     ·have HS3 : Hid (T = waitA (waitR s (q + 1)) (waitA (os.drop (j + 1)) mm)) := HS2.out
      clear HS2
      go_wp2_with fail
      refine ⟨⟨j + 1, mm, by omega, by go_num, rfl, by omega, HS3.out, ?_⟩, by simp [intOf]; omega⟩
      have := hb2.out
      show Below _ _ _
      exact bm
    ·have HR : Hid (T = waitA (waitR s (q + 1)) mm) := by
      show _ = _
      rw [hr2.out, List.drop_eq_nil_of_le (by have := HN.out; omega)]
      rfl
     go_wp2_with fail
     refine ⟨⟨q + 1, mm, by omega, by go_num, rfl, by omega, HR.out, ?_⟩, by simp [intOf]; omega⟩
     have h1 := hbr.out
     have h2 := hb2.out
     show Below _ _ _
     exact bm
theorem wait_le (os : List Ob) (n : Int) (hf : ∀ o ∈ os, 0 ≤ o.s ∧ o.s ≤ 255) : n ≤ waitA os n ∧ waitA os n ≤ n + 256 * os.length := by
 induction os generalizing n with
 | nil => exact ⟨Int.le_refl _, by simp [waitA]⟩
 | cons o os ih =>
  have h1 := hf o (by simp)
  have h2 := ih (if o.g then n else n + (1 + o.s)) (fun o' h' => hf o' (List.mem_cons_of_mem _ h'))
  have h3 : waitA (o :: os) n = waitA os (if o.g then n else n + (1 + o.s)) := rfl
  rw [h3]
  have h4 : ((o :: os).length : Int) = os.length + 1 := by simp
  have h5 : n ≤ (if o.g then n else n + (1 + o.s)) ∧ (if o.g then n else n + (1 + o.s)) ≤ n + 256 := by split <;> omega
  generalize (if o.g then n else n + (1 + o.s)) = z at *
  omega
theorem s3b_tr {W w1 : World} {b : Nat} (hb : Below W.heap.size W w1) (hn : b < W.heap.size) {o1 o2 o3 : Nat} {v1 v2 v3 : Value} (h : W.cell? ⟨b, o1, none⟩ = some v1 ∧ W.cell? ⟨b, o2, none⟩ = some v2 ∧ W.cell? ⟨b, o3, none⟩ = some v3) :
  w1.cell? ⟨b, o1, none⟩ = some v1 ∧ w1.cell? ⟨b, o2, none⟩ = some v2 ∧ w1.cell? ⟨b, o3, none⟩ = some v3 := by
 have hc : ∀ o, w1.cell? ⟨b, o, none⟩ = W.cell? ⟨b, o, none⟩ := fun o => hb.cell (p := ⟨b, o, none⟩) hn
 rw [hc, hc, hc]
 exact h
theorem roomy_any (a : St w0 W p h v s ov) : Calls Tryz.prog 101 #[.pointer (some ⟨p.b, 0, none⟩)] W fun e w' => e = .returned (.bool (roomyB h s)) ∧ Below W.heap.size W w' := by
 obtain ⟨lb, cb, fb⟩ := a.blk.get
 obtain ⟨la, lc, e1⟩ := nums_form a.hin.low
 obtain ⟨ha, hc, e2⟩ := nums_form a.hin.high
 have z1 := nums_len a.hin.low
 have z2 := nums_len a.hin.high
 have z3 := nums_len a.hin.old
 have z4 := nums_len a.hin.far
 have c5 : W.cell? ⟨p.b, 5, none⟩ = some v.l := cb 5
 have c6 : W.cell? ⟨p.b, 6, none⟩ = some v.h := cb 6
 have c1 : W.cell? ⟨p.b, 1, none⟩ = some (.int .i64 h.cap) := cb 1
 rw [e1] at c5
 rw [e2] at c6
 have HW : Hid (∀ W, St w0 W p h v s ov → Calls Tryz.prog 118 #[.pointer (some ⟨p.b, 0, none⟩)] W fun e w' => e = .returned (.int .i64 (waitN (s.o3 ++ s.o4))) ∧ Below W.heap.size W w') := Lib.hid fun W a => waiting_any a
 have hw : 0 ≤ waitN (s.o3 ++ s.o4) ∧ waitN (s.o3 ++ s.o4) ≤ 256 * (s.o3.length + s.o4.length) := by
  have := wait_le (s.o3 ++ s.o4) 0 (fun o ho => by
   rcases List.mem_append.1 ho with ho | ho
   ·exact ⟨(a.f3.1 o ho).2.1, (a.f3.1 o ho).2.2.1⟩
   ·exact ⟨(a.f4.1 o ho).2.1, (a.f4.1 o ho).2.2.1⟩)
  rw [List.length_append] at this
  have e : waitA (s.o3 ++ s.o4) 0 = waitN (s.o3 ++ s.o4) := rfl
  rw [e] at this
  omega
 have hl3 := a.f3.2
 have hl4 := a.f4.2
 have HR : Hid (roomyB h s = decide ((h.low.length : Int) + h.high.length + waitN (s.o3 ++ s.o4) ≤ h.cap)) := rfl
 have A := Lib.hid (a.tr (Below.refl _ _).drew)
 have hT : waitN (s.o3 ++ s.o4) ≤ 1000000000000000 := by omega
 have hT0 := hw.1
 generalize waitN (s.o3 ++ s.o4) = T at *
 clear a cb fb e1 e2 z3 z4 hw hl3 hl4
 obtain ⟨base, cap, tt, cyc, scan, low, high, old, far, roots⟩ := h
 dsimp only at *
 generalize low.length = nl at *
 generalize high.length = nh at *
 have jA : IntKind.i64.wrap ((nl : Int) + (nh : Int)) = ((nl + nh : Nat) : Int) := by rw [IntWalk.i64_in _ (by omega)]; omega
 have hS : ∃ S : Int, S = ((nl + nh : Nat) : Int) + T ∧ IntKind.i64.wrap (((nl + nh : Nat) : Int) + T) = S := ⟨_, rfl, IntWalk.i64_in _ (by omega)⟩
 obtain ⟨S, hS, jB⟩ := hS
 have HU : Hid (roomyB ⟨base, cap, tt, cyc, scan, low, high, old, far, roots⟩ s = decide (S ≤ cap)) := by
  show _ = _
  rw [HR.out]
  exact decide_eq_decide.2 (by omega)
 generalize roomyB ⟨base, cap, tt, cyc, scan, low, high, old, far, roots⟩ s = R at *
 clear HR hS
 generalize nl + nh = U at *
 have tok1 : True := trivial
 go_enter Tryz.func101, Tryz.ntmps101
 go_wp2_with fail
 go_region_held3 (fun w' => w'.cell? ⟨p.b, 5, none⟩ = some (.slice la nl lc) ∧ w'.cell? ⟨p.b, 6, none⟩ = some (.slice ha nh hc) ∧ w'.cell? ⟨p.b, 1, none⟩ = some (.int .i64 cap))
  ((refine s3b_tr (W := W) ?_ lb ⟨c5, c6, c1⟩; exact bm))
  (first
   | (go_at_call 118; refine (HW.out _ A.out).mono ?_; rintro e w2 ⟨rfl, k2⟩))
 go_wp2_with fail
 go_ret
 refine ⟨by rw [HU.out]; rfl, ?_⟩
 exact bm
end Go.Proofs.YtpgjploaliefdaaGreat.ck
