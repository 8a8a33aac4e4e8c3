/- check: settled, unscanned, left, with their closures. No conditions. -/
import Derived.Test.YtpgjploaliefdaaGreatG14
namespace Go.Proofs.YtpgjploaliefdaaGreat.ck
open Go Go.RowKit Go.Proofs.YtpgjploaliefdaaGreat.hp Go.Proofs.YtpgjploaliefdaaGreat.ob Go.Proofs.YtpgjploaliefdaaGreat.hd Go.Proofs.YtpgjploaliefdaaGreat.cp Go.Proofs.YtpgjploaliefdaaGreat.mp Go.Proofs.YtpgjploaliefdaaGreat.cm
set_option linter.unusedVariables false
set_option linter.unusedSimpArgs false
set_option maxRecDepth 100000
set_option maxHeartbeats 2000000
variable {w0 w W : World} {p : Pl} {h : Hp} {v : Hv} {s : Fnd} {ov : Ov}
theorem clo1 (bx : Nat) (W' : World) (at_ x : Int) (a : St w0 W' p h v s ov) (hb : W'.cell? ⟨bx, 0, none⟩ = some (.pointer (some ⟨p.b, 0, none⟩))) (hx : 0 ≤ x ∧ x < 18446744073709551616) :
    Calls Tryz.prog 114 #[.int .i64 at_, .int .u64 x, .pointer (some ⟨bx, 0, none⟩)] W' fun e w' => e = .returned (.bool (pointsB s.pf x 1 2)) ∧ Below W'.heap.size W' w' := by
  have HP := Lib.hid (points_any a x 1 2 hx)
  clear a hx
  generalize pointsB s.pf x 1 2 = r at *
  go_enter Tryz.func114, Tryz.ntmps114
  go_wp2_with fail
  refine HP.out.mono ?_; rintro e w ⟨rfl, rfl⟩
  go_wp2_with fail
  go_ret
  refine ⟨rfl, ?_⟩
  (repeat (first | with_reducible exact Below.refl _ _ | with_reducible refine kp_alloc ?_ _ | with_reducible refine kp_drew ?_ | with_reducible refine below_drewN ?_ _ | with_reducible refine kp_set ?_ (by first | omega | (simp; done) | (simp; omega)) _ | with_reducible refine kp_tr ?_ (by with_reducible assumption)))
theorem clo4 (bx : Nat) (W' : World) (at_ x : Int) (a : St w0 W' p h v s ov) (hb : W'.cell? ⟨bx, 0, none⟩ = some (.pointer (some ⟨p.b, 0, none⟩))) (hx : 0 ≤ x ∧ x < 18446744073709551616) :
    Calls Tryz.prog 117 #[.int .i64 at_, .int .u64 x, .pointer (some ⟨bx, 0, none⟩)] W' fun e w' => e = .returned (.bool (pointsB s.pf x 3 4)) ∧ Below W'.heap.size W' w' := by
  have HP := Lib.hid (points_any a x 3 4 hx)
  clear a hx
  generalize pointsB s.pf x 3 4 = r at *
  go_enter Tryz.func117, Tryz.ntmps117
  go_wp2_with fail
  refine HP.out.mono ?_; rintro e w ⟨rfl, rfl⟩
  go_wp2_with fail
  go_ret
  refine ⟨rfl, ?_⟩
  (repeat (first | with_reducible exact Below.refl _ _ | with_reducible refine kp_alloc ?_ _ | with_reducible refine kp_drew ?_ | with_reducible refine below_drewN ?_ _ | with_reducible refine kp_set ?_ (by first | omega | (simp; done) | (simp; omega)) _ | with_reducible refine kp_tr ?_ (by with_reducible assumption)))
theorem clo2 (bx : Nat) (W' : World) (at_ x : Int) (a : St w0 W' p h v s ov) (hb : W'.cell? ⟨bx, 0, none⟩ = some (.pointer (some ⟨p.b, 0, none⟩))) (hx : 0 ≤ x ∧ x < 18446744073709551616) :
    Calls Tryz.prog 115 #[.int .i64 at_, .int .u64 x, .pointer (some ⟨bx, 0, none⟩)] W' fun e w' => e = .returned (.bool (decide (h.scan ≤ at_) || pointsB s.pf x 1 2)) ∧ Below W'.heap.size W' w' := by
  have HP := Lib.hid (points_any a x 1 2 hx)
  obtain ⟨lb, cb, fb⟩ := a.blk.get
  have c4 : W'.cell? ⟨p.b, 4, none⟩ = some (.int .i64 h.scan) := cb 4
  clear a hx cb fb
  generalize pointsB s.pf x 1 2 = r at *
  generalize h.scan = sc at *
  by_cases hs : sc ≤ at_
  · have e : (decide (sc ≤ at_) || r) = true := by simp [hs]
    rw [e]
    go_enter Tryz.func115, Tryz.ntmps115
    go_wp2_with fail
    go_ret
    refine ⟨rfl, ?_⟩
    (repeat (first | with_reducible exact Below.refl _ _ | with_reducible refine kp_alloc ?_ _ | with_reducible refine kp_drew ?_ | with_reducible refine below_drewN ?_ _ | with_reducible refine kp_set ?_ (by first | omega | (simp; done) | (simp; omega)) _ | with_reducible refine kp_tr ?_ (by with_reducible assumption)))
  · have e : (decide (sc ≤ at_) || r) = r := by simp [hs]
    rw [e]
    go_enter Tryz.func115, Tryz.ntmps115
    go_wp2_with fail
    refine HP.out.mono ?_; rintro e w ⟨rfl, rfl⟩
    go_wp2_with fail
    go_ret
    refine ⟨rfl, ?_⟩
    (repeat (first | with_reducible exact Below.refl _ _ | with_reducible refine kp_alloc ?_ _ | with_reducible refine kp_drew ?_ | with_reducible refine below_drewN ?_ _ | with_reducible refine kp_set ?_ (by first | omega | (simp; done) | (simp; omega)) _ | with_reducible refine kp_tr ?_ (by with_reducible assumption)))
theorem clo3 (bx : Nat) (W' : World) (at_ x : Int) (a : St w0 W' p h v s ov) (hb : W'.cell? ⟨bx, 0, none⟩ = some (.pointer (some ⟨p.b, 0, none⟩))) (hx : 0 ≤ x ∧ x < 18446744073709551616) :
    Calls Tryz.prog 116 #[.int .i64 at_, .int .u64 x, .pointer (some ⟨bx, 0, none⟩)] W' fun e w' => e = .returned (.bool (decide (at_ < h.scan) || pointsB s.pf x 1 4)) ∧ Below W'.heap.size W' w' := by
  have HP := Lib.hid (points_any a x 1 4 hx)
  obtain ⟨lb, cb, fb⟩ := a.blk.get
  have c4 : W'.cell? ⟨p.b, 4, none⟩ = some (.int .i64 h.scan) := cb 4
  clear a hx cb fb
  generalize pointsB s.pf x 1 4 = r at *
  generalize h.scan = sc at *
  by_cases hs : at_ < sc
  · have e : (decide (at_ < sc) || r) = true := by simp [hs]
    rw [e]
    go_enter Tryz.func116, Tryz.ntmps116
    go_wp2_with fail
    go_ret
    refine ⟨rfl, ?_⟩
    (repeat (first | with_reducible exact Below.refl _ _ | with_reducible refine kp_alloc ?_ _ | with_reducible refine kp_drew ?_ | with_reducible refine below_drewN ?_ _ | with_reducible refine kp_set ?_ (by first | omega | (simp; done) | (simp; omega)) _ | with_reducible refine kp_tr ?_ (by with_reducible assumption)))
  · have e : (decide (at_ < sc) || r) = r := by simp [hs]
    rw [e]
    go_enter Tryz.func116, Tryz.ntmps116
    go_wp2_with fail
    refine HP.out.mono ?_; rintro e w ⟨rfl, rfl⟩
    go_wp2_with fail
    go_ret
    refine ⟨rfl, ?_⟩
    (repeat (first | with_reducible exact Below.refl _ _ | with_reducible refine kp_alloc ?_ _ | with_reducible refine kp_drew ?_ | with_reducible refine below_drewN ?_ _ | with_reducible refine kp_set ?_ (by first | omega | (simp; done) | (simp; omega)) _ | with_reducible refine kp_tr ?_ (by with_reducible assumption)))
theorem unscanned_any (a : St w0 W p h v s ov) : Calls Tryz.prog 99 #[.pointer (some ⟨p.b, 0, none⟩)] W fun e w' => e = .returned (.bool (unscannedB h s)) ∧ Below W.heap.size W w' := by
  have HP : Hid (∀ bx W, St w0 W p h v s ov → W.cell? ⟨bx, 0, none⟩ = some (.pointer (some ⟨p.b, 0, none⟩)) → Calls Tryz.prog 113 #[.pointer (some ⟨p.b, 0, none⟩), .int .i64 1, .func (.func 116) #[] #[.pointer (some ⟨bx, 0, none⟩)]] W fun e w' => e = .returned (.bool (unscannedB h s)) ∧ Below W.heap.size W w') :=
    Lib.hid fun bx W a hb => pointers_any 1 ⟨by decide, by decide⟩ 116 bx _ Tryz.call116 a hb (clo3 bx)
  have A := Lib.hid (a.alloc (.cells #[.pointer (some ⟨p.b, 0, none⟩)] 102))
  generalize unscannedB h s = r at *
  clear a
  go_enter Tryz.func99, Tryz.ntmps99
  go_wp2_with fail
  refine (HP.out _ _ A.out (by simp)).mono ?_; rintro e w ⟨rfl, k1⟩
  go_wp2_with fail
  go_ret
  refine ⟨rfl, ?_⟩
  (repeat (first | with_reducible exact Below.refl _ _ | with_reducible refine kp_alloc ?_ _ | with_reducible refine kp_drew ?_ | with_reducible refine below_drewN ?_ _ | with_reducible refine kp_set ?_ (by first | omega | (simp; done) | (simp; omega)) _ | with_reducible refine kp_tr ?_ (by with_reducible assumption)))
theorem left_any (a : St w0 W p h v s ov) : Calls Tryz.prog 100 #[.pointer (some ⟨p.b, 0, none⟩)] W fun e w' => e = .returned (.bool (leftB h s)) ∧ Below W.heap.size W w' := by
  have HP : Hid (∀ bx W, St w0 W p h v s ov → W.cell? ⟨bx, 0, none⟩ = some (.pointer (some ⟨p.b, 0, none⟩)) → Calls Tryz.prog 113 #[.pointer (some ⟨p.b, 0, none⟩), .int .i64 3, .func (.func 117) #[] #[.pointer (some ⟨bx, 0, none⟩)]] W fun e w' => e = .returned (.bool (pointersB (fun _ x => pointsB s.pf x 3 4) h.old s.o3)) ∧ Below W.heap.size W w') :=
    Lib.hid fun bx W a hb => pointers_any 3 ⟨by decide, by decide⟩ 117 bx _ Tryz.call117 a hb (clo4 bx)
  have HQ : Hid (∀ bx W, St w0 W p h v s ov → W.cell? ⟨bx, 0, none⟩ = some (.pointer (some ⟨p.b, 0, none⟩)) → Calls Tryz.prog 113 #[.pointer (some ⟨p.b, 0, none⟩), .int .i64 4, .func (.func 117) #[] #[.pointer (some ⟨bx, 0, none⟩)]] W fun e w' => e = .returned (.bool (pointersB (fun _ x => pointsB s.pf x 3 4) h.far s.o4)) ∧ Below W.heap.size W w') :=
    Lib.hid fun bx W a hb => pointers_any 4 ⟨by decide, by decide⟩ 117 bx _ Tryz.call117 a hb (clo4 bx)
  have HR : Hid (leftB h s = (pointersB (fun _ x => pointsB s.pf x 3 4) h.old s.o3 && pointersB (fun _ x => pointsB s.pf x 3 4) h.far s.o4)) := rfl
  have A := Lib.hid (a.alloc (.cells #[.pointer (some ⟨p.b, 0, none⟩)] 102))
  have K0 := Blk.new W #[.pointer (some ⟨p.b, 0, none⟩)] 102
  generalize pointersB (fun _ x => pointsB s.pf x 3 4) h.old s.o3 = r1 at *
  generalize pointersB (fun _ x => pointsB s.pf x 3 4) h.far s.o4 = r2 at *
  rw [HR.out]
  clear a HR
  rcases r1 with _ | _
  · go_enter Tryz.func100, Tryz.ntmps100
    go_wp2_with fail
    refine (HP.out _ _ A.out (by simp)).mono ?_; rintro e w ⟨rfl, k1⟩
    go_wp2_with fail
    go_ret
    refine ⟨rfl, ?_⟩
    (repeat (first | with_reducible exact Below.refl _ _ | with_reducible refine kp_alloc ?_ _ | with_reducible refine kp_drew ?_ | with_reducible refine below_drewN ?_ _ | with_reducible refine kp_set ?_ (by first | omega | (simp; done) | (simp; omega)) _ | with_reducible refine kp_tr ?_ (by with_reducible assumption)))
  · go_enter Tryz.func100, Tryz.ntmps100
    go_wp2_with fail
    refine (HP.out _ _ A.out (by simp)).mono ?_; rintro e w ⟨rfl, k1⟩
    have K1 := K0.tr k1
    obtain ⟨l1, c1, f1⟩ := K1.get
    go_wp2_with fail
    refine (HQ.out _ _ (A.out.tr k1) (c1 0)).mono ?_; rintro e w2 ⟨rfl, k2⟩
    go_wp2_with fail
    go_ret
    refine ⟨rfl, ?_⟩
    (repeat (first | with_reducible exact Below.refl _ _ | with_reducible refine kp_alloc ?_ _ | with_reducible refine kp_drew ?_ | with_reducible refine below_drewN ?_ _ | with_reducible refine kp_set ?_ (by first | omega | (simp; done) | (simp; omega)) _ | with_reducible refine kp_tr ?_ (by with_reducible assumption)))
theorem settled_any (a : St w0 W p h v s ov) : Calls Tryz.prog 98 #[.pointer (some ⟨p.b, 0, none⟩)] W fun e w' => e = .returned (.bool (settledB h s)) ∧ Below W.heap.size W w' := by
  have HP : Hid (∀ bx W, St w0 W p h v s ov → W.cell? ⟨bx, 0, none⟩ = some (.pointer (some ⟨p.b, 0, none⟩)) → Calls Tryz.prog 113 #[.pointer (some ⟨p.b, 0, none⟩), .int .i64 2, .func (.func 114) #[] #[.pointer (some ⟨bx, 0, none⟩)]] W fun e w' => e = .returned (.bool (pointersB (fun _ x => pointsB s.pf x 1 2) h.high s.o2)) ∧ Below W.heap.size W w') :=
    Lib.hid fun bx W a hb => pointers_any 2 ⟨by decide, by decide⟩ 114 bx _ Tryz.call114 a hb (clo1 bx)
  have HQ : Hid (∀ bx W, St w0 W p h v s ov → W.cell? ⟨bx, 0, none⟩ = some (.pointer (some ⟨p.b, 0, none⟩)) → Calls Tryz.prog 113 #[.pointer (some ⟨p.b, 0, none⟩), .int .i64 1, .func (.func 115) #[] #[.pointer (some ⟨bx, 0, none⟩)]] W fun e w' => e = .returned (.bool (pointersB (fun at_ x => decide (h.scan ≤ at_) || pointsB s.pf x 1 2) h.low s.o1)) ∧ Below W.heap.size W w') :=
    Lib.hid fun bx W a hb => pointers_any 1 ⟨by decide, by decide⟩ 115 bx _ Tryz.call115 a hb (clo2 bx)
  have HR : Hid (settledB h s = (h.roots.all (fun x => pointsB s.pf x 1 2) && (pointersB (fun _ x => pointsB s.pf x 1 2) h.high s.o2 && pointersB (fun at_ x => decide (h.scan ≤ at_) || pointsB s.pf x 1 2) h.low s.o1))) := rfl
  have HT : Hid (∀ W x, St w0 W p h v s ov → (0 ≤ x ∧ x < 18446744073709551616) → Calls Tryz.prog 112 #[.pointer (some ⟨p.b, 0, none⟩), .int .u64 x, .int .i64 1, .int .i64 2] W fun e w' => e = .returned (.bool (pointsB s.pf x 1 2)) ∧ W = w') := Lib.hid fun W x a hx => points_any a x 1 2 hx
  obtain ⟨lb, cb, fb⟩ := a.blk.get
  have c9 : W.cell? ⟨p.b, 9, none⟩ = some v.r := cb 9
  obtain ⟨ra, rb, ro, rc, er, ⟨r1, r2⟩, r3, ⟨r4, r4'⟩, r5, r6⟩ := a.now.roots
  have HSm : Hid (∀ i, 0 ≤ h.roots.getD i 0 ∧ h.roots.getD i 0 < 18446744073709551616) := a.hin.sroots
  rw [er] at c9
  have A := Lib.hid a
  have K0 : Blk (W.alloc (.cells #[.pointer (some ⟨p.b, 0, none⟩)] 102)) W.heap.size #[.pointer (some ⟨p.b, 0, none⟩)] 102 := Blk.new W _ _
  have HB0 : Hid (Below W.heap.size W (W.alloc (.cells #[.pointer (some ⟨p.b, 0, none⟩)] 102))) := Lib.hid (by (repeat (first | with_reducible exact Below.refl _ _ | with_reducible refine kp_alloc ?_ _ | with_reducible refine kp_drew ?_ | with_reducible refine below_drewN ?_ _ | with_reducible refine kp_set ?_ (by first | omega | (simp; done) | (simp; omega)) _ | with_reducible refine kp_tr ?_ (by with_reducible assumption))))
  generalize pointersB (fun _ x => pointsB s.pf x 1 2) h.high s.o2 = q1 at *
  generalize pointersB (fun at_ x => decide (h.scan ≤ at_) || pointsB s.pf x 1 2) h.low s.o1 = q2 at *
  have HR1 := Lib.hid r1
  have HR6 := Lib.hid r6
  clear a r1 r2 r6 er cb fb r4'
  generalize h.roots = zs at *
  generalize hn : zs.length = n at *
  have HN := Lib.hid hn
  clear hn
  generalize settledB h s = R at *
  go_enter Tryz.func98, Tryz.ntmps98
  go_wp2_with fail
  go_loopw [11] (fun i wr => ∃ j : Nat, j ≤ n ∧ i = .int .i64 j ∧ Hid (∀ m, m < j → pointsB s.pf (zs.getD m 0) 1 2 = true) ∧ Hid (Blk wr W.heap.size #[.pointer (some ⟨p.b, 0, none⟩)] 102) ∧ Hid (Below W.heap.size W wr)) (fun i _ => n - (intOf i).toNat)
  case atStart => exact ⟨0, Nat.zero_le _, rfl, fun m hm => absurd hm (Nat.not_lt_zero _), K0, HB0.out⟩
  case round =>
    obtain ⟨j, hj, rfl, hpre, hk, hbr⟩ := hrel
    clear K0 HB0
    obtain ⟨lo, co, fo⟩ := hk.out.get
    by_cases hlj : j < n
    · obtain rfl := HR1.out (by omega)
      have hwi := (HR6.out.block (hbr.out.block rb r5)).at j hlj
      have hsmi := Lib.hid (HSm.out j)
      have HNo : Hid (pointsB s.pf (zs.getD j 0) 1 2 = false → R = false) := fun e => by
        have hall : zs.all (fun x => pointsB s.pf x 1 2) = false := by
          rw [Bool.eq_false_iff]
          intro e2
          have hjl : j < zs.length := by have := HN.out; omega
          have h3 := List.all_eq_true.1 e2 zs[j] (List.getElem_mem hjl)
          have h4 : zs.getD j 0 = zs[j] := by simp [List.getD, hjl]
          rw [h4, h3] at e
          cases e
        rw [HR.out, hall]; rfl
      have HYes : Hid (pointsB s.pf (zs.getD j 0) 1 2 = true → ∀ m, m < j + 1 → pointsB s.pf (zs.getD m 0) 1 2 = true) := fun e m hm => by
        rcases Nat.lt_or_ge m j with h | h
        · exact hpre.out m h
        · obtain rfl : m = j := by omega
          exact e
      clear hpre
      generalize zs.getD j 0 = x at *
      have hHF := Lib.hid (HT.out wr x (A.out.tr hbr.out) hsmi.out)
      generalize hP : pointsB s.pf x 1 2 = r at *
      clear hP
      rcases r with _ | _
      · obtain rfl := HNo.out rfl
        clear HNo HYes
        go_wp2_with fail
        refine hHF.out.mono ?_; rintro e w3 ⟨rfl, rfl⟩
        go_wp2_with fail
        go_ret
        refine ⟨rfl, ?_⟩
        have := hbr.out
        (repeat (first | with_reducible exact Below.refl _ _ | with_reducible refine kp_alloc ?_ _ | with_reducible refine kp_drew ?_ | with_reducible refine below_drewN ?_ _ | with_reducible refine kp_set ?_ (by first | omega | (simp; done) | (simp; omega)) _ | with_reducible refine kp_tr ?_ (by with_reducible assumption)))
      · have HY := Lib.hid (HYes.out rfl)
        clear HNo HYes
        go_wp2_with fail
        refine hHF.out.mono ?_; rintro e w3 ⟨rfl, rfl⟩
        go_wp2_with fail
        exact ⟨⟨j + 1, by omega, by go_num, HY.out, hk.out, hbr.out⟩, by simp [intOf]; omega⟩
    · have HR2 : Hid (R = (q1 && q2)) := by
        have hall : zs.all (fun x => pointsB s.pf x 1 2) = true := by
          rw [List.all_eq_true]
          intro x hx
          obtain ⟨m, hm, rfl⟩ := List.mem_iff_getElem.1 hx
          have h3 := hpre.out m (by have := HN.out; omega)
          have h4 : zs.getD m 0 = zs[m] := by simp [List.getD, hm]
          rw [h4] at h3
          exact h3
        show _ = _
        rw [HR.out, hall]; rfl
      have HPw := Lib.hid (HP.out W.heap.size wr (A.out.tr hbr.out) (co 0))
      clear HR hpre
      rcases q1 with _ | _
      · obtain rfl : R = false := HR2.out
        go_wp2_with fail
        refine HPw.out.mono ?_; rintro e w3 ⟨rfl, k3⟩
        go_wp2_with fail
        go_ret
        refine ⟨rfl, ?_⟩
        have := hbr.out
        (repeat (first | with_reducible exact Below.refl _ _ | with_reducible refine kp_alloc ?_ _ | with_reducible refine kp_drew ?_ | with_reducible refine below_drewN ?_ _ | with_reducible refine kp_set ?_ (by first | omega | (simp; done) | (simp; omega)) _ | with_reducible refine kp_tr ?_ (by with_reducible assumption)))
      · obtain rfl : R = q2 := HR2.out
        go_wp2_with fail
        refine HPw.out.mono ?_; rintro e w3 ⟨rfl, k3⟩
        have hb3 := Lib.hid (kp_tr hbr.out k3)
        obtain ⟨l3, c3, f3⟩ := (hk.out.tr k3).get
        go_wp2_with fail
        refine (HQ.out W.heap.size w3 (A.out.tr hb3.out) (c3 0)).mono ?_; rintro e w4 ⟨rfl, k4⟩
        go_wp2_with fail
        go_ret
        refine ⟨rfl, ?_⟩
        have := hb3.out
        (repeat (first | with_reducible exact Below.refl _ _ | with_reducible refine kp_alloc ?_ _ | with_reducible refine kp_drew ?_ | with_reducible refine below_drewN ?_ _ | with_reducible refine kp_set ?_ (by first | omega | (simp; done) | (simp; omega)) _ | with_reducible refine kp_tr ?_ (by with_reducible assumption)))
end Go.Proofs.YtpgjploaliefdaaGreat.ck
