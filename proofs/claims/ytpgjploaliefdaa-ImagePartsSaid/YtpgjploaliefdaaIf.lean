/- image.head, image.roots, the closures of image.Dump. No conditions. -/
import Derived.Test.YtpgjploaliefdaaIe
namespace Go.Proofs.Ytpgjploaliefdaa.im
open Go Go.RowKit Go.Proofs.Ytpgjploaliefdaa.cm Go.Proofs.Ytpgjploaliefdaa.cw Go.Proofs.Ytpgjploaliefdaa.ga Go.Proofs.Ytpgjploaliefdaa.gr Go.Proofs.Ytpgjploaliefdaa.hp Go.Proofs.Ytpgjploaliefdaa.ob Go.Proofs.Ytpgjploaliefdaa.hd Go.Proofs.Ytpgjploaliefdaa.cp Go.Proofs.Ytpgjploaliefdaa.ck
open Go.Proofs.Ytpgjploaliefdaa.fr (strB putN rowN row_any put_any strB_size putN_10)
set_option linter.unusedVariables false
set_option linter.unusedSimpArgs false
set_option maxRecDepth 100000
set_option maxHeartbeats 4000000
theorem row6_any (x1 x2 x3 x4 x5 x6 : Nat) (w : World) (b : Nat) (hb : Blk w b #[.int .u64 x1, .int .u64 x2, .int .u64 x3, .int .u64 x4, .int .u64 x5, .int .u64 x6] 24) (h1 : x1 < 18446744073709551616) (h2 : x2 < 18446744073709551616) (h3 : x3 < 18446744073709551616) (h4 : x4 < 18446744073709551616) (h5 : x5 < 18446744073709551616) (h6 : x6 < 18446744073709551616) :
    Calls Try.prog 7 #[.slice (some ⟨b, 0, none⟩) 6 6] w fun e w' => e = .returned (.string (strB (rowN [x1, x2, x3, x4, x5, x6]))) ∧ Below w.heap.size w w' := by
  obtain ⟨lb, cb, fb⟩ := hb.get
  exact row_any b 6 [x1, x2, x3, x4, x5, x6] w (fun i hi => by rcases (show i = 0 ∨ i = 1 ∨ i = 2 ∨ i = 3 ∨ i = 4 ∨ i = 5 by simp at hi; omega) with rfl | rfl | rfl | rfl | rfl | rfl <;> exact cb _) (fun i => by rcases i with _ | _ | _ | _ | _ | _ | i <;> simp [List.getD] <;> omega) (by simp) (by simp)
def headN (h : Hp) : List Nat := [1, h.base.toNat, h.cap.toNat, h.tt.toNat, if h.cyc then 1 else 0, h.scan.toNat]
theorem head_any (h : Hp) (v : Hv) (w : World) (hin : HIn w h v) (hc0 : 0 ≤ h.cap) (ht0 : 0 ≤ h.tt) (hs0 : 0 ≤ h.scan) :
    Calls Try.prog 21 #[hpV h v] w fun e w' => e = .returned (.string (strB (rowN (headN h)))) ∧ Below w.heap.size w w' := by
  have b1 := hin.base
  have b2 := hin.cap
  have b3 := hin.tt
  have b4 := hin.scan
  have HIN := Lib.hid hin
  obtain ⟨la, lc, e1⟩ := nums_form hin.low
  obtain ⟨ha, hc, e2⟩ := nums_form hin.high
  obtain ⟨oa, oc, e3⟩ := nums_form hin.old
  obtain ⟨fa, fc, e4⟩ := nums_form hin.far
  obtain ⟨ra, rc, e5⟩ := nums_form hin.roots
  clear hin
  obtain ⟨vl, vh, vo, vf, vr⟩ := v
  dsimp only at e1 e2 e3 e4 e5
  subst e1 e2 e3 e4 e5
  unfold hpV at *
  dsimp only at *
  have HH : Hid (headN h = [1, h.base.toNat, h.cap.toNat, h.tt.toNat, if h.cyc then 1 else 0, h.scan.toNat]) := rfl
  generalize headN h = hn at *
  clear HIN
  obtain ⟨base, cap, tt, cyc, scan, low, high, old, far, roots⟩ := h
  dsimp only at *
  generalize low.length = nl at *
  generalize high.length = nh at *
  generalize old.length = no at *
  generalize far.length = nf at *
  generalize roots.length = nr at *
  obtain ⟨b1, b1'⟩ := b1
  obtain ⟨b2, b2'⟩ := b2
  obtain ⟨b3, b3'⟩ := b3
  obtain ⟨b4, b4'⟩ := b4
  obtain ⟨base, rfl⟩ := Int.eq_ofNat_of_zero_le b1
  obtain ⟨cap, rfl⟩ := Int.eq_ofNat_of_zero_le hc0
  obtain ⟨tt, rfl⟩ := Int.eq_ofNat_of_zero_le ht0
  obtain ⟨scan, rfl⟩ := Int.eq_ofNat_of_zero_le hs0
  rcases cyc with _ | _
  · have HH2 : Hid (hn = [1, base, cap, tt, 0, scan]) := by
      show _ = _
      rw [HH.out]
      simp
    clear HH
    have K6 : Blk ((w.alloc (.cells #[.int .u64 base, .int .i64 cap, .int .i64 tt, .bool false, .int .i64 scan, .slice la nl lc, .slice ha nh hc, .slice oa no oc, .slice fa nf fc, .slice ra nr rc] 40)).alloc (.cells #[.int .u64 (1 : Nat), .int .u64 base, .int .u64 cap, .int .u64 tt, .int .u64 (0 : Nat), .int .u64 scan] 24)) (w.heap.size + 1) #[.int .u64 (1 : Nat), .int .u64 base, .int .u64 cap, .int .u64 tt, .int .u64 (0 : Nat), .int .u64 scan] 24 := Blk.mk (by simp)
    go_enter Try.func21, Try.ntmps21
    go_wp2_with fail
    refine (row6_any 1 base cap tt 0 scan _ (w.heap.size + 1) K6 (by omega) (by omega) (by omega) (by omega) (by omega) (by omega)).mono ?_; rintro e w1 ⟨rfl, k1⟩
    go_wp2_with fail
    go_ret
    refine ⟨by rw [HH2.out]; rfl, ?_⟩
    (repeat (first | with_reducible exact Below.refl _ _ | with_reducible refine kp_alloc ?_ _ | with_reducible refine kp_drew ?_ | with_reducible refine below_drewN ?_ _ | with_reducible refine kp_set ?_ (by first | omega | (simp; done) | (simp; omega)) _ | with_reducible refine kp_tr ?_ (by with_reducible assumption)))
  · have HH2 : Hid (hn = [1, base, cap, tt, 1, scan]) := by
      show _ = _
      rw [HH.out]
      simp
    clear HH
    have K6 : Blk ((w.alloc (.cells #[.int .u64 base, .int .i64 cap, .int .i64 tt, .bool true, .int .i64 scan, .slice la nl lc, .slice ha nh hc, .slice oa no oc, .slice fa nf fc, .slice ra nr rc] 40)).alloc (.cells #[.int .u64 (1 : Nat), .int .u64 base, .int .u64 cap, .int .u64 tt, .int .u64 (1 : Nat), .int .u64 scan] 24)) (w.heap.size + 1) #[.int .u64 (1 : Nat), .int .u64 base, .int .u64 cap, .int .u64 tt, .int .u64 (1 : Nat), .int .u64 scan] 24 := Blk.mk (by simp)
    go_enter Try.func21, Try.ntmps21
    go_wp2_with fail
    refine (row6_any 1 base cap tt 1 scan _ (w.heap.size + 1) K6 (by omega) (by omega) (by omega) (by omega) (by omega) (by omega)).mono ?_; rintro e w1 ⟨rfl, k1⟩
    go_wp2_with fail
    go_ret
    refine ⟨by rw [HH2.out]; rfl, ?_⟩
    (repeat (first | with_reducible exact Below.refl _ _ | with_reducible refine kp_alloc ?_ _ | with_reducible refine kp_drew ?_ | with_reducible refine below_drewN ?_ _ | with_reducible refine kp_set ?_ (by first | omega | (simp; done) | (simp; omega)) _ | with_reducible refine kp_tr ?_ (by with_reducible assumption)))
def rootS (h : Hp) : ByteArray := strB (putN h.roots.length) ++ ⟨(refsU h.roots).toArray⟩
theorem roots_any (h : Hp) (v : Hv) (w : World) (hin : HIn w h v) (hr : h.roots.all refOkB = true) (hl : h.roots.length < 1000000) :
    Calls Try.prog 23 #[hpV h v] w fun e w' => e = .returned (.tuple #[.string (rootS h), .int .i64 0]) ∧ Below w.heap.size w w' := by
  have HRf : Hid (∀ W, Below w.heap.size w W → Calls Try.prog 5 #[v.r] W fun e w' => e = .returned (.tuple #[.string ⟨(refsU h.roots).toArray⟩, .int .i64 0]) ∧ Below W.heap.size W w') := Lib.hid fun W hb => by
    have := refs_any v.r h.roots W (hin.roots.tr hb) hin.sroots hl
    rw [show refsR h.roots = (⟨(refsU h.roots).toArray⟩, 0) from if_pos hr] at this
    exact this
  have HP : Hid (∀ W, Calls Try.prog 12 #[.int .u64 (h.roots.length : Nat)] W fun e w' => e = .returned (.string (strB (putN h.roots.length))) ∧ Below W.heap.size W w') := Lib.hid fun W => put_any _ W (by omega)
  have HIN := Lib.hid hin
  obtain ⟨la, lc, e1⟩ := nums_form hin.low
  obtain ⟨ha, hc, e2⟩ := nums_form hin.high
  obtain ⟨oa, oc, e3⟩ := nums_form hin.old
  obtain ⟨fa, fc, e4⟩ := nums_form hin.far
  obtain ⟨ra, rc, e5⟩ := nums_form hin.roots
  clear hin
  obtain ⟨vl, vh, vo, vf, vr⟩ := v
  dsimp only at e1 e2 e3 e4 e5
  subst e1 e2 e3 e4 e5
  unfold hpV at *
  dsimp only at *
  have HS : Hid (rootS h = strB (putN h.roots.length) ++ ⟨(refsU h.roots).toArray⟩) := rfl
  generalize rootS h = R at *
  have hX : (⟨(refsU h.roots).toArray⟩ : ByteArray).size ≤ 10000000 := by
    have h1 := refsU_len h.roots (small_mem HIN.out.sroots)
    have h2 : (⟨(refsU h.roots).toArray⟩ : ByteArray).size = (refsU h.roots).length := by simp [ByteArray.size]
    omega
  have hY : (strB (putN h.roots.length)).size ≤ 10 := by
    rw [strB_size]
    exact putN_10 (by omega)
  clear HIN
  generalize (⟨(refsU h.roots).toArray⟩ : ByteArray) = X at *
  generalize strB (putN h.roots.length) = Y at *
  have K0 : Blk (w.alloc (.cells #[.int .u64 h.base, .int .i64 h.cap, .int .i64 h.tt, .bool h.cyc, .int .i64 h.scan, .slice la h.low.length lc, .slice ha h.high.length hc, .slice oa h.old.length oc, .slice fa h.far.length fc, .slice ra h.roots.length rc] 40)) w.heap.size #[.int .u64 h.base, .int .i64 h.cap, .int .i64 h.tt, .bool h.cyc, .int .i64 h.scan, .slice la h.low.length lc, .slice ha h.high.length hc, .slice oa h.old.length oc, .slice fa h.far.length fc, .slice ra h.roots.length rc] 40 := Blk.new _ _ _
  go_enter Try.func23, Try.ntmps23
  go_wp2_with fail
  refine (HRf.out _ (by (repeat (first | with_reducible exact Below.refl _ _ | with_reducible refine kp_alloc ?_ _ | with_reducible refine kp_drew ?_ | with_reducible refine below_drewN ?_ _ | with_reducible refine kp_set ?_ (by first | omega | (simp; done) | (simp; omega)) _ | with_reducible refine kp_tr ?_ (by with_reducible assumption))))).mono ?_; rintro e w1 ⟨rfl, k1⟩
  have K1 := K0.tr k1
  obtain ⟨l1, c1, f1⟩ := K1.get
  clear K0 f1
  go_wp2_with fail
  refine (HP.out _).mono ?_; rintro e w2 ⟨rfl, k2⟩
  go_wp2_with fail
  go_ret2
  refine ⟨by rw [HS.out]; rfl, ?_⟩
  (repeat (first | with_reducible exact Below.refl _ _ | with_reducible refine kp_alloc ?_ _ | with_reducible refine kp_drew ?_ | with_reducible refine below_drewN ?_ _ | with_reducible refine kp_set ?_ (by first | omega | (simp; done) | (simp; omega)) _ | with_reducible refine kp_tr ?_ (by with_reducible assumption)))
end Go.Proofs.Ytpgjploaliefdaa.im
