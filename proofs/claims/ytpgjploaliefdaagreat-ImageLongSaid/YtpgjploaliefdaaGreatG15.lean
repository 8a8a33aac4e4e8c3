/- image.Dump, plain: the parts of a right heap can be written. No conditions. -/
import Derived.Test.YtpgjploaliefdaaGreatId
namespace Go.Proofs.YtpgjploaliefdaaGreat.im
open Go Go.RowKit Go.Proofs.YtpgjploaliefdaaGreat.hp Go.Proofs.YtpgjploaliefdaaGreat.ob Go.Proofs.YtpgjploaliefdaaGreat.hd Go.Proofs.YtpgjploaliefdaaGreat.cp
open Go.Proofs.YtpgjploaliefdaaGreat.fr (strB putN rowN joinR)
set_option linter.unusedVariables false
set_option linter.unusedSimpArgs false
theorem kindO_len (o : Ob) : (kindO o).length = 1 + o.s.toNat := by simp [kindO]; omega
theorem kinds_chain {len : Nat} : ∀ {os : List Ob} {acc : List Int}, ChainO len acc.length os → (kindsF len os acc).isNone = false
  | [], acc, h => by
    unfold kindsF
    rw [if_pos (show acc.length = len from h)]
    rfl
  | o :: os, acc, h => by
    obtain ⟨h1, h2, h3, h4⟩ := h
    have hb : ¬ kindBad len acc o := by
      rintro (q | q | q | q)
      · exact q h1
      · omega
      · rw [rightB_mk h2] at q
        cases q
      · omega
    have e : kindsF len (o :: os) acc = kindsF len os (acc ++ kindO o) := by
      show (if kindBad len acc o then none else kindsF len os (acc ++ kindO o)) = _
      rw [if_neg hb]
    rw [e]
    refine kinds_chain ?_
    rw [List.length_append, kindO_len]
    have : acc.length + (1 + o.s.toNat) = acc.length + 1 + o.s.toNat := by omega
    rw [this]
    exact h4
theorem points_ref {pf : Int → Option Int} {x a b : Int} (h : pointsB pf x a b = true) : refOkB x = true := by
  unfold pointsB at h
  unfold refOkB
  rcases e : decide (x = 0) with _ | _
  · rw [e, Bool.false_or, Bool.and_eq_true] at h
    rw [h.1]
    rfl
  · rfl
theorem ptrs_ok {P : Int → Int → Bool} {zs : List Int} {os : List Ob} (hp : pointersB P zs os = true) (hP : ∀ a x, P a x = true → refOkB x = true) (hf : ∀ o ∈ os, FitB zs.length o) : os.all (objOk zs) = true := by
  rw [List.all_eq_true]
  intro o ho
  unfold pointersB at hp
  rw [List.all_eq_true] at hp
  have h1 := hp o ho
  unfold objOk
  rcases hg : o.g with _ | _
  · rw [hg, Bool.false_or] at h1
    rw [Bool.false_or, List.all_eq_true]
    intro x hx
    obtain ⟨i, hi, rfl⟩ := List.mem_iff_getElem.1 hx
    obtain ⟨f0, f1, f2, f3, f4, f5⟩ := hf o ho
    have hsl : (sub zs (o.pos.toNat + 1) o.p.toNat).length = o.p.toNat := sub_len (by omega)
    have h2 : ∀ j, j < o.p.toNat → P (o.pos + 1 + j) (zs.getD (o.pos.toNat + 1 + j) 0) = true := by
      unfold ptrsB at h1
      simpa only [List.all_eq_true, List.mem_range] using h1
    have h3 := hP _ _ (h2 i (by omega))
    have h4 : (sub zs (o.pos.toNat + 1) o.p.toNat)[i] = zs.getD (o.pos.toNat + 1 + i) 0 := by
      rw [← sub_get (zs := zs) (a := o.pos.toNat + 1) (n := o.p.toNat) (i := i) (by omega)]
      simp [List.getD, hi]
    rw [h4]
    exact h3
  · rfl
theorem looks_rest {h : Hp} {s : Fnd} (e : lookF h = some s) : boundedB h = true ∧ restingB h = true ∧ Go.Proofs.YtpgjploaliefdaaGreat.cp.Found h s ∧ copiedB h s = true ∧ settledB h s = true ∧ unscannedB h s = true ∧ leftB h s = true ∧ roomyB h s = true := by
  have step : ∀ {k : Nat} {t : Fnd} {b : Bool}, (if b then some t else none) = some s → b = true ∧ t = s := fun {k t b} h => by
    rcases b with _ | _
    · cases h
    · exact ⟨rfl, Option.some.inj h⟩
  obtain ⟨s7, e7, r7⟩ := looks_some (k := 7) e
  obtain ⟨a8, rfl⟩ := step (k := 0) (show (if roomyB h s7 then some s7 else none) = some s from r7)
  obtain ⟨s6, e6, r6⟩ := looks_some (k := 6) e7
  obtain ⟨a7, rfl⟩ := step (k := 0) (show (if leftB h s6 then some s6 else none) = some s7 from r6)
  obtain ⟨s5, e5, r5⟩ := looks_some (k := 5) e6
  obtain ⟨a6, rfl⟩ := step (k := 0) (show (if unscannedB h s5 then some s5 else none) = some s6 from r5)
  obtain ⟨s4, e4, r4⟩ := looks_some (k := 4) e5
  obtain ⟨a5, rfl⟩ := step (k := 0) (show (if settledB h s4 then some s4 else none) = some s5 from r4)
  obtain ⟨s3, e3, r3⟩ := looks_some (k := 3) e4
  obtain ⟨a4, rfl⟩ := step (k := 0) (show (if copiedB h s3 then some s3 else none) = some s4 from r3)
  obtain ⟨s2, e2, r2⟩ := looks_some (k := 2) e3
  obtain ⟨s1, e1, r1⟩ := looks_some (k := 1) e2
  obtain ⟨s0, e0, r0⟩ := looks_some (k := 0) e1
  have r0 : (if boundedB h then some s0 else none) = some s1 := r0
  have r1 : (if restingB h then some s1 else none) = some s2 := r1
  refine ⟨?_, ?_, found_of r2, a4, a5, a6, a7, a8⟩
  · rcases hb : boundedB h with _ | _
    · rw [hb] at r0; cases r0
    · rfl
  · rcases hb : restingB h with _ | _
    · rw [hb] at r1; cases r1
    · rfl
/-- What a right heap's part is written as. -/
def partU (h : Hp) (s : Fnd) (q : Nat) : ByteArray := ⟨(uP (s.obs q).length ++ (s.obs q).flatMap (objU (h.part q))).toArray⟩
theorem part_ok {h : Hp} {s : Fnd} (e : lookF h = some s) (q : Nat) (hq : 1 ≤ q ∧ q ≤ 4) : objsR (h.part q) (s.obs q) = (partU h s q, 0) := by
  obtain ⟨a1, a2, hf, a4, a5, a6, a7, a8⟩ := looks_rest e
  have hc := hf.chain q hq
  unfold objsR
  rw [kinds_chain (acc := []) hc]
  have hfit : ∀ o ∈ s.obs q, FitB (h.part q).length o := fun o ho => (hc.from o ho).2
  have hall : (s.obs q).all (objOk (h.part q)) = true := by
    simp only [settledB, leftB, unscannedB, Bool.and_eq_true] at a5 a6 a7
    rcases (show q = 1 ∨ q = 2 ∨ q = 3 ∨ q = 4 by omega) with rfl | rfl | rfl | rfl
    · -- an object of Low: its pointers ahead of the scan, and behind it
      rw [List.all_eq_true]
      intro o ho
      have hboth : pointersB (fun _ x => refOkB x) h.low s.o1 = true := by
        unfold pointersB at a5 a6 ⊢
        rw [List.all_eq_true]
        intro c hc'
        have h1 := (List.all_eq_true.1 a5.2.2) c hc'
        have h2 := (List.all_eq_true.1 a6) c hc'
        rcases hg : c.g with _ | _
        · rw [hg, Bool.false_or] at h1 h2
          rw [Bool.false_or]
          unfold ptrsB at h1 h2 ⊢
          rw [List.all_eq_true] at h1 h2 ⊢
          intro i hi
          have h3 := h1 i hi
          have h4 := h2 i hi
          rw [Bool.or_eq_true] at h3 h4
          rcases h3 with h5 | h5
          · rcases h4 with h6 | h6
            · have h5 := of_decide_eq_true h5
              have h6 := of_decide_eq_true h6
              omega
            · exact points_ref h6
          · exact points_ref h5
        · rfl
      exact List.all_eq_true.1 (ptrs_ok (zs := h.low) hboth (fun _ _ h => h) hfit) o ho
    · exact ptrs_ok (zs := h.high) a5.2.1 (fun _ _ h => points_ref h) hfit
    · exact ptrs_ok (zs := h.old) a7.1 (fun _ _ h => points_ref h) hfit
    · exact ptrs_ok (zs := h.far) a7.2 (fun _ _ h => points_ref h) hfit
  rw [hall]
  rfl
theorem roots_ok {h : Hp} {s : Fnd} (e : lookF h = some s) : h.roots.all refOkB = true := by
  obtain ⟨a1, a2, hf, a4, a5, a6, a7, a8⟩ := looks_rest e
  simp only [settledB, Bool.and_eq_true] at a5
  rw [List.all_eq_true] at a5 ⊢
  exact fun x hx => points_ref (a5.1 x hx)
end Go.Proofs.YtpgjploaliefdaaGreat.im

namespace Go.Proofs.YtpgjploaliefdaaGreat.im
open Go Go.RowKit Go.Proofs.YtpgjploaliefdaaGreat.cm Go.Proofs.YtpgjploaliefdaaGreat.cw Go.Proofs.YtpgjploaliefdaaGreat.ga Go.Proofs.YtpgjploaliefdaaGreat.gr Go.Proofs.YtpgjploaliefdaaGreat.hp Go.Proofs.YtpgjploaliefdaaGreat.ob Go.Proofs.YtpgjploaliefdaaGreat.hd Go.Proofs.YtpgjploaliefdaaGreat.cp Go.Proofs.YtpgjploaliefdaaGreat.ck
open Go.Proofs.YtpgjploaliefdaaGreat.fr (strB putN rowN row_any put_any strB_size putN_10)
set_option linter.unusedVariables false
set_option linter.unusedSimpArgs false
set_option maxRecDepth 100000
set_option maxHeartbeats 4000000
theorem row6_any (x1 x2 x3 x4 x5 x6 : Nat) (w : World) (b : Nat) (hb : Blk w b #[.int .u64 x1, .int .u64 x2, .int .u64 x3, .int .u64 x4, .int .u64 x5, .int .u64 x6] 24) (h1 : x1 < 18446744073709551616) (h2 : x2 < 18446744073709551616) (h3 : x3 < 18446744073709551616) (h4 : x4 < 18446744073709551616) (h5 : x5 < 18446744073709551616) (h6 : x6 < 18446744073709551616) :
    Calls Tryz.prog 46 #[.slice (some ⟨b, 0, none⟩) 6 6] w fun e w' => e = .returned (.string (strB (rowN [x1, x2, x3, x4, x5, x6]))) ∧ Below w.heap.size w w' := by
  obtain ⟨lb, cb, fb⟩ := hb.get
  exact row_any b 6 [x1, x2, x3, x4, x5, x6] w (fun i hi => by rcases (show i = 0 ∨ i = 1 ∨ i = 2 ∨ i = 3 ∨ i = 4 ∨ i = 5 by simp at hi; omega) with rfl | rfl | rfl | rfl | rfl | rfl <;> exact cb _) (fun i => by rcases i with _ | _ | _ | _ | _ | _ | i <;> simp [List.getD] <;> omega) (by simp) (by simp)
def headN (h : Hp) : List Nat := [1, h.base.toNat, h.cap.toNat, h.tt.toNat, if h.cyc then 1 else 0, h.scan.toNat]
theorem head_any (h : Hp) (v : Hv) (w : World) (hin : HIn w h v) (hc0 : 0 ≤ h.cap) (ht0 : 0 ≤ h.tt) (hs0 : 0 ≤ h.scan) :
    Calls Tryz.prog 30 #[hpV h v] w fun e w' => e = .returned (.string (strB (rowN (headN h)))) ∧ Below w.heap.size w w' := by
  have b1 := hin.base
  have b2 := hin.cap
  have b3 := hin.tt
  have b4 := hin.scan
  have HIN := Lib.hid hin
  obtain ⟨la, lc, e1⟩ := nums_form hin.low
  obtain ⟨ha, hc, e2⟩ := nums_form hin.high
  obtain ⟨oa, oc, e3⟩ := nums_form hin.old
  obtain ⟨fa, fc, e4⟩ := nums_form hin.far
  obtain ⟨ra, rc, e5⟩ := nums_form hin.roots
  clear hin
  obtain ⟨vl, vh, vo, vf, vr⟩ := v
  dsimp only at e1 e2 e3 e4 e5
  subst e1 e2 e3 e4 e5
  unfold hpV at *
  dsimp only at *
  have HH : Hid (headN h = [1, h.base.toNat, h.cap.toNat, h.tt.toNat, if h.cyc then 1 else 0, h.scan.toNat]) := rfl
  generalize headN h = hn at *
  clear HIN
  obtain ⟨base, cap, tt, cyc, scan, low, high, old, far, roots⟩ := h
  dsimp only at *
  generalize low.length = nl at *
  generalize high.length = nh at *
  generalize old.length = no at *
  generalize far.length = nf at *
  generalize roots.length = nr at *
  obtain ⟨b1, b1'⟩ := b1
  obtain ⟨b2, b2'⟩ := b2
  obtain ⟨b3, b3'⟩ := b3
  obtain ⟨b4, b4'⟩ := b4
  obtain ⟨base, rfl⟩ := Int.eq_ofNat_of_zero_le b1
  obtain ⟨cap, rfl⟩ := Int.eq_ofNat_of_zero_le hc0
  obtain ⟨tt, rfl⟩ := Int.eq_ofNat_of_zero_le ht0
  obtain ⟨scan, rfl⟩ := Int.eq_ofNat_of_zero_le hs0
  rcases cyc with _ | _
  · have HH2 : Hid (hn = [1, base, cap, tt, 0, scan]) := by
      show _ = _
      rw [HH.out]
      simp
    clear HH
    have K6 : Blk ((w.alloc (.cells #[.int .u64 base, .int .i64 cap, .int .i64 tt, .bool false, .int .i64 scan, .slice la nl lc, .slice ha nh hc, .slice oa no oc, .slice fa nf fc, .slice ra nr rc] 32)).alloc (.cells #[.int .u64 (1 : Nat), .int .u64 base, .int .u64 cap, .int .u64 tt, .int .u64 (0 : Nat), .int .u64 scan] 24)) (w.heap.size + 1) #[.int .u64 (1 : Nat), .int .u64 base, .int .u64 cap, .int .u64 tt, .int .u64 (0 : Nat), .int .u64 scan] 24 := Blk.mk (by simp)
    go_enter Tryz.func30, Tryz.ntmps30
    go_wp2_with fail
    refine (row6_any 1 base cap tt 0 scan _ (w.heap.size + 1) K6 (by omega) (by omega) (by omega) (by omega) (by omega) (by omega)).mono ?_; rintro e w1 ⟨rfl, k1⟩
    go_wp2_with fail
    go_ret
    refine ⟨by rw [HH2.out]; rfl, ?_⟩
    (repeat (first | with_reducible exact Below.refl _ _ | with_reducible refine kp_alloc ?_ _ | with_reducible refine kp_drew ?_ | with_reducible refine below_drewN ?_ _ | with_reducible refine kp_set ?_ (by first | omega | (simp; done) | (simp; omega)) _ | with_reducible refine kp_tr ?_ (by with_reducible assumption)))
  · have HH2 : Hid (hn = [1, base, cap, tt, 1, scan]) := by
      show _ = _
      rw [HH.out]
      simp
    clear HH
    have K6 : Blk ((w.alloc (.cells #[.int .u64 base, .int .i64 cap, .int .i64 tt, .bool true, .int .i64 scan, .slice la nl lc, .slice ha nh hc, .slice oa no oc, .slice fa nf fc, .slice ra nr rc] 32)).alloc (.cells #[.int .u64 (1 : Nat), .int .u64 base, .int .u64 cap, .int .u64 tt, .int .u64 (1 : Nat), .int .u64 scan] 24)) (w.heap.size + 1) #[.int .u64 (1 : Nat), .int .u64 base, .int .u64 cap, .int .u64 tt, .int .u64 (1 : Nat), .int .u64 scan] 24 := Blk.mk (by simp)
    go_enter Tryz.func30, Tryz.ntmps30
    go_wp2_with fail
    refine (row6_any 1 base cap tt 1 scan _ (w.heap.size + 1) K6 (by omega) (by omega) (by omega) (by omega) (by omega) (by omega)).mono ?_; rintro e w1 ⟨rfl, k1⟩
    go_wp2_with fail
    go_ret
    refine ⟨by rw [HH2.out]; rfl, ?_⟩
    (repeat (first | with_reducible exact Below.refl _ _ | with_reducible refine kp_alloc ?_ _ | with_reducible refine kp_drew ?_ | with_reducible refine below_drewN ?_ _ | with_reducible refine kp_set ?_ (by first | omega | (simp; done) | (simp; omega)) _ | with_reducible refine kp_tr ?_ (by with_reducible assumption)))
def rootS (h : Hp) : ByteArray := strB (putN h.roots.length) ++ ⟨(refsU h.roots).toArray⟩
theorem roots_any (h : Hp) (v : Hv) (w : World) (hin : HIn w h v) (hr : h.roots.all refOkB = true) (hl : h.roots.length < 1000000) :
    Calls Tryz.prog 32 #[hpV h v] w fun e w' => e = .returned (.tuple #[.string (rootS h), .int .i64 0]) ∧ Below w.heap.size w w' := by
  have HRf : Hid (∀ W, Below w.heap.size w W → Calls Tryz.prog 17 #[v.r] W fun e w' => e = .returned (.tuple #[.string ⟨(refsU h.roots).toArray⟩, .int .i64 0]) ∧ Below W.heap.size W w') := Lib.hid fun W hb => by
    have := refs_any v.r h.roots W (hin.roots.tr hb) hin.sroots hl
    rw [show refsR h.roots = (⟨(refsU h.roots).toArray⟩, 0) from if_pos hr] at this
    exact this
  have HP : Hid (∀ W, Calls Tryz.prog 45 #[.int .u64 (h.roots.length : Nat)] W fun e w' => e = .returned (.string (strB (putN h.roots.length))) ∧ Below W.heap.size W w') := Lib.hid fun W => put_any _ W (by omega)
  have HIN := Lib.hid hin
  obtain ⟨la, lc, e1⟩ := nums_form hin.low
  obtain ⟨ha, hc, e2⟩ := nums_form hin.high
  obtain ⟨oa, oc, e3⟩ := nums_form hin.old
  obtain ⟨fa, fc, e4⟩ := nums_form hin.far
  obtain ⟨ra, rc, e5⟩ := nums_form hin.roots
  clear hin
  obtain ⟨vl, vh, vo, vf, vr⟩ := v
  dsimp only at e1 e2 e3 e4 e5
  subst e1 e2 e3 e4 e5
  unfold hpV at *
  dsimp only at *
  have HS : Hid (rootS h = strB (putN h.roots.length) ++ ⟨(refsU h.roots).toArray⟩) := rfl
  generalize rootS h = R at *
  have hX : (⟨(refsU h.roots).toArray⟩ : ByteArray).size ≤ 10000000 := by
    have h1 := refsU_len h.roots (small_mem HIN.out.sroots)
    have h2 : (⟨(refsU h.roots).toArray⟩ : ByteArray).size = (refsU h.roots).length := by simp [ByteArray.size]
    omega
  have hY : (strB (putN h.roots.length)).size ≤ 10 := by
    rw [strB_size]
    exact putN_10 (by omega)
  clear HIN
  generalize (⟨(refsU h.roots).toArray⟩ : ByteArray) = X at *
  generalize strB (putN h.roots.length) = Y at *
  have K0 : Blk (w.alloc (.cells #[.int .u64 h.base, .int .i64 h.cap, .int .i64 h.tt, .bool h.cyc, .int .i64 h.scan, .slice la h.low.length lc, .slice ha h.high.length hc, .slice oa h.old.length oc, .slice fa h.far.length fc, .slice ra h.roots.length rc] 32)) w.heap.size #[.int .u64 h.base, .int .i64 h.cap, .int .i64 h.tt, .bool h.cyc, .int .i64 h.scan, .slice la h.low.length lc, .slice ha h.high.length hc, .slice oa h.old.length oc, .slice fa h.far.length fc, .slice ra h.roots.length rc] 32 := Blk.new _ _ _
  go_enter Tryz.func32, Tryz.ntmps32
  go_wp2_with fail
  refine (HRf.out _ (by (repeat (first | with_reducible exact Below.refl _ _ | with_reducible refine kp_alloc ?_ _ | with_reducible refine kp_drew ?_ | with_reducible refine below_drewN ?_ _ | with_reducible refine kp_set ?_ (by first | omega | (simp; done) | (simp; omega)) _ | with_reducible refine kp_tr ?_ (by with_reducible assumption))))).mono ?_; rintro e w1 ⟨rfl, k1⟩
  have K1 := K0.tr k1
  obtain ⟨l1, c1, f1⟩ := K1.get
  clear K0 f1
  go_wp2_with fail
  refine (HP.out _).mono ?_; rintro e w2 ⟨rfl, k2⟩
  go_wp2_with fail
  go_ret2
  refine ⟨by rw [HS.out]; rfl, ?_⟩
  (repeat (first | with_reducible exact Below.refl _ _ | with_reducible refine kp_alloc ?_ _ | with_reducible refine kp_drew ?_ | with_reducible refine below_drewN ?_ _ | with_reducible refine kp_set ?_ (by first | omega | (simp; done) | (simp; omega)) _ | with_reducible refine kp_tr ?_ (by with_reducible assumption)))
end Go.Proofs.YtpgjploaliefdaaGreat.im
