/- check: the state's words, points. No conditions. -/
import Derived.Test.YtpgjploaliefdaaGreatG10
import Derived.Deep.DeepCutAuto
import Derived.Deep.CutRange
import Derived.Deep.RegionHeld3
import Derived.RegionTactic
import Derived.Deep.QuietTactic
import Derived.BigQuiet
import Derived.WalkSmall
import Derived.Test.YtpgjploaliefdaaGreatG09
namespace Go.Proofs.YtpgjploaliefdaaGreat.ck
open Go Go.RowKit hp ob hd cp mp cm
set_option linter.unusedVariables false
set_option linter.unusedSimpArgs false
variable {w0 w W : World} {p : Pl} {h : Hp} {v : Hv} {s : Fnd} {ov : Ov}
theorem nums_form {W : World} {v : Value} {zs : List Int} (h : NumsIn W v zs) : ∃ ad cap, v = .slice ad zs.length cap := by
 obtain ⟨ad, b, off, cap, rfl, _⟩ := h
 exact ⟨_, _, rfl⟩
set_option maxRecDepth 100000
set_option maxHeartbeats 2000000
theorem words_any (a : St w0 W p h v s ov) (q : Nat) (hq : 1 ≤ q ∧ q ≤ 4) :
  Calls Tryz.prog 108 #[.pointer (some ⟨p.b, 0, none⟩), .int .i64 q] W fun e w' => e = .returned (v.part q) ∧ Below W.heap.size W w' := by
 obtain ⟨la, lc, e1⟩ := nums_form a.hin.low
 obtain ⟨ha, hc, e2⟩ := nums_form a.hin.high
 obtain ⟨oa, oc, e3⟩ := nums_form a.hin.old
 obtain ⟨fa, fc, e4⟩ := nums_form a.hin.far
 obtain ⟨lb, cb, fb⟩ := a.blk.get
 have c5 : W.cell? ⟨p.b, 5, none⟩ = some v.l := cb 5
 have c6 : W.cell? ⟨p.b, 6, none⟩ = some v.h := cb 6
 have c7 : W.cell? ⟨p.b, 7, none⟩ = some v.o := cb 7
 have c8 : W.cell? ⟨p.b, 8, none⟩ = some v.f := cb 8
 have hp : v.part q = if q = 1 then v.l else if q = 2 then v.h else if q = 3 then v.o else v.f := rfl
 rw [hp]
 rw [e1] at c5
 rw [e2] at c6
 rw [e3] at c7
 rw [e4] at c8
 rw [e1, e2, e3, e4]
 clear e1 e2 e3 e4 cb fb hp a
 generalize h.low.length = nl at *
 generalize h.high.length = nh at *
 generalize h.old.length = no at *
 generalize h.far.length = nf at *
 generalize p.b = b at *
 obtain ⟨q1, q2⟩ := hq
 rcases (show q = 1 ∨ q = 2 ∨ q = 3 ∨ q = 4 by omega) with rfl | rfl | rfl | rfl
 ·have hwz : IntKind.i64.wrap 0 = 0 := by decide
  have hix : ∀ W, Sem.run Tryz.prog (Instr.index 190 (.agg #[.slice la nl lc, .slice ha nh hc, .slice oa no oc, .slice fa nf fc]) (.int .i64 0)) W = .ok (.slice la nl lc) W := fun W => by kernel_rfl
  go_enter Tryz.func108, Tryz.ntmps108
  go_wp2_with fail
  go_quiet (fail)
  go_wp2_with fail
  go_ret
  refine ⟨rfl, ?_⟩
  exact bm
 ·have hwz : IntKind.i64.wrap 1 = 1 := by decide
  have hix : ∀ W, Sem.run Tryz.prog (Instr.index 190 (.agg #[.slice la nl lc, .slice ha nh hc, .slice oa no oc, .slice fa nf fc]) (.int .i64 1)) W = .ok (.slice ha nh hc) W := fun W => by kernel_rfl
  go_enter Tryz.func108, Tryz.ntmps108
  go_wp2_with fail
  go_quiet (fail)
  go_wp2_with fail
  go_ret
  refine ⟨rfl, ?_⟩
  exact bm
 ·have hwz : IntKind.i64.wrap 2 = 2 := by decide
  have hix : ∀ W, Sem.run Tryz.prog (Instr.index 190 (.agg #[.slice la nl lc, .slice ha nh hc, .slice oa no oc, .slice fa nf fc]) (.int .i64 2)) W = .ok (.slice oa no oc) W := fun W => by kernel_rfl
  go_enter Tryz.func108, Tryz.ntmps108
  go_wp2_with fail
  go_quiet (fail)
  go_wp2_with fail
  go_ret
  refine ⟨rfl, ?_⟩
  exact bm
 ·have hwz : IntKind.i64.wrap 3 = 3 := by decide
  have hix : ∀ W, Sem.run Tryz.prog (Instr.index 190 (.agg #[.slice la nl lc, .slice ha nh hc, .slice oa no oc, .slice fa nf fc]) (.int .i64 3)) W = .ok (.slice fa nf fc) W := fun W => by kernel_rfl
  go_enter Tryz.func108, Tryz.ntmps108
  go_wp2_with fail
  go_quiet (fail)
  go_wp2_with fail
  go_ret
  refine ⟨rfl, ?_⟩
  exact bm
theorem K64_of {x : Int} (h : 0 ≤ x ∧ x < 18446744073709551616) : K64 (adV x) := by
 unfold K64 adV
 split <;> omega
theorem points_any (a : St w0 W p h v s ov) (x lo hi : Int) (hx : 0 ≤ x ∧ x < 18446744073709551616) :
  Calls Tryz.prog 112 #[.pointer (some ⟨p.b, 0, none⟩), .int .u64 x, .int .i64 lo, .int .i64 hi] W fun e w' => e = .returned (.bool (pointsB s.pf x lo hi)) ∧ W = w' := by
 obtain ⟨lb, cb, fb⟩ := a.blk.get
 have c5 : W.cell? ⟨p.b, 21, none⟩ = some (.map (some p.bp)) := cb 21
 obtain ⟨n, hn, hm⟩ := a.pm
 have hk := K64_of hx
 have HP : Hid (pointsB s.pf x lo hi = (decide (x = 0) || (decide (adE x = 0) && (match s.pf (adV x) with | none => false | some q => decide (lo ≤ q ∧ q ≤ hi))))) := rfl
 have HA : Hid (∀ W, Calls Tryz.prog 52 #[.int .u64 x] W fun e w' => e = .returned (.tuple #[.int .u64 (adV x), .int .i64 (adE x)]) ∧ W = w') := Lib.hid fun W => addr_any x W hx.1 hx.2
 have HM : Hid (MapIs Tryz.prog 24 W p.bp n (pfV s.pf)) := Lib.hid hm
 clear a cb fb hm hn
 generalize p.b = b at *
 generalize p.bp = bp at *
 generalize s.pf = f at *
 have HF : Hid (f (adV x) = none ∧ pfV f (adV x) = none ∨ ∃ q, f (adV x) = some q ∧ pfV f (adV x) = some (.int .i64 q)) := by
  unfold pfV
  rcases f (adV x) with _ | q
  ·exact .inl ⟨rfl, rfl⟩
  ·exact .inr ⟨q, rfl, rfl⟩
 generalize adV x = y at *
 generalize hE : adE x = z at *
 generalize hR : pointsB f x lo hi = R at *
 clear hE hR
 by_cases h0 : x = 0
 ·subst h0
  obtain rfl : R = true := by rw [HP.out]; rfl
  go_enter Tryz.func112, Tryz.ntmps112
  go_wp2_with fail
  go_ret
  exact ⟨rfl, rfl⟩
 have h0b : (x == 0) = false := beq_eq_false_iff_ne.mpr h0
 by_cases h1 : z = 0
 ·subst h1
  rcases HF.out with ⟨g1, g2⟩ | ⟨q, g1, g2⟩
  ·obtain rfl : R = false := by rw [HP.out, g1]; simp [h0]
   have hz : (zeroValue 3).run Tryz.prog W = .ok (.int .i64 0) W := by rw [Tryz.zeroValue3]
   go_enter Tryz.func112, Tryz.ntmps112
   go_wp2_with fail
   refine (HA.out _).mono ?_; rintro e ww ⟨rfl, rfl⟩
   go_wp2_with (at_lookup; refine wp_look_ok (n := n) (b := bp) (k := 24) (f := pfV f) W rfl _ _ _ rfl 3 Tryz.underlying24 Tryz.underlying119 (.int .i64 0) hz rfl HM.out y rfl hk ?_; rw [g2])
   go_ret
   exact ⟨rfl, rfl⟩
  ·have hz : (zeroValue 3).run Tryz.prog W = .ok (.int .i64 0) W := by rw [Tryz.zeroValue3]
   go_enter Tryz.func112, Tryz.ntmps112
   go_wp2_with fail
   refine (HA.out _).mono ?_; rintro e ww ⟨rfl, rfl⟩
   go_wp2_with (at_lookup; refine wp_look_ok (n := n) (b := bp) (k := 24) (f := pfV f) W rfl _ _ _ rfl 3 Tryz.underlying24 Tryz.underlying119 (.int .i64 0) hz rfl HM.out y rfl hk ?_; rw [g2])
   all_goals go_ret
   all_goals refine retB (by rw [HP.out, g1, Bool.eq_iff_iff]; simp [h0]; try omega) rfl
 ·obtain rfl : R = false := by rw [HP.out]; simp [h0, h1]
  have h1b : (z == 0) = false := beq_eq_false_iff_ne.mpr h1
  go_enter Tryz.func112, Tryz.ntmps112
  go_wp2_with fail
  refine (HA.out _).mono ?_; rintro e ww ⟨rfl, rfl⟩
  go_wp2_with fail
  go_ret
  exact ⟨rfl, rfl⟩
end Go.Proofs.YtpgjploaliefdaaGreat.ck
namespace Go.Proofs.YtpgjploaliefdaaGreat.ck
open Go Go.RowKit hp ob hd cp mp cm
set_option linter.unusedVariables false
set_option linter.unusedSimpArgs false
set_option maxRecDepth 100000
set_option maxHeartbeats 2000000
variable {w0 w W : World} {p : Pl} {h : Hp} {v : Hv} {s : Fnd} {ov : Ov}
theorem ptrsB_all {P : Int → Int → Bool} {zs : List Int} {o : Ob} {n : Nat} (h : ∀ i, i < n → P (o.pos + 1 + i) (zs.getD (o.pos.toNat + 1 + i) 0) = true) : ptrsB P zs o n = true := by
 unfold ptrsB
 simp only [List.all_eq_true, List.mem_range]
 exact h
theorem ptrsB_not {P : Int → Int → Bool} {zs : List Int} {o : Ob} {n i : Nat} (hi : i < n) (h : P (o.pos + 1 + i) (zs.getD (o.pos.toNat + 1 + i) 0) = false) : ptrsB P zs o n = false := by
 rw [Bool.eq_false_iff]
 intro e
 unfold ptrsB at e
 simp only [List.all_eq_true, List.mem_range] at e
 rw [e i hi] at h
 cases h
theorem pointersB_drop {P : Int → Int → Bool} {zs : List Int} {os : List Ob} {j : Nat} (h : j < os.length) : pointersB P zs (os.drop j) = (((obD os j).g || ptrsB P zs (obD os j) (obD os j).p.toNat) && pointersB P zs (os.drop (j + 1))) := by
 rw [drop_ob h]
 rfl
theorem obD_mem {os : List Ob} {j : Nat} (h : j < os.length) : obD os j ∈ os := by
 have e : obD os j = os[j] := by simp [obD, List.getD, h]
 rw [e]
 exact List.getElem_mem h
theorem ov_cell (h : Hp) (v : Hv) (ov : Ov) (bp bl q : Nat) (hq : 1 ≤ q ∧ q ≤ 4) : (stCells h v ov bp bl)[17 + (q - 1)]? = some (ov.part q) := by
 rcases (show q = 1 ∨ q = 2 ∨ q = 3 ∨ q = 4 by omega) with rfl | rfl | rfl | rfl <;> rfl
theorem pointers_any (q : Nat) (hq : 1 ≤ q ∧ q ≤ 4) (k bx : Nat) (P : Int → Int → Bool) (HK : ∀ (xs : Array Value) (W : World), (callFunc k xs).run Tryz.prog W = .ok (.enter k xs) W) (a : St w0 W p h v s ov) (hbx : W.cell? ⟨bx, 0, none⟩ = some (.pointer (some ⟨p.b, 0, none⟩)))
  (HF : ∀ W' at_ x, St w0 W' p h v s ov → W'.cell? ⟨bx, 0, none⟩ = some (.pointer (some ⟨p.b, 0, none⟩)) → (0 ≤ x ∧ x < 18446744073709551616) → Calls Tryz.prog k #[.int .i64 at_, .int .u64 x, .pointer (some ⟨bx, 0, none⟩)] W' fun e w' => e = .returned (.bool (P at_ x)) ∧ Below W'.heap.size W' w') :
  Calls Tryz.prog 113 #[.pointer (some ⟨p.b, 0, none⟩), .int .i64 q, .func (.func k) #[] #[.pointer (some ⟨bx, 0, none⟩)]] W fun e w' => e = .returned (.bool (pointersB P (h.part q) (s.obs q))) ∧ Below W.heap.size W w' := by
 obtain ⟨lb, cb, fb⟩ := a.blk.get
 have hwz : W.heap.size ≠ 0 := by omega
 obtain ⟨hob, hfit, hlen⟩ := a.obs q
 obtain ⟨hnum, hsm⟩ := a.now.part q
 have hzl := nums_len hnum
 have hos := obs_sees hob (by omega) (by omega)
 have HW : Hid (∀ W, St w0 W p h v s ov → Calls Tryz.prog 108 #[.pointer (some ⟨p.b, 0, none⟩), .int .i64 q] W fun e w' => e = .returned (v.part q) ∧ Below W.heap.size W w') := Lib.hid fun W a => words_any a q hq
 have hcq : W.cell? ⟨p.b, 17 + (q - 1), none⟩ = some (ov.part q) := (cb _).trans (ov_cell _ _ _ _ _ _ hq)
 have A := Lib.hid a
 have HFF := Lib.hid HF
 have HX := Lib.hid hbx
 obtain ⟨va, wb, woff, vc, ev, ⟨g1, g2⟩, g3, ⟨g4, g4'⟩, g5, g6⟩ := hnum
 obtain ⟨oa, ob, off, oc, eo, ⟨o1, o2⟩, o3, ⟨o4, o4'⟩, o5, o6⟩ := hos
 rw [ev] at HW
 rw [eo] at hcq
 have HG6 := Lib.hid g6
 have HO6 := Lib.hid o6
 have HFit := Lib.hid hfit
 have HSm : Hid (∀ i, 0 ≤ (h.part q).getD i 0 ∧ (h.part q).getD i 0 < 18446744073709551616) := hsm
 have HG1 := Lib.hid g1
 have HO1 := Lib.hid o1
 clear a HF hbx hob hfit hsm cb fb g2 g6 o2 o6 ev eo g1 o1 g4' o4' hlen
 generalize hZ : h.part q = zs at *
 generalize s.obs q = os at *
 clear hZ
 generalize hn : os.length = n at *
 have HN := Lib.hid hn
 generalize hvn : zs.length = vn at *
 have HVN := Lib.hid hvn
 clear hn hvn
 obtain ⟨hq1, hq2⟩ := hq
 go_enter Tryz.func113, Tryz.ntmps113
 go_wp2_with fail
 refine (HW.out _ A.out).mono ?_; rintro e w1 ⟨rfl, k1⟩
 have hcq1 := cell_tr k1 hcq
 clear hcq HW
 go_wp2_with fail
 go_loopw [23] (fun i wr => ∃ j : Nat, j ≤ n ∧ i = .int .i64 j ∧ Hid (pointersB P zs os = pointersB P zs (os.drop j)) ∧ Below W.heap.size W wr) (fun i _ => n - (intOf i).toNat)
 case atStart => exact ⟨0, Nat.zero_le _, rfl, rfl, k1⟩
 case round =>
  obtain ⟨j, hj, rfl, hres, hbr⟩ := hrel
  have HBR := Lib.hid hbr
  have hws := hbr.size
  clear hcq1 k1
  by_cases hlj : j < n
  ·obtain rfl := HO1.out (by omega)
   have hxk := (HO6.out.block (hbr.block ob o5)).at j hlj
   have HS := Lib.hid (hres.out.trans (pointersB_drop (by have := HN.out; omega)))
   obtain ⟨f0, f1, f2, f3, f4, f5⟩ := HFit.out _ (obD_mem (by have := HN.out; omega : j < os.length))
   clear hbr hres
   generalize obD os j = o at *
   obtain ⟨p0, sz, pp, g, t⟩ := o
   obtain ⟨x0, x1, x2, x3, x4⟩ := hxk
   dsimp only at x0 x1 x2 x3 x4 f0 f1 f2 f3 f4 f5
   obtain ⟨P0, rfl⟩ := Int.eq_ofNat_of_zero_le f0
   obtain ⟨S, rfl⟩ := Int.eq_ofNat_of_zero_le f1
   obtain ⟨PP, rfl⟩ := Int.eq_ofNat_of_zero_le f3
   rcases g with _ | _
   ·have HS2 : Hid (pointersB P zs os = (ptrsB P zs ⟨P0, S, PP, false, t⟩ PP && pointersB P zs (os.drop (j + 1)))) := HS.out
    clear HS
    have HO : Hid (Blk (wr.alloc (.cells #[.int .i64 P0, .int .i64 S, .int .i64 PP, .bool false, .int .u64 t] 58)) wr.heap.size #[.int .i64 P0, .int .i64 S, .int .i64 PP, .bool false, .int .u64 t] 58) := Blk.new _ _ _
    have HB0 : Hid (Below W.heap.size W (wr.alloc (.cells #[.int .i64 P0, .int .i64 S, .int .i64 PP, .bool false, .int .u64 t] 58))) := HBR.out.alloc hws _
    go_wp2_with fail
    clear x0 x1 x2 x3 x4 HBR hws
    generalize hoB : wr.heap.size = oB at *
    clear hoB
    go_loopw [32] (fun i wr2 => ∃ i' : Nat, i' ≤ PP ∧ i = .int .i64 i' ∧ Hid (∀ m, m < i' → P ((P0 : Int) + 1 + m) (zs.getD (P0 + 1 + m) 0) = true) ∧ Hid (Blk wr2 oB #[.int .i64 P0, .int .i64 S, .int .i64 PP, .bool false, .int .u64 t] 58) ∧ Hid (Below W.heap.size W wr2)) (fun i _ => PP - (intOf i).toNat)
    case atStart => exact ⟨0, Nat.zero_le _, rfl, fun m hm => absurd hm (Nat.not_lt_zero _), HO.out, HB0.out⟩
    case round =>
     obtain ⟨i, hi, rfl, hpre, hk2, hb2⟩ := hrel
     clear HO HB0
     obtain ⟨lo, co, fo⟩ := hk2.out.get
     by_cases hiP : i < PP
     ·obtain rfl := HG1.out (by omega)
      have hwi := (HG6.out.block (hb2.out.block wb g5)).at (P0 + 1 + i) (by omega)
      have hsmi := Lib.hid (HSm.out (P0 + 1 + i))
      have hcl := Lib.hid (cell_tr hb2.out HX.out)
      have HNo : Hid (P ((P0 : Int) + 1 + i) (zs.getD (P0 + 1 + i) 0) = false → pointersB P zs os = false) := fun e => by rw [HS2.out, ptrsB_not (o := ⟨P0, S, PP, false, t⟩) hiP e]; rfl
      have HYes : Hid (P ((P0 : Int) + 1 + i) (zs.getD (P0 + 1 + i) 0) = true → ∀ m, m < i + 1 → P ((P0 : Int) + 1 + m) (zs.getD (P0 + 1 + m) 0) = true) := fun e m hm => by
       rcases Nat.lt_or_ge m i with h | h
       ·exact hpre.out m h
       ·obtain rfl : m = i := by omega
        exact e
      clear hpre
      generalize zs.getD (P0 + 1 + i) 0 = x at *
      have hHF := HFF.out wr ((P0 : Int) + 1 + i) x (A.out.tr hb2.out) hcl.out hsmi.out
      have hHF := Lib.hid hHF
      generalize hP : P ((P0 : Int) + 1 + i) x = r at *
      clear hP
      rcases r with _ | _
      ·have HR := Lib.hid (HNo.out rfl)
       clear HNo HYes
       go_wp2_with fail
       refine hHF.out.mono ?_; rintro e w3 ⟨rfl, k3⟩
       go_wp2_with fail
       go_ret
       refine ⟨by rw [HR.out]; rfl, ?_⟩
       have := hb2.out
       exact bm
      ·have HR := Lib.hid (HYes.out rfl)
       clear HNo HYes
       go_wp2_with fail
       refine hHF.out.mono ?_; rintro e w3 ⟨rfl, k3⟩
       have hk3 := hk2.out.tr k3
       have hb3 : Below W.heap.size W w3 := by have := hb2.out; exact bm
       go_wp2_with fail
       exact ⟨⟨i + 1, by omega, by go_num, HR.out, hk3, hb3⟩, by simp [intOf]; omega⟩
     ·have HR : Hid (pointersB P zs os = pointersB P zs (os.drop (j + 1))) := HS2.out.trans (by rw [ptrsB_all (o := ⟨P0, S, PP, false, t⟩) (fun m hm => hpre.out m (by omega))]; rfl)
      go_wp2_with fail
      exact ⟨⟨j + 1, by omega, by go_num, HR.out, hb2.out⟩, by simp [intOf]; omega⟩
   ·have HS2 : Hid (pointersB P zs os = pointersB P zs (os.drop (j + 1))) := HS.out.trans (by simp)
    go_wp2_with fail
    exact ⟨⟨j + 1, by omega, by go_num, HS2.out, by have := HBR.out; exact bm⟩, by simp [intOf]; omega⟩
  ·have HR : Hid (pointersB P zs os = true) := hres.out.trans (by rw [List.drop_eq_nil_of_le (by have := HN.out; omega)]; rfl)
   go_wp2_with fail
   go_ret
   refine ⟨by rw [HR.out]; rfl, ?_⟩
   have := HBR.out
   exact bm
end Go.Proofs.YtpgjploaliefdaaGreat.ck
namespace Go.Proofs.YtpgjploaliefdaaGreat.rh
open Go Go.RowKit hp ob hd cp ck
set_option linter.unusedVariables false
set_option linter.unusedSimpArgs false
set_option maxRecDepth 100000
set_option maxHeartbeats 4000000
theorem right7_ok (L : Lay) (w : World) (hr : layR L = true) : Calls Tryz.prog 87 #[layV L] w fun e w' => e = .returned (.bool true) ∧ Below w.heap.size w w' := by
 obtain ⟨r1, r2, r3, r4, r5, ⟨r6, r7, r8⟩, ⟨r9, r10, r11⟩⟩ := layR_t hr
 obtain ⟨base, cap, tt, low, high, old, far⟩ := L
 dsimp only at r1 r2 r3 r4 r5 r6 r7 r8 r9 r10 r11
 clear hr
 unfold layV
 dsimp only
 have w1 : IntKind.u64.wrap cap = cap := IntWalk.u64_in _ (by omega)
 have w2 : IntKind.u64.wrap (2 * cap) = 2 * cap := IntWalk.u64_in _ (by omega)
 have w3 : IntKind.u64.wrap (9223372036854775808 - 2 * cap) = 9223372036854775808 - 2 * cap := IntWalk.u64_in _ (by omega)
 have w4 : IntKind.i64.wrap (cap - low) = cap - low := IntWalk.i64_in _ (by omega)
 have w5 : IntKind.i64.wrap (cap - old) = cap - old := IntWalk.i64_in _ (by omega)
 have d1 : high ≤ cap - low := by omega
 have d2 : far ≤ cap - old := by omega
 have d3 : low ≤ cap := by omega
 have d4 : old ≤ cap := by omega
 rcases r5 with rfl | rfl
 all_goals
  go_enter Tryz.func87, Tryz.ntmps87
  go_wp2_with fail
  all_goals first
   | (exfalso; omega)
   | (go_ret; refine ⟨rfl, ?_⟩; exact bm)
   | skip
theorem addrs7_ok (L : Lay) (p : Nat) (hp : 1 ≤ p ∧ p ≤ 4) (w : World) (hr : layR L = true) : Calls Tryz.prog 102 #[layV L, .int .i64 p] w fun e w' => e = .returned (.tuple #[.int .u64 (firstI L p), .int .i64 (lenI L p)]) ∧ Below w.heap.size w w' := by
 obtain ⟨r1, r2, r3, r4, r5, ⟨r6, r7, r8⟩, ⟨r9, r10, r11⟩⟩ := layR_t hr
 obtain ⟨base, cap, tt, low, high, old, far⟩ := L
 dsimp only at r1 r2 r3 r4 r5 r6 r7 r8 r9 r10 r11
 clear hr
 unfold layV
 dsimp only
 have w0 : IntKind.u64.wrap cap = cap := IntWalk.u64_in _ (by omega)
 have w1 : IntKind.u64.wrap base = base := IntWalk.u64_in _ (by omega)
 have w2 : IntKind.u64.wrap (base + cap) = base + cap := IntWalk.u64_in _ (by omega)
 have w3 : IntKind.i64.wrap cap = cap := IntWalk.i64_in _ (by omega)
 have w4 : IntKind.i64.wrap (cap - high) = cap - high := IntWalk.i64_in _ (by omega)
 have w5 : IntKind.i64.wrap (cap - far) = cap - far := IntWalk.i64_in _ (by omega)
 have w6 : IntKind.u64.wrap (cap - high) = cap - high := IntWalk.u64_in _ (by omega)
 have w7 : IntKind.u64.wrap (cap - far) = cap - far := IntWalk.u64_in _ (by omega)
 have w8 : IntKind.u64.wrap (base + (cap - high)) = base + (cap - high) := IntWalk.u64_in _ (by omega)
 have w9 : IntKind.u64.wrap (base + (cap - far)) = base + (cap - far) := IntWalk.u64_in _ (by omega)
 have w10 : IntKind.u64.wrap (base + cap + (cap - high)) = base + cap + (cap - high) := IntWalk.u64_in _ (by omega)
 have w11 : IntKind.u64.wrap (base + cap + (cap - far)) = base + cap + (cap - far) := IntWalk.u64_in _ (by omega)
 rcases (show p = 1 ∨ p = 2 ∨ p = 3 ∨ p = 4 by omega) with rfl | rfl | rfl | rfl <;> rcases r5 with rfl | rfl
 all_goals
  go_enter Tryz.func102, Tryz.ntmps102
  go_wp2_with fail
  go_quiet (fail)
  go_wp2_with fail
  go_ret2
  refine ⟨?_, ?_⟩
  ·simp [firstI, lenI]
  ·exact bm
theorem addr7_ok (L : Lay) (p a : Nat) (hp : 1 ≤ p ∧ p ≤ 4) (w : World) (hr : layR L = true) (ha : (a : Int) < lenI L p) : Calls Tryz.prog 82 #[layV L, .agg #[.int .i64 p, .int .i64 a]] w fun e w' => e = .returned (.tuple #[.int .u64 (firstI L p + a), .int .i64 0]) ∧ Below w.heap.size w w' := by
 have H1 : Hid (∀ W, Calls Tryz.prog 87 #[layV L] W fun e w' => e = .returned (.bool true) ∧ Below W.heap.size W w') := Lib.hid fun W => right7_ok L W hr
 have H2 : Hid (∀ W, Calls Tryz.prog 102 #[layV L, .int .i64 p] W fun e w' => e = .returned (.tuple #[.int .u64 (firstI L p), .int .i64 (lenI L p)]) ∧ Below W.heap.size W w') := Lib.hid fun W => addrs7_ok L p hp W hr
 have hpos := adr_pos hr (p := (p : Int)) (x := (a : Int)) (by omega) ⟨by omega, ha⟩
 have hl4 : lenI L p ≤ 4096 := by
  obtain ⟨r1, r2, r3, r4, r5, ⟨r6, r7, r8⟩, ⟨r9, r10, r11⟩⟩ := layR_t hr
  unfold lenI; repeat' split
  all_goals omega
 have w1 : IntKind.u64.wrap (a : Int) = (a : Int) := IntWalk.u64_in _ (by omega)
 have w2 : IntKind.u64.wrap (firstI L p + a) = firstI L p + a := IntWalk.u64_in _ (by omega)
 generalize firstI L p = F at *
 generalize lenI L p = N at *
 have hna : ¬ ((a : Int) ≥ N) := by omega
 obtain ⟨base, cap, tt, low, high, old, far⟩ := L
 unfold layV at *
 dsimp only at *
 clear hr hp hpos hl4
 go_enter Tryz.func82, Tryz.ntmps82
 go_wp2_with fail
 refine (H1.out _).mono ?_; rintro e w3 ⟨rfl, k3⟩
 have KL := (Blk.new w #[.int .u64 base, .int .i64 cap, .int .i64 tt, .int .i64 low, .int .i64 high, .int .i64 old, .int .i64 far] 117).alloc (.cells #[.int .i64 p, .int .i64 a] 113) |>.tr k3
 have KP : Blk w3 (w.heap.size + 1) #[.int .i64 p, .int .i64 a] 113 := (Blk.mk (w := w.alloc (.cells #[.int .u64 base, .int .i64 cap, .int .i64 tt, .int .i64 low, .int .i64 high, .int .i64 old, .int .i64 far] 117)) (by simp)).tr k3
 obtain ⟨lL, cL, fL⟩ := KL.get
 obtain ⟨lP, cP, fP⟩ := KP.get
 go_wp2_with fail
 refine (H2.out _).mono ?_; rintro e w4 ⟨rfl, k4⟩
 replace KL := KL.tr k4
 obtain ⟨lL, cL, fL⟩ := KL.get
 replace KP := KP.tr k4
 obtain ⟨lP, cP, fP⟩ := KP.get
 go_wp2_with fail
 go_ret2
 refine ⟨rfl, ?_⟩
 exact bm
theorem ref5_ok (a : Int) (w : World) (h1 : 1 ≤ a) (h2 : a < 9223372036854775808) : Calls Tryz.prog 84 #[.int .u64 a] w fun e w' => e = .returned (.tuple #[.int .u64 (2 * a + 1), .int .i64 0]) ∧ w = w' := by
 have w1 : IntKind.u64.wrap (2 * a) = 2 * a := IntWalk.u64_in _ (by omega)
 have w2 : IntKind.u64.wrap (2 * a + 1) = 2 * a + 1 := IntWalk.u64_in _ (by omega)
 go_enter Tryz.func84, Tryz.ntmps84
 go_wp2_with fail
 all_goals first
  | (exfalso; omega)
  | (go_ret2; exact ⟨rfl, rfl⟩)
theorem layout10_any (h : Hp) (v : Hv) (w : World) (hl : ∃ a c, v.l = .slice a h.low.length c) (hh : ∃ a c, v.h = .slice a h.high.length c) (ho : ∃ a c, v.o = .slice a h.old.length c) (hf : ∃ a c, v.f = .slice a h.far.length c) (hr : ∃ a n c, v.r = .slice a n c) :
  Calls Tryz.prog 83 #[hpV h v] w fun e w' => e = .returned (layV h.lay) ∧ Below w.heap.size w w' := by
 obtain ⟨vl, vh, vo, vf, vr⟩ := v
 obtain ⟨la, lc, e1⟩ := hl
 obtain ⟨ha, hc, e2⟩ := hh
 obtain ⟨oa, oc, e3⟩ := ho
 obtain ⟨fa, fc, e4⟩ := hf
 obtain ⟨ra, rn, rc, e5⟩ := hr
 dsimp only at e1 e2 e3 e4 e5
 subst e1 e2 e3 e4 e5
 unfold hpV layV Hp.lay
 dsimp only
 generalize h.low.length = n1
 generalize h.high.length = n2
 generalize h.old.length = n3
 generalize h.far.length = n4
 go_enter Tryz.func83, Tryz.ntmps83
 go_wp2_with fail
 refine bodyPost_ret (v := .agg #[.int .u64 h.base, .int .i64 h.cap, .int .i64 h.tt, .int .i64 n1, .int .i64 n2, .int .i64 n3, .int .i64 n4]) (by simp only [results, Tryz.results83]; go_simp) rfl ⟨rfl, ?_⟩
 exact bm
end Go.Proofs.YtpgjploaliefdaaGreat.rh
