/- check: copied. No conditions. -/
import Derived.Test.YtpgjploaliefdaaGreatDb
namespace Go.Proofs.YtpgjploaliefdaaGreat.ck
open Go Go.RowKit Go.Proofs.YtpgjploaliefdaaGreat.hp Go.Proofs.YtpgjploaliefdaaGreat.ob Go.Proofs.YtpgjploaliefdaaGreat.hd Go.Proofs.YtpgjploaliefdaaGreat.cp Go.Proofs.YtpgjploaliefdaaGreat.mp Go.Proofs.YtpgjploaliefdaaGreat.cm
set_option linter.unusedVariables false
set_option linter.unusedSimpArgs false
set_option maxRecDepth 100000
set_option maxHeartbeats 2000000
variable {w0 w W : World} {p : Pl} {h : Hp} {v : Hv} {s : Fnd} {ov : Ov}
theorem look_run {P : Program} {k : TypeId} {W : World} {b n : Nat} {f : Int → Option Value} (h : MapIs P k W b n f) (t e : TypeId) (hk : P.underlying k = some (.int .u64)) (ht : P.underlying t = some (.map k e)) (z : Value) (hz : ∀ W, (zeroValue e).run P W = .ok z W) (y : Int) (hy : K64 y) (m : Nat) :
    (Instr.lookup t (.map (some b)) (.int .u64 y) false).run P (W.drewN m) = .ok ((f y).getD z) (W.drewN m) := by
  obtain ⟨D, h1, h2, h3⟩ := h.tr (below_drewN (Below.refl _ _) m)
  obtain ⟨v, ps, hrun, hv⟩ := h1.lookup (Maps.int_keyed hk) ht (hz _) (zd := .held z) (zp := []) rfl (Maps.keyOf_int_mk hk (wf64 hy))
  rw [at_of hv ((h3 y hy).2 z)] at hrun
  exact hrun
theorem len_run {P : Program} {k : TypeId} {W : World} {b n : Nat} {f : Int → Option Value} (h : MapIs P k W b n f) (t e : TypeId) (ht : P.underlying t = some (.map k e)) (ty : TypeId) (m : Nat) :
    (Builtin.len_ #[t] ty #[.map (some b)]).run P (W.drewN m) = .ok (.int .i64 n) (W.drewN m) := by
  obtain ⟨D, h1, h2, h3⟩ := h.tr (below_drewN (Below.refl _ _) m)
  have := h1.len ht ty
  rw [h2] at this
  exact this
def tV (t : Int → Bool) : Int → Option Value := fun a => if t a then some (.bool true) else none
theorem tV_set (t : Int → Bool) (a : Int) : upd (tV t) a (.bool true) = tV (fun x => decide (x = a) || t x) := by
  funext x
  unfold upd tV
  by_cases h : x = a
  · subst h; simp
  · simp [h]
theorem copyGo_drop {pf : Int → Option Int} {os rest : List Ob} {j : Nat} (h : j < os.length) (t : Int → Bool) (n : Nat) : copyGo pf (os.drop j ++ rest) t n =
    if (obD os j).g then (if (pf (obD os j).t).getD 0 = 1 ∧ t (obD os j).t = false then copyGo pf (os.drop (j + 1) ++ rest) (fun x => decide (x = (obD os j).t) || t x) (n + 1) else none) else copyGo pf (os.drop (j + 1) ++ rest) t n := by
  rw [drop_ob h]
  rfl
/-- A target is an address. -/
def TgB (os : List Ob) : Prop := ∀ o ∈ os, 0 ≤ o.t ∧ o.t < 18446744073709551616
theorem copied_any (a : St w0 W p h v s ov) (ht3 : TgB s.o3) (ht4 : TgB s.o4) :
    Calls Tryz.prog 97 #[.pointer (some ⟨p.b, 0, none⟩)] W fun e w' => e = .returned (.bool (copiedB h s)) ∧ Below W.heap.size W w' := by
  obtain ⟨lb, cb, fb⟩ := a.blk.get
  have c3 : W.cell? ⟨p.b, 3, none⟩ = some (.bool h.cyc) := cb 3
  have HR : Hid (copiedB h s = (!h.cyc || decide (copyGo s.pf (waitR s 3) (fun _ => false) 0 = some s.o1.length))) := rfl
  have A := Lib.hid a
  have HTT : Hid (∀ q : Nat, 3 ≤ q ∧ q ≤ 4 → TgB (s.obs q)) := fun q hq => by
    rcases (show q = 3 ∨ q = 4 by omega) with rfl | rfl
    · exact ht3
    · exact ht4
  have hzi : ∀ W, (zeroValue 3).run Tryz.prog W = .ok (.int .i64 0) W := fun W => by rw [Tryz.zeroValue3]
  have hzb : ∀ W, (zeroValue 4).run Tryz.prog W = .ok (.bool false) W := fun W => by rw [Tryz.zeroValue4]
  have HZI := Lib.hid hzi
  have HZB := Lib.hid hzb
  have hl1 : s.o1.length < 1000000000000 := Nat.lt_of_le_of_lt a.f1.2 (nums_len a.hin.low)
  clear a cb fb ht3 ht4 hzi hzb
  generalize copiedB h s = R at *
  generalize h.cyc = cyc at *
  rcases cyc with _ | _
  · obtain rfl : R = true := HR.out
    go_enter Tryz.func97, Tryz.ntmps97
    go_wp2_with fail
    go_ret
    refine ⟨rfl, ?_⟩
    (repeat (first | with_reducible exact Below.refl _ _ | with_reducible refine kp_alloc ?_ _ | with_reducible refine kp_drew ?_ | with_reducible refine below_drewN ?_ _ | with_reducible refine kp_set ?_ (by first | omega | (simp; done) | (simp; omega)) _ | with_reducible refine kp_tr ?_ (by with_reducible assumption)))
  · have HR2 : Hid (R = decide (copyGo s.pf (waitR s 3) (fun _ => false) 0 = some s.o1.length)) := HR.out
    clear HR
    have HM0 : Hid (MapIs Tryz.prog 24 (W.alloc (.map #[] 0)) W.heap.size 0 (tV fun _ => false)) := MapIs.made W
    have HB0 : Hid (Below W.heap.size W (W.alloc (.map #[] 0))) := Lib.hid (by (repeat (first | with_reducible exact Below.refl _ _ | with_reducible refine kp_alloc ?_ _ | with_reducible refine kp_drew ?_ | with_reducible refine below_drewN ?_ _ | with_reducible refine kp_set ?_ (by first | omega | (simp; done) | (simp; omega)) _ | with_reducible refine kp_tr ?_ (by with_reducible assumption))))
    have hmm := @run_makeMap Tryz.prog
    go_enter Tryz.func97, Tryz.ntmps97
    go_wp2_with fail
    clear hmm
    go_loopw [4] (fun i wr => ∃ (q n : Nat) (t : Int → Bool), (3 ≤ q ∧ q ≤ 5) ∧ i = .int .i64 q ∧ (n ≤ 1000000000000 * (q - 3)) ∧ Hid (MapIs Tryz.prog 24 wr W.heap.size n (tV t)) ∧ Hid (R = decide (copyGo s.pf (waitR s q) t n = some s.o1.length)) ∧ Hid (Below W.heap.size W wr)) (fun i _ => 6 - (intOf i).toNat)
    case atStart => exact ⟨3, 0, fun _ => false, by omega, rfl, by omega, HM0.out, HR2.out, HB0.out⟩
    case round =>
      obtain ⟨q, n, t, ⟨hq1, hq2⟩, rfl, hn, hm, hres, hbr⟩ := hrel
      clear HM0 HB0 HR2
      by_cases hq5 : q = 5
      · subst hq5
        have HR3 : Hid (R = decide (n = s.o1.length)) := by
          show _ = _
          rw [hres.out]
          show decide (some n = some s.o1.length) = _
          exact decide_eq_decide.2 (by constructor <;> intro e <;> first | (cases e; rfl) | rw [e])
        obtain ⟨lw, cw, fw⟩ := (A.out.tr hbr.out).blk.get
        obtain ⟨oa, oc, eo⟩ := obs_form (A.out.tr hbr.out).o1
        have c17 : wr.cell? ⟨p.b, 17, none⟩ = some ov.a := cw 17
        rw [eo] at c17
        clear cw fw eo hn
        generalize s.o1.length = l1 at *
        have hlr := len_run hm.out 167 4 Tryz.underlying167 3
        by_cases hnl : n = l1
        · have hb1 : ((n : Int) == (l1 : Int)) = true := beq_iff_eq.mpr (by omega)
          obtain rfl : R = true := by rw [HR3.out]; exact decide_eq_true hnl
          go_wp2_with fail
          go_quiet (fail)
          go_wp2_with fail
          go_ret
          refine ⟨rfl, ?_⟩
          have := hbr.out
          (repeat (first | with_reducible exact Below.refl _ _ | with_reducible refine kp_alloc ?_ _ | with_reducible refine kp_drew ?_ | with_reducible refine below_drewN ?_ _ | with_reducible refine kp_set ?_ (by first | omega | (simp; done) | (simp; omega)) _ | with_reducible refine kp_tr ?_ (by with_reducible assumption)))
        · have hb1 : ((n : Int) == (l1 : Int)) = false := beq_eq_false_iff_ne.mpr (by omega)
          obtain rfl : R = false := by rw [HR3.out]; exact decide_eq_false hnl
          go_wp2_with fail
          go_quiet (fail)
          go_wp2_with fail
          go_ret
          refine ⟨rfl, ?_⟩
          have := hbr.out
          (repeat (first | with_reducible exact Below.refl _ _ | with_reducible refine kp_alloc ?_ _ | with_reducible refine kp_drew ?_ | with_reducible refine below_drewN ?_ _ | with_reducible refine kp_set ?_ (by first | omega | (simp; done) | (simp; omega)) _ | with_reducible refine kp_tr ?_ (by with_reducible assumption)))
      · have HBr := Lib.hid hbr.out
        have HMr := Lib.hid hm.out
        obtain ⟨lb1, cb, fb⟩ := A.out.blk.get
        obtain ⟨hob, hfit, hlen⟩ := A.out.obs q
        have hzl := nums_len (A.out.now.part q).1
        have hos := obs_sees hob (by omega) (by omega)
        have hcq0 : W.cell? ⟨p.b, 17 + (q - 1), none⟩ = some (ov.part q) := (cb _).trans (ov_cell _ _ _ _ _ _ ⟨by omega, by omega⟩)
        have hcq := cell_tr hbr.out hcq0
        obtain ⟨oa, ob, off, oc, eo, ⟨o1, o2⟩, o3, ⟨o4, o4'⟩, o5, o6⟩ := hos
        rw [eo] at hcq
        have HS : Hid (R = decide (copyGo s.pf (s.obs q ++ waitR s (q + 1)) t n = some s.o1.length)) := by
          show _ = _
          rw [← waitR_next s ⟨by omega, by omega⟩]
          exact hres.out
        have HTg : Hid (TgB (s.obs q)) := HTT.out q ⟨by omega, by omega⟩
        have HO6 := Lib.hid o6
        have HO1 := Lib.hid o1
        have hol := Nat.lt_of_le_of_lt hlen hzl
        have hws := hbr.out.size
        clear hres hob hfit cb fb o2 o6 eo o1 hlen hzl hcq0 hbr hm
        generalize hW1 : wr = W1 at *
        clear hW1
        generalize s.obs q = os at *
        generalize hno : os.length = no at *
        have HN := Lib.hid hno
        clear hno
        have lb2 : p.b < W1.heap.size := by omega
        go_wp2_with fail
        rw [show decide ((q : Int) ≤ 4) = true from decide_eq_true (by omega)]
        clear hcq
        go_loopw [26] (fun i wr2 => ∃ (j n : Nat) (t : Int → Bool), j ≤ no ∧ i = .int .i64 j ∧ (n ≤ 1000000000000 * (q - 3) + j) ∧ Hid (MapIs Tryz.prog 24 wr2 W.heap.size n (tV t)) ∧ Hid (R = decide (copyGo s.pf (os.drop j ++ waitR s (q + 1)) t n = some s.o1.length)) ∧ Hid (Below W.heap.size W wr2)) (fun i _ => no - (intOf i).toNat)
        case atStart => exact ⟨0, n, t, Nat.zero_le _, rfl, by omega, HMr.out, HS.out, HBr.out⟩
        case round =>
          obtain ⟨j, n, t, hj, rfl, hn, hm, hres, hbr⟩ := hrel
          clear HBr HMr HS
          have hws2 := hbr.out.size
          by_cases hlj : j < no
          · obtain rfl := HO1.out (by omega)
            have hxk := (HO6.out.block (hbr.out.block ob o5)).at j hlj
            have HS2 := Lib.hid hres.out
            have HS2 : Hid (R = decide ((if (obD os j).g then (if (s.pf (obD os j).t).getD 0 = 1 ∧ t (obD os j).t = false then copyGo s.pf (os.drop (j + 1) ++ waitR s (q + 1)) (fun x => decide (x = (obD os j).t) || t x) (n + 1) else none) else copyGo s.pf (os.drop (j + 1) ++ waitR s (q + 1)) t n) = some s.o1.length)) := by
              show _ = _
              rw [← copyGo_drop (by have := HN.out; omega)]
              exact hres.out
            obtain ⟨ht1, ht2⟩ := HTg.out _ (obD_mem (by have := HN.out; omega : j < os.length))
            clear hres
            generalize obD os j = o at *
            obtain ⟨p0, sz, pp, g, tg⟩ := o
            obtain ⟨x0, x1, x2, x3, x4⟩ := hxk
            dsimp only at x0 x1 x2 x3 x4 ht1 ht2
            rcases g with _ | _
            · have HS3 : Hid (R = decide (copyGo s.pf (os.drop (j + 1) ++ waitR s (q + 1)) t n = some s.o1.length)) := HS2.out
              clear HS2
              have hm3 := hm.out.tr ((Below.refl _ _).alloc (Nat.le_refl _) (.cells #[.int .i64 p0, .int .i64 sz, .int .i64 pp, .bool false, .int .u64 tg] 58))
              go_wp2_with fail
              refine ⟨⟨j + 1, n, t, by omega, by go_num, by omega, hm3, HS3.out, ?_⟩, by simp [intOf]; omega⟩
              have := hbr.out
              show Below _ _ _
              (repeat (first | with_reducible exact Below.refl _ _ | with_reducible refine kp_alloc ?_ _ | with_reducible refine kp_drew ?_ | with_reducible refine below_drewN ?_ _ | with_reducible refine kp_set ?_ (by first | omega | (simp; done) | (simp; omega)) _ | with_reducible refine kp_tr ?_ (by with_reducible assumption)))
            · have HS3 : Hid (R = decide ((if (s.pf tg).getD 0 = 1 ∧ t tg = false then copyGo s.pf (os.drop (j + 1) ++ waitR s (q + 1)) (fun x => decide (x = tg) || t x) (n + 1) else none) = some s.o1.length)) := HS2.out
              clear HS2
              have hm3 := hm.out.tr ((Below.refl _ _).alloc (Nat.le_refl _) (.cells #[.int .i64 p0, .int .i64 sz, .int .i64 pp, .bool true, .int .u64 tg] 58))
              have hk : K64 tg := ⟨ht1, ht2⟩
              obtain ⟨np, hnp, hpm⟩ := (A.out.tr hbr.out).pm
              have hpm3 := hpm.tr ((Below.refl _ _).alloc (Nat.le_refl _) (.cells #[.int .i64 p0, .int .i64 sz, .int .i64 pp, .bool true, .int .u64 tg] 58))
              have hl1 := look_run hpm3 119 3 Tryz.underlying24 Tryz.underlying119 (.int .i64 0) HZI.out tg hk
              have hl2 := look_run hm3 167 4 Tryz.underlying24 Tryz.underlying167 (.bool false) HZB.out tg hk
              rw [show (pfV s.pf tg).getD (.int .i64 0) = .int .i64 ((s.pf tg).getD 0) from by unfold pfV; rcases s.pf tg with _ | _ <;> rfl] at hl1
              rw [show (tV t tg).getD (.bool false) = .bool (t tg) from by unfold tV; rcases t tg with _ | _ <;> rfl] at hl2
              obtain ⟨lw, cw, fw⟩ := (A.out.tr hbr.out).blk.get
              have c21 : wr.cell? ⟨p.b, 21, none⟩ = some (.map (some p.bp)) := cw 21
              have hne : ¬ p.b = wr.heap.size := by omega
              have HM3 := Lib.hid hm3
              clear cw fw hpm hpm3 hm hm3 hnp
              generalize hX : (s.pf tg).getD 0 = X at *
              generalize hY : t tg = Y at *
              by_cases hX1 : X = 1
              · have hXb : (X == 1) = true := beq_iff_eq.mpr hX1
                subst hX1
                rcases Y with _ | _
                · have HS4 : Hid (R = decide (copyGo s.pf (os.drop (j + 1) ++ waitR s (q + 1)) (fun x => decide (x = tg) || t x) (n + 1) = some s.o1.length)) := by
                    show _ = _
                    rw [HS3.out]
                    simp
                  have HTn : Hid ((tV t tg).isSome = false) := by show _ = _; unfold tV; rw [hY]; rfl
                  clear HS3
                  go_wp2_with fail
                  go_quiet (fail)
                  clear hl1 hl2
                  go_wp2_with (at_mapUpdate; refine wp_store (n := n) (b := W.heap.size) (k := 24) (f := tV t) _ rfl _ _ _ _ rfl 4 Tryz.underlying24 Tryz.underlying167 rfl (HM3.out.tr (below_drewN (Below.refl _ _) _)) (by unfold maxLen; omega) tg rfl hk (.bool true) rfl ?_; intro w' hM' hG')
                  rw [HTn.out, tV_set] at hM'
                  have hB' : Below W.heap.size W w' := Below.trans (by have := hbr.out; (repeat (first | with_reducible exact Below.refl _ _ | with_reducible refine kp_alloc ?_ _ | with_reducible refine kp_drew ?_ | with_reducible refine below_drewN ?_ _ | with_reducible refine kp_set ?_ (by first | omega | (simp; done) | (simp; omega)) _ | with_reducible refine kp_tr ?_ (by with_reducible assumption)))) (below_of hG' (by simp; omega) (Nat.le_refl _))
                  go_wp2_with fail
                  exact ⟨⟨j + 1, n + 1, _, by omega, by go_num, by omega, hM', HS4.out, hB'⟩, by simp [intOf]; omega⟩
                · obtain rfl : R = false := by rw [HS3.out]; simp
                  clear HS3
                  go_wp2_with fail
                  go_quiet (fail)
                  go_wp2_with fail
                  go_ret
                  refine ⟨rfl, ?_⟩
                  have := hbr.out
                  (repeat (first | with_reducible exact Below.refl _ _ | with_reducible refine kp_alloc ?_ _ | with_reducible refine kp_drew ?_ | with_reducible refine below_drewN ?_ _ | with_reducible refine kp_set ?_ (by first | omega | (simp; done) | (simp; omega)) _ | with_reducible refine kp_tr ?_ (by with_reducible assumption)))
              · have hXb : (X == 1) = false := beq_eq_false_iff_ne.mpr hX1
                obtain rfl : R = false := by rw [HS3.out]; simp [hX1]
                clear HS3
                go_wp2_with fail
                go_quiet (fail)
                go_wp2_with fail
                go_ret
                refine ⟨rfl, ?_⟩
                have := hbr.out
                (repeat (first | with_reducible exact Below.refl _ _ | with_reducible refine kp_alloc ?_ _ | with_reducible refine kp_drew ?_ | with_reducible refine below_drewN ?_ _ | with_reducible refine kp_set ?_ (by first | omega | (simp; done) | (simp; omega)) _ | with_reducible refine kp_tr ?_ (by with_reducible assumption)))
          · have HR4 : Hid (R = decide (copyGo s.pf (waitR s (q + 1)) t n = some s.o1.length)) := by
              show _ = _
              rw [hres.out, List.drop_eq_nil_of_le (by have := HN.out; omega)]
              rfl
            go_wp2_with fail
            exact ⟨⟨q + 1, n, t, by omega, by go_num, by omega, hm.out, HR4.out, hbr.out⟩, by simp [intOf]; omega⟩
end Go.Proofs.YtpgjploaliefdaaGreat.ck
