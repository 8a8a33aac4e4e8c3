/- check: copied. No conditions. -/
import Derived.Test.YtpgjploaliefdaaGreatG12
namespace Go.Proofs.YtpgjploaliefdaaGreat.ck
open Go Go.RowKit hp ob hd cp mp cm
set_option linter.unusedVariables false
set_option linter.unusedSimpArgs false
set_option maxRecDepth 100000
set_option maxHeartbeats 2000000
variable {w0 w W : World} {p : Pl} {h : Hp} {v : Hv} {s : Fnd} {ov : Ov}
theorem look_run {P : Program} {k : TypeId} {W : World} {b n : Nat} {f : Int → Option Value} (h : MapIs P k W b n f) (t e : TypeId) (hk : P.underlying k = some (.int .u64)) (ht : P.underlying t = some (.map k e)) (z : Value) (hz : ∀ W, (zeroValue e).run P W = .ok z W) (y : Int) (hy : K64 y) (m : Nat) :
  (Instr.lookup t (.map (some b)) (.int .u64 y) false).run P (W.drewN m) = .ok ((f y).getD z) (W.drewN m) := by
 obtain ⟨D, h1, h2, h3⟩ := h.tr (below_drewN (Below.refl _ _) m)
 obtain ⟨v, ps, hrun, hv⟩ := h1.lookup (Maps.int_keyed hk) ht (hz _) (zd := .held z) (zp := []) rfl (Maps.keyOf_int_mk hk (wf64 hy))
 rw [at_of hv ((h3 y hy).2 z)] at hrun
 exact hrun
theorem len_run {P : Program} {k : TypeId} {W : World} {b n : Nat} {f : Int → Option Value} (h : MapIs P k W b n f) (t e : TypeId) (ht : P.underlying t = some (.map k e)) (ty : TypeId) (m : Nat) :
  (Builtin.len_ #[t] ty #[.map (some b)]).run P (W.drewN m) = .ok (.int .i64 n) (W.drewN m) := by
 obtain ⟨D, h1, h2, h3⟩ := h.tr (below_drewN (Below.refl _ _) m)
 have := h1.len ht ty
 rw [h2] at this
 exact this
def tV (t : Int → Bool) : Int → Option Value := fun a => if t a then some (.bool true) else none
theorem tV_set (t : Int → Bool) (a : Int) : upd (tV t) a (.bool true) = tV (fun x => decide (x = a) || t x) := by
 funext x
 unfold upd tV
 by_cases h : x = a
 ·subst h; simp
 ·simp [h]
theorem copyGo_drop {pf : Int → Option Int} {os rest : List Ob} {j : Nat} (h : j < os.length) (t : Int → Bool) (n : Nat) : copyGo pf (os.drop j ++ rest) t n =
  if (obD os j).g then (if (pf (obD os j).t).getD 0 = 1 ∧ t (obD os j).t = false then copyGo pf (os.drop (j + 1) ++ rest) (fun x => decide (x = (obD os j).t) || t x) (n + 1) else none) else copyGo pf (os.drop (j + 1) ++ rest) t n := by
 rw [drop_ob h]
 rfl
def TgB (os : List Ob) : Prop := ∀ o ∈ os, 0 ≤ o.t ∧ o.t < 18446744073709551616
theorem copied_any (a : St w0 W p h v s ov) (ht3 : TgB s.o3) (ht4 : TgB s.o4) :
  Calls Tryz.prog 97 #[.pointer (some ⟨p.b, 0, none⟩)] W fun e w' => e = .returned (.bool (copiedB h s)) ∧ Below W.heap.size W w' := by
 obtain ⟨lb, cb, fb⟩ := a.blk.get
 have c3 : W.cell? ⟨p.b, 3, none⟩ = some (.bool h.cyc) := cb 3
 have HR : Hid (copiedB h s = (!h.cyc || decide (copyGo s.pf (waitR s 3) (fun _ => false) 0 = some s.o1.length))) := rfl
 have A := Lib.hid a
 have HTT : Hid (∀ q : Nat, 3 ≤ q ∧ q ≤ 4 → TgB (s.obs q)) := fun q hq => by
  rcases (show q = 3 ∨ q = 4 by omega) with rfl | rfl
  ·exact ht3
  ·exact ht4
 have hzi : ∀ W, (zeroValue 3).run Tryz.prog W = .ok (.int .i64 0) W := fun W => by rw [Tryz.zeroValue3]
 have hzb : ∀ W, (zeroValue 4).run Tryz.prog W = .ok (.bool false) W := fun W => by rw [Tryz.zeroValue4]
 have HZI := Lib.hid hzi
 have HZB := Lib.hid hzb
 have hl1 : s.o1.length < 1000000000000 := Nat.lt_of_le_of_lt a.f1.2 (nums_len a.hin.low)
 clear a cb fb ht3 ht4 hzi hzb
 generalize copiedB h s = R at *
 generalize h.cyc = cyc at *
 rcases cyc with _ | _
 ·obtain rfl : R = true := HR.out
  go_enter Tryz.func97, Tryz.ntmps97
  go_wp2_with fail
  go_ret
  refine ⟨rfl, ?_⟩
  exact bm
 ·have HR2 : Hid (R = decide (copyGo s.pf (waitR s 3) (fun _ => false) 0 = some s.o1.length)) := HR.out
  clear HR
  have HM0 : Hid (MapIs Tryz.prog 24 (W.alloc (.map #[] 0)) W.heap.size 0 (tV fun _ => false)) := MapIs.made W
  have HB0 : Hid (Below W.heap.size W (W.alloc (.map #[] 0))) := Lib.hid (by exact bm)
  have hmm := @run_makeMap Tryz.prog
  go_enter Tryz.func97, Tryz.ntmps97
  go_wp2_with fail
  clear hmm
  go_loopw [4] (fun i wr => ∃ (q n : Nat) (t : Int → Bool), (3 ≤ q ∧ q ≤ 5) ∧ i = .int .i64 q ∧ (n ≤ 1000000000000 * (q - 3)) ∧ Hid (MapIs Tryz.prog 24 wr W.heap.size n (tV t)) ∧ Hid (R = decide (copyGo s.pf (waitR s q) t n = some s.o1.length)) ∧ Hid (Below W.heap.size W wr)) (fun i _ => 6 - (intOf i).toNat)
  case atStart => exact ⟨3, 0, fun _ => false, by omega, rfl, by omega, HM0.out, HR2.out, HB0.out⟩
  case round =>
   obtain ⟨q, n, t, ⟨hq1, hq2⟩, rfl, hn, hm, hres, hbr⟩ := hrel
   clear HM0 HB0 HR2
   by_cases hq5 : q = 5
   ·subst hq5
    have HR3 : Hid (R = decide (n = s.o1.length)) := by
     show _ = _
     rw [hres.out]
     show decide (some n = some s.o1.length) = _
     exact decide_eq_decide.2 (by constructor <;> intro e <;> first | (cases e; rfl) | rw [e])
    obtain ⟨lw, cw, fw⟩ := (A.out.tr hbr.out).blk.get
    obtain ⟨oa, oc, eo⟩ := obs_form (A.out.tr hbr.out).o1
    have c17 : wr.cell? ⟨p.b, 17, none⟩ = some ov.a := cw 17
    rw [eo] at c17
    clear cw fw eo hn
    generalize s.o1.length = l1 at *
    have hlr := len_run hm.out 167 4 Tryz.underlying167 3
    by_cases hnl : n = l1
    ·have hb1 : ((n : Int) == (l1 : Int)) = true := beq_iff_eq.mpr (by omega)
     obtain rfl : R = true := by rw [HR3.out]; exact decide_eq_true hnl
     go_wp2_with fail
     go_quiet (fail)
     go_wp2_with fail
     go_ret
     refine ⟨rfl, ?_⟩
     have := hbr.out
     exact bm
    ·have hb1 : ((n : Int) == (l1 : Int)) = false := beq_eq_false_iff_ne.mpr (by omega)
     obtain rfl : R = false := by rw [HR3.out]; exact decide_eq_false hnl
     go_wp2_with fail
     go_quiet (fail)
     go_wp2_with fail
     go_ret
     refine ⟨rfl, ?_⟩
     have := hbr.out
     exact bm
   ·have HBr := Lib.hid hbr.out
    have HMr := Lib.hid hm.out
    obtain ⟨lb1, cb, fb⟩ := A.out.blk.get
    obtain ⟨hob, hfit, hlen⟩ := A.out.obs q
    have hzl := nums_len (A.out.now.part q).1
    have hos := obs_sees hob (by omega) (by omega)
    have hcq0 : W.cell? ⟨p.b, 17 + (q - 1), none⟩ = some (ov.part q) := (cb _).trans (ov_cell _ _ _ _ _ _ ⟨by omega, by omega⟩)
    have hcq := cell_tr hbr.out hcq0
    obtain ⟨oa, ob, off, oc, eo, ⟨o1, o2⟩, o3, ⟨o4, o4'⟩, o5, o6⟩ := hos
    rw [eo] at hcq
    have HS : Hid (R = decide (copyGo s.pf (s.obs q ++ waitR s (q + 1)) t n = some s.o1.length)) := by
     show _ = _
     rw [← waitR_next s ⟨by omega, by omega⟩]
     exact hres.out
    have HTg : Hid (TgB (s.obs q)) := HTT.out q ⟨by omega, by omega⟩
    have HO6 := Lib.hid o6
    have HO1 := Lib.hid o1
    have hol := Nat.lt_of_le_of_lt hlen hzl
    have hws := hbr.out.size
    clear hres hob hfit cb fb o2 o6 eo o1 hlen hzl hcq0 hbr hm
    generalize hW1 : wr = W1 at *
    clear hW1
    generalize s.obs q = os at *
    generalize hno : os.length = no at *
    have HN := Lib.hid hno
    clear hno
    have lb2 : p.b < W1.heap.size := by omega
    go_wp2_with fail
    rw [show decide ((q : Int) ≤ 4) = true from decide_eq_true (by omega)]
    clear hcq
    go_loopw [26] (fun i wr2 => ∃ (j n : Nat) (t : Int → Bool), j ≤ no ∧ i = .int .i64 j ∧ (n ≤ 1000000000000 * (q - 3) + j) ∧ Hid (MapIs Tryz.prog 24 wr2 W.heap.size n (tV t)) ∧ Hid (R = decide (copyGo s.pf (os.drop j ++ waitR s (q + 1)) t n = some s.o1.length)) ∧ Hid (Below W.heap.size W wr2)) (fun i _ => no - (intOf i).toNat)
    case atStart => exact ⟨0, n, t, Nat.zero_le _, rfl, by omega, HMr.out, HS.out, HBr.out⟩
    case round =>
     obtain ⟨j, n, t, hj, rfl, hn, hm, hres, hbr⟩ := hrel
     clear HBr HMr HS
     have hws2 := hbr.out.size
     by_cases hlj : j < no
     ·obtain rfl := HO1.out (by omega)
      have hxk := (HO6.out.block (hbr.out.block ob o5)).at j hlj
      have HS2 := Lib.hid hres.out
      have HS2 : Hid (R = decide ((if (obD os j).g then (if (s.pf (obD os j).t).getD 0 = 1 ∧ t (obD os j).t = false then copyGo s.pf (os.drop (j + 1) ++ waitR s (q + 1)) (fun x => decide (x = (obD os j).t) || t x) (n + 1) else none) else copyGo s.pf (os.drop (j + 1) ++ waitR s (q + 1)) t n) = some s.o1.length)) := by
       show _ = _
       rw [← copyGo_drop (by have := HN.out; omega)]
       exact hres.out
      obtain ⟨ht1, ht2⟩ := HTg.out _ (obD_mem (by have := HN.out; omega : j < os.length))
      clear hres
      generalize obD os j = o at *
      obtain ⟨p0, sz, pp, g, tg⟩ := o
      obtain ⟨x0, x1, x2, x3, x4⟩ := hxk
      dsimp only at x0 x1 x2 x3 x4 ht1 ht2
      rcases g with _ | _
      ·have HS3 : Hid (R = decide (copyGo s.pf (os.drop (j + 1) ++ waitR s (q + 1)) t n = some s.o1.length)) := HS2.out
       clear HS2
       have hm3 := hm.out.tr ((Below.refl _ _).alloc (Nat.le_refl _) (.cells #[.int .i64 p0, .int .i64 sz, .int .i64 pp, .bool false, .int .u64 tg] 58))
       go_wp2_with fail
       refine ⟨⟨j + 1, n, t, by omega, by go_num, by omega, hm3, HS3.out, ?_⟩, by simp [intOf]; omega⟩
       have := hbr.out
       show Below _ _ _
       exact bm
      ·have HS3 : Hid (R = decide ((if (s.pf tg).getD 0 = 1 ∧ t tg = false then copyGo s.pf (os.drop (j + 1) ++ waitR s (q + 1)) (fun x => decide (x = tg) || t x) (n + 1) else none) = some s.o1.length)) := HS2.out
       clear HS2
       have hm3 := hm.out.tr ((Below.refl _ _).alloc (Nat.le_refl _) (.cells #[.int .i64 p0, .int .i64 sz, .int .i64 pp, .bool true, .int .u64 tg] 58))
       have hk : K64 tg := ⟨ht1, ht2⟩
       obtain ⟨np, hnp, hpm⟩ := (A.out.tr hbr.out).pm
       have hpm3 := hpm.tr ((Below.refl _ _).alloc (Nat.le_refl _) (.cells #[.int .i64 p0, .int .i64 sz, .int .i64 pp, .bool true, .int .u64 tg] 58))
       have hl1 := look_run hpm3 119 3 Tryz.underlying24 Tryz.underlying119 (.int .i64 0) HZI.out tg hk
       have hl2 := look_run hm3 167 4 Tryz.underlying24 Tryz.underlying167 (.bool false) HZB.out tg hk
       rw [show (pfV s.pf tg).getD (.int .i64 0) = .int .i64 ((s.pf tg).getD 0) from by unfold pfV; rcases s.pf tg with _ | _ <;> rfl] at hl1
       rw [show (tV t tg).getD (.bool false) = .bool (t tg) from by unfold tV; rcases t tg with _ | _ <;> rfl] at hl2
       obtain ⟨lw, cw, fw⟩ := (A.out.tr hbr.out).blk.get
       have c21 : wr.cell? ⟨p.b, 21, none⟩ = some (.map (some p.bp)) := cw 21
       have hne : ¬ p.b = wr.heap.size := by omega
       have HM3 := Lib.hid hm3
       clear cw fw hpm hpm3 hm hm3 hnp
       generalize hX : (s.pf tg).getD 0 = X at *
       generalize hY : t tg = Y at *
       by_cases hX1 : X = 1
       ·have hXb : (X == 1) = true := beq_iff_eq.mpr hX1
        subst hX1
        rcases Y with _ | _
        ·have HS4 : Hid (R = decide (copyGo s.pf (os.drop (j + 1) ++ waitR s (q + 1)) (fun x => decide (x = tg) || t x) (n + 1) = some s.o1.length)) := by
          show _ = _
          rw [HS3.out]
          simp
         have HTn : Hid ((tV t tg).isSome = false) := by show _ = _; unfold tV; rw [hY]; rfl
         clear HS3
         go_wp2_with fail
         go_quiet (fail)
         clear hl1 hl2
         go_wp2_with (at_mapUpdate; refine wp_store (n := n) (b := W.heap.size) (k := 24) (f := tV t) _ rfl _ _ _ _ rfl 4 Tryz.underlying24 Tryz.underlying167 rfl (HM3.out.tr (below_drewN (Below.refl _ _) _)) (by unfold maxLen; omega) tg rfl hk (.bool true) rfl ?_; intro w' hM' hG')
         rw [HTn.out, tV_set] at hM'
         have hB' : Below W.heap.size W w' := Below.trans (by have := hbr.out; exact bm) (below_of hG' (by simp; omega) (Nat.le_refl _))
         go_wp2_with fail
         exact ⟨⟨j + 1, n + 1, _, by omega, by go_num, by omega, hM', HS4.out, hB'⟩, by simp [intOf]; omega⟩
        ·obtain rfl : R = false := by rw [HS3.out]; simp
         clear HS3
         go_wp2_with fail
         go_quiet (fail)
         go_wp2_with fail
         go_ret
         refine ⟨rfl, ?_⟩
         have := hbr.out
         exact bm
       ·have hXb : (X == 1) = false := beq_eq_false_iff_ne.mpr hX1
        obtain rfl : R = false := by rw [HS3.out]; simp [hX1]
        clear HS3
        go_wp2_with fail
        go_quiet (fail)
        go_wp2_with fail
        go_ret
        refine ⟨rfl, ?_⟩
        have := hbr.out
        exact bm
     ·have HR4 : Hid (R = decide (copyGo s.pf (waitR s (q + 1)) t n = some s.o1.length)) := by
       show _ = _
       rw [hres.out, List.drop_eq_nil_of_le (by have := HN.out; omega)]
       rfl
      go_wp2_with fail
      exact ⟨⟨q + 1, n, t, by omega, by go_num, by omega, hm.out, HR4.out, hbr.out⟩, by simp [intOf]; omega⟩
end Go.Proofs.YtpgjploaliefdaaGreat.ck
namespace Go.Proofs.YtpgjploaliefdaaGreat.ck
open Go Go.RowKit hp ob hd cp mp cm gr
set_option linter.unusedVariables false
set_option linter.unusedSimpArgs false
set_option maxRecDepth 100000
set_option maxHeartbeats 2000000
variable {w0 w W : World} {p : Pl} {h : Hp} {v : Hv} {s : Fnd} {ov : Ov}
def encS (x : Int × Int) : List Value := [.int .i64 x.1, .int .i64 x.2]
theorem info_shape : (Tryz.prog.info? 56).map (fun i => (i.zero, i.size, i.bytes)) = some (some (.agg #[.int .i64 0, .int .i64 0]), 2, 16) := by kernel_rfl
theorem encS_one {x : Int × Int} : ∀ u ∈ encS x, u.oneCell' = true := by intro u hu; simp [encS] at hu; rcases hu with rfl | rfl <;> rfl
abbrev OwnS (W : World) (B : Nat) (v : Value) (zs : List (Int × Int)) : Prop := OwnR 56 2 encS W B v zs
theorem app_shape {ops : Array Oper} {rest : List Oper} {o : Oper} {a : Act} {Q : Exit → Act → World → Prop} (w : World) (hw : Region.wanted o (yielded ops a.tmps) = true) (s x : Operand)
  (ho : o.op = .call { callee := .builtin .append, args := #[s, x], argTypes := #[39, 39] })
  (B : Nat) (v u : Value) (xs : List (Int × Int)) (y : Int × Int) (hs : a.eval s = v) (hx : a.eval x = u) (hown : OwnS w B v xs) (hys : RIn 2 encS w u [y]) (hbig : xs.length + 1 < 8000000000000) (hB : B ≤ w.heap.size)
  (h : ∀ v' w', OwnS w' B v' (xs ++ [y]) → w.grownBy w' v.ownBlock → (v'.ownBlock = v.ownBlock ∨ v'.ownBlock = some w.heap.size) → wpList Tryz.prog ops Q rest (a.put o.dst v') w') : wpList Tryz.prog ops Q (o :: rest) a w := by
 obtain ⟨i0, hi, hz0, hz1, hz2⟩ := info_parts info_shape
 unfold OwnS OwnR at hown
 refine append_g w hw s x _ ho B 56 i0 _ 2 16 Tryz.underlying39 hi hz0 hz1 hz2 rfl (by decide) v xs.length (xs.flatMap encS) hs hown u 1 ([y].flatMap encS) hx (src_g hys (fun _ => rfl)) rfl (fun u hu => ?_) (by unfold maxLen; omega) (by omega) hB ?_
 ·obtain ⟨x, _, hx2⟩ := List.mem_flatMap.1 hu
  exact encS_one u hx2
 ·intro v' w' h2 h3 h4
  refine h v' w' ?_ h3 h4
  unfold OwnS OwnR
  rw [List.length_append, List.flatMap_append]
  exact h2
theorem own_shapes {W : World} {B : Nat} {v : Value} {zs : List (Int × Int)} (h : OwnS W B v zs) (h0 : 0 < W.heap.size) (hl : zs.length < 1000000000000) : ShapesIn W v zs := by
 obtain ⟨ad, cap, rfl, h1, h2, h3, h4⟩ := h.form (fun _ => rfl)
 rcases Nat.eq_zero_or_pos zs.length with e | e
 ·have hz : zs = [] := List.eq_nil_of_length_eq_zero e
  subst hz
  exact ⟨ad, 0, 0, cap, rfl, ⟨fun h => by simp at h, h3⟩, h1, ⟨h2, hl⟩, h0, ShapesAt.none _ _ _ _⟩
 ·obtain ⟨g, rfl, h5, h6, h7⟩ := h4 e
  refine ⟨some ⟨g, 0, none⟩, g, 0, cap, rfl, ⟨fun _ => rfl, fun e => by cases e⟩, h1, ⟨h2, hl⟩, h6, ?_⟩
  unfold ShapesAt
  intro i hi
  have hx : zs[i]? = some zs[i] := List.getElem?_eq_getElem hi
  have e1 : zs.getD i (0, 0) = zs[i] := by simp [List.getD, hi]
  rw [e1]
  have k0 := h7 i 0 zs[i] (.int .i64 zs[i].1) hx rfl
  have k1 := h7 i 1 zs[i] (.int .i64 zs[i].2) hx rfl
  refine ⟨?_, ?_⟩
  ·rw [← k0]; congr 2; omega
  ·rw [← k1]; congr 2; omega
theorem shapesF_step {lf : Int → Option (Int × Int)} {zs : List Int} {f at_ : Nat} {acc : List (Int × Int)} (h : at_ < zs.length) : shapesF lf zs (f + 1) at_ acc =
   (if adE (zs.getD at_ 0) = 0 then
    (match lf (adV (zs.getD at_ 0)) with
    | none => acc
    | some sp => shapesF lf zs f (at_ + 1 + sp.1.toNat) (acc ++ [sp]))
   else if unE (zs.getD at_ 0) = 0 then shapesF lf zs f (at_ + 1 + (unS (zs.getD at_ 0)).toNat) acc else acc) := by
 exact if_pos h
theorem shapesF_end {lf : Int → Option (Int × Int)} {zs : List Int} {f at_ : Nat} {acc : List (Int × Int)} (h : ¬ at_ < zs.length) : shapesF lf zs (f + 1) at_ acc = acc := by
 exact if_neg h
theorem unS_in {x : Int} (h : unE x = 0) : 0 ≤ unS x ∧ unS x ≤ 255 := by
 have hu : unOk x = true := by
  rcases e : unOk x with _ | _
  ·simp [unE, e] at h
  ·rfl
 have h2 := hu
 simp only [unOk, Bool.and_eq_true] at h2
 obtain ⟨h3, h4, _⟩ := rightB_t h2.2
 simp only [unS, hu, if_true]
 exact ⟨h3, h4⟩
theorem below_ofO {A B : World} {n : Nat} {r : Option Nat} (hg : A.grownBy B r) (hn : n ≤ A.heap.size) (hr : ∀ k, r = some k → n ≤ k) : Below n A B :=
 ⟨hg.os, hg.tape, hg.output, hg.size, fun k hk => hg.block k (by omega) (fun e => by have := hr k e.symm; omega)⟩
theorem shapes_any (a : St w0 W p h v s ov) (u : Value) (zs : List Int) (hu : NumsIn W u zs) (hz : Small zs) :
  Calls Tryz.prog 110 #[.pointer (some ⟨p.b, 0, none⟩), u] W fun e w' => (∃ x, e = .returned x ∧ ShapesIn w' x (shapesA s.lf zs)) ∧ Below W.heap.size W w' := by
 obtain ⟨ad, b, off, cap, rfl, ⟨a1, a2⟩, a3, ⟨a4, a4'⟩, a5, a6⟩ := hu
 have A := Lib.hid a
 have HW := Lib.hid a6
 have HA1 := Lib.hid a1
 have HZ : Hid (∀ i, 0 ≤ zs.getD i 0 ∧ zs.getD i 0 < 18446744073709551616) := hz
 have hr := a.lr
 have HLR := Lib.hid hr
 have HSz : Hid (∀ W, (zeroValue 56).run Tryz.prog W = .ok (.agg #[.int .i64 0, .int .i64 0]) W) := Lib.hid fun W => by rw [Tryz.zeroValue56]
 have h0 : 0 < W.heap.size := by omega
 have HR : Hid (shapesA s.lf zs = shapesF s.lf zs (zs.length + 1) 0 []) := rfl
 generalize shapesA s.lf zs = R at *
 clear a a1 a2 a6 hz hr
 generalize hn : zs.length = n at *
 have HN := Lib.hid hn
 clear hn
 go_enter Tryz.func110, Tryz.ntmps110
 go_wp2_with fail
 go_loopw [6, 5] (fun i l wr => ∃ (at_ f : Nat) (acc : List (Int × Int)), at_ ≤ n + 256 ∧ i = .int .i64 at_ ∧ n < at_ + f ∧ acc.length ≤ at_ ∧ acc.length ≤ n ∧ Hid (R = shapesF s.lf zs f at_ acc) ∧ Hid (OwnS wr W.heap.size l acc) ∧ Hid (Below W.heap.size W wr)) (fun i _ _ => n - (intOf i).toNat)
 case atStart => exact ⟨0, n + 1, [], by omega, rfl, by omega, by simp, by simp, by have := HR.out; have h2 := HN.out; show _ = _; rw [this], OwnR.nil _ _, Below.refl _ _⟩
 case round =>
  obtain ⟨at_, f, acc, hat, rfl, hf, hal, han, hres, hown, hbr⟩ := hrel
  obtain ⟨va, vc, e5, q1, q2, q3, q4⟩ := hown.out.form (fun _ => rfl)
  subst e5
  clear q1 q2 q3 q4
  have hws := hbr.out.size
  by_cases hlt : at_ < n
  ·obtain ⟨f, rfl⟩ : ∃ f', f = f' + 1 := ⟨f - 1, by omega⟩
   obtain rfl := HA1.out (by omega)
   have hx := (HW.out.block (hbr.out.block b a5)).at at_ hlt
   have hzx := HZ.out at_
   have HS : Hid (R = (if adE (zs.getD at_ 0) = 0 then
    (match s.lf (adV (zs.getD at_ 0)) with
    | none => acc
    | some sp => shapesF s.lf zs f (at_ + 1 + sp.1.toNat) (acc ++ [sp]))
    else if unE (zs.getD at_ 0) = 0 then shapesF s.lf zs f (at_ + 1 + (unS (zs.getD at_ 0)).toNat) acc else acc)) := hres.out.trans (shapesF_step (by have := HN.out; omega))
   clear hres
   generalize zs.getD at_ 0 = x at *
   obtain ⟨hx1, hx2⟩ := hzx
   have hbw : b < wr.heap.size := by omega
   have hk := K64_of ⟨hx1, hx2⟩
   have HA : Hid (∀ W, Calls Tryz.prog 52 #[.int .u64 x] W fun e w' => e = .returned (.tuple #[.int .u64 (adV x), .int .i64 (adE x)]) ∧ W = w') := Lib.hid fun W => addr_any x W hx1 hx2
   have HU : Hid (∀ W, Calls Tryz.prog 124 #[.int .u64 x] W fun e w' => e = .returned (.tuple #[.agg #[.int .i64 (unS x), .int .i64 (unP x)], .int .i64 (unE x)]) ∧ Below W.heap.size W w') := Lib.hid fun W => unpack_any x W hx1 hx2
   have HUS : Hid (unE x = 0 → 0 ≤ unS x ∧ unS x ≤ 255) := unS_in
   generalize adV x = y at *
   generalize adE x = z at *
   generalize unS x = us at *
   generalize unP x = up at *
   generalize unE x = ue at *
   by_cases hz0 : z = 0
   ·subst hz0
    have HS2 : Hid (R = match s.lf y with | none => acc | some sp => shapesF s.lf zs f (at_ + 1 + sp.1.toNat) (acc ++ [sp])) := HS.out.trans (if_pos rfl)
    clear HS HU HUS
    obtain ⟨nl, hnl, hlm⟩ := (A.out.tr hbr.out).lm
    have hlm3 := hlm.tr ((Below.refl _ _).alloc (Nat.le_refl _) (.cells #[.int .i64 0, .int .i64 0] 56))
    have HLM := Lib.hid hlm3
    obtain ⟨lw, cw, fw⟩ := (A.out.tr hbr.out).blk.get
    have c22 : wr.cell? ⟨p.b, 22, none⟩ = some (.map (some p.bl)) := cw 22
    have hne : ¬ p.b = wr.heap.size := by omega
    clear hlm hlm3 hnl cw fw
    have HF : Hid (s.lf y = none ∧ lfV s.lf y = none ∨ ∃ sp, s.lf y = some sp ∧ lfV s.lf y = some (.agg #[.int .i64 sp.1, .int .i64 sp.2]) ∧ 0 ≤ sp.1 ∧ sp.1 ≤ 255) := by
     have := HLR.out y
     unfold lfV
     rcases hq : s.lf y with _ | q
     ·exact .inl ⟨rfl, rfl⟩
     ·exact .inr ⟨q, rfl, rfl, this q hq⟩
    have hz := HSz.out (wr.alloc (.cells #[.int .i64 0, .int .i64 0] 56))
    rcases HF.out with ⟨g1, g2⟩ | ⟨⟨sz, pt⟩, g1, g2, g3, g4⟩
    ·obtain rfl : R = acc := by rw [HS2.out, g1]
     go_wp2_with fail
     refine (HA.out _).mono ?_; rintro e ww ⟨rfl, rfl⟩
     go_wp2_with (at_lookup; refine wp_look_ok (n := nl) (b := p.bl) (k := 24) (f := lfV s.lf) _ rfl _ _ _ rfl 56 Tryz.underlying24 Tryz.underlying120 (.agg #[.int .i64 0, .int .i64 0]) hz rfl HLM.out y rfl hk ?_; rw [g2])
     go_ret
     refine ⟨⟨_, rfl, own_shapes (hown.out.tr ?_) ?_ ?_⟩, ?_⟩
     ·exact bm
     ·simp
     ·omega
     ·have := hbr.out
      exact bm
    ·have HS3 : Hid (R = shapesF s.lf zs f (at_ + 1 + sz.toNat) (acc ++ [(sz, pt)])) := by show _ = _; rw [HS2.out, g1]
     dsimp only at g2 g3 g4
     obtain ⟨SZ, rfl⟩ := Int.eq_ofNat_of_zero_le g3
     have HOB : Hid (∀ g, (Value.slice va acc.length vc).ownBlock = some g → W.heap.size ≤ g) := hown.out.block
     have HOL : Hid (∀ g, (Value.slice va acc.length vc).ownBlock = some g → g < wr.heap.size) := hown.out.lt
     have hml : acc.length < 8000000000000 := by omega
     generalize hm : acc.length = m at *
     have HM := Lib.hid hm
     clear hm
     go_wp2_with fail
     refine (HA.out _).mono ?_; rintro e ww ⟨rfl, rfl⟩
     go_wp2_with
      (first
       | (at_lookup; refine wp_look_ok (n := nl) (b := p.bl) (k := 24) (f := lfV s.lf) _ rfl _ _ _ rfl 56 Tryz.underlying24 Tryz.underlying120 (.agg #[.int .i64 0, .int .i64 0]) hz rfl HLM.out y rfl hk ?_; rw [g2])
       | (at_builtin; refine app_shape _ rfl _ _ rfl W.heap.size (.slice va m vc) (.slice (some ⟨wr.heap.size + 1 + 1, 0, none⟩) 1 1) acc ((SZ : Int), pt) rfl rfl (OwnR.tr hown.out ?c3) ?c4 ?c0 ?c1 ?c2))
     case c4 => exact one_g (α := Int × Int) (en := encS) _ ((SZ : Int), pt) #[.int .i64 SZ, .int .i64 pt] rfl _ (by simp)
     case c3 => exact bm
     case c0 => have := HM.out; omega
     case c1 => simp; omega
     case c2 =>
     intro v4 w4 ho4 hg4 hat4
     have hb4 : Hid (Below W.heap.size W w4) := Below.trans (by have := hbr.out; exact bm) (below_ofO hg4 (by simp; omega) HOB.out)
     have K7 : Blk w4 wr.heap.size #[.int .i64 SZ, .int .i64 pt] 56 := blk_row (((Blk.new wr _ _).alloc _).alloc _) hg4 (fun e => by have := HOL.out _ e; omega)
     have HO4 := Lib.hid ho4
     have HL4 : Hid ((acc ++ [((SZ : Int), pt)]).length = m + 1) := by show _ = _; rw [List.length_append, HM.out]; rfl
     clear ho4 hg4 hat4 HOB HOL
     obtain ⟨l7, c7, f7⟩ := K7.get
     go_wp2_with fail
     exact ⟨⟨at_ + 1 + SZ, f, acc ++ [((SZ : Int), pt)], by omega, by congr 1; omega, by omega, by have := HL4.out; omega, by have := HL4.out; omega, HS3.out, HO4.out, hb4.out⟩, by simp [intOf]; omega⟩
   ·have hzb : (z == 0) = false := beq_eq_false_iff_ne.mpr hz0
    have HS2 : Hid (R = if ue = 0 then shapesF s.lf zs f (at_ + 1 + us.toNat) acc else acc) := HS.out.trans (if_neg hz0)
    clear HS
    by_cases hu0 : ue = 0
    ·subst hu0
     obtain ⟨u1, u2⟩ := HUS.out rfl
     obtain ⟨US, rfl⟩ := Int.eq_ofNat_of_zero_le u1
     have HS3 : Hid (R = shapesF s.lf zs f (at_ + 1 + US) acc) := HS2.out.trans (if_pos rfl)
     clear HS2 HUS
     have K0 : Blk (wr.alloc (.cells #[.int .i64 0, .int .i64 0] 56)) wr.heap.size #[.int .i64 0, .int .i64 0] 56 := Blk.new _ _ _
     go_wp2_with fail
     refine (HA.out _).mono ?_; rintro e ww ⟨rfl, rfl⟩
     go_wp2_with fail
     refine (HU.out _).mono ?_; rintro e w3 ⟨rfl, k3⟩
     have K3 := K0.tr k3
     obtain ⟨l3, c3, f3⟩ := K3.get
     have ho3 : OwnS w3 W.heap.size (.slice va acc.length vc) acc := hown.out.tr (by exact bm)
     have hb3 : Hid (Below W.heap.size W w3) := Lib.hid (by have := hbr.out; exact bm)
     go_wp2_with fail
     refine ⟨⟨at_ + 1 + US, f, acc, by omega, by congr 1; omega, by omega, by omega, by omega, HS3.out, ?_, ?_⟩, by simp [intOf]; omega⟩
     ·show OwnR _ _ _ _ _ _ _
      exact hown.out.tr (by exact bm)
     ·show Below _ _ _
      have := hb3.out
      exact bm
    ·have hub : (ue == 0) = false := beq_eq_false_iff_ne.mpr hu0
     obtain rfl : R = acc := HS2.out.trans (if_neg hu0)
     have K0 : Blk (wr.alloc (.cells #[.int .i64 0, .int .i64 0] 56)) wr.heap.size #[.int .i64 0, .int .i64 0] 56 := Blk.new _ _ _
     go_wp2_with fail
     refine (HA.out _).mono ?_; rintro e ww ⟨rfl, rfl⟩
     go_wp2_with fail
     refine (HU.out _).mono ?_; rintro e w3 ⟨rfl, k3⟩
     have K3 := K0.tr k3
     obtain ⟨l3, c3, f3⟩ := K3.get
     go_wp2_with fail
     go_ret
     refine ⟨⟨_, rfl, own_shapes (hown.out.tr ?_) ?_ ?_⟩, ?_⟩
     ·exact bm
     ·have := k3.size
      simp at this ⊢
      omega
     ·omega
     ·have := hbr.out
      exact bm
  ·have HS2 : Hid (R = acc) := by
    rcases f with _ | f
    ·exact hres.out
    ·exact hres.out.trans (shapesF_end (by have := HN.out; omega))
   obtain rfl : R = acc := HS2.out
   go_wp2_with fail
   go_ret
   refine ⟨⟨_, rfl, own_shapes hown.out ?_ ?_⟩, ?_⟩
   ·omega
   ·omega
   ·have := hbr.out
    exact bm
end Go.Proofs.YtpgjploaliefdaaGreat.ck
namespace Go.Proofs.YtpgjploaliefdaaGreat.ck
open Go Go.RowKit hp ob hd cp mp cm gr
set_option linter.unusedVariables false
set_option linter.unusedSimpArgs false
set_option maxRecDepth 100000
set_option maxHeartbeats 2000000
variable {w0 w W : World} {p : Pl} {h : Hp} {v : Hv} {s : Fnd} {ov : Ov}
def totF (s : Fnd) : Nat := s.o1.length + s.o2.length + s.o3.length + s.o4.length
theorem obs_gr {W w : World} {B : Nat} {v : Value} {l : List Ob} {r : Option Nat} (h : ObsAt W B v l) (hg : W.grownBy w r) (hr : ∀ k, r = some k → k < B) : ObsAt w B v l := by
 refine World.ownsRow.kept h hg ?_
 rcases hv : v.ownBlock with _ | k
 ·exact .inl rfl
 ·refine .inr fun e => ?_
  have h1 : B ≤ k := by
   rcases h.2 with ⟨rfl, _⟩ | ⟨g, cap, cur, rfl, h2, _⟩
   ·cases hv
   ·cases hv
    exact h2
  have := hr k e.symm
  omega
theorem St.pmSet {n : Nat} {f : Int → Option Int} (a : St w0 W p h v s ov) (hg : W.grownBy w (some p.bp)) (hn : n ≤ totF s) (hm : MapIs Tryz.prog 24 w p.bp n (pfV f)) (hr : ∀ a q, f a = some q → 1 ≤ q ∧ q ≤ 4) : St w0 w p h v { s with pf := f } ov := by
 have hb := a.ok.p1
 obtain ⟨n2, h2, m2⟩ := a.lm
 exact ⟨a.hin, a.bel.trans (below_of hg a.bel.size a.ok.p0), a.ok, Nat.le_trans a.B hg.size, blk_row a.blk hg (fun e => a.ok.bp (Option.some.inj e).symm),
  obs_gr a.o1 hg (fun k e => by cases e; exact hb), obs_gr a.o2 hg (fun k e => by cases e; exact hb), obs_gr a.o3 hg (fun k e => by cases e; exact hb), obs_gr a.o4 hg (fun k e => by cases e; exact hb),
  ⟨n, hn, hm⟩, ⟨n2, h2, m2.kept hg (fun e => a.ok.pl (Option.some.inj e).symm)⟩, a.f1, a.f2, a.f3, a.f4, hr, a.lr⟩
theorem St.lmSet {n : Nat} {f : Int → Option (Int × Int)} (a : St w0 W p h v s ov) (hg : W.grownBy w (some p.bl)) (hn : n ≤ s.o1.length) (hm : MapIs Tryz.prog 24 w p.bl n (lfV f)) (hr : ∀ a q, f a = some q → 0 ≤ q.1 ∧ q.1 ≤ 255) : St w0 w p h v { s with lf := f } ov := by
 have hb := a.ok.l1
 obtain ⟨n2, h2, m2⟩ := a.pm
 exact ⟨a.hin, a.bel.trans (below_of hg a.bel.size a.ok.l0), a.ok, Nat.le_trans a.B hg.size, blk_row a.blk hg (fun e => a.ok.bl (Option.some.inj e).symm),
  obs_gr a.o1 hg (fun k e => by cases e; exact hb), obs_gr a.o2 hg (fun k e => by cases e; exact hb), obs_gr a.o3 hg (fun k e => by cases e; exact hb), obs_gr a.o4 hg (fun k e => by cases e; exact hb),
  ⟨n2, h2, m2.kept hg (fun e => a.ok.pl (Option.some.inj e))⟩, ⟨n, hn, hm⟩, a.f1, a.f2, a.f3, a.f4, a.rg, hr⟩
def Ov.put (ov : Ov) (q : Nat) (u : Value) : Ov := ⟨if q = 1 then u else ov.a, if q = 2 then u else ov.b, if q = 3 then u else ov.c, if q = 4 then u else ov.d⟩
def putF (s : Fnd) (q : Nat) (l : List Ob) : Fnd := { s with o1 := if q = 1 then l else s.o1, o2 := if q = 2 then l else s.o2, o3 := if q = 3 then l else s.o3, o4 := if q = 4 then l else s.o4 }
theorem grown_cell (W : World) (a : Addr) (v : Value) : W.grownBy (W.setCell a v) (some a.block) :=
 ⟨by simp [World.setCell], by simp [World.setCell], by simp [World.setCell], by simp, fun k hk hne => Below.heap_setCell W a v k (fun e => hne (by rw [e]))⟩
theorem st_put (h : Hp) (v : Hv) (ov : Ov) (bp bl q : Nat) (u : Value) (hq : 1 ≤ q ∧ q ≤ 4) : (stCells h v ov bp bl).setIfInBounds (17 + (q - 1)) u = stCells h v (ov.put q u) bp bl := by
 rcases (show q = 1 ∨ q = 2 ∨ q = 3 ∨ q = 4 by omega) with rfl | rfl | rfl | rfl <;> rfl
theorem St.obSet (a : St w0 W p h v s ov) {q : Nat} (hq : 1 ≤ q ∧ q ≤ 4) {u : Value} {l : List Ob} (hu : ObsAt W p.B u l) (hf : (∀ o ∈ l, FitB (h.part q).length o) ∧ l.length ≤ (h.part q).length) (he : s.obs q = []) :
  St w0 (W.setCell ⟨p.b, 17 + (q - 1), none⟩ u) p h v (putF s q l) (ov.put q u) := by
 have hg := grown_cell W ⟨p.b, 17 + (q - 1), none⟩ u
 have hb := a.ok.b1
 obtain ⟨n1, h1, m1⟩ := a.pm
 obtain ⟨n2, h2, m2⟩ := a.lm
 have hk : ∀ {x : Value} {xs : List Ob}, ObsAt W p.B x xs → ObsAt (W.setCell ⟨p.b, 17 + (q - 1), none⟩ u) p.B x xs := fun hx => obs_gr hx hg (fun k e => by cases e; exact hb)
 refine ⟨a.hin, a.bel.trans (below_of hg a.bel.size a.ok.b0), a.ok, Nat.le_trans a.B hg.size, ?_, ?_, ?_, ?_, ?_, ⟨n1, ?_, m1.kept hg (fun e => a.ok.bp (Option.some.inj e).symm)⟩, ⟨n2, ?_, m2.kept hg (fun e => a.ok.bl (Option.some.inj e).symm)⟩, ?_, ?_, ?_, ?_, a.rg, a.lr⟩
 ·have := a.blk.set (17 + (q - 1)) u
  rw [st_put h v ov p.bp p.bl q u hq] at this
  exact this
 all_goals rcases (show q = 1 ∨ q = 2 ∨ q = 3 ∨ q = 4 by omega) with rfl | rfl | rfl | rfl
 all_goals first | exact hk hu | exact hk a.o1 | exact hk a.o2 | exact hk a.o3 | exact hk a.o4 | exact hf | exact a.f1 | exact a.f2 | exact a.f3 | exact a.f4 | skip
 all_goals first
  | (have he1 : s.o1 = [] := he; simp [putF, he1] at h1 h2 ⊢; omega)
  | (have he1 : s.o2 = [] := he; simp [putF, he1] at h1 h2 ⊢; omega)
  | (have he1 : s.o3 = [] := he; simp [putF, he1] at h1 h2 ⊢; omega)
  | (have he1 : s.o4 = [] := he; simp [putF, he1] at h1 h2 ⊢; omega)
theorem cell_gr {a : Addr} {r : Nat} {x : Value} (hg : W.grownBy w (some r)) (h : W.cell? a = some x) (hr : a.block ≠ r) : w.cell? a = some x := by
 have hlt : a.block < W.heap.size := by
  rcases Nat.lt_or_ge a.block W.heap.size with h1 | h1
  ·exact h1
  ·simp [World.cell?, Array.getElem?_eq_none h1] at h
 rw [← h]
 simp only [World.cell?, hg.block a.block hlt (fun e => hr (Option.some.inj e))]
theorem step_store {P : Program} {k : TypeId} {b n : Nat} {f : Int → Option Value} {ops : Array Oper} {o : Oper} {a : Act} {Q : Exit → Act → World → Prop} {w : World} {K : Act → World → Prop} {E : Prop} (hg : o.guard = none) (m x v : Operand) (t : TypeId) (hop : o.op = Op.mapUpdate t m x v)
  (e : TypeId) (hk : P.underlying k = some (.int .u64)) (ht : P.underlying t = some (.map k e))
  (hm : a.eval m = .map (some b)) (hown : MapIs P k w b n f) (hn : n < maxLen) (y : Int) (hx : a.eval x = .int .u64 y) (hy : K64 y) (u : Value) (hv : a.eval v = u)
  (hK : ∀ w', MapIs P k w' b (if (f y).isSome then n else n + 1) (upd f y u) → w.grownBy w' (some b) → K (a.put o.dst undef) w') :
  if Region.wanted o (yielded ops a.tmps) = true then Oper.wp P o a w K Q else E := by
 have hw : Region.wanted o (yielded ops a.tmps) = true := by simp [Region.wanted, hg]
 rw [if_pos hw]
 obtain ⟨D, h1, h2, h3⟩ := hown
 obtain ⟨w', hrun, g1, g2⟩ := h1.update (Maps.int_keyed hk) ht hn (val := u) (d := .held u) (ps := []) (Maps.keyOf_int_mk hk (wf64 hy)) rfl
 unfold Oper.wp execOp
 simp only [hop, hm, hx, hv, Sem.run_bind, hrun, Result.andThen_ok, Sem.run_pure]
 refine hK w' ?_ g2
 have hks : WideAt.IsKeyLit (.int .u64 y) := trivial
 have hs := Maps.size_put (k := .int .u64 y) (h1.tidy (Maps.int_keyed hk)) (.held u)
 rw [(h3 y hy).1, h2] at hs
 refine ⟨_, ?_, hs, fun c hc => ?_⟩
 ·rw [← hs]
  exact exact_n g1
 ·unfold upd
  by_cases e2 : c = y
  ·subst e2
   rw [if_pos rfl]
   exact ⟨Maps.has_put_same h1.isMap hks (.held u), fun z => Maps.atKey_put_same h1.isMap hks (.held u) _⟩
  ·rw [if_neg e2]
   have e3 : (Lit.int .u64 c) ≠ .int .u64 y := fun e => e2 (by cases e; rfl)
   rw [Maps.has_put_other e3, (h3 c hc).1]
   exact ⟨rfl, fun z => by rw [Maps.atKey_put_other e3, (h3 c hc).2 z]⟩
end Go.Proofs.YtpgjploaliefdaaGreat.ck
