/- check.look, Right, Objects. No conditions. -/
import Derived.Test.YtpgjploaliefdaaGreatDg
import Derived.Test.YtpgjploaliefdaaGreatDa
import Derived.Test.YtpgjploaliefdaaGreatG09
namespace Go.Proofs.YtpgjploaliefdaaGreat.ck
open Go Go.RowKit hp ob hd cp mp cm gr
set_option linter.unusedVariables false
set_option linter.unusedSimpArgs false
set_option maxRecDepth 100000
set_option maxHeartbeats 4000000
variable {w0 w W : World} {p : Pl} {h : Hp} {v : Hv} {s : Fnd} {ov : Ov}
def ovN : Ov := ⟨.slice none 0 0, .slice none 0 0, .slice none 0 0, .slice none 0 0⟩
theorem St.start (hin : HIn w h v) (b bp bl : Nat) (hb : Below w.heap.size w W) (K : Blk W b (stCells h v ovN bp bl) 122) (m1 : MapIs Tryz.prog 24 W bp 0 (fun _ => none)) (m2 : MapIs Tryz.prog 24 W bl 0 (fun _ => none)) (h1 : w.heap.size ≤ b) (h2 : w.heap.size ≤ bp) (h3 : w.heap.size ≤ bl) (n1 : b ≠ bp) (n2 : b ≠ bl) (n3 : bp ≠ bl) :
  ∃ p : Pl, (Value.pointer (some ⟨b, 0, none⟩)) = .pointer (some ⟨p.b, 0, none⟩) ∧ St w W p h v Fnd.nil ovN :=
 ⟨⟨b, bp, bl, W.heap.size⟩, rfl, hin, hb, ⟨h1, h2, h3, K.lt, m1.lt, m2.lt, n1, n2, n3⟩, Nat.le_refl _, K, World.ownsRow_nil _ _ _ _, World.ownsRow_nil _ _ _ _, World.ownsRow_nil _ _ _ _, World.ownsRow_nil _ _ _ _, ⟨0, Nat.zero_le _, m1⟩, ⟨0, Nat.zero_le _, m2⟩, ⟨(fun o ho => by cases ho), Nat.zero_le _⟩, ⟨(fun o ho => by cases ho), Nat.zero_le _⟩, ⟨(fun o ho => by cases ho), Nat.zero_le _⟩, ⟨(fun o ho => by cases ho), Nat.zero_le _⟩, (fun a q e => by cases (e : none = some q)), (fun a q e => by cases (e : none = some q))⟩
theorem MapIs_al {P : Program} {k : TypeId} {W : World} {b n : Nat} {f : Int → Option Value} (h : MapIs P k W b n f) (o : Obj) : MapIs P k (W.alloc o) b n f := h.tr ((Below.refl _ _).alloc (Nat.le_refl _) _)
theorem MapIs_dr {P : Program} {k : TypeId} {W : World} {b n : Nat} {f : Int → Option Value} (h : MapIs P k W b n f) : MapIs P k W.drew b n f := h.tr (Below.refl _ _).drew
theorem MapIs_new {P : Program} {k : TypeId} {W : World} {b : Nat} (h : b = W.heap.size) : MapIs P k (W.alloc (.map #[] 0)) b 0 (fun _ => none) := by subst h; exact MapIs.made W
def fnV (k : Nat) : Value := .func (.func k) #[] #[]
theorem rules_any (w : World) : Calls Tryz.prog 79 #[] w fun e w' => e = .returned (.slice (some ⟨w.heap.size, 0, none⟩) 8 8) ∧ w' = w.alloc (.cells #[.func (.func 94) #[] #[], .func (.func 95) #[] #[], .func (.func 96) #[] #[], .func (.func 97) #[] #[], .func (.func 98) #[] #[], .func (.func 99) #[] #[], .func (.func 100) #[] #[], .func (.func 101) #[] #[]] 144) := by
 go_enter Tryz.func79, Tryz.ntmps79
 go_wp2_with fail
 go_ret
 exact ⟨rfl, rfl⟩
theorem store_fn (P : Program) (w : World) (a : Addr) (fn : Fn) (first captured : Array Value) (m : Mode) : (store a (.func fn first captured) m).run P w = stored P w a (.func fn first captured) m := run_store P w a _ m rfl
def LookPost (w : World) (h : Hp) (v : Hv) (e : Ending) (w' : World) : Prop :=
 (lookF h = none ∧ e = .returned (.tuple #[.pointer none, .bool false]) ∧ Below w.heap.size w w') ∨
 (∃ p s ov, lookF h = some s ∧ e = .returned (.tuple #[.pointer (some ⟨p.b, 0, none⟩), .bool true]) ∧ St w w' p h v s ov)
theorem look_any (h : Hp) (v : Hv) (w : World) (hin : HIn w h v) : Calls Tryz.prog 54 #[hpV h v] w fun e w' => LookPost w h v e w' := by
 have HIN := Lib.hid hin
 have HL : Hid (∀ W, HIn W h v → Calls Tryz.prog 78 #[hpV h v] W fun e w' => e = .returned (layV h.lay) ∧ Below W.heap.size W w') := Lib.hid fun W hin => layout_any h v W hin
 obtain ⟨la, lc, e1⟩ := nums_form hin.low
 obtain ⟨ha, hc, e2⟩ := nums_form hin.high
 obtain ⟨oa, oc, e3⟩ := nums_form hin.old
 obtain ⟨fa, fc, e4⟩ := nums_form hin.far
 obtain ⟨ra, rc, e5⟩ := nums_form hin.roots
 obtain ⟨vl, vh, vo, vf, vr⟩ := v
 dsimp only at e1 e2 e3 e4 e5
 subst e1 e2 e3 e4 e5
 have hmm := @run_makeMap Tryz.prog
 clear hin
 unfold hpV layV Hp.lay at *
 dsimp only at *
 have K0 : Blk (w.alloc (.cells #[.int .u64 h.base, .int .i64 h.cap, .int .i64 h.tt, .bool h.cyc, .int .i64 h.scan, .slice la h.low.length lc, .slice ha h.high.length hc, .slice oa h.old.length oc, .slice fa h.far.length fc, .slice ra h.roots.length rc] 32)) w.heap.size #[.int .u64 h.base, .int .i64 h.cap, .int .i64 h.tt, .bool h.cyc, .int .i64 h.scan, .slice la h.low.length lc, .slice ha h.high.length hc, .slice oa h.old.length oc, .slice fa h.far.length fc, .slice ra h.roots.length rc] 32 := Blk.new _ _ _
 have kW : Below w.heap.size w (w.alloc (.cells #[.int .u64 h.base, .int .i64 h.cap, .int .i64 h.tt, .bool h.cyc, .int .i64 h.scan, .slice la h.low.length lc, .slice ha h.high.length hc, .slice oa h.old.length oc, .slice fa h.far.length fc, .slice ra h.roots.length rc] 32)) := by exact bm
 go_enter Tryz.func54, Tryz.ntmps54
 go_upto_region 1 with (fail)
 generalize w.alloc (.cells #[.int .u64 h.base, .int .i64 h.cap, .int .i64 h.tt, .bool h.cyc, .int .i64 h.scan, .slice la h.low.length lc, .slice ha h.high.length hc, .slice oa h.old.length oc, .slice fa h.far.length fc, .slice ra h.roots.length rc] 32) = W1 at *
 obtain ⟨l0, c0, f0⟩ := K0.get
 have hcc : W1.cell? ⟨w.heap.size, 0, none⟩ = some (.int .u64 h.base) ∧ W1.cell? ⟨w.heap.size, 1, none⟩ = some (.int .i64 h.cap) ∧ W1.cell? ⟨w.heap.size, 2, none⟩ = some (.int .i64 h.tt) ∧ W1.cell? ⟨w.heap.size, 3, none⟩ = some (.bool h.cyc) ∧ W1.cell? ⟨w.heap.size, 4, none⟩ = some (.int .i64 h.scan) ∧ W1.cell? ⟨w.heap.size, 5, none⟩ = some (.slice la h.low.length lc) ∧ W1.cell? ⟨w.heap.size, 6, none⟩ = some (.slice ha h.high.length hc) ∧ W1.cell? ⟨w.heap.size, 7, none⟩ = some (.slice oa h.old.length oc) ∧ W1.cell? ⟨w.heap.size, 8, none⟩ = some (.slice fa h.far.length fc) ∧ W1.cell? ⟨w.heap.size, 9, none⟩ = some (.slice ra h.roots.length rc) :=
  ⟨c0 0, c0 1, c0 2, c0 3, c0 4, c0 5, c0 6, c0 7, c0 8, c0 9⟩
 clear c0 f0
 go_cut [4] (fun x wx => ∃ p : Pl, x = .pointer (some ⟨p.b, 0, none⟩) ∧ St w wx p h ⟨.slice la h.low.length lc, .slice ha h.high.length hc, .slice oa h.old.length oc, .slice fa h.far.length fc, .slice ra h.roots.length rc⟩ Fnd.nil ovN)
 case first =>
  go_wp2_with fail
  go_region_held3 (fun w' => w'.cell? ⟨w.heap.size, 0, none⟩ = some (.int .u64 h.base) ∧ w'.cell? ⟨w.heap.size, 1, none⟩ = some (.int .i64 h.cap) ∧ w'.cell? ⟨w.heap.size, 2, none⟩ = some (.int .i64 h.tt) ∧ w'.cell? ⟨w.heap.size, 3, none⟩ = some (.bool h.cyc) ∧ w'.cell? ⟨w.heap.size, 4, none⟩ = some (.int .i64 h.scan) ∧ w'.cell? ⟨w.heap.size, 5, none⟩ = some (.slice la h.low.length lc) ∧ w'.cell? ⟨w.heap.size, 6, none⟩ = some (.slice ha h.high.length hc) ∧ w'.cell? ⟨w.heap.size, 7, none⟩ = some (.slice oa h.old.length oc) ∧ w'.cell? ⟨w.heap.size, 8, none⟩ = some (.slice fa h.far.length fc) ∧ w'.cell? ⟨w.heap.size, 9, none⟩ = some (.slice ra h.roots.length rc))
   ((refine sb_tr (W := W1) ?_ l0 hcc; exact bm))
   (first
    | (go_at_call 78; refine (HL.out _ (HIN.out.tr (by exact bm))).mono ?_; rintro e w2 ⟨rfl, k2⟩))
  all_goals
   first | go_meet | (go_wp2_with fail; go_meet)
   have hs2 := k2.size
   simp at hs2
   refine St.start HIN.out _ _ _ (by exact bm) (Blk.mk (by simp)) ?_ ?_ ?_ ?_ ?_ ?_ ?_ ?_
  all_goals first
   | omega
   | (repeat (first | (refine MapIs_new ?_; (simp; done)) | with_reducible refine MapIs_al ?_ _ | with_reducible refine MapIs_dr ?_ | with_reducible refine MapIs.tr ?_ k2))
 case rest =>
 obtain ⟨p, rfl, hst⟩ := hcut
 clear hcc K0 kW l0
 generalize hvv : (⟨.slice la h.low.length lc, .slice ha h.high.length hc, .slice oa h.old.length oc, .slice fa h.far.length fc, .slice ra h.roots.length rc⟩ : Hv) = v at *
 have HS0 := Lib.hid hst
 have HVV := Lib.hid hvv
 clear hst hvv
 go_wp2_with fail
 refine (rules_any _).mono ?_; rintro e w3 ⟨rfl, rfl⟩
 have KR := Lib.hid (Blk.new wc #[.func (.func 94) #[] #[], .func (.func 95) #[] #[], .func (.func 96) #[] #[], .func (.func 97) #[] #[], .func (.func 98) #[] #[], .func (.func 99) #[] #[], .func (.func 100) #[] #[], .func (.func 101) #[] #[]] 144)
 have HS1 := Lib.hid (HS0.out.alloc (.cells #[.func (.func 94) #[] #[], .func (.func 95) #[] #[], .func (.func 96) #[] #[], .func (.func 97) #[] #[], .func (.func 98) #[] #[], .func (.func 99) #[] #[], .func (.func 100) #[] #[], .func (.func 101) #[] #[]] 144))
 have hpr : p.B ≤ wc.heap.size := HS0.out.B
 go_wp2_with fail
 generalize wc.heap.size = rb at *
 clear HS0
 go_loopw [16] (fun i wr => ∃ (k : Nat) (s : Fnd) (ov : Ov), k ≤ 8 ∧ i = .int .i64 k ∧ Hid (looks h k = some s) ∧ Hid (St w wr p h v s ov) ∧ Hid (Blk wr rb #[.func (.func 94) #[] #[], .func (.func 95) #[] #[], .func (.func 96) #[] #[], .func (.func 97) #[] #[], .func (.func 98) #[] #[], .func (.func 99) #[] #[], .func (.func 100) #[] #[], .func (.func 101) #[] #[]] 144)) (fun i _ => 9 - (intOf i).toNat)
 case atStart => exact ⟨0, _, _, by omega, rfl, rfl, HS1.out, KR.out⟩
 case round =>
  obtain ⟨k, s, ov, hk, rfl, hlk, hst, hkr⟩ := hrel
  clear HS1 KR
  obtain ⟨lr, cr, fr⟩ := hkr.out.get
  have hsf := store_fn Tryz.prog
  rcases (show k = 0 ∨ k = 1 ∨ k = 2 ∨ k = 3 ∨ k = 4 ∨ k = 5 ∨ k = 6 ∨ k = 7 ∨ k = 8 by omega) with rfl | rfl | rfl | rfl | rfl | rfl | rfl | rfl | rfl
  ·skip
   have HE : Hid (looks h (0 + 1) = if boundedB h then some s else none) := by
    show (looks h 0).bind _ = _
    rw [hlk.out]; rfl
   go_wp2_with fail
   refine (bounded_any (hst.out.alloc _)).mono ?_; rintro e w3 ⟨rfl, k3⟩
   have hs3 := Lib.hid ((hst.out.alloc _).tr k3)
   have hkr3 := Lib.hid ((hkr.out.alloc _).tr k3)
   clear hst hkr lr cr fr k3
   generalize boundedB h = bb at *
   rcases bb with _ | _
   ·have HE2 : Hid (lookF h = none) := looks_none (k := 0 + 1) HE.out (by decide)
    go_wp2_with fail
    go_ret2
    exact .inl ⟨HE2.out, rfl, hs3.out.bel⟩
   ·go_wp2_with fail
    exact ⟨⟨0 + 1, s, ov, by decide, by go_num, HE.out, hs3.out, hkr3.out⟩, by simp [intOf]⟩
  ·skip
   have HE : Hid (looks h (1 + 1) = if restingB h then some s else none) := by
    show (looks h 1).bind _ = _
    rw [hlk.out]; rfl
   go_wp2_with fail
   refine (resting_any (hst.out.alloc _)).mono ?_; rintro e w3 ⟨rfl, k3⟩
   have hs3 := Lib.hid ((hst.out.alloc _).tr k3)
   have hkr3 := Lib.hid ((hkr.out.alloc _).tr k3)
   clear hst hkr lr cr fr k3
   generalize restingB h = bb at *
   rcases bb with _ | _
   ·have HE2 : Hid (lookF h = none) := looks_none (k := 1 + 1) HE.out (by decide)
    go_wp2_with fail
    go_ret2
    exact .inl ⟨HE2.out, rfl, hs3.out.bel⟩
   ·go_wp2_with fail
    exact ⟨⟨1 + 1, s, ov, by decide, by go_num, HE.out, hs3.out, hkr3.out⟩, by simp [intOf]⟩
  ·obtain ⟨hs0, hlr⟩ := looks_two hlk.out
   subst hs0
   go_wp2_with fail
   refine (walked_any (hst.out.alloc _) hlr).mono ?_
   rintro e w3 (⟨hn, rfl, hb⟩ | ⟨s', ov', hn, rfl, hs3, k3⟩)
   ·have HE : Hid (lookF h = none) := looks_none (k := 3) (by
     show (looks h 2).bind _ = _
     rw [hlk.out]
     exact hn) (by decide)
    go_wp2_with fail
    go_ret2
    exact .inl ⟨HE.out, rfl, hb⟩
   ·have HE : Hid (looks h 3 = some s') := by
     show (looks h 2).bind _ = _
     rw [hlk.out]
     exact hn
    have hs4 := Lib.hid hs3
    have hkr3 := Lib.hid (k3.blk (hkr.out.alloc _) (by have := hst.out.ok.b1; omega) (by have := hst.out.ok.p1; omega) (by have := hst.out.ok.l1; omega))
    clear hs3 k3 hst hkr lr cr fr
    go_wp2_with fail
    exact ⟨⟨3, s', ov', by decide, by go_num, HE.out, hs4.out, hkr3.out⟩, by simp [intOf]⟩
  ·have HF := found_of (looks_found (k := 0) hlk.out)
   obtain ⟨j3, e3⟩ := HF.o3
   obtain ⟨j4, e4⟩ := HF.o4
   have T3 := Lib.hid (show TgB s.o3 from oldF_tg HIN.out.sold e3)
   have T4 := Lib.hid (show TgB s.o4 from oldF_tg HIN.out.sfar e4)
   clear HF e3 e4
   have HE : Hid (looks h (3 + 1) = if copiedB h s then some s else none) := by
    show (looks h 3).bind _ = _
    rw [hlk.out]; rfl
   go_wp2_with fail
   refine (copied_any (hst.out.alloc _) T3.out T4.out).mono ?_; rintro e w3 ⟨rfl, k3⟩
   have hs3 := Lib.hid ((hst.out.alloc _).tr k3)
   have hkr3 := Lib.hid ((hkr.out.alloc _).tr k3)
   clear hst hkr lr cr fr k3
   generalize copiedB h s = bb at *
   rcases bb with _ | _
   ·have HE2 : Hid (lookF h = none) := looks_none (k := 3 + 1) HE.out (by decide)
    go_wp2_with fail
    go_ret2
    exact .inl ⟨HE2.out, rfl, hs3.out.bel⟩
   ·go_wp2_with fail
    exact ⟨⟨3 + 1, s, ov, by decide, by go_num, HE.out, hs3.out, hkr3.out⟩, by simp [intOf]⟩
  ·skip
   have HE : Hid (looks h (4 + 1) = if settledB h s then some s else none) := by
    show (looks h 4).bind _ = _
    rw [hlk.out]; rfl
   go_wp2_with fail
   refine (settled_any (hst.out.alloc _)).mono ?_; rintro e w3 ⟨rfl, k3⟩
   have hs3 := Lib.hid ((hst.out.alloc _).tr k3)
   have hkr3 := Lib.hid ((hkr.out.alloc _).tr k3)
   clear hst hkr lr cr fr k3
   generalize settledB h s = bb at *
   rcases bb with _ | _
   ·have HE2 : Hid (lookF h = none) := looks_none (k := 4 + 1) HE.out (by decide)
    go_wp2_with fail
    go_ret2
    exact .inl ⟨HE2.out, rfl, hs3.out.bel⟩
   ·go_wp2_with fail
    exact ⟨⟨4 + 1, s, ov, by decide, by go_num, HE.out, hs3.out, hkr3.out⟩, by simp [intOf]⟩
  ·skip
   have HE : Hid (looks h (5 + 1) = if unscannedB h s then some s else none) := by
    show (looks h 5).bind _ = _
    rw [hlk.out]; rfl
   go_wp2_with fail
   refine (unscanned_any (hst.out.alloc _)).mono ?_; rintro e w3 ⟨rfl, k3⟩
   have hs3 := Lib.hid ((hst.out.alloc _).tr k3)
   have hkr3 := Lib.hid ((hkr.out.alloc _).tr k3)
   clear hst hkr lr cr fr k3
   generalize unscannedB h s = bb at *
   rcases bb with _ | _
   ·have HE2 : Hid (lookF h = none) := looks_none (k := 5 + 1) HE.out (by decide)
    go_wp2_with fail
    go_ret2
    exact .inl ⟨HE2.out, rfl, hs3.out.bel⟩
   ·go_wp2_with fail
    exact ⟨⟨5 + 1, s, ov, by decide, by go_num, HE.out, hs3.out, hkr3.out⟩, by simp [intOf]⟩
  ·skip
   have HE : Hid (looks h (6 + 1) = if leftB h s then some s else none) := by
    show (looks h 6).bind _ = _
    rw [hlk.out]; rfl
   go_wp2_with fail
   refine (left_any (hst.out.alloc _)).mono ?_; rintro e w3 ⟨rfl, k3⟩
   have hs3 := Lib.hid ((hst.out.alloc _).tr k3)
   have hkr3 := Lib.hid ((hkr.out.alloc _).tr k3)
   clear hst hkr lr cr fr k3
   generalize leftB h s = bb at *
   rcases bb with _ | _
   ·have HE2 : Hid (lookF h = none) := looks_none (k := 6 + 1) HE.out (by decide)
    go_wp2_with fail
    go_ret2
    exact .inl ⟨HE2.out, rfl, hs3.out.bel⟩
   ·go_wp2_with fail
    exact ⟨⟨6 + 1, s, ov, by decide, by go_num, HE.out, hs3.out, hkr3.out⟩, by simp [intOf]⟩
  ·skip
   have HE : Hid (looks h (7 + 1) = if roomyB h s then some s else none) := by
    show (looks h 7).bind _ = _
    rw [hlk.out]; rfl
   go_wp2_with fail
   refine (roomy_any (hst.out.alloc _)).mono ?_; rintro e w3 ⟨rfl, k3⟩
   have hs3 := Lib.hid ((hst.out.alloc _).tr k3)
   have hkr3 := Lib.hid ((hkr.out.alloc _).tr k3)
   clear hst hkr lr cr fr k3
   generalize roomyB h s = bb at *
   rcases bb with _ | _
   ·have HE2 : Hid (lookF h = none) := looks_none (k := 7 + 1) HE.out (by decide)
    go_wp2_with fail
    go_ret2
    exact .inl ⟨HE2.out, rfl, hs3.out.bel⟩
   ·go_wp2_with fail
    exact ⟨⟨7 + 1, s, ov, by decide, by go_num, HE.out, hs3.out, hkr3.out⟩, by simp [intOf]⟩
  ·go_wp2_with fail
   go_ret2
   exact .inr ⟨p, s, ov, hlk.out, rfl, by rw [HVV.out]; exact hst.out⟩
end Go.Proofs.YtpgjploaliefdaaGreat.ck
namespace Go.Proofs.YtpgjploaliefdaaGreat.ck
open Go Go.RowKit hp ob hd cp mp cm gr
set_option linter.unusedVariables false
set_option linter.unusedSimpArgs false
set_option maxRecDepth 100000
set_option maxHeartbeats 4000000
variable {w0 w W : World} {p : Pl} {h : Hp} {v : Hv} {s : Fnd} {ov : Ov}
theorem right_any (h : Hp) (v : Hv) (w : World) (hin : HIn w h v) : Calls Tryz.prog 19 #[hpV h v] w fun e w' => e = .returned (.bool (lookF h).isSome) ∧ Below w.heap.size w w' := by
 have HL : Hid (∀ W, HIn W h v → Calls Tryz.prog 54 #[hpV h v] W fun e w' => LookPost W h v e w') := Lib.hid fun W hin => look_any h v W hin
 have HIN := Lib.hid hin
 obtain ⟨la, lc, e1⟩ := nums_form hin.low
 obtain ⟨ha, hc, e2⟩ := nums_form hin.high
 obtain ⟨oa, oc, e3⟩ := nums_form hin.old
 obtain ⟨fa, fc, e4⟩ := nums_form hin.far
 obtain ⟨ra, rc, e5⟩ := nums_form hin.roots
 clear hin
 obtain ⟨vl, vh, vo, vf, vr⟩ := v
 dsimp only at e1 e2 e3 e4 e5
 subst e1 e2 e3 e4 e5
 unfold hpV at *
 dsimp only at *
 have HI1 := Lib.hid (HIN.out.tr ((Below.refl _ _).alloc (Nat.le_refl _) (.cells #[.int .u64 h.base, .int .i64 h.cap, .int .i64 h.tt, .bool h.cyc, .int .i64 h.scan, .slice la h.low.length lc, .slice ha h.high.length hc, .slice oa h.old.length oc, .slice fa h.far.length fc, .slice ra h.roots.length rc] 32)))
 have HR : Hid ((lookF h).isSome = (lookF h).isSome) := rfl
 generalize hRR : (lookF h).isSome = R at *
 have HRR := Lib.hid hRR
 clear HR hRR
 go_enter Tryz.func19, Tryz.ntmps19
 go_wp2_with fail
 refine (HL.out _ HI1.out).mono ?_
 rintro e w1 (⟨hn, rfl, hb⟩ | ⟨p, s, ov, hn, rfl, hst⟩)
 ·obtain rfl : R = false := by rw [← HRR.out, hn]; rfl
  have HB := Lib.hid hb
  clear hn hb
  go_wp2_with fail
  go_ret
  refine ⟨rfl, ?_⟩
  have := HB.out
  exact bm
 ·obtain rfl : R = true := by rw [← HRR.out, hn]; rfl
  have HB := Lib.hid hst.bel
  clear hn hst
  go_wp2_with fail
  go_ret
  refine ⟨rfl, ?_⟩
  have := HB.out
  exact bm
def ObjsPost (w : World) (h : Hp) (q : Nat) (e : Ending) (w' : World) : Prop :=
 (lookF h = none ∧ e = .returned (.tuple #[.slice none 0 0, .int .i64 1])) ∨ (∃ s u, lookF h = some s ∧ e = .returned (.tuple #[u, .int .i64 0]) ∧ ObsAt w' w.heap.size u (s.obs q))
theorem objects_any (h : Hp) (v : Hv) (q : Nat) (hq : 1 ≤ q ∧ q ≤ 4) (w : World) (hin : HIn w h v) : Calls Tryz.prog 28 #[hpV h v, .int .i64 q] w fun e w' => ObjsPost w h q e w' ∧ Below w.heap.size w w' := by
 have HL : Hid (∀ W, HIn W h v → Calls Tryz.prog 54 #[hpV h v] W fun e w' => LookPost W h v e w') := Lib.hid fun W hin => look_any h v W hin
 have HIN := Lib.hid hin
 obtain ⟨la, lc, e1⟩ := nums_form hin.low
 obtain ⟨ha, hc, e2⟩ := nums_form hin.high
 obtain ⟨oa, oc, e3⟩ := nums_form hin.old
 obtain ⟨fa, fc, e4⟩ := nums_form hin.far
 obtain ⟨ra, rc, e5⟩ := nums_form hin.roots
 clear hin
 obtain ⟨vl, vh, vo, vf, vr⟩ := v
 dsimp only at e1 e2 e3 e4 e5
 subst e1 e2 e3 e4 e5
 unfold hpV at *
 dsimp only at *
 have HI1 := Lib.hid (HIN.out.tr ((Below.refl _ _).alloc (Nat.le_refl _) (.cells #[.int .u64 h.base, .int .i64 h.cap, .int .i64 h.tt, .bool h.cyc, .int .i64 h.scan, .slice la h.low.length lc, .slice ha h.high.length hc, .slice oa h.old.length oc, .slice fa h.far.length fc, .slice ra h.roots.length rc] 32)))
 obtain ⟨hq1, hq2⟩ := hq
 have i1 : ¬ (q : Int) < 1 := by omega
 have i2 : ¬ (4 : Int) < q := by omega
 go_enter Tryz.func28, Tryz.ntmps28
 go_wp2_with fail
 refine (HL.out _ HI1.out).mono ?_
 rintro e w1 (⟨hn, rfl, hb⟩ | ⟨p, s, ov, hn, rfl, hst⟩)
 ·have HB := Lib.hid hb
  have HN := Lib.hid hn
  clear hn hb
  go_wp2_with fail
  go_ret2
  refine ⟨.inl ⟨HN.out, rfl⟩, ?_⟩
  have := HB.out
  exact bm
 ·have HB := Lib.hid hst.bel
  have HN := Lib.hid hn
  have HS := Lib.hid hst
  obtain ⟨lb, cb, fb⟩ := hst.blk.get
  have hcq : w1.cell? ⟨p.b, 17 + (q - 1), none⟩ = some (ov.part q) := (cb _).trans (ov_cell _ _ _ _ _ _ ⟨hq1, hq2⟩)
  obtain ⟨oa', oc', eo⟩ := obs_form (hst.obs q).1
  rw [eo] at hcq
  clear hn hst cb fb
  go_wp2_with fail
  go_ret2
  refine ⟨.inr ⟨s, _, HN.out, rfl, ?_⟩, ?_⟩
  ·rw [← eo]
   have h1 := HS.out.ok.b0
   have h2 := HS.out.ok.b1
   exact obs_lift (HS.out.obs q).1 (by simp at h1; omega)
  ·have := HB.out
   exact bm
end Go.Proofs.YtpgjploaliefdaaGreat.ck
