/- image.Dump. No conditions. -/
import Derived.Test.YtpgjploaliefdaaGreatTk
import Derived.Test.YtpgjploaliefdaaGreatG16
namespace Go.Proofs.YtpgjploaliefdaaGreat.im
open Go Go.RowKit cm cw ga gr hp ob hd cp ck
open fr (strB putN rowN row_any put_any strB_size putN_10 putN_len encF app_frame join_any joinR)
set_option linter.unusedVariables false
set_option linter.unusedSimpArgs false
set_option maxRecDepth 100000
set_option maxHeartbeats 4000000
theorem dump_none (h : Hp) (v : Hv) (w : World) (hin : HIn w h v) (hn : lookF h = none) :
  Calls Tryz.prog 10 #[hpV h v] w fun e w' => e = .returned (.tuple #[.string ⟨#[]⟩, .int .i64 1]) ∧ Below w.heap.size w w' := by
 have HR : Hid (∀ W, HIn W h v → Calls Tryz.prog 19 #[hpV h v] W fun e w' => e = .returned (.bool false) ∧ Below W.heap.size W w') := Lib.hid fun W hin => by
  have := right_any h v W hin
  rw [hn] at this
  exact this
 have HIN := Lib.hid hin
 clear hn
 obtain ⟨la, lc, e1⟩ := nums_form hin.low
 obtain ⟨ha, hc, e2⟩ := nums_form hin.high
 obtain ⟨oa, oc, e3⟩ := nums_form hin.old
 obtain ⟨fa, fc, e4⟩ := nums_form hin.far
 obtain ⟨ra, rc, e5⟩ := nums_form hin.roots
 obtain ⟨vl, vh, vo, vf, vr⟩ := v
 dsimp only at e1 e2 e3 e4 e5
 subst e1 e2 e3 e4 e5
 unfold hpV at *
 dsimp only at *
 clear hin
 have HI1 := Lib.hid (HIN.out.tr ((Below.refl _ _).alloc (Nat.le_refl _) (.cells #[.int .u64 h.base, .int .i64 h.cap, .int .i64 h.tt, .bool h.cyc, .int .i64 h.scan, .slice la h.low.length lc, .slice ha h.high.length hc, .slice oa h.old.length oc, .slice fa h.far.length fc, .slice ra h.roots.length rc] 32)))
 go_enter Tryz.func10, Tryz.ntmps10
 go_wp2_with fail
 refine (HR.out _ HI1.out).mono ?_; rintro e w1 ⟨rfl, k1⟩
 go_wp2_with fail
 go_ret2
 refine ⟨rfl, ?_⟩
 exact bm
theorem s4c_tr {W w1 : World} {b : Nat} (hb : Below W.heap.size W w1) (hn : b < W.heap.size) {o1 o2 o3 o4 : Nat} {v1 v2 v3 v4 : Value} (h : W.cell? ⟨b, o1, none⟩ = some v1 ∧ W.cell? ⟨b, o2, none⟩ = some v2 ∧ W.cell? ⟨b, o3, none⟩ = some v3 ∧ W.cell? ⟨b, o4, none⟩ = some v4) :
  w1.cell? ⟨b, o1, none⟩ = some v1 ∧ w1.cell? ⟨b, o2, none⟩ = some v2 ∧ w1.cell? ⟨b, o3, none⟩ = some v3 ∧ w1.cell? ⟨b, o4, none⟩ = some v4 := by
 have hc : ∀ o, w1.cell? ⟨b, o, none⟩ = W.cell? ⟨b, o, none⟩ := fun o => hb.cell (p := ⟨b, o, none⟩) hn
 rw [hc, hc, hc, hc]
 exact h
theorem mk2_any (q : Int) (ad : Option Addr) (n c hb : Nat) (W : World) :
  Calls Tryz.prog 26 #[.int .i64 q, .slice ad n c, .pointer (some ⟨hb, 0, none⟩)] W fun e w' => ∃ b d, e = .returned (.func (.func 27) #[] #[.pointer (some ⟨hb, 0, none⟩), .pointer (some ⟨b, 0, none⟩), .pointer (some ⟨d, 0, none⟩)]) ∧ Below W.heap.size W w' ∧ Blk w' b #[.int .i64 q] 3 ∧ Blk w' d #[.slice ad n c] 29 := by
 refine (mk_any q ad n c hb W).mono ?_
 rintro e w' ⟨rfl, rfl⟩
 refine ⟨_, _, rfl, ?_, (Blk.new W _ _).alloc _, Blk.mk (by simp)⟩
 exact bm
theorem dump_some (h : Hp) (v : Hv) (s : Fnd) (w : World) (hin : HIn w h v) (hlk : lookF h = some s) :
  Calls Tryz.prog 10 #[hpV h v] w fun e w' => e = .returned (.tuple #[.string (joinR (framesOf h s)).1, .int .i64 (joinR (framesOf h s)).2]) ∧ Below w.heap.size w w' := by
 have HR : Hid (∀ W, HIn W h v → Calls Tryz.prog 19 #[hpV h v] W fun e w' => e = .returned (.bool true) ∧ Below W.heap.size W w') := Lib.hid fun W hin => by
  have := right_any h v W hin
  rw [hlk] at this
  exact this
 have HIN := Lib.hid hin
 have HLK := Lib.hid hlk
 clear hlk
 obtain ⟨la, lc, e1⟩ := nums_form hin.low
 obtain ⟨ha, hc, e2⟩ := nums_form hin.high
 obtain ⟨oa, oc, e3⟩ := nums_form hin.old
 obtain ⟨fa, fc, e4⟩ := nums_form hin.far
 obtain ⟨ra, rc, e5⟩ := nums_form hin.roots
 obtain ⟨vl, vh, vo, vf, vr⟩ := v
 dsimp only at e1 e2 e3 e4 e5
 subst e1 e2 e3 e4 e5
 unfold hpV at *
 dsimp only at *
 clear hin
 have HI1 := Lib.hid (HIN.out.tr ((Below.refl _ _).alloc (Nat.le_refl _) (.cells #[.int .u64 h.base, .int .i64 h.cap, .int .i64 h.tt, .bool h.cyc, .int .i64 h.scan, .slice la h.low.length lc, .slice ha h.high.length hc, .slice oa h.old.length oc, .slice fa h.far.length fc, .slice ra h.roots.length rc] 32)))
 have K0 : Blk (w.alloc (.cells #[.int .u64 h.base, .int .i64 h.cap, .int .i64 h.tt, .bool h.cyc, .int .i64 h.scan, .slice la h.low.length lc, .slice ha h.high.length hc, .slice oa h.old.length oc, .slice fa h.far.length fc, .slice ra h.roots.length rc] 32)) w.heap.size #[.int .u64 h.base, .int .i64 h.cap, .int .i64 h.tt, .bool h.cyc, .int .i64 h.scan, .slice la h.low.length lc, .slice ha h.high.length hc, .slice oa h.old.length oc, .slice fa h.far.length fc, .slice ra h.roots.length rc] 32 := Blk.new _ _ _
 go_enter Tryz.func10, Tryz.ntmps10
 go_wp2_with fail
 refine (HR.out _ HI1.out).mono ?_; rintro e w1 ⟨rfl, k1⟩
 have K1 := K0.tr k1
 have hb1 : Hid (Below w.heap.size w w1) := Lib.hid (by exact bm)
 clear K0 k1 HI1 HR
 obtain ⟨l1, c1, f1⟩ := K1.get
 have hcc : w1.cell? ⟨w.heap.size, 5, none⟩ = some (.slice la h.low.length lc) ∧ w1.cell? ⟨w.heap.size, 6, none⟩ = some (.slice ha h.high.length hc) ∧ w1.cell? ⟨w.heap.size, 7, none⟩ = some (.slice oa h.old.length oc) ∧ w1.cell? ⟨w.heap.size, 8, none⟩ = some (.slice fa h.far.length fc) := ⟨c1 5, c1 6, c1 7, c1 8⟩
 clear c1 f1
 go_wp2_with fail
 refine wp_region_held_drew (S := (fun w' => w'.cell? ⟨w.heap.size, 5, none⟩ = some (.slice la h.low.length lc) ∧ w'.cell? ⟨w.heap.size, 6, none⟩ = some (.slice ha h.high.length hc) ∧ w'.cell? ⟨w.heap.size, 7, none⟩ = some (.slice oa h.old.length oc) ∧ w'.cell? ⟨w.heap.size, 8, none⟩ = some (.slice fa h.far.length fc))) (by kernel_rfl) ?_ (fun hHeld => ?_)
 ·(try dsimp only); refine s4c_tr (W := w1) ?_ l1 hcc; exact bm
 refine tk 0 ?_
 refine tk 1 ?_
 refine tk 2 ?_
 refine tk 3 ?_
 refine tk 4 ?_
 refine tk 5 ?_
 refine tk 6 ?_
 refine tk 9 ?_
 refine tk 10 ?_
 refine tk 11 ?_
 refine tk 14 ?_
 refine tk 15 ?_
 refine tk 16 ?_
 refine tk 19 ?_
 refine tk 20 ?_
 refine tk 21 ?_
 refine co 7 fun K hK => ?_
 go_simp
 go_at_call 26; refine (mk2_any 1 _ _ _ _ _).mono ?_; rintro e w2 ⟨b2, d2, rfl, k2, B2, D2⟩; go_wp2_with fail
 refine hK.out _ _ ?_ (fun hHeld => ?_)
 ·(try dsimp only); refine s4c_tr (W := w1) ?_ l1 hcc; exact bm
 clear hK K
 refine nx ?_
 refine tk 8 ?_
 refine co 12 fun K hK => ?_
 go_simp
 go_at_call 26; refine (mk2_any 2 _ _ _ _ _).mono ?_; rintro e w3 ⟨b3, d3, rfl, k3, B3, D3⟩; go_wp2_with fail
 refine hK.out _ _ ?_ (fun hHeld => ?_)
 ·(try dsimp only); refine s4c_tr (W := w1) ?_ l1 hcc; exact bm
 clear hK K
 refine nx ?_
 refine tk 13 ?_
 refine co 17 fun K hK => ?_
 go_simp
 go_at_call 26; refine (mk2_any 3 _ _ _ _ _).mono ?_; rintro e w4 ⟨b4, d4, rfl, k4, B4, D4⟩; go_wp2_with fail
 refine hK.out _ _ ?_ (fun hHeld => ?_)
 ·(try dsimp only); refine s4c_tr (W := w1) ?_ l1 hcc; exact bm
 clear hK K
 refine nx ?_
 refine tk 18 ?_
 refine co 22 fun K hK => ?_
 go_simp
 go_at_call 26; refine (mk2_any 4 _ _ _ _ _).mono ?_; rintro e w5 ⟨b5, d5, rfl, k5, B5, D5⟩; go_wp2_with fail
 refine hK.out _ _ ?_ (fun hHeld => ?_)
 ·(try dsimp only); refine s4c_tr (W := w1) ?_ l1 hcc; exact bm
 clear hK K
 refine nx ?_
 refine tk 23 ?_
 refine wpAnyH_ready (rs := [24]) (by kernel_rfl) (by simp) ?_
 refine AllReadyH.cons rfl (fun K hK => ?_) AllReadyH.nil
 go_simp
 have K6 := Blk.new w5 #[.int .i64 1, .func (.func 29) #[] #[.pointer (some ⟨w.heap.size, 0, none⟩)], .int .i64 2, .func (.func 31) #[] #[.pointer (some ⟨w.heap.size, 0, none⟩)], .int .i64 3, .func (.func 27) #[] #[.pointer (some ⟨w.heap.size, 0, none⟩), .pointer (some ⟨b2, 0, none⟩), .pointer (some ⟨d2, 0, none⟩)], .int .i64 4, .func (.func 27) #[] #[.pointer (some ⟨w.heap.size, 0, none⟩), .pointer (some ⟨b3, 0, none⟩), .pointer (some ⟨d3, 0, none⟩)], .int .i64 5, .func (.func 27) #[] #[.pointer (some ⟨w.heap.size, 0, none⟩), .pointer (some ⟨b4, 0, none⟩), .pointer (some ⟨d4, 0, none⟩)], .int .i64 6, .func (.func 27) #[] #[.pointer (some ⟨w.heap.size, 0, none⟩), .pointer (some ⟨b5, 0, none⟩), .pointer (some ⟨d5, 0, none⟩)]] 73
 have kB : Below w1.heap.size w1 (w5.alloc (.cells #[.int .i64 1, .func (.func 29) #[] #[.pointer (some ⟨w.heap.size, 0, none⟩)], .int .i64 2, .func (.func 31) #[] #[.pointer (some ⟨w.heap.size, 0, none⟩)], .int .i64 3, .func (.func 27) #[] #[.pointer (some ⟨w.heap.size, 0, none⟩), .pointer (some ⟨b2, 0, none⟩), .pointer (some ⟨d2, 0, none⟩)], .int .i64 4, .func (.func 27) #[] #[.pointer (some ⟨w.heap.size, 0, none⟩), .pointer (some ⟨b3, 0, none⟩), .pointer (some ⟨d3, 0, none⟩)], .int .i64 5, .func (.func 27) #[] #[.pointer (some ⟨w.heap.size, 0, none⟩), .pointer (some ⟨b4, 0, none⟩), .pointer (some ⟨d4, 0, none⟩)], .int .i64 6, .func (.func 27) #[] #[.pointer (some ⟨w.heap.size, 0, none⟩), .pointer (some ⟨b5, 0, none⟩), .pointer (some ⟨d5, 0, none⟩)]] 73)) := by exact bm
 have K0 := K1.tr kB
 have E2 := (B2.tr k3).tr k4 |>.tr k5 |>.alloc (.cells #[.int .i64 1, .func (.func 29) #[] #[.pointer (some ⟨w.heap.size, 0, none⟩)], .int .i64 2, .func (.func 31) #[] #[.pointer (some ⟨w.heap.size, 0, none⟩)], .int .i64 3, .func (.func 27) #[] #[.pointer (some ⟨w.heap.size, 0, none⟩), .pointer (some ⟨b2, 0, none⟩), .pointer (some ⟨d2, 0, none⟩)], .int .i64 4, .func (.func 27) #[] #[.pointer (some ⟨w.heap.size, 0, none⟩), .pointer (some ⟨b3, 0, none⟩), .pointer (some ⟨d3, 0, none⟩)], .int .i64 5, .func (.func 27) #[] #[.pointer (some ⟨w.heap.size, 0, none⟩), .pointer (some ⟨b4, 0, none⟩), .pointer (some ⟨d4, 0, none⟩)], .int .i64 6, .func (.func 27) #[] #[.pointer (some ⟨w.heap.size, 0, none⟩), .pointer (some ⟨b5, 0, none⟩), .pointer (some ⟨d5, 0, none⟩)]] 73)
 have G2 := (D2.tr k3).tr k4 |>.tr k5 |>.alloc (.cells #[.int .i64 1, .func (.func 29) #[] #[.pointer (some ⟨w.heap.size, 0, none⟩)], .int .i64 2, .func (.func 31) #[] #[.pointer (some ⟨w.heap.size, 0, none⟩)], .int .i64 3, .func (.func 27) #[] #[.pointer (some ⟨w.heap.size, 0, none⟩), .pointer (some ⟨b2, 0, none⟩), .pointer (some ⟨d2, 0, none⟩)], .int .i64 4, .func (.func 27) #[] #[.pointer (some ⟨w.heap.size, 0, none⟩), .pointer (some ⟨b3, 0, none⟩), .pointer (some ⟨d3, 0, none⟩)], .int .i64 5, .func (.func 27) #[] #[.pointer (some ⟨w.heap.size, 0, none⟩), .pointer (some ⟨b4, 0, none⟩), .pointer (some ⟨d4, 0, none⟩)], .int .i64 6, .func (.func 27) #[] #[.pointer (some ⟨w.heap.size, 0, none⟩), .pointer (some ⟨b5, 0, none⟩), .pointer (some ⟨d5, 0, none⟩)]] 73)
 have E3 := (B3.tr k4).tr k5 |>.alloc (.cells #[.int .i64 1, .func (.func 29) #[] #[.pointer (some ⟨w.heap.size, 0, none⟩)], .int .i64 2, .func (.func 31) #[] #[.pointer (some ⟨w.heap.size, 0, none⟩)], .int .i64 3, .func (.func 27) #[] #[.pointer (some ⟨w.heap.size, 0, none⟩), .pointer (some ⟨b2, 0, none⟩), .pointer (some ⟨d2, 0, none⟩)], .int .i64 4, .func (.func 27) #[] #[.pointer (some ⟨w.heap.size, 0, none⟩), .pointer (some ⟨b3, 0, none⟩), .pointer (some ⟨d3, 0, none⟩)], .int .i64 5, .func (.func 27) #[] #[.pointer (some ⟨w.heap.size, 0, none⟩), .pointer (some ⟨b4, 0, none⟩), .pointer (some ⟨d4, 0, none⟩)], .int .i64 6, .func (.func 27) #[] #[.pointer (some ⟨w.heap.size, 0, none⟩), .pointer (some ⟨b5, 0, none⟩), .pointer (some ⟨d5, 0, none⟩)]] 73)
 have G3 := (D3.tr k4).tr k5 |>.alloc (.cells #[.int .i64 1, .func (.func 29) #[] #[.pointer (some ⟨w.heap.size, 0, none⟩)], .int .i64 2, .func (.func 31) #[] #[.pointer (some ⟨w.heap.size, 0, none⟩)], .int .i64 3, .func (.func 27) #[] #[.pointer (some ⟨w.heap.size, 0, none⟩), .pointer (some ⟨b2, 0, none⟩), .pointer (some ⟨d2, 0, none⟩)], .int .i64 4, .func (.func 27) #[] #[.pointer (some ⟨w.heap.size, 0, none⟩), .pointer (some ⟨b3, 0, none⟩), .pointer (some ⟨d3, 0, none⟩)], .int .i64 5, .func (.func 27) #[] #[.pointer (some ⟨w.heap.size, 0, none⟩), .pointer (some ⟨b4, 0, none⟩), .pointer (some ⟨d4, 0, none⟩)], .int .i64 6, .func (.func 27) #[] #[.pointer (some ⟨w.heap.size, 0, none⟩), .pointer (some ⟨b5, 0, none⟩), .pointer (some ⟨d5, 0, none⟩)]] 73)
 have E4 := (B4.tr k5).alloc (.cells #[.int .i64 1, .func (.func 29) #[] #[.pointer (some ⟨w.heap.size, 0, none⟩)], .int .i64 2, .func (.func 31) #[] #[.pointer (some ⟨w.heap.size, 0, none⟩)], .int .i64 3, .func (.func 27) #[] #[.pointer (some ⟨w.heap.size, 0, none⟩), .pointer (some ⟨b2, 0, none⟩), .pointer (some ⟨d2, 0, none⟩)], .int .i64 4, .func (.func 27) #[] #[.pointer (some ⟨w.heap.size, 0, none⟩), .pointer (some ⟨b3, 0, none⟩), .pointer (some ⟨d3, 0, none⟩)], .int .i64 5, .func (.func 27) #[] #[.pointer (some ⟨w.heap.size, 0, none⟩), .pointer (some ⟨b4, 0, none⟩), .pointer (some ⟨d4, 0, none⟩)], .int .i64 6, .func (.func 27) #[] #[.pointer (some ⟨w.heap.size, 0, none⟩), .pointer (some ⟨b5, 0, none⟩), .pointer (some ⟨d5, 0, none⟩)]] 73)
 have G4 := (D4.tr k5).alloc (.cells #[.int .i64 1, .func (.func 29) #[] #[.pointer (some ⟨w.heap.size, 0, none⟩)], .int .i64 2, .func (.func 31) #[] #[.pointer (some ⟨w.heap.size, 0, none⟩)], .int .i64 3, .func (.func 27) #[] #[.pointer (some ⟨w.heap.size, 0, none⟩), .pointer (some ⟨b2, 0, none⟩), .pointer (some ⟨d2, 0, none⟩)], .int .i64 4, .func (.func 27) #[] #[.pointer (some ⟨w.heap.size, 0, none⟩), .pointer (some ⟨b3, 0, none⟩), .pointer (some ⟨d3, 0, none⟩)], .int .i64 5, .func (.func 27) #[] #[.pointer (some ⟨w.heap.size, 0, none⟩), .pointer (some ⟨b4, 0, none⟩), .pointer (some ⟨d4, 0, none⟩)], .int .i64 6, .func (.func 27) #[] #[.pointer (some ⟨w.heap.size, 0, none⟩), .pointer (some ⟨b5, 0, none⟩), .pointer (some ⟨d5, 0, none⟩)]] 73)
 have E5 := B5.alloc (.cells #[.int .i64 1, .func (.func 29) #[] #[.pointer (some ⟨w.heap.size, 0, none⟩)], .int .i64 2, .func (.func 31) #[] #[.pointer (some ⟨w.heap.size, 0, none⟩)], .int .i64 3, .func (.func 27) #[] #[.pointer (some ⟨w.heap.size, 0, none⟩), .pointer (some ⟨b2, 0, none⟩), .pointer (some ⟨d2, 0, none⟩)], .int .i64 4, .func (.func 27) #[] #[.pointer (some ⟨w.heap.size, 0, none⟩), .pointer (some ⟨b3, 0, none⟩), .pointer (some ⟨d3, 0, none⟩)], .int .i64 5, .func (.func 27) #[] #[.pointer (some ⟨w.heap.size, 0, none⟩), .pointer (some ⟨b4, 0, none⟩), .pointer (some ⟨d4, 0, none⟩)], .int .i64 6, .func (.func 27) #[] #[.pointer (some ⟨w.heap.size, 0, none⟩), .pointer (some ⟨b5, 0, none⟩), .pointer (some ⟨d5, 0, none⟩)]] 73)
 have G5 := D5.alloc (.cells #[.int .i64 1, .func (.func 29) #[] #[.pointer (some ⟨w.heap.size, 0, none⟩)], .int .i64 2, .func (.func 31) #[] #[.pointer (some ⟨w.heap.size, 0, none⟩)], .int .i64 3, .func (.func 27) #[] #[.pointer (some ⟨w.heap.size, 0, none⟩), .pointer (some ⟨b2, 0, none⟩), .pointer (some ⟨d2, 0, none⟩)], .int .i64 4, .func (.func 27) #[] #[.pointer (some ⟨w.heap.size, 0, none⟩), .pointer (some ⟨b3, 0, none⟩), .pointer (some ⟨d3, 0, none⟩)], .int .i64 5, .func (.func 27) #[] #[.pointer (some ⟨w.heap.size, 0, none⟩), .pointer (some ⟨b4, 0, none⟩), .pointer (some ⟨d4, 0, none⟩)], .int .i64 6, .func (.func 27) #[] #[.pointer (some ⟨w.heap.size, 0, none⟩), .pointer (some ⟨b5, 0, none⟩), .pointer (some ⟨d5, 0, none⟩)]] 73)
 have hnb : w5.heap.size < (w5.alloc (.cells #[.int .i64 1, .func (.func 29) #[] #[.pointer (some ⟨w.heap.size, 0, none⟩)], .int .i64 2, .func (.func 31) #[] #[.pointer (some ⟨w.heap.size, 0, none⟩)], .int .i64 3, .func (.func 27) #[] #[.pointer (some ⟨w.heap.size, 0, none⟩), .pointer (some ⟨b2, 0, none⟩), .pointer (some ⟨d2, 0, none⟩)], .int .i64 4, .func (.func 27) #[] #[.pointer (some ⟨w.heap.size, 0, none⟩), .pointer (some ⟨b3, 0, none⟩), .pointer (some ⟨d3, 0, none⟩)], .int .i64 5, .func (.func 27) #[] #[.pointer (some ⟨w.heap.size, 0, none⟩), .pointer (some ⟨b4, 0, none⟩), .pointer (some ⟨d4, 0, none⟩)], .int .i64 6, .func (.func 27) #[] #[.pointer (some ⟨w.heap.size, 0, none⟩), .pointer (some ⟨b5, 0, none⟩), .pointer (some ⟨d5, 0, none⟩)]] 73)).heap.size := by simp
 refine hK.out _ _ ?_ (fun hHeld => ?_)
 ·(try dsimp only); refine s4c_tr (W := w1) ?_ l1 hcc; exact bm
 clear hK K k2 k3 k4 k5 B2 B3 B4 B5 D2 D3 D4 D5
 generalize w5.alloc (.cells #[.int .i64 1, .func (.func 29) #[] #[.pointer (some ⟨w.heap.size, 0, none⟩)], .int .i64 2, .func (.func 31) #[] #[.pointer (some ⟨w.heap.size, 0, none⟩)], .int .i64 3, .func (.func 27) #[] #[.pointer (some ⟨w.heap.size, 0, none⟩), .pointer (some ⟨b2, 0, none⟩), .pointer (some ⟨d2, 0, none⟩)], .int .i64 4, .func (.func 27) #[] #[.pointer (some ⟨w.heap.size, 0, none⟩), .pointer (some ⟨b3, 0, none⟩), .pointer (some ⟨d3, 0, none⟩)], .int .i64 5, .func (.func 27) #[] #[.pointer (some ⟨w.heap.size, 0, none⟩), .pointer (some ⟨b4, 0, none⟩), .pointer (some ⟨d4, 0, none⟩)], .int .i64 6, .func (.func 27) #[] #[.pointer (some ⟨w.heap.size, 0, none⟩), .pointer (some ⟨b5, 0, none⟩), .pointer (some ⟨d5, 0, none⟩)]] 73) = W0 at *
 generalize w5.heap.size = nb at *
 try simp only [List.getElem_toArray, List.getElem_cons_succ, List.getElem_cons_zero, Act.put, List.setIfInBounds_toArray, List.set_cons_zero, List.set_cons_succ]
 refine tk 25 ?_
 refine wpAnyH_done (by kernel_rfl) ?_ _
 have hb0 : Hid (Below w.heap.size w W0) := Lib.hid (by have := hb1.out; exact bm)
 have hin0 := HIN.out.tr hb0.out
 have hp0 := head_pos HLK.out
 have HC2 : Hid (∀ W, Below W0.heap.size W0 W → Calls Tryz.prog 29 #[.pointer (some ⟨w.heap.size, 0, none⟩)] W fun e w' => e = .returned (.tuple #[.string (strB (rowN (headN h))), .int .i64 0]) ∧ Below W.heap.size W w') := Lib.hid fun W hb => c2_any h _ w.heap.size W (hin0.tr hb) (K0.tr hb) hp0.1 hp0.2.1 hp0.2.2.1
 have HC3 : Hid (∀ W, Below W0.heap.size W0 W → Calls Tryz.prog 31 #[.pointer (some ⟨w.heap.size, 0, none⟩)] W fun e w' => e = .returned (.tuple #[.string (rootS h), .int .i64 0]) ∧ Below W.heap.size W w') := Lib.hid fun W hb => c3_any h _ w.heap.size W (hin0.tr hb) (K0.tr hb) hp0.2.2.2.2.1 (by have := hp0.2.2.2.1; omega)
 have HP1 : Hid (∀ W, Below W0.heap.size W0 W → Calls Tryz.prog 27 #[.pointer (some ⟨w.heap.size, 0, none⟩), .pointer (some ⟨b2, 0, none⟩), .pointer (some ⟨d2, 0, none⟩)] W fun e w' => e = .returned (.tuple #[.string (partU h s 1), .int .i64 0]) ∧ Below W.heap.size W w') := Lib.hid fun W hb => c1_any h _ s 1 (by omega) w.heap.size b2 d2 W (hin0.tr hb) HLK.out (K0.tr hb) (E2.tr hb) (G2.tr hb)
 have HP2 : Hid (∀ W, Below W0.heap.size W0 W → Calls Tryz.prog 27 #[.pointer (some ⟨w.heap.size, 0, none⟩), .pointer (some ⟨b3, 0, none⟩), .pointer (some ⟨d3, 0, none⟩)] W fun e w' => e = .returned (.tuple #[.string (partU h s 2), .int .i64 0]) ∧ Below W.heap.size W w') := Lib.hid fun W hb => c1_any h _ s 2 (by omega) w.heap.size b3 d3 W (hin0.tr hb) HLK.out (K0.tr hb) (E3.tr hb) (G3.tr hb)
 have HP3 : Hid (∀ W, Below W0.heap.size W0 W → Calls Tryz.prog 27 #[.pointer (some ⟨w.heap.size, 0, none⟩), .pointer (some ⟨b4, 0, none⟩), .pointer (some ⟨d4, 0, none⟩)] W fun e w' => e = .returned (.tuple #[.string (partU h s 3), .int .i64 0]) ∧ Below W.heap.size W w') := Lib.hid fun W hb => c1_any h _ s 3 (by omega) w.heap.size b4 d4 W (hin0.tr hb) HLK.out (K0.tr hb) (E4.tr hb) (G4.tr hb)
 have HP4 : Hid (∀ W, Below W0.heap.size W0 W → Calls Tryz.prog 27 #[.pointer (some ⟨w.heap.size, 0, none⟩), .pointer (some ⟨b5, 0, none⟩), .pointer (some ⟨d5, 0, none⟩)] W fun e w' => e = .returned (.tuple #[.string (partU h s 4), .int .i64 0]) ∧ Below W.heap.size W w') := Lib.hid fun W hb => c1_any h _ s 4 (by omega) w.heap.size b5 d5 W (hin0.tr hb) HLK.out (K0.tr hb) (E5.tr hb) (G5.tr hb)
 have HF : Hid (framesOf h s = [(1, strB (rowN (headN h))), (2, rootS h), (3, partU h s 1), (4, partU h s 2), (5, partU h s 3), (6, partU h s 4)]) := rfl
 have HJ : Hid (∀ (v : Value) (W : World), RIn 2 encF W v (framesOf h s) → Calls Tryz.prog 33 #[v] W fun e w' => e = .returned (.tuple #[.string (joinR (framesOf h s)).1, .int .i64 (joinR (framesOf h s)).2]) ∧ Below W.heap.size W w') := Lib.hid fun v W hv => join_any v (framesOf h s) W hv (by simp [framesOf]) (frames_le HLK.out hin0.base hin0.slow hin0.shigh hin0.sold hin0.sfar hin0.sroots) frames_63
 generalize strB (rowN (headN h)) = X1 at *
 generalize rootS h = X2 at *
 generalize partU h s 1 = X3 at *
 generalize partU h s 2 = X4 at *
 generalize partU h s 3 = X5 at *
 generalize partU h s 4 = X6 at *
 obtain ⟨FS, hFS⟩ : ∃ F, F = framesOf h s := ⟨_, rfl⟩
 rw [← hFS] at HF HJ
 obtain ⟨JR, hJR⟩ : ∃ J, J = joinR FS := ⟨_, rfl⟩
 rw [← hJR] at HJ
 have HJ2 : Hid (JR = joinR (framesOf h s)) := Lib.hid (hJR.trans (congrArg joinR hFS))
 clear hFS hJR
 clear hp0 hin0 E2 E3 E4 E5 G2 G3 G4 G5 K0 K1 hcc l1 HLK HIN kB hb1
 go_wp2_with fail
 have hsf := store_fn Tryz.prog
 go_loopw [42, 6] (fun i l wr => ∃ k : Nat, k ≤ 6 ∧ i = .int .i64 k ∧ Hid (OwnR 77 2 encF wr W0.heap.size l (FS.take k)) ∧ Hid (Below W0.heap.size W0 wr)) (fun i _ _ => 6 - (intOf i).toNat)
 case atStart => exact ⟨0, by omega, rfl, Lib.hid (OwnR.nil _ _), Lib.hid (Below.refl _ _)⟩
 case round =>
  obtain ⟨k, hk, rfl, ho, hb⟩ := hrel
  have hsz := hb.out.size
  have K7 := K6.tr hb.out
  obtain ⟨l7, c7, f7⟩ := K7.get
  rcases (show k = 0 ∨ k = 1 ∨ k = 2 ∨ k = 3 ∨ k = 4 ∨ k = 5 ∨ k = 6 by omega) with rfl | rfl | rfl | rfl | rfl | rfl | rfl
  ·have hsn : Hid (FS.take (0 + 1) = FS.take 0 ++ [((0 + 1 : Int), X1)]) := Lib.hid (by rw [HF.out]; rfl)
   have hll : Hid ((FS.take 0).length + 1 < 100000000000) := Lib.hid (by rw [HF.out]; simp)
   have KL : Blk (wr.alloc (.cells #[.int .i64 (0 + 1), .func (.func 29) #[] #[.pointer (some ⟨w.heap.size, 0, none⟩)]] 73)) wr.heap.size #[.int .i64 (0 + 1), .func (.func 29) #[] #[.pointer (some ⟨w.heap.size, 0, none⟩)]] 73 := Blk.new _ _ _
   generalize FS.take 0 = done at *
   go_wp2_with fail
   refine (HC2.out _ (by have := hb.out; exact bm)).mono ?_; rintro e w3 ⟨rfl, k3⟩
   replace KL := KL.tr k3
   obtain ⟨lL, cL, fL⟩ := KL.get
   have HO3 : Hid (OwnR 77 2 encF w3 W0.heap.size u6 done) := Lib.hid (ho.out.tr (by exact bm))
   have HB3 : Hid (Below W0.heap.size W0 w3) := Lib.hid (by have := hb.out; exact bm)
   clear k3 ho hb
   go_wp2_with (at_builtin; refine app_frame _ rfl _ _ rfl W0.heap.size _ _ done ((0 + 1 : Int), X1) rfl rfl ?d0 ?d1 hll.out ?d3 ?d4)
   case d0 => exact HO3.out.tr (by exact bm)
   case d1 => refine one_g _ ((0 + 1 : Int), X1) _ rfl _ ?_; try simp
   case d3 => have := HB3.out.size; simp; omega
   case d4 =>
   intro v' w4 ho4 hg hat
   have H2 : Hid (OwnR 77 2 encF w4 W0.heap.size v' (done ++ [((0 + 1 : Int), X1)])) := Lib.hid ho4
   have H3 : Hid (Below W0.heap.size W0 w4) := Lib.hid (below_ofO hg (by have := HB3.out.size; simp; omega) HO3.out.block |> fun h => Below.trans (by have := HB3.out; exact bm) h)
   clear ho4 hg hat HO3 HB3
   go_wp2_with fail
   exact ⟨⟨0 + 1, by omega, by go_num, Lib.hid (by rw [hsn.out]; exact H2.out), H3⟩, by simp [intOf]⟩
  ·have hsn : Hid (FS.take (1 + 1) = FS.take 1 ++ [((1 + 1 : Int), X2)]) := Lib.hid (by rw [HF.out]; rfl)
   have hll : Hid ((FS.take 1).length + 1 < 100000000000) := Lib.hid (by rw [HF.out]; simp)
   have KL : Blk (wr.alloc (.cells #[.int .i64 (1 + 1), .func (.func 31) #[] #[.pointer (some ⟨w.heap.size, 0, none⟩)]] 73)) wr.heap.size #[.int .i64 (1 + 1), .func (.func 31) #[] #[.pointer (some ⟨w.heap.size, 0, none⟩)]] 73 := Blk.new _ _ _
   generalize FS.take 1 = done at *
   go_wp2_with fail
   refine (HC3.out _ (by have := hb.out; exact bm)).mono ?_; rintro e w3 ⟨rfl, k3⟩
   replace KL := KL.tr k3
   obtain ⟨lL, cL, fL⟩ := KL.get
   have HO3 : Hid (OwnR 77 2 encF w3 W0.heap.size u6 done) := Lib.hid (ho.out.tr (by exact bm))
   have HB3 : Hid (Below W0.heap.size W0 w3) := Lib.hid (by have := hb.out; exact bm)
   clear k3 ho hb
   go_wp2_with (at_builtin; refine app_frame _ rfl _ _ rfl W0.heap.size _ _ done ((1 + 1 : Int), X2) rfl rfl ?d0 ?d1 hll.out ?d3 ?d4)
   case d0 => exact HO3.out.tr (by exact bm)
   case d1 => refine one_g _ ((1 + 1 : Int), X2) _ rfl _ ?_; try simp
   case d3 => have := HB3.out.size; simp; omega
   case d4 =>
   intro v' w4 ho4 hg hat
   have H2 : Hid (OwnR 77 2 encF w4 W0.heap.size v' (done ++ [((1 + 1 : Int), X2)])) := Lib.hid ho4
   have H3 : Hid (Below W0.heap.size W0 w4) := Lib.hid (below_ofO hg (by have := HB3.out.size; simp; omega) HO3.out.block |> fun h => Below.trans (by have := HB3.out; exact bm) h)
   clear ho4 hg hat HO3 HB3
   go_wp2_with fail
   exact ⟨⟨1 + 1, by omega, by go_num, Lib.hid (by rw [hsn.out]; exact H2.out), H3⟩, by simp [intOf]⟩
  ·have hsn : Hid (FS.take (2 + 1) = FS.take 2 ++ [((2 + 1 : Int), X3)]) := Lib.hid (by rw [HF.out]; rfl)
   have hll : Hid ((FS.take 2).length + 1 < 100000000000) := Lib.hid (by rw [HF.out]; simp)
   have KL : Blk (wr.alloc (.cells #[.int .i64 (2 + 1), .func (.func 27) #[] #[.pointer (some ⟨w.heap.size, 0, none⟩), .pointer (some ⟨b2, 0, none⟩), .pointer (some ⟨d2, 0, none⟩)]] 73)) wr.heap.size #[.int .i64 (2 + 1), .func (.func 27) #[] #[.pointer (some ⟨w.heap.size, 0, none⟩), .pointer (some ⟨b2, 0, none⟩), .pointer (some ⟨d2, 0, none⟩)]] 73 := Blk.new _ _ _
   generalize FS.take 2 = done at *
   go_wp2_with fail
   refine (HP1.out _ (by have := hb.out; exact bm)).mono ?_; rintro e w3 ⟨rfl, k3⟩
   replace KL := KL.tr k3
   obtain ⟨lL, cL, fL⟩ := KL.get
   have HO3 : Hid (OwnR 77 2 encF w3 W0.heap.size u6 done) := Lib.hid (ho.out.tr (by exact bm))
   have HB3 : Hid (Below W0.heap.size W0 w3) := Lib.hid (by have := hb.out; exact bm)
   clear k3 ho hb
   go_wp2_with (at_builtin; refine app_frame _ rfl _ _ rfl W0.heap.size _ _ done ((2 + 1 : Int), X3) rfl rfl ?d0 ?d1 hll.out ?d3 ?d4)
   case d0 => exact HO3.out.tr (by exact bm)
   case d1 => refine one_g _ ((2 + 1 : Int), X3) _ rfl _ ?_; try simp
   case d3 => have := HB3.out.size; simp; omega
   case d4 =>
   intro v' w4 ho4 hg hat
   have H2 : Hid (OwnR 77 2 encF w4 W0.heap.size v' (done ++ [((2 + 1 : Int), X3)])) := Lib.hid ho4
   have H3 : Hid (Below W0.heap.size W0 w4) := Lib.hid (below_ofO hg (by have := HB3.out.size; simp; omega) HO3.out.block |> fun h => Below.trans (by have := HB3.out; exact bm) h)
   clear ho4 hg hat HO3 HB3
   go_wp2_with fail
   exact ⟨⟨2 + 1, by omega, by go_num, Lib.hid (by rw [hsn.out]; exact H2.out), H3⟩, by simp [intOf]⟩
  ·have hsn : Hid (FS.take (3 + 1) = FS.take 3 ++ [((3 + 1 : Int), X4)]) := Lib.hid (by rw [HF.out]; rfl)
   have hll : Hid ((FS.take 3).length + 1 < 100000000000) := Lib.hid (by rw [HF.out]; simp)
   have KL : Blk (wr.alloc (.cells #[.int .i64 (3 + 1), .func (.func 27) #[] #[.pointer (some ⟨w.heap.size, 0, none⟩), .pointer (some ⟨b3, 0, none⟩), .pointer (some ⟨d3, 0, none⟩)]] 73)) wr.heap.size #[.int .i64 (3 + 1), .func (.func 27) #[] #[.pointer (some ⟨w.heap.size, 0, none⟩), .pointer (some ⟨b3, 0, none⟩), .pointer (some ⟨d3, 0, none⟩)]] 73 := Blk.new _ _ _
   generalize FS.take 3 = done at *
   go_wp2_with fail
   refine (HP2.out _ (by have := hb.out; exact bm)).mono ?_; rintro e w3 ⟨rfl, k3⟩
   replace KL := KL.tr k3
   obtain ⟨lL, cL, fL⟩ := KL.get
   have HO3 : Hid (OwnR 77 2 encF w3 W0.heap.size u6 done) := Lib.hid (ho.out.tr (by exact bm))
   have HB3 : Hid (Below W0.heap.size W0 w3) := Lib.hid (by have := hb.out; exact bm)
   clear k3 ho hb
   go_wp2_with (at_builtin; refine app_frame _ rfl _ _ rfl W0.heap.size _ _ done ((3 + 1 : Int), X4) rfl rfl ?d0 ?d1 hll.out ?d3 ?d4)
   case d0 => exact HO3.out.tr (by exact bm)
   case d1 => refine one_g _ ((3 + 1 : Int), X4) _ rfl _ ?_; try simp
   case d3 => have := HB3.out.size; simp; omega
   case d4 =>
   intro v' w4 ho4 hg hat
   have H2 : Hid (OwnR 77 2 encF w4 W0.heap.size v' (done ++ [((3 + 1 : Int), X4)])) := Lib.hid ho4
   have H3 : Hid (Below W0.heap.size W0 w4) := Lib.hid (below_ofO hg (by have := HB3.out.size; simp; omega) HO3.out.block |> fun h => Below.trans (by have := HB3.out; exact bm) h)
   clear ho4 hg hat HO3 HB3
   go_wp2_with fail
   exact ⟨⟨3 + 1, by omega, by go_num, Lib.hid (by rw [hsn.out]; exact H2.out), H3⟩, by simp [intOf]⟩
  ·have hsn : Hid (FS.take (4 + 1) = FS.take 4 ++ [((4 + 1 : Int), X5)]) := Lib.hid (by rw [HF.out]; rfl)
   have hll : Hid ((FS.take 4).length + 1 < 100000000000) := Lib.hid (by rw [HF.out]; simp)
   have KL : Blk (wr.alloc (.cells #[.int .i64 (4 + 1), .func (.func 27) #[] #[.pointer (some ⟨w.heap.size, 0, none⟩), .pointer (some ⟨b4, 0, none⟩), .pointer (some ⟨d4, 0, none⟩)]] 73)) wr.heap.size #[.int .i64 (4 + 1), .func (.func 27) #[] #[.pointer (some ⟨w.heap.size, 0, none⟩), .pointer (some ⟨b4, 0, none⟩), .pointer (some ⟨d4, 0, none⟩)]] 73 := Blk.new _ _ _
   generalize FS.take 4 = done at *
   go_wp2_with fail
   refine (HP3.out _ (by have := hb.out; exact bm)).mono ?_; rintro e w3 ⟨rfl, k3⟩
   replace KL := KL.tr k3
   obtain ⟨lL, cL, fL⟩ := KL.get
   have HO3 : Hid (OwnR 77 2 encF w3 W0.heap.size u6 done) := Lib.hid (ho.out.tr (by exact bm))
   have HB3 : Hid (Below W0.heap.size W0 w3) := Lib.hid (by have := hb.out; exact bm)
   clear k3 ho hb
   go_wp2_with (at_builtin; refine app_frame _ rfl _ _ rfl W0.heap.size _ _ done ((4 + 1 : Int), X5) rfl rfl ?d0 ?d1 hll.out ?d3 ?d4)
   case d0 => exact HO3.out.tr (by exact bm)
   case d1 => refine one_g _ ((4 + 1 : Int), X5) _ rfl _ ?_; try simp
   case d3 => have := HB3.out.size; simp; omega
   case d4 =>
   intro v' w4 ho4 hg hat
   have H2 : Hid (OwnR 77 2 encF w4 W0.heap.size v' (done ++ [((4 + 1 : Int), X5)])) := Lib.hid ho4
   have H3 : Hid (Below W0.heap.size W0 w4) := Lib.hid (below_ofO hg (by have := HB3.out.size; simp; omega) HO3.out.block |> fun h => Below.trans (by have := HB3.out; exact bm) h)
   clear ho4 hg hat HO3 HB3
   go_wp2_with fail
   exact ⟨⟨4 + 1, by omega, by go_num, Lib.hid (by rw [hsn.out]; exact H2.out), H3⟩, by simp [intOf]⟩
  ·have hsn : Hid (FS.take (5 + 1) = FS.take 5 ++ [((5 + 1 : Int), X6)]) := Lib.hid (by rw [HF.out]; rfl)
   have hll : Hid ((FS.take 5).length + 1 < 100000000000) := Lib.hid (by rw [HF.out]; simp)
   have KL : Blk (wr.alloc (.cells #[.int .i64 (5 + 1), .func (.func 27) #[] #[.pointer (some ⟨w.heap.size, 0, none⟩), .pointer (some ⟨b5, 0, none⟩), .pointer (some ⟨d5, 0, none⟩)]] 73)) wr.heap.size #[.int .i64 (5 + 1), .func (.func 27) #[] #[.pointer (some ⟨w.heap.size, 0, none⟩), .pointer (some ⟨b5, 0, none⟩), .pointer (some ⟨d5, 0, none⟩)]] 73 := Blk.new _ _ _
   generalize FS.take 5 = done at *
   go_wp2_with fail
   refine (HP4.out _ (by have := hb.out; exact bm)).mono ?_; rintro e w3 ⟨rfl, k3⟩
   replace KL := KL.tr k3
   obtain ⟨lL, cL, fL⟩ := KL.get
   have HO3 : Hid (OwnR 77 2 encF w3 W0.heap.size u6 done) := Lib.hid (ho.out.tr (by exact bm))
   have HB3 : Hid (Below W0.heap.size W0 w3) := Lib.hid (by have := hb.out; exact bm)
   clear k3 ho hb
   go_wp2_with (at_builtin; refine app_frame _ rfl _ _ rfl W0.heap.size _ _ done ((5 + 1 : Int), X6) rfl rfl ?d0 ?d1 hll.out ?d3 ?d4)
   case d0 => exact HO3.out.tr (by exact bm)
   case d1 => refine one_g _ ((5 + 1 : Int), X6) _ rfl _ ?_; try simp
   case d3 => have := HB3.out.size; simp; omega
   case d4 =>
   intro v' w4 ho4 hg hat
   have H2 : Hid (OwnR 77 2 encF w4 W0.heap.size v' (done ++ [((5 + 1 : Int), X6)])) := Lib.hid ho4
   have H3 : Hid (Below W0.heap.size W0 w4) := Lib.hid (below_ofO hg (by have := HB3.out.size; simp; omega) HO3.out.block |> fun h => Below.trans (by have := HB3.out; exact bm) h)
   clear ho4 hg hat HO3 HB3
   go_wp2_with fail
   exact ⟨⟨5 + 1, by omega, by go_num, Lib.hid (by rw [hsn.out]; exact H2.out), H3⟩, by simp [intOf]⟩
  ·have ho2 : OwnR 77 2 encF wr W0.heap.size u6 FS := by
    have := ho.out
    rw [show FS.take 6 = FS by rw [HF.out]; rfl] at this
    exact this
   have HO := Lib.hid ho2
   clear ho ho2
   go_wp2_with fail
   refine (HJ.out _ _ (HO.out.sees (fun _ => rfl))).mono ?_; rintro e w3 ⟨rfl, k3⟩
   go_wp2_with fail
   go_ret2
   refine ⟨by rw [← HJ2.out]; rfl, ?_⟩
   have h1 := hb0.out
   have h2 := hb.out
   exact bm
end Go.Proofs.YtpgjploaliefdaaGreat.im
namespace Go.Proofs.YtpgjploaliefdaaGreat.im
open Go Go.RowKit cm cw ga gr hp ob hd cp ck
open fr (joinR)
set_option linter.unusedVariables false
set_option linter.unusedSimpArgs false
set_option maxRecDepth 100000
set_option maxHeartbeats 4000000
theorem obj_lit (w : World) (o : Ob) (b : Nat) (h : Blk w b (obCells o).toArray 58) : ObjsIn w (.slice (some ⟨b, 0, none⟩) 1 1) [o] := by
 obtain ⟨lb, cb, fb⟩ := h.get
 refine ⟨some ⟨b, 0, none⟩, b, 0, 1, rfl, ⟨fun _ => rfl, fun e => by cases e⟩, Nat.le_refl _, (by simp), lb, ObjsAt.of fun i hi => ?_⟩
 obtain rfl : i = 0 := by simp at hi; exact hi
 have key : ∀ j u, (obCells o)[j]? = some u → w.cell? ⟨b, 0 + 0 * 5 + j, none⟩ = some u := by
  intro j u hu
  rw [cb]
  simpa using hu
 exact ⟨key 0 _ rfl, key 1 _ rfl, key 2 _ rfl, key 3 _ rfl, key 4 _ rfl⟩
theorem nums_lit (w : World) (zs : List Int) (cs : Array Value) (b : Nat) (h : Blk w b cs 24) (hc : cs = (zs.map fun n : Int => Value.int .u64 n).toArray) (h0 : zs.length < 1000) (hp : 0 < zs.length) : NumsIn w (.slice (some ⟨b, 0, none⟩) zs.length zs.length) zs := by
 obtain ⟨lb, cb, fb⟩ := h.get
 refine ⟨some ⟨b, 0, none⟩, b, 0, zs.length, rfl, ⟨fun _ => rfl, fun e => by cases e⟩, Nat.le_refl _, by omega, lb, words_of fun i hi => ?_⟩
 rw [Nat.zero_add, cb, hc]
 simp [List.getD, hi]
theorem small_lit {zs : List Int} (h : ∀ z ∈ zs, 0 ≤ z ∧ z < 18446744073709551616) : Small zs := fun i => by
 simp only [List.getD]
 by_cases hi : i < zs.length
 ·rw [List.getElem?_eq_getElem hi]
  exact h _ (List.getElem_mem hi)
 ·rw [List.getElem?_eq_none (by omega)]
  exact ⟨by decide, by decide⟩
theorem hin0 (w : World) (hz : 0 < w.heap.size) : HIn w h0 ⟨.slice none 0 0, .slice none 0 0, .slice none 0 0, .slice none 0 0, .slice none 0 0⟩ := by
 have hs : Small [] := small_lit (fun z hz => by cases hz)
 exact ⟨⟨by decide, by decide⟩, ⟨by decide, by decide⟩, ⟨by decide, by decide⟩, ⟨by decide, by decide⟩, NumsIn.nil ‹_›, NumsIn.nil ‹_›, NumsIn.nil ‹_›, NumsIn.nil ‹_›, NumsIn.nil ‹_›, hs, hs, hs, hs, hs⟩
theorem hin1 (w : World) (vl vr : Value) (hl : NumsIn w vl [2, 6]) (hr : NumsIn w vr [21]) (hz : 0 < w.heap.size) : HIn w h1 ⟨vl, .slice none 0 0, .slice none 0 0, .slice none 0 0, vr⟩ := by
 have hs : Small [] := small_lit (fun z hz => by cases hz)
 exact ⟨⟨by decide, by decide⟩, ⟨by decide, by decide⟩, ⟨by decide, by decide⟩, ⟨by decide, by decide⟩, hl, NumsIn.nil ‹_›, NumsIn.nil ‹_›, NumsIn.nil ‹_›, hr, small_lit (by decide), hs, hs, hs, small_lit (by decide)⟩
theorem tg1 : TgB [ob1] := fun o ho => by
 obtain rfl : o = ob1 := by simpa using ho
 decide
theorem aw_HO1 : ∀ (W : World) (b b2 : Nat), Blk W b #[.int .u64 2, .int .u64 6] 24 → Blk W b2 #[.int .i64 0, .int .i64 1, .int .i64 0, .bool false, .int .u64 0] 58 → Calls Tryz.prog 15 #[.slice (some ⟨b, 0, none⟩) 2 2, .slice (some ⟨b2, 0, none⟩) 1 1] W fun e w' => e = .returned (.tuple #[.string ⟨#[1, 0, 1, 0, 6, 0, 0, 0, 0, 0, 0, 0]⟩, .int .i64 0]) ∧ Below W.heap.size W w' :=
 fun W b b2 B1 B2 => by
  have := objs_any _ _ [2, 6] [ob1] W (nums_lit W [2, 6] _ b B1 rfl (by decide) (by decide)) (small_lit (by decide)) (obj_lit W ob1 b2 B2) tg1 (by decide) (by decide)
  rw [aw_o1] at this
  exact this
theorem aw_HO2 : ∀ (W : World) (b : Nat), Blk W b #[.int .u64 2] 24 → Calls Tryz.prog 15 #[.slice (some ⟨b, 0, none⟩) 1 1, .slice none 0 0] W fun e w' => e = .returned (.tuple #[.string ⟨#[]⟩, .int .i64 1]) ∧ Below W.heap.size W w' :=
 fun W b B1 => by
  have := objs_any _ _ [2] [] W (nums_lit W [2] _ b B1 rfl (by decide) (by decide)) (small_lit (by decide)) (ObjsIn.nil (Nat.lt_of_le_of_lt (Nat.zero_le _) B1.lt)) (fun o ho => by cases ho) (by decide) (by decide)
  rw [aw_o2] at this
  exact this
theorem aw_HR1 : ∀ (W : World) (b : Nat), Blk W b #[.int .u64 0, .int .u64 11] 24 → Calls Tryz.prog 17 #[.slice (some ⟨b, 0, none⟩) 2 2] W fun e w' => e = .returned (.tuple #[.string ⟨#[0, 5]⟩, .int .i64 0]) ∧ Below W.heap.size W w' :=
 fun W b B1 => by
  have := refs_any _ [0, 11] W (nums_lit W [0, 11] _ b B1 rfl (by decide) (by decide)) (small_lit (by decide)) (by decide)
  rw [aw_r1] at this
  exact this
theorem aw_HR2 : ∀ (W : World) (b : Nat), Blk W b #[.int .u64 4] 24 → Calls Tryz.prog 17 #[.slice (some ⟨b, 0, none⟩) 1 1] W fun e w' => e = .returned (.tuple #[.string ⟨#[]⟩, .int .i64 3]) ∧ Below W.heap.size W w' :=
 fun W b B1 => by
  have := refs_any _ [4] W (nums_lit W [4] _ b B1 rfl (by decide) (by decide)) (small_lit (by decide)) (by decide)
  rw [aw_r2] at this
  exact this
theorem aw_HD0 : ∀ (W : World), 0 < W.heap.size → Calls Tryz.prog 10 #[.agg #[.int .u64 0, .int .i64 0, .int .i64 0, .bool false, .int .i64 0, .slice none 0 0, .slice none 0 0, .slice none 0 0, .slice none 0 0, .slice none 0 0]] W fun e w' => e = .returned (.tuple #[.string ⟨#[]⟩, .int .i64 1]) ∧ Below W.heap.size W w' :=
 fun W hW => dump_none h0 ⟨.slice none 0 0, .slice none 0 0, .slice none 0 0, .slice none 0 0, .slice none 0 0⟩ W (hin0 W hW) aw_n
theorem aw_HD1 {d : ByteArray} (hd1 : joinR (framesOf h1 s1) = (d, 0)) : ∀ (W : World) (b b2 : Nat), Blk W b #[.int .u64 2, .int .u64 6] 24 → Blk W b2 #[.int .u64 21] 24 → Calls Tryz.prog 10 #[.agg #[.int .u64 10, .int .i64 5, .int .i64 0, .bool false, .int .i64 2, .slice (some ⟨b, 0, none⟩) 2 2, .slice none 0 0, .slice none 0 0, .slice none 0 0, .slice (some ⟨b2, 0, none⟩) 1 1]] W fun e w' => e = .returned (.tuple #[.string d, .int .i64 0]) ∧ Below W.heap.size W w' :=
 fun W b b2 B1 B2 => by
  have := dump_some h1 ⟨.slice (some ⟨b, 0, none⟩) 2 2, .slice none 0 0, .slice none 0 0, .slice none 0 0, .slice (some ⟨b2, 0, none⟩) 1 1⟩ s1 W (hin1 W _ _ (nums_lit W [2, 6] _ b B1 rfl (by decide) (by decide)) (nums_lit W [21] _ b2 B2 rfl (by decide) (by decide)) (Nat.lt_of_le_of_lt (Nat.zero_le _) B1.lt)) aw_h
  rw [hd1] at this
  exact this
theorem awake_pos (w : World) : Calls Tryz.prog 6 #[] w fun e w' => e = .returned (.bool true) ∧ Below w.heap.size w w' ∧ 0 < w'.heap.size := by
 have HO1 := Lib.hid aw_HO1
 have HO2 := Lib.hid aw_HO2
 have HR1 := Lib.hid aw_HR1
 have HR2 := Lib.hid aw_HR2
 have HD0 := Lib.hid aw_HD0
 obtain ⟨d, hd1, hd2, hd3⟩ := aw_d
 have HD1 := Lib.hid (aw_HD1 hd1)
 have h8 : (8 : Int) ≤ (d.size : Int) := by omega
 have HS := Lib.hid hd2
 have HE := Lib.hid hd3
 clear hd1 hd3
 go_enter Tryz.func6, Tryz.ntmps6
 go_wp2_with fail
 refine (HO1.out _ _ _ ?_ ?_).mono ?_
 ·exact bk
 ·exact bk
 rintro e w1 ⟨rfl, k1⟩
 go_wp2_with fail
 refine (HO2.out _ _ ?_).mono ?_
 ·exact bk
 rintro e w2 ⟨rfl, k2⟩
 go_wp2_with fail
 refine (HR1.out _ _ ?_).mono ?_
 ·exact bk
 rintro e w3 ⟨rfl, k3⟩
 go_wp2_with fail
 refine (HR2.out _ _ ?_).mono ?_
 ·exact bk
 rintro e w4 ⟨rfl, k4⟩
 have hz : 0 < w4.heap.size := by have := k4.size; simp at this; omega
 go_wp2_with fail
 refine (HD0.out _ hz).mono ?_
 rintro e w5 ⟨rfl, k5⟩
 go_wp2_with fail
 refine (HD1.out _ _ _ ?_ ?_).mono ?_
 ·exact bk
 ·exact bk
 rintro e w6 ⟨rfl, k6⟩
 go_wp2_with fail
 go_ret
 refine retB2 (by rw [HE.out]; kernel_rfl) ⟨?_, ?_⟩
 ·exact bm
 ·have := k5.size; have := k6.size; simp at this; omega
theorem awake_any (w : World) : Calls Tryz.prog 6 #[] w fun e w' => e = .returned (.bool true) ∧ Below w.heap.size w w' := (awake_pos w).mono fun e w' h => ⟨h.1, h.2.1⟩
end Go.Proofs.YtpgjploaliefdaaGreat.im
