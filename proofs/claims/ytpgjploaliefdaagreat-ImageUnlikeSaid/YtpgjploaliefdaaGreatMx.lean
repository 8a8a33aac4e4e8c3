/- Layer 18: ImageLong. No conditions. -/
import Derived.Test.YtpgjploaliefdaaGreatMu
import Derived.Test.YtpgjploaliefdaaGreatG18
import Derived.Test.YtpgjploaliefdaaGreatG16
import Derived.Test.YtpgjploaliefdaaGreatG21
namespace Go.Proofs.YtpgjploaliefdaaGreat.im
open Go Go.RowKit hp ob hd cp ck gr lx rh
open fr (joinR)
set_option linter.unusedVariables false
set_option linter.unusedSimpArgs false
set_option maxRecDepth 100000
set_option maxHeartbeats 4000000
theorem hin_form {W : World} {h : Hp} {v : Hv} (a : HIn W h v) : ∃ la lc ha hc oa oc fa fc ra rc, v = ⟨.slice la h.low.length lc, .slice ha h.high.length hc, .slice oa h.old.length oc, .slice fa h.far.length fc, .slice ra h.roots.length rc⟩ := by
 obtain ⟨vl, vh, vo, vf, vr⟩ := v
 obtain ⟨_, _, _, _, h1, h2, h3, h4, h5, _, _, _, _, _⟩ := a
 obtain ⟨_, _, _, _, e1, _⟩ := (of_nums h1).form
 obtain ⟨_, _, _, _, e2, _⟩ := (of_nums h2).form
 obtain ⟨_, _, _, _, e3, _⟩ := (of_nums h3).form
 obtain ⟨_, _, _, _, e4, _⟩ := (of_nums h4).form
 obtain ⟨_, _, _, _, e5, _⟩ := (of_nums h5).form
 exact ⟨_, _, _, _, _, _, _, _, _, _, by rw [Hv.mk.injEq]; exact ⟨e1, e2, e3, e4, e5⟩⟩
theorem heap_form (X : Xv) (x : Rh) (w : World) (hx : XIn w X x) : Calls Tryz.prog 7 #[.agg (xCells X x)] w fun e w' => (∃ la lc ha hc oa oc fa fc ra rc, e = .returned (hpV (heapF x) ⟨.slice la (heapF x).low.length lc, .slice ha (heapF x).high.length hc, .slice oa (heapF x).old.length oc, .slice fa (heapF x).far.length fc, .slice ra (heapF x).roots.length rc⟩) ∧ HIn w' (heapF x) ⟨.slice la (heapF x).low.length lc, .slice ha (heapF x).high.length hc, .slice oa (heapF x).old.length oc, .slice fa (heapF x).far.length fc, .slice ra (heapF x).roots.length rc⟩) ∧ Below w.heap.size w w' := by
 refine (heap_any X x w hx).mono ?_
 rintro e w' ⟨⟨l, h, o, f, r, rfl, hu⟩, hb⟩
 have hin := hu.now
 obtain ⟨la, lc, ha, hc, oa, oc, fa, fc, ra, rc, ev⟩ := hin_form hin
 rw [ev] at hin ⊢
 exact ⟨⟨la, lc, ha, hc, oa, oc, fa, fc, ra, rc, rfl, hin⟩, hb⟩
theorem long_walk (X : Xv) (x : Rh) (w : World) (hx : XIn w X x) : Calls Tryz.prog 5 #[.agg (xCells X x)] w fun e w' => e = .returned (.bool true) ∧ Below w.heap.size w w' := by
 have HAW : Hid (∀ W, Calls Tryz.prog 6 #[] W fun e w' => e = .returned (.bool true) ∧ Below W.heap.size W w') := Lib.hid fun W => awake_any W
 obtain ⟨⟨a1, n1, c1⟩, ⟨a2, n2, c2⟩, ⟨a3, n3, c3⟩⟩ := X
 obtain ⟨s, hs⟩ := heapF_right hx.ok
 have HHP : Hid (∀ W, Below w.heap.size w W → Calls Tryz.prog 7 #[.agg (xCells ⟨(a1, n1, c1), (a2, n2, c2), (a3, n3, c3)⟩ x)] W fun e w' => (∃ la lc ha hc oa oc fa fc ra rc, e = .returned (hpV (heapF x) ⟨.slice la (heapF x).low.length lc, .slice ha (heapF x).high.length hc, .slice oa (heapF x).old.length oc, .slice fa (heapF x).far.length fc, .slice ra (heapF x).roots.length rc⟩) ∧ HIn w' (heapF x) ⟨.slice la (heapF x).low.length lc, .slice ha (heapF x).high.length hc, .slice oa (heapF x).old.length oc, .slice fa (heapF x).far.length fc, .slice ra (heapF x).roots.length rc⟩) ∧ Below W.heap.size W w') := Lib.hid fun W hb => heap_form _ x W (hx.tr hb)
 have HDU : Hid (∀ W v, HIn W (heapF x) v → Calls Tryz.prog 10 #[hpV (heapF x) v] W fun e w' => e = .returned (.tuple #[.string (joinR (framesOf (heapF x) s)).1, .int .i64 (joinR (framesOf (heapF x) s)).2]) ∧ Below W.heap.size W w') := Lib.hid fun W v hin => dump_some _ v s W hin hs
 have HLN : Hid (∀ W v, HIn W (heapF x) v → (joinR (framesOf (heapF x) s)).2 = 0 ∧ (joinR (framesOf (heapF x) s)).1.size ≤ 10 * ((heapF x).low.length + (heapF x).high.length + (heapF x).old.length + (heapF x).far.length) + 10 * (heapF x).roots.length + 150 ∧ 36 + (heapF x).roots.length ≤ (joinR (framesOf (heapF x) s)).1.size) := Lib.hid fun W v hin => image_len hs hin.base hin.slow hin.shigh hin.sold hin.sfar hin.sroots
 obtain ⟨p1, p2, p3, p4, p5, p6, p7, p8, hl⟩ := head_pos hs
 have hl1 := hl 1 (by omega)
 have hl2 := hl 2 (by omega)
 have hl3 := hl 3 (by omega)
 have hl4 := hl 4 (by omega)
 have q1 : (heapF x).part 1 = (heapF x).low := rfl
 have q2 : (heapF x).part 2 = (heapF x).high := rfl
 have q3 : (heapF x).part 3 = (heapF x).old := rfl
 have q4 : (heapF x).part 4 = (heapF x).far := rfl
 rw [q1] at hl1
 rw [q2] at hl2
 rw [q3] at hl3
 rw [q4] at hl4
 clear hx p1 p2 p3 p5 p6 p7 p8 hl q1 q2 q3 q4
 unfold xCells hpV slV at *
 dsimp only at *
 generalize (heapF x).low.length = N1 at *
 generalize (heapF x).high.length = N2 at *
 generalize (heapF x).old.length = N3 at *
 generalize (heapF x).far.length = N4 at *
 generalize (heapF x).roots.length = N5 at *
 generalize (joinR (framesOf (heapF x) s)).1 = S at *
 generalize (joinR (framesOf (heapF x) s)).2 = E at *
 go_enter Tryz.func5, Tryz.ntmps5
 go_wp2_with fail
 refine (HAW.out _).mono ?_; rintro e w1 ⟨rfl, k1⟩
 have K1 : Blk w1 w.heap.size #[Value.slice a1 n1 c1, .slice a2 n2 c2, .slice a3 n3 c3, .int .u64 x.base, .int .i64 x.slack, .int .i64 x.scan, .int .i64 x.tt] 26 := Blk.tr (.new _ _ _) k1
 obtain ⟨l1, c1, f1⟩ := K1.get
 go_wp2_with fail
 refine (HHP.out _ ?_).mono ?_
 ·exact bm
 rintro e w2 ⟨⟨la, lc, ha, hc, oa, oc, fa, fc, ra, rc, rfl, hin⟩, k2⟩
 have hln := HLN.out _ _ hin
 obtain ⟨rfl, hz1, hz2⟩ := hln
 have HIN := Lib.hid hin
 clear hin K1
 go_wp2_with fail
 refine (HDU.out _ _ (HIN.out.tr ?_)).mono ?_
 ·exact bm
 rintro e w3 ⟨rfl, k3⟩
 have K2 : Blk w3 w2.heap.size _ 32 := Blk.tr (.mk rfl) k3
 obtain ⟨lr, cr, fr⟩ := K2.get
 have hsz : S.size < 1000000 := by omega
 have hA : ((S.size : Int) ≤ 10 * ((N1 : Int) + N2 + N3 + N4) + 10 * (N5 : Int) + 150) := by omega
 have hB : ((S.size : Int) ≥ 36 + (N5 : Int)) := by omega
 go_wp2_with fail
 all_goals first
  | (exfalso; omega)
  | (go_ret; refine ⟨rfl, ?_⟩; exact bm)
end Go.Proofs.YtpgjploaliefdaaGreat.im
