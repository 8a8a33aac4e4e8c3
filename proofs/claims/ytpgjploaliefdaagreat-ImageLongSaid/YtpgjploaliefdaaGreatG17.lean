/- awake of layer 18's laws. No conditions. -/
import Derived.Test.YtpgjploaliefdaaGreatG16
import Derived.Test.YtpgjploaliefdaaGreatIh
import Derived.Test.YtpgjploaliefdaaGreatMu
import Derived.Test.YtpgjploaliefdaaGreatMw
import Derived.Test.YtpgjploaliefdaaGreatMv
namespace Go.Proofs.YtpgjploaliefdaaGreat.im
open Go Go.RowKit Go.Proofs.YtpgjploaliefdaaGreat.cm Go.Proofs.YtpgjploaliefdaaGreat.cw Go.Proofs.YtpgjploaliefdaaGreat.ga Go.Proofs.YtpgjploaliefdaaGreat.gr Go.Proofs.YtpgjploaliefdaaGreat.hp Go.Proofs.YtpgjploaliefdaaGreat.ob Go.Proofs.YtpgjploaliefdaaGreat.hd Go.Proofs.YtpgjploaliefdaaGreat.cp Go.Proofs.YtpgjploaliefdaaGreat.ck
open Go.Proofs.YtpgjploaliefdaaGreat.fr (joinR)
set_option linter.unusedVariables false
set_option linter.unusedSimpArgs false
set_option maxRecDepth 100000
set_option maxHeartbeats 4000000
theorem obj_lit (w : World) (o : Ob) (b : Nat) (h : Blk w b (obCells o).toArray 58) : ObjsIn w (.slice (some ⟨b, 0, none⟩) 1 1) [o] := by
  obtain ⟨lb, cb, fb⟩ := h.get
  refine ⟨some ⟨b, 0, none⟩, b, 0, 1, rfl, ⟨fun _ => rfl, fun e => by cases e⟩, Nat.le_refl _, (by simp), lb, ObjsAt.of fun i hi => ?_⟩
  obtain rfl : i = 0 := by simp at hi; exact hi
  have key : ∀ j u, (obCells o)[j]? = some u → w.cell? ⟨b, 0 + 0 * 5 + j, none⟩ = some u := by
    intro j u hu
    rw [cb]
    simpa using hu
  exact ⟨key 0 _ rfl, key 1 _ rfl, key 2 _ rfl, key 3 _ rfl, key 4 _ rfl⟩
theorem nums_lit (w : World) (zs : List Int) (cs : Array Value) (b : Nat) (h : Blk w b cs 24) (hc : cs = (zs.map fun n : Int => Value.int .u64 n).toArray) (h0 : zs.length < 1000) (hp : 0 < zs.length) : NumsIn w (.slice (some ⟨b, 0, none⟩) zs.length zs.length) zs := by
  obtain ⟨lb, cb, fb⟩ := h.get
  refine ⟨some ⟨b, 0, none⟩, b, 0, zs.length, rfl, ⟨fun _ => rfl, fun e => by cases e⟩, Nat.le_refl _, by omega, lb, words_of fun i hi => ?_⟩
  rw [Nat.zero_add, cb, hc]
  simp [List.getD, hi]
theorem small_lit {zs : List Int} (h : ∀ z ∈ zs, 0 ≤ z ∧ z < 18446744073709551616) : Small zs := fun i => by
  simp only [List.getD]
  by_cases hi : i < zs.length
  · rw [List.getElem?_eq_getElem hi]
    exact h _ (List.getElem_mem hi)
  · rw [List.getElem?_eq_none (by omega)]
    exact ⟨by decide, by decide⟩
theorem hin0 (w : World) (hz : 0 < w.heap.size) : HIn w h0 ⟨.slice none 0 0, .slice none 0 0, .slice none 0 0, .slice none 0 0, .slice none 0 0⟩ := by
  have hs : Small [] := small_lit (fun z hz => by cases hz)
  exact ⟨⟨by decide, by decide⟩, ⟨by decide, by decide⟩, ⟨by decide, by decide⟩, ⟨by decide, by decide⟩, NumsIn.nil ‹_›, NumsIn.nil ‹_›, NumsIn.nil ‹_›, NumsIn.nil ‹_›, NumsIn.nil ‹_›, hs, hs, hs, hs, hs⟩
theorem hin1 (w : World) (vl vr : Value) (hl : NumsIn w vl [2, 6]) (hr : NumsIn w vr [21]) (hz : 0 < w.heap.size) : HIn w h1 ⟨vl, .slice none 0 0, .slice none 0 0, .slice none 0 0, vr⟩ := by
  have hs : Small [] := small_lit (fun z hz => by cases hz)
  exact ⟨⟨by decide, by decide⟩, ⟨by decide, by decide⟩, ⟨by decide, by decide⟩, ⟨by decide, by decide⟩, hl, NumsIn.nil ‹_›, NumsIn.nil ‹_›, NumsIn.nil ‹_›, hr, small_lit (by decide), hs, hs, hs, small_lit (by decide)⟩
theorem tg1 : TgB [ob1] := fun o ho => by
  obtain rfl : o = ob1 := by simpa using ho
  decide
theorem aw_HO1 : ∀ (W : World) (b b2 : Nat), Blk W b #[.int .u64 2, .int .u64 6] 24 → Blk W b2 #[.int .i64 0, .int .i64 1, .int .i64 0, .bool false, .int .u64 0] 58 → Calls Tryz.prog 15 #[.slice (some ⟨b, 0, none⟩) 2 2, .slice (some ⟨b2, 0, none⟩) 1 1] W fun e w' => e = .returned (.tuple #[.string ⟨#[1, 0, 1, 0, 6, 0, 0, 0, 0, 0, 0, 0]⟩, .int .i64 0]) ∧ Below W.heap.size W w' :=
  fun W b b2 B1 B2 => by
    have := objs_any _ _ [2, 6] [ob1] W (nums_lit W [2, 6] _ b B1 rfl (by decide) (by decide)) (small_lit (by decide)) (obj_lit W ob1 b2 B2) tg1 (by decide) (by decide)
    rw [aw_o1] at this
    exact this
theorem aw_HO2 : ∀ (W : World) (b : Nat), Blk W b #[.int .u64 2] 24 → Calls Tryz.prog 15 #[.slice (some ⟨b, 0, none⟩) 1 1, .slice none 0 0] W fun e w' => e = .returned (.tuple #[.string ⟨#[]⟩, .int .i64 1]) ∧ Below W.heap.size W w' :=
  fun W b B1 => by
    have := objs_any _ _ [2] [] W (nums_lit W [2] _ b B1 rfl (by decide) (by decide)) (small_lit (by decide)) (ObjsIn.nil (Nat.lt_of_le_of_lt (Nat.zero_le _) B1.lt)) (fun o ho => by cases ho) (by decide) (by decide)
    rw [aw_o2] at this
    exact this
theorem aw_HR1 : ∀ (W : World) (b : Nat), Blk W b #[.int .u64 0, .int .u64 11] 24 → Calls Tryz.prog 17 #[.slice (some ⟨b, 0, none⟩) 2 2] W fun e w' => e = .returned (.tuple #[.string ⟨#[0, 5]⟩, .int .i64 0]) ∧ Below W.heap.size W w' :=
  fun W b B1 => by
    have := refs_any _ [0, 11] W (nums_lit W [0, 11] _ b B1 rfl (by decide) (by decide)) (small_lit (by decide)) (by decide)
    rw [aw_r1] at this
    exact this
theorem aw_HR2 : ∀ (W : World) (b : Nat), Blk W b #[.int .u64 4] 24 → Calls Tryz.prog 17 #[.slice (some ⟨b, 0, none⟩) 1 1] W fun e w' => e = .returned (.tuple #[.string ⟨#[]⟩, .int .i64 3]) ∧ Below W.heap.size W w' :=
  fun W b B1 => by
    have := refs_any _ [4] W (nums_lit W [4] _ b B1 rfl (by decide) (by decide)) (small_lit (by decide)) (by decide)
    rw [aw_r2] at this
    exact this
theorem aw_HD0 : ∀ (W : World), 0 < W.heap.size → Calls Tryz.prog 10 #[.agg #[.int .u64 0, .int .i64 0, .int .i64 0, .bool false, .int .i64 0, .slice none 0 0, .slice none 0 0, .slice none 0 0, .slice none 0 0, .slice none 0 0]] W fun e w' => e = .returned (.tuple #[.string ⟨#[]⟩, .int .i64 1]) ∧ Below W.heap.size W w' :=
  fun W hW => dump_none h0 ⟨.slice none 0 0, .slice none 0 0, .slice none 0 0, .slice none 0 0, .slice none 0 0⟩ W (hin0 W hW) aw_n
theorem aw_HD1 {d : ByteArray} (hd1 : joinR (framesOf h1 s1) = (d, 0)) : ∀ (W : World) (b b2 : Nat), Blk W b #[.int .u64 2, .int .u64 6] 24 → Blk W b2 #[.int .u64 21] 24 → Calls Tryz.prog 10 #[.agg #[.int .u64 10, .int .i64 5, .int .i64 0, .bool false, .int .i64 2, .slice (some ⟨b, 0, none⟩) 2 2, .slice none 0 0, .slice none 0 0, .slice none 0 0, .slice (some ⟨b2, 0, none⟩) 1 1]] W fun e w' => e = .returned (.tuple #[.string d, .int .i64 0]) ∧ Below W.heap.size W w' :=
  fun W b b2 B1 B2 => by
    have := dump_some h1 ⟨.slice (some ⟨b, 0, none⟩) 2 2, .slice none 0 0, .slice none 0 0, .slice none 0 0, .slice (some ⟨b2, 0, none⟩) 1 1⟩ s1 W (hin1 W _ _ (nums_lit W [2, 6] _ b B1 rfl (by decide) (by decide)) (nums_lit W [21] _ b2 B2 rfl (by decide) (by decide)) (Nat.lt_of_le_of_lt (Nat.zero_le _) B1.lt)) aw_h
    rw [hd1] at this
    exact this
theorem awake_pos (w : World) : Calls Tryz.prog 6 #[] w fun e w' => e = .returned (.bool true) ∧ Below w.heap.size w w' ∧ 0 < w'.heap.size := by
  have HO1 := Lib.hid aw_HO1
  have HO2 := Lib.hid aw_HO2
  have HR1 := Lib.hid aw_HR1
  have HR2 := Lib.hid aw_HR2
  have HD0 := Lib.hid aw_HD0
  obtain ⟨d, hd1, hd2, hd3⟩ := aw_d
  have HD1 := Lib.hid (aw_HD1 hd1)
  have h8 : (8 : Int) ≤ (d.size : Int) := by omega
  have HS := Lib.hid hd2
  have HE := Lib.hid hd3
  clear hd1 hd3
  go_enter Tryz.func6, Tryz.ntmps6
  go_wp2_with fail
  refine (HO1.out _ _ _ ?_ ?_).mono ?_
  · (repeat (first | with_reducible assumption | exact Blk.mk rfl | exact Blk.mk (by simp) | refine Blk.drew ?_ | refine Blk.alloc ?_ _ | refine Blk.tr ?_ (by with_reducible assumption)))
  · (repeat (first | with_reducible assumption | exact Blk.mk rfl | exact Blk.mk (by simp) | refine Blk.drew ?_ | refine Blk.alloc ?_ _ | refine Blk.tr ?_ (by with_reducible assumption)))
  rintro e w1 ⟨rfl, k1⟩
  go_wp2_with fail
  refine (HO2.out _ _ ?_).mono ?_
  · (repeat (first | with_reducible assumption | exact Blk.mk rfl | exact Blk.mk (by simp) | refine Blk.drew ?_ | refine Blk.alloc ?_ _ | refine Blk.tr ?_ (by with_reducible assumption)))
  rintro e w2 ⟨rfl, k2⟩
  go_wp2_with fail
  refine (HR1.out _ _ ?_).mono ?_
  · (repeat (first | with_reducible assumption | exact Blk.mk rfl | exact Blk.mk (by simp) | refine Blk.drew ?_ | refine Blk.alloc ?_ _ | refine Blk.tr ?_ (by with_reducible assumption)))
  rintro e w3 ⟨rfl, k3⟩
  go_wp2_with fail
  refine (HR2.out _ _ ?_).mono ?_
  · (repeat (first | with_reducible assumption | exact Blk.mk rfl | exact Blk.mk (by simp) | refine Blk.drew ?_ | refine Blk.alloc ?_ _ | refine Blk.tr ?_ (by with_reducible assumption)))
  rintro e w4 ⟨rfl, k4⟩
  have hz : 0 < w4.heap.size := by have := k4.size; simp at this; omega
  go_wp2_with fail
  refine (HD0.out _ hz).mono ?_
  rintro e w5 ⟨rfl, k5⟩
  go_wp2_with fail
  refine (HD1.out _ _ _ ?_ ?_).mono ?_
  · (repeat (first | with_reducible assumption | exact Blk.mk rfl | exact Blk.mk (by simp) | refine Blk.drew ?_ | refine Blk.alloc ?_ _ | refine Blk.tr ?_ (by with_reducible assumption)))
  · (repeat (first | with_reducible assumption | exact Blk.mk rfl | exact Blk.mk (by simp) | refine Blk.drew ?_ | refine Blk.alloc ?_ _ | refine Blk.tr ?_ (by with_reducible assumption)))
  rintro e w6 ⟨rfl, k6⟩
  go_wp2_with fail
  go_ret
  refine retB2 (by rw [HE.out]; kernel_rfl) ⟨?_, ?_⟩
  · (repeat (first | with_reducible exact Below.refl _ _ | with_reducible refine kp_alloc ?_ _ | with_reducible refine kp_drew ?_ | with_reducible refine below_drewN ?_ _ | with_reducible refine kp_set ?_ (by first | omega | (simp; done) | (simp; omega)) _ | with_reducible refine kp_tr ?_ (by with_reducible assumption)))
  · have := k5.size; have := k6.size; simp at this; omega
theorem awake_any (w : World) : Calls Tryz.prog 6 #[] w fun e w' => e = .returned (.bool true) ∧ Below w.heap.size w w' := (awake_pos w).mono fun e w' h => ⟨h.1, h.2.1⟩
end Go.Proofs.YtpgjploaliefdaaGreat.im

namespace Go.Proofs.YtpgjploaliefdaaGreat.im
open Go Go.RowKit Go.Proofs.YtpgjploaliefdaaGreat.hp Go.Proofs.YtpgjploaliefdaaGreat.ob Go.Proofs.YtpgjploaliefdaaGreat.hd Go.Proofs.YtpgjploaliefdaaGreat.cp Go.Proofs.YtpgjploaliefdaaGreat.ck Go.Proofs.YtpgjploaliefdaaGreat.gr Go.Proofs.YtpgjploaliefdaaGreat.lx Go.Proofs.YtpgjploaliefdaaGreat.rh
open Go.Proofs.YtpgjploaliefdaaGreat.fr (joinR)
set_option linter.unusedVariables false
set_option linter.unusedSimpArgs false
set_option maxRecDepth 100000
set_option maxHeartbeats 4000000
/-- A heap in memory, in slices of its lengths. -/
theorem hin_form {W : World} {h : Hp} {v : Hv} (a : HIn W h v) : ∃ la lc ha hc oa oc fa fc ra rc, v = ⟨.slice la h.low.length lc, .slice ha h.high.length hc, .slice oa h.old.length oc, .slice fa h.far.length fc, .slice ra h.roots.length rc⟩ := by
  obtain ⟨vl, vh, vo, vf, vr⟩ := v
  obtain ⟨_, _, _, _, h1, h2, h3, h4, h5, _, _, _, _, _⟩ := a
  obtain ⟨_, _, _, _, e1, _⟩ := (of_nums h1).form
  obtain ⟨_, _, _, _, e2, _⟩ := (of_nums h2).form
  obtain ⟨_, _, _, _, e3, _⟩ := (of_nums h3).form
  obtain ⟨_, _, _, _, e4, _⟩ := (of_nums h4).form
  obtain ⟨_, _, _, _, e5, _⟩ := (of_nums h5).form
  exact ⟨_, _, _, _, _, _, _, _, _, _, by rw [Hv.mk.injEq]; exact ⟨e1, e2, e3, e4, e5⟩⟩
theorem heap_form (X : Xv) (x : Rh) (w : World) (hx : XIn w X x) : Calls Tryz.prog 7 #[.agg (xCells X x)] w fun e w' => (∃ la lc ha hc oa oc fa fc ra rc, e = .returned (hpV (heapF x) ⟨.slice la (heapF x).low.length lc, .slice ha (heapF x).high.length hc, .slice oa (heapF x).old.length oc, .slice fa (heapF x).far.length fc, .slice ra (heapF x).roots.length rc⟩) ∧ HIn w' (heapF x) ⟨.slice la (heapF x).low.length lc, .slice ha (heapF x).high.length hc, .slice oa (heapF x).old.length oc, .slice fa (heapF x).far.length fc, .slice ra (heapF x).roots.length rc⟩) ∧ Below w.heap.size w w' := by
  refine (heap_any X x w hx).mono ?_
  rintro e w' ⟨⟨l, h, o, f, r, rfl, hu⟩, hb⟩
  have hin := hu.now
  obtain ⟨la, lc, ha, hc, oa, oc, fa, fc, ra, rc, ev⟩ := hin_form hin
  rw [ev] at hin ⊢
  exact ⟨⟨la, lc, ha, hc, oa, oc, fa, fc, ra, rc, rfl, hin⟩, hb⟩
theorem long_walk (X : Xv) (x : Rh) (w : World) (hx : XIn w X x) : Calls Tryz.prog 5 #[.agg (xCells X x)] w fun e w' => e = .returned (.bool true) ∧ Below w.heap.size w w' := by
  have HAW : Hid (∀ W, Calls Tryz.prog 6 #[] W fun e w' => e = .returned (.bool true) ∧ Below W.heap.size W w') := Lib.hid fun W => awake_any W
  obtain ⟨⟨a1, n1, c1⟩, ⟨a2, n2, c2⟩, ⟨a3, n3, c3⟩⟩ := X
  obtain ⟨s, hs⟩ := heapF_right hx.ok
  have HHP : Hid (∀ W, Below w.heap.size w W → Calls Tryz.prog 7 #[.agg (xCells ⟨(a1, n1, c1), (a2, n2, c2), (a3, n3, c3)⟩ x)] W fun e w' => (∃ la lc ha hc oa oc fa fc ra rc, e = .returned (hpV (heapF x) ⟨.slice la (heapF x).low.length lc, .slice ha (heapF x).high.length hc, .slice oa (heapF x).old.length oc, .slice fa (heapF x).far.length fc, .slice ra (heapF x).roots.length rc⟩) ∧ HIn w' (heapF x) ⟨.slice la (heapF x).low.length lc, .slice ha (heapF x).high.length hc, .slice oa (heapF x).old.length oc, .slice fa (heapF x).far.length fc, .slice ra (heapF x).roots.length rc⟩) ∧ Below W.heap.size W w') := Lib.hid fun W hb => heap_form _ x W (hx.tr hb)
  have HDU : Hid (∀ W v, HIn W (heapF x) v → Calls Tryz.prog 10 #[hpV (heapF x) v] W fun e w' => e = .returned (.tuple #[.string (joinR (framesOf (heapF x) s)).1, .int .i64 (joinR (framesOf (heapF x) s)).2]) ∧ Below W.heap.size W w') := Lib.hid fun W v hin => dump_some _ v s W hin hs
  have HLN : Hid (∀ W v, HIn W (heapF x) v → (joinR (framesOf (heapF x) s)).2 = 0 ∧ (joinR (framesOf (heapF x) s)).1.size ≤ 10 * ((heapF x).low.length + (heapF x).high.length + (heapF x).old.length + (heapF x).far.length) + 10 * (heapF x).roots.length + 150 ∧ 36 + (heapF x).roots.length ≤ (joinR (framesOf (heapF x) s)).1.size) := Lib.hid fun W v hin => image_len hs hin.base hin.slow hin.shigh hin.sold hin.sfar hin.sroots
  obtain ⟨p1, p2, p3, p4, p5, p6, p7, p8, hl⟩ := head_pos hs
  have hl1 := hl 1 (by omega)
  have hl2 := hl 2 (by omega)
  have hl3 := hl 3 (by omega)
  have hl4 := hl 4 (by omega)
  have q1 : (heapF x).part 1 = (heapF x).low := rfl
  have q2 : (heapF x).part 2 = (heapF x).high := rfl
  have q3 : (heapF x).part 3 = (heapF x).old := rfl
  have q4 : (heapF x).part 4 = (heapF x).far := rfl
  rw [q1] at hl1
  rw [q2] at hl2
  rw [q3] at hl3
  rw [q4] at hl4
  clear hx p1 p2 p3 p5 p6 p7 p8 hl q1 q2 q3 q4
  unfold xCells hpV slV at *
  dsimp only at *
  generalize (heapF x).low.length = N1 at *
  generalize (heapF x).high.length = N2 at *
  generalize (heapF x).old.length = N3 at *
  generalize (heapF x).far.length = N4 at *
  generalize (heapF x).roots.length = N5 at *
  generalize (joinR (framesOf (heapF x) s)).1 = S at *
  generalize (joinR (framesOf (heapF x) s)).2 = E at *
  go_enter Tryz.func5, Tryz.ntmps5
  go_wp2_with fail
  refine (HAW.out _).mono ?_; rintro e w1 ⟨rfl, k1⟩
  have K1 : Blk w1 w.heap.size #[Value.slice a1 n1 c1, .slice a2 n2 c2, .slice a3 n3 c3, .int .u64 x.base, .int .i64 x.slack, .int .i64 x.scan, .int .i64 x.tt] 26 := Blk.tr (.new _ _ _) k1
  obtain ⟨l1, c1, f1⟩ := K1.get
  go_wp2_with fail
  refine (HHP.out _ ?_).mono ?_
  · (repeat (first | with_reducible exact Below.refl _ _ | with_reducible refine kp_alloc ?_ _ | with_reducible refine kp_drew ?_ | with_reducible refine below_drewN ?_ _ | with_reducible refine kp_set ?_ (by first | omega | (simp; done) | (simp; omega)) _ | with_reducible refine kp_tr ?_ (by with_reducible assumption)))
  rintro e w2 ⟨⟨la, lc, ha, hc, oa, oc, fa, fc, ra, rc, rfl, hin⟩, k2⟩
  have hln := HLN.out _ _ hin
  obtain ⟨rfl, hz1, hz2⟩ := hln
  have HIN := Lib.hid hin
  clear hin K1
  go_wp2_with fail
  refine (HDU.out _ _ (HIN.out.tr ?_)).mono ?_
  · (repeat (first | with_reducible exact Below.refl _ _ | with_reducible refine kp_alloc ?_ _ | with_reducible refine kp_drew ?_ | with_reducible refine below_drewN ?_ _ | with_reducible refine kp_set ?_ (by first | omega | (simp; done) | (simp; omega)) _ | with_reducible refine kp_tr ?_ (by with_reducible assumption)))
  rintro e w3 ⟨rfl, k3⟩
  have K2 : Blk w3 w2.heap.size _ 32 := Blk.tr (.mk rfl) k3
  obtain ⟨lr, cr, fr⟩ := K2.get
  have hsz : S.size < 1000000 := by omega
  have hA : ((S.size : Int) ≤ 10 * ((N1 : Int) + N2 + N3 + N4) + 10 * (N5 : Int) + 150) := by omega
  have hB : ((S.size : Int) ≥ 36 + (N5 : Int)) := by omega
  go_wp2_with fail
  all_goals first
    | (exfalso; omega)
    | (go_ret; refine ⟨rfl, ?_⟩; (repeat (first | with_reducible exact Below.refl _ _ | with_reducible refine kp_alloc ?_ _ | with_reducible refine kp_drew ?_ | with_reducible refine below_drewN ?_ _ | with_reducible refine kp_set ?_ (by first | omega | (simp; done) | (simp; omega)) _ | with_reducible refine kp_tr ?_ (by with_reducible assumption))))
end Go.Proofs.YtpgjploaliefdaaGreat.im
