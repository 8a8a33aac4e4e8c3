/- Layer 11's raw heaps: Heap and Still. No conditions. -/
import Derived.Test.YtpgjploaliefdaaGreatTk
import Derived.Test.YtpgjploaliefdaaGreatMt
import Derived.Test.YtpgjploaliefdaaGreatMj
namespace Go.Proofs.YtpgjploaliefdaaGreat.rh
open Go Go.RowKit hp ob hd cp ck gr lx
set_option linter.unusedVariables false
set_option linter.unusedSimpArgs false
set_option maxRecDepth 100000
set_option maxHeartbeats 4000000
theorem hin_sf {W : World} {h : Hp} {v : Hv} (a : HIn W h v) : ∃ l h o f r : Sl, v = ⟨slV l, slV h, slV o, slV f, slV r⟩ := by
 obtain ⟨vl, vh, vo, vf, vr⟩ := v
 obtain ⟨_, _, _, _, h1, h2, h3, h4, h5, _, _, _, _, _⟩ := a
 obtain ⟨_, _, _, _, e1, _⟩ := (of_nums h1).form
 obtain ⟨_, _, _, _, e2, _⟩ := (of_nums h2).form
 obtain ⟨_, _, _, _, e3, _⟩ := (of_nums h3).form
 obtain ⟨_, _, _, _, e4, _⟩ := (of_nums h4).form
 obtain ⟨_, _, _, _, e5, _⟩ := (of_nums h5).form
 exact ⟨(_, _, _), (_, _, _), (_, _, _), (_, _, _), (_, _, _), by rw [Hv.mk.injEq]; exact ⟨e1, e2, e3, e4, e5⟩⟩
theorem Off.less {W : World} {n m : Nat} {P : World → Prop} (h : Off W 0 m P) (hn : n ≤ m) : Off W 0 n P := fun W' h1 h2 => h W' h1 fun j hj hj2 => h2 j hj (by omega)
def HeapR (H : Hp) (n0 : Nat) (w : World) (e : Ending) (w' : World) : Prop := (∃ l h o f r : Sl, e = .returned (hpV H ⟨slV l, slV h, slV o, slV f, slV r⟩) ∧ Off w' 0 n0 fun W => HIn W H ⟨slV l, slV h, slV o, slV f, slV r⟩) ∧ Below w.heap.size w w'
theorem fill_lit (x : Rh) (c : Bool) (X : Xv) (v : Hv) (gs qs hs os : Sl) (w : World) (n0 : Nat) (hn0 : n0 ≤ w.heap.size) (hf : Off w 0 n0 fun W => FIn W x c (standH x c) v gs qs hs os) (hx : XIn w X x) :
  Calls Tryz.prog 22 #[builtV (standH x c) v (slV gs) (slV qs) (slV hs) (slV os), .agg (xCells X x)] w fun e w' => HeapR (heapP x c) n0 w e w' := by
 refine (fill_any x c X v gs qs hs os w n0 hn0 hf hx).mono ?_
 rintro e w' ⟨⟨u, rfl, hu⟩, hb⟩
 obtain ⟨l, h, o, f, r, rfl⟩ := hin_sf hu.now
 exact ⟨⟨l, h, o, f, r, rfl, hu⟩, hb⟩
theorem stand_lit (X : Xv) (x : Rh) (c : Bool) (w : World) (hx : XIn w X x) :
  Calls Tryz.prog 21 #[.agg (xCells X x), .bool c] w fun e w' => (∃ (l3 : Nat) (l1 : Option Addr) (h o f gs qs hs os : Sl), e = .returned (builtV (standH x c) ⟨.slice l1 (hof x c 1 (nN x)) l3, slV h, slV o, slV f, .slice none 0 0⟩ (slV gs) (slV qs) (slV hs) (slV os)) ∧ Off w' 0 w.heap.size fun W => FIn W x c (standH x c) ⟨.slice l1 (hof x c 1 (nN x)) l3, slV h, slV o, slV f, .slice none 0 0⟩ gs qs hs os) ∧ Below w.heap.size w w' := by
 refine (stand_any X x c w hx).mono ?_
 rintro e w' ⟨⟨v, gs, qs, hs, os, rfl, hf⟩, hb⟩
 have F := hf.now
 obtain ⟨⟨la, lc, e1⟩, ⟨ha, hc, e2⟩, ⟨oa, oc, e3⟩, ⟨fa, fc, e4⟩, _⟩ := F.bin.hf
 have e5 := F.r
 obtain ⟨vl, vh, vo, vf, vr⟩ := v
 dsimp only at e1 e2 e3 e4 e5
 have el : (standH x c).low.length = hof x c 1 (nN x) := by unfold standH; simp
 rw [el] at e1
 subst e1 e2 e3 e4 e5
 exact ⟨⟨lc, la, (_, _, _), (_, _, _), (_, _, _), gs, qs, hs, os, rfl, hf⟩, hb⟩
theorem still_any (X : Xv) (x : Rh) (w : World) (hx : XIn w X x) : Calls Tryz.prog 9 #[.agg (xCells X x)] w fun e w' => HeapR (heapP x false) w.heap.size w e w' := by
 obtain ⟨⟨a1, n1, c1⟩, ⟨a2, n2, c2⟩, ⟨a3, n3, c3⟩⟩ := X
 have HS1 : Hid (∀ W, Below w.heap.size w W → Calls Tryz.prog 21 #[.agg (xCells ⟨(a1, n1, c1), (a2, n2, c2), (a3, n3, c3)⟩ x), .bool false] W fun e w' => StandR x false W e w') := Lib.hid fun W hb => stand_any _ x false W (hx.tr hb)
 have HFL : Hid (∀ W v gs qs hs os n0, n0 ≤ W.heap.size → Below w.heap.size w W → (Off W 0 n0 fun W => FIn W x false (standH x false) v gs qs hs os) → Calls Tryz.prog 22 #[builtV (standH x false) v (slV gs) (slV qs) (slV hs) (slV os), .agg (xCells ⟨(a1, n1, c1), (a2, n2, c2), (a3, n3, c3)⟩ x)] W fun e w' => (∃ l h o f r : Sl, e = .returned (.agg #[.int .u64 (heapP x false).base, .int .i64 (heapP x false).cap, .int .i64 (heapP x false).tt, .bool (heapP x false).cyc, .int .i64 (heapP x false).scan, .slice l.1 l.2.1 l.2.2, .slice h.1 h.2.1 h.2.2, .slice o.1 o.2.1 o.2.2, .slice f.1 f.2.1 f.2.2, .slice r.1 r.2.1 r.2.2]) ∧ Off w' 0 n0 fun W => HIn W (heapP x false) ⟨.slice l.1 l.2.1 l.2.2, .slice h.1 h.2.1 h.2.2, .slice o.1 o.2.1 o.2.2, .slice f.1 f.2.1 f.2.2, .slice r.1 r.2.1 r.2.2⟩) ∧ Below W.heap.size W w') := Lib.hid fun W v gs qs hs os n0 h0 hb hf => fill_lit x false _ v gs qs hs os W n0 h0 hf (hx.tr hb)
 obtain ⟨HB, hHB⟩ : ∃ m, (heapP x false).base = m := ⟨_, rfl⟩
 obtain ⟨HC, hHC⟩ : ∃ m, (heapP x false).cap = m := ⟨_, rfl⟩
 obtain ⟨HT, hHT⟩ : ∃ m, (heapP x false).tt = m := ⟨_, rfl⟩
 obtain ⟨HY, hHY⟩ : ∃ m, (heapP x false).cyc = m := ⟨_, rfl⟩
 obtain ⟨HS, hHS⟩ : ∃ m, (heapP x false).scan = m := ⟨_, rfl⟩
 rw [hHB, hHC, hHT, hHY, hHS] at HFL
 have HEQ := Lib.hid (And.intro hHB (And.intro hHC (And.intro hHT (And.intro hHY hHS))))
 clear hHB hHC hHT hHY hHS hx
 unfold xCells slV at *
 dsimp only at *
 go_enter Tryz.func9, Tryz.ntmps9
 go_upto_region 1 with (fail)
 have K1 : Blk ((w.alloc (.cells #[Value.slice a1 n1 c1, .slice a2 n2 c2, .slice a3 n3 c3, .int .u64 x.base, .int .i64 x.slack, .int .i64 x.scan, .int .i64 x.tt] 26)).alloc (.cells #[.int .u64 0, .int .i64 0, .int .i64 0, .bool false, .int .i64 0, .slice none 0 0, .slice none 0 0, .slice none 0 0, .slice none 0 0, .slice none 0 0] 32)) w.heap.size #[Value.slice a1 n1 c1, .slice a2 n2 c2, .slice a3 n3 c3, .int .u64 x.base, .int .i64 x.slack, .int .i64 x.scan, .int .i64 x.tt] 26 := (Blk.new _ _ _).alloc _
 have K2 : Blk ((w.alloc (.cells #[Value.slice a1 n1 c1, .slice a2 n2 c2, .slice a3 n3 c3, .int .u64 x.base, .int .i64 x.slack, .int .i64 x.scan, .int .i64 x.tt] 26)).alloc (.cells #[.int .u64 0, .int .i64 0, .int .i64 0, .bool false, .int .i64 0, .slice none 0 0, .slice none 0 0, .slice none 0 0, .slice none 0 0, .slice none 0 0] 32)) (w.heap.size + 1) _ 32 := Blk.mk (by simp)
 have kW : Below w.heap.size w ((w.alloc (.cells #[Value.slice a1 n1 c1, .slice a2 n2 c2, .slice a3 n3 c3, .int .u64 x.base, .int .i64 x.slack, .int .i64 x.scan, .int .i64 x.tt] 26)).alloc (.cells #[.int .u64 0, .int .i64 0, .int .i64 0, .bool false, .int .i64 0, .slice none 0 0, .slice none 0 0, .slice none 0 0, .slice none 0 0, .slice none 0 0] 32)) := by exact bm
 generalize (w.alloc (.cells #[Value.slice a1 n1 c1, .slice a2 n2 c2, .slice a3 n3 c3, .int .u64 x.base, .int .i64 x.slack, .int .i64 x.scan, .int .i64 x.tt] 26)).alloc (.cells #[.int .u64 0, .int .i64 0, .int .i64 0, .bool false, .int .i64 0, .slice none 0 0, .slice none 0 0, .slice none 0 0, .slice none 0 0, .slice none 0 0] 32) = W0 at *
 obtain ⟨lk, dk, fk⟩ := K1.get
 have hl2 := K2.lt
 have HKE : Hid (∀ W' : World, Below W0.heap.size W0 W' → ∀ i, W'.cell? ⟨w.heap.size, i, none⟩ = #[Value.slice a1 n1 c1, .slice a2 n2 c2, .slice a3 n3 c3, .int .u64 x.base, .int .i64 x.slack, .int .i64 x.scan, .int .i64 x.tt][i]?) := Lib.hid fun W' h => (K1.tr h).get.2.1
 refine wp_region_held_drew (S := (fun w' => ∀ i, w'.cell? ⟨w.heap.size, i, none⟩ = #[Value.slice a1 n1 c1, .slice a2 n2 c2, .slice a3 n3 c3, .int .u64 x.base, .int .i64 x.slack, .int .i64 x.scan, .int .i64 x.tt][i]?)) (by kernel_rfl) ?_ (fun hHeld => ?_)
 ·(try dsimp only); refine HKE.out _ ?_; exact bm
 refine tk 0 ?_
 refine tk 2 ?_
 refine co 1 fun K hK => ?_
 go_simp
 go_at_call 21; refine (HS1.out _ (by exact bm)).mono ?_; rintro e w2 ⟨⟨v, gs, qs, hs, os, rfl, hf⟩, k2⟩; go_wp2_with fail
 refine hK.out _ _ ?_ (fun hHeld => ?_)
 ·(try dsimp only); refine HKE.out _ ?_; exact bm
 clear hK K
 refine nx ?_
 have hd0 : W0.drew.heap.size = W0.heap.size := rfl
 rw [hd0] at hf
 refine co 3 fun K hK => ?_
 go_simp
 go_at_call 22; refine (HFL.out _ _ _ _ _ _ W0.heap.size (by have := k2.size; rw [hd0] at this; exact this) (by exact bm) hf).mono ?_; rintro e w5 ⟨⟨⟨l1, l2, l3⟩, ⟨h1, h2, h3⟩, ⟨o1, o2, o3⟩, ⟨f1, f2, f3⟩, ⟨r1, r2, r3⟩, rfl, hu⟩, k5⟩; go_wp2_with fail
 refine hK.out _ _ ?_ (fun hHeld => ?_)
 ·(try dsimp only); refine HKE.out _ ?_; exact bm
 clear hK K
 refine nx ?_
 have b5 : Below W0.heap.size W0 w5 := by exact bm
 have hx5 := K1.tr b5
 have hr5 := K2.tr b5
 obtain ⟨lr, cr, fr⟩ := hr5.get
 have hne : w.heap.size ≠ w.heap.size + 1 := by omega
 obtain ⟨LV, hLV⟩ : ∃ L : List (Nat × Value), L = [(0, Value.int .u64 HB), (1, .int .i64 HC), (2, .int .i64 HT), (3, .bool HY), (4, .int .i64 HS), (5, .slice l1 l2 l3), (6, .slice h1 h2 h3), (7, .slice o1 o2 o3), (8, .slice f1 f2 f3), (9, .slice r1 r2 r3)] := ⟨_, rfl⟩
 have hW : ((((((((((w5.setCell ⟨w.heap.size + 1, 0, none⟩ (.int .u64 HB)).setCell ⟨w.heap.size + 1, 1, none⟩ (.int .i64 HC)).setCell ⟨w.heap.size + 1, 2, none⟩ (.int .i64 HT)).setCell ⟨w.heap.size + 1, 3, none⟩ (.bool HY)).setCell ⟨w.heap.size + 1, 4, none⟩ (.int .i64 HS)).setCell ⟨w.heap.size + 1, 5, none⟩ (.slice l1 l2 l3)).setCell ⟨w.heap.size + 1, 6, none⟩ (.slice h1 h2 h3)).setCell ⟨w.heap.size + 1, 7, none⟩ (.slice o1 o2 o3)).setCell ⟨w.heap.size + 1, 8, none⟩ (.slice f1 f2 f3)).setCell ⟨w.heap.size + 1, 9, none⟩ (.slice r1 r2 r3)) = setC w5 (w.heap.size + 1) LV := by rw [hLV]; simp only [setC]
 have HWE := Lib.hid hW
 have HLV := Lib.hid hLV
 have HX5 := Lib.hid (Blk.offC (L := LV) hx5 hne)
 clear hW hLV hx5 dk fk
 refine co 4 fun K hK => ?_
 go_simp
 skip
 refine hK.out _ _ ?_ (fun hHeld => ?_)
 ·(try dsimp only); rw [HWE.out]; exact fun i => HX5.out.get.2.1 i
 clear hK K
 refine nx ?_
 refine wpAnyH_done (by kernel_rfl) ?_ _
 have hr6 := Blk.setC (L := LV) hr5
 have hu6 := Off.setC (L := LV) (b := w.heap.size + 1) hu (Nat.zero_le _) hl2
 have bw6 := low_setC (L := LV) (b := w.heap.size + 1) (kp_tr kW b5) (Nat.le_succ _)
 rw [← HWE.out] at hr6 hu6 bw6
 have hle : w.heap.size ≤ W0.heap.size := kW.size
 clear HWE HX5 hHeld lr cr fr hr5 hu b5 k5 k2 hf HKE K1 K2 kW
 generalize ((((((((((w5.setCell ⟨w.heap.size + 1, 0, none⟩ (.int .u64 HB)).setCell ⟨w.heap.size + 1, 1, none⟩ (.int .i64 HC)).setCell ⟨w.heap.size + 1, 2, none⟩ (.int .i64 HT)).setCell ⟨w.heap.size + 1, 3, none⟩ (.bool HY)).setCell ⟨w.heap.size + 1, 4, none⟩ (.int .i64 HS)).setCell ⟨w.heap.size + 1, 5, none⟩ (.slice l1 l2 l3)).setCell ⟨w.heap.size + 1, 6, none⟩ (.slice h1 h2 h3)).setCell ⟨w.heap.size + 1, 7, none⟩ (.slice o1 o2 o3)).setCell ⟨w.heap.size + 1, 8, none⟩ (.slice f1 f2 f3)).setCell ⟨w.heap.size + 1, 9, none⟩ (.slice r1 r2 r3)) = W6 at *
 rw [HLV.out] at hr6
 simp only [setA, List.setIfInBounds_toArray, List.set_cons_zero, List.set_cons_succ] at hr6
 clear HLV
 obtain ⟨lr, cr, fr⟩ := hr6.get
 go_wp2_with fail
 refine bodyPost_ret (v := .agg #[Value.int .u64 HB, .int .i64 HC, .int .i64 HT, .bool HY, .int .i64 HS, .slice l1 l2 l3, .slice h1 h2 h3, .slice o1 o2 o3, .slice f1 f2 f3, .slice r1 r2 r3]) (by simp only [results, Tryz.results9]; go_simp) rfl ?_
 refine ⟨⟨(l1, l2, l3), (h1, h2, h3), (o1, o2, o3), (f1, f2, f3), (r1, r2, r3), ?_, hu6.less hle⟩, bw6⟩
 unfold hpV slV
 dsimp only
 rw [HEQ.out.1, HEQ.out.2.1, HEQ.out.2.2.1, HEQ.out.2.2.2.1, HEQ.out.2.2.2.2]
theorem heap_any (X : Xv) (x : Rh) (w : World) (hx : XIn w X x) : Calls Tryz.prog 7 #[.agg (xCells X x)] w fun e w' => HeapR (heapF x) w.heap.size w e w' := by
 obtain ⟨⟨a1, n1, c1⟩, ⟨a2, n2, c2⟩, ⟨a3, n3, c3⟩⟩ := X
 have HS1 : Hid (∀ W, Below w.heap.size w W → Calls Tryz.prog 21 #[.agg (xCells ⟨(a1, n1, c1), (a2, n2, c2), (a3, n3, c3)⟩ x), .bool true] W fun e w' => (∃ (l3 : Nat) (l1 : Option Addr) (h o f gs qs hs os : Sl), e = .returned (.agg #[.int .u64 (standH x true).base, .int .i64 (standH x true).cap, .int .i64 (standH x true).tt, .bool (standH x true).cyc, .int .i64 (standH x true).scan, .slice l1 (hof x true 1 (nN x)) l3, .slice h.1 h.2.1 h.2.2, .slice o.1 o.2.1 o.2.2, .slice f.1 f.2.1 f.2.2, .slice none 0 0, .slice gs.1 gs.2.1 gs.2.2, .slice qs.1 qs.2.1 qs.2.2, .slice hs.1 hs.2.1 hs.2.2, .slice os.1 os.2.1 os.2.2]) ∧ Off w' 0 W.heap.size fun W => FIn W x true (standH x true) ⟨.slice l1 (hof x true 1 (nN x)) l3, .slice h.1 h.2.1 h.2.2, .slice o.1 o.2.1 o.2.2, .slice f.1 f.2.1 f.2.2, .slice none 0 0⟩ gs qs hs os) ∧ Below W.heap.size W w') := Lib.hid fun W hb => stand_lit _ x true W (hx.tr hb)
 have HFL : Hid (∀ W l1 l3 (h o f gs qs hs os : Sl) n0, n0 ≤ W.heap.size → Below w.heap.size w W → (Off W 0 n0 fun W => FIn W x true (standH x true) ⟨.slice l1 (hof x true 1 (nN x)) l3, .slice h.1 h.2.1 h.2.2, .slice o.1 o.2.1 o.2.2, .slice f.1 f.2.1 f.2.2, .slice none 0 0⟩ gs qs hs os) → Calls Tryz.prog 22 #[.agg #[.int .u64 (standH x true).base, .int .i64 (standH x true).cap, .int .i64 (standH x true).tt, .bool (standH x true).cyc, .int .i64 (standH x true).scan, .slice l1 (hof x true 1 (nN x)) l3, .slice h.1 h.2.1 h.2.2, .slice o.1 o.2.1 o.2.2, .slice f.1 f.2.1 f.2.2, .slice none 0 0, .slice gs.1 gs.2.1 gs.2.2, .slice qs.1 qs.2.1 qs.2.2, .slice hs.1 hs.2.1 hs.2.2, .slice os.1 os.2.1 os.2.2], .agg (xCells ⟨(a1, n1, c1), (a2, n2, c2), (a3, n3, c3)⟩ x)] W fun e w' => (∃ l h o f r : Sl, e = .returned (.agg #[.int .u64 (heapP x true).base, .int .i64 (heapP x true).cap, .int .i64 (heapP x true).tt, .bool (heapP x true).cyc, .int .i64 (heapP x true).scan, .slice l.1 l.2.1 l.2.2, .slice h.1 h.2.1 h.2.2, .slice o.1 o.2.1 o.2.2, .slice f.1 f.2.1 f.2.2, .slice r.1 r.2.1 r.2.2]) ∧ Off w' 0 n0 fun W => HIn W (heapP x true) ⟨.slice l.1 l.2.1 l.2.2, .slice h.1 h.2.1 h.2.2, .slice o.1 o.2.1 o.2.2, .slice f.1 f.2.1 f.2.2, .slice r.1 r.2.1 r.2.2⟩) ∧ Below W.heap.size W w') := Lib.hid fun W l1 l3 h o f gs qs hs os n0 h0 hb hf => fill_lit x true _ ⟨.slice l1 (hof x true 1 (nN x)) l3, .slice h.1 h.2.1 h.2.2, .slice o.1 o.2.1 o.2.2, .slice f.1 f.2.1 f.2.2, .slice none 0 0⟩ gs qs hs os W n0 h0 hf (hx.tr hb)
 have HST : Hid (∀ W, Below w.heap.size w W → Calls Tryz.prog 9 #[.agg (xCells ⟨(a1, n1, c1), (a2, n2, c2), (a3, n3, c3)⟩ x)] W fun e w' => (∃ l h o f r : Sl, e = .returned (.agg #[.int .u64 (heapP x false).base, .int .i64 (heapP x false).cap, .int .i64 (heapP x false).tt, .bool (heapP x false).cyc, .int .i64 (heapP x false).scan, .slice l.1 l.2.1 l.2.2, .slice h.1 h.2.1 h.2.2, .slice o.1 o.2.1 o.2.2, .slice f.1 f.2.1 f.2.2, .slice r.1 r.2.1 r.2.2]) ∧ Off w' 0 W.heap.size fun W => HIn W (heapP x false) ⟨.slice l.1 l.2.1 l.2.2, .slice h.1 h.2.1 h.2.2, .slice o.1 o.2.1 o.2.2, .slice f.1 f.2.1 f.2.2, .slice r.1 r.2.1 r.2.2⟩) ∧ Below W.heap.size W w') := Lib.hid fun W hb => still_any _ x W (hx.tr hb)
 have HHF : Hid (heapF x = if hof x true 1 (nN x) = 0 then heapP x false else heapP x true) := rfl
 obtain ⟨SB, hSB⟩ : ∃ m, (standH x true).base = m := ⟨_, rfl⟩
 obtain ⟨SC, hSC⟩ : ∃ m, (standH x true).cap = m := ⟨_, rfl⟩
 obtain ⟨ST, hST⟩ : ∃ m, (standH x true).tt = m := ⟨_, rfl⟩
 obtain ⟨SY, hSY⟩ : ∃ m, (standH x true).cyc = m := ⟨_, rfl⟩
 obtain ⟨SS, hSS⟩ : ∃ m, (standH x true).scan = m := ⟨_, rfl⟩
 obtain ⟨PB, hPB⟩ : ∃ m, (heapP x true).base = m := ⟨_, rfl⟩
 obtain ⟨PC, hPC⟩ : ∃ m, (heapP x true).cap = m := ⟨_, rfl⟩
 obtain ⟨PT, hPT⟩ : ∃ m, (heapP x true).tt = m := ⟨_, rfl⟩
 obtain ⟨PY, hPY⟩ : ∃ m, (heapP x true).cyc = m := ⟨_, rfl⟩
 obtain ⟨PS, hPS⟩ : ∃ m, (heapP x true).scan = m := ⟨_, rfl⟩
 obtain ⟨QB, hQB⟩ : ∃ m, (heapP x false).base = m := ⟨_, rfl⟩
 obtain ⟨QC, hQC⟩ : ∃ m, (heapP x false).cap = m := ⟨_, rfl⟩
 obtain ⟨QT, hQT⟩ : ∃ m, (heapP x false).tt = m := ⟨_, rfl⟩
 obtain ⟨QY, hQY⟩ : ∃ m, (heapP x false).cyc = m := ⟨_, rfl⟩
 obtain ⟨QS, hQS⟩ : ∃ m, (heapP x false).scan = m := ⟨_, rfl⟩
 rw [hSB, hSC, hST, hSY, hSS] at HS1
 rw [hSB, hSC, hST, hSY, hSS, hPB, hPC, hPT, hPY, hPS] at HFL
 rw [hQB, hQC, hQT, hQY, hQS] at HST
 have HEP := Lib.hid (And.intro hPB (And.intro hPC (And.intro hPT (And.intro hPY hPS))))
 clear hPB hPC hPT hPY hPS
 have HEQ := Lib.hid (And.intro hQB (And.intro hQC (And.intro hQT (And.intro hQY hQS))))
 clear hQB hQC hQT hQY hQS
 clear hSB hSC hST hSY hSS hx
 unfold xCells slV at *
 dsimp only at *
 generalize hof x true 1 (nN x) = M at *
 go_enter Tryz.func7, Tryz.ntmps7
 go_wp2_with fail
 refine (HS1.out _ ?_).mono ?_
 ·exact bm
 rintro e w2 ⟨⟨l3, l1, ⟨h1, h2, h3⟩, ⟨o1, o2, o3⟩, ⟨f1, f2, f3⟩, ⟨g1, g2, g3⟩, ⟨q1, q2, q3⟩, ⟨i1, i2, i3⟩, ⟨j1, j2, j3⟩, rfl, hf⟩, k2⟩
 dsimp only at hf
 have K1 : Blk w2 w.heap.size #[Value.slice a1 n1 c1, .slice a2 n2 c2, .slice a3 n3 c3, .int .u64 x.base, .int .i64 x.slack, .int .i64 x.scan, .int .i64 x.tt] 26 := Blk.tr (.alloc (.new _ _ _) _) k2
 have K2 : Blk w2 (w.heap.size + 1) _ 32 := Blk.tr (.mk (by simp)) k2
 have kw2 : Below w.heap.size w w2 := by exact bm
 have hn0 : w.heap.size + 2 ≤ w2.heap.size := by have := k2.size; simpa using this
 have hf2 := hf.less (n := w.heap.size + 2) (by first | (simp; done) | (simp; omega))
 have HF2 := Lib.hid hf2
 clear hf hf2 k2
 obtain ⟨lx, cx, fx⟩ := K1.get
 by_cases hM : M = 0
 ·rw [if_pos hM] at HHF
  subst hM
  go_wp2_with fail
  refine (HST.out _ ?_).mono ?_
  ·exact bm
  rintro e w4 ⟨⟨⟨l4, l5, l6⟩, ⟨h4, h5, h6⟩, ⟨o4, o5, o6⟩, ⟨f4, f5, f6⟩, ⟨r4, r5, r6⟩, rfl, hu⟩, k4⟩
  have Kr := Blk.tr (.alloc K2 _) k4
  have bw5 : Below w.heap.size w w4 := by exact bm
  have hlt : w.heap.size + 1 < w.heap.size + 2 := by omega
  replace hu := hu.less (n := w.heap.size + 2) (by first | (simp; done) | (simp; omega))
  clear k4 K1 K2 lx cx fx HF2
  have hr5 := Kr
  obtain ⟨lr, cr, fr⟩ := hr5.get
  go_wp2_with fail
  obtain ⟨LV, hLV⟩ : ∃ L : List (Nat × Value), L = [(0, Value.int .u64 QB), (1, .int .i64 QC), (2, .int .i64 QT), (3, .bool QY), (4, .int .i64 QS), (5, .slice l4 l5 l6), (6, .slice h4 h5 h6), (7, .slice o4 o5 o6), (8, .slice f4 f5 f6), (9, .slice r4 r5 r6)] := ⟨_, rfl⟩
  have hW : ((((((((((w4.setCell ⟨w.heap.size + 1, 0, none⟩ (.int .u64 QB)).setCell ⟨w.heap.size + 1, 1, none⟩ (.int .i64 QC)).setCell ⟨w.heap.size + 1, 2, none⟩ (.int .i64 QT)).setCell ⟨w.heap.size + 1, 3, none⟩ (.bool QY)).setCell ⟨w.heap.size + 1, 4, none⟩ (.int .i64 QS)).setCell ⟨w.heap.size + 1, 5, none⟩ (.slice l4 l5 l6)).setCell ⟨w.heap.size + 1, 6, none⟩ (.slice h4 h5 h6)).setCell ⟨w.heap.size + 1, 7, none⟩ (.slice o4 o5 o6)).setCell ⟨w.heap.size + 1, 8, none⟩ (.slice f4 f5 f6)).setCell ⟨w.heap.size + 1, 9, none⟩ (.slice r4 r5 r6)) = setC w4 (w.heap.size + 1) LV := by rw [hLV]; simp only [setC]
  have hr6 := Blk.setC (L := LV) hr5
  have hu6 := Off.setC (L := LV) (b := w.heap.size + 1) hu (Nat.zero_le _) hlt
  have bw6 := low_setC (L := LV) (b := w.heap.size + 1) bw5 (Nat.le_succ _)
  rw [← hW] at hr6 hu6 bw6
  clear hW lr cr fr hr5 Kr hu bw5
  generalize ((((((((((w4.setCell ⟨w.heap.size + 1, 0, none⟩ (.int .u64 QB)).setCell ⟨w.heap.size + 1, 1, none⟩ (.int .i64 QC)).setCell ⟨w.heap.size + 1, 2, none⟩ (.int .i64 QT)).setCell ⟨w.heap.size + 1, 3, none⟩ (.bool QY)).setCell ⟨w.heap.size + 1, 4, none⟩ (.int .i64 QS)).setCell ⟨w.heap.size + 1, 5, none⟩ (.slice l4 l5 l6)).setCell ⟨w.heap.size + 1, 6, none⟩ (.slice h4 h5 h6)).setCell ⟨w.heap.size + 1, 7, none⟩ (.slice o4 o5 o6)).setCell ⟨w.heap.size + 1, 8, none⟩ (.slice f4 f5 f6)).setCell ⟨w.heap.size + 1, 9, none⟩ (.slice r4 r5 r6)) = W6 at *
  rw [hLV] at hr6
  simp only [setA, List.setIfInBounds_toArray, List.set_cons_zero, List.set_cons_succ] at hr6
  clear hLV
  obtain ⟨lr, cr, fr⟩ := hr6.get
  refine bodyPost_ret (v := .agg #[Value.int .u64 QB, .int .i64 QC, .int .i64 QT, .bool QY, .int .i64 QS, .slice l4 l5 l6, .slice h4 h5 h6, .slice o4 o5 o6, .slice f4 f5 f6, .slice r4 r5 r6]) (by simp only [results, Tryz.results7]; go_simp) rfl ?_
  rw [HHF.out]
  refine ⟨⟨(l4, l5, l6), (h4, h5, h6), (o4, o5, o6), (f4, f5, f6), (r4, r5, r6), ?_, hu6.less (by omega)⟩, bw6⟩
  unfold hpV slV
  dsimp only
  rw [HEQ.out.1, HEQ.out.2.1, HEQ.out.2.2.1, HEQ.out.2.2.2.1, HEQ.out.2.2.2.2]
 ·rw [if_neg hM] at HHF
  have hM0 : ((M : Int) == 0) = false := by rw [beq_eq_false_iff_ne]; omega
  have hM1 : ¬ ((M : Int) = 0) := by omega
  clear hM
  go_wp2_with fail
  refine (HFL.out _ _ _ (h1, h2, h3) (o1, o2, o3) (f1, f2, f3) (g1, g2, g3) (q1, q2, q3) (i1, i2, i3) (j1, j2, j3) (w.heap.size + 2) ?_ ?_ ?_).mono ?_
  ·simp; omega
  ·exact bm
  ·exact HF2.out.tr (by exact bm)
  rintro e w4 ⟨⟨⟨l4, l5, l6⟩, ⟨h4, h5, h6⟩, ⟨o4, o5, o6⟩, ⟨f4, f5, f6⟩, ⟨r4, r5, r6⟩, rfl, hu⟩, k4⟩
  have Kr := Blk.tr (.alloc K2 _) k4
  have bw5 : Below w.heap.size w w4 := by exact bm
  have hlt : w.heap.size + 1 < w.heap.size + 2 := by omega
  clear k4 K1 K2 lx cx fx HF2
  have hr5 := Kr
  obtain ⟨lr, cr, fr⟩ := hr5.get
  go_wp2_with fail
  obtain ⟨LV, hLV⟩ : ∃ L : List (Nat × Value), L = [(0, Value.int .u64 PB), (1, .int .i64 PC), (2, .int .i64 PT), (3, .bool PY), (4, .int .i64 PS), (5, .slice l4 l5 l6), (6, .slice h4 h5 h6), (7, .slice o4 o5 o6), (8, .slice f4 f5 f6), (9, .slice r4 r5 r6)] := ⟨_, rfl⟩
  have hW : ((((((((((w4.setCell ⟨w.heap.size + 1, 0, none⟩ (.int .u64 PB)).setCell ⟨w.heap.size + 1, 1, none⟩ (.int .i64 PC)).setCell ⟨w.heap.size + 1, 2, none⟩ (.int .i64 PT)).setCell ⟨w.heap.size + 1, 3, none⟩ (.bool PY)).setCell ⟨w.heap.size + 1, 4, none⟩ (.int .i64 PS)).setCell ⟨w.heap.size + 1, 5, none⟩ (.slice l4 l5 l6)).setCell ⟨w.heap.size + 1, 6, none⟩ (.slice h4 h5 h6)).setCell ⟨w.heap.size + 1, 7, none⟩ (.slice o4 o5 o6)).setCell ⟨w.heap.size + 1, 8, none⟩ (.slice f4 f5 f6)).setCell ⟨w.heap.size + 1, 9, none⟩ (.slice r4 r5 r6)) = setC w4 (w.heap.size + 1) LV := by rw [hLV]; simp only [setC]
  have hr6 := Blk.setC (L := LV) hr5
  have hu6 := Off.setC (L := LV) (b := w.heap.size + 1) hu (Nat.zero_le _) hlt
  have bw6 := low_setC (L := LV) (b := w.heap.size + 1) bw5 (Nat.le_succ _)
  rw [← hW] at hr6 hu6 bw6
  clear hW lr cr fr hr5 Kr hu bw5
  generalize ((((((((((w4.setCell ⟨w.heap.size + 1, 0, none⟩ (.int .u64 PB)).setCell ⟨w.heap.size + 1, 1, none⟩ (.int .i64 PC)).setCell ⟨w.heap.size + 1, 2, none⟩ (.int .i64 PT)).setCell ⟨w.heap.size + 1, 3, none⟩ (.bool PY)).setCell ⟨w.heap.size + 1, 4, none⟩ (.int .i64 PS)).setCell ⟨w.heap.size + 1, 5, none⟩ (.slice l4 l5 l6)).setCell ⟨w.heap.size + 1, 6, none⟩ (.slice h4 h5 h6)).setCell ⟨w.heap.size + 1, 7, none⟩ (.slice o4 o5 o6)).setCell ⟨w.heap.size + 1, 8, none⟩ (.slice f4 f5 f6)).setCell ⟨w.heap.size + 1, 9, none⟩ (.slice r4 r5 r6)) = W6 at *
  rw [hLV] at hr6
  simp only [setA, List.setIfInBounds_toArray, List.set_cons_zero, List.set_cons_succ] at hr6
  clear hLV
  obtain ⟨lr, cr, fr⟩ := hr6.get
  refine bodyPost_ret (v := .agg #[Value.int .u64 PB, .int .i64 PC, .int .i64 PT, .bool PY, .int .i64 PS, .slice l4 l5 l6, .slice h4 h5 h6, .slice o4 o5 o6, .slice f4 f5 f6, .slice r4 r5 r6]) (by simp only [results, Tryz.results7]; go_simp) rfl ?_
  rw [HHF.out]
  refine ⟨⟨(l4, l5, l6), (h4, h5, h6), (o4, o5, o6), (f4, f5, f6), (r4, r5, r6), ?_, hu6.less (by omega)⟩, bw6⟩
  unfold hpV slV
  dsimp only
  rw [HEP.out.1, HEP.out.2.1, HEP.out.2.2.1, HEP.out.2.2.2.1, HEP.out.2.2.2.2]
end Go.Proofs.YtpgjploaliefdaaGreat.rh
