/- Layer 11's heaps in which one thing is turned. No conditions. -/
import Derived.Test.YtpgjploaliefdaaGreatTk
import Derived.Test.YtpgjploaliefdaaGreatMr
import Derived.Test.YtpgjploaliefdaaGreatG20
import Derived.Deep.CutBlock
import Derived.Deep.DeepCutAuto
import Derived.Deep.CutRange
namespace Go.Proofs.YtpgjploaliefdaaGreat.rh
open Go Go.RowKit hp ob hd cp ck gr lx
set_option linter.unusedVariables false
set_option linter.unusedSimpArgs false
set_option maxRecDepth 100000
set_option maxHeartbeats 4000000
theorem hin_sf2 {W : World} {h : Hp} {v : Hv} (a : HIn W h v) : ∃ l h o f r : Sl, v = ⟨slV l, slV h, slV o, slV f, slV r⟩ := by
 obtain ⟨vl, vh, vo, vf, vr⟩ := v
 obtain ⟨_, _, _, _, h1, h2, h3, h4, h5, _, _, _, _, _⟩ := a
 obtain ⟨_, _, _, _, e1, _⟩ := (of_nums h1).form
 obtain ⟨_, _, _, _, e2, _⟩ := (of_nums h2).form
 obtain ⟨_, _, _, _, e3, _⟩ := (of_nums h3).form
 obtain ⟨_, _, _, _, e4, _⟩ := (of_nums h4).form
 obtain ⟨_, _, _, _, e5, _⟩ := (of_nums h5).form
 exact ⟨(_, _, _), (_, _, _), (_, _, _), (_, _, _), (_, _, _), by rw [Hv.mk.injEq]; exact ⟨e1, e2, e3, e4, e5⟩⟩
theorem small_of {zs : List Int} (h : ∀ z ∈ zs, 0 ≤ z ∧ z < 18446744073709551616) : Small zs := fun i => by
 simp only [List.getD]
 by_cases hi : i < zs.length
 ·rw [List.getElem?_eq_getElem hi]
  exact h _ (List.getElem_mem hi)
 ·rw [List.getElem?_eq_none (by omega)]
  exact ⟨by decide, by decide⟩
theorem of_small {zs : List Int} (h : Small zs) (x : Int) (hx : x ∈ zs) : 0 ≤ x ∧ x < 18446744073709551616 := by
 obtain ⟨i, hi, rfl⟩ := List.getElem_of_mem hx
 have := h i
 rwa [List.getD_eq_getElem?_getD, List.getElem?_eq_getElem hi] at this
theorem nums_blk {W w : World} {v : Value} {zs : List Int} (h : NumsIn W v zs) (hs : W.heap.size ≤ w.heap.size) (hg : ∀ j, j < W.heap.size → w.heap[j]? = W.heap[j]?) : NumsIn w v zs :=
 nums_of (rin_blk (of_nums h) hs hg) (by obtain ⟨_, _, _, _, _, _, _, _, h5, _⟩ := h; omega) (nums_len h)
theorem nums_off {W wx : World} {v : Value} {zs : List Int} (h : NumsIn W v zs) (hb : Below W.heap.size W wx) (m : Nat) : Off wx W.heap.size m fun W => NumsIn W v zs := fun W' hs hg =>
 nums_blk h (Nat.le_trans hb.size hs) fun j hj => (hg j (Nat.lt_of_lt_of_le hj hb.size) (.inl hj)).trans (hb.block j hj)
theorem hin_off {W wx : World} {h : Hp} {v : Hv} (a : HIn W h v) (hb : Below W.heap.size W wx) (m : Nat) : Off wx W.heap.size m fun W => HIn W h v := fun W' hs hg =>
 ⟨a.base, a.cap, a.tt, a.scan, nums_off a.low hb m W' hs hg, nums_off a.high hb m W' hs hg, nums_off a.old hb m W' hs hg, nums_off a.far hb m W' hs hg, nums_off a.roots hb m W' hs hg, a.slow, a.shigh, a.sold, a.sfar, a.sroots⟩
theorem own_nums {W : World} {n m B : Nat} {v : Value} {zs : List Int} (h : OwnR 24 1 enU W B v zs) (hB : m ≤ B) (hl : zs.length < 1000000000000) (h0 : 0 < W.heap.size) : Off W n m fun W => NumsIn W v zs := fun W' hs hg =>
 nums_of (own_off (n := n) enU_len h hB W' hs hg) (by omega) hl
theorem hin_part {W : World} {h : Hp} {v : Hv} (a : HIn W h v) (p : Nat) {u : Value} {zs : List Int} (k : NumsIn W u zs) (s : Small zs) : HIn W (setH h p zs) (setV v p u) := by
 unfold setH setV
 repeat' split
 ·exact ⟨a.base, a.cap, a.tt, a.scan, k, a.high, a.old, a.far, a.roots, s, a.shigh, a.sold, a.sfar, a.sroots⟩
 ·exact ⟨a.base, a.cap, a.tt, a.scan, a.low, k, a.old, a.far, a.roots, a.slow, s, a.sold, a.sfar, a.sroots⟩
 ·exact ⟨a.base, a.cap, a.tt, a.scan, a.low, a.high, k, a.far, a.roots, a.slow, a.shigh, s, a.sfar, a.sroots⟩
 ·exact ⟨a.base, a.cap, a.tt, a.scan, a.low, a.high, a.old, k, a.roots, a.slow, a.shigh, a.sold, s, a.sroots⟩
theorem tdiv4 {C : Int} (h : I64 C) : IntKind.i64.wrap (C.tdiv 4) = C.tdiv 4 ∧ I64 (C.tdiv 4) := by
 have key : -9223372036854775808 ≤ C.tdiv 4 ∧ C.tdiv 4 < 9223372036854775808 := by
  obtain ⟨h1, h2⟩ := h
  rcases Int.lt_or_le C 0 with h0 | h0
  ·have e : C.tdiv 4 = -((-C).tdiv 4) := by rw [Int.neg_tdiv]; omega
   rw [e, Int.tdiv_eq_ediv_of_nonneg (by omega)]
   omega
  ·rw [Int.tdiv_eq_ediv_of_nonneg h0]
   omega
 exact ⟨IntWalk.i64_in _ (by omega), key⟩
def hC (h : Hp) (l hi o f r : Sl) : Array Value := #[.int .u64 h.base, .int .i64 h.cap, .int .i64 h.tt, .bool h.cyc, .int .i64 h.scan, slV l, slV hi, slV o, slV f, slV r]
def zC : Array Value := #[.int .u64 0, .int .i64 0, .int .i64 0, .bool false, .int .i64 0, .slice none 0 0, .slice none 0 0, .slice none 0 0, .slice none 0 0, .slice none 0 0]
def TurnR (w : World) (wx : World) : Prop := ∃ (h : Hp) (l hi o f r : Sl), Blk wx w.heap.size (hC h l hi o f r) 32 ∧ (Off wx w.heap.size (w.heap.size + 2) fun W => HIn W h ⟨slV l, slV hi, slV o, slV f, slV r⟩) ∧ Blk wx (w.heap.size + 1) zC 32 ∧ Below w.heap.size w wx
theorem setH_sc (h : Hp) (p : Nat) (zs : List Int) : (setH h p zs).base = h.base ∧ (setH h p zs).cap = h.cap ∧ (setH h p zs).tt = h.tt ∧ (setH h p zs).cyc = h.cyc ∧ (setH h p zs).scan = h.scan := by
 unfold setH
 repeat' split
 all_goals exact ⟨rfl, rfl, rfl, rfl, rfl⟩
theorem turn_same {w w2 : World} {h : Hp} {l hi o f r : Sl} (b : Below w.heap.size w w2) (hin : HIn w h ⟨slV l, slV hi, slV o, slV f, slV r⟩) (K1 : Blk w2 w.heap.size (hC h l hi o f r) 32) (K2 : Blk w2 (w.heap.size + 1) zC 32) : TurnR w w2 :=
 ⟨h, l, hi, o, f, r, K1, hin_off hin b _, K2, b⟩
theorem turn_one {w w2 : World} {h : Hp} {l hi o f r : Sl} {c1 : Array Value} (b : Below w.heap.size w w2) (hoff : Off w2 w.heap.size (w.heap.size + 2) fun W => HIn W h ⟨slV l, slV hi, slV o, slV f, slV r⟩) (K1 : Blk w2 w.heap.size c1 32) (K2 : Blk w2 (w.heap.size + 1) zC 32) (i : Nat) (u : Value)
  (he : hC h l hi o f r = c1.setIfInBounds i u) : TurnR w (w2.setCell ⟨w.heap.size, i, none⟩ u) :=
 ⟨h, l, hi, o, f, r, by rw [he]; exact K1.set i u, Off.set hoff (p := ⟨w.heap.size, i, none⟩) (Nat.le_refl _) (by show w.heap.size < _; omega) u, K2.other (p := ⟨w.heap.size, i, none⟩) (by show ¬ _ = w.heap.size; omega) u, low_set b (p := ⟨w.heap.size, i, none⟩) (Nat.le_refl _) u⟩
theorem turn_with {w w2 : World} {h : Hp} {v : Hv} {p : Nat} {u : Value} {zs : List Int} {l0 i0 o0 f0 r0 : Sl} {l1 h1 o1 f1 r1 : Option Addr} {l2 l3 h2 h3 o2 o3 f2 f3 r2 r3 : Nat} (b : Below w.heap.size w w2) (hin : HIn w h v)
  (ho : Off w2 w.heap.size (w.heap.size + 2) fun W => NumsIn W u zs) (hs : Small zs) (e : setV v p u = ⟨.slice l1 l2 l3, .slice h1 h2 h3, .slice o1 o2 o3, .slice f1 f2 f3, .slice r1 r2 r3⟩)
  (K1 : Blk w2 w.heap.size (hC h l0 i0 o0 f0 r0) 32) (K2 : Blk w2 (w.heap.size + 1) zC 32) :
  TurnR w ((((((((((w2.setCell ⟨w.heap.size, 0, none⟩ (.int .u64 h.base)).setCell ⟨w.heap.size, 1, none⟩ (.int .i64 h.cap)).setCell ⟨w.heap.size, 2, none⟩ (.int .i64 h.tt)).setCell ⟨w.heap.size, 3, none⟩ (.bool h.cyc)).setCell ⟨w.heap.size, 4, none⟩ (.int .i64 h.scan)).setCell ⟨w.heap.size, 5, none⟩ (.slice l1 l2 l3)).setCell ⟨w.heap.size, 6, none⟩ (.slice h1 h2 h3)).setCell ⟨w.heap.size, 7, none⟩ (.slice o1 o2 o3)).setCell ⟨w.heap.size, 8, none⟩ (.slice f1 f2 f3)).setCell ⟨w.heap.size, 9, none⟩ (.slice r1 r2 r3)) := by
 have hoff : Off w2 w.heap.size (w.heap.size + 2) fun W => HIn W (setH h p zs) ⟨slV (l1, l2, l3), slV (h1, h2, h3), slV (o1, o2, o3), slV (f1, f2, f3), slV (r1, r2, r3)⟩ := by
  have e' : setV v p u = ⟨slV (l1, l2, l3), slV (h1, h2, h3), slV (o1, o2, o3), slV (f1, f2, f3), slV (r1, r2, r3)⟩ := e
  rw [← e']
  exact ((hin_off hin b _).and ho).imp fun W k => hin_part k.1 p k.2 hs
 have T : TurnR w (setC w2 w.heap.size [(0, .int .u64 h.base), (1, .int .i64 h.cap), (2, .int .i64 h.tt), (3, .bool h.cyc), (4, .int .i64 h.scan), (5, .slice l1 l2 l3), (6, .slice h1 h2 h3), (7, .slice o1 o2 o3), (8, .slice f1 f2 f3), (9, .slice r1 r2 r3)]) := by
  refine ⟨setH h p zs, _, _, _, _, _, ?_, Off.setC hoff (Nat.le_refl _) (by omega), Blk.offC K2 (by omega), low_setC b (Nat.le_refl _)⟩
  obtain ⟨e1, e2, e3, e4, e5⟩ := setH_sc h p zs
  have := Blk.setC (L := [(0, Value.int .u64 h.base), (1, .int .i64 h.cap), (2, .int .i64 h.tt), (3, .bool h.cyc), (4, .int .i64 h.scan), (5, .slice l1 l2 l3), (6, .slice h1 h2 h3), (7, .slice o1 o2 o3), (8, .slice f1 f2 f3), (9, .slice r1 r2 r3)]) K1
  unfold hC slV at this
  unfold hC slV
  rw [e1, e2, e3, e4, e5]
  simp only [setA, List.setIfInBounds_toArray, List.set_cons_zero, List.set_cons_succ] at this
  exact this
 simp only [setC] at T
 exact T
theorem rin_take {W : World} {ad : Option Addr} {n c : Nat} {zs : List Int} (h : RIn 1 enU W (.slice ad n c) zs) (k : Nat) (hk : k ≤ n) : RIn 1 enU W (.slice ad k c) (zs.take k) := by
 obtain ⟨ad', b, off, cap, e, h1, h2, h3, h4, h5, h6⟩ := h.form
 cases e
 have hl : (zs.take k).length = k := by simp; omega
 refine RIn.mk (ad := ad) (b := b) (off := off) (cap := c) (by rw [hl]) (fun h => h1 (by omega)) h2 (by omega) h4 (fun h => h5 (by omega)) fun i j x y hx hy => ?_
 have hi : i < k := by
  rcases Nat.lt_or_ge i k with e | e
  ·exact e
  ·rw [List.getElem?_eq_none (by omega)] at hx; cases hx
 rw [List.getElem?_take, if_pos hi] at hx
 obtain rfl := h1 (by have := List.getElem?_eq_some_iff.1 hx; omega)
 exact h6.at hx j y hy
theorem own_take {W : World} {n m B : Nat} {ad : Option Addr} {N cap : Nat} {zs : List Int} (h : OwnR 24 1 enU W B (.slice ad N cap) zs) (hB : m ≤ B) (hl : zs.length < 1000000000000) (h0 : 0 < W.heap.size) (k : Nat) (hk : k ≤ N) : Off W n m fun W => NumsIn W (.slice ad k cap) (zs.take k) := fun W' hs hg =>
 nums_of (rin_take (own_off (n := n) enU_len h hB W' hs hg) k hk) (by omega) (by simp; omega)
theorem Blk.low {W w : World} {n C : Nat} {cs : Array Value} {T : TypeId} (h : Blk W n cs T) (hb : Below C W w) (hn : n < C) : Blk w n cs T := Blk.of ((hb.block n hn).trans h.raw)
theorem small_app {xs : List Int} {x : Int} (h : Small xs) (hx : U64 x) : Small (xs ++ [x]) := small_of fun z hz => by
 rcases List.mem_append.1 hz with k | k
 ·exact of_small h z k
 ·obtain rfl := List.mem_singleton.1 k
  exact hx
theorem small_set {xs : List Int} {x : Int} (h : Small xs) (hx : U64 x) (k : Nat) : Small (xs.set k x) := small_of fun z hz => by
 rcases List.mem_or_eq_of_mem_set hz with k | rfl
 ·exact of_small h z k
 ·exact hx
theorem small_take {xs : List Int} (h : Small xs) (k : Nat) : Small (xs.take k) := small_of fun z hz => of_small h z (List.mem_of_mem_take hz)
theorem turned_any (h : Hp) (v : Hv) (which n x : Int) (w : World) (hin : HIn w h v) (hl : ∀ q, (h.part q).length ≤ 100000) (hr : h.roots.length ≤ 100000) (hwh : I64 which) (hn : I64 n) (hx : U64 x) :
  Calls Tryz.prog 8 #[hpV h v, .int .i64 which, .int .i64 n, .int .u64 x] w fun e w' => (∃ h' l hi o f r, e = .returned (hpV h' ⟨slV l, slV hi, slV o, slV f, slV r⟩) ∧ HIn w' h' ⟨slV l, slV hi, slV o, slV f, slV r⟩) ∧ Below w.heap.size w w' := by
 obtain ⟨hq1, hq2⟩ := tdiv4 hwh
 have hp4 := pickI_in which (n := 4) (by decide)
 have hp11 := pickI_in (Int.tdiv which 4) (n := 11) (by decide)
 have HP4 : Hid (∀ W, Calls Tryz.prog 23 #[.int .i64 which, .int .i64 4] W fun e w' => e = .returned (.int .i64 (pickI which 4)) ∧ W = w') := Lib.hid fun W => pick11_any which 4 W (by decide) (by decide) hwh.1 hwh.2
 have HP11 : Hid (∀ W, Calls Tryz.prog 23 #[.int .i64 (Int.tdiv which 4), .int .i64 11] W fun e w' => e = .returned (.int .i64 (pickI (Int.tdiv which 4) 11)) ∧ W = w') := Lib.hid fun W => pick11_any _ 11 W (by decide) (by decide) hq2.1 hq2.2
 have HPN : Hid (∀ W (m : Nat), 1 ≤ m → m < 1000000 → Calls Tryz.prog 23 #[.int .i64 n, .int .i64 m] W fun e w' => e = .returned (.int .i64 (pickI n m)) ∧ W = w') := Lib.hid fun W m h1 h2 => pick11_any n m W (by omega) (by omega) hn.1 hn.2
 generalize pickI (Int.tdiv which 4) 11 = C0 at *
 obtain ⟨p, hp⟩ : ∃ p : Nat, (p : Int) = 1 + pickI which 4 := ⟨(1 + pickI which 4).toNat, by omega⟩
 have hpp : 1 ≤ p ∧ p ≤ 4 := by omega
 have hw1 : IntKind.i64.wrap (1 + pickI which 4) = (p : Int) := by rw [← hp, IntWalk.i64_in _ (by omega)]
 generalize pickI which 4 = P4 at *
 have hPN := (hin.part p)
 have hlen := hl p
 have hSmall := hPN.2
 have hrow := of_nums hPN.1
 obtain ⟨pa, pb, po, pc, e3, r1, r2, r3, r4, r5, r6⟩ := hrow.form
 have HIN := Lib.hid hin
 have HX := Lib.hid hx
 have HN := Lib.hid hn
 have hsf : SF v := by
  obtain ⟨_, _, _, _, _, rfl⟩ := hin_sf2 hin
  exact ⟨⟨_, _, _, rfl⟩, ⟨_, _, _, rfl⟩, ⟨_, _, _, rfl⟩, ⟨_, _, _, rfl⟩, ⟨_, _, _, rfl⟩⟩
 have HPA : Hid (∀ W, Calls Tryz.prog 24 #[hpV h v, .int .i64 p] W fun e w' => e = .returned (.slice pa (h.part p).length pc) ∧ Below W.heap.size W w') := Lib.hid fun W => by rw [← e3]; exact part10_any h v p hpp W hsf
 have HWI : Hid (∀ W ua un uc, Calls Tryz.prog 25 #[hpV h v, .int .i64 p, .slice ua un uc] W fun e w' => (∃ l h' o f r : Sl, e = .returned (hpV h ⟨slV l, slV h', slV o, slV f, slV r⟩) ∧ setV v p (.slice ua un uc) = ⟨slV l, slV h', slV o, slV f, slV r⟩) ∧ Below W.heap.size W w') := Lib.hid fun W ua un uc => by
  refine (with10_any h v p hpp ua un uc W hsf).mono ?_
  rintro e w' ⟨rfl, k⟩
  obtain ⟨l, h', o, f, r, e⟩ := hsf.setP p ua un uc
  exact ⟨⟨l, h', o, f, r, by rw [e], e⟩, k⟩
 obtain ⟨⟨la, ln, lc⟩, ⟨ha, hn', hc⟩, ⟨oa, on_, oc⟩, ⟨fa, fn, fc⟩, ⟨ra, rn, rc⟩, hv⟩ := hin_sf2 hin
 subst hv
 have hroots := of_nums hin.roots
 have hra : rn = h.roots.length := by
  obtain ⟨_, _, _, _, e, _⟩ := hroots.form
  unfold slV at e
  injection e
 have HRO := Lib.hid hroots
 have HSM := Lib.hid hSmall
 have HSR := Lib.hid hin.sroots
 clear hin hx hn hl hwh hq2 hPN hroots hp hSmall hsf
 generalize hPv : h.part p = P at *
 rw [e3] at hrow
 clear e3 r1 r2 r3 r4 r5 r6
 have HROW := Lib.hid hrow
 clear hrow
 unfold hpV at HPA HWI ⊢
 unfold slV at HPA HWI ⊢
 dsimp only at *
 generalize hNP : P.length = N at *
 have HNP := Lib.hid hNP
 have HPV := Lib.hid hPv
 have HRA := Lib.hid hra
 clear hNP hPv hra
 go_enter Tryz.func8, Tryz.ntmps8
 go_wp2_with fail
 refine (HP4.out _).mono ?_; rintro e w0 ⟨rfl, rfl⟩
 go_wp2_with fail
 refine (HPA.out _).mono ?_; rintro e w1 ⟨rfl, k1⟩
 have K1 : Blk w1 w.heap.size #[.int .u64 h.base, .int .i64 h.cap, .int .i64 h.tt, .bool h.cyc, .int .i64 h.scan, .slice la ln lc, .slice ha hn' hc, .slice oa on_ oc, .slice fa fn fc, .slice ra rn rc] 32 := Blk.tr (.alloc (.new _ _ _) _) k1
 have K2 : Blk w1 (w.heap.size + 1) _ 32 := Blk.tr (.mk (by simp)) k1
 have b1 : Below w.heap.size w w1 := by exact bm
 clear k1
 obtain ⟨l1, c1, f1⟩ := K1.get
 obtain ⟨l2, c2, f2⟩ := K2.get
 go_wp2_with (at_builtin; refine app_u _ rfl _ _ rfl w1.heap.size (.slice none 0 0) _ [] P rfl rfl (OwnR.nil _ _) (HROW.out.tr ?e0) ?e1 ?e2 ?e3)
 case e0 => exact b1
 case e1 => have := HNP.out; simp; omega
 case e2 => exact Nat.le_refl _
 case e3 =>
 intro v2 w2 o2 hg2 hat2
 have k2 : Below w1.heap.size w1 w2 := gr_below hg2 (Below.refl _ _) (Nat.le_refl _) (fun k hk => by cases hk)
 obtain ⟨ad, cap, rfl, hc1, hc2, hc3, hc4⟩ := o2.form enU_len
 rw [HNP.out] at o2 hc1 hc4 ⊢
 have o2 := Lib.hid o2
 have b2 : Below w.heap.size w w2 := by exact bm
 replace K1 := K1.tr k2
 replace K2 := K2.tr k2
 have hle1 := b1.size
 have hle2 := k2.size
 have hsz1 := K2.lt
 have hsz0 : w.heap.size < w2.heap.size := by omega
 have HW1 : Hid (w.heap.size + 2 ≤ w1.heap.size) := Lib.hid (by omega)
 have HW2 : Hid (w1.heap.size ≤ w2.heap.size) := Lib.hid hle2
 clear hg2 hat2 k2 b1 l1 c1 f1 l2 c2 f2 HPA HROW HP4
 obtain ⟨l1, c1, f1⟩ := K1.get
 obtain ⟨l2, c2, f2⟩ := K2.get
 go_wp2_with fail
 refine (HP11.out _).mono ?_; rintro e w3 ⟨rfl, rfl⟩
 clear HP11
 go_upto_block 0 with fail
 go_cut [] (fun wx => TurnR w wx)
 case first =>
  rcases (show C0 = 0 ∨ C0 = 1 ∨ C0 = 2 ∨ C0 = 3 ∨ C0 = 4 ∨ C0 = 5 ∨ C0 = 6 ∨ 7 ≤ C0 by omega) with rfl | rfl | rfl | rfl | rfl | rfl | rfl | hC7
  ·go_wp2_with fail
   go_meet
   refine turn_one (h := { h with cyc := !h.cyc }) (l := (la, ln, lc)) (hi := (ha, hn', hc)) (o := (oa, on_, oc)) (f := (fa, fn, fc)) (r := (ra, rn, rc)) b2 ((hin_off HIN.out b2 _).imp fun W a => ⟨a.base, a.cap, a.tt, a.scan, a.low, a.high, a.old, a.far, a.roots, a.slow, a.shigh, a.sold, a.sfar, a.sroots⟩) K1 K2 _ _ ?_
   rfl
  ·go_wp2_with fail
   go_meet
   refine turn_one (h := { h with scan := n }) (l := (la, ln, lc)) (hi := (ha, hn', hc)) (o := (oa, on_, oc)) (f := (fa, fn, fc)) (r := (ra, rn, rc)) b2 ((hin_off HIN.out b2 _).imp fun W a => ⟨a.base, a.cap, a.tt, HN.out, a.low, a.high, a.old, a.far, a.roots, a.slow, a.shigh, a.sold, a.sfar, a.sroots⟩) K1 K2 _ _ ?_
   rfl
  ·go_wp2_with fail
   go_meet
   refine turn_one (h := { h with cap := n }) (l := (la, ln, lc)) (hi := (ha, hn', hc)) (o := (oa, on_, oc)) (f := (fa, fn, fc)) (r := (ra, rn, rc)) b2 ((hin_off HIN.out b2 _).imp fun W a => ⟨a.base, HN.out, a.tt, a.scan, a.low, a.high, a.old, a.far, a.roots, a.slow, a.shigh, a.sold, a.sfar, a.sroots⟩) K1 K2 _ _ ?_
   rfl
  ·go_wp2_with fail
   go_meet
   refine turn_one (h := { h with tt := n }) (l := (la, ln, lc)) (hi := (ha, hn', hc)) (o := (oa, on_, oc)) (f := (fa, fn, fc)) (r := (ra, rn, rc)) b2 ((hin_off HIN.out b2 _).imp fun W a => ⟨a.base, a.cap, HN.out, a.scan, a.low, a.high, a.old, a.far, a.roots, a.slow, a.shigh, a.sold, a.sfar, a.sroots⟩) K1 K2 _ _ ?_
   rfl
  ·go_wp2_with (at_builtin; refine app_u _ rfl _ _ rfl w2.heap.size (.slice none 0 0) _ [] h.roots rfl rfl (OwnR.nil _ _) (HRO.out.tr b2) ?e1 ?e2 ?e3)
   case e1 => simp; omega
   case e2 => exact Nat.le_refl _
   case e3 =>
   intro v4 w4 o4 hg4 hat4
   have k4 : Below w2.heap.size w2 w4 := gr_below hg4 (Below.refl _ _) (Nat.le_refl _) (fun k hk => by cases hk)
   obtain ⟨va, vl, vc, rfl⟩ := own_form3 o4 enU_len
   have hs4 := hg4.size
   replace K1 := K1.tr k4
   replace K2 := K2.tr k4
   have q4 := Lib.hid o4
   clear o4 hg4 hat4 l1 c1 f1 l2 c2 f2
   obtain ⟨l1, c1, f1⟩ := K1.get
   obtain ⟨l2, c2, f2⟩ := K2.get
   go_wp2_with (at_builtin; refine app_u _ rfl _ _ rfl w2.heap.size _ _ ([] ++ h.roots) [x] rfl rfl (q4.out.tr ?c0) (one_u _ _ rfl) ?c1 ?c2 ?c3)
   case c0 => exact bm
   case c1 => simp; omega
   case c2 => simp; omega
   case c3 =>
   intro v5 w5 o5 hg5 hat5
   have hs5 := hg5.size
   have hs55 : w4.heap.size + 1 ≤ w5.heap.size := by simpa using hs5
   have k5 : Below w2.heap.size w2 w5 := gr_below hg5 (by exact bm) (Nat.le_refl _) q4.out.block
   have L5 : Below w2.heap.size w4 w5 := gr_below hg5 (by (repeat (first | with_reducible exact Below.refl _ _ | with_reducible assumption | with_reducible refine low_alloc ?_ (by omega) _ | with_reducible refine low_drew ?_ | with_reducible refine low_set ?_ (by first | omega | (simp; done) | (simp; omega)) _))) hs4 q4.out.block
   replace K1 := Blk.low K1 L5 hsz0
   replace K2 := Blk.low K2 L5 hsz1
   obtain ⟨va5, vl5, vc5, rfl⟩ := own_form3 o5 enU_len
   have q5 : Hid (OwnR 24 1 enU w5 w2.heap.size (.slice va5 vl5 vc5) (h.roots ++ [x])) := Lib.hid o5
   have B5 : Hid (Below w.heap.size w w5) := Lib.hid (kp_tr b2 k5)
   clear o5 hg5 hat5 l1 c1 f1 l2 c2 f2 k4 k5 L5 q4
   obtain ⟨l1, c1, f1⟩ := K1.get
   obtain ⟨l2, c2, f2⟩ := K2.get
   go_wp2_with fail
   go_meet
   have h2 := HW1.out
   have h3 := HW2.out
   refine turn_one (h := { h with roots := h.roots ++ [x] }) (l := (la, ln, lc)) (hi := (ha, hn', hc)) (o := (oa, on_, oc)) (f := (fa, fn, fc)) (r := (va5, vl5, vc5)) B5.out (((hin_off HIN.out B5.out _).and (own_nums q5.out (by omega) (by simp; omega) (by omega))).imp fun W k => ⟨k.1.base, k.1.cap, k.1.tt, k.1.scan, k.1.low, k.1.high, k.1.old, k.1.far, k.2, k.1.slow, k.1.shigh, k.1.sold, k.1.sfar, small_app HSR.out HX.out⟩) K1 K2 _ _ ?_
   rfl
  ·go_upto_region 18 with (fail)
   refine wp_region_held_drew (S := (fun _ => True)) (by kernel_rfl) ?_ (fun hHeld => ?_)
   ·(try dsimp only); skip
   refine tk 1 ?_
   refine tk 2 ?_
   refine tk 3 ?_
   refine wpAnyH_ready (rs := [0, 4]) (by kernel_rfl) (by simp) ?_
   refine AllReadyH.cons rfl (fun K hK => ?_) (AllReadyH.cons rfl (fun K hK => ?_) AllReadyH.nil)
   ·go_simp
    refine hK.out _ _ trivial (fun hHeld => ?_)
    clear hK K
    try simp only [List.getElem_toArray, List.getElem_cons_succ, List.getElem_cons_zero, Act.put, List.setIfInBounds_toArray, List.set_cons_zero, List.set_cons_succ]
    refine co 4 fun K hK => ?_
    go_simp
    skip
    refine hK.out _ _ ?_ (fun hHeld => ?_)
    ·(try dsimp only); skip
    clear hK K
    refine nx ?_
    refine wpAnyH_ready (rs := [5]) (by kernel_rfl) (by simp) ?_
    refine AllReadyH.cons rfl (fun K hK => ?_) AllReadyH.nil
    refine step_u rfl (.tmp 66) (.tmp 68) rfl w1.heap.size (.slice ad N cap) _ P [x] rfl rfl (o2.out.tr (by exact bm)) ((one_u _ _ rfl).tr (Below.refl _ _).drew) ?_ ?_ ?_
    ·have := HNP.out; simp; omega
    ·have := HW2.out; simp; omega
    intro v4 w4 p4 hg4 hat4
    have k4 : Below w1.heap.size w2 w4 := gr_below hg4 (by (repeat (first | with_reducible exact Below.refl _ _ | with_reducible assumption | with_reducible refine low_alloc ?_ (by omega) _ | with_reducible refine low_drew ?_ | with_reducible refine low_set ?_ (by first | omega | (simp; done) | (simp; omega)) _))) HW2.out o2.out.block
    have q4 := Lib.hid p4
    have hsz4 := hg4.size
    clear hg4 hat4 p4
    obtain ⟨va, vl, vc, rfl⟩ := own_form3 q4.out enU_len
    have hle1 := HW1.out
    have K4 := Blk.low K1 k4 (by omega)
    obtain ⟨l4, c4, f4⟩ := K4.get
    refine hK.out _ _ ?_ (fun hHeld => ?_)
    ·trivial
    clear hK K
    try simp only [List.getElem_toArray, List.getElem_cons_succ, List.getElem_cons_zero, Act.put, List.setIfInBounds_toArray, List.set_cons_zero, List.set_cons_succ]
    refine co 6 fun K hK => ?_
    go_simp
    go_at_call 25; refine (HWI.out _ _ _ _).mono ?_; rintro e w5 ⟨⟨⟨l1, l2, l3⟩, ⟨h1, h2, h3⟩, ⟨o1, o3, o4⟩, ⟨f3, f4, f5⟩, ⟨r1, r2, r3⟩, rfl, hsv⟩, k5⟩; replace hsv := Lib.hid hsv; go_wp2_with fail
    refine hK.out _ _ ?_ (fun hHeld => ?_)
    ·(try dsimp only); skip
    clear hK K
    refine nx ?_
    have K5 := K4.tr k5
    have G5 := (Blk.low K2 k4 (by omega)).tr k5
    obtain ⟨lk, ck, fk⟩ := K5.get
    have B5 : Hid (Below w.heap.size w w5) := Lib.hid (kp_tr ((b2.trans (k4.mono (Nat.le_trans (by omega) hle1))) ) k5)
    have Q5 := Lib.hid (q4.out.tr k5)
    have hs5 := k5.size
    clear k4 k5 q4
    refine co 7 fun K hK => ?_
    go_simp
    skip
    refine hK.out _ _ ?_ (fun hHeld => ?_)
    ·(try dsimp only); skip
    clear hK K
    refine nx ?_
    refine wpAnyH_done (by kernel_rfl) ?_ _
    go_wp2_with fail
    go_meet
    refine turn_with (h := h) (p := p) (zs := P ++ [x]) (l0 := (la, ln, lc)) (i0 := (ha, hn', hc)) (o0 := (oa, on_, oc)) (f0 := (fa, fn, fc)) (r0 := (ra, rn, rc)) B5.out HIN.out (own_nums Q5.out HW1.out (by have := HNP.out; simp; omega) (by omega)) (small_app HSM.out HX.out) hsv.out K5 G5
   ·go_simp
    refine hK.out _ _ trivial (fun hHeld => ?_)
    clear hK K
    try simp only [List.getElem_toArray, List.getElem_cons_succ, List.getElem_cons_zero, Act.put, List.setIfInBounds_toArray, List.set_cons_zero, List.set_cons_succ]
    refine wpAnyH_ready (rs := [0, 5]) (by kernel_rfl) (by simp) ?_
    refine AllReadyH.cons rfl (fun K hK => ?_) (AllReadyH.cons rfl (fun K hK => ?_) AllReadyH.nil)
    ·go_simp
     refine hK.out _ _ trivial (fun hHeld => ?_)
     clear hK K
     try simp only [List.getElem_toArray, List.getElem_cons_succ, List.getElem_cons_zero, Act.put, List.setIfInBounds_toArray, List.set_cons_zero, List.set_cons_succ]
     refine wpAnyH_ready (rs := [5]) (by kernel_rfl) (by simp) ?_
     refine AllReadyH.cons rfl (fun K hK => ?_) AllReadyH.nil
     refine step_u rfl (.tmp 66) (.tmp 68) rfl w1.heap.size (.slice ad N cap) _ P [x] rfl rfl (o2.out.tr (by exact bm)) ((one_u _ _ rfl).tr (Below.refl _ _).drew) ?_ ?_ ?_
     ·have := HNP.out; simp; omega
     ·have := HW2.out; simp; omega
     intro v4 w4 p4 hg4 hat4
     have k4 : Below w1.heap.size w2 w4 := gr_below hg4 (by (repeat (first | with_reducible exact Below.refl _ _ | with_reducible assumption | with_reducible refine low_alloc ?_ (by omega) _ | with_reducible refine low_drew ?_ | with_reducible refine low_set ?_ (by first | omega | (simp; done) | (simp; omega)) _))) HW2.out o2.out.block
     have q4 := Lib.hid p4
     have hsz4 := hg4.size
     clear hg4 hat4 p4
     obtain ⟨va, vl, vc, rfl⟩ := own_form3 q4.out enU_len
     have hle1 := HW1.out
     have K4 := Blk.low K1 k4 (by omega)
     obtain ⟨l4, c4, f4⟩ := K4.get
     refine hK.out _ _ ?_ (fun hHeld => ?_)
     ·trivial
     clear hK K
     try simp only [List.getElem_toArray, List.getElem_cons_succ, List.getElem_cons_zero, Act.put, List.setIfInBounds_toArray, List.set_cons_zero, List.set_cons_succ]
     refine co 6 fun K hK => ?_
     go_simp
     go_at_call 25; refine (HWI.out _ _ _ _).mono ?_; rintro e w5 ⟨⟨⟨l1, l2, l3⟩, ⟨h1, h2, h3⟩, ⟨o1, o3, o4⟩, ⟨f3, f4, f5⟩, ⟨r1, r2, r3⟩, rfl, hsv⟩, k5⟩; replace hsv := Lib.hid hsv; go_wp2_with fail
     refine hK.out _ _ ?_ (fun hHeld => ?_)
     ·(try dsimp only); skip
     clear hK K
     refine nx ?_
     have K5 := K4.tr k5
     have G5 := (Blk.low K2 k4 (by omega)).tr k5
     obtain ⟨lk, ck, fk⟩ := K5.get
     have B5 : Hid (Below w.heap.size w w5) := Lib.hid (kp_tr ((b2.trans (k4.mono (Nat.le_trans (by omega) hle1))) ) k5)
     have Q5 := Lib.hid (q4.out.tr k5)
     have hs5 := k5.size
     clear k4 k5 q4
     refine co 7 fun K hK => ?_
     go_simp
     skip
     refine hK.out _ _ ?_ (fun hHeld => ?_)
     ·(try dsimp only); skip
     clear hK K
     refine nx ?_
     refine wpAnyH_done (by kernel_rfl) ?_ _
     go_wp2_with fail
     go_meet
     refine turn_with (h := h) (p := p) (zs := P ++ [x]) (l0 := (la, ln, lc)) (i0 := (ha, hn', hc)) (o0 := (oa, on_, oc)) (f0 := (fa, fn, fc)) (r0 := (ra, rn, rc)) B5.out HIN.out (own_nums Q5.out HW1.out (by have := HNP.out; simp; omega) (by omega)) (small_app HSM.out HX.out) hsv.out K5 G5
    ·refine step_u rfl (.tmp 66) (.tmp 68) rfl w1.heap.size (.slice ad N cap) _ P [x] rfl rfl (o2.out.tr (by exact bm)) ((one_u _ _ rfl).tr (Below.refl _ _).drew) ?_ ?_ ?_
     ·have := HNP.out; simp; omega
     ·have := HW2.out; simp; omega
     intro v4 w4 p4 hg4 hat4
     have k4 : Below w1.heap.size w2 w4 := gr_below hg4 (by (repeat (first | with_reducible exact Below.refl _ _ | with_reducible assumption | with_reducible refine low_alloc ?_ (by omega) _ | with_reducible refine low_drew ?_ | with_reducible refine low_set ?_ (by first | omega | (simp; done) | (simp; omega)) _))) HW2.out o2.out.block
     have q4 := Lib.hid p4
     have hsz4 := hg4.size
     clear hg4 hat4 p4
     obtain ⟨va, vl, vc, rfl⟩ := own_form3 q4.out enU_len
     have hle1 := HW1.out
     have K4 := Blk.low K1 k4 (by omega)
     obtain ⟨l4, c4, f4⟩ := K4.get
     refine hK.out _ _ ?_ (fun hHeld => ?_)
     ·trivial
     clear hK K
     try simp only [List.getElem_toArray, List.getElem_cons_succ, List.getElem_cons_zero, Act.put, List.setIfInBounds_toArray, List.set_cons_zero, List.set_cons_succ]
     refine co 0 fun K hK => ?_
     go_simp
     skip
     refine hK.out _ _ ?_ (fun hHeld => ?_)
     ·(try dsimp only); skip
     clear hK K
     refine nx ?_
     refine co 6 fun K hK => ?_
     go_simp
     go_at_call 25; refine (HWI.out _ _ _ _).mono ?_; rintro e w5 ⟨⟨⟨l1, l2, l3⟩, ⟨h1, h2, h3⟩, ⟨o1, o3, o4⟩, ⟨f3, f4, f5⟩, ⟨r1, r2, r3⟩, rfl, hsv⟩, k5⟩; replace hsv := Lib.hid hsv; go_wp2_with fail
     refine hK.out _ _ ?_ (fun hHeld => ?_)
     ·(try dsimp only); skip
     clear hK K
     refine nx ?_
     have K5 := K4.tr k5
     have G5 := (Blk.low K2 k4 (by omega)).tr k5
     obtain ⟨lk, ck, fk⟩ := K5.get
     have B5 : Hid (Below w.heap.size w w5) := Lib.hid (kp_tr ((b2.trans (k4.mono (Nat.le_trans (by omega) hle1))) ) k5)
     have Q5 := Lib.hid (q4.out.tr k5)
     have hs5 := k5.size
     clear k4 k5 q4
     refine co 7 fun K hK => ?_
     go_simp
     skip
     refine hK.out _ _ ?_ (fun hHeld => ?_)
     ·(try dsimp only); skip
     clear hK K
     refine nx ?_
     refine wpAnyH_done (by kernel_rfl) ?_ _
     go_wp2_with fail
     go_meet
     refine turn_with (h := h) (p := p) (zs := P ++ [x]) (l0 := (la, ln, lc)) (i0 := (ha, hn', hc)) (o0 := (oa, on_, oc)) (f0 := (fa, fn, fc)) (r0 := (ra, rn, rc)) B5.out HIN.out (own_nums Q5.out HW1.out (by have := HNP.out; simp; omega) (by omega)) (small_app HSM.out HX.out) hsv.out K5 G5
  ·obtain ⟨M, hM⟩ : ∃ M, N + 1 = M := ⟨_, rfl⟩
   have hNM : IntKind.i64.wrap ((N : Int) + 1) = (M : Int) := by rw [IntWalk.i64_in _ (by omega)]; omega
   have hpk := pickI_in n (n := (M : Int)) (by omega)
   obtain ⟨k, hk⟩ : ∃ k : Nat, pickI n M = (k : Int) := ⟨(pickI n M).toNat, by omega⟩
   have hkN : k ≤ N := by omega
   have hkc : k ≤ cap := by omega
   have HPK : Hid (∀ W, Calls Tryz.prog 23 #[.int .i64 n, .int .i64 M] W fun e w' => e = .returned (.int .i64 k) ∧ W = w') := Lib.hid fun W => by rw [← hk]; exact HPN.out W M (by omega) (by omega)
   clear hk hpk hM
   go_upto_region 20 with (fail)
   refine wp_region_held_drew (S := (fun _ => True)) (by kernel_rfl) ?_ (fun hHeld => ?_)
   ·(try dsimp only); skip
   refine tk 1 ?_
   refine tk 2 ?_
   refine tk 3 ?_
   refine tk 4 ?_
   refine tk 5 ?_
   refine tk 6 ?_
   refine wpAnyH_ready (rs := [0, 7]) (by kernel_rfl) (by simp) ?_
   refine AllReadyH.cons rfl (fun K hK => ?_) (AllReadyH.cons rfl (fun K hK => ?_) AllReadyH.nil)
   ·go_simp
    refine hK.out _ _ trivial (fun hHeld => ?_)
    clear hK K
    try simp only [List.getElem_toArray, List.getElem_cons_succ, List.getElem_cons_zero, Act.put, List.setIfInBounds_toArray, List.set_cons_zero, List.set_cons_succ]
    refine co 7 fun K hK => ?_
    go_simp
    go_at_call 23; refine (HPK.out _).mono ?_; rintro e w4 ⟨rfl, rfl⟩; go_wp2_with fail
    refine hK.out _ _ ?_ (fun hHeld => ?_)
    ·(try dsimp only); skip
    clear hK K
    refine nx ?_
    refine co 8 fun K hK => ?_
    go_simp
    skip
    refine hK.out _ _ ?_ (fun hHeld => ?_)
    ·(try dsimp only); skip
    clear hK K
    refine nx ?_
    refine co 9 fun K hK => ?_
    go_simp
    go_at_call 25; refine (HWI.out _ _ _ _).mono ?_; rintro e w5 ⟨⟨⟨l1, l2, l3⟩, ⟨h1, h2, h3⟩, ⟨o1, o3, o4⟩, ⟨f3, f4, f5⟩, ⟨r1, r2, r3⟩, rfl, hsv⟩, k5⟩; replace hsv := Lib.hid hsv; go_wp2_with fail
    refine hK.out _ _ ?_ (fun hHeld => ?_)
    ·(try dsimp only); skip
    clear hK K
    refine nx ?_
    have hle1 := HW1.out
    have b25 : Below w2.heap.size w2 w5 := by exact bm
    have K5 := K1.tr b25
    have G5 := K2.tr b25
    obtain ⟨lk, ck, fk⟩ := K5.get
    have B5 : Hid (Below w.heap.size w w5) := Lib.hid (kp_tr b2 b25)
    have Q5 := Lib.hid (o2.out.tr b25)
    have hs5 := b25.size
    clear k5 b25
    refine co 10 fun K hK => ?_
    go_simp
    skip
    refine hK.out _ _ ?_ (fun hHeld => ?_)
    ·(try dsimp only); skip
    clear hK K
    refine nx ?_
    refine wpAnyH_done (by kernel_rfl) ?_ _
    go_wp2_with fail
    go_meet
    exact turn_with (h := h) (p := p) (zs := P.take k) (l0 := (la, ln, lc)) (i0 := (ha, hn', hc)) (o0 := (oa, on_, oc)) (f0 := (fa, fn, fc)) (r0 := (ra, rn, rc)) B5.out HIN.out (own_take Q5.out HW1.out (by have := HNP.out; omega) (by omega) k hkN) (small_take HSM.out k) hsv.out K5 G5
   ·go_simp
    go_at_call 23; refine (HPK.out _).mono ?_; rintro e w4 ⟨rfl, rfl⟩; go_wp2_with fail
    refine hK.out _ _ trivial (fun hHeld => ?_)
    clear hK K
    try simp only [List.getElem_toArray, List.getElem_cons_succ, List.getElem_cons_zero, Act.put, List.setIfInBounds_toArray, List.set_cons_zero, List.set_cons_succ]
    refine wpAnyH_ready (rs := [0, 8]) (by kernel_rfl) (by simp) ?_
    refine AllReadyH.cons rfl (fun K hK => ?_) (AllReadyH.cons rfl (fun K hK => ?_) AllReadyH.nil)
    ·go_simp
     refine hK.out _ _ trivial (fun hHeld => ?_)
     clear hK K
     try simp only [List.getElem_toArray, List.getElem_cons_succ, List.getElem_cons_zero, Act.put, List.setIfInBounds_toArray, List.set_cons_zero, List.set_cons_succ]
     refine co 8 fun K hK => ?_
     go_simp
     skip
     refine hK.out _ _ ?_ (fun hHeld => ?_)
     ·(try dsimp only); skip
     clear hK K
     refine nx ?_
     refine co 9 fun K hK => ?_
     go_simp
     go_at_call 25; refine (HWI.out _ _ _ _).mono ?_; rintro e w5 ⟨⟨⟨l1, l2, l3⟩, ⟨h1, h2, h3⟩, ⟨o1, o3, o4⟩, ⟨f3, f4, f5⟩, ⟨r1, r2, r3⟩, rfl, hsv⟩, k5⟩; replace hsv := Lib.hid hsv; go_wp2_with fail
     refine hK.out _ _ ?_ (fun hHeld => ?_)
     ·(try dsimp only); skip
     clear hK K
     refine nx ?_
     have hle1 := HW1.out
     have b25 : Below w2.heap.size w2 w5 := by exact bm
     have K5 := K1.tr b25
     have G5 := K2.tr b25
     obtain ⟨lk, ck, fk⟩ := K5.get
     have B5 : Hid (Below w.heap.size w w5) := Lib.hid (kp_tr b2 b25)
     have Q5 := Lib.hid (o2.out.tr b25)
     have hs5 := b25.size
     clear k5 b25
     refine co 10 fun K hK => ?_
     go_simp
     skip
     refine hK.out _ _ ?_ (fun hHeld => ?_)
     ·(try dsimp only); skip
     clear hK K
     refine nx ?_
     refine wpAnyH_done (by kernel_rfl) ?_ _
     go_wp2_with fail
     go_meet
     exact turn_with (h := h) (p := p) (zs := P.take k) (l0 := (la, ln, lc)) (i0 := (ha, hn', hc)) (o0 := (oa, on_, oc)) (f0 := (fa, fn, fc)) (r0 := (ra, rn, rc)) B5.out HIN.out (own_take Q5.out HW1.out (by have := HNP.out; omega) (by omega) k hkN) (small_take HSM.out k) hsv.out K5 G5
    ·go_simp
     refine hK.out _ _ trivial (fun hHeld => ?_)
     clear hK K
     try simp only [List.getElem_toArray, List.getElem_cons_succ, List.getElem_cons_zero, Act.put, List.setIfInBounds_toArray, List.set_cons_zero, List.set_cons_succ]
     refine co 0 fun K hK => ?_
     go_simp
     skip
     refine hK.out _ _ ?_ (fun hHeld => ?_)
     ·(try dsimp only); skip
     clear hK K
     refine nx ?_
     refine co 9 fun K hK => ?_
     go_simp
     go_at_call 25; refine (HWI.out _ _ _ _).mono ?_; rintro e w5 ⟨⟨⟨l1, l2, l3⟩, ⟨h1, h2, h3⟩, ⟨o1, o3, o4⟩, ⟨f3, f4, f5⟩, ⟨r1, r2, r3⟩, rfl, hsv⟩, k5⟩; replace hsv := Lib.hid hsv; go_wp2_with fail
     refine hK.out _ _ ?_ (fun hHeld => ?_)
     ·(try dsimp only); skip
     clear hK K
     refine nx ?_
     have hle1 := HW1.out
     have b25 : Below w2.heap.size w2 w5 := by exact bm
     have K5 := K1.tr b25
     have G5 := K2.tr b25
     obtain ⟨lk, ck, fk⟩ := K5.get
     have B5 : Hid (Below w.heap.size w w5) := Lib.hid (kp_tr b2 b25)
     have Q5 := Lib.hid (o2.out.tr b25)
     have hs5 := b25.size
     clear k5 b25
     refine co 10 fun K hK => ?_
     go_simp
     skip
     refine hK.out _ _ ?_ (fun hHeld => ?_)
     ·(try dsimp only); skip
     clear hK K
     refine nx ?_
     refine wpAnyH_done (by kernel_rfl) ?_ _
     go_wp2_with fail
     go_meet
     exact turn_with (h := h) (p := p) (zs := P.take k) (l0 := (la, ln, lc)) (i0 := (ha, hn', hc)) (o0 := (oa, on_, oc)) (f0 := (fa, fn, fc)) (r0 := (ra, rn, rc)) B5.out HIN.out (own_take Q5.out HW1.out (by have := HNP.out; omega) (by omega) k hkN) (small_take HSM.out k) hsv.out K5 G5
  ·rcases Nat.eq_zero_or_pos N with rfl | hN0
   ·go_wp2_with fail
    go_meet
    exact turn_same (h := h) (l := (la, ln, lc)) (hi := (ha, hn', hc)) (o := (oa, on_, oc)) (f := (fa, fn, fc)) (r := (ra, rn, rc)) b2 HIN.out K1 K2
   ·obtain ⟨g, rfl, hgB, hgl, hgc⟩ := hc4 hN0
    have hgf := own_frozen o2.out
    have hgN : (N : Int) > 0 := by omega
    have hpk := pickI_in n (n := (N : Int)) (by omega)
    obtain ⟨k, hk⟩ : ∃ k : Nat, pickI n N = (k : Int) := ⟨(pickI n N).toNat, by omega⟩
    have hkN : k < N := by omega
    have HPK : Hid (∀ W, Calls Tryz.prog 23 #[.int .i64 n, .int .i64 N] W fun e w' => e = .returned (.int .i64 k) ∧ W = w') := Lib.hid fun W => by rw [← hk]; exact HPN.out W N hN0 (by omega)
    clear hk hpk
    obtain ⟨y, hy⟩ := own_cell o2.out (k := k) (by rw [HNP.out]; exact hkN)
    have hne : w.heap.size ≠ g := by have := HW1.out; omega
    have hne1 : w.heap.size + 1 ≠ g := by have := HW1.out; omega
    go_upto_region 5 with (fail)
    go_wp2_with fail
    refine (HPK.out _).mono ?_; rintro e w4 ⟨rfl, rfl⟩
    go_upto_region 6 with (fail)
    have K3 := K1.other (p := ⟨g, k, none⟩) hne (.int .u64 x)
    have G3 := K2.other (p := ⟨g, k, none⟩) hne1 (.int .u64 x)
    have q3 := own_set (k := k) o2.out x
    have b3 := low_set b2 (p := ⟨g, k, none⟩) (by have := HW1.out; show w.heap.size ≤ g; omega) (.int .u64 x)
    have hs3 : (w2.setCell ⟨g, k, none⟩ (.int .u64 x)).heap.size = w2.heap.size := by simp [World.setCell]
    clear hy hgf l1 c1 f1 l2 c2 f2 K1 K2 b2 o2
    generalize w2.setCell ⟨g, k, none⟩ (.int .u64 x) = w3 at *
    replace q3 := Lib.hid q3
    obtain ⟨l3, c3, f3⟩ := K3.get
    go_wp2_with fail
    refine (HWI.out _ _ _ _).mono ?_; rintro e w5 ⟨⟨⟨l1, l2, l3'⟩, ⟨h1, h2, h3⟩, ⟨o1, o3, o4⟩, ⟨f3', f4, f5⟩, ⟨r1, r2, r3⟩, rfl, hsv⟩, k5⟩
    replace hsv := Lib.hid hsv
    have K5 := K3.tr k5
    have G5 := G3.tr k5
    have q5 := Lib.hid (q3.out.tr k5)
    have B5 := Lib.hid (kp_tr b3 k5)
    have hs5 := k5.size
    clear l3 c3 f3 K3 G3 b3 k5 q3
    obtain ⟨l5, c5, f5⟩ := K5.get
    go_wp2_with fail
    go_meet
    have hw1' := HW1.out
    have hw2' := HW2.out
    exact turn_with (h := h) (p := p) (zs := P.set k x) (l0 := (la, ln, lc)) (i0 := (ha, hn', hc)) (o0 := (oa, on_, oc)) (f0 := (fa, fn, fc)) (r0 := (ra, rn, rc)) B5.out HIN.out (own_nums q5.out hw1' (by have := HNP.out; simp; omega) (by omega)) (small_set HSM.out HX.out k) hsv.out K5 G5
 case rest =>
  unfold TurnR at hcut
  obtain ⟨h', ⟨l1, l2, l3⟩, ⟨h1, h2, h3⟩, ⟨o1, o3, o4⟩, ⟨f3, f4, f5⟩, ⟨r1, r2, r3⟩, KA, hoff, KB, bw⟩ := hcut
  unfold hC slV at KA
  unfold zC at KB
  dsimp only at KA
  have HO := Lib.hid hoff
  clear hoff
  obtain ⟨lA, cA, fA⟩ := KA.get
  obtain ⟨lB, cB, fB⟩ := KB.get
  go_wp2_with fail
  refine bodyPost_ret (v := .agg #[Value.int .u64 h'.base, .int .i64 h'.cap, .int .i64 h'.tt, .bool h'.cyc, .int .i64 h'.scan, .slice l1 l2 l3, .slice h1 h2 h3, .slice o1 o3 o4, .slice f3 f4 f5, .slice r1 r2 r3]) (by simp only [results, Tryz.results8]; go_simp) rfl ⟨⟨h', (l1, l2, l3), (h1, h2, h3), (o1, o3, o4), (f3, f4, f5), (r1, r2, r3), rfl, ?_⟩, ?_⟩
  ·have := (Off.setC (b := w.heap.size + 1) (L := [(0, Value.int .u64 h'.base), (1, .int .i64 h'.cap), (2, .int .i64 h'.tt), (3, .bool h'.cyc), (4, .int .i64 h'.scan), (5, .slice l1 l2 l3), (6, .slice h1 h2 h3), (7, .slice o1 o3 o4), (8, .slice f3 f4 f5), (9, .slice r1 r2 r3)]) HO.out (by omega) (by omega)).now
   simp only [setC] at this
   exact this
  ·exact bm
end Go.Proofs.YtpgjploaliefdaaGreat.rh
