/- Layer 18: ImageUnlike. No conditions. -/
import Derived.Test.YtpgjploaliefdaaGreatTk
import Derived.Test.YtpgjploaliefdaaGreatNa
import Derived.Test.YtpgjploaliefdaaGreatG20
import Derived.Test.YtpgjploaliefdaaGreatNc
import Derived.Test.YtpgjploaliefdaaGreatMx
namespace Go.Proofs.YtpgjploaliefdaaGreat.im
open Go Go.RowKit hp ob hd cp ck gr lx rh
open fr (joinR)
set_option linter.unusedVariables false
set_option linter.unusedSimpArgs false
set_option maxRecDepth 100000
set_option maxHeartbeats 4000000
def HeapV (e : Ending) (w' : World) : Prop := ∃ (h : Hp) (ua1 ua2 ua3 ua4 ua5 : Option Addr) (un1 un2 un3 un4 un5 uc1 uc2 uc3 uc4 uc5 : Nat), e = .returned (.agg #[Value.int .u64 h.base, .int .i64 h.cap, .int .i64 h.tt, .bool h.cyc, .int .i64 h.scan, .slice ua1 un1 uc1, .slice ua2 un2 uc2, .slice ua3 un3 uc3, .slice ua4 un4 uc4, .slice ua5 un5 uc5]) ∧ HIn w' h ⟨.slice ua1 un1 uc1, .slice ua2 un2 uc2, .slice ua3 un3 uc3, .slice ua4 un4 uc4, .slice ua5 un5 uc5⟩
theorem heapV_of {H : Hp} {n0 : Nat} {w w' : World} {e : Ending} (k : HeapR H n0 w e w') : HeapV e w' := by
 obtain ⟨⟨⟨a1, n1, c1⟩, ⟨a2, n2, c2⟩, ⟨a3, n3, c3⟩, ⟨a4, n4, c4⟩, ⟨a5, n5, c5⟩, rfl, hu⟩, _⟩ := k
 exact ⟨H, a1, a2, a3, a4, a5, n1, n2, n3, n4, n5, c1, c2, c3, c4, c5, rfl, hu.now⟩
structure Cmp (A : Hp) (S : ByteArray) (h : Hp) (T : ByteArray) (F : Int) (R M : Bool) : Prop where
 f : (F = 0 ∧ R = true) ∨ (F = 1 ∧ R = false)
 m : F = 0 → decide (S = T) = M
theorem cmp_any (A : Hp) (sA : Fnd) (vA : Hv) (h : Hp) (v : Hv) (W : World) (hA : HIn W A vA) (hl : lookF A = some sA) (hin : HIn W h v) : ∃ T F R M, Cmp A (joinR (framesOf A sA)).1 h T F R M ∧
  (∀ W', Below W.heap.size W W' → Calls Tryz.prog 10 #[hpV h v] W' fun e w' => e = .returned (.tuple #[.string T, .int .i64 F]) ∧ Below W'.heap.size W' w') ∧
  (∀ W', Below W.heap.size W W' → Calls Tryz.prog 19 #[hpV h v] W' fun e w' => e = .returned (.bool R) ∧ Below W'.heap.size W' w') ∧
  (∀ W', Below W.heap.size W W' → Calls Tryz.prog 20 #[hpV A vA, hpV h v] W' fun e w' => e = .returned (.bool M) ∧ Below W'.heap.size W' w') := by
 have hR := fun (W' : World) (hb : Below W.heap.size W W') => right_any h v W' (hin.tr hb)
 have hS := fun (W' : World) (hb : Below W.heap.size W W') => same10_any A h vA v W' (hA.tr hb) (hin.tr hb)
 cases e : lookF h with
 | none =>
  rw [e] at hR
  exact ⟨⟨#[]⟩, 1, false, sameH A h, ⟨.inr ⟨rfl, rfl⟩, fun k => absurd k (by decide)⟩, fun W' hb => dump_none h v W' (hin.tr hb) e, hR, hS⟩
 | some s =>
  rw [e] at hR
  refine ⟨(joinR (framesOf h s)).1, (joinR (framesOf h s)).2, true, sameH A h, ⟨.inl ⟨(image_len e hin.base hin.slow hin.shigh hin.sold hin.sfar hin.sroots).1, rfl⟩, fun _ => ?_⟩, fun W' hb => dump_some h v s W' (hin.tr hb) e, hR, hS⟩
  have key : (joinR (framesOf A sA)).1 = (joinR (framesOf h s)).1 ↔ sameH A h = true := by
   rw [same_iff]
   constructor
   ·exact fun k => dump_inj hl e hA.base hin.base hA.slow hA.shigh hA.sold hA.sfar hA.sroots hin.slow hin.shigh hin.sold hin.sfar hin.sroots k
   ·rintro rfl
    rw [hl] at e
    cases e
    rfl
  by_cases k : (joinR (framesOf A sA)).1 = (joinR (framesOf h s)).1
  ·rw [decide_eq_true k, key.1 k]
  ·rw [decide_eq_false k]
   cases q : sameH A h with
   | false => rfl
   | true => exact absurd (key.2 q) k
theorem unlike_walk (X : Xv) (x : Rh) (Y : Xv) (y : Rh) (which n z : Int) (w : World) (hx : XIn w X x) (hy : XIn w Y y) (hwh : I64 which) (hn : I64 n) (hz : U64 z) : Calls Tryz.prog 4 #[.agg (xCells X x), .agg (xCells Y y), .int .i64 which, .int .i64 n, .int .u64 z] w fun e w' => e = .returned (.bool true) ∧ Below w.heap.size w w' := by
 have HAW : Hid (∀ W, Calls Tryz.prog 6 #[] W fun e w' => e = .returned (.bool true) ∧ Below W.heap.size W w') := Lib.hid fun W => awake_any W
 obtain ⟨⟨xa1, xn1, xc1⟩, ⟨xa2, xn2, xc2⟩, ⟨xa3, xn3, xc3⟩⟩ := X
 obtain ⟨⟨ya1, yn1, yc1⟩, ⟨ya2, yn2, yc2⟩, ⟨ya3, yn3, yc3⟩⟩ := Y
 obtain ⟨s, hs⟩ := heapF_right hx.ok
 obtain ⟨p1, p2, p3, p4, p5, p6, p7, p8, hl⟩ := head_pos hs
 have HLN : Hid ((∀ q, ((heapF x).part q).length ≤ 100000) ∧ (heapF x).roots.length ≤ 100000) := Lib.hid (by
  have q1 := hl 1 (by omega)
  have q2 := hl 2 (by omega)
  have q3 := hl 3 (by omega)
  have q4 := hl 4 (by omega)
  refine ⟨fun q => Hp.part_cases (P := fun l => l.length ≤ 100000) _ q ?_ ?_ ?_ ?_, by omega⟩
  ·exact Nat.le_trans (show (heapF x).low.length ≤ 4096 from q1) (by decide)
  ·exact Nat.le_trans (show (heapF x).high.length ≤ 4096 from q2) (by decide)
  ·exact Nat.le_trans (show (heapF x).old.length ≤ 4096 from q3) (by decide)
  ·exact Nat.le_trans (show (heapF x).far.length ≤ 4096 from q4) (by decide))
 have HHX : Hid (∀ W, Below w.heap.size w W → Calls Tryz.prog 7 #[.agg (xCells ⟨(xa1, xn1, xc1), (xa2, xn2, xc2), (xa3, xn3, xc3)⟩ x)] W fun e w' => HeapV e w' ∧ Below W.heap.size W w') := Lib.hid fun W hb => (heap_any _ x W (hx.tr hb)).mono fun e w' k => ⟨heapV_of k, k.2⟩
 have HHY : Hid (∀ W, Below w.heap.size w W → Calls Tryz.prog 7 #[.agg (xCells ⟨(ya1, yn1, yc1), (ya2, yn2, yc2), (ya3, yn3, yc3)⟩ y)] W fun e w' => HeapV e w' ∧ Below W.heap.size W w') := Lib.hid fun W hb => (heap_any _ y W (hy.tr hb)).mono fun e w' k => ⟨heapV_of k, k.2⟩
 have HSX : Hid (∀ W, Below w.heap.size w W → Calls Tryz.prog 9 #[.agg (xCells ⟨(xa1, xn1, xc1), (xa2, xn2, xc2), (xa3, xn3, xc3)⟩ x)] W fun e w' => HeapV e w' ∧ Below W.heap.size W w') := Lib.hid fun W hb => (still_any _ x W (hx.tr hb)).mono fun e w' k => ⟨heapV_of k, k.2⟩
 have HHA : Hid (∀ W, Below w.heap.size w W → Calls Tryz.prog 7 #[.agg (xCells ⟨(xa1, xn1, xc1), (xa2, xn2, xc2), (xa3, xn3, xc3)⟩ x)] W fun e w' => (∃ (va1 va2 va3 va4 va5 : Option Addr) (vn1 vn2 vn3 vn4 vn5 vc1 vc2 vc3 vc4 vc5 : Nat), e = .returned (.agg #[Value.int .u64 (heapF x).base, .int .i64 (heapF x).cap, .int .i64 (heapF x).tt, .bool (heapF x).cyc, .int .i64 (heapF x).scan, .slice va1 vn1 vc1, .slice va2 vn2 vc2, .slice va3 vn3 vc3, .slice va4 vn4 vc4, .slice va5 vn5 vc5]) ∧ HIn w' (heapF x) ⟨.slice va1 vn1 vc1, .slice va2 vn2 vc2, .slice va3 vn3 vc3, .slice va4 vn4 vc4, .slice va5 vn5 vc5⟩) ∧ Below W.heap.size W w') := Lib.hid fun W hb => by
  refine (heap_any _ x W (hx.tr hb)).mono ?_
  rintro e w' ⟨⟨⟨a1, n1, c1⟩, ⟨a2, n2, c2⟩, ⟨a3, n3, c3⟩, ⟨a4, n4, c4⟩, ⟨a5, n5, c5⟩, rfl, hu⟩, k⟩
  exact ⟨⟨a1, a2, a3, a4, a5, n1, n2, n3, n4, n5, c1, c2, c3, c4, c5, rfl, hu.now⟩, k⟩
 have HDU : Hid (∀ W v, HIn W (heapF x) v → Calls Tryz.prog 10 #[hpV (heapF x) v] W fun e w' => e = .returned (.tuple #[.string (joinR (framesOf (heapF x) s)).1, .int .i64 0]) ∧ Below W.heap.size W w') := Lib.hid fun W v hin => by
  have := dump_some _ v s W hin hs
  rwa [(image_len hs hin.base hin.slow hin.shigh hin.sold hin.sfar hin.sroots).1] at this
 have HTU : Hid (∀ W v, HIn W (heapF x) v → Calls Tryz.prog 8 #[hpV (heapF x) v, .int .i64 which, .int .i64 n, .int .u64 z] W fun e w' => HeapV e w' ∧ Below W.heap.size W w') := Lib.hid fun W v hin => by
  refine (turned_any (heapF x) v which n z W hin HLN.out.1 HLN.out.2 hwh hn hz).mono ?_
  rintro e w' ⟨⟨h', ⟨a1, n1, c1⟩, ⟨a2, n2, c2⟩, ⟨a3, n3, c3⟩, ⟨a4, n4, c4⟩, ⟨a5, n5, c5⟩, rfl, hu⟩, k⟩
  exact ⟨⟨h', a1, a2, a3, a4, a5, n1, n2, n3, n4, n5, c1, c2, c3, c4, c5, rfl, hu⟩, k⟩
 have HCM : Hid (∀ (vA : Hv) (h : Hp) (v : Hv) (W : World), HIn W (heapF x) vA → HIn W h v → ∃ T F R M, Cmp (heapF x) (joinR (framesOf (heapF x) s)).1 h T F R M ∧
  (∀ W', Below W.heap.size W W' → Calls Tryz.prog 10 #[hpV h v] W' fun e w' => e = .returned (.tuple #[.string T, .int .i64 F]) ∧ Below W'.heap.size W' w') ∧
  (∀ W', Below W.heap.size W W' → Calls Tryz.prog 19 #[hpV h v] W' fun e w' => e = .returned (.bool R) ∧ Below W'.heap.size W' w') ∧
  (∀ W', Below W.heap.size W W' → Calls Tryz.prog 20 #[hpV (heapF x) vA, hpV h v] W' fun e w' => e = .returned (.bool M) ∧ Below W'.heap.size W' w')) := Lib.hid fun vA h v W hA hin => cmp_any _ s vA h v W hA hs hin
 clear hx hy p1 p2 p3 p4 p5 p6 p7 p8 hl hwh hn hz HLN hs
 generalize (joinR (framesOf (heapF x) s)).1 = S at *
 generalize heapF x = A at *
 unfold hpV at HDU HTU HCM
 unfold xCells slV at *
 dsimp only at *
 go_enter Tryz.func4, Tryz.ntmps4
 go_wp2_with fail
 refine (HAW.out _).mono ?_; rintro e w1 ⟨rfl, k1⟩
 have K1 : Blk w1 w.heap.size #[Value.slice xa1 xn1 xc1, .slice xa2 xn2 xc2, .slice xa3 xn3 xc3, .int .u64 x.base, .int .i64 x.slack, .int .i64 x.scan, .int .i64 x.tt] 26 := Blk.tr (.alloc (.new _ _ _) _) k1
 have K2 : Blk w1 (w.heap.size + 1) #[Value.slice ya1 yn1 yc1, .slice ya2 yn2 yc2, .slice ya3 yn3 yc3, .int .u64 y.base, .int .i64 y.slack, .int .i64 y.scan, .int .i64 y.tt] 26 := Blk.tr (.mk (by simp)) k1
 have b1 : Below w.heap.size w w1 := by exact bm
 clear k1
 obtain ⟨l1, c1, f1⟩ := K1.get
 obtain ⟨l2, c2, f2⟩ := K2.get
 go_wp2_with fail
 refine (HHA.out _ b1).mono ?_
 rintro e w2 ⟨⟨va1, va2, va3, va4, va5, vn1, vn2, vn3, vn4, vn5, vc1, vc2, vc3, vc4, vc5, rfl, hin⟩, k2⟩
 have HIN := Lib.hid hin
 have b2 : Below w.heap.size w w2 := kp_tr b1 k2
 replace K1 := K1.tr k2
 replace K2 := K2.tr k2
 clear hin k2 b1 l1 c1 f1 l2 c2 f2
 obtain ⟨l1, c1, f1⟩ := K1.get
 obtain ⟨l2, c2, f2⟩ := K2.get
 go_wp2_with fail
 refine (HDU.out _ _ (HIN.out.tr ?_)).mono ?_
 ·exact bm
 rintro e w3 ⟨rfl, k3⟩
 have K3 : Blk w3 w2.heap.size #[Value.int .u64 A.base, .int .i64 A.cap, .int .i64 A.tt, .bool A.cyc, .int .i64 A.scan, .slice va1 vn1 vc1, .slice va2 vn2 vc2, .slice va3 vn3 vc3, .slice va4 vn4 vc4, .slice va5 vn5 vc5] 32 := Blk.tr (.mk rfl) k3
 have c23 : Below w2.heap.size w2 w3 := by exact bm
 have b3 : Below w.heap.size w w3 := by exact bm
 have HKE : Hid (∀ W', Below w3.heap.size w3 W' → (∀ i, W'.cell? ⟨w.heap.size, i, none⟩ = #[Value.slice xa1 xn1 xc1, .slice xa2 xn2 xc2, .slice xa3 xn3 xc3, .int .u64 x.base, .int .i64 x.slack, .int .i64 x.scan, .int .i64 x.tt][i]?) ∧ (∀ i, W'.cell? ⟨w.heap.size + 1, i, none⟩ = #[Value.slice ya1 yn1 yc1, .slice ya2 yn2 yc2, .slice ya3 yn3 yc3, .int .u64 y.base, .int .i64 y.slack, .int .i64 y.scan, .int .i64 y.tt][i]?) ∧ ∀ i, W'.cell? ⟨w2.heap.size, i, none⟩ = #[Value.int .u64 A.base, .int .i64 A.cap, .int .i64 A.tt, .bool A.cyc, .int .i64 A.scan, .slice va1 vn1 vc1, .slice va2 vn2 vc2, .slice va3 vn3 vc3, .slice va4 vn4 vc4, .slice va5 vn5 vc5][i]?) := Lib.hid fun W' hb => ⟨((K1.tr c23).tr hb).get.2.1, ((K2.tr c23).tr hb).get.2.1, (K3.tr hb).get.2.1⟩
 have HIN3 := Lib.hid (HIN.out.tr c23)
 have K1' := K1.tr c23
 have K2' := K2.tr c23
 clear l1 c1 f1 l2 c2 f2 k3 K1 K2
 obtain ⟨l1, c1, f1⟩ := K1'.get
 obtain ⟨l2, c2, f2⟩ := K2'.get
 obtain ⟨l3, c3, f3⟩ := K3.get
 go_upto_region 6 with (fail)
 refine wp_region_held_drew (S := (fun W' => (∀ i, W'.cell? ⟨w.heap.size, i, none⟩ = #[Value.slice xa1 xn1 xc1, .slice xa2 xn2 xc2, .slice xa3 xn3 xc3, .int .u64 x.base, .int .i64 x.slack, .int .i64 x.scan, .int .i64 x.tt][i]?) ∧ (∀ i, W'.cell? ⟨w.heap.size + 1, i, none⟩ = #[Value.slice ya1 yn1 yc1, .slice ya2 yn2 yc2, .slice ya3 yn3 yc3, .int .u64 y.base, .int .i64 y.slack, .int .i64 y.scan, .int .i64 y.tt][i]?) ∧ ∀ i, W'.cell? ⟨w2.heap.size, i, none⟩ = #[Value.int .u64 A.base, .int .i64 A.cap, .int .i64 A.tt, .bool A.cyc, .int .i64 A.scan, .slice va1 vn1 vc1, .slice va2 vn2 vc2, .slice va3 vn3 vc3, .slice va4 vn4 vc4, .slice va5 vn5 vc5][i]?)) (by kernel_rfl) ?_ (fun hHeld => ?_)
 ·(try dsimp only); refine HKE.out _ ?_; exact bm
 refine tk 0 ?_
 refine tk 2 ?_
 refine tk 3 ?_
 refine tk 4 ?_
 refine tk 5 ?_
 refine tk 7 ?_
 refine tk 9 ?_
 refine tk 13 ?_
 refine co 1 fun K hK => ?_
 go_simp
 go_at_call 7; refine (HHY.out _ (by exact bm)).mono ?_; rintro e w4 ⟨⟨h1, pa1, pa2, pa3, pa4, pa5, pn1, pn2, pn3, pn4, pn5, pc1, pc2, pc3, pc4, pc5, rfl, hin1⟩, k4⟩; go_wp2_with fail
 refine hK.out _ _ ?_ (fun hHeld => ?_)
 ·(try dsimp only); refine HKE.out _ ?_; exact bm
 clear hK K
 refine nx ?_
 refine co 6 fun K hK => ?_
 go_simp
 go_at_call 8; refine (HTU.out _ _ (HIN3.out.tr (by exact bm))).mono ?_; rintro e w5 ⟨⟨h2, qa1, qa2, qa3, qa4, qa5, qn1, qn2, qn3, qn4, qn5, qc1, qc2, qc3, qc4, qc5, rfl, hin2⟩, k5⟩; go_wp2_with fail
 refine hK.out _ _ ?_ (fun hHeld => ?_)
 ·(try dsimp only); refine HKE.out _ ?_; exact bm
 clear hK K
 refine nx ?_
 refine co 8 fun K hK => ?_
 go_simp
 go_at_call 9; refine (HSX.out _ (by exact bm)).mono ?_; rintro e w6 ⟨⟨h3, ra1, ra2, ra3, ra4, ra5, rn1, rn2, rn3, rn4, rn5, rc1, rc2, rc3, rc4, rc5, rfl, hin3⟩, k6⟩; go_wp2_with fail
 refine hK.out _ _ ?_ (fun hHeld => ?_)
 ·(try dsimp only); refine HKE.out _ ?_; exact bm
 clear hK K
 refine nx ?_
 refine co 10 fun K hK => ?_
 go_simp
 go_at_call 7; refine (HHX.out _ (by exact bm)).mono ?_; rintro e w7 ⟨⟨h4, sa1, sa2, sa3, sa4, sa5, sn1, sn2, sn3, sn4, sn5, sc1, sc2, sc3, sc4, sc5, rfl, hin4⟩, k7⟩; go_wp2_with fail
 refine hK.out _ _ ?_ (fun hHeld => ?_)
 ·(try dsimp only); refine HKE.out _ ?_; exact bm
 clear hK K
 refine nx ?_
 refine co 11 fun K hK => ?_
 go_simp
 skip
 refine hK.out _ _ ?_ (fun hHeld => ?_)
 ·(try dsimp only); refine HKE.out _ ?_; exact bm
 clear hK K
 refine nx ?_
 refine tk 12 ?_
 refine wpAnyH_done (by kernel_rfl) ?_ _
 have HH : Hid (∀ k, k < 4 → ∃ (h : Hp) (ua1 ua2 ua3 ua4 ua5 : Option Addr) (un1 un2 un3 un4 un5 uc1 uc2 uc3 uc4 uc5 : Nat), HIn w7 h ⟨.slice ua1 un1 uc1, .slice ua2 un2 uc2, .slice ua3 un3 uc3, .slice ua4 un4 uc4, .slice ua5 un5 uc5⟩ ∧ ∀ j, j < 10 → #[Value.int .u64 h1.base, .int .i64 h1.cap, .int .i64 h1.tt, .bool h1.cyc, .int .i64 h1.scan, .slice pa1 pn1 pc1, .slice pa2 pn2 pc2, .slice pa3 pn3 pc3, .slice pa4 pn4 pc4, .slice pa5 pn5 pc5, .int .u64 h2.base, .int .i64 h2.cap, .int .i64 h2.tt, .bool h2.cyc, .int .i64 h2.scan, .slice qa1 qn1 qc1, .slice qa2 qn2 qc2, .slice qa3 qn3 qc3, .slice qa4 qn4 qc4, .slice qa5 qn5 qc5, .int .u64 h3.base, .int .i64 h3.cap, .int .i64 h3.tt, .bool h3.cyc, .int .i64 h3.scan, .slice ra1 rn1 rc1, .slice ra2 rn2 rc2, .slice ra3 rn3 rc3, .slice ra4 rn4 rc4, .slice ra5 rn5 rc5, .int .u64 h4.base, .int .i64 h4.cap, .int .i64 h4.tt, .bool h4.cyc, .int .i64 h4.scan, .slice sa1 sn1 sc1, .slice sa2 sn2 sc2, .slice sa3 sn3 sc3, .slice sa4 sn4 sc4, .slice sa5 sn5 sc5][k * 10 + j]? = #[Value.int .u64 h.base, .int .i64 h.cap, .int .i64 h.tt, .bool h.cyc, .int .i64 h.scan, .slice ua1 un1 uc1, .slice ua2 un2 uc2, .slice ua3 un3 uc3, .slice ua4 un4 uc4, .slice ua5 un5 uc5][j]?) := Lib.hid fun k hk => by
  rcases (show k = 0 ∨ k = 1 ∨ k = 2 ∨ k = 3 by omega) with rfl | rfl | rfl | rfl
  ·refine ⟨h1, pa1, pa2, pa3, pa4, pa5, pn1, pn2, pn3, pn4, pn5, pc1, pc2, pc3, pc4, pc5, hin1.tr (by exact bm), fun j hj => ?_⟩
   rcases (show j = 0 ∨ j = 1 ∨ j = 2 ∨ j = 3 ∨ j = 4 ∨ j = 5 ∨ j = 6 ∨ j = 7 ∨ j = 8 ∨ j = 9 by omega) with rfl | rfl | rfl | rfl | rfl | rfl | rfl | rfl | rfl | rfl <;> rfl
  ·refine ⟨h2, qa1, qa2, qa3, qa4, qa5, qn1, qn2, qn3, qn4, qn5, qc1, qc2, qc3, qc4, qc5, hin2.tr (by exact bm), fun j hj => ?_⟩
   rcases (show j = 0 ∨ j = 1 ∨ j = 2 ∨ j = 3 ∨ j = 4 ∨ j = 5 ∨ j = 6 ∨ j = 7 ∨ j = 8 ∨ j = 9 by omega) with rfl | rfl | rfl | rfl | rfl | rfl | rfl | rfl | rfl | rfl <;> rfl
  ·refine ⟨h3, ra1, ra2, ra3, ra4, ra5, rn1, rn2, rn3, rn4, rn5, rc1, rc2, rc3, rc4, rc5, hin3.tr (by exact bm), fun j hj => ?_⟩
   rcases (show j = 0 ∨ j = 1 ∨ j = 2 ∨ j = 3 ∨ j = 4 ∨ j = 5 ∨ j = 6 ∨ j = 7 ∨ j = 8 ∨ j = 9 by omega) with rfl | rfl | rfl | rfl | rfl | rfl | rfl | rfl | rfl | rfl <;> rfl
  ·refine ⟨h4, sa1, sa2, sa3, sa4, sa5, sn1, sn2, sn3, sn4, sn5, sc1, sc2, sc3, sc4, sc5, hin4, fun j hj => ?_⟩
   rcases (show j = 0 ∨ j = 1 ∨ j = 2 ∨ j = 3 ∨ j = 4 ∨ j = 5 ∨ j = 6 ∨ j = 7 ∨ j = 8 ∨ j = 9 by omega) with rfl | rfl | rfl | rfl | rfl | rfl | rfl | rfl | rfl | rfl <;> rfl
 have b37 : Below w3.heap.size w3 w7 := by exact bm
 have HI7 := Lib.hid (HIN3.out.tr b37)
 have K7 := K3.tr b37
 have b7 := kp_tr b3 b37
 generalize #[Value.int .u64 h1.base, .int .i64 h1.cap, .int .i64 h1.tt, .bool h1.cyc, .int .i64 h1.scan, .slice pa1 pn1 pc1, .slice pa2 pn2 pc2, .slice pa3 pn3 pc3, .slice pa4 pn4 pc4, .slice pa5 pn5 pc5, .int .u64 h2.base, .int .i64 h2.cap, .int .i64 h2.tt, .bool h2.cyc, .int .i64 h2.scan, .slice qa1 qn1 qc1, .slice qa2 qn2 qc2, .slice qa3 qn3 qc3, .slice qa4 qn4 qc4, .slice qa5 qn5 qc5, .int .u64 h3.base, .int .i64 h3.cap, .int .i64 h3.tt, .bool h3.cyc, .int .i64 h3.scan, .slice ra1 rn1 rc1, .slice ra2 rn2 rc2, .slice ra3 rn3 rc3, .slice ra4 rn4 rc4, .slice ra5 rn5 rc5, .int .u64 h4.base, .int .i64 h4.cap, .int .i64 h4.tt, .bool h4.cyc, .int .i64 h4.scan, .slice sa1 sn1 sc1, .slice sa2 sn2 sc2, .slice sa3 sn3 sc3, .slice sa4 sn4 sc4, .slice sa5 sn5 sc5] = C at *
 clear hin1 hin2 hin3 hin4 k4 k5 k6 k7 hHeld HKE HIN3 K1' K2' K3 l1 c1 f1 l2 c2 f2 l3 c3 f3 b37 b3 b2 c23 HIN
 have KC : Blk (w7.alloc (.cells C 32)) w7.heap.size C 32 := Blk.new _ _ _
 replace K7 := K7.alloc (.cells C 32)
 replace HI7 := Lib.hid (HI7.out.tr (kp_alloc (Below.refl w7.heap.size w7) (.cells C 32)))
 have HW8 : Hid (Below w7.heap.size w7 (w7.alloc (.cells C 32))) := Lib.hid (kp_alloc (Below.refl w7.heap.size w7) _)
 have b8 : Hid (Below w.heap.size w (w7.alloc (.cells C 32))) := Lib.hid (kp_alloc b7 _)
 clear b7
 obtain ⟨bb, hbb⟩ : ∃ b, w7.heap.size = b := ⟨_, rfl⟩
 rw [hbb] at KC ⊢
 clear hbb
 generalize w7.alloc (.cells C 32) = W8 at *
 go_wp2_with fail
 go_loopw [42] (fun i wr => ∃ k : Nat, k ≤ 4 ∧ i = .int .i64 k ∧ Below W8.heap.size W8 wr) (fun i _ => 4 - (intOf i).toNat)
 case atStart => exact ⟨0, by omega, rfl, Below.refl _ _⟩
 case round =>
  obtain ⟨k, hk, rfl, bel⟩ := hrel
  by_cases hlt : k < 4
  ·obtain ⟨h, ua1, ua2, ua3, ua4, ua5, un1, un2, un3, un4, un5, uc1, uc2, uc3, uc4, uc5, hin, hc⟩ := HH.out k hlt
   have KA := K7.tr bel
   have hcj : ∀ j, j < 10 → wr.cell? ⟨bb, k * 10 + j, none⟩ = #[Value.int .u64 h.base, .int .i64 h.cap, .int .i64 h.tt, .bool h.cyc, .int .i64 h.scan, .slice ua1 un1 uc1, .slice ua2 un2 uc2, .slice ua3 un3 uc3, .slice ua4 un4 uc4, .slice ua5 un5 uc5][j]? := fun j hj => ((KC.tr bel).get.2.1 _).trans (hc j hj)
   have hc0 : wr.cell? ⟨bb, k * 10, none⟩ = some (.int .u64 h.base) := hcj 0 (by omega)
   obtain ⟨T, F, R, M, hcmp, hD, hR, hS⟩ := HCM.out ⟨.slice va1 vn1 vc1, .slice va2 vn2 vc2, .slice va3 vn3 vc3, .slice va4 vn4 vc4, .slice va5 vn5 vc5⟩ h ⟨.slice ua1 un1 uc1, .slice ua2 un2 uc2, .slice ua3 un3 uc3, .slice ua4 un4 uc4, .slice ua5 un5 uc5⟩ wr (HI7.out.tr bel) ((hin.tr HW8.out).tr bel)
   have HD := Lib.hid hD
   have HR := Lib.hid hR
   have HS := Lib.hid hS
   have HM := Lib.hid hcmp.m
   have hf := hcmp.f
   clear hD hR hS hcmp hc hin
   dsimp only at HD HR HS
   obtain ⟨lA, cA, fA⟩ := KA.get
   have hb := (KC.tr bel).lt
   go_wp2_with fail
   refine (HD.out _ (by exact bm)).mono ?_; rintro e w9 ⟨rfl, k9⟩
   have KB : Blk w9 wr.heap.size #[Value.int .u64 h.base, .int .i64 h.cap, .int .i64 h.tt, .bool h.cyc, .int .i64 h.scan, .slice ua1 un1 uc1, .slice ua2 un2 uc2, .slice ua3 un3 uc3, .slice ua4 un4 uc4, .slice ua5 un5 uc5] 32 := Blk.tr (.mk rfl) k9
   have KA9 : Blk w9 w2.heap.size _ 32 := Blk.tr (.alloc KA _) k9
   obtain ⟨lB, cB, fB⟩ := KB.get
   obtain ⟨lA9, cA9, fA9⟩ := KA9.get
   rcases hf with ⟨rfl, rfl⟩ | ⟨rfl, rfl⟩
   ·by_cases hST : S = T
    ·have hM : M = true := by rw [← HM.out rfl]; exact decide_eq_true hST
     subst hM
     subst hST
     go_wp2_with fail
     refine (HR.out _ (by exact bm)).mono ?_; rintro e w10 ⟨rfl, k10⟩
     have KB10 := KB.tr k10
     have KA10 := KA9.tr k10
     obtain ⟨lA, cA, fA⟩ := KA10.get
     obtain ⟨lB, cB, fB⟩ := KB10.get
     go_wp2_with fail
     refine (HS.out _ (by exact bm)).mono ?_; rintro e w11 ⟨rfl, k11⟩
     go_wp2_with fail
     exact ⟨⟨k + 1, by omega, by go_num, by exact bm⟩, by simp [intOf]; omega⟩
    ·have hM : M = false := by rw [← HM.out rfl]; exact decide_eq_false hST
     have HTL : Hid (¬ S.toList = T.toList) := Lib.hid fun e => hST (ByteArray.ext (Array.toList_inj.1 (by rwa [ByteArray.toList_eq, ByteArray.toList_eq] at e)))
     subst hM
     go_wp2_with fail
     refine (HR.out _ (by exact bm)).mono ?_; rintro e w10 ⟨rfl, k10⟩
     have KB10 := KB.tr k10
     have KA10 := KA9.tr k10
     obtain ⟨lA, cA, fA⟩ := KA10.get
     obtain ⟨lB, cB, fB⟩ := KB10.get
     go_wp2_with fail
     refine (HS.out _ (by exact bm)).mono ?_; rintro e w11 ⟨rfl, k11⟩
     go_wp2_with fail
     all_goals first
      | exact ⟨⟨k + 1, by omega, by go_num, by exact bm⟩, by simp [intOf]; omega⟩
      | exact absurd (eq_of_beq (by assumption)) HTL.out
   ·go_wp2_with fail
    refine (HR.out _ (by exact bm)).mono ?_; rintro e w10 ⟨rfl, k10⟩
    go_wp2_with fail
    exact ⟨⟨k + 1, by omega, by go_num, by exact bm⟩, by simp [intOf]; omega⟩
  ·obtain rfl : k = 4 := by omega
   go_wp2_with fail
   go_ret
   refine ⟨rfl, ?_⟩
   have := b8.out
   exact bm
end Go.Proofs.YtpgjploaliefdaaGreat.im
