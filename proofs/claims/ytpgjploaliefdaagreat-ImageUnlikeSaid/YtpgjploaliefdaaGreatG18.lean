/- Layer 11's raw heaps: what becomes of a node. No conditions. -/
import Derived.Test.YtpgjploaliefdaaGreatMg
import Derived.Test.YtpgjploaliefdaaGreatG11
namespace Go.Proofs.YtpgjploaliefdaaGreat.rh
open Go Go.RowKit hp ob hd cp ck gr lx
set_option linter.unusedVariables false
set_option linter.unusedSimpArgs false
set_option maxRecDepth 100000
set_option maxHeartbeats 4000000
structure Xv where
 n : Sl
 r : Sl
 c : Sl
def xCells (X : Xv) (x : Rh) : Array Value := #[slV X.n, slV X.r, slV X.c, .int .u64 x.base, .int .i64 x.slack, .int .i64 x.scan, .int .i64 x.tt]
structure XIn (W : World) (X : Xv) (x : Rh) : Prop where
 nodes : NodesIn W (slV X.n) x.nodes
 roots : RIn 1 enI W (slV X.r) x.roots
 cls : RIn 1 enI W (slV X.c) x.cls
 num : NIn x
 ok : RhOk x
theorem XIn.tr {W w : World} {X : Xv} {x : Rh} (h : XIn W X x) (hb : Below W.heap.size W w) : XIn w X x := ⟨h.nodes.tr hb, h.roots.tr hb, h.cls.tr hb, h.num, h.ok⟩
theorem tdiv3 {C : Int} (h : I64 C) : IntKind.i64.wrap (C.tdiv 3) = C.tdiv 3 ∧ I64 (C.tdiv 3) := by
 have key : -9223372036854775808 ≤ C.tdiv 3 ∧ C.tdiv 3 < 9223372036854775808 := by
  obtain ⟨h1, h2⟩ := h
  rcases Int.lt_or_le C 0 with h0 | h0
  ·have e : C.tdiv 3 = -((-C).tdiv 3) := by rw [Int.neg_tdiv]; omega
   rw [e, Int.tdiv_eq_ediv_of_nonneg (by omega)]
   omega
  ·rw [Int.tdiv_eq_ediv_of_nonneg h0]
   omega
 exact ⟨IntWalk.i64_in _ (by omega), key⟩
theorem class_any (X : Xv) (x : Rh) (i : Nat) (hi : i < 10) (c : Bool) (w : World) (hx : XIn w X x) :
  Calls Tryz.prog 57 #[.agg (xCells X x), .int .i64 i, .bool c] w fun e w' => e = .returned (.tuple #[.int .i64 (clK x c i), .bool (clF x i)]) ∧ Below w.heap.size w w' := by
 obtain ⟨⟨a1, n1, c1⟩, ⟨a2, n2, c2⟩, ⟨a3, n3, c3⟩⟩ := X
 obtain ⟨ca, cb, co, cc, e1, h1, h2, h3, h4, h5, h6⟩ := hx.cls.form
 simp only [slV, Value.slice.injEq] at e1
 obtain ⟨rfl, rfl, rfl⟩ := e1
 have H6 := Lib.hid h6
 have HN := Lib.hid hx.num.cls
 clear h6 h2 hx
 unfold xCells slV
 dsimp only
 by_cases hcl : x.cls.length = 0
 ·have hC : Hid (clC x i = (i : Int)) := Lib.hid (by unfold clC; rw [if_pos (List.eq_nil_of_length_eq_zero hcl)])
  have HC : Hid (I64 (i : Int)) := Lib.hid ⟨by omega, by omega⟩
  generalize x.cls.length = cn at *
  subst hcl
  go_enter Tryz.func57, Tryz.ntmps57
  go_wp2_with fail
  refine (pick11_any (i : Int) 3 _ (by decide) (by decide) HC.out.1 HC.out.2).mono ?_; rintro e w3 ⟨rfl, rfl⟩
  have hK : Hid (clK x c i = if (pickI (i : Int) 3).toNat = 2 ∧ c = false then 1 else (pickI (i : Int) 3).toNat) := Lib.hid (by unfold clK; rw [hC.out])
  have hF : Hid (clF x i = decide (pickI (Int.tdiv (i : Int) 3) 2 = 1)) := Lib.hid (by unfold clF; rw [hC.out])
  have hp3 := pickI_in (i : Int) (n := 3) (by decide)
  have hp2 := pickI_in (Int.tdiv (i : Int) 3) (n := 2) (by decide)
  obtain ⟨hd1, hd2⟩ := tdiv3 HC.out
  have HD2 := Lib.hid hd2
  generalize pickI (i : Int) 3 = K0 at *
  have hPK : Hid (∀ W, Calls Tryz.prog 23 #[.int .i64 (Int.tdiv (i : Int) 3), .int .i64 2] W fun e w' => e = .returned (.int .i64 (pickI (Int.tdiv (i : Int) 3) 2)) ∧ W = w') := Lib.hid fun W => pick11_any (Int.tdiv (i : Int) 3) 2 W (by decide) (by decide) HD2.out.1 HD2.out.2
  generalize pickI (Int.tdiv (i : Int) 3) 2 = F0 at *
  clear hd2 HD2 HC hC
  rcases (show F0 = 0 ∨ F0 = 1 by omega) with rfl | rfl <;> rcases (show K0 = 0 ∨ K0 = 1 ∨ K0 = 2 by omega) with rfl | rfl | rfl <;> cases c
  all_goals
   go_wp2_with fail
   refine (hPK.out _).mono ?_; rintro e w4 ⟨rfl, rfl⟩
   go_wp2_with fail
   go_ret2
   refine ⟨by rw [hK.out, hF.out]; rfl, ?_⟩
   exact bm
 ·have hpos : 0 < x.cls.length := by omega
  have had := h1 hpos
  subst had
  have hlt : i % x.cls.length < x.cls.length := Nat.mod_lt _ hpos
  have hcell := H6.out.at (i := i % x.cls.length) (List.getElem?_eq_getElem hlt) 0 _ rfl
  rw [Nat.mul_one, Nat.add_zero] at hcell
  have hC : Hid (clC x i = x.cls[i % x.cls.length]) := Lib.hid (by
   unfold clC
   rw [if_neg (fun e => hcl (by rw [e]; rfl)), List.getD_eq_getElem?_getD, List.getElem?_eq_getElem hlt]
   rfl)
  have HC : Hid (I64 x.cls[i % x.cls.length]) := Lib.hid (HN.out _ (List.getElem_mem hlt))
  have hmod : (i : Int).tmod (x.cls.length : Int) = ((i % x.cls.length : Nat) : Int) := by rw [Int.tmod_eq_emod_of_nonneg (by omega)]; simp
  generalize x.cls[i % x.cls.length] = C at *
  generalize i % x.cls.length = I at *
  have hgt : ((x.cls.length : Int) > 0) := by omega
  have hli : (I : Int) < (x.cls.length : Int) := by omega
  go_enter Tryz.func57, Tryz.ntmps57
  go_wp2_with fail
  go_quiet (fail)
  go_wp2_with fail
  refine (pick11_any C 3 _ (by decide) (by decide) HC.out.1 HC.out.2).mono ?_; rintro e w3 ⟨rfl, rfl⟩
  have hK : Hid (clK x c i = if (pickI C 3).toNat = 2 ∧ c = false then 1 else (pickI C 3).toNat) := Lib.hid (by unfold clK; rw [hC.out])
  have hF : Hid (clF x i = decide (pickI (Int.tdiv C 3) 2 = 1)) := Lib.hid (by unfold clF; rw [hC.out])
  have hp3 := pickI_in C (n := 3) (by decide)
  have hp2 := pickI_in (Int.tdiv C 3) (n := 2) (by decide)
  obtain ⟨hd1, hd2⟩ := tdiv3 HC.out
  have HD2 := Lib.hid hd2
  generalize pickI C 3 = K0 at *
  have hPK : Hid (∀ W, Calls Tryz.prog 23 #[.int .i64 (Int.tdiv C 3), .int .i64 2] W fun e w' => e = .returned (.int .i64 (pickI (Int.tdiv C 3) 2)) ∧ W = w') := Lib.hid fun W => pick11_any (Int.tdiv C 3) 2 W (by decide) (by decide) HD2.out.1 HD2.out.2
  generalize pickI (Int.tdiv C 3) 2 = F0 at *
  clear hd2 HD2 HC hC
  rcases (show F0 = 0 ∨ F0 = 1 by omega) with rfl | rfl <;> rcases (show K0 = 0 ∨ K0 = 1 ∨ K0 = 2 by omega) with rfl | rfl | rfl <;> cases c
  all_goals
   go_wp2_with fail
   refine (hPK.out _).mono ?_; rintro e w4 ⟨rfl, rfl⟩
   go_wp2_with fail
   go_ret2
   refine ⟨by rw [hK.out, hF.out]; rfl, ?_⟩
   exact bm
end Go.Proofs.YtpgjploaliefdaaGreat.rh
namespace Go.Proofs.YtpgjploaliefdaaGreat.rh
open Go Go.RowKit hp ob hd cp ck gr lx
set_option linter.unusedVariables false
set_option linter.unusedSimpArgs false
set_option maxRecDepth 100000
set_option maxHeartbeats 4000000
def bCells2 (h : Hp) (v : Hv) (gv qv hv ov : Value) : Array Value := #[.int .u64 h.base, .int .i64 h.cap, .int .i64 h.tt, .bool h.cyc, .int .i64 h.scan, v.l, v.h, v.o, v.f, v.r, gv, qv, hv, ov]
def builtV (h : Hp) (v : Hv) (gv qv hv ov : Value) : Value := .agg (bCells2 h v gv qv hv ov)
structure HF (h : Hp) (v : Hv) : Prop where
 l : ∃ a c, v.l = .slice a h.low.length c
 hi : ∃ a c, v.h = .slice a h.high.length c
 o : ∃ a c, v.o = .slice a h.old.length c
 f : ∃ a c, v.f = .slice a h.far.length c
 r : ∃ a n c, v.r = .slice a n c
theorem two_blk {W w1 : World} {b c : Nat} {cs ds : Array Value} (hb : Below W.heap.size W w1) (h1 : b < W.heap.size) (h2 : c < W.heap.size) (d1 : ∀ i, W.cell? ⟨b, i, none⟩ = cs[i]?) (d2 : ∀ i, W.cell? ⟨c, i, none⟩ = ds[i]?) : (∀ i, w1.cell? ⟨b, i, none⟩ = cs[i]?) ∧ (∀ i, w1.cell? ⟨c, i, none⟩ = ds[i]?) := ⟨fun i => (hb.cell (p := ⟨b, i, none⟩) h1).trans (d1 i), fun i => (hb.cell (p := ⟨c, i, none⟩) h2).trans (d2 i)⟩
theorem ref_any (h : Hp) (v : Hv) (gs qs hs os : Sl) (p a : Nat) (w : World) (hf : HF h v) (hr : layR h.lay = true) (hp : p = 0 ∨ ((1 ≤ p ∧ p ≤ 4) ∧ (a : Int) < lenI h.lay p)) :
  Calls Tryz.prog 59 #[builtV h v (slV gs) (slV qs) (slV hs) (slV os), .agg #[.int .i64 p, .int .i64 a]] w fun e w' => e = .returned (.int .u64 (refP h.lay p a)) ∧ Below w.heap.size w w' := by
 obtain ⟨vl, vh, vo, vf, vr⟩ := v
 obtain ⟨⟨la, lc, e1⟩, ⟨ha, hc, e2⟩, ⟨oa, oc, e3⟩, ⟨fa, fc, e4⟩, ⟨ra, rn, rc, e5⟩⟩ := hf
 dsimp only at e1 e2 e3 e4 e5
 subst e1 e2 e3 e4 e5
 have HL : Hid (∀ W, Calls Tryz.prog 83 #[hpV h ⟨.slice la h.low.length lc, .slice ha h.high.length hc, .slice oa h.old.length oc, .slice fa h.far.length fc, .slice ra rn rc⟩] W fun e w' => e = .returned (layV h.lay) ∧ Below W.heap.size W w') := Lib.hid fun W => layout10_any h _ W ⟨_, _, rfl⟩ ⟨_, _, rfl⟩ ⟨_, _, rfl⟩ ⟨_, _, rfl⟩ ⟨_, _, _, rfl⟩
 rcases hp with rfl | ⟨hp, ha2⟩
 ·have HR : Hid (refP h.lay 0 a = 0) := rfl
  unfold builtV bCells2 slV
  dsimp only
  clear HL
  generalize h.low.length = m1 at *
  generalize h.high.length = m2 at *
  generalize h.old.length = m3 at *
  generalize h.far.length = m4 at *
  go_enter Tryz.func59, Tryz.ntmps59
  go_wp2_with fail
  go_ret
  refine ⟨by rw [HR.out]; rfl, ?_⟩
  exact bm
 ·have HR : Hid (refP h.lay p a = 2 * (firstI h.lay p + a) + 1) := Lib.hid (by unfold refP; rw [if_neg (by omega)])
  have HA : Hid (∀ W, Calls Tryz.prog 82 #[layV h.lay, .agg #[.int .i64 p, .int .i64 a]] W fun e w' => e = .returned (.tuple #[.int .u64 (firstI h.lay p + a), .int .i64 0]) ∧ Below W.heap.size W w') := Lib.hid fun W => addr7_ok h.lay p a hp W hr ha2
  have hpos := adr_pos hr (p := (p : Int)) (x := (a : Int)) (by omega) ⟨by omega, ha2⟩
  have HF5 : Hid (∀ W, Calls Tryz.prog 84 #[.int .u64 (firstI h.lay p + a)] W fun e w' => e = .returned (.tuple #[.int .u64 (2 * (firstI h.lay p + a) + 1), .int .i64 0]) ∧ W = w') := Lib.hid fun W => ref5_ok _ W hpos.1 hpos.2
  have hp0 : ((p : Int) == 0) = false := by rw [beq_eq_false_iff_ne]; omega
  rw [← HR.out] at HF5
  generalize refP h.lay p a = RV at *
  generalize firstI h.lay p + (a : Int) = AV at *
  generalize layV h.lay = LV at *
  unfold builtV bCells2 slV
  unfold hpV at *
  dsimp only at *
  clear hr ha2 hpos hp HR
  generalize h.low.length = m1 at *
  generalize h.high.length = m2 at *
  generalize h.old.length = m3 at *
  generalize h.far.length = m4 at *
  go_enter Tryz.func59, Tryz.ntmps59
  go_upto_region 3 with (fail)
  have K1 : Blk ((w.alloc (.cells #[.int .u64 h.base, .int .i64 h.cap, .int .i64 h.tt, .bool h.cyc, .int .i64 h.scan, .slice la m1 lc, .slice ha m2 hc, .slice oa m3 oc, .slice fa m4 fc, .slice ra rn rc, .slice gs.fst gs.snd.fst gs.snd.snd, .slice qs.fst qs.snd.fst qs.snd.snd, .slice hs.fst hs.snd.fst hs.snd.snd, .slice os.fst os.snd.fst os.snd.snd] 64)).alloc (.cells #[.int .i64 p, .int .i64 a] 113)) w.heap.size #[.int .u64 h.base, .int .i64 h.cap, .int .i64 h.tt, .bool h.cyc, .int .i64 h.scan, .slice la m1 lc, .slice ha m2 hc, .slice oa m3 oc, .slice fa m4 fc, .slice ra rn rc, .slice gs.fst gs.snd.fst gs.snd.snd, .slice qs.fst qs.snd.fst qs.snd.snd, .slice hs.fst hs.snd.fst hs.snd.snd, .slice os.fst os.snd.fst os.snd.snd] 64 := (Blk.new _ _ _).alloc _
  have K2 : Blk ((w.alloc (.cells #[.int .u64 h.base, .int .i64 h.cap, .int .i64 h.tt, .bool h.cyc, .int .i64 h.scan, .slice la m1 lc, .slice ha m2 hc, .slice oa m3 oc, .slice fa m4 fc, .slice ra rn rc, .slice gs.fst gs.snd.fst gs.snd.snd, .slice qs.fst qs.snd.fst qs.snd.snd, .slice hs.fst hs.snd.fst hs.snd.snd, .slice os.fst os.snd.fst os.snd.snd] 64)).alloc (.cells #[.int .i64 p, .int .i64 a] 113)) (w.heap.size + 1) #[.int .i64 p, .int .i64 a] 113 := Blk.mk (by simp)
  have kW : Below w.heap.size w ((w.alloc (.cells #[.int .u64 h.base, .int .i64 h.cap, .int .i64 h.tt, .bool h.cyc, .int .i64 h.scan, .slice la m1 lc, .slice ha m2 hc, .slice oa m3 oc, .slice fa m4 fc, .slice ra rn rc, .slice gs.fst gs.snd.fst gs.snd.snd, .slice qs.fst qs.snd.fst qs.snd.snd, .slice hs.fst hs.snd.fst hs.snd.snd, .slice os.fst os.snd.fst os.snd.snd] 64)).alloc (.cells #[.int .i64 p, .int .i64 a] 113)) := by exact bm
  generalize (w.alloc (.cells #[.int .u64 h.base, .int .i64 h.cap, .int .i64 h.tt, .bool h.cyc, .int .i64 h.scan, .slice la m1 lc, .slice ha m2 hc, .slice oa m3 oc, .slice fa m4 fc, .slice ra rn rc, .slice gs.fst gs.snd.fst gs.snd.snd, .slice qs.fst qs.snd.fst qs.snd.snd, .slice hs.fst hs.snd.fst hs.snd.snd, .slice os.fst os.snd.fst os.snd.snd] 64)).alloc (.cells #[.int .i64 p, .int .i64 a] 113) = W0 at *
  obtain ⟨l1, d1, f1⟩ := K1.get
  obtain ⟨l2, d2, f2⟩ := K2.get
  go_region_held3 (fun w' => (∀ i, w'.cell? ⟨w.heap.size, i, none⟩ = #[.int .u64 h.base, .int .i64 h.cap, .int .i64 h.tt, .bool h.cyc, .int .i64 h.scan, .slice la m1 lc, .slice ha m2 hc, .slice oa m3 oc, .slice fa m4 fc, .slice ra rn rc, .slice gs.fst gs.snd.fst gs.snd.snd, .slice qs.fst qs.snd.fst qs.snd.snd, .slice hs.fst hs.snd.fst hs.snd.snd, .slice os.fst os.snd.fst os.snd.snd][i]?) ∧ (∀ i, w'.cell? ⟨w.heap.size + 1, i, none⟩ = #[Value.int .i64 p, .int .i64 a][i]?))
   (first | (refine two_blk (W := W0) ?_ l1 l2 d1 d2; exact bm))
   (first
    | (go_at_call 83; refine (HL.out _).mono ?_; rintro e w3 ⟨rfl, k3⟩)
    | (go_at_call 82; refine (HA.out _).mono ?_; rintro e w4 ⟨rfl, k4⟩))
  go_wp2_with fail
  refine (HF5.out _).mono ?_; rintro e w5 ⟨rfl, rfl⟩
  go_wp2_with fail
  go_ret
  refine ⟨rfl, ?_⟩
  exact bm
end Go.Proofs.YtpgjploaliefdaaGreat.rh
namespace Go.Proofs.YtpgjploaliefdaaGreat.rh
open Go.ChangeShapes Go.WideShapes Go.ChangeAt Go.RowKit Go.Joins gr lx hp
set_option linter.unusedVariables false
set_option linter.unusedSimpArgs false
set_option maxRecDepth 100000
section
variable {H : Type} {enc : TypeId × Value → H} {w : World} {base : Nat} {spare : Nat → Bool} {held : Bool} {P : Program}
theorem rin_cell {α : Type} {k : Nat} {en : α → List Value} {ok : α → Prop} {T E : TypeId} {c : Value} {m0 : Nat} {y0 : DataW H × List MemPlace} (hT : P.underlying T = some (.slice E)) (hC : P.cellsOf E = k) (hk0 : 0 < k)
  (hrd : ∀ (n : Nat) (cs : List Value) (y : DataW H × List MemPlace), DataW.trod enc P w base spare held n E cs = some y → ∃ x : α, cs = en x ∧ (en x).length = k ∧ ok x)
  (hf : DataW.trod enc P w base spare held m0 T [c] = some y0) : ∃ l : List α, RIn k en w c l ∧ ∀ x ∈ l, ok x := by
 rcases Go.Deep.open_slice hT hf with ⟨hcs, _⟩ | ⟨a, len, cap, m, n, D, Pl, hcs, _, hl, hm, hmm, _, hx⟩
 ·simp at hcs
  subst hcs
  exact ⟨[], RIn.nil, fun x hx => by simp at hx⟩
 ·simp at hcs
  subst hcs
  have hml : len ≤ m := by rw [hmm]; split <;> omega
  have key : ∀ i, i < len → ∃ x : α, (∀ j y, (en x)[j]? = some y → w.cell? ((a.add (i * k)).add j) = some y) ∧ (en x).length = k ∧ ok x := by
   intro i hi
   obtain ⟨cs', h1, h2⟩ := hx i (by omega)
   rw [hC] at h1
   obtain ⟨_, hz, hcell⟩ := World.cells?_some h1
   obtain ⟨x, rfl, hlk, hok⟩ := hrd _ _ _ h2
   refine ⟨x, fun j y hy => ?_, hlk, hok⟩
   have hj : j < (en x).length := by
    rcases Nat.lt_or_ge j (en x).length with h | h
    ·exact h
    ·rw [List.getElem?_eq_none h] at hy; cases hy
   rw [hcell j (by omega), hy]
  obtain ⟨l, hll, hp⟩ := choose_l key
  refine ⟨l, ?_, fun x hx => ?_⟩
  ·have hspot : 0 < len → a = ⟨a.block, a.off, none⟩ ∧ a.block < w.heap.size := fun h0 => by
    have hx0 : l[0]? = some l[0] := List.getElem?_eq_getElem (by omega)
    obtain ⟨h1, h2, _⟩ := hp 0 _ hx0
    have hlt : 0 < (en l[0]).length := by omega
    have h3 := h1 0 _ (List.getElem?_eq_getElem hlt)
    rw [Nat.zero_mul] at h3
    have e0 : (a.add 0).add 0 = a := by unfold Addr.add; simp
    rw [e0] at h3
    exact ⟨spot_of h3, World.block_lt_of_cell? _ _ h3⟩
   refine RIn.mk (ad := some a) (b := a.block) (off := a.off) (cap := cap) (by rw [hll]) (fun h0 => by rw [← (hspot (by omega)).1]) (fun e => by cases e) (by omega) (by unfold maxLen at hm; omega) (fun h0 => (hspot (by omega)).2) (fun i j x y hx hy => ?_)
   have hi : i < len := by
    rcases Nat.lt_or_ge i l.length with h | h
    ·omega
    ·rw [List.getElem?_eq_none h] at hx; cases hx
   have h1 := (hp i x hx).1 j y hy
   have hs := (hspot (by omega)).1
   have e : (a.add (i * k)).add j = ⟨a.block, a.off + i * k + j, none⟩ := by
    obtain ⟨b, o, s⟩ := a
    have hs2 : s = none := by simpa using hs
    subst hs2
    unfold Addr.add
    by_cases h1 : i * k = 0 <;> by_cases h2 : j = 0 <;> simp [h1, h2]
   rw [← e]
   exact h1
  ·obtain ⟨i, hi, rfl⟩ := List.getElem_of_mem hx
   exact (hp i _ (List.getElem?_eq_getElem hi)).2.2
theorem trod_struct7 {t : TypeId} {f0 f1 f2 f3 f4 f5 f6 : Field} {fuel : Nat} {cs : List Value} {x : DataW H × List MemPlace} (ht : P.underlying t = some (.struct #[f0, f1, f2, f3, f4, f5, f6])) (h : DataW.trod enc P w base spare held fuel t cs = some x) :
  ∃ y0 y1 y2 y3 y4 y5 y6 n, cs.length = P.cellsOf t ∧ DataW.trod enc P w base spare held n f0.type ((cs.drop f0.offset).take (P.cellsOf f0.type)) = some y0 ∧ DataW.trod enc P w base spare held n f1.type ((cs.drop f1.offset).take (P.cellsOf f1.type)) = some y1 ∧
   DataW.trod enc P w base spare held n f2.type ((cs.drop f2.offset).take (P.cellsOf f2.type)) = some y2 ∧ DataW.trod enc P w base spare held n f3.type ((cs.drop f3.offset).take (P.cellsOf f3.type)) = some y3 ∧ DataW.trod enc P w base spare held n f4.type ((cs.drop f4.offset).take (P.cellsOf f4.type)) = some y4 ∧
   DataW.trod enc P w base spare held n f5.type ((cs.drop f5.offset).take (P.cellsOf f5.type)) = some y5 ∧ DataW.trod enc P w base spare held n f6.type ((cs.drop f6.offset).take (P.cellsOf f6.type)) = some y6 := by
 obtain ⟨xs, n, _, rfl, hl, hlen, hf⟩ := DataW.trod_struct ht h
 match xs, hlen with
 | [y0, y1, y2, y3, y4, y5, y6], _ => exact ⟨y0, y1, y2, y3, y4, y5, y6, n, hl, by simpa using hf 0 f0 rfl, by simpa using hf 1 f1 rfl, by simpa using hf 2 f2 rfl, by simpa using hf 3 f3 rfl, by simpa using hf 4 f4 rfl, by simpa using hf 5 f5 rfl, by simpa using hf 6 f6 rfl⟩
end
section
variable {H : Type} {enc : TypeId × Value → H} {w : World} {base : Nat} {spare : Nat → Bool} {held : Bool}
def NodeOk (w : World) (a : Sl × Sl) : Prop := ∃ b : List Int × List Int, NodeIn w a b ∧ (∀ c ∈ b.1, I64 c) ∧ ∀ d ∈ b.2, U64 d
theorem ints_cell {c : Value} {n : Nat} {y : DataW H × List MemPlace} (h : DataW.trod enc Tryz.prog w base spare held n 23 [c] = some y) : ∃ l : List Int, RIn 1 enI w c l ∧ ∀ x ∈ l, I64 x :=
 rin_cell (P := Tryz.prog) Tryz.underlying23 (by kernel_rfl) (by omega) (fun n cs y h => by
  obtain ⟨x, rfl, hw⟩ := int_cells Tryz.underlying3 h
  exact ⟨x, rfl, rfl, wfb_i64 hw⟩) h
theorem nums_cell {c : Value} {n : Nat} {y : DataW H × List MemPlace} (h : DataW.trod enc Tryz.prog w base spare held n 29 [c] = some y) : ∃ l : List Int, RIn 1 enU w c l ∧ ∀ x ∈ l, U64 x :=
 rin_cell (P := Tryz.prog) Tryz.underlying29 (by kernel_rfl) (by omega) (fun n cs y h => by
  obtain ⟨x, rfl, hw⟩ := int_cells Tryz.underlying24 h
  exact ⟨x, rfl, rfl, wfb_u64 hw⟩) h
theorem rin_sl {α : Type} {k : Nat} {en : α → List Value} {W : World} {v : Value} {zs : List α} (h : RIn k en W v zs) : ∃ s : Sl, v = slV s := by
 obtain ⟨ad, b, off, cap, e, _⟩ := h.form
 exact ⟨(ad, zs.length, cap), e⟩
theorem node_cells {n : Nat} {cs : List Value} {y : DataW H × List MemPlace} (h : DataW.trod enc Tryz.prog w base spare held n 145 cs = some y) : ∃ a : Sl × Sl, cs = enN a ∧ (enN a).length = 2 ∧ NodeOk w a := by
 obtain ⟨y0, y1, m, rfl, hl, h0, h1⟩ := trod_struct2 Tryz.underlying145 h
 have hC : Program.cellsOf Tryz.prog 145 = 2 := by kernel_rfl
 have hi : Program.cellsOf Tryz.prog 23 = 1 := by kernel_rfl
 have hs : Program.cellsOf Tryz.prog 29 = 1 := by kernel_rfl
 rw [hC] at hl
 match cs, hl with
 | [c0, c1], _ =>
  have h0' : DataW.trod enc Tryz.prog w base spare held m 23 (([c0, c1].drop 0).take (Program.cellsOf Tryz.prog 23)) = some y0 := h0
  have h1' : DataW.trod enc Tryz.prog w base spare held m 29 (([c0, c1].drop 1).take (Program.cellsOf Tryz.prog 29)) = some y1 := h1
  rw [hi] at h0'
  rw [hs] at h1'
  simp only [List.drop_zero, List.drop_succ_cons, List.take_succ_cons, List.take_zero] at h0' h1'
  obtain ⟨l0, r0, k0⟩ := ints_cell h0'
  obtain ⟨l1, r1, k1⟩ := nums_cell h1'
  obtain ⟨s0, rfl⟩ := rin_sl r0
  obtain ⟨s1, rfl⟩ := rin_sl r1
  exact ⟨(s0, s1), rfl, rfl, (l0, l1), ⟨r0, r1⟩, k0, k1⟩
open Classical in
theorem nodes_cell {c : Value} {n : Nat} {y : DataW H × List MemPlace} (h : DataW.trod enc Tryz.prog w base spare held n 22 [c] = some y) : ∃ l : List (List Int × List Int), NodesIn w c l ∧ ∀ b ∈ l, (∀ c ∈ b.1, I64 c) ∧ ∀ d ∈ b.2, U64 d := by
 obtain ⟨vs, h1, h2⟩ := rin_cell (P := Tryz.prog) (k := 2) (en := enN) (ok := NodeOk w) Tryz.underlying22 (by kernel_rfl) (by omega) (fun n cs y h => node_cells h) h
 let g : Sl × Sl → List Int × List Int := fun a => if e : NodeOk w a then Classical.choose e else ([], [])
 have hg : ∀ a ∈ vs, NodeIn w a (g a) ∧ (∀ c ∈ (g a).1, I64 c) ∧ ∀ d ∈ (g a).2, U64 d := fun a ha => by
  have e := h2 a ha
  have : g a = Classical.choose e := dif_pos e
  rw [this]
  exact Classical.choose_spec e
 refine ⟨vs.map g, ⟨vs, by simp, h1, fun i a b ha hb => ?_⟩, fun b hb => ?_⟩
 ·rw [List.getElem?_map, ha] at hb
  cases hb
  exact (hg a (List.mem_of_getElem? ha)).1
 ·obtain ⟨a, ha, rfl⟩ := List.mem_map.1 hb
  exact (hg a ha).2
theorem rawh_arg {r : Reach} {b0 : Nat} {v : Value} {d : DataW H} {p : List MemPlace} (hv : Value.okWide Tryz.prog w r b0 26 v) (h : DataW.Trod enc Tryz.prog w base spare held 26 v d p) :
  ∃ (X : Xv) (x : Rh), v = .agg (xCells X x) ∧ XIn w X x := by
 obtain ⟨cs, rfl, hsz⟩ := okWide_struct Tryz.underlying26 hv
 obtain ⟨fuel, hf⟩ := h
 obtain ⟨y0, y1, y2, y3, y4, y5, y6, m, hl, h0, h1, h2, h3, h4, h5, h6⟩ := trod_struct7 Tryz.underlying26 hf
 have hC : Program.cellsOf Tryz.prog 26 = 7 := by kernel_rfl
 have hn : Program.cellsOf Tryz.prog 22 = 1 := by kernel_rfl
 have hi : Program.cellsOf Tryz.prog 23 = 1 := by kernel_rfl
 have hu : Program.cellsOf Tryz.prog 24 = 1 := by kernel_rfl
 have hj : Program.cellsOf Tryz.prog 3 = 1 := by kernel_rfl
 have hcs : (Value.agg cs).cells.toList = cs.toList := by simp [Value.cells]
 rw [hC, hcs] at hl
 rw [hcs] at h0 h1 h2 h3 h4 h5 h6
 obtain ⟨L, rfl⟩ : ∃ L, cs = L.toArray := ⟨cs.toList, by simp⟩
 simp only [List.toList_toArray] at hl h0 h1 h2 h3 h4 h5 h6
 match L, hl with
 | [c0, c1, c2, c3, c4, c5, c6], _ =>
  have h0' : DataW.trod enc Tryz.prog w base spare held m 22 (([c0, c1, c2, c3, c4, c5, c6].drop 0).take (Program.cellsOf Tryz.prog 22)) = some y0 := h0
  have h1' : DataW.trod enc Tryz.prog w base spare held m 23 (([c0, c1, c2, c3, c4, c5, c6].drop 1).take (Program.cellsOf Tryz.prog 23)) = some y1 := h1
  have h2' : DataW.trod enc Tryz.prog w base spare held m 23 (([c0, c1, c2, c3, c4, c5, c6].drop 2).take (Program.cellsOf Tryz.prog 23)) = some y2 := h2
  have h3' : DataW.trod enc Tryz.prog w base spare held m 24 (([c0, c1, c2, c3, c4, c5, c6].drop 3).take (Program.cellsOf Tryz.prog 24)) = some y3 := h3
  have h4' : DataW.trod enc Tryz.prog w base spare held m 3 (([c0, c1, c2, c3, c4, c5, c6].drop 4).take (Program.cellsOf Tryz.prog 3)) = some y4 := h4
  have h5' : DataW.trod enc Tryz.prog w base spare held m 3 (([c0, c1, c2, c3, c4, c5, c6].drop 5).take (Program.cellsOf Tryz.prog 3)) = some y5 := h5
  have h6' : DataW.trod enc Tryz.prog w base spare held m 3 (([c0, c1, c2, c3, c4, c5, c6].drop 6).take (Program.cellsOf Tryz.prog 3)) = some y6 := h6
  rw [hn] at h0'
  rw [hi] at h1' h2'
  rw [hu] at h3'
  rw [hj] at h4' h5' h6'
  simp only [List.drop_zero, List.drop_succ_cons, List.take_succ_cons, List.take_zero] at h0' h1' h2' h3' h4' h5' h6'
  obtain ⟨l0, r0, k0⟩ := nodes_cell h0'
  obtain ⟨l1, r1, k1⟩ := ints_cell h1'
  obtain ⟨l2, r2, k2⟩ := ints_cell h2'
  obtain ⟨a3, e3, _, w3⟩ := DataW.trod_int Tryz.underlying24 h3'
  obtain ⟨a4, e4, _, w4⟩ := DataW.trod_int Tryz.underlying3 h4'
  obtain ⟨a5, e5, _, w5⟩ := DataW.trod_int Tryz.underlying3 h5'
  obtain ⟨a6, e6, _, w6⟩ := DataW.trod_int Tryz.underlying3 h6'
  simp at e3 e4 e5 e6
  subst e3 e4 e5 e6
  obtain ⟨vs, hvs1, hvs2, hvs3⟩ := r0
  obtain ⟨s0, rfl⟩ := rin_sl hvs2
  obtain ⟨s1, rfl⟩ := rin_sl r1
  obtain ⟨s2, rfl⟩ := rin_sl r2
  exact ⟨⟨s0, s1, s2⟩, ⟨l0, l1, l2, a3, a4, a5, a6⟩, rfl, ⟨⟨vs, hvs1, hvs2, hvs3⟩, r1, r2, ⟨fun n hn => (k0 n hn).1, k1, k2, wfb_i64 w4, wfb_i64 w5, wfb_i64 w6⟩, ⟨wfb_u64 w3, fun n hn => (k0 n hn).2⟩⟩⟩
end
end Go.Proofs.YtpgjploaliefdaaGreat.rh
