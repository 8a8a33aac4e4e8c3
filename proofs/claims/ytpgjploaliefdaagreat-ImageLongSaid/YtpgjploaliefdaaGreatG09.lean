/- Layer 11's raw heaps: what becomes of a node. No conditions. -/
import Derived.Test.YtpgjploaliefdaaGreatMg
import Derived.Test.YtpgjploaliefdaaGreatG08
import Derived.Laws.MakeOwn
import Derived.Test.YtpgjploaliefdaaGreatMo
namespace Go.Proofs.YtpgjploaliefdaaGreat.rh
open Go Go.RowKit Go.Proofs.YtpgjploaliefdaaGreat.hp Go.Proofs.YtpgjploaliefdaaGreat.ob Go.Proofs.YtpgjploaliefdaaGreat.hd Go.Proofs.YtpgjploaliefdaaGreat.cp Go.Proofs.YtpgjploaliefdaaGreat.ck Go.Proofs.YtpgjploaliefdaaGreat.gr Go.Proofs.YtpgjploaliefdaaGreat.lx
set_option linter.unusedVariables false
set_option linter.unusedSimpArgs false
set_option maxRecDepth 100000
set_option maxHeartbeats 4000000
/-- Raw numbers, in memory. -/
structure Xv where
  n : Sl
  r : Sl
  c : Sl
def xCells (X : Xv) (x : Rh) : Array Value := #[slV X.n, slV X.r, slV X.c, .int .u64 x.base, .int .i64 x.slack, .int .i64 x.scan, .int .i64 x.tt]
structure XIn (W : World) (X : Xv) (x : Rh) : Prop where
  nodes : NodesIn W (slV X.n) x.nodes
  roots : RIn 1 enI W (slV X.r) x.roots
  cls : RIn 1 enI W (slV X.c) x.cls
  num : NIn x
  ok : RhOk x
theorem XIn.tr {W w : World} {X : Xv} {x : Rh} (h : XIn W X x) (hb : Below W.heap.size W w) : XIn w X x := ⟨h.nodes.tr hb, h.roots.tr hb, h.cls.tr hb, h.num, h.ok⟩
theorem tdiv3 {C : Int} (h : I64 C) : IntKind.i64.wrap (C.tdiv 3) = C.tdiv 3 ∧ I64 (C.tdiv 3) := by
  have key : -9223372036854775808 ≤ C.tdiv 3 ∧ C.tdiv 3 < 9223372036854775808 := by
    obtain ⟨h1, h2⟩ := h
    rcases Int.lt_or_le C 0 with h0 | h0
    · have e : C.tdiv 3 = -((-C).tdiv 3) := by rw [Int.neg_tdiv]; omega
      rw [e, Int.tdiv_eq_ediv_of_nonneg (by omega)]
      omega
    · rw [Int.tdiv_eq_ediv_of_nonneg h0]
      omega
  exact ⟨IntWalk.i64_in _ (by omega), key⟩
theorem class_any (X : Xv) (x : Rh) (i : Nat) (hi : i < 10) (c : Bool) (w : World) (hx : XIn w X x) :
    Calls Tryz.prog 57 #[.agg (xCells X x), .int .i64 i, .bool c] w fun e w' => e = .returned (.tuple #[.int .i64 (clK x c i), .bool (clF x i)]) ∧ Below w.heap.size w w' := by
  obtain ⟨⟨a1, n1, c1⟩, ⟨a2, n2, c2⟩, ⟨a3, n3, c3⟩⟩ := X
  obtain ⟨ca, cb, co, cc, e1, h1, h2, h3, h4, h5, h6⟩ := hx.cls.form
  simp only [slV, Value.slice.injEq] at e1
  obtain ⟨rfl, rfl, rfl⟩ := e1
  have H6 := Lib.hid h6
  have HN := Lib.hid hx.num.cls
  clear h6 h2 hx
  unfold xCells slV
  dsimp only
  by_cases hcl : x.cls.length = 0
  · have hC : Hid (clC x i = (i : Int)) := Lib.hid (by unfold clC; rw [if_pos (List.eq_nil_of_length_eq_zero hcl)])
    have HC : Hid (I64 (i : Int)) := Lib.hid ⟨by omega, by omega⟩
    generalize x.cls.length = cn at *
    subst hcl
    go_enter Tryz.func57, Tryz.ntmps57
    go_wp2_with fail
    refine (pick11_any (i : Int) 3 _ (by decide) (by decide) HC.out.1 HC.out.2).mono ?_; rintro e w3 ⟨rfl, rfl⟩
    have hK : Hid (clK x c i = if (pickI (i : Int) 3).toNat = 2 ∧ c = false then 1 else (pickI (i : Int) 3).toNat) := Lib.hid (by unfold clK; rw [hC.out])
    have hF : Hid (clF x i = decide (pickI (Int.tdiv (i : Int) 3) 2 = 1)) := Lib.hid (by unfold clF; rw [hC.out])
    have hp3 := pickI_in (i : Int) (n := 3) (by decide)
    have hp2 := pickI_in (Int.tdiv (i : Int) 3) (n := 2) (by decide)
    obtain ⟨hd1, hd2⟩ := tdiv3 HC.out
    have HD2 := Lib.hid hd2
    generalize pickI (i : Int) 3 = K0 at *
    have hPK : Hid (∀ W, Calls Tryz.prog 23 #[.int .i64 (Int.tdiv (i : Int) 3), .int .i64 2] W fun e w' => e = .returned (.int .i64 (pickI (Int.tdiv (i : Int) 3) 2)) ∧ W = w') := Lib.hid fun W => pick11_any (Int.tdiv (i : Int) 3) 2 W (by decide) (by decide) HD2.out.1 HD2.out.2
    generalize pickI (Int.tdiv (i : Int) 3) 2 = F0 at *
    clear hd2 HD2 HC hC
    rcases (show F0 = 0 ∨ F0 = 1 by omega) with rfl | rfl <;> rcases (show K0 = 0 ∨ K0 = 1 ∨ K0 = 2 by omega) with rfl | rfl | rfl <;> cases c
    all_goals
      go_wp2_with fail
      refine (hPK.out _).mono ?_; rintro e w4 ⟨rfl, rfl⟩
      go_wp2_with fail
      go_ret2
      refine ⟨by rw [hK.out, hF.out]; rfl, ?_⟩
      (repeat (first | with_reducible exact Below.refl _ _ | with_reducible refine kp_alloc ?_ _ | with_reducible refine kp_drew ?_ | with_reducible refine below_drewN ?_ _ | with_reducible refine kp_set ?_ (by first | omega | (simp; done) | (simp; omega)) _ | with_reducible refine kp_tr ?_ (by with_reducible assumption)))
  · have hpos : 0 < x.cls.length := by omega
    have had := h1 hpos
    subst had
    have hlt : i % x.cls.length < x.cls.length := Nat.mod_lt _ hpos
    have hcell := H6.out.at (i := i % x.cls.length) (List.getElem?_eq_getElem hlt) 0 _ rfl
    rw [Nat.mul_one, Nat.add_zero] at hcell
    have hC : Hid (clC x i = x.cls[i % x.cls.length]) := Lib.hid (by
      unfold clC
      rw [if_neg (fun e => hcl (by rw [e]; rfl)), List.getD_eq_getElem?_getD, List.getElem?_eq_getElem hlt]
      rfl)
    have HC : Hid (I64 x.cls[i % x.cls.length]) := Lib.hid (HN.out _ (List.getElem_mem hlt))
    have hmod : (i : Int).tmod (x.cls.length : Int) = ((i % x.cls.length : Nat) : Int) := by rw [Int.tmod_eq_emod_of_nonneg (by omega)]; simp
    generalize x.cls[i % x.cls.length] = C at *
    generalize i % x.cls.length = I at *
    have hgt : ((x.cls.length : Int) > 0) := by omega
    have hli : (I : Int) < (x.cls.length : Int) := by omega
    go_enter Tryz.func57, Tryz.ntmps57
    go_wp2_with fail
    go_quiet (fail)
    go_wp2_with fail
    refine (pick11_any C 3 _ (by decide) (by decide) HC.out.1 HC.out.2).mono ?_; rintro e w3 ⟨rfl, rfl⟩
    have hK : Hid (clK x c i = if (pickI C 3).toNat = 2 ∧ c = false then 1 else (pickI C 3).toNat) := Lib.hid (by unfold clK; rw [hC.out])
    have hF : Hid (clF x i = decide (pickI (Int.tdiv C 3) 2 = 1)) := Lib.hid (by unfold clF; rw [hC.out])
    have hp3 := pickI_in C (n := 3) (by decide)
    have hp2 := pickI_in (Int.tdiv C 3) (n := 2) (by decide)
    obtain ⟨hd1, hd2⟩ := tdiv3 HC.out
    have HD2 := Lib.hid hd2
    generalize pickI C 3 = K0 at *
    have hPK : Hid (∀ W, Calls Tryz.prog 23 #[.int .i64 (Int.tdiv C 3), .int .i64 2] W fun e w' => e = .returned (.int .i64 (pickI (Int.tdiv C 3) 2)) ∧ W = w') := Lib.hid fun W => pick11_any (Int.tdiv C 3) 2 W (by decide) (by decide) HD2.out.1 HD2.out.2
    generalize pickI (Int.tdiv C 3) 2 = F0 at *
    clear hd2 HD2 HC hC
    rcases (show F0 = 0 ∨ F0 = 1 by omega) with rfl | rfl <;> rcases (show K0 = 0 ∨ K0 = 1 ∨ K0 = 2 by omega) with rfl | rfl | rfl <;> cases c
    all_goals
      go_wp2_with fail
      refine (hPK.out _).mono ?_; rintro e w4 ⟨rfl, rfl⟩
      go_wp2_with fail
      go_ret2
      refine ⟨by rw [hK.out, hF.out]; rfl, ?_⟩
      (repeat (first | with_reducible exact Below.refl _ _ | with_reducible refine kp_alloc ?_ _ | with_reducible refine kp_drew ?_ | with_reducible refine below_drewN ?_ _ | with_reducible refine kp_set ?_ (by first | omega | (simp; done) | (simp; omega)) _ | with_reducible refine kp_tr ?_ (by with_reducible assumption)))
end Go.Proofs.YtpgjploaliefdaaGreat.rh

namespace Go.Proofs.YtpgjploaliefdaaGreat.rh
open Go Go.RowKit Go.Proofs.YtpgjploaliefdaaGreat.hp Go.Proofs.YtpgjploaliefdaaGreat.ob Go.Proofs.YtpgjploaliefdaaGreat.hd Go.Proofs.YtpgjploaliefdaaGreat.cp Go.Proofs.YtpgjploaliefdaaGreat.ck Go.Proofs.YtpgjploaliefdaaGreat.gr Go.Proofs.YtpgjploaliefdaaGreat.lx
set_option linter.unusedVariables false
set_option linter.unusedSimpArgs false
set_option maxRecDepth 100000
set_option maxHeartbeats 4000000
def bCells2 (h : Hp) (v : Hv) (gv qv hv ov : Value) : Array Value := #[.int .u64 h.base, .int .i64 h.cap, .int .i64 h.tt, .bool h.cyc, .int .i64 h.scan, v.l, v.h, v.o, v.f, v.r, gv, qv, hv, ov]
def builtV (h : Hp) (v : Hv) (gv qv hv ov : Value) : Value := .agg (bCells2 h v gv qv hv ov)
/-- A heap's slices: of these lengths. -/
structure HF (h : Hp) (v : Hv) : Prop where
  l : ∃ a c, v.l = .slice a h.low.length c
  hi : ∃ a c, v.h = .slice a h.high.length c
  o : ∃ a c, v.o = .slice a h.old.length c
  f : ∃ a c, v.f = .slice a h.far.length c
  r : ∃ a n c, v.r = .slice a n c
theorem two_blk {W w1 : World} {b c : Nat} {cs ds : Array Value} (hb : Below W.heap.size W w1) (h1 : b < W.heap.size) (h2 : c < W.heap.size) (d1 : ∀ i, W.cell? ⟨b, i, none⟩ = cs[i]?) (d2 : ∀ i, W.cell? ⟨c, i, none⟩ = ds[i]?) : (∀ i, w1.cell? ⟨b, i, none⟩ = cs[i]?) ∧ (∀ i, w1.cell? ⟨c, i, none⟩ = ds[i]?) := ⟨fun i => (hb.cell (p := ⟨b, i, none⟩) h1).trans (d1 i), fun i => (hb.cell (p := ⟨c, i, none⟩) h2).trans (d2 i)⟩
theorem ref_any (h : Hp) (v : Hv) (gs qs hs os : Sl) (p a : Nat) (w : World) (hf : HF h v) (hr : layR h.lay = true) (hp : p = 0 ∨ ((1 ≤ p ∧ p ≤ 4) ∧ (a : Int) < lenI h.lay p)) :
    Calls Tryz.prog 59 #[builtV h v (slV gs) (slV qs) (slV hs) (slV os), .agg #[.int .i64 p, .int .i64 a]] w fun e w' => e = .returned (.int .u64 (refP h.lay p a)) ∧ Below w.heap.size w w' := by
  obtain ⟨vl, vh, vo, vf, vr⟩ := v
  obtain ⟨⟨la, lc, e1⟩, ⟨ha, hc, e2⟩, ⟨oa, oc, e3⟩, ⟨fa, fc, e4⟩, ⟨ra, rn, rc, e5⟩⟩ := hf
  dsimp only at e1 e2 e3 e4 e5
  subst e1 e2 e3 e4 e5
  have HL : Hid (∀ W, Calls Tryz.prog 83 #[hpV h ⟨.slice la h.low.length lc, .slice ha h.high.length hc, .slice oa h.old.length oc, .slice fa h.far.length fc, .slice ra rn rc⟩] W fun e w' => e = .returned (layV h.lay) ∧ Below W.heap.size W w') := Lib.hid fun W => layout10_any h _ W ⟨_, _, rfl⟩ ⟨_, _, rfl⟩ ⟨_, _, rfl⟩ ⟨_, _, rfl⟩ ⟨_, _, _, rfl⟩
  rcases hp with rfl | ⟨hp, ha2⟩
  · have HR : Hid (refP h.lay 0 a = 0) := rfl
    unfold builtV bCells2 slV
    dsimp only
    clear HL
    generalize h.low.length = m1 at *
    generalize h.high.length = m2 at *
    generalize h.old.length = m3 at *
    generalize h.far.length = m4 at *
    go_enter Tryz.func59, Tryz.ntmps59
    go_wp2_with fail
    go_ret
    refine ⟨by rw [HR.out]; rfl, ?_⟩
    (repeat (first | with_reducible exact Below.refl _ _ | with_reducible refine kp_alloc ?_ _ | with_reducible refine kp_drew ?_ | with_reducible refine below_drewN ?_ _ | with_reducible refine kp_set ?_ (by first | omega | (simp; done) | (simp; omega)) _ | with_reducible refine kp_tr ?_ (by with_reducible assumption)))
  · have HR : Hid (refP h.lay p a = 2 * (firstI h.lay p + a) + 1) := Lib.hid (by unfold refP; rw [if_neg (by omega)])
    have HA : Hid (∀ W, Calls Tryz.prog 82 #[layV h.lay, .agg #[.int .i64 p, .int .i64 a]] W fun e w' => e = .returned (.tuple #[.int .u64 (firstI h.lay p + a), .int .i64 0]) ∧ Below W.heap.size W w') := Lib.hid fun W => addr7_ok h.lay p a hp W hr ha2
    have hpos := adr_pos hr (p := (p : Int)) (x := (a : Int)) (by omega) ⟨by omega, ha2⟩
    have HF5 : Hid (∀ W, Calls Tryz.prog 84 #[.int .u64 (firstI h.lay p + a)] W fun e w' => e = .returned (.tuple #[.int .u64 (2 * (firstI h.lay p + a) + 1), .int .i64 0]) ∧ W = w') := Lib.hid fun W => ref5_ok _ W hpos.1 hpos.2
    have hp0 : ((p : Int) == 0) = false := by rw [beq_eq_false_iff_ne]; omega
    rw [← HR.out] at HF5
    generalize refP h.lay p a = RV at *
    generalize firstI h.lay p + (a : Int) = AV at *
    generalize layV h.lay = LV at *
    unfold builtV bCells2 slV
    unfold hpV at *
    dsimp only at *
    clear hr ha2 hpos hp HR
    generalize h.low.length = m1 at *
    generalize h.high.length = m2 at *
    generalize h.old.length = m3 at *
    generalize h.far.length = m4 at *
    go_enter Tryz.func59, Tryz.ntmps59
    go_upto_region 3 with (fail)
    have K1 : Blk ((w.alloc (.cells #[.int .u64 h.base, .int .i64 h.cap, .int .i64 h.tt, .bool h.cyc, .int .i64 h.scan, .slice la m1 lc, .slice ha m2 hc, .slice oa m3 oc, .slice fa m4 fc, .slice ra rn rc, .slice gs.fst gs.snd.fst gs.snd.snd, .slice qs.fst qs.snd.fst qs.snd.snd, .slice hs.fst hs.snd.fst hs.snd.snd, .slice os.fst os.snd.fst os.snd.snd] 64)).alloc (.cells #[.int .i64 p, .int .i64 a] 113)) w.heap.size #[.int .u64 h.base, .int .i64 h.cap, .int .i64 h.tt, .bool h.cyc, .int .i64 h.scan, .slice la m1 lc, .slice ha m2 hc, .slice oa m3 oc, .slice fa m4 fc, .slice ra rn rc, .slice gs.fst gs.snd.fst gs.snd.snd, .slice qs.fst qs.snd.fst qs.snd.snd, .slice hs.fst hs.snd.fst hs.snd.snd, .slice os.fst os.snd.fst os.snd.snd] 64 := (Blk.new _ _ _).alloc _
    have K2 : Blk ((w.alloc (.cells #[.int .u64 h.base, .int .i64 h.cap, .int .i64 h.tt, .bool h.cyc, .int .i64 h.scan, .slice la m1 lc, .slice ha m2 hc, .slice oa m3 oc, .slice fa m4 fc, .slice ra rn rc, .slice gs.fst gs.snd.fst gs.snd.snd, .slice qs.fst qs.snd.fst qs.snd.snd, .slice hs.fst hs.snd.fst hs.snd.snd, .slice os.fst os.snd.fst os.snd.snd] 64)).alloc (.cells #[.int .i64 p, .int .i64 a] 113)) (w.heap.size + 1) #[.int .i64 p, .int .i64 a] 113 := Blk.mk (by simp)
    have kW : Below w.heap.size w ((w.alloc (.cells #[.int .u64 h.base, .int .i64 h.cap, .int .i64 h.tt, .bool h.cyc, .int .i64 h.scan, .slice la m1 lc, .slice ha m2 hc, .slice oa m3 oc, .slice fa m4 fc, .slice ra rn rc, .slice gs.fst gs.snd.fst gs.snd.snd, .slice qs.fst qs.snd.fst qs.snd.snd, .slice hs.fst hs.snd.fst hs.snd.snd, .slice os.fst os.snd.fst os.snd.snd] 64)).alloc (.cells #[.int .i64 p, .int .i64 a] 113)) := by (repeat (first | with_reducible exact Below.refl _ _ | with_reducible refine kp_alloc ?_ _ | with_reducible refine kp_drew ?_ | with_reducible refine below_drewN ?_ _ | with_reducible refine kp_set ?_ (by first | omega | (simp; done) | (simp; omega)) _ | with_reducible refine kp_tr ?_ (by with_reducible assumption)))
    generalize (w.alloc (.cells #[.int .u64 h.base, .int .i64 h.cap, .int .i64 h.tt, .bool h.cyc, .int .i64 h.scan, .slice la m1 lc, .slice ha m2 hc, .slice oa m3 oc, .slice fa m4 fc, .slice ra rn rc, .slice gs.fst gs.snd.fst gs.snd.snd, .slice qs.fst qs.snd.fst qs.snd.snd, .slice hs.fst hs.snd.fst hs.snd.snd, .slice os.fst os.snd.fst os.snd.snd] 64)).alloc (.cells #[.int .i64 p, .int .i64 a] 113) = W0 at *
    obtain ⟨l1, d1, f1⟩ := K1.get
    obtain ⟨l2, d2, f2⟩ := K2.get
    go_region_held3 (fun w' => (∀ i, w'.cell? ⟨w.heap.size, i, none⟩ = #[.int .u64 h.base, .int .i64 h.cap, .int .i64 h.tt, .bool h.cyc, .int .i64 h.scan, .slice la m1 lc, .slice ha m2 hc, .slice oa m3 oc, .slice fa m4 fc, .slice ra rn rc, .slice gs.fst gs.snd.fst gs.snd.snd, .slice qs.fst qs.snd.fst qs.snd.snd, .slice hs.fst hs.snd.fst hs.snd.snd, .slice os.fst os.snd.fst os.snd.snd][i]?) ∧ (∀ i, w'.cell? ⟨w.heap.size + 1, i, none⟩ = #[Value.int .i64 p, .int .i64 a][i]?))
      (first | (refine two_blk (W := W0) ?_ l1 l2 d1 d2; (repeat (first | with_reducible exact Below.refl _ _ | with_reducible refine kp_alloc ?_ _ | with_reducible refine kp_drew ?_ | with_reducible refine below_drewN ?_ _ | with_reducible refine kp_set ?_ (by first | omega | (simp; done) | (simp; omega)) _ | with_reducible refine kp_tr ?_ (by with_reducible assumption)))))
      (first
        | (go_at_call 83; refine (HL.out _).mono ?_; rintro e w3 ⟨rfl, k3⟩)
        | (go_at_call 82; refine (HA.out _).mono ?_; rintro e w4 ⟨rfl, k4⟩))
    go_wp2_with fail
    refine (HF5.out _).mono ?_; rintro e w5 ⟨rfl, rfl⟩
    go_wp2_with fail
    go_ret
    refine ⟨rfl, ?_⟩
    (repeat (first | with_reducible exact Below.refl _ _ | with_reducible refine kp_alloc ?_ _ | with_reducible refine kp_drew ?_ | with_reducible refine below_drewN ?_ _ | with_reducible refine kp_set ?_ (by first | omega | (simp; done) | (simp; omega)) _ | with_reducible refine kp_tr ?_ (by with_reducible assumption)))
end Go.Proofs.YtpgjploaliefdaaGreat.rh

namespace Go.Proofs.YtpgjploaliefdaaGreat.rh
open Go Go.RowKit Go.Proofs.YtpgjploaliefdaaGreat.hp Go.Proofs.YtpgjploaliefdaaGreat.ob Go.Proofs.YtpgjploaliefdaaGreat.hd Go.Proofs.YtpgjploaliefdaaGreat.cp Go.Proofs.YtpgjploaliefdaaGreat.ck Go.Proofs.YtpgjploaliefdaaGreat.gr Go.Proofs.YtpgjploaliefdaaGreat.lx
set_option linter.unusedVariables false
set_option linter.unusedSimpArgs false
set_option maxRecDepth 100000
set_option maxHeartbeats 4000000
def enP (p : Nat × Nat) : List Value := [.int .i64 p.1, .int .i64 p.2]
theorem enP_len (p : Nat × Nat) : (enP p).length = 2 := rfl
theorem enP_one (p : Nat × Nat) : ∀ u ∈ enP p, u.oneCell' = true := fun u hu => by
  simp only [enP, List.mem_cons, List.not_mem_nil, or_false] at hu
  rcases hu with rfl | rfl <;> rfl
theorem info_place : (Tryz.prog.info? 113).map (fun i => (i.zero, i.size, i.bytes)) = some (some (.agg #[.int .i64 0, .int .i64 0]), 2, 16) := by kernel_rfl
theorem app_p {ops : Array Oper} {rest : List Oper} {o : Oper} {a : Act} {Q : Exit → Act → World → Prop} (w : World) (hw : Region.wanted o (yielded ops a.tmps) = true) (s x : Operand)
    (ho : o.op = .call { callee := .builtin .append, args := #[s, x], argTypes := #[62, 62] })
    (B : Nat) (v u : Value) (xs ys : List (Nat × Nat)) (hs : a.eval s = v) (hx : a.eval x = u) (hown : OwnR 113 2 enP w B v xs) (hys : RIn 2 enP w u ys) (hbig : xs.length + ys.length < 100000000000) (hB : B ≤ w.heap.size)
    (h : ∀ v' w', OwnR 113 2 enP w' B v' (xs ++ ys) → w.grownBy w' v.ownBlock → (v'.ownBlock = v.ownBlock ∨ v'.ownBlock = some w.heap.size) → wpList Tryz.prog ops Q rest (a.put o.dst v') w') : wpList Tryz.prog ops Q (o :: rest) a w :=
  app_g (α := Nat × Nat) (k := 2) (en := enP) w hw s x _ ho enP_len enP_one _ 16 Tryz.underlying62 info_place rfl (by decide) (by decide) B v u xs ys hs hx hown hys hbig hB h
def plH (x : Rh) (c : Bool) (j : Nat) : Nat × Nat := (hpt x c j, if hpt x c j = 0 then 0 else hof x c (hpt x c j) j)
def plO (x : Rh) (c : Bool) (j : Nat) : Nat × Nat := (opt x c j, if opt x c j = 0 then 0 else oof x c (opt x c j) j)
def hereL (x : Rh) (c : Bool) (n : Nat) : List (Nat × Nat) := (List.range n).map (plH x c)
def oldL (x : Rh) (c : Bool) (n : Nat) : List (Nat × Nat) := (List.range n).map (plO x c)
theorem hereL_succ (x : Rh) (c : Bool) (n : Nat) : hereL x c (n + 1) = hereL x c n ++ [plH x c n] := by unfold hereL; rw [List.range_succ, List.map_append]; rfl
theorem oldL_succ (x : Rh) (c : Bool) (n : Nat) : oldL x c (n + 1) = oldL x c n ++ [plO x c n] := by unfold oldL; rw [List.range_succ, List.map_append]; rfl
/-- Two slices of one's own that lie in blocks apart. -/
def Apt (v u : Value) : Prop := v.ownBlock = none ∨ v.ownBlock ≠ u.ownBlock
theorem Apt.sym {v u : Value} (h : Apt v u) : Apt u v := by
  unfold Apt at *
  rcases h with h | h
  · rcases hu : u.ownBlock with _ | k
    · exact .inl rfl
    · exact .inr (by rw [h]; simp)
  · exact .inr (fun e => h e.symm)
theorem Apt.left {v v' u : Value} {N : Nat} (h : Apt v u) (hat : v'.ownBlock = v.ownBlock ∨ v'.ownBlock = some N) (hu : ∀ k, u.ownBlock = some k → k < N) : Apt v' u := by
  unfold Apt at *
  rcases hat with e | e
  · rw [e]; exact h
  · refine .inr (fun e2 => ?_)
    rw [e] at e2
    have := hu N e2.symm
    omega
theorem OwnR.row {α : Type} {k : Nat} {en : α → List Value} {T : TypeId} {W w : World} {B : Nat} {v : Value} {zs : List α} {r : Option Nat} (h : OwnR T k en W B v zs) (hg : W.grownBy w r) (hr : v.ownBlock = none ∨ v.ownBlock ≠ r) : OwnR T k en w B v zs := by
  unfold OwnR at h ⊢
  exact World.ownsRow.kept h hg hr
theorem two_blk0 {W w1 : World} {b c : Nat} {cs ds : Array Value} (hb : Below W.heap.size W w1) (h1 : b < W.heap.size) (h2 : c < W.heap.size) (d1 : ∀ i, W.cell? ⟨b, i, none⟩ = cs[i]?) (d2 : ∀ i, W.cell? ⟨c, i, none⟩ = ds[i]?) : (∀ i, w1.cell? ⟨b, i, none⟩ = cs[i]?) ∧ (∀ i, w1.cell? ⟨c, i, none⟩ = ds[i]?) := ⟨fun i => (hb.cell (p := ⟨b, i, none⟩) h1).trans (d1 i), fun i => (hb.cell (p := ⟨c, i, none⟩) h2).trans (d2 i)⟩
theorem two_blk_set {W : World} {b c : Nat} {cs ds : Array Value} (h : (∀ i, W.cell? ⟨b, i, none⟩ = cs[i]?) ∧ (∀ i, W.cell? ⟨c, i, none⟩ = ds[i]?)) {p : Addr} (h1 : b ≠ p.block) (h2 : c ≠ p.block) (u : Value) : (∀ i, (W.setCell p u).cell? ⟨b, i, none⟩ = cs[i]?) ∧ (∀ i, (W.setCell p u).cell? ⟨c, i, none⟩ = ds[i]?) :=
  ⟨fun i => (World.cell?_setCell_other _ _ _ _ (fun e => h1 (congrArg Addr.block e).symm)).trans (h.1 i), fun i => (World.cell?_setCell_other _ _ _ _ (fun e => h2 (congrArg Addr.block e).symm)).trans (h.2 i)⟩
theorem blk_ne {W : World} {b c : Nat} {cs ds : Array Value} {T U : TypeId} (h : Blk W b cs T) (k : Blk W c ds U) (hT : T ≠ U) : b ≠ c := fun e => by
  subst e
  have := h.raw.symm.trans k.raw
  simp only [Option.some.injEq, Obj.cells.injEq] at this
  exact hT this.2.1
theorem two_blk_drew {W : World} {b c : Nat} {cs ds : Array Value} (h : (∀ i, W.cell? ⟨b, i, none⟩ = cs[i]?) ∧ (∀ i, W.cell? ⟨c, i, none⟩ = ds[i]?)) : (∀ i, W.drew.cell? ⟨b, i, none⟩ = cs[i]?) ∧ (∀ i, W.drew.cell? ⟨c, i, none⟩ = ds[i]?) := h
def zerosU (k : Nat) : Array Value := madeCells (Value.int .u64 0).cells k
theorem made_u (k j : Nat) (h : j < k) : (zerosU k)[j]? = some (.int .u64 0) := by
  simp [zerosU, madeCells, h, Value.cells, Nat.mod_one]
theorem make_u (k : Nat) (W : World) (h : k < 1000) : (Instr.makeSlice 29 (.int .i64 (k : Int)) (.int .i64 (k : Int))).run Tryz.prog W = .ok (.slice (some ⟨W.heap.size, 0, none⟩) k k) (W.alloc (.cells (zerosU k) 24)) := by
  obtain ⟨i0, hi, hz0, hz1, hz2⟩ := info_parts info_u64
  have := run_make (P := Tryz.prog) W 29 24 i0 (.int .u64 0) Tryz.underlying29 hi hz0 .i64 .i64 k k (by omega) (by omega) (by rw [hz2]; omega) (by omega)
  rw [this, hz1]
  simp [zerosU]
attribute [irreducible] zerosU
/-- A slice of zeros, of one's own. -/
def ZV (W : World) (n : Nat) (v : Value) : Prop := ∃ b, v = .slice (some ⟨b, 0, none⟩) n n ∧ Blk W b (zerosU n) 24
theorem ZV.tr {W w : World} {n : Nat} {v : Value} (h : ZV W n v) (hb : Below W.heap.size W w) : ZV w n v := by
  obtain ⟨b, e, k⟩ := h
  exact ⟨b, e, k.tr hb⟩
def bCells (gv qv : Value) (hv ov : Value) : Array Value := #[.int .u64 0, .int .i64 0, .int .i64 0, .bool false, .int .i64 0, .slice none 0 0, .slice none 0 0, .slice none 0 0, .slice none 0 0, .slice none 0 0, gv, qv, hv, ov]
def sInv (x : Rh) (c : Bool) (w w1 : World) (X : Xv) (gv qv : Value) (k : Nat) (hv ov : Value) (wr : World) : Prop :=
  Blk wr w1.heap.size (bCells gv qv hv ov) 64 ∧ Blk wr (w1.heap.size + 1) #[.int .i64 0, .int .i64 (hof x c 1 k), .int .i64 (hof x c 2 k), .int .i64 (oof x c 3 k), .int .i64 (oof x c 4 k)] 107
  ∧ OwnR 113 2 enP wr (w1.heap.size + 2) hv (hereL x c k) ∧ OwnR 113 2 enP wr (w1.heap.size + 2) ov (oldL x c k) ∧ Apt hv ov ∧ Below w1.heap.size w1 wr ∧ w1.heap.size + 2 ≤ wr.heap.size
/-- What stand keeps. -/
def SP (W w1 : World) (cb cn : Array Value) (hv : Value) (hl : List (Nat × Nat)) (ov : Value) (ol : List (Nat × Nat)) (S : Nat) : Prop :=
  Blk W w1.heap.size cb 64 ∧ Blk W (w1.heap.size + 1) cn 107 ∧ OwnR 113 2 enP W (w1.heap.size + 2) hv hl ∧ OwnR 113 2 enP W (w1.heap.size + 2) ov ol ∧ Below w1.heap.size w1 W ∧ W.heap.size = S
theorem SP.set {W w1 : World} {cb cn : Array Value} {hv : Value} {hl : List (Nat × Nat)} {ov : Value} {ol : List (Nat × Nat)} {S : Nat} (h : SP W w1 cb cn hv hl ov ol S) (i : Nat) (v : Value) : SP (W.setCell ⟨w1.heap.size + 1, i, none⟩ v) w1 cb (cn.setIfInBounds i v) hv hl ov ol S := by
  obtain ⟨h1, h2, h3, h4, h5, h6⟩ := h
  exact ⟨h1.other (by simp) v, h2.set i v, OwnR.setLow h3 (Nat.lt_succ_self _) v, OwnR.setLow h4 (Nat.lt_succ_self _) v, low_set h5 (Nat.le_succ _) v, by simpa [World.setCell] using h6⟩
end Go.Proofs.YtpgjploaliefdaaGreat.rh
