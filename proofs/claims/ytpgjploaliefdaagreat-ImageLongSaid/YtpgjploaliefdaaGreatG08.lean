/- Layer 11: the state that is looked at, in memory. No conditions. -/
import Derived.Test.YtpgjploaliefdaaGreatG05
import Derived.Test.YtpgjploaliefdaaGreatG04
import Derived.Test.YtpgjploaliefdaaGreatMb
import Derived.RegionTactic
import Derived.Deep.QuietTactic
import Derived.BigQuiet
import Derived.WalkSmall
namespace Go.Proofs.YtpgjploaliefdaaGreat.ck
open Go Go.RowKit Go.Proofs.YtpgjploaliefdaaGreat.hp Go.Proofs.YtpgjploaliefdaaGreat.ob Go.Proofs.YtpgjploaliefdaaGreat.hd Go.Proofs.YtpgjploaliefdaaGreat.cp Go.Proofs.YtpgjploaliefdaaGreat.mp
set_option linter.unusedVariables false
set_option linter.unusedSimpArgs false
/-- A heap's slices, as they stand in memory. -/
structure Hv where
  l : Value
  h : Value
  o : Value
  f : Value
  r : Value
def hpV (h : Hp) (v : Hv) : Value := .agg #[.int .u64 h.base, .int .i64 h.cap, .int .i64 h.tt, .bool h.cyc, .int .i64 h.scan, v.l, v.h, v.o, v.f, v.r]
structure HIn (W : World) (h : Hp) (v : Hv) : Prop where
  base : U64 h.base
  cap : I64 h.cap
  tt : I64 h.tt
  scan : I64 h.scan
  low : NumsIn W v.l h.low
  high : NumsIn W v.h h.high
  old : NumsIn W v.o h.old
  far : NumsIn W v.f h.far
  roots : NumsIn W v.r h.roots
  slow : Small h.low
  shigh : Small h.high
  sold : Small h.old
  sfar : Small h.far
  sroots : Small h.roots
theorem HIn.tr {W w : World} {h : Hp} {v : Hv} (a : HIn W h v) (hb : Below W.heap.size W w) : HIn w h v :=
  ⟨a.base, a.cap, a.tt, a.scan, a.low.tr hb, a.high.tr hb, a.old.tr hb, a.far.tr hb, a.roots.tr hb, a.slow, a.shigh, a.sold, a.sfar, a.sroots⟩
theorem nums_len {W : World} {v : Value} {zs : List Int} (h : NumsIn W v zs) : zs.length < 1000000000000 := by
  obtain ⟨_, _, _, _, _, _, _, h1, _⟩ := h
  exact h1.2
theorem HIn.ok {W : World} {h : Hp} {v : Hv} (a : HIn W h v) : h.lay.ok := by
  have h1 := nums_len a.low
  have h2 := nums_len a.high
  have h3 := nums_len a.old
  have h4 := nums_len a.far
  refine ⟨a.base, a.cap, a.tt, ?_, ?_, ?_, ?_⟩ <;> (unfold I64 Hp.lay; simp only; omega)
def shV (sp : Int × Int) : Value := .agg #[.int .i64 sp.1, .int .i64 sp.2]
def pfV (f : Int → Option Int) : Int → Option Value := fun a => (f a).map fun q => .int .i64 q
def lfV (f : Int → Option (Int × Int)) : Int → Option Value := fun a => (f a).map shV
theorem pfV_set (f : Int → Option Int) (a q : Int) : upd (pfV f) a (.int .i64 q) = pfV (pfS f a q) := by
  funext x
  unfold upd pfV pfS
  split <;> rfl
theorem lfV_set (f : Int → Option (Int × Int)) (a : Int) (q : Int × Int) : upd (lfV f) a (shV q) = lfV (lfS f a q) := by
  funext x
  unfold upd lfV lfS
  split <;> rfl
/-- The objects' slices, as they stand. -/
structure Ov where
  a : Value
  b : Value
  c : Value
  d : Value
def stCells (h : Hp) (v : Hv) (ov : Ov) (bp bl : Nat) : Array Value :=
  #[.int .u64 h.base, .int .i64 h.cap, .int .i64 h.tt, .bool h.cyc, .int .i64 h.scan, v.l, v.h, v.o, v.f, v.r,
    .int .u64 h.base, .int .i64 h.cap, .int .i64 h.tt, .int .i64 h.low.length, .int .i64 h.high.length, .int .i64 h.old.length, .int .i64 h.far.length,
    ov.a, ov.b, ov.c, ov.d, .map (some bp), .map (some bl)]
/-- Where the state's things lie. -/
structure Pl where
  b : Nat
  bp : Nat
  bl : Nat
  B : Nat
structure PlOk (n : Nat) (p : Pl) : Prop where
  b0 : n ≤ p.b
  p0 : n ≤ p.bp
  l0 : n ≤ p.bl
  b1 : p.b < p.B
  p1 : p.bp < p.B
  l1 : p.bl < p.B
  bp : p.b ≠ p.bp
  bl : p.b ≠ p.bl
  pl : p.bp ≠ p.bl
structure St (w0 w : World) (p : Pl) (h : Hp) (v : Hv) (s : Fnd) (ov : Ov) : Prop where
  hin : HIn w0 h v
  bel : Below w0.heap.size w0 w
  ok : PlOk w0.heap.size p
  B : p.B ≤ w.heap.size
  blk : Blk w p.b (stCells h v ov p.bp p.bl) 122
  o1 : ObsAt w p.B ov.a s.o1
  o2 : ObsAt w p.B ov.b s.o2
  o3 : ObsAt w p.B ov.c s.o3
  o4 : ObsAt w p.B ov.d s.o4
  pm : ∃ n, n ≤ s.o1.length + s.o2.length + s.o3.length + s.o4.length ∧ MapIs Tryz.prog 24 w p.bp n (pfV s.pf)
  lm : ∃ n, n ≤ s.o1.length ∧ MapIs Tryz.prog 24 w p.bl n (lfV s.lf)
  f1 : (∀ o ∈ s.o1, FitB h.low.length o) ∧ s.o1.length ≤ h.low.length
  f2 : (∀ o ∈ s.o2, FitB h.high.length o) ∧ s.o2.length ≤ h.high.length
  f3 : (∀ o ∈ s.o3, FitB h.old.length o) ∧ s.o3.length ≤ h.old.length
  f4 : (∀ o ∈ s.o4, FitB h.far.length o) ∧ s.o4.length ≤ h.far.length
  rg : ∀ a q, s.pf a = some q → 1 ≤ q ∧ q ≤ 4
  lr : ∀ a q, s.lf a = some q → 0 ≤ q.1 ∧ q.1 ≤ 255
theorem obs_kept {W w : World} {B : Nat} {v : Value} {l : List Ob} {r : Nat} (h : ObsAt W B v l) (hg : W.grownBy w (some r)) (hr : r < B) : ObsAt w B v l := by
  refine World.ownsRow.kept h hg ?_
  rcases hv : v.ownBlock with _ | k
  · exact .inl rfl
  · refine .inr fun e => ?_
    have := World.ownsRow.lt h k hv
    cases e
    omega
variable {w0 w W : World} {p : Pl} {h : Hp} {v : Hv} {s : Fnd} {ov : Ov}
theorem below_of {A B : World} {n r : Nat} (hg : A.grownBy B (some r)) (hn : n ≤ A.heap.size) (hr : n ≤ r) : Below n A B :=
  ⟨hg.os, hg.tape, hg.output, hg.size, fun k hk => hg.block k (by omega) (fun e => by cases e; omega)⟩
theorem St.tr (a : St w0 W p h v s ov) (hb : Below W.heap.size W w) : St w0 w p h v s ov := by
  obtain ⟨n1, h1, m1⟩ := a.pm
  obtain ⟨n2, h2, m2⟩ := a.lm
  exact ⟨a.hin, kp_tr a.bel hb, a.ok, Nat.le_trans a.B hb.size, a.blk.tr hb, obs_tr a.o1 hb, obs_tr a.o2 hb, obs_tr a.o3 hb, obs_tr a.o4 hb, ⟨n1, h1, m1.tr hb⟩, ⟨n2, h2, m2.tr hb⟩, a.f1, a.f2, a.f3, a.f4, a.rg, a.lr⟩
theorem St.alloc (a : St w0 W p h v s ov) (o : Obj) : St w0 (W.alloc o) p h v s ov := a.tr ((Below.refl _ _).alloc (Nat.le_refl _) _)
theorem St.drew (a : St w0 W p h v s ov) : St w0 W.drew p h v s ov := a.tr (Below.refl _ _).drew
theorem St.now (a : St w0 W p h v s ov) : HIn W h v := a.hin.tr a.bel
theorem Hp.part_cases {P : List Int → Prop} (h : Hp) (q : Nat) (h1 : P h.low) (h2 : P h.high) (h3 : P h.old) (h4 : P h.far) : P (h.part q) := by
  unfold Hp.part
  repeat' split
  all_goals assumption
def Hv.part (v : Hv) (q : Nat) : Value := if q = 1 then v.l else if q = 2 then v.h else if q = 3 then v.o else v.f
def Ov.part (v : Ov) (q : Nat) : Value := if q = 1 then v.a else if q = 2 then v.b else if q = 3 then v.c else v.d
theorem HIn.part (a : HIn W h v) (q : Nat) : NumsIn W (v.part q) (h.part q) ∧ Small (h.part q) := by
  unfold Hp.part Hv.part
  repeat' split
  · exact ⟨a.low, a.slow⟩
  · exact ⟨a.high, a.shigh⟩
  · exact ⟨a.old, a.sold⟩
  · exact ⟨a.far, a.sfar⟩
theorem St.obs (a : St w0 W p h v s ov) (q : Nat) : ObsAt W p.B (ov.part q) (s.obs q) ∧ (∀ o ∈ s.obs q, FitB (h.part q).length o) ∧ (s.obs q).length ≤ (h.part q).length := by
  unfold Ov.part Fnd.obs Hp.part
  repeat' split
  · exact ⟨a.o1, a.f1⟩
  · exact ⟨a.o2, a.f2⟩
  · exact ⟨a.o3, a.f3⟩
  · exact ⟨a.o4, a.f4⟩
end Go.Proofs.YtpgjploaliefdaaGreat.ck

namespace Go.Proofs.YtpgjploaliefdaaGreat.rh
open Go Go.RowKit Go.Proofs.YtpgjploaliefdaaGreat.hp Go.Proofs.YtpgjploaliefdaaGreat.ob Go.Proofs.YtpgjploaliefdaaGreat.hd Go.Proofs.YtpgjploaliefdaaGreat.cp Go.Proofs.YtpgjploaliefdaaGreat.ck
set_option linter.unusedVariables false
set_option linter.unusedSimpArgs false
set_option maxRecDepth 100000
set_option maxHeartbeats 4000000
theorem right7_ok (L : Lay) (w : World) (hr : layR L = true) : Calls Tryz.prog 87 #[layV L] w fun e w' => e = .returned (.bool true) ∧ Below w.heap.size w w' := by
  obtain ⟨r1, r2, r3, r4, r5, ⟨r6, r7, r8⟩, ⟨r9, r10, r11⟩⟩ := layR_t hr
  obtain ⟨base, cap, tt, low, high, old, far⟩ := L
  dsimp only at r1 r2 r3 r4 r5 r6 r7 r8 r9 r10 r11
  clear hr
  unfold layV
  dsimp only
  have w1 : IntKind.u64.wrap cap = cap := IntWalk.u64_in _ (by omega)
  have w2 : IntKind.u64.wrap (2 * cap) = 2 * cap := IntWalk.u64_in _ (by omega)
  have w3 : IntKind.u64.wrap (9223372036854775808 - 2 * cap) = 9223372036854775808 - 2 * cap := IntWalk.u64_in _ (by omega)
  have w4 : IntKind.i64.wrap (cap - low) = cap - low := IntWalk.i64_in _ (by omega)
  have w5 : IntKind.i64.wrap (cap - old) = cap - old := IntWalk.i64_in _ (by omega)
  have d1 : high ≤ cap - low := by omega
  have d2 : far ≤ cap - old := by omega
  have d3 : low ≤ cap := by omega
  have d4 : old ≤ cap := by omega
  rcases r5 with rfl | rfl
  all_goals
    go_enter Tryz.func87, Tryz.ntmps87
    go_wp2_with fail
    all_goals first
      | (exfalso; omega)
      | (go_ret; refine ⟨rfl, ?_⟩; (repeat (first | with_reducible exact Below.refl _ _ | with_reducible refine kp_alloc ?_ _ | with_reducible refine kp_drew ?_ | with_reducible refine kp_set ?_ (by first | omega | (simp; done) | (simp; omega)) _ | with_reducible refine kp_tr ?_ (by with_reducible assumption))))
      | skip
theorem addrs7_ok (L : Lay) (p : Nat) (hp : 1 ≤ p ∧ p ≤ 4) (w : World) (hr : layR L = true) : Calls Tryz.prog 102 #[layV L, .int .i64 p] w fun e w' => e = .returned (.tuple #[.int .u64 (firstI L p), .int .i64 (lenI L p)]) ∧ Below w.heap.size w w' := by
  obtain ⟨r1, r2, r3, r4, r5, ⟨r6, r7, r8⟩, ⟨r9, r10, r11⟩⟩ := layR_t hr
  obtain ⟨base, cap, tt, low, high, old, far⟩ := L
  dsimp only at r1 r2 r3 r4 r5 r6 r7 r8 r9 r10 r11
  clear hr
  unfold layV
  dsimp only
  have w0 : IntKind.u64.wrap cap = cap := IntWalk.u64_in _ (by omega)
  have w1 : IntKind.u64.wrap base = base := IntWalk.u64_in _ (by omega)
  have w2 : IntKind.u64.wrap (base + cap) = base + cap := IntWalk.u64_in _ (by omega)
  have w3 : IntKind.i64.wrap cap = cap := IntWalk.i64_in _ (by omega)
  have w4 : IntKind.i64.wrap (cap - high) = cap - high := IntWalk.i64_in _ (by omega)
  have w5 : IntKind.i64.wrap (cap - far) = cap - far := IntWalk.i64_in _ (by omega)
  have w6 : IntKind.u64.wrap (cap - high) = cap - high := IntWalk.u64_in _ (by omega)
  have w7 : IntKind.u64.wrap (cap - far) = cap - far := IntWalk.u64_in _ (by omega)
  have w8 : IntKind.u64.wrap (base + (cap - high)) = base + (cap - high) := IntWalk.u64_in _ (by omega)
  have w9 : IntKind.u64.wrap (base + (cap - far)) = base + (cap - far) := IntWalk.u64_in _ (by omega)
  have w10 : IntKind.u64.wrap (base + cap + (cap - high)) = base + cap + (cap - high) := IntWalk.u64_in _ (by omega)
  have w11 : IntKind.u64.wrap (base + cap + (cap - far)) = base + cap + (cap - far) := IntWalk.u64_in _ (by omega)
  rcases (show p = 1 ∨ p = 2 ∨ p = 3 ∨ p = 4 by omega) with rfl | rfl | rfl | rfl <;> rcases r5 with rfl | rfl
  all_goals
    go_enter Tryz.func102, Tryz.ntmps102
    go_wp2_with fail
    go_quiet (fail)
    go_wp2_with fail
    go_ret2
    refine ⟨?_, ?_⟩
    · simp [firstI, lenI]
    · (repeat (first | with_reducible exact Below.refl _ _ | with_reducible refine kp_alloc ?_ _ | with_reducible refine kp_drew ?_ | with_reducible refine below_drewN ?_ _ | with_reducible refine kp_set ?_ (by first | omega | (simp; done) | (simp; omega)) _ | with_reducible refine kp_tr ?_ (by with_reducible assumption)))
theorem addr7_ok (L : Lay) (p a : Nat) (hp : 1 ≤ p ∧ p ≤ 4) (w : World) (hr : layR L = true) (ha : (a : Int) < lenI L p) : Calls Tryz.prog 82 #[layV L, .agg #[.int .i64 p, .int .i64 a]] w fun e w' => e = .returned (.tuple #[.int .u64 (firstI L p + a), .int .i64 0]) ∧ Below w.heap.size w w' := by
  have H1 : Hid (∀ W, Calls Tryz.prog 87 #[layV L] W fun e w' => e = .returned (.bool true) ∧ Below W.heap.size W w') := Lib.hid fun W => right7_ok L W hr
  have H2 : Hid (∀ W, Calls Tryz.prog 102 #[layV L, .int .i64 p] W fun e w' => e = .returned (.tuple #[.int .u64 (firstI L p), .int .i64 (lenI L p)]) ∧ Below W.heap.size W w') := Lib.hid fun W => addrs7_ok L p hp W hr
  have hpos := adr_pos hr (p := (p : Int)) (x := (a : Int)) (by omega) ⟨by omega, ha⟩
  have hl4 : lenI L p ≤ 4096 := by
    obtain ⟨r1, r2, r3, r4, r5, ⟨r6, r7, r8⟩, ⟨r9, r10, r11⟩⟩ := layR_t hr
    unfold lenI; repeat' split
    all_goals omega
  have w1 : IntKind.u64.wrap (a : Int) = (a : Int) := IntWalk.u64_in _ (by omega)
  have w2 : IntKind.u64.wrap (firstI L p + a) = firstI L p + a := IntWalk.u64_in _ (by omega)
  generalize firstI L p = F at *
  generalize lenI L p = N at *
  have hna : ¬ ((a : Int) ≥ N) := by omega
  obtain ⟨base, cap, tt, low, high, old, far⟩ := L
  unfold layV at *
  dsimp only at *
  clear hr hp hpos hl4
  go_enter Tryz.func82, Tryz.ntmps82
  go_wp2_with fail
  refine (H1.out _).mono ?_; rintro e w3 ⟨rfl, k3⟩
  have KL := (Blk.new w #[.int .u64 base, .int .i64 cap, .int .i64 tt, .int .i64 low, .int .i64 high, .int .i64 old, .int .i64 far] 117).alloc (.cells #[.int .i64 p, .int .i64 a] 113) |>.tr k3
  have KP : Blk w3 (w.heap.size + 1) #[.int .i64 p, .int .i64 a] 113 := (Blk.mk (w := w.alloc (.cells #[.int .u64 base, .int .i64 cap, .int .i64 tt, .int .i64 low, .int .i64 high, .int .i64 old, .int .i64 far] 117)) (by simp)).tr k3
  obtain ⟨lL, cL, fL⟩ := KL.get
  obtain ⟨lP, cP, fP⟩ := KP.get
  go_wp2_with fail
  refine (H2.out _).mono ?_; rintro e w4 ⟨rfl, k4⟩
  replace KL := KL.tr k4
  obtain ⟨lL, cL, fL⟩ := KL.get
  replace KP := KP.tr k4
  obtain ⟨lP, cP, fP⟩ := KP.get
  go_wp2_with fail
  go_ret2
  refine ⟨rfl, ?_⟩
  (repeat (first | with_reducible exact Below.refl _ _ | with_reducible refine kp_alloc ?_ _ | with_reducible refine kp_drew ?_ | with_reducible refine below_drewN ?_ _ | with_reducible refine kp_set ?_ (by first | omega | (simp; done) | (simp; omega)) _ | with_reducible refine kp_tr ?_ (by with_reducible assumption)))
theorem ref5_ok (a : Int) (w : World) (h1 : 1 ≤ a) (h2 : a < 9223372036854775808) : Calls Tryz.prog 84 #[.int .u64 a] w fun e w' => e = .returned (.tuple #[.int .u64 (2 * a + 1), .int .i64 0]) ∧ w = w' := by
  have w1 : IntKind.u64.wrap (2 * a) = 2 * a := IntWalk.u64_in _ (by omega)
  have w2 : IntKind.u64.wrap (2 * a + 1) = 2 * a + 1 := IntWalk.u64_in _ (by omega)
  go_enter Tryz.func84, Tryz.ntmps84
  go_wp2_with fail
  all_goals first
    | (exfalso; omega)
    | (go_ret2; exact ⟨rfl, rfl⟩)
theorem layout10_any (h : Hp) (v : Hv) (w : World) (hl : ∃ a c, v.l = .slice a h.low.length c) (hh : ∃ a c, v.h = .slice a h.high.length c) (ho : ∃ a c, v.o = .slice a h.old.length c) (hf : ∃ a c, v.f = .slice a h.far.length c) (hr : ∃ a n c, v.r = .slice a n c) :
    Calls Tryz.prog 83 #[hpV h v] w fun e w' => e = .returned (layV h.lay) ∧ Below w.heap.size w w' := by
  obtain ⟨vl, vh, vo, vf, vr⟩ := v
  obtain ⟨la, lc, e1⟩ := hl
  obtain ⟨ha, hc, e2⟩ := hh
  obtain ⟨oa, oc, e3⟩ := ho
  obtain ⟨fa, fc, e4⟩ := hf
  obtain ⟨ra, rn, rc, e5⟩ := hr
  dsimp only at e1 e2 e3 e4 e5
  subst e1 e2 e3 e4 e5
  unfold hpV layV Hp.lay
  dsimp only
  generalize h.low.length = n1
  generalize h.high.length = n2
  generalize h.old.length = n3
  generalize h.far.length = n4
  go_enter Tryz.func83, Tryz.ntmps83
  go_wp2_with fail
  refine bodyPost_ret (v := .agg #[.int .u64 h.base, .int .i64 h.cap, .int .i64 h.tt, .int .i64 n1, .int .i64 n2, .int .i64 n3, .int .i64 n4]) (by simp only [results, Tryz.results83]; go_simp) rfl ⟨rfl, ?_⟩
  (repeat (first | with_reducible exact Below.refl _ _ | with_reducible refine kp_alloc ?_ _ | with_reducible refine kp_drew ?_ | with_reducible refine below_drewN ?_ _ | with_reducible refine kp_set ?_ (by first | omega | (simp; done) | (simp; omega)) _ | with_reducible refine kp_tr ?_ (by with_reducible assumption)))
end Go.Proofs.YtpgjploaliefdaaGreat.rh
