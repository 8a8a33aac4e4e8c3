/- Layer 11: the state that is looked at, in memory. No conditions. -/
import Derived.Test.YtpgjploaliefdaaCp
import Derived.Test.YtpgjploaliefdaaMp
namespace Go.Proofs.Ytpgjploaliefdaa.ck
open Go Go.RowKit Go.Proofs.Ytpgjploaliefdaa.hp Go.Proofs.Ytpgjploaliefdaa.ob Go.Proofs.Ytpgjploaliefdaa.hd Go.Proofs.Ytpgjploaliefdaa.cp Go.Proofs.Ytpgjploaliefdaa.mp
set_option linter.unusedVariables false
set_option linter.unusedSimpArgs false
/-- A heap's slices, as they stand in memory. -/
structure Hv where
  l : Value
  h : Value
  o : Value
  f : Value
  r : Value
def hpV (h : Hp) (v : Hv) : Value := .agg #[.int .u64 h.base, .int .i64 h.cap, .int .i64 h.tt, .bool h.cyc, .int .i64 h.scan, v.l, v.h, v.o, v.f, v.r]
structure HIn (W : World) (h : Hp) (v : Hv) : Prop where
  base : U64 h.base
  cap : I64 h.cap
  tt : I64 h.tt
  scan : I64 h.scan
  low : NumsIn W v.l h.low
  high : NumsIn W v.h h.high
  old : NumsIn W v.o h.old
  far : NumsIn W v.f h.far
  roots : NumsIn W v.r h.roots
  slow : Small h.low
  shigh : Small h.high
  sold : Small h.old
  sfar : Small h.far
  sroots : Small h.roots
theorem HIn.tr {W w : World} {h : Hp} {v : Hv} (a : HIn W h v) (hb : Below W.heap.size W w) : HIn w h v :=
  ⟨a.base, a.cap, a.tt, a.scan, a.low.tr hb, a.high.tr hb, a.old.tr hb, a.far.tr hb, a.roots.tr hb, a.slow, a.shigh, a.sold, a.sfar, a.sroots⟩
theorem nums_len {W : World} {v : Value} {zs : List Int} (h : NumsIn W v zs) : zs.length < 1000000000000 := by
  obtain ⟨_, _, _, _, _, _, _, h1, _⟩ := h
  exact h1.2
theorem HIn.ok {W : World} {h : Hp} {v : Hv} (a : HIn W h v) : h.lay.ok := by
  have h1 := nums_len a.low
  have h2 := nums_len a.high
  have h3 := nums_len a.old
  have h4 := nums_len a.far
  refine ⟨a.base, a.cap, a.tt, ?_, ?_, ?_, ?_⟩ <;> (unfold I64 Hp.lay; simp only; omega)
def shV (sp : Int × Int) : Value := .agg #[.int .i64 sp.1, .int .i64 sp.2]
def pfV (f : Int → Option Int) : Int → Option Value := fun a => (f a).map fun q => .int .i64 q
def lfV (f : Int → Option (Int × Int)) : Int → Option Value := fun a => (f a).map shV
theorem pfV_set (f : Int → Option Int) (a q : Int) : upd (pfV f) a (.int .i64 q) = pfV (pfS f a q) := by
  funext x
  unfold upd pfV pfS
  split <;> rfl
theorem lfV_set (f : Int → Option (Int × Int)) (a : Int) (q : Int × Int) : upd (lfV f) a (shV q) = lfV (lfS f a q) := by
  funext x
  unfold upd lfV lfS
  split <;> rfl
/-- The objects' slices, as they stand. -/
structure Ov where
  a : Value
  b : Value
  c : Value
  d : Value
def stCells (h : Hp) (v : Hv) (ov : Ov) (bp bl : Nat) : Array Value :=
  #[.int .u64 h.base, .int .i64 h.cap, .int .i64 h.tt, .bool h.cyc, .int .i64 h.scan, v.l, v.h, v.o, v.f, v.r,
    .int .u64 h.base, .int .i64 h.cap, .int .i64 h.tt, .int .i64 h.low.length, .int .i64 h.high.length, .int .i64 h.old.length, .int .i64 h.far.length,
    ov.a, ov.b, ov.c, ov.d, .map (some bp), .map (some bl)]
/-- Where the state's things lie. -/
structure Pl where
  b : Nat
  bp : Nat
  bl : Nat
  B : Nat
structure PlOk (n : Nat) (p : Pl) : Prop where
  b0 : n ≤ p.b
  p0 : n ≤ p.bp
  l0 : n ≤ p.bl
  b1 : p.b < p.B
  p1 : p.bp < p.B
  l1 : p.bl < p.B
  bp : p.b ≠ p.bp
  bl : p.b ≠ p.bl
  pl : p.bp ≠ p.bl
structure St (w0 w : World) (p : Pl) (h : Hp) (v : Hv) (s : Fnd) (ov : Ov) : Prop where
  hin : HIn w0 h v
  bel : Below w0.heap.size w0 w
  ok : PlOk w0.heap.size p
  B : p.B ≤ w.heap.size
  blk : Blk w p.b (stCells h v ov p.bp p.bl) 80
  o1 : ObsAt w p.B ov.a s.o1
  o2 : ObsAt w p.B ov.b s.o2
  o3 : ObsAt w p.B ov.c s.o3
  o4 : ObsAt w p.B ov.d s.o4
  pm : ∃ n, n ≤ s.o1.length + s.o2.length + s.o3.length + s.o4.length ∧ MapIs Try.prog 24 w p.bp n (pfV s.pf)
  lm : ∃ n, n ≤ s.o1.length ∧ MapIs Try.prog 24 w p.bl n (lfV s.lf)
  f1 : (∀ o ∈ s.o1, FitB h.low.length o) ∧ s.o1.length ≤ h.low.length
  f2 : (∀ o ∈ s.o2, FitB h.high.length o) ∧ s.o2.length ≤ h.high.length
  f3 : (∀ o ∈ s.o3, FitB h.old.length o) ∧ s.o3.length ≤ h.old.length
  f4 : (∀ o ∈ s.o4, FitB h.far.length o) ∧ s.o4.length ≤ h.far.length
  rg : ∀ a q, s.pf a = some q → 1 ≤ q ∧ q ≤ 4
  lr : ∀ a q, s.lf a = some q → 0 ≤ q.1 ∧ q.1 ≤ 255
theorem obs_kept {W w : World} {B : Nat} {v : Value} {l : List Ob} {r : Nat} (h : ObsAt W B v l) (hg : W.grownBy w (some r)) (hr : r < B) : ObsAt w B v l := by
  refine World.ownsRow.kept h hg ?_
  rcases hv : v.ownBlock with _ | k
  · exact .inl rfl
  · refine .inr fun e => ?_
    have := World.ownsRow.lt h k hv
    cases e
    omega
variable {w0 w W : World} {p : Pl} {h : Hp} {v : Hv} {s : Fnd} {ov : Ov}
theorem below_of {A B : World} {n r : Nat} (hg : A.grownBy B (some r)) (hn : n ≤ A.heap.size) (hr : n ≤ r) : Below n A B :=
  ⟨hg.os, hg.tape, hg.output, hg.size, fun k hk => hg.block k (by omega) (fun e => by cases e; omega)⟩
theorem St.tr (a : St w0 W p h v s ov) (hb : Below W.heap.size W w) : St w0 w p h v s ov := by
  obtain ⟨n1, h1, m1⟩ := a.pm
  obtain ⟨n2, h2, m2⟩ := a.lm
  exact ⟨a.hin, kp_tr a.bel hb, a.ok, Nat.le_trans a.B hb.size, a.blk.tr hb, obs_tr a.o1 hb, obs_tr a.o2 hb, obs_tr a.o3 hb, obs_tr a.o4 hb, ⟨n1, h1, m1.tr hb⟩, ⟨n2, h2, m2.tr hb⟩, a.f1, a.f2, a.f3, a.f4, a.rg, a.lr⟩
theorem St.alloc (a : St w0 W p h v s ov) (o : Obj) : St w0 (W.alloc o) p h v s ov := a.tr ((Below.refl _ _).alloc (Nat.le_refl _) _)
theorem St.drew (a : St w0 W p h v s ov) : St w0 W.drew p h v s ov := a.tr (Below.refl _ _).drew
theorem St.now (a : St w0 W p h v s ov) : HIn W h v := a.hin.tr a.bel
theorem Hp.part_cases {P : List Int → Prop} (h : Hp) (q : Nat) (h1 : P h.low) (h2 : P h.high) (h3 : P h.old) (h4 : P h.far) : P (h.part q) := by
  unfold Hp.part
  repeat' split
  all_goals assumption
def Hv.part (v : Hv) (q : Nat) : Value := if q = 1 then v.l else if q = 2 then v.h else if q = 3 then v.o else v.f
def Ov.part (v : Ov) (q : Nat) : Value := if q = 1 then v.a else if q = 2 then v.b else if q = 3 then v.c else v.d
theorem HIn.part (a : HIn W h v) (q : Nat) : NumsIn W (v.part q) (h.part q) ∧ Small (h.part q) := by
  unfold Hp.part Hv.part
  repeat' split
  · exact ⟨a.low, a.slow⟩
  · exact ⟨a.high, a.shigh⟩
  · exact ⟨a.old, a.sold⟩
  · exact ⟨a.far, a.sfar⟩
theorem St.obs (a : St w0 W p h v s ov) (q : Nat) : ObsAt W p.B (ov.part q) (s.obs q) ∧ (∀ o ∈ s.obs q, FitB (h.part q).length o) ∧ (s.obs q).length ≤ (h.part q).length := by
  unfold Ov.part Fnd.obs Hp.part
  repeat' split
  · exact ⟨a.o1, a.f1⟩
  · exact ⟨a.o2, a.f2⟩
  · exact ⟨a.o3, a.f3⟩
  · exact ⟨a.o4, a.f4⟩
end Go.Proofs.Ytpgjploaliefdaa.ck
