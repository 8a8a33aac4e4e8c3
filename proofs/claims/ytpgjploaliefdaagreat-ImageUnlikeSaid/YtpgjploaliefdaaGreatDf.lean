/- check: the state's note, walked. No conditions. -/
import Derived.Test.YtpgjploaliefdaaGreatTk
import Derived.Test.YtpgjploaliefdaaGreatG13
namespace Go.Proofs.YtpgjploaliefdaaGreat.ck
open Go Go.RowKit hp ob hd cp mp cm gr
set_option linter.unusedVariables false
set_option linter.unusedSimpArgs false
set_option maxRecDepth 100000
set_option maxHeartbeats 4000000
variable {w0 w W : World} {p : Pl} {h : Hp} {v : Hv} {s : Fnd} {ov : Ov}
theorem noteP_snoc {L : Lay} {p : Int} : ∀ {l : List Ob} {o : Ob} {f : Int → Option Int}, noteP L p (l ++ [o]) f = pfS (noteP L p l f) (adr L p o.pos) p
 | [], o, f => rfl
 | c :: l, o, f => by
  show noteP L p (l ++ [o]) (pfS f (adr L p c.pos) p) = _
  rw [noteP_snoc]
  rfl
theorem noteL_snoc {L : Lay} : ∀ {l : List Ob} {o : Ob} {f : Int → Option (Int × Int)}, noteL L (l ++ [o]) f = lfS (noteL L l f) (adr L 1 o.pos) (o.s, o.p)
 | [], o, f => rfl
 | c :: l, o, f => by
  show noteL L (l ++ [o]) (lfS f (adr L 1 c.pos) (c.s, c.p)) = _
  rw [noteL_snoc]
  rfl
theorem take_ob {os : List Ob} {k : Nat} (h : k < os.length) : os.take (k + 1) = os.take k ++ [obD os k] := by
 rw [List.take_add_one]
 simp [obD, List.getD, h]
def midF (s : Fnd) (L : Lay) (q : Nat) (l : List Ob) (k : Nat) : Fnd := { putF s q l with pf := noteP L q (l.take k) s.pf, lf := if q = 1 then noteL L (l.take k) s.lf else s.lf }
theorem mid_zero (s : Fnd) (L : Lay) (q : Nat) (l : List Ob) : midF s L q l 0 = putF s q l := by
 unfold midF
 rw [List.take_zero]
 show ({ putF s q l with pf := s.pf, lf := if q = 1 then s.lf else s.lf } : Fnd) = _
 rw [ite_self]
 rfl
theorem mid_all (s : Fnd) (L : Lay) (q : Nat) (l : List Ob) : midF s L q l l.length = s.note L q l := by
 unfold midF
 rw [List.take_length]
 rfl
theorem mid_succ (s : Fnd) (L : Lay) (q : Nat) (l : List Ob) (k : Nat) (hk : k < l.length) (hq : ¬ q = 1) : midF s L q l (k + 1) = { midF s L q l k with pf := pfS (noteP L q (l.take k) s.pf) (adr L q (obD l k).pos) q } := by
 unfold midF
 rw [take_ob hk, noteP_snoc, if_neg hq, if_neg hq]
theorem mid_succ1 (s : Fnd) (L : Lay) (l : List Ob) (k : Nat) (hk : k < l.length) : midF s L 1 l (k + 1) = { midF s L 1 l k with pf := pfS (noteP L 1 (l.take k) s.pf) (adr L 1 (obD l k).pos) 1, lf := lfS (noteL L (l.take k) s.lf) (adr L 1 (obD l k).pos) ((obD l k).s, (obD l k).p) } := by
 unfold midF
 rw [take_ob hk, noteL_snoc]
 show ({ putF s 1 l with pf := noteP L 1 (List.take k l ++ [obD l k]) s.pf, lf := _ } : Fnd) = _
 rw [noteP_snoc]
 rfl
theorem tot_mid (s : Fnd) (L : Lay) (q : Nat) (l : List Ob) (k : Nat) (hq : 1 ≤ q ∧ q ≤ 4) (he : s.obs q = []) : totF (midF s L q l k) = totF s + l.length := by
 unfold totF
 rcases (show q = 1 ∨ q = 2 ∨ q = 3 ∨ q = 4 by omega) with rfl | rfl | rfl | rfl
 ·have he1 : s.o1 = [] := he
  simp [midF, putF, he1]; omega
 ·have he1 : s.o2 = [] := he
  simp [midF, putF, he1]; omega
 ·have he1 : s.o3 = [] := he
  simp [midF, putF, he1]
  omega
 ·have he1 : s.o4 = [] := he
  simp [midF, putF, he1]
theorem objs_at {g o n c : Nat} {l : List Ob} (h : ObjsIn w (.slice (some ⟨g, o, none⟩) n c) l) (hn : 0 < l.length) : n = l.length ∧ ObjsAt w g o l.length l ∧ g < w.heap.size := by
 obtain ⟨ad, b, off, cap, e, ⟨h1, _⟩, h2, h3, h4, h5⟩ := h
 cases e
 have := h1 hn
 cases this
 exact ⟨rfl, h5, h4⟩
theorem put_obs (s : Fnd) (q : Nat) (hq : 1 ≤ q ∧ q ≤ 4) (l : List Ob) (L : Lay) (k : Nat) : (midF s L q l k).obs q = l := by
 rcases (show q = 1 ∨ q = 2 ∨ q = 3 ∨ q = 4 by omega) with rfl | rfl | rfl | rfl <;> rfl
theorem put_ov (ov : Ov) (q : Nat) (hq : 1 ≤ q ∧ q ≤ 4) (u : Value) : (ov.put q u).part q = u := by
 rcases (show q = 1 ∨ q = 2 ∨ q = 3 ∨ q = 4 by omega) with rfl | rfl | rfl | rfl <;> rfl
theorem s8n_tr {W w1 : World} {n b c : Nat} (hb : Below n W w1) (hn : b < n) (hc : c < n) {a1 a2 a3 a4 a5 a6 a7 a8 : Nat} {v1 v2 v3 v4 v5 v6 v7 v8 : Value} (h : W.cell? ⟨b, a1, none⟩ = some v1 ∧ W.cell? ⟨b, a2, none⟩ = some v2 ∧ W.cell? ⟨b, a3, none⟩ = some v3 ∧ W.cell? ⟨b, a4, none⟩ = some v4 ∧ W.cell? ⟨b, a5, none⟩ = some v5 ∧ W.cell? ⟨b, a6, none⟩ = some v6 ∧ W.cell? ⟨b, a7, none⟩ = some v7 ∧ W.cell? ⟨c, a8, none⟩ = some v8) :
  w1.cell? ⟨b, a1, none⟩ = some v1 ∧ w1.cell? ⟨b, a2, none⟩ = some v2 ∧ w1.cell? ⟨b, a3, none⟩ = some v3 ∧ w1.cell? ⟨b, a4, none⟩ = some v4 ∧ w1.cell? ⟨b, a5, none⟩ = some v5 ∧ w1.cell? ⟨b, a6, none⟩ = some v6 ∧ w1.cell? ⟨b, a7, none⟩ = some v7 ∧ w1.cell? ⟨c, a8, none⟩ = some v8 := by
 have hc1 : ∀ o, w1.cell? ⟨b, o, none⟩ = W.cell? ⟨b, o, none⟩ := fun o => hb.cell (p := ⟨b, o, none⟩) hn
 have hc2 : ∀ o, w1.cell? ⟨c, o, none⟩ = W.cell? ⟨c, o, none⟩ := fun o => hb.cell (p := ⟨c, o, none⟩) hc
 rw [hc1, hc1, hc1, hc1, hc1, hc1, hc1, hc2]
 exact h
structure K3 (p : Pl) (W w : World) : Prop where
 size : W.heap.size ≤ w.heap.size
 block : ∀ b, b < W.heap.size → b ≠ p.b → b ≠ p.bp → b ≠ p.bl → w.heap[b]? = W.heap[b]?
theorem K3.refl (p : Pl) (W : World) : K3 p W W := ⟨Nat.le_refl _, fun _ _ _ _ _ => rfl⟩
theorem K3.trans {p : Pl} {A B C : World} (h : K3 p A B) (k : K3 p B C) : K3 p A C := ⟨Nat.le_trans h.size k.size, fun b h1 h2 h3 h4 => (k.block b (Nat.lt_of_lt_of_le h1 h.size) h2 h3 h4).trans (h.block b h1 h2 h3 h4)⟩
theorem K3.below {p : Pl} {A B : World} (h : Below A.heap.size A B) : K3 p A B := ⟨h.size, fun b h1 _ _ _ => h.block b h1⟩
theorem K3.grown {p : Pl} {A B : World} {r : Nat} (h : A.grownBy B (some r)) (hr : r = p.b ∨ r = p.bp ∨ r = p.bl) : K3 p A B := ⟨h.size, fun b h1 h2 h3 h4 => h.block b h1 (fun e => by cases e; rcases hr with e | e | e <;> contradiction)⟩
theorem K3.blk {p : Pl} {A B : World} {n : Nat} {cs : Array Value} {T : TypeId} (h : K3 p A B) (k : Blk A n cs T) (h2 : n ≠ p.b) (h3 : n ≠ p.bp) (h4 : n ≠ p.bl) : Blk B n cs T := Blk.of ((h.block n k.lt h2 h3 h4).trans k.raw)
theorem note_any (a : St w0 W p h v s ov) (hr : layR h.lay = true) (q : Nat) (hq : 1 ≤ q ∧ q ≤ 4) (u : Value) (l : List Ob) (hu : ObsAt W p.B u l) (hf : (∀ o ∈ l, FitB (h.part q).length o) ∧ l.length ≤ (h.part q).length) (he : s.obs q = []) :
  Calls Tryz.prog 111 #[.pointer (some ⟨p.b, 0, none⟩), .int .i64 q, u] W fun e w' => e = .returned (.tuple #[]) ∧ St w0 w' p h v (s.note h.lay q l) (ov.put q u) ∧ K3 p W w' := by
 have hzl := nums_len (a.hin.part q).1
 obtain ⟨lb, cb, fb⟩ := a.blk.get
 have hos := obs_sees hu (by omega) (by omega)
 have A1 := Lib.hid (a.obSet hq hu hf he)
 have hcq : W.cell? ⟨p.b, 17 + (q - 1), none⟩ = some (ov.part q) := (cb _).trans (ov_cell _ _ _ _ _ _ hq)
 have hfq : W.frozen? ⟨p.b, 17 + (q - 1), none⟩ = false := fb _
 have HN1 : Hid (∃ n, n ≤ totF s ∧ MapIs Tryz.prog 24 (W.setCell ⟨p.b, 17 + (q - 1), none⟩ u) p.bp n (pfV s.pf)) := by
  obtain ⟨n, h1, h2⟩ := a.pm
  exact ⟨n, h1, h2.kept (grown_cell _ _ _) (fun e => a.ok.bp (Option.some.inj e).symm)⟩
 have HN2 : Hid (∃ n, n ≤ s.o1.length ∧ MapIs Tryz.prog 24 (W.setCell ⟨p.b, 17 + (q - 1), none⟩ u) p.bl n (lfV s.lf)) := by
  obtain ⟨n, h1, h2⟩ := a.lm
  exact ⟨n, h1, h2.kept (grown_cell _ _ _) (fun e => a.ok.bl (Option.some.inj e).symm)⟩
 have htot : totF s < 4000000000000 := by
  have h1 := a.f1.2
  have h2 := a.f2.2
  have h3 := a.f3.2
  have h4 := a.f4.2
  have k1 := nums_len a.hin.low
  have k2 := nums_len a.hin.high
  have k3 := nums_len a.hin.old
  have k4 := nums_len a.hin.far
  unfold totF
  omega
 have htot1 : s.o1.length ≤ totF s := by unfold totF; omega
 have HAd : Hid (∀ W (x : Int), 0 ≤ x ∧ x < lenI h.lay q → Calls Tryz.prog 125 #[layV h.lay, .agg #[.int .i64 q, .int .i64 x]] W fun e w' => e = .returned (.tuple #[.int .u64 (adr h.lay q x), .int .i64 0]) ∧ Below W.heap.size W w') := Lib.hid fun W x hx => by
  have := address_any h.lay q x W a.hin.ok hr hq hx
  rw [← adr_in hx] at this
  exact this
 have HK : Hid (∀ x : Int, 0 ≤ x ∧ x < lenI h.lay q → K64 (adr h.lay q x)) := Lib.hid fun x hx => by
  have := adr_pos hr (p := (q : Int)) (by omega) hx
  rw [adr_in hx]
  unfold K64
  omega
 have HLn := Lib.hid (lay_len h q hq)
 have HFit := Lib.hid hf.1
 have hll : l.length < 1000000000000 := by have := hf.2; omega
 have HMall := Lib.hid (mid_all s h.lay q l)
 have HM0 := Lib.hid (mid_zero s h.lay q l)
 have hpb : p.b < W.heap.size := lb
 have HOK := Lib.hid a.ok
 have HRG := Lib.hid a.rg
 have HLR := Lib.hid a.lr
 obtain ⟨oa, ob, off, oc, rfl, ⟨o1, o2⟩, o3, ⟨o4, o4'⟩, o5, o6⟩ := hos
 have HO1 := Lib.hid o1
 clear a cb fb hu hf o1 o2 o6
 generalize hn : l.length = n at *
 have HN := Lib.hid hn
 clear hn
 obtain ⟨hq1, hq2⟩ := hq
 go_enter Tryz.func111, Tryz.ntmps111
 go_wp2_with fail
 go_loopw [19] (fun i wr => ∃ k : Nat, k ≤ n ∧ i = .int .i64 k ∧ Hid (St w0 wr p h v (midF s h.lay q l k) (ov.put q (.slice oa n oc))) ∧ (∃ n1, n1 ≤ totF s + k ∧ Hid (MapIs Tryz.prog 24 wr p.bp n1 (pfV (noteP h.lay q (l.take k) s.pf)))) ∧ (∃ n2, n2 ≤ s.o1.length + (if q = 1 then k else 0) ∧ Hid (MapIs Tryz.prog 24 wr p.bl n2 (lfV (if q = 1 then noteL h.lay (l.take k) s.lf else s.lf)))) ∧ Hid (K3 p W wr)) (fun i _ => n - (intOf i).toNat)
 case atStart =>
  obtain ⟨n1, h1, h2⟩ := HN1.out
  obtain ⟨n2, h3, h4⟩ := HN2.out
  refine ⟨0, Nat.zero_le _, rfl, ?_, ⟨n1, by omega, h2⟩, ⟨n2, by omega, ?_⟩, K3.grown (grown_cell _ _ _) (.inl rfl)⟩
  ·show St _ _ _ _ _ _ _
   rw [HM0.out]
   exact A1.out
  ·show MapIs _ _ _ _ _ _
   rw [List.take_zero]
   show MapIs _ _ _ _ _ (lfV (if q = 1 then s.lf else s.lf))
   rw [ite_self]
   exact h4
 case round =>
  obtain ⟨k, hk, rfl, hst, ⟨n1, hn1, hm1⟩, ⟨n2, hn2, hm2⟩, hk3⟩ := hrel
  clear HN1 HN2 A1
  by_cases hlk : k < n
  ·obtain rfl := HO1.out (by omega)
   have hkl : k < l.length := by have := HN.out; omega
   have hobs := (hst.out.obs q).1
   rw [put_ov _ q ⟨hq1, hq2⟩, put_obs _ q ⟨hq1, hq2⟩] at hobs
   have hws : 0 < wr.heap.size := Nat.lt_of_le_of_lt (Nat.zero_le _) hst.out.blk.lt
   obtain ⟨hX, hO, hgb⟩ := objs_at (obs_sees hobs hws (by have := HN.out; omega)) (by omega)
   have hxk := hO.at k hkl
   obtain ⟨f0, f1, f2, f3, f4, f5⟩ := HFit.out _ (obD_mem hkl)
   have hadr : 0 ≤ (obD l k).pos ∧ (obD l k).pos < lenI h.lay q := ⟨f0, by have := HLn.out; omega⟩
   have HA : Hid (∀ W, Calls Tryz.prog 125 #[layV h.lay, .agg #[.int .i64 q, .int .i64 (obD l k).pos]] W fun e w' => e = .returned (.tuple #[.int .u64 (adr h.lay q (obD l k).pos), .int .i64 0]) ∧ Below W.heap.size W w') := Lib.hid fun W => HAd.out W _ hadr
   have hky := HK.out _ hadr
   have HMS : Hid (¬ q = 1 → midF s h.lay q l (k + 1) = { midF s h.lay q l k with pf := pfS (noteP h.lay q (l.take k) s.pf) (adr h.lay q (obD l k).pos) q }) := mid_succ s h.lay q l k hkl
   have HMS1 : Hid (q = 1 → midF s h.lay q l (k + 1) = { midF s h.lay q l k with pf := pfS (noteP h.lay q (l.take k) s.pf) (adr h.lay q (obD l k).pos) q, lf := lfS (noteL h.lay (l.take k) s.lf) (adr h.lay q (obD l k).pos) ((obD l k).s, (obD l k).p) }) := fun e => by subst e; exact mid_succ1 s h.lay l k hkl
   have HTP : Hid (noteP h.lay q (l.take (k + 1)) s.pf = pfS (noteP h.lay q (l.take k) s.pf) (adr h.lay q (obD l k).pos) q) := by show _ = _; rw [take_ob hkl, noteP_snoc]
   have HTL : Hid (q = 1 → noteL h.lay (l.take (k + 1)) s.lf = lfS (noteL h.lay (l.take k) s.lf) (adr h.lay q (obD l k).pos) ((obD l k).s, (obD l k).p)) := fun e => by subst e; rw [take_ob hkl, noteL_snoc]; rfl
   have HTT : Hid (totF (midF s h.lay q l k) = totF s + n) := by show _ = _; rw [tot_mid s h.lay q l k ⟨hq1, hq2⟩ he, HN.out]
   clear hadr hO hobs hX
   generalize adr h.lay q (obD l k).pos = y at *
   generalize obD l k = o at *
   obtain ⟨p0, sz, pp, g, t⟩ := o
   obtain ⟨x0, x1, x2, x3, x4⟩ := hxk
   dsimp only at x0 x1 x2 x3 x4 f0 f1 f2 f3 f4 f5 HA HMS1 HTL
   have Ko := Blk.new wr #[.int .i64 p0, .int .i64 sz, .int .i64 pp, .bool g, .int .u64 t] 58
   have HS1 := Lib.hid (hst.out.alloc (.cells #[.int .i64 p0, .int .i64 sz, .int .i64 pp, .bool g, .int .u64 t] 58))
   have HM1 := Lib.hid (hm1.out.tr ((Below.refl _ _).alloc (Nat.le_refl _) (.cells #[.int .i64 p0, .int .i64 sz, .int .i64 pp, .bool g, .int .u64 t] 58)))
   have HM2 := Lib.hid (hm2.out.tr ((Below.refl _ _).alloc (Nat.le_refl _) (.cells #[.int .i64 p0, .int .i64 sz, .int .i64 pp, .bool g, .int .u64 t] 58)))
   have HKa := Lib.hid (hk3.out.trans (K3.below ((Below.refl _ _).alloc (Nat.le_refl _) (.cells #[.int .i64 p0, .int .i64 sz, .int .i64 pp, .bool g, .int .u64 t] 58))))
   have hpo : p.b ≠ wr.heap.size := by have := hst.out.blk.lt; omega
   have hbpo : p.bp ≠ wr.heap.size := by have := hm1.out.lt; omega
   have hblo : p.bl ≠ wr.heap.size := by have := hm2.out.lt; omega
   go_wp2_with fail
   generalize wr.alloc (.cells #[.int .i64 p0, .int .i64 sz, .int .i64 pp, .bool g, .int .u64 t] 58) = W1 at *
   clear x0 x1 x2 x3 x4 hst hm1 hm2 hgb hws
   generalize wr.heap.size = oB at *
   obtain ⟨lo, co, fo⟩ := Ko.get
   obtain ⟨lw, cw, fw⟩ := HS1.out.blk.get
   have hcc : W1.cell? ⟨p.b, 10, none⟩ = some (.int .u64 h.base) ∧ W1.cell? ⟨p.b, 11, none⟩ = some (.int .i64 h.cap) ∧ W1.cell? ⟨p.b, 12, none⟩ = some (.int .i64 h.tt) ∧ W1.cell? ⟨p.b, 13, none⟩ = some (.int .i64 h.low.length) ∧ W1.cell? ⟨p.b, 14, none⟩ = some (.int .i64 h.high.length) ∧ W1.cell? ⟨p.b, 15, none⟩ = some (.int .i64 h.old.length) ∧ W1.cell? ⟨p.b, 16, none⟩ = some (.int .i64 h.far.length) ∧ W1.cell? ⟨oB, 0, none⟩ = some (.int .i64 p0) :=
    ⟨cw 10, cw 11, cw 12, cw 13, cw 14, cw 15, cw 16, co 0⟩
   clear cw co fw fo
   go_region_held3 (fun w' => w'.cell? ⟨p.b, 10, none⟩ = some (.int .u64 h.base) ∧ w'.cell? ⟨p.b, 11, none⟩ = some (.int .i64 h.cap) ∧ w'.cell? ⟨p.b, 12, none⟩ = some (.int .i64 h.tt) ∧ w'.cell? ⟨p.b, 13, none⟩ = some (.int .i64 h.low.length) ∧ w'.cell? ⟨p.b, 14, none⟩ = some (.int .i64 h.high.length) ∧ w'.cell? ⟨p.b, 15, none⟩ = some (.int .i64 h.old.length) ∧ w'.cell? ⟨p.b, 16, none⟩ = some (.int .i64 h.far.length) ∧ w'.cell? ⟨oB, 0, none⟩ = some (.int .i64 p0))
    ((refine s8n_tr (W := W1) (n := W1.heap.size) ?_ lw lo hcc; exact bm))
    (first
     | (go_at_call 125; refine (HA.out _).mono ?_; rintro e w2 ⟨rfl, k2⟩))
   have kb : Below W1.heap.size W1 w2 := by exact bm
   have HS2 := Lib.hid (HS1.out.tr kb)
   have HM3 := Lib.hid (HM1.out.tr kb)
   have HM4 := Lib.hid (HM2.out.tr kb)
   have Ko2 := Ko.tr kb
   have HKb := Lib.hid (HKa.out.trans (K3.below kb))
   clear hcc k2 kb HS1 HM1 HM2 Ko lo lw hk3 HKa
   obtain ⟨lw, cw, fw⟩ := HS2.out.blk.get
   have c21 : w2.cell? ⟨p.b, 21, none⟩ = some (.map (some p.bp)) := cw 21
   clear cw fw
   have hbp : p.bl ≠ p.bp := fun e => HOK.out.pl e.symm
   have HCN : Hid (∀ b : Bool, (if b = true then n1 else n1 + 1) ≤ totF s + (k + 1) ∧ (if b = true then n1 else n1 + 1) ≤ totF s + n) := fun b => by split <;> omega
   have HRP : Hid (∀ a' q', pfS (noteP h.lay q (l.take k) s.pf) y q a' = some q' → 1 ≤ q' ∧ q' ≤ 4) := fun a' q' hq' => by
    unfold pfS at hq'
    split at hq'
    ·cases hq'; omega
    ·exact HS2.out.rg _ _ hq'
   by_cases hqq : q = 1
   ·have hqb : ((q : Int) == 1) = true := beq_iff_eq.mpr (by omega)
    have hM4 : Hid (MapIs Tryz.prog 24 w2 p.bl n2 (lfV (noteL h.lay (l.take k) s.lf))) := by
     have := HM4.out
     rw [if_pos hqq] at this
     exact this
    rw [if_pos hqq] at hn2
    have he1 : s.o1.length = 0 := by subst hqq; have he2 : s.o1 = [] := he; rw [he2]; rfl
    have HQQ := Lib.hid hqq
    clear HM4 hqq
    go_wp2_with (at_mapUpdate; refine wp_store (n := n1) (b := p.bp) (k := 24) (f := pfV (noteP h.lay q (l.take k) s.pf)) _ rfl _ _ _ _ rfl 3 Tryz.underlying24 Tryz.underlying119 rfl HM3.out (by unfold maxLen; omega) y rfl hky (.int .i64 q) rfl ?_; intro w3 hM5 hG3)
    rw [pfV_set] at hM5
    obtain ⟨hc1, hc2⟩ := HCN.out (pfV (noteP h.lay q (l.take k) s.pf) y).isSome
    generalize (if (pfV (noteP h.lay q (l.take k) s.pf) y).isSome = true then n1 else n1 + 1) = m1 at *
    have HKc := Lib.hid (HKb.out.trans (K3.grown hG3 (.inr (.inl rfl))))
    have A3 := Lib.hid (HS2.out.pmSet hG3 (by have := HTT.out; omega) hM5 HRP.out)
    have Ko3 := blk_row Ko2 hG3 (fun e => hbpo (Option.some.inj e))
    have HM6 := Lib.hid (hM4.out.kept hG3 (fun e => hbp (Option.some.inj e)))
    have HM5 := Lib.hid hM5
    obtain ⟨lb3, cb3, fb3⟩ := A3.out.blk.get
    obtain ⟨lo3, co3, fo3⟩ := Ko3.get
    have hcc : w3.cell? ⟨p.b, 22, none⟩ = some (.map (some p.bl)) ∧ w3.cell? ⟨oB, 1, none⟩ = some (.int .i64 sz) ∧ w3.cell? ⟨oB, 2, none⟩ = some (.int .i64 pp) := ⟨cb3 22, co3 1, co3 2⟩
    have hpbl : p.b ≠ p.bl := HOK.out.bl
    clear cb3 fb3 co3 fo3 hG3 hM5 HS2 HM3 hM4 c21 lw
    refine wp_region_held_drew (S := (fun w' => w'.cell? ⟨p.b, 22, none⟩ = some (.map (some p.bl)) ∧ w'.cell? ⟨oB, 1, none⟩ = some (.int .i64 sz) ∧ w'.cell? ⟨oB, 2, none⟩ = some (.int .i64 pp))) (by kernel_rfl) ?_ (fun hHeld => ?_)
    ·(try dsimp only); exact hcc
    refine tk 0 ?_
    refine tk 1 ?_
    refine tk 2 ?_
    refine tk 3 ?_
    refine tk 4 ?_
    refine tk 5 ?_
    refine tk 6 ?_
    refine wpAnyH_ready (rs := [7]) (by kernel_rfl) (by simp) ?_
    refine AllReadyH.cons rfl (fun K hK => ?_) AllReadyH.nil
    refine step_store (n := n2) (b := p.bl) (k := 24) (f := lfV (noteL h.lay (l.take k) s.lf)) rfl _ _ _ _ rfl 56 Tryz.underlying24 Tryz.underlying120 rfl (HM6.out.tr (Below.refl _ _).drew) (by unfold maxLen; omega) y rfl hky (.agg #[.int .i64 sz, .int .i64 pp]) rfl ?_
    intro w4 hM7 hG4
    refine hK.out _ _ ⟨cell_gr hG4 hcc.1 hpbl, cell_gr hG4 hcc.2.1 (fun e => hblo e.symm), cell_gr hG4 hcc.2.2 (fun e => hblo e.symm)⟩ (fun hHeld => ?_)
    clear hK K
    refine wpAnyH_done (by kernel_rfl) ?_ _
    have hM8 : MapIs Tryz.prog 24 w4 p.bl (if (lfV (noteL h.lay (l.take k) s.lf) y).isSome = true then n2 else n2 + 1) (lfV (lfS (noteL h.lay (l.take k) s.lf) y (sz, pp))) := by
     rw [← lfV_set]
     exact hM7
    have hcl : (if (lfV (noteL h.lay (l.take k) s.lf) y).isSome = true then n2 else n2 + 1) ≤ k + 1 := by split <;> omega
    have A4 := Lib.hid ((A3.out.drew).lmSet (f := lfS (noteL h.lay (l.take k) s.lf) y (sz, pp)) hG4 (by
     have e : (({ midF s h.lay q l k with pf := pfS (noteP h.lay q (l.take k) s.pf) y q } : Fnd).o1.length) = n := by
      have hqq := HQQ.out
      subst hqq
      exact HN.out
     show _ ≤ ({ midF s h.lay q l k with pf := pfS (noteP h.lay q (l.take k) s.pf) y q } : Fnd).o1.length
     rw [e]
     omega) hM8 (fun a' q' hq' => by
      unfold lfS at hq'
      split at hq'
      ·cases hq'
       exact ⟨f1, f2⟩
      ·have := A3.out.lr a' q'
       refine this ?_
       show (if q = 1 then noteL h.lay (l.take k) s.lf else s.lf) a' = some q'
       rw [if_pos HQQ.out]
       exact hq'))
    have HM9 := Lib.hid (HM5.out.tr (Below.refl _ _).drew |>.kept hG4 (fun e => hbp (Option.some.inj e).symm))
    have HM10 := Lib.hid hM8
    have HKd := Lib.hid (HKc.out.trans ((K3.below (Below.refl _ _).drew).trans (K3.grown hG4 (.inr (.inr rfl)))))
    clear hM7 hG4 hM8 HM5 HM6 A3 hHeld
    go_wp2_with fail
    refine ⟨⟨k + 1, by omega, by go_num, ?_, ⟨m1, by omega, ?_⟩, ⟨(if (lfV (noteL h.lay (l.take k) s.lf) y).isSome = true then n2 else n2 + 1), ?_, ?_⟩, HKd.out⟩, by simp [intOf]; omega⟩
    ·show St _ _ _ _ _ _ _
     rw [HMS1.out HQQ.out]
     exact A4.out
    ·show MapIs _ _ _ _ _ _
     rw [HTP.out]
     exact HM9.out
    ·rw [if_pos HQQ.out]
     omega
    ·show MapIs _ _ _ _ _ _
     rw [if_pos HQQ.out, HTL.out HQQ.out]
     exact HM10.out
   ·have hqb : ((q : Int) == 1) = false := beq_eq_false_iff_ne.mpr (by omega)
    go_wp2_with (at_mapUpdate; refine wp_store (n := n1) (b := p.bp) (k := 24) (f := pfV (noteP h.lay q (l.take k) s.pf)) _ rfl _ _ _ _ rfl 3 Tryz.underlying24 Tryz.underlying119 rfl HM3.out (by unfold maxLen; omega) y rfl hky (.int .i64 q) rfl ?_; intro w3 hM5 hG3)
    rw [pfV_set] at hM5
    obtain ⟨hc1, hc2⟩ := HCN.out (pfV (noteP h.lay q (l.take k) s.pf) y).isSome
    refine ⟨⟨k + 1, by omega, by go_num, ?_, ⟨_, hc1, ?_⟩, ⟨n2, ?_, ?_⟩, HKb.out.trans (K3.grown hG3 (.inr (.inl rfl)))⟩, by simp [intOf]; omega⟩
    ·show St _ _ _ _ _ _ _
     rw [HMS.out hqq]
     exact HS2.out.pmSet hG3 (by have := HTT.out; omega) hM5 HRP.out
    ·show MapIs _ _ _ _ _ _
     rw [HTP.out]
     exact hM5
    ·rw [if_neg hqq] at hn2 ⊢
     omega
    ·show MapIs _ _ _ _ _ _
     have := HM4.out
     rw [if_neg hqq] at this ⊢
     exact this.kept hG3 (fun e => hbp (Option.some.inj e))
  ·obtain rfl : k = n := by omega
   have HE : Hid (midF s h.lay q l k = s.note h.lay q l) := by
    show _ = _
    rw [← HN.out]
    exact mid_all s h.lay q l
   go_wp2_with fail
   go_end0
   refine ⟨rfl, ?_, hk3.out⟩
   rw [← HE.out]
   exact hst.out
end Go.Proofs.YtpgjploaliefdaaGreat.ck
