/- check: walked. No conditions. -/
import Derived.Test.YtpgjploaliefdaaGreatDf
import Derived.WalkMore
namespace Go.Proofs.YtpgjploaliefdaaGreat.ck
open Go Go.RowKit hp ob hd cp mp cm gr
set_option linter.unusedVariables false
set_option linter.unusedSimpArgs false
set_option maxRecDepth 100000
set_option maxHeartbeats 4000000
variable {w0 w W : World} {p : Pl} {h : Hp} {v : Hv} {s : Fnd} {ov : Ov}
theorem note_other (s : Fnd) (L : Lay) {q j : Nat} (l : List Ob) (hj : j ≠ q) (h1 : 1 ≤ j ∧ j ≤ 4) : (s.note L q l).obs j = s.obs j := by
 rcases (show j = 1 ∨ j = 2 ∨ j = 3 ∨ j = 4 by omega) with rfl | rfl | rfl | rfl
 ·show (if q = 1 then l else s.o1) = s.o1
  rw [if_neg (fun e => hj e.symm)]
 ·show (if q = 2 then l else s.o2) = s.o2
  rw [if_neg (fun e => hj e.symm)]
 ·show (if q = 3 then l else s.o3) = s.o3
  rw [if_neg (fun e => hj e.symm)]
 ·show (if q = 4 then l else s.o4) = s.o4
  rw [if_neg (fun e => hj e.symm)]
theorem runW_empty {h : Hp} : ∀ {k : Nat} {s : Fnd}, runW h k = some s → ∀ j, k < j → j ≤ 4 → s.obs j = []
 | 0, s, e, j, h1, h2 => by
  cases e
  rcases (show j = 1 ∨ j = 2 ∨ j = 3 ∨ j = 4 by omega) with rfl | rfl | rfl | rfl <;> rfl
 | k + 1, s, e, j, h1, h2 => by
  obtain ⟨s0, l, i, e0, _, rfl⟩ := runW_succ e
  rw [note_other s0 h.lay l (by omega) ⟨by omega, h2⟩]
  exact runW_empty e0 j (by omega) h2
theorem obs_lift {W : World} {B C : Nat} {v : Value} {l : List Ob} (h : ObsAt W B v l) (hb : C ≤ B) : ObsAt W C v l := by
 refine ⟨h.1, ?_⟩
 rcases h.2 with h | ⟨g, cap, cur, h1, h2, h3⟩
 ·exact .inl h
 ·exact .inr ⟨g, cap, cur, h1, by omega, h3⟩
def WalkedPost (w0 W : World) (p : Pl) (h : Hp) (v : Hv) (e : Ending) (w' : World) : Prop :=
 (runW h 4 = none ∧ e = .returned (.bool false) ∧ Below w0.heap.size w0 w') ∨ (∃ s ov, runW h 4 = some s ∧ e = .returned (.bool true) ∧ St w0 w' p h v s ov ∧ K3 p W w')
theorem oldF_err {zs : List Int} {ss : List (Int × Int)} {c : Int} {k : Nat} (h : oldF zs ss = .err c k) : c ≠ 0 := by
 unfold oldF at h
 generalize hw : walkF (bgO ss.length ss) zs zs.length (zs.length + 1) 0 0 [] = r at h
 rcases r with ⟨a, j⟩ | ⟨c', j⟩
 ·by_cases hk : j < ss.length
  ·rw [show oldRes ss.length (.ok a j) = .err 3 j from by simp [oldRes, hk]] at h
   cases h
   decide
  ·rw [show oldRes ss.length (.ok a j) = .ok a j from by simp [oldRes, hk]] at h
   cases h
 ·have h : Res.err c' j = .err c k := h
  cases h
  exact walkF_err hw
theorem newF_err {zs : List Int} {c : Int} {k : Nat} (h : newF zs = .err c k) : c ≠ 0 := walkF_err h
theorem walked_any (a : St w0 W p h v Fnd.nil ov) (hr : layR h.lay = true) :
  Calls Tryz.prog 96 #[.pointer (some ⟨p.b, 0, none⟩)] W fun e w' => WalkedPost w0 W p h v e w' := by
 have A0 := Lib.hid a
 have HW : Hid (∀ (W : World) (q : Nat) (s : Fnd) (ov : Ov), 1 ≤ q ∧ q ≤ 4 → St w0 W p h v s ov → Calls Tryz.prog 108 #[.pointer (some ⟨p.b, 0, none⟩), .int .i64 q] W fun e w' => e = .returned (v.part q) ∧ Below W.heap.size W w') := Lib.hid fun W q s ov hq a => words_any a q hq
 have HS : Hid (∀ (W : World) (q : Nat) (s : Fnd) (ov : Ov), St w0 W p h v s ov → Calls Tryz.prog 110 #[.pointer (some ⟨p.b, 0, none⟩), v.part q] W fun e w' => (∃ x, e = .returned x ∧ ShapesIn w' x (shapesA s.lf (h.part q))) ∧ Below W.heap.size W w') := Lib.hid fun W q s ov a => shapes_any a _ _ (a.now.part q).1 (a.now.part q).2
 have HN : Hid (∀ (W : World) (q : Nat) (s : Fnd) (ov : Ov) (u : Value) (l : List Ob), 1 ≤ q ∧ q ≤ 4 → St w0 W p h v s ov → ObsAt W p.B u l → ((∀ o ∈ l, FitB (h.part q).length o) ∧ l.length ≤ (h.part q).length) → s.obs q = [] → Calls Tryz.prog 111 #[.pointer (some ⟨p.b, 0, none⟩), .int .i64 q, u] W fun e w' => e = .returned (.tuple #[]) ∧ St w0 w' p h v (s.note h.lay q l) (ov.put q u) ∧ K3 p W w') :=
  Lib.hid fun W q s ov u l hq a hu hf he => note_any a hr q hq u l hu hf he
 clear a hr
 go_enter Tryz.func96, Tryz.ntmps96
 go_step
 go_wp2_with fail
 apply wp_scope_straight
 go_step
 go_wp2_with fail
 apply wp_label
 go_wp2_with fail
 go_loopw [8, 3] (fun i fi wr => ∃ (k : Nat) (s : Fnd) (ov : Ov), k ≤ 4 ∧ i = .int .i64 k ∧ fi = .bool true ∧ Hid (runW h k = some s) ∧ Hid (St w0 wr p h v s ov) ∧ Hid (K3 p W wr)) (fun i _ _ => 5 - (intOf i).toNat)
 case atStart => exact ⟨0, Fnd.nil, ov, Nat.zero_le _, rfl, rfl, rfl, A0.out, K3.refl _ _⟩
 case round =>
  obtain ⟨k, s, ov, hk, rfl, rfl, hrw, hst, hk3⟩ := hrel
  clear A0
  rcases (show k = 0 ∨ k = 1 ∨ k = 2 ∨ k = 3 ∨ k = 4 by omega) with rfl | rfl | rfl | rfl | rfl
  ·go_wp2_with fail
   refine (HW.out wr 1 s ov ⟨by decide, by decide⟩ hst.out).mono ?_; rintro e w1 ⟨rfl, k1⟩
   have hs1 := Lib.hid (hst.out.tr k1)
   go_wp2_with fail
   refine (walk_in (v.part 1) (h.part 1) w1 (hs1.out.now.part 1).1 (hs1.out.now.part 1).2).mono ?_; rintro e w2 ⟨hwk, k2⟩
   have hs2 := Lib.hid (hs1.out.tr k2)
   have hwk : WalkedAs (w1.heap.size + 6) (newF (h.part 1)) e w2 := hwk
   have HKz := Lib.hid (hk3.out.trans ((K3.below k1).trans (K3.below k2)))
   clear k1 k2 hst
   have hcN : Hid (runW h (0 + 1) = walkS h (0 + 1) s) := by
    show (runW h 0).bind _ = _
    rw [hrw.out]; rfl
   rcases hres : newF (h.part 1) with ⟨l, j⟩ | ⟨c, j⟩ <;> rw [hres] at hwk
   ·obtain ⟨u, rfl, hu⟩ := hwk
    have HU := Lib.hid (obs_lift hu (by have := hs1.out.B; omega) : ObsAt w2 p.B u l)
    have HF : Hid ((∀ o ∈ l, FitB (h.part 1).length o) ∧ l.length ≤ (h.part 1).length) := newF_fit hres
    have HE : Hid (runW h (0 + 1) = some (s.note h.lay 1 l)) := by
     show _ = _
     rw [hcN.out]
     unfold walkS
     rw [show walkR h (0 + 1) s = newF (h.part 1) from rfl, hres]
    clear hu hcN
    go_wp2_with fail
    refine (HN.out w2 1 s ov u l ⟨by decide, by decide⟩ hs2.out HU.out HF.out (runW_empty hrw.out 1 (by decide) (by decide))).mono ?_; rintro e w3 ⟨rfl, hs3, kk⟩
    have HS3 := Lib.hid hs3
    have HK3 := Lib.hid (HKz.out.trans kk)
    clear hs3 kk
    go_wp2_with fail
    exact ⟨⟨0 + 1, _, _, by decide, by go_num, rfl, HE.out, HS3.out, HK3.out⟩, by simp [intOf]⟩
   ·have hwk : e = .returned (.tuple #[.slice none 0 0, .int .i64 c]) := hwk
    subst hwk
    have hc0 := newF_err hres
    have hcb : (c == 0) = false := beq_eq_false_iff_ne.mpr hc0
    have HE : Hid (runW h 4 = none) := runW_none (k := 0 + 1) (by
     rw [hcN.out]
     unfold walkS
     rw [show walkR h (0 + 1) s = newF (h.part 1) from rfl, hres]) (by decide)
    clear hcN hc0
    go_wp2_with fail
    go_ret
    exact .inl ⟨HE.out, rfl, hs2.out.bel⟩
  ·go_wp2_with fail
   refine (HW.out wr 2 s ov ⟨by decide, by decide⟩ hst.out).mono ?_; rintro e w1 ⟨rfl, k1⟩
   have hs1 := Lib.hid (hst.out.tr k1)
   go_wp2_with fail
   refine (walk_in (v.part 2) (h.part 2) w1 (hs1.out.now.part 2).1 (hs1.out.now.part 2).2).mono ?_; rintro e w2 ⟨hwk, k2⟩
   have hs2 := Lib.hid (hs1.out.tr k2)
   have hwk : WalkedAs (w1.heap.size + 6) (newF (h.part 2)) e w2 := hwk
   have HKz := Lib.hid (hk3.out.trans ((K3.below k1).trans (K3.below k2)))
   clear k1 k2 hst
   have hcN : Hid (runW h (1 + 1) = walkS h (1 + 1) s) := by
    show (runW h 1).bind _ = _
    rw [hrw.out]; rfl
   rcases hres : newF (h.part 2) with ⟨l, j⟩ | ⟨c, j⟩ <;> rw [hres] at hwk
   ·obtain ⟨u, rfl, hu⟩ := hwk
    have HU := Lib.hid (obs_lift hu (by have := hs1.out.B; omega) : ObsAt w2 p.B u l)
    have HF : Hid ((∀ o ∈ l, FitB (h.part 2).length o) ∧ l.length ≤ (h.part 2).length) := newF_fit hres
    have HE : Hid (runW h (1 + 1) = some (s.note h.lay 2 l)) := by
     show _ = _
     rw [hcN.out]
     unfold walkS
     rw [show walkR h (1 + 1) s = newF (h.part 2) from rfl, hres]
    clear hu hcN
    go_wp2_with fail
    refine (HN.out w2 2 s ov u l ⟨by decide, by decide⟩ hs2.out HU.out HF.out (runW_empty hrw.out 2 (by decide) (by decide))).mono ?_; rintro e w3 ⟨rfl, hs3, kk⟩
    have HS3 := Lib.hid hs3
    have HK3 := Lib.hid (HKz.out.trans kk)
    clear hs3 kk
    go_wp2_with fail
    exact ⟨⟨1 + 1, _, _, by decide, by go_num, rfl, HE.out, HS3.out, HK3.out⟩, by simp [intOf]⟩
   ·have hwk : e = .returned (.tuple #[.slice none 0 0, .int .i64 c]) := hwk
    subst hwk
    have hc0 := newF_err hres
    have hcb : (c == 0) = false := beq_eq_false_iff_ne.mpr hc0
    have HE : Hid (runW h 4 = none) := runW_none (k := 1 + 1) (by
     rw [hcN.out]
     unfold walkS
     rw [show walkR h (1 + 1) s = newF (h.part 2) from rfl, hres]) (by decide)
    clear hcN hc0
    go_wp2_with fail
    go_ret
    exact .inl ⟨HE.out, rfl, hs2.out.bel⟩
  ·go_wp2_with fail
   refine (HW.out wr 3 s ov ⟨by decide, by decide⟩ hst.out).mono ?_; rintro e w0' ⟨rfl, k0⟩
   have hs0 := Lib.hid (hst.out.tr k0)
   go_wp2_with fail
   refine (HW.out w0' 3 s ov ⟨by decide, by decide⟩ hs0.out).mono ?_; rintro e w0'' ⟨rfl, k0'⟩
   have hs00 := Lib.hid (hs0.out.tr k0')
   go_wp2_with fail
   refine (HS.out w0'' 3 s ov hs00.out).mono ?_; rintro e w1 ⟨⟨sh, rfl, hsh⟩, k1⟩
   have hs1 := Lib.hid (hs00.out.tr k1)
   go_wp2_with fail
   refine (walkold_in (v.part 3) sh (h.part 3) (shapesA s.lf (h.part 3)) w1 (hs1.out.now.part 3).1 (hs1.out.now.part 3).2 hsh).mono ?_; rintro e w2 ⟨⟨B, hB, hwk⟩, k2⟩
   have hs2 := Lib.hid (hs1.out.tr k2)
   have HKz := Lib.hid (hk3.out.trans ((K3.below k0).trans ((K3.below k0').trans ((K3.below k1).trans (K3.below k2)))))
   clear k0 k0' k1 k2 hst hs0 hs00 hsh
   have hcN : Hid (runW h (2 + 1) = walkS h (2 + 1) s) := by
    show (runW h 2).bind _ = _
    rw [hrw.out]; rfl
   rcases hres : oldF (h.part 3) (shapesA s.lf (h.part 3)) with ⟨l, j⟩ | ⟨c, j⟩ <;> rw [hres] at hwk
   ·obtain ⟨u, rfl, hu⟩ := hwk
    have HU := Lib.hid (obs_lift hu (by have := hs1.out.B; omega) : ObsAt w2 p.B u l)
    have HF : Hid ((∀ o ∈ l, FitB (h.part 3).length o) ∧ l.length ≤ (h.part 3).length) := oldF_fit hres
    have HE : Hid (runW h (2 + 1) = some (s.note h.lay 3 l)) := by
     show _ = _
     rw [hcN.out]
     unfold walkS
     rw [show walkR h (2 + 1) s = oldF (h.part 3) (shapesA s.lf (h.part 3)) from rfl, hres]
    clear hu hcN
    go_wp2_with fail
    refine (HN.out w2 3 s ov u l ⟨by decide, by decide⟩ hs2.out HU.out HF.out (runW_empty hrw.out 3 (by decide) (by decide))).mono ?_; rintro e w3 ⟨rfl, hs3, kk⟩
    have HS3 := Lib.hid hs3
    have HK3 := Lib.hid (HKz.out.trans kk)
    clear hs3 kk
    go_wp2_with fail
    exact ⟨⟨2 + 1, _, _, by decide, by go_num, rfl, HE.out, HS3.out, HK3.out⟩, by simp [intOf]⟩
   ·have hwk : e = .returned (.tuple #[.slice none 0 0, .int .i64 c]) := hwk
    subst hwk
    have hc0 := oldF_err hres
    have hcb : (c == 0) = false := beq_eq_false_iff_ne.mpr hc0
    have HE : Hid (runW h 4 = none) := runW_none (k := 2 + 1) (by
     rw [hcN.out]
     unfold walkS
     rw [show walkR h (2 + 1) s = oldF (h.part 3) (shapesA s.lf (h.part 3)) from rfl, hres]) (by decide)
    clear hcN hc0
    go_wp2_with fail
    go_ret
    exact .inl ⟨HE.out, rfl, hs2.out.bel⟩
  ·go_wp2_with fail
   refine (HW.out wr 4 s ov ⟨by decide, by decide⟩ hst.out).mono ?_; rintro e w0' ⟨rfl, k0⟩
   have hs0 := Lib.hid (hst.out.tr k0)
   go_wp2_with fail
   refine (HW.out w0' 4 s ov ⟨by decide, by decide⟩ hs0.out).mono ?_; rintro e w0'' ⟨rfl, k0'⟩
   have hs00 := Lib.hid (hs0.out.tr k0')
   go_wp2_with fail
   refine (HS.out w0'' 4 s ov hs00.out).mono ?_; rintro e w1 ⟨⟨sh, rfl, hsh⟩, k1⟩
   have hs1 := Lib.hid (hs00.out.tr k1)
   go_wp2_with fail
   refine (walkold_in (v.part 4) sh (h.part 4) (shapesA s.lf (h.part 4)) w1 (hs1.out.now.part 4).1 (hs1.out.now.part 4).2 hsh).mono ?_; rintro e w2 ⟨⟨B, hB, hwk⟩, k2⟩
   have hs2 := Lib.hid (hs1.out.tr k2)
   have HKz := Lib.hid (hk3.out.trans ((K3.below k0).trans ((K3.below k0').trans ((K3.below k1).trans (K3.below k2)))))
   clear k0 k0' k1 k2 hst hs0 hs00 hsh
   have hcN : Hid (runW h (3 + 1) = walkS h (3 + 1) s) := by
    show (runW h 3).bind _ = _
    rw [hrw.out]; rfl
   rcases hres : oldF (h.part 4) (shapesA s.lf (h.part 4)) with ⟨l, j⟩ | ⟨c, j⟩ <;> rw [hres] at hwk
   ·obtain ⟨u, rfl, hu⟩ := hwk
    have HU := Lib.hid (obs_lift hu (by have := hs1.out.B; omega) : ObsAt w2 p.B u l)
    have HF : Hid ((∀ o ∈ l, FitB (h.part 4).length o) ∧ l.length ≤ (h.part 4).length) := oldF_fit hres
    have HE : Hid (runW h (3 + 1) = some (s.note h.lay 4 l)) := by
     show _ = _
     rw [hcN.out]
     unfold walkS
     rw [show walkR h (3 + 1) s = oldF (h.part 4) (shapesA s.lf (h.part 4)) from rfl, hres]
    clear hu hcN
    go_wp2_with fail
    refine (HN.out w2 4 s ov u l ⟨by decide, by decide⟩ hs2.out HU.out HF.out (runW_empty hrw.out 4 (by decide) (by decide))).mono ?_; rintro e w3 ⟨rfl, hs3, kk⟩
    have HS3 := Lib.hid hs3
    have HK3 := Lib.hid (HKz.out.trans kk)
    clear hs3 kk
    go_wp2_with fail
    exact ⟨⟨3 + 1, _, _, by decide, by go_num, rfl, HE.out, HS3.out, HK3.out⟩, by simp [intOf]⟩
   ·have hwk : e = .returned (.tuple #[.slice none 0 0, .int .i64 c]) := hwk
    subst hwk
    have hc0 := oldF_err hres
    have hcb : (c == 0) = false := beq_eq_false_iff_ne.mpr hc0
    have HE : Hid (runW h 4 = none) := runW_none (k := 3 + 1) (by
     rw [hcN.out]
     unfold walkS
     rw [show walkR h (3 + 1) s = oldF (h.part 4) (shapesA s.lf (h.part 4)) from rfl, hres]) (by decide)
    clear hcN hc0
    go_wp2_with fail
    go_ret
    exact .inl ⟨HE.out, rfl, hs2.out.bel⟩
  ·go_wp2_with fail
   go_ret
   exact .inr ⟨s, ov, hrw.out, rfl, hst.out, hk3.out⟩
end Go.Proofs.YtpgjploaliefdaaGreat.ck
