/- Layer 11's raw heaps: what is laid so far, plain; and what holds whatever becomes of some blocks. No conditions. -/
import Derived.Test.YtpgjploaliefdaaGreatMr
import Derived.Test.YtpgjploaliefdaaGreatG20
import Derived.Test.YtpgjploaliefdaaGreatMc
namespace Go.Proofs.YtpgjploaliefdaaGreat.rh
open Go Go.RowKit hp ob hd cp ck gr lx
set_option linter.unusedVariables false
set_option linter.unusedSimpArgs false
def padW (l : List Int) (n : Nat) : List Int := l ++ List.replicate (n - l.length) 0
theorem pad_len {l : List Int} {n : Nat} (h : l.length ≤ n) : (padW l n).length = n := by unfold padW; simp; omega
theorem pad_step {l ws : List Int} {a n : Nat} (hl : l.length = a) (h : a + ws.length ≤ n) : ovl (padW l n) a ws = padW (l ++ ws) n := by
 subst hl
 unfold ovl padW
 rw [List.take_left, List.drop_append, List.drop_of_length_le (by omega), List.nil_append, List.drop_replicate, List.length_append]
 congr 2
 omega
theorem pad_zeros {l : List Int} {s n : Nat} (h : l.length + s ≤ n) : padW (l ++ List.replicate s 0) n = padW l n := by
 unfold padW
 rw [List.append_assoc, List.length_append, List.length_replicate, List.replicate_append_replicate]
 congr 2
 omega
def hpI (x : Rh) (c : Bool) (i : Nat) : Hp := ⟨(layL x c).base, (layL x c).cap, (layL x c).tt, c, scanN x c, padW (wordsOf (hpcs x c 1 i)) (hof x c 1 (nN x)), padW (wordsOf (hpcs x c 2 i)) (hof x c 2 (nN x)), padW (wordsOf (opcs x c 3 i)) (oof x c 3 (nN x)), padW (wordsOf (opcs x c 4 i)) (oof x c 4 (nN x)), []⟩
theorem hpI_zero (x : Rh) (c : Bool) : hpI x c 0 = standH x c := by
 unfold hpI standH hpcs opcs pieces
 simp [wordsOf, padW]
theorem hpI_last (x : Rh) (c : Bool) : (hpI x c (nN x)).low = (heapP x c).low ∧ (hpI x c (nN x)).high = (heapP x c).high ∧ (hpI x c (nN x)).old = (heapP x c).old ∧ (hpI x c (nN x)).far = (heapP x c).far := by
 have key : ∀ (l : List Int) (n : Nat), l.length = n → padW l n = l := fun l n h => by unfold padW; rw [h]; simp
 exact ⟨key _ _ (hlen x c 1 _), key _ _ (hlen x c 2 _), key _ _ (olen x c 3 _), key _ _ (olen x c 4 _)⟩
theorem part_len (x : Rh) (c : Bool) {i : Nat} (hi : i ≤ nN x) (p : Nat) : ((hpI x c i).part p).length = if p = 1 then hof x c 1 (nN x) else if p = 2 then hof x c 2 (nN x) else if p = 3 then oof x c 3 (nN x) else oof x c 4 (nN x) := by
 have h1 : (wordsOf (hpcs x c 1 i)).length ≤ hof x c 1 (nN x) := by rw [hlen]; exact offs_mono _ _ _ hi
 have h2 : (wordsOf (hpcs x c 2 i)).length ≤ hof x c 2 (nN x) := by rw [hlen]; exact offs_mono _ _ _ hi
 have h3 : (wordsOf (opcs x c 3 i)).length ≤ oof x c 3 (nN x) := by rw [olen]; exact offs_mono _ _ _ hi
 have h4 : (wordsOf (opcs x c 4 i)).length ≤ oof x c 4 (nN x) := by rw [olen]; exact offs_mono _ _ _ hi
 unfold Hp.part hpI
 repeat' split
 all_goals first
  | exact pad_len h1
  | exact pad_len h2
  | exact pad_len h3
  | exact pad_len h4
def pcW (c : Pc) : List Int := c.h :: c.ys
theorem words_one (c : Pc) : wordsOf [c] = pcW c := by simp [wordsOf, pcW]
theorem hpc_same {x : Rh} {c : Bool} {p i : Nat} (h : hpt x c i ≠ p) : hpcs x c p (i + 1) = hpcs x c p i := by
 unfold hpcs; rw [pieces_succ, if_neg h, List.append_nil]
theorem opc_same {x : Rh} {c : Bool} {p i : Nat} (h : opt x c i ≠ p) : opcs x c p (i + 1) = opcs x c p i := by
 unfold opcs; rw [pieces_succ, if_neg h, List.append_nil]
theorem hpad {x : Rh} {c : Bool} {p i : Nat} (h : hpt x c i = p) (hi : i < nN x) : ovl (padW (wordsOf (hpcs x c p i)) (hof x c p (nN x))) (hof x c p i) (pcW (hPc x c i)) = padW (wordsOf (hpcs x c p (i + 1))) (hof x c p (nN x)) := by
 have e : hpcs x c p (i + 1) = hpcs x c p i ++ [hPc x c i] := by unfold hpcs; rw [pieces_succ, if_pos h]
 have := offs_lt (z := slN x) (q := hpt x c) hi h
 rw [e, wordsOf_app, words_one, pad_step (hlen x c p i)]
 have h2 := (hPc_s x c i).2
 unfold pcW
 rw [List.length_cons, h2]
 unfold hof
 omega
theorem opad {x : Rh} {c : Bool} {p i : Nat} (h : opt x c i = p) (hi : i < nN x) : ovl (padW (wordsOf (opcs x c p i)) (oof x c p (nN x))) (oof x c p i) (pcW (oPc x c i)) = padW (wordsOf (opcs x c p (i + 1))) (oof x c p (nN x)) := by
 have e : opcs x c p (i + 1) = opcs x c p i ++ [oPc x c i] := by unfold opcs; rw [pieces_succ, if_pos h]
 have := offs_lt (z := slN x) (q := opt x c) hi h
 rw [e, wordsOf_app, words_one, pad_step (olen x c p i)]
 have h2 := (oPc_s x c i).2
 unfold pcW
 rw [List.length_cons, h2]
 unfold oof
 omega
theorem opad_gone {x : Rh} {c : Bool} {p i : Nat} (h : opt x c i = p) (h0 : 0 < hpt x c i) (hi : i < nN x) : (padW (wordsOf (opcs x c p i)) (oof x c p (nN x))).set (oof x c p i) (hrf x c i) = padW (wordsOf (opcs x c p (i + 1))) (oof x c p (nN x)) := by
 have e : opcs x c p (i + 1) = opcs x c p i ++ [oPc x c i] := by unfold opcs; rw [pieces_succ, if_pos h]
 have e2 : oPc x c i = ⟨hrf x c i, slN x i, (gPtrs x i).length, true, List.replicate (slN x i) 0⟩ := if_pos h0
 have := offs_lt (z := slN x) (q := opt x c) hi h
 have hl := olen x c p i
 have hn : oof x c p i + 1 + slN x i ≤ oof x c p (nN x) := this
 rw [ovl_one (by rw [pad_len (by omega)]; omega), pad_step hl (by simp; omega), e, wordsOf_app, words_one, e2]
 unfold pcW
 show _ = padW (wordsOf (opcs x c p i) ++ hrf x c i :: List.replicate (slN x i) 0) _
 rw [show wordsOf (opcs x c p i) ++ hrf x c i :: List.replicate (slN x i) 0 = (wordsOf (opcs x c p i) ++ [hrf x c i]) ++ List.replicate (slN x i) 0 by simp, pad_zeros (by simp; omega)]
theorem step_h {x : Rh} {c : Bool} {i p : Nat} (hi : i < nN x) (hp : hpt x c i = p) (h0 : 0 < p) (ho : opt x c i = 0) : setH (hpI x c i) p (ovl ((hpI x c i).part p) (hof x c p i) (pcW (hPc x c i))) = hpI x c (i + 1) := by
 have := hpt_le x c i
 have e3 := opc_same (x := x) (c := c) (p := 3) (i := i) (by omega)
 have e4 := opc_same (x := x) (c := c) (p := 4) (i := i) (by omega)
 rcases (show p = 1 ∨ p = 2 by omega) with rfl | rfl
 ·have e2 := hpc_same (x := x) (c := c) (p := 2) (i := i) (by omega)
  have k := hpad hp hi
  unfold setH Hp.part hpI
  simp only [if_true]
  rw [k, e2, e3, e4]
 ·have e2 := hpc_same (x := x) (c := c) (p := 1) (i := i) (by omega)
  have k := hpad hp hi
  unfold setH Hp.part hpI
  simp only [if_true, show ¬ (2 = 1) by decide, if_false]
  rw [k, e2, e3, e4]
theorem step_o {x : Rh} {c : Bool} {i p : Nat} (hi : i < nN x) (hp : opt x c i = p) (h0 : 0 < p) (ho : hpt x c i = 0) : setH (hpI x c i) p (ovl ((hpI x c i).part p) (oof x c p i) (pcW (oPc x c i))) = hpI x c (i + 1) := by
 have := opt_cases x c i
 have e3 := hpc_same (x := x) (c := c) (p := 1) (i := i) (by omega)
 have e4 := hpc_same (x := x) (c := c) (p := 2) (i := i) (by omega)
 rcases (show p = 3 ∨ p = 4 by omega) with rfl | rfl
 ·have e2 := opc_same (x := x) (c := c) (p := 4) (i := i) (by omega)
  have k := opad hp hi
  unfold setH Hp.part hpI
  simp only [if_true, show ¬ (3 = 1) by decide, show ¬ (3 = 2) by decide, if_false]
  rw [k, e2, e3, e4]
 ·have e2 := opc_same (x := x) (c := c) (p := 3) (i := i) (by omega)
  have k := opad hp hi
  unfold setH Hp.part hpI
  simp only [if_true, show ¬ (4 = 1) by decide, show ¬ (4 = 2) by decide, show ¬ (4 = 3) by decide, if_false]
  rw [k, e2, e3, e4]
def hpM (x : Rh) (c : Bool) (i : Nat) : Hp := setH (hpI x c i) (hpt x c i) (ovl ((hpI x c i).part (hpt x c i)) (hof x c (hpt x c i) i) (pcW (hPc x c i)))
theorem hpM_part {x : Rh} {c : Bool} {i p : Nat} (h0 : 0 < hpt x c i) (hp : 3 ≤ p) : (hpM x c i).part p = (hpI x c i).part p := by
 have := hpt_le x c i
 unfold hpM setH Hp.part
 rw [if_neg (show ¬ p = 1 by omega), if_neg (show ¬ p = 2 by omega), if_neg (show ¬ p = 1 by omega), if_neg (show ¬ p = 2 by omega)]
 rcases (show hpt x c i = 1 ∨ hpt x c i = 2 by omega) with h | h <;> rw [h] <;> rfl
theorem step_m {x : Rh} {c : Bool} {i p : Nat} (hi : i < nN x) (h0 : 0 < hpt x c i) (hp : opt x c i = p) (hp3 : 3 ≤ p) : setH (hpM x c i) p (((hpI x c i).part p).set (oof x c p i) (hrf x c i)) = hpI x c (i + 1) := by
 have h2 := hpt_le x c i
 have h4 := opt_cases x c i
 have k := opad_gone hp h0 hi
 have k2 := hpad rfl hi (x := x) (c := c)
 rcases (show p = 3 ∨ p = 4 by omega) with rfl | rfl
 ·have e4 := opc_same (x := x) (c := c) (p := 4) (i := i) (by omega)
  rcases (show hpt x c i = 1 ∨ hpt x c i = 2 by omega) with h | h
  ·have e2 := hpc_same (x := x) (c := c) (p := 2) (i := i) (by omega)
   rw [h] at k2
   unfold hpM setH Hp.part hpI
   rw [h]
   simp only [if_true, show ¬ (3 = 1) by decide, show ¬ (3 = 2) by decide, if_false]
   rw [k, k2, e2, e4]
  ·have e2 := hpc_same (x := x) (c := c) (p := 1) (i := i) (by omega)
   rw [h] at k2
   unfold hpM setH Hp.part hpI
   rw [h]
   simp only [if_true, show ¬ (3 = 1) by decide, show ¬ (3 = 2) by decide, show ¬ (2 = 1) by decide, if_false]
   rw [k, k2, e2, e4]
 ·have e4 := opc_same (x := x) (c := c) (p := 3) (i := i) (by omega)
  rcases (show hpt x c i = 1 ∨ hpt x c i = 2 by omega) with h | h
  ·have e2 := hpc_same (x := x) (c := c) (p := 2) (i := i) (by omega)
   rw [h] at k2
   unfold hpM setH Hp.part hpI
   rw [h]
   simp only [if_true, show ¬ (4 = 1) by decide, show ¬ (4 = 2) by decide, show ¬ (4 = 3) by decide, if_false]
   rw [k, k2, e2, e4]
  ·have e2 := hpc_same (x := x) (c := c) (p := 1) (i := i) (by omega)
   rw [h] at k2
   unfold hpM setH Hp.part hpI
   rw [h]
   simp only [if_true, show ¬ (4 = 1) by decide, show ¬ (4 = 2) by decide, show ¬ (4 = 3) by decide, show ¬ (2 = 1) by decide, if_false]
   rw [k, k2, e2, e4]
theorem small_iff {zs : List Int} : Small zs ↔ ∀ y ∈ zs, 0 ≤ y ∧ y < 18446744073709551616 := by
 constructor
 ·intro h y hy
  obtain ⟨i, hi, rfl⟩ := List.getElem_of_mem hy
  have := h i
  rwa [List.getD_eq_getElem?_getD, List.getElem?_eq_getElem hi] at this
 ·intro h i
  rw [List.getD_eq_getElem?_getD]
  rcases Nat.lt_or_ge i zs.length with hi | hi
  ·rw [List.getElem?_eq_getElem hi]
   exact h _ (List.getElem_mem hi)
  ·rw [List.getElem?_eq_none hi]
   exact ⟨by decide, by decide⟩
theorem words_small {l : List Pc} (hg : ob.Good l) : Small (wordsOf l) := by
 rw [small_iff]
 intro y hy
 unfold wordsOf at hy
 obtain ⟨d, hd, hy⟩ := List.mem_flatMap.1 hy
 have hd := hg d hd
 rcases List.mem_cons.1 hy with rfl | hy
 ·cases hg2 : d.g with
  | false =>
   rw [(hd.new hg2).1]
   have h1 := hd.s6
   have h2 := hd.ps
   unfold packV
   split <;> omega
  | true =>
   obtain ⟨t, h1, h2, h3, _⟩ := hd.gone hg2
   omega
 ·exact small_iff.1 hd.small y hy
theorem root_small {x : Rh} (ok : RhOk x) (c : Bool) : Small ((gRoots x).map (rootV x c)) := by
 rw [small_iff]
 intro y hy
 obtain ⟨r, hr, rfl⟩ := List.mem_map.1 hy
 have := gRoots_in x r hr
 unfold rootV
 split
 ·exact ((hrf_to x c (by omega)).ptr ok.base.1).2
 ·exact ⟨by decide, by decide⟩
theorem rin_form {α : Type} {k : Nat} {en : α → List Value} {W : World} {v : Value} {zs : List α} (h : RIn k en W v zs) : ∃ a c, v = .slice a zs.length c := by
 obtain ⟨ad, b, off, cap, e, _⟩ := h.form
 exact ⟨_, _, e⟩
theorem FIn.put {W : World} {x : Rh} {c : Bool} {h : Hp} {v : Hv} {gs qs hs os : Sl} (a : FIn W x c h v gs qs hs os) {p : Nat} {u : Value} {z : List Int} (hu : RIn 1 enU W u z) (hl : z.length = (h.part p).length) : FIn W x c (setH h p z) (setV v p u) gs qs hs os := by
 obtain ⟨⟨b1, b2, ⟨f1, f2, f3, f4, f5⟩, b4, b5⟩, a2, a3, a4, a5, a6, a7, a8⟩ := a
 obtain ⟨ua, uc, eu⟩ := rin_form hu
 unfold Hp.part at hl
 unfold setH setV
 by_cases h1 : p = 1
 ·subst h1
  rw [if_pos rfl] at hl
  rw [if_pos rfl, if_pos rfl]
  exact ⟨⟨by rw [← b1]; unfold Hp.lay; simp only [hl], b2, ⟨⟨ua, uc, eu⟩, f2, f3, f4, f5⟩, b4, b5⟩, a2, a3, hu, a5, a6, a7, a8⟩
 by_cases h2 : p = 2
 ·subst h2
  rw [if_neg h1, if_pos rfl] at hl
  rw [if_neg h1, if_pos rfl, if_neg h1, if_pos rfl]
  exact ⟨⟨by rw [← b1]; unfold Hp.lay; simp only [hl], b2, ⟨f1, ⟨ua, uc, eu⟩, f3, f4, f5⟩, b4, b5⟩, a2, a3, a4, hu, a6, a7, a8⟩
 by_cases h3 : p = 3
 ·subst h3
  rw [if_neg h1, if_neg h2, if_pos rfl] at hl
  rw [if_neg h1, if_neg h2, if_pos rfl, if_neg h1, if_neg h2, if_pos rfl]
  exact ⟨⟨by rw [← b1]; unfold Hp.lay; simp only [hl], b2, ⟨f1, f2, ⟨ua, uc, eu⟩, f4, f5⟩, b4, b5⟩, a2, a3, a4, a5, hu, a7, a8⟩
 ·rw [if_neg h1, if_neg h2, if_neg h3] at hl
  rw [if_neg h1, if_neg h2, if_neg h3, if_neg h1, if_neg h2, if_neg h3]
  exact ⟨⟨by rw [← b1]; unfold Hp.lay; simp only [hl], b2, ⟨f1, f2, f3, ⟨ua, uc, eu⟩, f5⟩, b4, b5⟩, a2, a3, a4, a5, a6, hu, a8⟩
theorem FIn.part {W : World} {x : Rh} {c : Bool} {h : Hp} {v : Hv} {gs qs hs os : Sl} (a : FIn W x c h v gs qs hs os) (p : Nat) : RIn 1 enU W (v.part p) (h.part p) := by
 unfold Hp.part Hv.part
 repeat' split
 ·exact a.l
 ·exact a.hi
 ·exact a.o
 ·exact a.f
theorem fin_hin {W : World} {x : Rh} {c : Bool} {v : Hv} {gs qs hs os : Sl} (ok : RhOk x) (F : FIn W x c (hpI x c (nN x)) v gs qs hs os) {rv : Value} (hr : RIn 1 enU W rv ((gRoots x).map (rootV x c))) (h0 : 0 < W.heap.size) : HIn W (heapP x c) { v with r := rv } := by
 obtain ⟨e1, e2, e3, e4⟩ := hpI_last x c
 have hL := layR_t (lay_right ok.base.1 c)
 have h9 := nN_le x
 have k1 : (heapP x c).low.length ≤ 90 := by show (wordsOf (hpcs x c 1 (nN x))).length ≤ 90; rw [hlen]; have := hof_le x c; omega
 have k2 : (heapP x c).high.length ≤ 90 := by show (wordsOf (hpcs x c 2 (nN x))).length ≤ 90; rw [hlen]; have := hof_le x c; omega
 have k3 : (heapP x c).old.length ≤ 90 := by show (wordsOf (opcs x c 3 (nN x))).length ≤ 90; rw [olen]; have := oof_le x c; omega
 have k4 : (heapP x c).far.length ≤ 90 := by show (wordsOf (opcs x c 4 (nN x))).length ≤ 90; rw [olen]; have := oof_le x c; omega
 have k5 : ((gRoots x).map (rootV x c)).length ≤ 5 := by rw [List.length_map]; exact roots_len (x := x)
 have hs := scan_le x c
 have hh := hof_le x c
 refine ⟨⟨?_, ?_⟩, ⟨?_, ?_⟩, ⟨?_, ?_⟩, ⟨?_, ?_⟩, ?_, ?_, ?_, ?_, ?_, words_small (hpcs_good ok c 1), words_small (hpcs_good ok c 2), words_small (opcs_good ok c 3), words_small (opcs_good ok c 4), root_small ok c⟩
 ·show 0 ≤ (layL x c).base; omega
 ·show (layL x c).base < _; omega
 ·show _ ≤ (layL x c).cap; omega
 ·show (layL x c).cap < _; omega
 ·show _ ≤ (layL x c).tt; omega
 ·show (layL x c).tt < _; omega
 ·show _ ≤ (scanN x c : Int); omega
 ·show (scanN x c : Int) < _; omega
 ·exact nums_of (by rw [← e1]; exact F.l) h0 (by omega)
 ·exact nums_of (by rw [← e2]; exact F.hi) h0 (by omega)
 ·exact nums_of (by rw [← e3]; exact F.o) h0 (by omega)
 ·exact nums_of (by rw [← e4]; exact F.f) h0 (by omega)
 ·exact nums_of hr h0 (Nat.lt_of_le_of_lt k5 (by decide))
end Go.Proofs.YtpgjploaliefdaaGreat.rh
