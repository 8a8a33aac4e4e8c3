/- Layer 11's raw heaps, plain: what is made of raw numbers is right. No conditions. -/
import Derived.Test.YtpgjploaliefdaaGreatG10
namespace Go.Proofs.YtpgjploaliefdaaGreat.rh
open Go hp ob hd cp
set_option linter.unusedVariables false
set_option linter.unusedSimpArgs false
theorem shapes_go {lf : Int → Option (Int × Int)} {l : List Pc} : ∀ {zs : List Int} {f pos : Nat} {acc : List (Int × Int)}, ob.Good l → (∀ d ∈ l, d.g = true → lf (adV d.h) = some ((d.s : Int), (d.p : Int))) → LiesAt zs pos (wordsOf l) → pos + (wordsOf l).length ≤ zs.length →
  shapesF lf zs (f + l.length) pos acc = shapesF lf zs f (pos + (wordsOf l).length) (acc ++ shapesOf l) := by
 induction l with
 | nil => intro zs f pos acc _ _ _ _; simp [wordsOf, shapesOf]
 | cons c l ih =>
  intro zs f pos acc hg hs hz hl
  have hc := hg c List.mem_cons_self
  have hw : (wordsOf (c :: l)).length = 1 + c.s + (wordsOf l).length := by rw [wordsOf_cons]; simp [hc.len]; omega
  have hd := lies_head hz
  have ih1 := fun a => ih (zs := zs) (f := f) (pos := pos + 1 + c.s) (acc := a) (fun d hd => hg d (List.mem_cons_of_mem _ hd)) (fun d hd => hs d (List.mem_cons_of_mem _ hd)) (lies_tail hc.len hz) (by omega)
  have ep : pos + (wordsOf (c :: l)).length = pos + 1 + c.s + (wordsOf l).length := by omega
  rw [show f + (c :: l).length = (f + l.length) + 1 from by simp; omega, ep]
  show (if pos < zs.length then _ else _) = _
  rw [if_pos (by omega), hd]
  cases hcg : c.g with
  | false =>
   have hsh : shapesOf (c :: l) = shapesOf l := by simp [shapesOf, hcg]
   have hh := (hc.new hcg).1
   obtain ⟨u1, u2, u3⟩ := un_pack (s := c.s) (p := c.p) (by have := hc.s6; omega) hc.ps
   have he : c.h % 2 = 0 := by rw [hh]; exact pack_even (by have := hc.s6; omega) hc.ps
   rw [if_neg (adE_ev he), hsh, hh, if_pos (by unfold unE; rw [if_pos u1]), u2]
   rw [show ((c.s : Int)).toNat = c.s from by simp]
   exact ih1 acc
  | true =>
   have hsh : shapesOf (c :: l) = ((c.s : Int), (c.p : Int)) :: shapesOf l := by simp [shapesOf, hcg]
   obtain ⟨t, t1, t2, t3, t4⟩ := hc.gone hcg
   have h1 : adE c.h = 0 := by rw [t3]; exact (adE_odd t1).1
   rw [if_pos h1, hs c List.mem_cons_self hcg, hsh]
   dsimp only
   rw [show ((c.s : Int)).toNat = c.s from by simp, ih1]
   simp
theorem shapes_all {lf : Int → Option (Int × Int)} {l : List Pc} (hg : ob.Good l) (hs : ∀ d ∈ l, d.g = true → lf (adV d.h) = some ((d.s : Int), (d.p : Int))) : shapesA lf (wordsOf l) = shapesOf l := by
 unfold shapesA
 have hl := len_words (l := l)
 rw [show (wordsOf l).length + 1 = ((wordsOf l).length + 1 - l.length) + l.length from by omega]
 rw [shapes_go hg hs (fun j hj => by simp) (by omega)]
 rw [show (wordsOf l).length + 1 - l.length = ((wordsOf l).length - l.length) + 1 from by omega]
 show (if _ then _ else _) = _
 rw [if_neg (by omega)]
 rfl
def fnd (x : Rh) (c : Bool) : Fnd :=
 ⟨obsAt 0 (hpcs x c 1 (nN x)), obsAt 0 (hpcs x c 2 (nN x)), obsAt 0 (opcs x c 3 (nN x)), obsAt 0 (opcs x c 4 (nN x)),
  noteP (layL x c) 4 (obsAt 0 (opcs x c 4 (nN x))) (noteP (layL x c) 3 (obsAt 0 (opcs x c 3 (nN x))) (noteP (layL x c) 2 (obsAt 0 (hpcs x c 2 (nN x))) (noteP (layL x c) 1 (obsAt 0 (hpcs x c 1 (nN x))) fun _ => none))),
  noteL (layL x c) (obsAt 0 (hpcs x c 1 (nN x))) fun _ => none⟩
variable {x : Rh} (c : Bool)
theorem mem_h {x : Rh} (ok : RhOk x) (c : Bool) (p : Nat) (o : Ob) : o ∈ obsAt 0 (hpcs x c p (nN x)) ↔ ∃ i, i < nN x ∧ hpt x c i = p ∧ o = obOf (hof x c p i) (hPc x c i) := mem_obs (hPc_s x c) p (fun i _ => hPc_good ok c i) o
theorem mem_o {x : Rh} (ok : RhOk x) (c : Bool) (p : Nat) (o : Ob) : o ∈ obsAt 0 (opcs x c p (nN x)) ↔ ∃ i, i < nN x ∧ opt x c i = p ∧ o = obOf (oof x c p i) (oPc x c i) := mem_obs (oPc_s x c) p (fun i hi => oPc_good ok c hi) o
theorem hnew {x : Rh} (ok : RhOk x) (c : Bool) (p : Nat) : newF (wordsOf (hpcs x c p (nN x))) = .ok (obsAt 0 (hpcs x c p (nN x))) 0 := new_all (hpcs_good ok c p) fun d hd => by
 obtain ⟨i, _, _, rfl⟩ := mem_pieces.1 hd
 rfl
theorem lf_at {x : Rh} (ok : RhOk x) (c : Bool) {i : Nat} (hi : i < nN x) (hq : hpt x c i = 1) : (fnd x c).lf (firstI (layL x c) 1 + hof x c 1 i) = some ((slN x i : Int), ((gPtrs x i).length : Int)) := by
 have hc : ChainO (wordsOf (hpcs x c 1 (nN x))).length 0 (obsAt 0 (hpcs x c 1 (nN x))) := newF_chain (hnew ok c 1)
 have hin : ∀ o ∈ obsAt 0 (hpcs x c 1 (nN x)), 0 ≤ o.pos ∧ o.pos < lenI (layL x c) 1 := fun o ho => by
  obtain ⟨a, b, d, e, g, h⟩ := (hc.from o ho).2
  rw [hlen] at h
  have : lenI (layL x c) 1 = hof x c 1 (nN x) := rfl
  omega
 have h0 : ∀ o ∈ obsAt 0 (hpcs x c 1 (nN x)), adr (layL x c) 1 o.pos = firstI (layL x c) 1 + o.pos := fun o ho => adr_in (hin o ho)
 have h1 : ∀ a ∈ obsAt 0 (hpcs x c 1 (nN x)), ∀ b ∈ obsAt 0 (hpcs x c 1 (nN x)), adr (layL x c) 1 a.pos = adr (layL x c) 1 b.pos → a = b := fun a ha b hb e => by
  rw [h0 a ha, h0 b hb] at e
  exact hc.apart a ha b hb (by omega)
 have h2 : (obsAt 0 (hpcs x c 1 (nN x))).Nodup := hc.nodup.imp fun h e => by subst e; omega
 have hm := (mem_h ok c 1 _).2 ⟨i, hi, hq, rfl⟩
 have := noteL_at (L := layL x c) (f := fun _ => none) h1 h2 hm
 rw [h0 _ hm] at this
 exact this
theorem oPc_g (i : Nat) : (oPc x c i).g = decide (0 < hpt x c i) := by
 unfold oPc
 split
 ·rename_i h; exact (decide_eq_true h).symm
 ·rename_i h; exact (decide_eq_false h).symm
theorem gone_one {i p : Nat} (hp : 3 ≤ p) (hq : opt x c i = p) (hg : 0 < hpt x c i) : hpt x c i = 1 := by
 rcases parts_of x c i with h | h | h | h <;> omega
theorem gone_adV {x : Rh} (ok : RhOk x) (c : Bool) {i : Nat} (hi : i < nN x) (h1 : hpt x c i = 1) : (oPc x c i).h = hrf x c i ∧ adV (hrf x c i) = firstI (layL x c) 1 + hof x c 1 i ∧ (oPc x c i).p = (gPtrs x i).length := by
 have hat : isAt x c 1 i := .inl ⟨by omega, by omega, h1⟩
 have := ref_in ok.base.1 hat hi
 have e : hrf x c i = 2 * (firstI (layL x c) 1 + hof x c 1 i) + 1 := by
  unfold hrf refP
  rw [h1, if_neg (by decide)]
  rfl
 have e2 : offP x c 1 i = hof x c 1 i := rfl
 rw [e2] at this
 refine ⟨?_, ?_, ?_⟩
 ·unfold oPc; rw [if_pos (by omega)]
 ·rw [e]; exact (adE_odd this.1).2
 ·unfold oPc; split <;> rfl
theorem oshapes {x : Rh} (ok : RhOk x) (c : Bool) {p : Nat} (hp : 3 ≤ p) : shapesA (fnd x c).lf (wordsOf (opcs x c p (nN x))) = shapesOf (opcs x c p (nN x)) := shapes_all (opcs_good ok c p) fun d hd hg => by
 obtain ⟨i, hi, hq, rfl⟩ := mem_pieces.1 hd
 rw [oPc_g] at hg
 have h1 := gone_one c hp hq (of_decide_eq_true hg)
 obtain ⟨e1, e2, e3⟩ := gone_adV ok c hi h1
 rw [e1, e2, e3, (oPc_s x c i).1]
 exact lf_at ok c hi h1
theorem oold {x : Rh} (ok : RhOk x) (c : Bool) {p : Nat} (hp : 3 ≤ p) : oldF (wordsOf (opcs x c p (nN x))) (shapesA (fnd x c).lf (wordsOf (opcs x c p (nN x)))) = .ok (obsAt 0 (opcs x c p (nN x))) (shapesOf (opcs x c p (nN x))).length := by
 rw [oshapes ok c hp]
 have := old_all (opcs_good ok c p) []
 rw [List.append_nil, if_pos rfl] at this
 exact this
theorem found_ok {x : Rh} (ok : RhOk x) (c : Bool) : cp.Found (heapP x c) (fnd x c) := by
 refine ⟨⟨_, hnew ok c 1⟩, ⟨_, hnew ok c 2⟩, ⟨_, oold ok c (by omega)⟩, ⟨_, oold ok c (by omega)⟩, ?_, ?_⟩
 ·rw [heapP_lay]; rfl
 ·rw [heapP_lay]; rfl
theorem pf_at {x : Rh} (ok : RhOk x) (c : Bool) {p j : Nat} (h : isAt x c p j) (hj : j < nN x) : (fnd x c).pf (firstI (layL x c) p + offP x c p j) = some (p : Int) := by
 have hf := found_ok ok c
 have hp := isAt_p h
 rw [hf.pf_iff (by rw [heapP_lay]; exact lay_right ok.base.1 c)]
 refine ⟨p, rfl, hp, ?_⟩
 rw [heapP_lay]
 rcases h with ⟨h1, h2, h3⟩ | ⟨h1, h2, h3⟩
 ·refine ⟨obOf (hof x c p j) (hPc x c j), ?_, ?_⟩
  ·have := (mem_h ok c p _).2 ⟨j, hj, h3, rfl⟩
   unfold Fnd.obs
   rcases (show p = 1 ∨ p = 2 by omega) with rfl | rfl
   ·exact this
   ·exact this
  ·unfold offP; rw [if_pos h2]; rfl
 ·refine ⟨obOf (oof x c p j) (oPc x c j), ?_, ?_⟩
  ·have := (mem_o ok c p _).2 ⟨j, hj, h3, rfl⟩
   unfold Fnd.obs
   rcases (show p = 3 ∨ p = 4 by omega) with rfl | rfl
   ·exact this
   ·exact this
  ·unfold offP; rw [if_neg (by omega)]; rfl
theorem points_to {x : Rh} (ok : RhOk x) (c : Bool) {lo hi : Nat} {v : Int} (h : RefTo x c lo hi v) : pointsB (fnd x c).pf v lo hi = true := by
 unfold pointsB
 rcases h with rfl | ⟨p, j, h1, h2, h3, h4, rfl⟩
 ·rfl
 ·have h5 := ref_in ok.base.1 h3 h4
  rw [(adE_odd h5.1).1, (adE_odd h5.1).2, pf_at ok c h3 h4]
  simp
  omega
theorem ptrs_h {x : Rh} (ok : RhOk x) (c : Bool) {P : Int → Int → Bool} {p : Nat} (h : ∀ (a : Nat) (t tw : Int), t < (nN x : Int) → P a (slotV x c p a t tw) = true) : pointersB P (wordsOf (hpcs x c p (nN x))) (obsAt 0 (hpcs x c p (nN x))) = true := by
 unfold pointersB
 rw [List.all_eq_true]
 intro o ho
 obtain ⟨i, hi, hq, rfl⟩ := (mem_h ok c p o).1 ho
 show (false || ptrsB P _ _ _) = true
 rw [Bool.false_or]
 unfold ptrsB
 rw [List.all_eq_true]
 intro k hk
 have hk : k < (gPtrs x i).length := by simpa [obOf, hPc] using List.mem_range.1 hk
 have hks : k < slN x i := by unfold slN; omega
 have e := slot_at (hPc_s x c) (P := hPc x c) hi hq hks
 obtain ⟨t, tw', h1, h2⟩ := slots_ptr ok c (hpt x c i) (hof x c (hpt x c i) i) (wr (x.slack + i)) i k hk
 have e2 : (hPc x c i).ys.getD k 0 = slotV x c (hpt x c i) (hof x c (hpt x c i) i + 1 + k) t tw' := h2
 have e3 : (obOf (hof x c p i) (hPc x c i)).pos.toNat + 1 + k = offs (slN x) (hpt x c) p i + 1 + k := by simp [obOf, hof]
 rw [e3]
 show P _ ((wordsOf (pieces (hpt x c) (hPc x c) p (nN x))).getD _ 0) = true
 rw [e, e2, hq]
 have := h (hof x c p i + 1 + k) t tw' h1
 have e4 : (obOf (hof x c p i) (hPc x c i)).pos + 1 + (k : Int) = ((hof x c p i + 1 + k : Nat) : Int) := by simp [obOf]
 rw [e4]
 exact this
theorem ptrs_o {x : Rh} (ok : RhOk x) (c : Bool) {P : Int → Int → Bool} {p : Nat} (h : ∀ (a : Nat) (t tw : Int), t < (nN x : Int) → P a (slotV x c p a t tw) = true) : pointersB P (wordsOf (opcs x c p (nN x))) (obsAt 0 (opcs x c p (nN x))) = true := by
 unfold pointersB
 rw [List.all_eq_true]
 intro o ho
 obtain ⟨i, hi, hq, rfl⟩ := (mem_o ok c p o).1 ho
 show ((oPc x c i).g || ptrsB P _ _ _) = true
 rw [oPc_g]
 by_cases h0 : 0 < hpt x c i
 ·rw [decide_eq_true h0]; rfl
 rw [decide_eq_false h0, Bool.false_or]
 unfold ptrsB
 rw [List.all_eq_true]
 intro k hk
 have ey : oPc x c i = ⟨packV (slN x i) (gPtrs x i).length, slN x i, (gPtrs x i).length, false, slotsV x c (opt x c i) (oof x c (opt x c i) i) 0 0 (gPtrs x i) ++ gData x i⟩ := if_neg h0
 have hk : k < (gPtrs x i).length := by rw [ey] at hk; simpa [obOf] using List.mem_range.1 hk
 have hks : k < slN x i := by unfold slN; omega
 have e := slot_at (oPc_s x c) (P := oPc x c) hi hq hks
 obtain ⟨t, tw', h1, h2⟩ := slots_ptr ok c (opt x c i) (oof x c (opt x c i) i) 0 i k hk
 have e2 : (oPc x c i).ys.getD k 0 = slotV x c (opt x c i) (oof x c (opt x c i) i + 1 + k) t tw' := by rw [ey]; exact h2
 have e3 : (obOf (oof x c p i) (oPc x c i)).pos.toNat + 1 + k = offs (slN x) (opt x c) p i + 1 + k := by simp [obOf, oof]
 rw [e3]
 show P _ ((wordsOf (pieces (opt x c) (oPc x c) p (nN x))).getD _ 0) = true
 rw [e, e2, hq]
 have := h (oof x c p i + 1 + k) t tw' h1
 have e4 : (obOf (oof x c p i) (oPc x c i)).pos + 1 + (k : Int) = ((oof x c p i + 1 + k : Nat) : Int) := by simp [obOf]
 rw [e4]
 exact this
theorem copy_all {pf : Int → Option Int} : ∀ {l : List Ob} {t : Int → Bool} {n : Nat}, (∀ o ∈ l, o.g = true → pf o.t = some 1 ∧ t o.t = false) → l.Pairwise (fun a b => a.g = true → b.g = true → a.t ≠ b.t) → copyGo pf l t n = some (n + (l.filter (·.g)).length)
 | [], t, n, h, hp => rfl
 | o :: l, t, n, h, hp => by
  have hp2 := List.pairwise_cons.1 hp
  show (if o.g then _ else _) = _
  cases hg : o.g with
  | true =>
   obtain ⟨h1, h2⟩ := h o List.mem_cons_self hg
   rw [if_pos rfl, if_pos ⟨by rw [h1]; rfl, h2⟩]
   rw [copy_all (fun o' ho' hg' => ⟨(h o' (List.mem_cons_of_mem _ ho') hg').1, by
    rw [(h o' (List.mem_cons_of_mem _ ho') hg').2, Bool.or_false]
    exact decide_eq_false fun e => hp2.1 o' ho' hg hg' e.symm⟩) hp2.2]
   rw [List.filter_cons_of_pos hg, List.length_cons]
   exact congrArg some (Nat.add_right_comm n 1 _)
  | false =>
   rw [if_neg (by decide), copy_all (fun o' ho' => h o' (List.mem_cons_of_mem _ ho')) hp2.2]
   rw [List.filter_cons_of_neg (by rw [hg]; decide)]
theorem gone_t {x : Rh} (ok : RhOk x) (c : Bool) {p : Nat} (hp : 3 ≤ p) {o : Ob} (ho : o ∈ obsAt 0 (opcs x c p (nN x))) (hg : o.g = true) : ∃ i, i < nN x ∧ opt x c i = p ∧ hpt x c i = 1 ∧ o = obOf (oof x c p i) (oPc x c i) ∧ o.t = firstI (layL x c) 1 + hof x c 1 i := by
 obtain ⟨i, hi, hq, rfl⟩ := (mem_o ok c p o).1 ho
 have h00 : (oPc x c i).g = true := hg
 have h0 := h00
 rw [oPc_g] at h0
 have h1 := gone_one c hp hq (of_decide_eq_true h0)
 obtain ⟨e1, e2, e3⟩ := gone_adV ok c hi h1
 refine ⟨i, hi, hq, h1, rfl, ?_⟩
 show (if (oPc x c i).g = true then adV (oPc x c i).h else 0) = _
 rw [if_pos h00, e1, e2]
theorem hof_ne {i j : Nat} (hi : hpt x c i = 1) (hj : hpt x c j = 1) (h : i ≠ j) : hof x c 1 i ≠ hof x c 1 j := by
 unfold hof
 rcases Nat.lt_or_gt_of_ne h with h1 | h1
 ·have := offs_lt (z := slN x) (q := hpt x c) h1 hi; omega
 ·have := offs_lt (z := slN x) (q := hpt x c) h1 hj; omega
theorem pw_o {x : Rh} (ok : RhOk x) (c : Bool) {p : Nat} (hp : 3 ≤ p) : (obsAt 0 (opcs x c p (nN x))).Pairwise (fun a b => a.g = true → b.g = true → a.t ≠ b.t) := by
 have hc : ChainO (wordsOf (opcs x c p (nN x))).length 0 (obsAt 0 (opcs x c p (nN x))) := oldF_chain (oold ok c hp)
 refine List.Pairwise.imp_of_mem (R := fun a b : Ob => a.pos < b.pos) (fun {a b} ha hb hlt hga hgb e => ?_) hc.nodup
 obtain ⟨i, i1, i2, i3, i4, i5⟩ := gone_t ok c hp ha hga
 obtain ⟨j, j1, j2, j3, j4, j5⟩ := gone_t ok c hp hb hgb
 have hij : i ≠ j := fun h => by
  subst h
  rw [i4, j4] at hlt
  exact absurd hlt (by simp)
 have := hof_ne c i3 j3 hij
 omega
theorem filter_len {l : List Pc} : ∀ pos, ((obsAt pos l).filter (·.g)).length = (l.filter (·.g)).length := by
 induction l with
 | nil => intro pos; rfl
 | cons a l ih =>
  intro pos
  show ((obOf pos a :: obsAt (pos + 1 + a.s) l).filter (·.g)).length = _
  have e : (obOf pos a).g = a.g := rfl
  cases h : a.g with
  | true => rw [List.filter_cons_of_pos (by rw [e, h]), List.filter_cons_of_pos h, List.length_cons, List.length_cons, ih]
  | false => rw [List.filter_cons_of_neg (by rw [e, h]; decide), List.filter_cons_of_neg (by rw [h]; decide), ih]
theorem gone_count : ∀ n, ((opcs x true 3 n).filter (·.g)).length + ((opcs x true 4 n).filter (·.g)).length = (hpcs x true 1 n).length
 | 0 => rfl
 | n + 1 => by
  have ih := gone_count n
  unfold opcs hpcs at *
  rw [pieces_succ, pieces_succ, pieces_succ, List.filter_append, List.filter_append, List.length_append, List.length_append, List.length_append]
  have hg := oPc_g (x := x) true n
  rcases parts_of x true n with ⟨_, h2, h3⟩ | ⟨_, h2, _⟩ | ⟨_, _, h2, h3⟩ | ⟨_, _, h2, h3⟩
  ·rw [h2, h3]; simp; omega
  ·cases h2
  ·rw [h2] at hg
   have hg : (oPc x true n).g = true := hg
   rcases h3 with h3 | h3 <;> rw [h2, h3] <;> simp [hg] <;> omega
  ·rw [h2] at hg
   have hg : (oPc x true n).g = false := hg
   rcases h3 with h3 | h3 <;> rw [h2, h3] <;> simp [hg] <;> omega
theorem copied_ok {x : Rh} (ok : RhOk x) (c : Bool) : copiedB (heapP x c) (fnd x c) = true := by
 unfold copiedB
 cases c with
 | false => rfl
 | true =>
  show (false || _) = true
  rw [Bool.false_or, decide_eq_true_eq]
  have hm : ∀ o ∈ (fnd x true).o3 ++ (fnd x true).o4, o.g = true → ∃ i, i < nN x ∧ hpt x true i = 1 ∧ o.t = firstI (layL x true) 1 + hof x true 1 i ∧ ((opt x true i = 3 ∧ o ∈ (fnd x true).o3) ∨ (opt x true i = 4 ∧ o ∈ (fnd x true).o4)) := fun o ho hg => by
   rcases List.mem_append.1 ho with h | h
   ·obtain ⟨i, i1, i2, i3, i4, i5⟩ := gone_t ok true (p := 3) (by omega) h hg
    exact ⟨i, i1, i3, i5, .inl ⟨i2, h⟩⟩
   ·obtain ⟨i, i1, i2, i3, i4, i5⟩ := gone_t ok true (p := 4) (by omega) h hg
    exact ⟨i, i1, i3, i5, .inr ⟨i2, h⟩⟩
  have k1 : ∀ o ∈ (fnd x true).o3 ++ (fnd x true).o4, o.g = true → (fnd x true).pf o.t = some 1 ∧ (fun _ : Int => false) o.t = false := fun o ho hg => by
   obtain ⟨i, i1, i2, i3, _⟩ := hm o ho hg
   rw [i3]
   exact ⟨pf_at ok true (p := 1) (.inl ⟨by omega, by omega, i2⟩) i1, rfl⟩
  have k2 : ((fnd x true).o3 ++ (fnd x true).o4).Pairwise (fun a b => a.g = true → b.g = true → a.t ≠ b.t) := by
   refine List.pairwise_append.2 ⟨pw_o ok true (p := 3) (by omega), pw_o ok true (p := 4) (by omega), fun a ha b hb ga gb e => ?_⟩
   obtain ⟨i, i1, i2, i3, i4, i5⟩ := gone_t ok true (p := 3) (by omega) ha ga
   obtain ⟨j, j1, j2, j3, j4, j5⟩ := gone_t ok true (p := 4) (by omega) hb gb
   have := hof_ne true i3 j3 (fun h => by subst h; omega)
   omega
  rw [copy_all k1 k2]
  ·rw [Nat.zero_add, List.filter_append, List.length_append]
   show some (((obsAt 0 (opcs x true 3 (nN x))).filter (·.g)).length + ((obsAt 0 (opcs x true 4 (nN x))).filter (·.g)).length) = some (obsAt 0 (hpcs x true 1 (nN x))).length
   rw [filter_len, filter_len, obsAt_len, gone_count]
theorem wait_app (l m : List Ob) : waitN (l ++ m) = waitN l + waitN m := by
 have key : ∀ (l : List Ob) (n : Int), l.foldl (fun n o => if o.g then n else n + (1 + o.s)) n = n + waitN l := by
  intro l
  unfold waitN
  induction l with
  | nil => intro n; simp
  | cons o l ih =>
   intro n
   simp only [List.foldl_cons]
   cases hg : o.g with
   | true => rw [if_pos rfl, if_pos rfl]; exact ih n
   | false => rw [if_neg (by decide), if_neg (by decide), ih (n + (1 + o.s)), ih (0 + (1 + o.s))]; omega
 have := key m (waitN l)
 rw [← this]
 unfold waitN
 rw [List.foldl_append]
theorem wait_count {n : Nat} : (∀ i, i < n → PcGood (oPc x c i)) → waitN (obsAt 0 (opcs x c 3 n)) + waitN (obsAt 0 (opcs x c 4 n)) = hof x c 0 n := by
 induction n with
 | zero => intro _; rfl
 | succ n ih =>
  intro hg
  have ih := ih fun i hi => hg i (by omega)
  unfold opcs at *
  rw [obs_succ (oPc_s x c) hg, obs_succ (oPc_s x c) hg, wait_app, wait_app]
  have e : hof x c 0 (n + 1) = hof x c 0 n + if hpt x c n = 0 then 1 + slN x n else 0 := rfl
  rw [e]
  have hgn := oPc_g (x := x) c n
  have hs := (oPc_s x c n).1
  rcases parts_of x c n with ⟨_, h2, h3⟩ | ⟨_, _, h2, h3⟩ | ⟨_, _, h2, h3⟩ | ⟨_, _, h2, h3⟩
  ·rw [h2, h3]; simp [waitN] at ih ⊢; omega
  ·rw [h2, h3]; simp [waitN] at ih ⊢; omega
  ·rw [h2] at hgn
   have hg2 : (oPc x c n).g = true := hgn
   rcases h3 with h3 | h3 <;> rw [h2, h3] <;> simp [waitN, obOf, hg2] at ih ⊢ <;> omega
  ·rw [h2] at hgn
   have hg2 : (oPc x c n).g = false := hgn
   rcases h3 with h3 | h3 <;> rw [h2, h3] <;> simp [waitN, obOf, hg2, hs] at ih ⊢ <;> omega
theorem look_of {h : Hp} {s : Fnd} (h0 : boundedB h = true) (h1 : restingB h = true) (h2 : runW h 4 = some s) (h3 : copiedB h s = true) (h4 : settledB h s = true) (h5 : unscannedB h s = true) (h6 : leftB h s = true) (h7 : roomyB h s = true) : lookF h = some s := by
 have l1 : looks h 1 = some Fnd.nil := if_pos h0
 have l2 : looks h 2 = some Fnd.nil := by
  show (looks h 1).bind _ = _
  rw [l1]; exact if_pos h1
 have l3 : looks h 3 = some s := by
  show (looks h 2).bind _ = _
  rw [l2]; exact h2
 have l4 : looks h 4 = some s := by
  show (looks h 3).bind _ = _
  rw [l3]; exact if_pos h3
 have l5 : looks h 5 = some s := by
  show (looks h 4).bind _ = _
  rw [l4]; exact if_pos h4
 have l6 : looks h 6 = some s := by
  show (looks h 5).bind _ = _
  rw [l5]; exact if_pos h5
 have l7 : looks h 7 = some s := by
  show (looks h 6).bind _ = _
  rw [l6]; exact if_pos h6
 show (looks h 7).bind _ = _
 rw [l7]; exact if_pos h7
theorem opcs_none {p n : Nat} (hp : 3 ≤ p) : opcs x false p n = [] := by
 refine List.eq_nil_iff_forall_not_mem.2 fun d hd => ?_
 obtain ⟨i, hi, hq, rfl⟩ := mem_pieces.1 hd
 rcases parts_of x false i with h | h | h | h <;> first | omega | (obtain ⟨_, h2, _⟩ := h; cases h2)
theorem roots_len : (gRoots x).length ≤ 5 := by
 unfold gRoots
 split
 ·simp
 ·simp; omega
theorem heap_right {x : Rh} (ok : RhOk x) (c : Bool) (hc : c = true → 0 < hof x c 1 (nN x)) : lookF (heapP x c) = some (fnd x c) := by
 have hl : (heapP x c).low.length = hof x c 1 (nN x) := hlen x c 1 (nN x)
 have hh : (heapP x c).high.length = hof x c 2 (nN x) := hlen x c 2 (nN x)
 have ho : (heapP x c).old.length = oof x c 3 (nN x) := olen x c 3 (nN x)
 have hf : (heapP x c).far.length = oof x c 4 (nN x) := olen x c 4 (nN x)
 have hsc := scan_le x c
 have hse : (heapP x c).scan = (scanN x c : Int) := rfl
 refine look_of ?_ ?_ (of_found (found_ok ok c)) (copied_ok ok c) ?_ ?_ ?_ ?_
 ·unfold boundedB
  rw [heapP_lay, lay_right ok.base.1 c, Bool.true_and, decide_eq_true_eq, hl, hse]
  refine ⟨?_, by omega, by omega⟩
  show ((gRoots x).map _).length ≤ 16
  rw [List.length_map]
  have := roots_len (x := x)
  omega
 ·unfold restingB
  have e : (heapP x c).cyc = c := rfl
  rw [e, hl, ho, hf, hse]
  cases c with
  | true =>
   rw [if_pos rfl, decide_eq_true_eq]
   have := hsc.2.1 rfl (hc rfl)
   omega
  | false =>
   rw [if_neg (by decide), decide_eq_true_eq]
   have h1 : oof x false 3 (nN x) = 0 := by rw [← olen, opcs_none (by omega)]; rfl
   have h2 : oof x false 4 (nN x) = 0 := by rw [← olen, opcs_none (by omega)]; rfl
   have := hsc.2.2 rfl
   omega
 ·unfold settledB
  rw [Bool.and_eq_true, Bool.and_eq_true, List.all_eq_true]
  refine ⟨fun v hv => ?_, ptrs_h ok c fun a t tw ht => points_to ok c ((slot_to x c ht).2.2 (by omega) (fun h => by cases h)), ptrs_h ok c fun a t tw ht => ?_⟩
  ·obtain ⟨r, hr, rfl⟩ := List.mem_map.1 hv
   have := gRoots_in x r hr
   unfold rootV
   split
   ·exact points_to ok c (hrf_to x c (by omega))
   ·rfl
  ·rw [Bool.or_eq_true, decide_eq_true_eq, hse]
   rcases Nat.lt_or_ge a (scanN x c) with h | h
   ·exact .inr (points_to ok c ((slot_to x c ht).2.2 (by omega) (fun _ => h)))
   ·exact .inl (by omega)
 ·unfold unscannedB
  exact ptrs_h ok c fun a t tw ht => by
   rw [Bool.or_eq_true]
   exact .inr (points_to ok c (slot_to x c ht).1)
 ·unfold leftB
  rw [Bool.and_eq_true]
  exact ⟨ptrs_o ok c fun a t tw ht => points_to ok c ((slot_to x c ht).2.1 (by omega)), ptrs_o ok c fun a t tw ht => points_to ok c ((slot_to x c ht).2.1 (by omega))⟩
 ·unfold roomyB
  rw [decide_eq_true_eq, hl, hh, wait_app]
  show _ + (waitN (obsAt 0 (opcs x c 3 (nN x))) + waitN (obsAt 0 (opcs x c 4 (nN x)))) ≤ ((capN x c : Nat) : Int)
  rw [wait_count c (fun i hi => oPc_good ok c hi)]
  unfold capN
  omega
theorem heapF_right {x : Rh} (ok : RhOk x) : ∃ s, lookF (heapF x) = some s := by
 unfold heapF
 split
 ·exact ⟨_, heap_right ok false fun h => by cases h⟩
 ·rename_i h
  exact ⟨_, heap_right ok true fun _ => by omega⟩
end Go.Proofs.YtpgjploaliefdaaGreat.rh
