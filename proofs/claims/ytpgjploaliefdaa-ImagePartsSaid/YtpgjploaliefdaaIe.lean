/- image.Dump, plain: the parts of a right heap can be written. No conditions. -/
import Derived.Test.YtpgjploaliefdaaId
namespace Go.Proofs.Ytpgjploaliefdaa.im
open Go Go.RowKit Go.Proofs.Ytpgjploaliefdaa.hp Go.Proofs.Ytpgjploaliefdaa.ob Go.Proofs.Ytpgjploaliefdaa.hd Go.Proofs.Ytpgjploaliefdaa.cp
open Go.Proofs.Ytpgjploaliefdaa.fr (strB putN rowN joinR)
set_option linter.unusedVariables false
set_option linter.unusedSimpArgs false
theorem kindO_len (o : Ob) : (kindO o).length = 1 + o.s.toNat := by simp [kindO]; omega
theorem kinds_chain {len : Nat} : ∀ {os : List Ob} {acc : List Int}, ChainO len acc.length os → (kindsF len os acc).isNone = false
  | [], acc, h => by
    unfold kindsF
    rw [if_pos (show acc.length = len from h)]
    rfl
  | o :: os, acc, h => by
    obtain ⟨h1, h2, h3, h4⟩ := h
    have hb : ¬ kindBad len acc o := by
      rintro (q | q | q | q)
      · exact q h1
      · omega
      · rw [rightB_mk h2] at q
        cases q
      · omega
    have e : kindsF len (o :: os) acc = kindsF len os (acc ++ kindO o) := by
      show (if kindBad len acc o then none else kindsF len os (acc ++ kindO o)) = _
      rw [if_neg hb]
    rw [e]
    refine kinds_chain ?_
    rw [List.length_append, kindO_len]
    have : acc.length + (1 + o.s.toNat) = acc.length + 1 + o.s.toNat := by omega
    rw [this]
    exact h4
theorem points_ref {pf : Int → Option Int} {x a b : Int} (h : pointsB pf x a b = true) : refOkB x = true := by
  unfold pointsB at h
  unfold refOkB
  rcases e : decide (x = 0) with _ | _
  · rw [e, Bool.false_or, Bool.and_eq_true] at h
    rw [h.1]
    rfl
  · rfl
theorem ptrs_ok {P : Int → Int → Bool} {zs : List Int} {os : List Ob} (hp : pointersB P zs os = true) (hP : ∀ a x, P a x = true → refOkB x = true) (hf : ∀ o ∈ os, FitB zs.length o) : os.all (objOk zs) = true := by
  rw [List.all_eq_true]
  intro o ho
  unfold pointersB at hp
  rw [List.all_eq_true] at hp
  have h1 := hp o ho
  unfold objOk
  rcases hg : o.g with _ | _
  · rw [hg, Bool.false_or] at h1
    rw [Bool.false_or, List.all_eq_true]
    intro x hx
    obtain ⟨i, hi, rfl⟩ := List.mem_iff_getElem.1 hx
    obtain ⟨f0, f1, f2, f3, f4, f5⟩ := hf o ho
    have hsl : (sub zs (o.pos.toNat + 1) o.p.toNat).length = o.p.toNat := sub_len (by omega)
    have h2 : ∀ j, j < o.p.toNat → P (o.pos + 1 + j) (zs.getD (o.pos.toNat + 1 + j) 0) = true := by
      unfold ptrsB at h1
      simpa only [List.all_eq_true, List.mem_range] using h1
    have h3 := hP _ _ (h2 i (by omega))
    have h4 : (sub zs (o.pos.toNat + 1) o.p.toNat)[i] = zs.getD (o.pos.toNat + 1 + i) 0 := by
      rw [← sub_get (zs := zs) (a := o.pos.toNat + 1) (n := o.p.toNat) (i := i) (by omega)]
      simp [List.getD, hi]
    rw [h4]
    exact h3
  · rfl
theorem looks_rest {h : Hp} {s : Fnd} (e : lookF h = some s) : boundedB h = true ∧ restingB h = true ∧ Go.Proofs.Ytpgjploaliefdaa.cp.Found h s ∧ copiedB h s = true ∧ settledB h s = true ∧ unscannedB h s = true ∧ leftB h s = true ∧ roomyB h s = true := by
  have step : ∀ {k : Nat} {t : Fnd} {b : Bool}, (if b then some t else none) = some s → b = true ∧ t = s := fun {k t b} h => by
    rcases b with _ | _
    · cases h
    · exact ⟨rfl, Option.some.inj h⟩
  obtain ⟨s7, e7, r7⟩ := looks_some (k := 7) e
  obtain ⟨a8, rfl⟩ := step (k := 0) (show (if roomyB h s7 then some s7 else none) = some s from r7)
  obtain ⟨s6, e6, r6⟩ := looks_some (k := 6) e7
  obtain ⟨a7, rfl⟩ := step (k := 0) (show (if leftB h s6 then some s6 else none) = some s7 from r6)
  obtain ⟨s5, e5, r5⟩ := looks_some (k := 5) e6
  obtain ⟨a6, rfl⟩ := step (k := 0) (show (if unscannedB h s5 then some s5 else none) = some s6 from r5)
  obtain ⟨s4, e4, r4⟩ := looks_some (k := 4) e5
  obtain ⟨a5, rfl⟩ := step (k := 0) (show (if settledB h s4 then some s4 else none) = some s5 from r4)
  obtain ⟨s3, e3, r3⟩ := looks_some (k := 3) e4
  obtain ⟨a4, rfl⟩ := step (k := 0) (show (if copiedB h s3 then some s3 else none) = some s4 from r3)
  obtain ⟨s2, e2, r2⟩ := looks_some (k := 2) e3
  obtain ⟨s1, e1, r1⟩ := looks_some (k := 1) e2
  obtain ⟨s0, e0, r0⟩ := looks_some (k := 0) e1
  have r0 : (if boundedB h then some s0 else none) = some s1 := r0
  have r1 : (if restingB h then some s1 else none) = some s2 := r1
  refine ⟨?_, ?_, found_of r2, a4, a5, a6, a7, a8⟩
  · rcases hb : boundedB h with _ | _
    · rw [hb] at r0; cases r0
    · rfl
  · rcases hb : restingB h with _ | _
    · rw [hb] at r1; cases r1
    · rfl
/-- What a right heap's part is written as. -/
def partU (h : Hp) (s : Fnd) (q : Nat) : ByteArray := ⟨(uP (s.obs q).length ++ (s.obs q).flatMap (objU (h.part q))).toArray⟩
theorem part_ok {h : Hp} {s : Fnd} (e : lookF h = some s) (q : Nat) (hq : 1 ≤ q ∧ q ≤ 4) : objsR (h.part q) (s.obs q) = (partU h s q, 0) := by
  obtain ⟨a1, a2, hf, a4, a5, a6, a7, a8⟩ := looks_rest e
  have hc := hf.chain q hq
  unfold objsR
  rw [kinds_chain (acc := []) hc]
  have hfit : ∀ o ∈ s.obs q, FitB (h.part q).length o := fun o ho => (hc.from o ho).2
  have hall : (s.obs q).all (objOk (h.part q)) = true := by
    simp only [settledB, leftB, unscannedB, Bool.and_eq_true] at a5 a6 a7
    rcases (show q = 1 ∨ q = 2 ∨ q = 3 ∨ q = 4 by omega) with rfl | rfl | rfl | rfl
    · -- an object of Low: its pointers ahead of the scan, and behind it
      rw [List.all_eq_true]
      intro o ho
      have hboth : pointersB (fun _ x => refOkB x) h.low s.o1 = true := by
        unfold pointersB at a5 a6 ⊢
        rw [List.all_eq_true]
        intro c hc'
        have h1 := (List.all_eq_true.1 a5.2.2) c hc'
        have h2 := (List.all_eq_true.1 a6) c hc'
        rcases hg : c.g with _ | _
        · rw [hg, Bool.false_or] at h1 h2
          rw [Bool.false_or]
          unfold ptrsB at h1 h2 ⊢
          rw [List.all_eq_true] at h1 h2 ⊢
          intro i hi
          have h3 := h1 i hi
          have h4 := h2 i hi
          rw [Bool.or_eq_true] at h3 h4
          rcases h3 with h5 | h5
          · rcases h4 with h6 | h6
            · have h5 := of_decide_eq_true h5
              have h6 := of_decide_eq_true h6
              omega
            · exact points_ref h6
          · exact points_ref h5
        · rfl
      exact List.all_eq_true.1 (ptrs_ok (zs := h.low) hboth (fun _ _ h => h) hfit) o ho
    · exact ptrs_ok (zs := h.high) a5.2.1 (fun _ _ h => points_ref h) hfit
    · exact ptrs_ok (zs := h.old) a7.1 (fun _ _ h => points_ref h) hfit
    · exact ptrs_ok (zs := h.far) a7.2 (fun _ _ h => points_ref h) hfit
  rw [hall]
  rfl
theorem roots_ok {h : Hp} {s : Fnd} (e : lookF h = some s) : h.roots.all refOkB = true := by
  obtain ⟨a1, a2, hf, a4, a5, a6, a7, a8⟩ := looks_rest e
  simp only [settledB, Bool.and_eq_true] at a5
  rw [List.all_eq_true] at a5 ⊢
  exact fun x hx => points_ref (a5.1 x hx)
end Go.Proofs.Ytpgjploaliefdaa.im
