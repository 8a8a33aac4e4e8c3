/- Layer 11, plain: targets; what is found once three rules hold. No conditions. -/
import Derived.Test.YtpgjploaliefdaaCq
namespace Go.Proofs.Ytpgjploaliefdaa.cp
open Go Go.Proofs.Ytpgjploaliefdaa.hp Go.Proofs.Ytpgjploaliefdaa.ob Go.Proofs.Ytpgjploaliefdaa.hd
set_option linter.unusedVariables false
set_option linter.unusedSimpArgs false
theorem walkF_tg {bg : Nat → Nat → Int → Option (Ob × Nat)} {zs : List Int} {len : Nat} (hz : ∀ i, 0 ≤ zs.getD i 0 ∧ zs.getD i 0 < 18446744073709551616) (hbg : ∀ k pos x o k', 0 ≤ x ∧ x < 18446744073709551616 → bg k pos x = some (o, k') → 0 ≤ o.t ∧ o.t < 18446744073709551616) :
    ∀ {f k pos : Nat} {acc l : List Ob} {k2 : Nat}, (∀ o ∈ acc, 0 ≤ o.t ∧ o.t < 18446744073709551616) → walkF bg zs len f k pos acc = .ok l k2 → ∀ o ∈ l, 0 ≤ o.t ∧ o.t < 18446744073709551616
  | 0, k, pos, acc, l, k2, ha, h => by cases h
  | f + 1, k, pos, acc, l, k2, ha, h => by
    by_cases hp : pos < len
    · rw [walkF_step hp] at h
      split at h
      · cases h
      · rename_i o k' hb
        have h1 := hbg _ _ _ _ _ (hz pos) hb
        split at h
        · cases h
        · split at h
          · exact walkF_tg hz hbg (acc := acc ++ [o]) (fun o' ho' => by
              rcases List.mem_append.1 ho' with h6 | h6
              · exact ha _ h6
              · simp at h6; subst h6; exact h1) h
          · cases h
    · rw [walkF_end hp] at h
      cases h
      exact ha
theorem oldF_tg {zs : List Int} {ss : List (Int × Int)} {l : List Ob} {k : Nat} (hz : ∀ i, 0 ≤ zs.getD i 0 ∧ zs.getD i 0 < 18446744073709551616) (h : oldF zs ss = .ok l k) : ∀ o ∈ l, 0 ≤ o.t ∧ o.t < 18446744073709551616 := by
  unfold oldF at h
  generalize hw : walkF (bgO ss.length ss) zs zs.length (zs.length + 1) 0 0 [] = r at h
  rcases r with ⟨l', k'⟩ | ⟨c, k'⟩
  · obtain rfl := oldRes_ok h
    refine walkF_tg hz (fun k pos x o k' hx hb => ?_) (acc := []) (fun o ho => by simp at ho) hw
    unfold bgO at hb
    split at hb
    · split at hb
      · cases hb
        show 0 ≤ adV x ∧ adV x < _
        unfold adV
        split <;> omega
      · cases hb
    · unfold bgN at hb
      split at hb
      · cases hb
        exact ⟨Int.le_refl _, (show (0 : Int) < 18446744073709551616 by decide)⟩
      · cases hb
  · cases h
theorem looks_two {h : Hp} {s : Fnd} (e : looks h 2 = some s) : s = Fnd.nil ∧ layR h.lay = true := by
  obtain ⟨s1, e1, r1⟩ := looks_some e
  obtain ⟨s0, e0, r0⟩ := looks_some e1
  cases e0
  have r0 : (if boundedB h then some Fnd.nil else none) = some s1 := r0
  have r1 : (if restingB h then some s1 else none) = some s := r1
  split at r0
  · rename_i hb
    cases r0
    split at r1
    · cases r1
      refine ⟨rfl, ?_⟩
      unfold boundedB at hb
      rw [Bool.and_eq_true] at hb
      exact hb.1
    · cases r1
  · cases r0
theorem looks_found {h : Hp} {s : Fnd} : ∀ {k : Nat}, looks h (k + 3) = some s → runW h 4 = some s
  | 0, e => by
    obtain ⟨s0, e0, r0⟩ := looks_some e
    exact r0
  | k + 1, e => by
    obtain ⟨s0, e0, r0⟩ := looks_some e
    have : s0 = s := by
      unfold ruleF at r0
      rw [if_neg (by omega), if_neg (by omega), if_neg (by omega)] at r0
      repeat' split at r0
      all_goals first | (cases r0; rfl) | cases r0
    subst this
    exact looks_found e0
end Go.Proofs.Ytpgjploaliefdaa.cp
