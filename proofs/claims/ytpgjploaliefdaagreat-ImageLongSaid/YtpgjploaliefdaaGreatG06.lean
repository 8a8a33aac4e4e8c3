/- Layer 11, plain: targets; what is found once three rules hold. No conditions. -/
import Derived.Test.YtpgjploaliefdaaGreatG05
import Derived.Test.YtpgjploaliefdaaGreatSn
namespace Go.Proofs.YtpgjploaliefdaaGreat.cp
open Go Go.Proofs.YtpgjploaliefdaaGreat.hp Go.Proofs.YtpgjploaliefdaaGreat.ob Go.Proofs.YtpgjploaliefdaaGreat.hd
set_option linter.unusedVariables false
set_option linter.unusedSimpArgs false
theorem walkF_tg {bg : Nat → Nat → Int → Option (Ob × Nat)} {zs : List Int} {len : Nat} (hz : ∀ i, 0 ≤ zs.getD i 0 ∧ zs.getD i 0 < 18446744073709551616) (hbg : ∀ k pos x o k', 0 ≤ x ∧ x < 18446744073709551616 → bg k pos x = some (o, k') → 0 ≤ o.t ∧ o.t < 18446744073709551616) :
    ∀ {f k pos : Nat} {acc l : List Ob} {k2 : Nat}, (∀ o ∈ acc, 0 ≤ o.t ∧ o.t < 18446744073709551616) → walkF bg zs len f k pos acc = .ok l k2 → ∀ o ∈ l, 0 ≤ o.t ∧ o.t < 18446744073709551616
  | 0, k, pos, acc, l, k2, ha, h => by cases h
  | f + 1, k, pos, acc, l, k2, ha, h => by
    by_cases hp : pos < len
    · rw [walkF_step hp] at h
      split at h
      · cases h
      · rename_i o k' hb
        have h1 := hbg _ _ _ _ _ (hz pos) hb
        split at h
        · cases h
        · split at h
          · exact walkF_tg hz hbg (acc := acc ++ [o]) (fun o' ho' => by
              rcases List.mem_append.1 ho' with h6 | h6
              · exact ha _ h6
              · simp at h6; subst h6; exact h1) h
          · cases h
    · rw [walkF_end hp] at h
      cases h
      exact ha
theorem oldF_tg {zs : List Int} {ss : List (Int × Int)} {l : List Ob} {k : Nat} (hz : ∀ i, 0 ≤ zs.getD i 0 ∧ zs.getD i 0 < 18446744073709551616) (h : oldF zs ss = .ok l k) : ∀ o ∈ l, 0 ≤ o.t ∧ o.t < 18446744073709551616 := by
  unfold oldF at h
  generalize hw : walkF (bgO ss.length ss) zs zs.length (zs.length + 1) 0 0 [] = r at h
  rcases r with ⟨l', k'⟩ | ⟨c, k'⟩
  · obtain rfl := oldRes_ok h
    refine walkF_tg hz (fun k pos x o k' hx hb => ?_) (acc := []) (fun o ho => by simp at ho) hw
    unfold bgO at hb
    split at hb
    · split at hb
      · cases hb
        show 0 ≤ adV x ∧ adV x < _
        unfold adV
        split <;> omega
      · cases hb
    · unfold bgN at hb
      split at hb
      · cases hb
        exact ⟨Int.le_refl _, (show (0 : Int) < 18446744073709551616 by decide)⟩
      · cases hb
  · cases h
theorem looks_two {h : Hp} {s : Fnd} (e : looks h 2 = some s) : s = Fnd.nil ∧ layR h.lay = true := by
  obtain ⟨s1, e1, r1⟩ := looks_some e
  obtain ⟨s0, e0, r0⟩ := looks_some e1
  cases e0
  have r0 : (if boundedB h then some Fnd.nil else none) = some s1 := r0
  have r1 : (if restingB h then some s1 else none) = some s := r1
  split at r0
  · rename_i hb
    cases r0
    split at r1
    · cases r1
      refine ⟨rfl, ?_⟩
      unfold boundedB at hb
      rw [Bool.and_eq_true] at hb
      exact hb.1
    · cases r1
  · cases r0
theorem looks_found {h : Hp} {s : Fnd} : ∀ {k : Nat}, looks h (k + 3) = some s → runW h 4 = some s
  | 0, e => by
    obtain ⟨s0, e0, r0⟩ := looks_some e
    exact r0
  | k + 1, e => by
    obtain ⟨s0, e0, r0⟩ := looks_some e
    have : s0 = s := by
      unfold ruleF at r0
      rw [if_neg (by omega), if_neg (by omega), if_neg (by omega)] at r0
      repeat' split at r0
      all_goals first | (cases r0; rfl) | cases r0
    subst this
    exact looks_found e0
end Go.Proofs.YtpgjploaliefdaaGreat.cp

namespace Go.Proofs.YtpgjploaliefdaaGreat.rh
open Go Go.Proofs.YtpgjploaliefdaaGreat.hp Go.Proofs.YtpgjploaliefdaaGreat.ob Go.Proofs.YtpgjploaliefdaaGreat.hd Go.Proofs.YtpgjploaliefdaaGreat.cp
set_option linter.unusedVariables false
set_option linter.unusedSimpArgs false
/-- Raw numbers of a heap. -/
structure Rh where
  nodes : List (List Int × List Int)
  roots : List Int
  cls : List Int
  base : Int
  slack : Int
  scan : Int
  tt : Int
def nN (x : Rh) : Nat := min x.nodes.length 10
def gPtrs (x : Rh) (i : Nat) : List Int := (((x.nodes.getD i ([], [])).1).take 4).map fun c => pickI c ((nN x : Int) + 1) - 1
def gData (x : Rh) (i : Nat) : List Int := ((x.nodes.getD i ([], [])).2).take 4
def gRoots (x : Rh) : List Int := if x.roots = [] then [(nN x : Int) - 1] else (x.roots.take 5).map fun c => pickI c ((nN x : Int) + 1) - 1
def slN (x : Rh) (i : Nat) : Nat := (gPtrs x i).length + (gData x i).length
def clC (x : Rh) (i : Nat) : Int := if x.cls = [] then (i : Int) else x.cls.getD (i % x.cls.length) 0
def clK (x : Rh) (c : Bool) (i : Nat) : Nat := if (pickI (clC x i) 3).toNat = 2 ∧ c = false then 1 else (pickI (clC x i) 3).toNat
def clF (x : Rh) (i : Nat) : Bool := decide (pickI (Int.tdiv (clC x i) 3) 2 = 1)
/-- In which part a node is, and in which one it was. -/
def hpt (x : Rh) (c : Bool) (i : Nat) : Nat := if clK x c i < 2 then 2 - clK x c i else 0
def opt (x : Rh) (c : Bool) (i : Nat) : Nat := if 0 < clK x c i ∧ c = true then (if clF x i then 4 else 3) else 0
/-- How many words of a part the first i nodes have. -/
def offs (z : Nat → Nat) (q : Nat → Nat) (p : Nat) : Nat → Nat
  | 0 => 0
  | i + 1 => offs z q p i + if q i = p then 1 + z i else 0
def hof (x : Rh) (c : Bool) (p i : Nat) : Nat := offs (slN x) (hpt x c) p i
def oof (x : Rh) (c : Bool) (p i : Nat) : Nat := offs (slN x) (opt x c) p i
def capN (x : Rh) (c : Bool) : Nat := max (hof x c 1 (nN x) + hof x c 2 (nN x) + hof x c 0 (nN x)) (oof x c 3 (nN x) + oof x c 4 (nN x)) + (pickI x.slack 12).toNat
def scanN (x : Rh) (c : Bool) : Nat := if c = true ∧ 0 < hof x c 1 (nN x) then (pickI x.scan (hof x c 1 (nN x))).toNat else hof x c 1 (nN x)
def layL (x : Rh) (c : Bool) : Lay := ⟨1 + x.base % (9223372036854775808 - 2 * capN x c), capN x c, pickI x.tt 2, hof x c 1 (nN x), hof x c 2 (nN x), oof x c 3 (nN x), oof x c 4 (nN x)⟩
def refP (L : Lay) (p a : Nat) : Int := if p = 0 then 0 else 2 * (firstI L p + a) + 1
def hrf (x : Rh) (c : Bool) (j : Nat) : Int := refP (layL x c) (hpt x c j) (hof x c (hpt x c j) j)
def orf (x : Rh) (c : Bool) (j : Nat) : Int := refP (layL x c) (opt x c j) (oof x c (opt x c j) j)
/-- A pointer's word, where it stands. -/
def slotV (x : Rh) (c : Bool) (p at_ : Nat) (tg : Int) (tw : Int) : Int :=
  if tg < 0 then 0 else if 2 < p then orf x c tg.toNat
  else if (p = 1 ∧ scanN x c ≤ at_) ∧ (hpt x c tg.toNat = 0 ∨ (0 < opt x c tg.toNat ∧ tw.tmod 2 = 0)) then orf x c tg.toNat else hrf x c tg.toNat
def wr (n : Int) : Int := IntKind.i64.wrap n
def slotsV (x : Rh) (c : Bool) (p a : Nat) (tw : Int) (k : Nat) : List Int → List Int
  | [] => []
  | t :: l => slotV x c p (a + 1 + k) t (wr (tw + k)) :: slotsV x c p a tw (k + 1) l
def hPc (x : Rh) (c : Bool) (i : Nat) : Pc := ⟨packV (slN x i) (gPtrs x i).length, slN x i, (gPtrs x i).length, false, slotsV x c (hpt x c i) (hof x c (hpt x c i) i) (wr (x.slack + i)) 0 (gPtrs x i) ++ gData x i⟩
def oPc (x : Rh) (c : Bool) (i : Nat) : Pc := if 0 < hpt x c i then ⟨hrf x c i, slN x i, (gPtrs x i).length, true, List.replicate (slN x i) 0⟩
  else ⟨packV (slN x i) (gPtrs x i).length, slN x i, (gPtrs x i).length, false, slotsV x c (opt x c i) (oof x c (opt x c i) i) 0 0 (gPtrs x i) ++ gData x i⟩
def pieces (q : Nat → Nat) (P : Nat → Pc) (p n : Nat) : List Pc := (List.range n).flatMap fun i => if q i = p then [P i] else []
def hpcs (x : Rh) (c : Bool) (p n : Nat) : List Pc := pieces (hpt x c) (hPc x c) p n
def opcs (x : Rh) (c : Bool) (p n : Nat) : List Pc := pieces (opt x c) (oPc x c) p n
def rootV (x : Rh) (c : Bool) (r : Int) : Int := if 0 ≤ r then hrf x c r.toNat else 0
/-- The heap of raw numbers. -/
def heapP (x : Rh) (c : Bool) : Hp := ⟨(layL x c).base, (layL x c).cap, (layL x c).tt, c, scanN x c, wordsOf (hpcs x c 1 (nN x)), wordsOf (hpcs x c 2 (nN x)), wordsOf (opcs x c 3 (nN x)), wordsOf (opcs x c 4 (nN x)), (gRoots x).map (rootV x c)⟩
def heapF (x : Rh) : Hp := if hof x true 1 (nN x) = 0 then heapP x false else heapP x true
structure RhOk (x : Rh) : Prop where
  base : U64 x.base
  data : ∀ n ∈ x.nodes, ∀ d ∈ n.2, U64 d
/-! ### sizes -/
theorem pieces_succ (q : Nat → Nat) (P : Nat → Pc) (p n : Nat) : pieces q P p (n + 1) = pieces q P p n ++ if q n = p then [P n] else [] := by
  unfold pieces
  rw [List.range_succ, List.flatMap_append]
  simp
theorem words_pieces {z : Nat → Nat} {q : Nat → Nat} {P : Nat → Pc} (h : ∀ i, (P i).s = z i ∧ (P i).ys.length = z i) (p : Nat) : ∀ n, (wordsOf (pieces q P p n)).length = offs z q p n
  | 0 => rfl
  | n + 1 => by
    rw [pieces_succ, wordsOf_app, List.length_append, words_pieces h p n]
    show _ = _ + _
    congr 1
    split
    · simp [wordsOf, (h n).2]; omega
    · rfl
theorem slotsV_len (x : Rh) (c : Bool) (p a : Nat) (tw : Int) : ∀ (l : List Int) (k : Nat), (slotsV x c p a tw k l).length = l.length
  | [], k => rfl
  | t :: l, k => by simp [slotsV, slotsV_len x c p a tw l (k + 1)]
theorem hPc_s (x : Rh) (c : Bool) (i : Nat) : (hPc x c i).s = slN x i ∧ (hPc x c i).ys.length = slN x i := by
  refine ⟨rfl, ?_⟩
  show (slotsV _ _ _ _ _ _ _ ++ gData x i).length = _
  rw [List.length_append, slotsV_len]
  rfl
theorem oPc_s (x : Rh) (c : Bool) (i : Nat) : (oPc x c i).s = slN x i ∧ (oPc x c i).ys.length = slN x i := by
  unfold oPc
  split
  · exact ⟨rfl, by simp⟩
  · refine ⟨rfl, ?_⟩
    show (slotsV _ _ _ _ _ _ _ ++ gData x i).length = _
    rw [List.length_append, slotsV_len]
    rfl
theorem hlen (x : Rh) (c : Bool) (p n : Nat) : (wordsOf (hpcs x c p n)).length = hof x c p n := words_pieces (hPc_s x c) p n
theorem olen (x : Rh) (c : Bool) (p n : Nat) : (wordsOf (opcs x c p n)).length = oof x c p n := words_pieces (oPc_s x c) p n
theorem heapP_lay (x : Rh) (c : Bool) : (heapP x c).lay = layL x c := by
  unfold Hp.lay heapP
  simp only [hlen, olen]
  rfl
theorem slN_le (x : Rh) (i : Nat) : slN x i ≤ 8 := by
  unfold slN gPtrs gData
  simp only [List.length_map, List.length_take]
  omega
theorem offs_mono (z q : Nat → Nat) (p : Nat) {i j : Nat} (h : i ≤ j) : offs z q p i ≤ offs z q p j := by
  induction j with
  | zero => obtain rfl : i = 0 := by omega
            exact Nat.le_refl _
  | succ j ih =>
    rcases Nat.lt_or_ge i (j + 1) with h1 | h1
    · exact Nat.le_trans (ih (by omega)) (Nat.le_add_right _ _)
    · obtain rfl : i = j + 1 := by omega
      exact Nat.le_refl _
theorem offs_lt {z q : Nat → Nat} {p i n : Nat} (h : i < n) (hq : q i = p) : offs z q p i + 1 + z i ≤ offs z q p n := by
  have : offs z q p (i + 1) ≤ offs z q p n := offs_mono z q p h
  have e : offs z q p (i + 1) = offs z q p i + (1 + z i) := by show _ + _ = _; rw [if_pos hq]
  omega
theorem offs_sum (z q : Nat → Nat) (hz : ∀ i, z i ≤ 8) (ps : List Nat) (hp : ps.Nodup) : ∀ n, (ps.map fun p => offs z q p n).sum ≤ 9 * n
  | 0 => by
    have : ∀ l : List Nat, (l.map fun p => offs z q p 0).sum = 0 := fun l => by
      induction l with
      | nil => rfl
      | cons a l ih => rw [List.map_cons, List.sum_cons, ih]; rfl
    rw [this]
    exact Nat.le_refl _
  | n + 1 => by
    have ih := offs_sum z q hz ps hp n
    have key : ∀ l : List Nat, l.Nodup → (l.map fun p => offs z q p (n + 1)).sum ≤ (l.map fun p => offs z q p n).sum + if q n ∈ l then 1 + z n else 0 := by
      intro l hl
      induction l with
      | nil => simp
      | cons a l ih =>
        have h1 := ih (List.nodup_cons.1 hl).2
        have h2 := (List.nodup_cons.1 hl).1
        have e : offs z q a (n + 1) = offs z q a n + if q n = a then 1 + z n else 0 := rfl
        simp only [List.map_cons, List.sum_cons, e]
        by_cases h3 : q n = a
        · have h4 : ¬ q n ∈ l := by rw [h3]; exact h2
          rw [if_neg h4] at h1
          rw [if_pos h3, if_pos (by rw [h3]; exact List.mem_cons_self)]
          omega
        · rw [if_neg h3]
          by_cases h4 : q n ∈ l
          · rw [if_pos h4] at h1
            rw [if_pos (List.mem_cons_of_mem _ h4)]
            omega
          · rw [if_neg h4] at h1
            omega
    have := key ps hp
    have hz1 := hz n
    split at this <;> omega
theorem nN_le (x : Rh) : nN x ≤ 10 := Nat.min_le_right _ _
theorem hof_le (x : Rh) (c : Bool) : hof x c 1 (nN x) + hof x c 2 (nN x) + hof x c 0 (nN x) ≤ 90 := by
  have := offs_sum (slN x) (hpt x c) (slN_le x) [1, 2, 0] (by decide) (nN x)
  have h1 := nN_le x
  simp only [List.map_cons, List.map_nil, List.sum_cons, List.sum_nil] at this
  unfold hof
  omega
theorem oof_le (x : Rh) (c : Bool) : oof x c 3 (nN x) + oof x c 4 (nN x) ≤ 90 := by
  have := offs_sum (slN x) (opt x c) (slN_le x) [3, 4] (by decide) (nN x)
  have h1 := nN_le x
  simp only [List.map_cons, List.map_nil, List.sum_cons, List.sum_nil] at this
  unfold oof
  omega
theorem cap_le (x : Rh) (c : Bool) : capN x c ≤ 101 := by
  have h1 := hof_le x c
  have h2 := oof_le x c
  have h3 := pickI_in x.slack (n := 12) (by decide)
  unfold capN
  omega
theorem lay_right {x : Rh} (hx : 0 ≤ x.base) (c : Bool) : layR (layL x c) = true := by
  have h1 := cap_le x c
  have h2 := pickI_in x.tt (n := 2) (by decide)
  have h3 : 0 ≤ x.base % (9223372036854775808 - 2 * (capN x c : Int)) ∧ x.base % (9223372036854775808 - 2 * (capN x c : Int)) < 9223372036854775808 - 2 * (capN x c : Int) := ⟨Int.emod_nonneg _ (by omega), Int.emod_lt_of_pos _ (by omega)⟩
  have h4 : hof x c 1 (nN x) + hof x c 2 (nN x) ≤ capN x c := by unfold capN; omega
  have h5 : oof x c 3 (nN x) + oof x c 4 (nN x) ≤ capN x c := by unfold capN; omega
  unfold layR layL
  simp only [decide_eq_true_eq]
  omega
theorem scan_le (x : Rh) (c : Bool) : scanN x c ≤ hof x c 1 (nN x) ∧ (c = true → 0 < hof x c 1 (nN x) → scanN x c < hof x c 1 (nN x)) ∧ (c = false → scanN x c = hof x c 1 (nN x)) := by
  unfold scanN
  split
  · rename_i h
    have := pickI_in x.scan (n := (hof x c 1 (nN x) : Int)) (by omega)
    refine ⟨by omega, fun _ _ => by omega, fun e => by rw [e] at h; cases h.1⟩
  · rename_i h
    exact ⟨Nat.le_refl _, fun h1 h2 => absurd ⟨h1, h2⟩ h, fun _ => rfl⟩
end Go.Proofs.YtpgjploaliefdaaGreat.rh
