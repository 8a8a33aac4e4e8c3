/- Layer 11, plain: what a look at a heap finds. No conditions. -/
import Derived.Test.YtpgjploaliefdaaHa
import Derived.Test.YtpgjploaliefdaaSe
namespace Go.Proofs.Ytpgjploaliefdaa.cp
open Go Go.Proofs.Ytpgjploaliefdaa.hp Go.Proofs.Ytpgjploaliefdaa.ob Go.Proofs.Ytpgjploaliefdaa.hd
set_option linter.unusedVariables false
set_option linter.unusedSimpArgs false
/-- A heap. -/
structure Hp where
  base : Int
  cap : Int
  tt : Int
  cyc : Bool
  scan : Int
  low : List Int
  high : List Int
  old : List Int
  far : List Int
  roots : List Int
def Hp.lay (h : Hp) : Lay := ⟨h.base, h.cap, h.tt, h.low.length, h.high.length, h.old.length, h.far.length⟩
def Hp.part (h : Hp) (p : Nat) : List Int := if p = 1 then h.low else if p = 2 then h.high else if p = 3 then h.old else h.far
/-- What was found. -/
structure Fnd where
  o1 : List Ob
  o2 : List Ob
  o3 : List Ob
  o4 : List Ob
  pf : Int → Option Int
  lf : Int → Option (Int × Int)
def Fnd.obs (s : Fnd) (p : Nat) : List Ob := if p = 1 then s.o1 else if p = 2 then s.o2 else if p = 3 then s.o3 else s.o4
def Fnd.nil : Fnd := ⟨[], [], [], [], fun _ => none, fun _ => none⟩
/-- A place's address, in a layout that is right. -/
def adr (L : Lay) (p at_ : Int) : Int := if 0 ≤ at_ ∧ at_ < lenI L p then firstI L p + at_ else 0
def pfS (f : Int → Option Int) (a q : Int) : Int → Option Int := fun x => if x = a then some q else f x
def lfS (f : Int → Option (Int × Int)) (a : Int) (q : Int × Int) : Int → Option (Int × Int) := fun x => if x = a then some q else f x
def noteP (L : Lay) (p : Int) : List Ob → (Int → Option Int) → Int → Option Int
  | [], f => f
  | o :: l, f => noteP L p l (pfS f (adr L p o.pos) p)
def noteL (L : Lay) : List Ob → (Int → Option (Int × Int)) → Int → Option (Int × Int)
  | [], f => f
  | o :: l, f => noteL L l (lfS f (adr L 1 o.pos) (o.s, o.p))
/-- A part's objects are taken up. -/
def Fnd.note (s : Fnd) (L : Lay) (p : Nat) (l : List Ob) : Fnd :=
  ⟨if p = 1 then l else s.o1, if p = 2 then l else s.o2, if p = 3 then l else s.o3, if p = 4 then l else s.o4, noteP L p l s.pf, if p = 1 then noteL L l s.lf else s.lf⟩
def shapesF (lf : Int → Option (Int × Int)) (zs : List Int) : Nat → Nat → List (Int × Int) → List (Int × Int)
  | 0, _, acc => acc
  | f + 1, at_, acc => if at_ < zs.length then
      (if adE (zs.getD at_ 0) = 0 then
        (match lf (adV (zs.getD at_ 0)) with
        | none => acc
        | some sp => shapesF lf zs f (at_ + 1 + sp.1.toNat) (acc ++ [sp]))
      else if unE (zs.getD at_ 0) = 0 then shapesF lf zs f (at_ + 1 + (unS (zs.getD at_ 0)).toNat) acc else acc)
    else acc
def shapesA (lf : Int → Option (Int × Int)) (zs : List Int) : List (Int × Int) := shapesF lf zs (zs.length + 1) 0 []
/-- A word is 0, or points to an object of the parts from a to b. -/
def pointsB (pf : Int → Option Int) (x a b : Int) : Bool := decide (x = 0) || (decide (adE x = 0) && (match pf (adV x) with | none => false | some q => decide (a ≤ q ∧ q ≤ b)))
/-- All pointers of objects that are not gone. -/
def ptrsB (P : Int → Int → Bool) (zs : List Int) (o : Ob) (n : Nat) : Bool := (List.range n).all fun i => P (o.pos + 1 + i) (zs.getD (o.pos.toNat + 1 + i) 0)
def pointersB (P : Int → Int → Bool) (zs : List Int) (os : List Ob) : Bool := os.all fun o => o.g || ptrsB P zs o o.p.toNat
def waitN (os : List Ob) : Int := os.foldl (fun n o => if o.g then n else n + (1 + o.s)) 0
def walkR (h : Hp) (p : Nat) (s : Fnd) : Res := if p ≤ 2 then newF (h.part p) else oldF (h.part p) (shapesA s.lf (h.part p))
def walkS (h : Hp) (p : Nat) (s : Fnd) : Option Fnd :=
  match walkR h p s with
  | .ok l _ => some (s.note h.lay p l)
  | .err _ _ => none
def runW (h : Hp) : Nat → Option Fnd
  | 0 => some Fnd.nil
  | k + 1 => (runW h k).bind (walkS h (k + 1))
theorem runW_none {h : Hp} {k : Nat} (e : runW h k = none) : ∀ {n : Nat}, k ≤ n → runW h n = none
  | 0, hn => by obtain rfl : k = 0 := by omega
                exact e
  | n + 1, hn => by
    rcases Nat.lt_or_ge n k with h1 | h1
    · obtain rfl : k = n + 1 := by omega
      exact e
    · show (runW h n).bind _ = none
      rw [runW_none e h1]; rfl
/-- Whom the objects that are gone were copied to. -/
def copyGo (pf : Int → Option Int) : List Ob → (Int → Bool) → Nat → Option Nat
  | [], t, n => some n
  | o :: l, t, n => if o.g then (if (pf o.t).getD 0 = 1 ∧ t o.t = false then copyGo pf l (fun x => decide (x = o.t) || t x) (n + 1) else none) else copyGo pf l t n
def boundedB (h : Hp) : Bool := layR h.lay && decide (h.roots.length ≤ 16 ∧ 0 ≤ h.scan ∧ h.scan ≤ h.low.length)
def restingB (h : Hp) : Bool := if h.cyc then decide (h.scan < h.low.length) else decide (h.old.length = 0 ∧ h.far.length = 0 ∧ h.scan = h.low.length)
def copiedB (h : Hp) (s : Fnd) : Bool := !h.cyc || decide (copyGo s.pf (s.o3 ++ s.o4) (fun _ => false) 0 = some s.o1.length)
def settledB (h : Hp) (s : Fnd) : Bool := h.roots.all (fun x => pointsB s.pf x 1 2) && (pointersB (fun _ x => pointsB s.pf x 1 2) h.high s.o2 && pointersB (fun at_ x => decide (h.scan ≤ at_) || pointsB s.pf x 1 2) h.low s.o1)
def unscannedB (h : Hp) (s : Fnd) : Bool := pointersB (fun at_ x => decide (at_ < h.scan) || pointsB s.pf x 1 4) h.low s.o1
def leftB (h : Hp) (s : Fnd) : Bool := pointersB (fun _ x => pointsB s.pf x 3 4) h.old s.o3 && pointersB (fun _ x => pointsB s.pf x 3 4) h.far s.o4
def roomyB (h : Hp) (s : Fnd) : Bool := decide (h.low.length + h.high.length + waitN (s.o3 ++ s.o4) ≤ h.cap)
/-- A rule, in order: what is found, if it holds. -/
def ruleF (h : Hp) (i : Nat) (s : Fnd) : Option Fnd :=
  if i = 0 then (if boundedB h then some s else none) else if i = 1 then (if restingB h then some s else none) else if i = 2 then runW h 4 else if i = 3 then (if copiedB h s then some s else none)
  else if i = 4 then (if settledB h s then some s else none) else if i = 5 then (if unscannedB h s then some s else none) else if i = 6 then (if leftB h s then some s else none) else (if roomyB h s then some s else none)
/-- What is found once k rules hold. -/
def looks (h : Hp) : Nat → Option Fnd
  | 0 => some Fnd.nil
  | k + 1 => (looks h k).bind (ruleF h k)
theorem looks_none {h : Hp} {k : Nat} (e : looks h k = none) : ∀ {n : Nat}, k ≤ n → looks h n = none
  | 0, hn => by obtain rfl : k = 0 := by omega
                exact e
  | n + 1, hn => by
    rcases Nat.lt_or_ge n k with h1 | h1
    · obtain rfl : k = n + 1 := by omega
      exact e
    · show (looks h n).bind _ = _
      rw [looks_none e h1]; rfl
theorem looks_some {h : Hp} {k : Nat} {s : Fnd} (e : looks h (k + 1) = some s) : ∃ s0, looks h k = some s0 ∧ ruleF h k s0 = some s := by
  have e : (looks h k).bind (ruleF h k) = some s := e
  rcases hk : looks h k with _ | s0
  · rw [hk] at e; cases e
  · rw [hk] at e
    exact ⟨s0, rfl, e⟩
def lookF (h : Hp) : Option Fnd := looks h 8
/-- An object is among words. -/
def FitB (n : Nat) (o : Ob) : Prop := 0 ≤ o.pos ∧ 0 ≤ o.s ∧ o.s ≤ 255 ∧ 0 ≤ o.p ∧ o.p ≤ o.s ∧ o.pos + 1 + o.s ≤ n
theorem walkF_fit {bg : Nat → Nat → Int → Option (Ob × Nat)} {zs : List Int} {len : Nat} (hbg : ∀ k pos x o k', bg k pos x = some (o, k') → o.pos = pos ∧ 0 ≤ o.s ∧ o.s ≤ 255 ∧ 0 ≤ o.p ∧ o.p ≤ o.s) :
    ∀ {f k pos : Nat} {acc l : List Ob} {k2 : Nat}, (∀ o ∈ acc, FitB len o) → acc.length ≤ pos → walkF bg zs len f k pos acc = .ok l k2 → (∀ o ∈ l, FitB len o) ∧ (pos ≤ len → l.length ≤ len)
  | 0, k, pos, acc, l, k2, ha, hn, h => by cases h
  | f + 1, k, pos, acc, l, k2, ha, hn, h => by
    by_cases hp : pos < len
    · rw [walkF_step hp] at h
      split at h
      · cases h
      · rename_i o k' hb
        obtain ⟨h1, h2, h3, h4, h5⟩ := hbg _ _ _ _ _ hb
        split at h
        · cases h
        · rename_i hfit
          split at h
          · have := walkF_fit hbg (acc := acc ++ [o]) (fun o' ho' => by
              rcases List.mem_append.1 ho' with h6 | h6
              · exact ha _ h6
              · simp at h6; subst h6
                exact ⟨by omega, h2, h3, h4, h5, by omega⟩) (by simp; omega) h
            exact ⟨this.1, fun _ => this.2 (by omega)⟩
          · cases h
    · rw [walkF_end hp] at h
      cases h
      exact ⟨ha, fun h => by omega⟩
theorem bgN_fit (k pos : Nat) (x : Int) (o : Ob) (k' : Nat) (h : bgN k pos x = some (o, k')) : o.pos = pos ∧ 0 ≤ o.s ∧ o.s ≤ 255 ∧ 0 ≤ o.p ∧ o.p ≤ o.s := by
  unfold bgN at h
  split at h
  · rename_i hu
    cases h
    have h2 := hu
    simp only [unOk, Bool.and_eq_true] at h2
    obtain ⟨h3, h4, h5, h6⟩ := rightB_t h2.2
    refine ⟨rfl, ?_⟩
    simp only [unS, unP, hu, if_true]
    exact ⟨h3, h4, h5, h6⟩
  · cases h
theorem bgO_fit (n : Nat) (ss : List (Int × Int)) (k pos : Nat) (x : Int) (o : Ob) (k' : Nat) (h : bgO n ss k pos x = some (o, k')) : o.pos = pos ∧ 0 ≤ o.s ∧ o.s ≤ 255 ∧ 0 ≤ o.p ∧ o.p ≤ o.s := by
  unfold bgO at h
  split at h
  · split at h
    · rename_i hu
      cases h
      obtain ⟨h3, h4, h5, h6⟩ := rightB_t hu.2
      exact ⟨rfl, h3, h4, h5, h6⟩
    · cases h
  · exact bgN_fit _ _ _ _ _ h
theorem newF_fit {zs : List Int} {l : List Ob} {k : Nat} (h : newF zs = .ok l k) : (∀ o ∈ l, FitB zs.length o) ∧ l.length ≤ zs.length := by
  have := walkF_fit bgN_fit (acc := []) (fun o ho => by simp at ho) (Nat.zero_le _) h
  exact ⟨this.1, this.2 (Nat.zero_le _)⟩
theorem oldRes_ok {n k j : Nat} {a l : List Ob} (h : oldRes n (.ok a k) = .ok l j) : l = a := by
  by_cases hk : k < n
  · rw [show oldRes n (.ok a k) = .err 3 k from by simp [oldRes, hk]] at h; cases h
  · rw [show oldRes n (.ok a k) = .ok a k from by simp [oldRes, hk]] at h; cases h; rfl
theorem oldF_fit {zs : List Int} {ss : List (Int × Int)} {l : List Ob} {k : Nat} (h : oldF zs ss = .ok l k) : (∀ o ∈ l, FitB zs.length o) ∧ l.length ≤ zs.length := by
  unfold oldF at h
  generalize hw : walkF (bgO ss.length ss) zs zs.length (zs.length + 1) 0 0 [] = r at h
  rcases r with ⟨l', k'⟩ | ⟨c, k'⟩
  · obtain rfl := oldRes_ok h
    have := walkF_fit (bgO_fit _ _) (acc := []) (fun o ho => by simp at ho) (Nat.zero_le _) hw
    exact ⟨this.1, this.2 (Nat.zero_le _)⟩
  · cases h
theorem walkR_fit {h : Hp} {p : Nat} {s : Fnd} {l : List Ob} {k : Nat} (e : walkR h p s = .ok l k) : (∀ o ∈ l, FitB (h.part p).length o) ∧ l.length ≤ (h.part p).length := by
  unfold walkR at e
  split at e
  · exact newF_fit e
  · exact oldF_fit e
theorem noteP_rg {L : Lay} {p : Int} : ∀ {l : List Ob} {f : Int → Option Int} {a q : Int}, noteP L p l f a = some q → q = p ∨ f a = some q
  | [], f, a, q, h => .inr h
  | o :: l, f, a, q, h => by
    rcases noteP_rg (l := l) h with h1 | h1
    · exact .inl h1
    · unfold pfS at h1
      split at h1
      · cases h1; exact .inl rfl
      · exact .inr h1
theorem noteL_rg {L : Lay} {n : Nat} : ∀ {l : List Ob} {f : Int → Option (Int × Int)} {a : Int} {q : Int × Int}, (∀ o ∈ l, FitB n o) → (∀ a q, f a = some q → 0 ≤ q.1 ∧ q.1 ≤ 255) → noteL L l f a = some q → 0 ≤ q.1 ∧ q.1 ≤ 255
  | [], f, a, q, hl, hf, h => hf _ _ h
  | o :: l, f, a, q, hl, hf, h => by
    refine noteL_rg (l := l) (fun o' h' => hl _ (List.mem_cons_of_mem _ h')) (fun a' q' h' => ?_) h
    unfold lfS at h'
    split at h'
    · cases h'
      have := hl o (by simp)
      exact ⟨this.2.1, this.2.2.1⟩
    · exact hf _ _ h'
end Go.Proofs.Ytpgjploaliefdaa.cp
