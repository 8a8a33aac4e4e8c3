/- Layer 11, plain: what a look at a heap finds. No conditions. -/
import Derived.Test.YtpgjploaliefdaaGreatG04
import Derived.Test.YtpgjploaliefdaaGreatSe
namespace Go.Proofs.YtpgjploaliefdaaGreat.cp
open Go Go.Proofs.YtpgjploaliefdaaGreat.hp Go.Proofs.YtpgjploaliefdaaGreat.ob Go.Proofs.YtpgjploaliefdaaGreat.hd
set_option linter.unusedVariables false
set_option linter.unusedSimpArgs false
/-- A heap. -/
structure Hp where
  base : Int
  cap : Int
  tt : Int
  cyc : Bool
  scan : Int
  low : List Int
  high : List Int
  old : List Int
  far : List Int
  roots : List Int
def Hp.lay (h : Hp) : Lay := ⟨h.base, h.cap, h.tt, h.low.length, h.high.length, h.old.length, h.far.length⟩
def Hp.part (h : Hp) (p : Nat) : List Int := if p = 1 then h.low else if p = 2 then h.high else if p = 3 then h.old else h.far
/-- What was found. -/
structure Fnd where
  o1 : List Ob
  o2 : List Ob
  o3 : List Ob
  o4 : List Ob
  pf : Int → Option Int
  lf : Int → Option (Int × Int)
def Fnd.obs (s : Fnd) (p : Nat) : List Ob := if p = 1 then s.o1 else if p = 2 then s.o2 else if p = 3 then s.o3 else s.o4
def Fnd.nil : Fnd := ⟨[], [], [], [], fun _ => none, fun _ => none⟩
/-- A place's address, in a layout that is right. -/
def adr (L : Lay) (p at_ : Int) : Int := if 0 ≤ at_ ∧ at_ < lenI L p then firstI L p + at_ else 0
def pfS (f : Int → Option Int) (a q : Int) : Int → Option Int := fun x => if x = a then some q else f x
def lfS (f : Int → Option (Int × Int)) (a : Int) (q : Int × Int) : Int → Option (Int × Int) := fun x => if x = a then some q else f x
def noteP (L : Lay) (p : Int) : List Ob → (Int → Option Int) → Int → Option Int
  | [], f => f
  | o :: l, f => noteP L p l (pfS f (adr L p o.pos) p)
def noteL (L : Lay) : List Ob → (Int → Option (Int × Int)) → Int → Option (Int × Int)
  | [], f => f
  | o :: l, f => noteL L l (lfS f (adr L 1 o.pos) (o.s, o.p))
/-- A part's objects are taken up. -/
def Fnd.note (s : Fnd) (L : Lay) (p : Nat) (l : List Ob) : Fnd :=
  ⟨if p = 1 then l else s.o1, if p = 2 then l else s.o2, if p = 3 then l else s.o3, if p = 4 then l else s.o4, noteP L p l s.pf, if p = 1 then noteL L l s.lf else s.lf⟩
def shapesF (lf : Int → Option (Int × Int)) (zs : List Int) : Nat → Nat → List (Int × Int) → List (Int × Int)
  | 0, _, acc => acc
  | f + 1, at_, acc => if at_ < zs.length then
      (if adE (zs.getD at_ 0) = 0 then
        (match lf (adV (zs.getD at_ 0)) with
        | none => acc
        | some sp => shapesF lf zs f (at_ + 1 + sp.1.toNat) (acc ++ [sp]))
      else if unE (zs.getD at_ 0) = 0 then shapesF lf zs f (at_ + 1 + (unS (zs.getD at_ 0)).toNat) acc else acc)
    else acc
def shapesA (lf : Int → Option (Int × Int)) (zs : List Int) : List (Int × Int) := shapesF lf zs (zs.length + 1) 0 []
/-- A word is 0, or points to an object of the parts from a to b. -/
def pointsB (pf : Int → Option Int) (x a b : Int) : Bool := decide (x = 0) || (decide (adE x = 0) && (match pf (adV x) with | none => false | some q => decide (a ≤ q ∧ q ≤ b)))
/-- All pointers of objects that are not gone. -/
def ptrsB (P : Int → Int → Bool) (zs : List Int) (o : Ob) (n : Nat) : Bool := (List.range n).all fun i => P (o.pos + 1 + i) (zs.getD (o.pos.toNat + 1 + i) 0)
def pointersB (P : Int → Int → Bool) (zs : List Int) (os : List Ob) : Bool := os.all fun o => o.g || ptrsB P zs o o.p.toNat
def waitN (os : List Ob) : Int := os.foldl (fun n o => if o.g then n else n + (1 + o.s)) 0
def walkR (h : Hp) (p : Nat) (s : Fnd) : Res := if p ≤ 2 then newF (h.part p) else oldF (h.part p) (shapesA s.lf (h.part p))
def walkS (h : Hp) (p : Nat) (s : Fnd) : Option Fnd :=
  match walkR h p s with
  | .ok l _ => some (s.note h.lay p l)
  | .err _ _ => none
def runW (h : Hp) : Nat → Option Fnd
  | 0 => some Fnd.nil
  | k + 1 => (runW h k).bind (walkS h (k + 1))
theorem runW_none {h : Hp} {k : Nat} (e : runW h k = none) : ∀ {n : Nat}, k ≤ n → runW h n = none
  | 0, hn => by obtain rfl : k = 0 := by omega
                exact e
  | n + 1, hn => by
    rcases Nat.lt_or_ge n k with h1 | h1
    · obtain rfl : k = n + 1 := by omega
      exact e
    · show (runW h n).bind _ = none
      rw [runW_none e h1]; rfl
/-- Whom the objects that are gone were copied to. -/
def copyGo (pf : Int → Option Int) : List Ob → (Int → Bool) → Nat → Option Nat
  | [], t, n => some n
  | o :: l, t, n => if o.g then (if (pf o.t).getD 0 = 1 ∧ t o.t = false then copyGo pf l (fun x => decide (x = o.t) || t x) (n + 1) else none) else copyGo pf l t n
def boundedB (h : Hp) : Bool := layR h.lay && decide (h.roots.length ≤ 16 ∧ 0 ≤ h.scan ∧ h.scan ≤ h.low.length)
def restingB (h : Hp) : Bool := if h.cyc then decide (h.scan < h.low.length) else decide (h.old.length = 0 ∧ h.far.length = 0 ∧ h.scan = h.low.length)
def copiedB (h : Hp) (s : Fnd) : Bool := !h.cyc || decide (copyGo s.pf (s.o3 ++ s.o4) (fun _ => false) 0 = some s.o1.length)
def settledB (h : Hp) (s : Fnd) : Bool := h.roots.all (fun x => pointsB s.pf x 1 2) && (pointersB (fun _ x => pointsB s.pf x 1 2) h.high s.o2 && pointersB (fun at_ x => decide (h.scan ≤ at_) || pointsB s.pf x 1 2) h.low s.o1)
def unscannedB (h : Hp) (s : Fnd) : Bool := pointersB (fun at_ x => decide (at_ < h.scan) || pointsB s.pf x 1 4) h.low s.o1
def leftB (h : Hp) (s : Fnd) : Bool := pointersB (fun _ x => pointsB s.pf x 3 4) h.old s.o3 && pointersB (fun _ x => pointsB s.pf x 3 4) h.far s.o4
def roomyB (h : Hp) (s : Fnd) : Bool := decide (h.low.length + h.high.length + waitN (s.o3 ++ s.o4) ≤ h.cap)
/-- A rule, in order: what is found, if it holds. -/
def ruleF (h : Hp) (i : Nat) (s : Fnd) : Option Fnd :=
  if i = 0 then (if boundedB h then some s else none) else if i = 1 then (if restingB h then some s else none) else if i = 2 then runW h 4 else if i = 3 then (if copiedB h s then some s else none)
  else if i = 4 then (if settledB h s then some s else none) else if i = 5 then (if unscannedB h s then some s else none) else if i = 6 then (if leftB h s then some s else none) else (if roomyB h s then some s else none)
/-- What is found once k rules hold. -/
def looks (h : Hp) : Nat → Option Fnd
  | 0 => some Fnd.nil
  | k + 1 => (looks h k).bind (ruleF h k)
theorem looks_none {h : Hp} {k : Nat} (e : looks h k = none) : ∀ {n : Nat}, k ≤ n → looks h n = none
  | 0, hn => by obtain rfl : k = 0 := by omega
                exact e
  | n + 1, hn => by
    rcases Nat.lt_or_ge n k with h1 | h1
    · obtain rfl : k = n + 1 := by omega
      exact e
    · show (looks h n).bind _ = _
      rw [looks_none e h1]; rfl
theorem looks_some {h : Hp} {k : Nat} {s : Fnd} (e : looks h (k + 1) = some s) : ∃ s0, looks h k = some s0 ∧ ruleF h k s0 = some s := by
  have e : (looks h k).bind (ruleF h k) = some s := e
  rcases hk : looks h k with _ | s0
  · rw [hk] at e; cases e
  · rw [hk] at e
    exact ⟨s0, rfl, e⟩
def lookF (h : Hp) : Option Fnd := looks h 8
/-- An object is among words. -/
def FitB (n : Nat) (o : Ob) : Prop := 0 ≤ o.pos ∧ 0 ≤ o.s ∧ o.s ≤ 255 ∧ 0 ≤ o.p ∧ o.p ≤ o.s ∧ o.pos + 1 + o.s ≤ n
theorem walkF_fit {bg : Nat → Nat → Int → Option (Ob × Nat)} {zs : List Int} {len : Nat} (hbg : ∀ k pos x o k', bg k pos x = some (o, k') → o.pos = pos ∧ 0 ≤ o.s ∧ o.s ≤ 255 ∧ 0 ≤ o.p ∧ o.p ≤ o.s) :
    ∀ {f k pos : Nat} {acc l : List Ob} {k2 : Nat}, (∀ o ∈ acc, FitB len o) → acc.length ≤ pos → walkF bg zs len f k pos acc = .ok l k2 → (∀ o ∈ l, FitB len o) ∧ (pos ≤ len → l.length ≤ len)
  | 0, k, pos, acc, l, k2, ha, hn, h => by cases h
  | f + 1, k, pos, acc, l, k2, ha, hn, h => by
    by_cases hp : pos < len
    · rw [walkF_step hp] at h
      split at h
      · cases h
      · rename_i o k' hb
        obtain ⟨h1, h2, h3, h4, h5⟩ := hbg _ _ _ _ _ hb
        split at h
        · cases h
        · rename_i hfit
          split at h
          · have := walkF_fit hbg (acc := acc ++ [o]) (fun o' ho' => by
              rcases List.mem_append.1 ho' with h6 | h6
              · exact ha _ h6
              · simp at h6; subst h6
                exact ⟨by omega, h2, h3, h4, h5, by omega⟩) (by simp; omega) h
            exact ⟨this.1, fun _ => this.2 (by omega)⟩
          · cases h
    · rw [walkF_end hp] at h
      cases h
      exact ⟨ha, fun h => by omega⟩
theorem bgN_fit (k pos : Nat) (x : Int) (o : Ob) (k' : Nat) (h : bgN k pos x = some (o, k')) : o.pos = pos ∧ 0 ≤ o.s ∧ o.s ≤ 255 ∧ 0 ≤ o.p ∧ o.p ≤ o.s := by
  unfold bgN at h
  split at h
  · rename_i hu
    cases h
    have h2 := hu
    simp only [unOk, Bool.and_eq_true] at h2
    obtain ⟨h3, h4, h5, h6⟩ := rightB_t h2.2
    refine ⟨rfl, ?_⟩
    simp only [unS, unP, hu, if_true]
    exact ⟨h3, h4, h5, h6⟩
  · cases h
theorem bgO_fit (n : Nat) (ss : List (Int × Int)) (k pos : Nat) (x : Int) (o : Ob) (k' : Nat) (h : bgO n ss k pos x = some (o, k')) : o.pos = pos ∧ 0 ≤ o.s ∧ o.s ≤ 255 ∧ 0 ≤ o.p ∧ o.p ≤ o.s := by
  unfold bgO at h
  split at h
  · split at h
    · rename_i hu
      cases h
      obtain ⟨h3, h4, h5, h6⟩ := rightB_t hu.2
      exact ⟨rfl, h3, h4, h5, h6⟩
    · cases h
  · exact bgN_fit _ _ _ _ _ h
theorem newF_fit {zs : List Int} {l : List Ob} {k : Nat} (h : newF zs = .ok l k) : (∀ o ∈ l, FitB zs.length o) ∧ l.length ≤ zs.length := by
  have := walkF_fit bgN_fit (acc := []) (fun o ho => by simp at ho) (Nat.zero_le _) h
  exact ⟨this.1, this.2 (Nat.zero_le _)⟩
theorem oldRes_ok {n k j : Nat} {a l : List Ob} (h : oldRes n (.ok a k) = .ok l j) : l = a := by
  by_cases hk : k < n
  · rw [show oldRes n (.ok a k) = .err 3 k from by simp [oldRes, hk]] at h; cases h
  · rw [show oldRes n (.ok a k) = .ok a k from by simp [oldRes, hk]] at h; cases h; rfl
theorem oldF_fit {zs : List Int} {ss : List (Int × Int)} {l : List Ob} {k : Nat} (h : oldF zs ss = .ok l k) : (∀ o ∈ l, FitB zs.length o) ∧ l.length ≤ zs.length := by
  unfold oldF at h
  generalize hw : walkF (bgO ss.length ss) zs zs.length (zs.length + 1) 0 0 [] = r at h
  rcases r with ⟨l', k'⟩ | ⟨c, k'⟩
  · obtain rfl := oldRes_ok h
    have := walkF_fit (bgO_fit _ _) (acc := []) (fun o ho => by simp at ho) (Nat.zero_le _) hw
    exact ⟨this.1, this.2 (Nat.zero_le _)⟩
  · cases h
theorem walkR_fit {h : Hp} {p : Nat} {s : Fnd} {l : List Ob} {k : Nat} (e : walkR h p s = .ok l k) : (∀ o ∈ l, FitB (h.part p).length o) ∧ l.length ≤ (h.part p).length := by
  unfold walkR at e
  split at e
  · exact newF_fit e
  · exact oldF_fit e
theorem noteP_rg {L : Lay} {p : Int} : ∀ {l : List Ob} {f : Int → Option Int} {a q : Int}, noteP L p l f a = some q → q = p ∨ f a = some q
  | [], f, a, q, h => .inr h
  | o :: l, f, a, q, h => by
    rcases noteP_rg (l := l) h with h1 | h1
    · exact .inl h1
    · unfold pfS at h1
      split at h1
      · cases h1; exact .inl rfl
      · exact .inr h1
theorem noteL_rg {L : Lay} {n : Nat} : ∀ {l : List Ob} {f : Int → Option (Int × Int)} {a : Int} {q : Int × Int}, (∀ o ∈ l, FitB n o) → (∀ a q, f a = some q → 0 ≤ q.1 ∧ q.1 ≤ 255) → noteL L l f a = some q → 0 ≤ q.1 ∧ q.1 ≤ 255
  | [], f, a, q, hl, hf, h => hf _ _ h
  | o :: l, f, a, q, hl, hf, h => by
    refine noteL_rg (l := l) (fun o' h' => hl _ (List.mem_cons_of_mem _ h')) (fun a' q' h' => ?_) h
    unfold lfS at h'
    split at h'
    · cases h'
      have := hl o (by simp)
      exact ⟨this.2.1, this.2.2.1⟩
    · exact hf _ _ h'
end Go.Proofs.YtpgjploaliefdaaGreat.cp

namespace Go.Proofs.YtpgjploaliefdaaGreat.cp
open Go Go.Proofs.YtpgjploaliefdaaGreat.hp Go.Proofs.YtpgjploaliefdaaGreat.ob Go.Proofs.YtpgjploaliefdaaGreat.hd
set_option linter.unusedVariables false
set_option linter.unusedSimpArgs false
/-- Objects that stand one behind the other, from a place on, up to the end. -/
def ChainO (len : Nat) : Nat → List Ob → Prop
  | pos, [] => pos = len
  | pos, o :: l => o.pos = pos ∧ (0 ≤ o.s ∧ o.s ≤ 255 ∧ 0 ≤ o.p ∧ o.p ≤ o.s) ∧ pos + 1 + o.s.toNat ≤ len ∧ ChainO len (pos + 1 + o.s.toNat) l
theorem walkF_chain {bg : Nat → Nat → Int → Option (Ob × Nat)} {zs : List Int} {len : Nat} (hbg : ∀ k pos x o k', bg k pos x = some (o, k') → o.pos = pos ∧ 0 ≤ o.s ∧ o.s ≤ 255 ∧ 0 ≤ o.p ∧ o.p ≤ o.s) :
    ∀ {f k pos : Nat} {acc l : List Ob} {k2 : Nat}, pos ≤ len → walkF bg zs len f k pos acc = .ok l k2 → ∃ l', l = acc ++ l' ∧ ChainO len pos l'
  | 0, k, pos, acc, l, k2, hn, h => by cases h
  | f + 1, k, pos, acc, l, k2, hn, h => by
    by_cases hp : pos < len
    · rw [walkF_step hp] at h
      split at h
      · cases h
      · rename_i o k' hb
        obtain ⟨h1, h2, h3, h4, h5⟩ := hbg _ _ _ _ _ hb
        split at h
        · cases h
        · rename_i hfit
          split at h
          · obtain ⟨l', rfl, hc⟩ := walkF_chain hbg (acc := acc ++ [o]) (by omega) h
            exact ⟨o :: l', by simp, h1, ⟨h2, h3, h4, h5⟩, by omega, hc⟩
          · cases h
    · rw [walkF_end hp] at h
      cases h
      exact ⟨[], by simp, (by show pos = len; omega)⟩
theorem newF_chain {zs : List Int} {l : List Ob} {k : Nat} (h : newF zs = .ok l k) : ChainO zs.length 0 l := by
  obtain ⟨l', rfl, hc⟩ := walkF_chain bgN_fit (Nat.zero_le _) h
  exact hc
theorem oldF_chain {zs : List Int} {ss : List (Int × Int)} {l : List Ob} {k : Nat} (h : oldF zs ss = .ok l k) : ChainO zs.length 0 l := by
  unfold oldF at h
  generalize hw : walkF (bgO ss.length ss) zs zs.length (zs.length + 1) 0 0 [] = r at h
  rcases r with ⟨l', k'⟩ | ⟨c, k'⟩
  · obtain rfl := oldRes_ok h
    obtain ⟨l', rfl, hc⟩ := walkF_chain (bgO_fit _ _) (Nat.zero_le _) hw
    exact hc
  · cases h
theorem walkR_chain {h : Hp} {p : Nat} {s : Fnd} {l : List Ob} {k : Nat} (e : walkR h p s = .ok l k) : ChainO (h.part p).length 0 l := by
  unfold walkR at e
  split at e
  · exact newF_chain e
  · exact oldF_chain e
theorem ChainO.from {len : Nat} : ∀ {pos : Nat} {l : List Ob}, ChainO len pos l → ∀ o ∈ l, (pos : Int) ≤ o.pos ∧ FitB len o
  | pos, [], h, o, ho => by simp at ho
  | pos, a :: l, ⟨h1, h2, h3, h4⟩, o, ho => by
    rcases List.mem_cons.1 ho with rfl | ho
    · exact ⟨by omega, by omega, h2.1, h2.2.1, h2.2.2.1, h2.2.2.2, by omega⟩
    · have := h4.from o ho
      exact ⟨by omega, this.2⟩
theorem ChainO.apart {len : Nat} : ∀ {pos : Nat} {l : List Ob}, ChainO len pos l → ∀ a ∈ l, ∀ b ∈ l, a.pos = b.pos → a = b
  | pos, [], h, a, ha, b, hb, e => by simp at ha
  | pos, c :: l, ⟨h1, h2, h3, h4⟩, a, ha, b, hb, e => by
    rcases List.mem_cons.1 ha with e1 | ha1 <;> rcases List.mem_cons.1 hb with e2 | hb1
    · rw [e1, e2]
    · have := (h4.from b hb1).1
      rw [e1] at e
      omega
    · have := (h4.from a ha1).1
      rw [e2] at e
      omega
    · exact h4.apart a ha1 b hb1 e
theorem ChainO.nodup {len : Nat} : ∀ {pos : Nat} {l : List Ob}, ChainO len pos l → l.Pairwise fun a b => a.pos < b.pos
  | pos, [], h => List.Pairwise.nil
  | pos, c :: l, ⟨h1, h2, h3, h4⟩ => by
    refine List.pairwise_cons.2 ⟨fun b hb => ?_, h4.nodup⟩
    have := (h4.from b hb).1
    omega
open Classical in
theorem noteP_val {L : Lay} {p : Int} : ∀ {l : List Ob} {f : Int → Option Int} {a : Int}, noteP L p l f a = if ∃ o ∈ l, adr L p o.pos = a then some p else f a
  | [], f, a => by simp [noteP]
  | o :: l, f, a => by
    show noteP L p l (pfS f (adr L p o.pos) p) a = _
    rw [noteP_val]
    by_cases h1 : ∃ o ∈ l, adr L p o.pos = a
    · obtain ⟨o', ho', e⟩ := h1
      rw [if_pos ⟨o', ho', e⟩, if_pos ⟨o', List.mem_cons_of_mem _ ho', e⟩]
    · rw [if_neg h1]
      unfold pfS
      by_cases h2 : a = adr L p o.pos
      · rw [if_pos h2, if_pos ⟨o, by simp, h2.symm⟩]
      · rw [if_neg h2, if_neg]
        rintro ⟨o', ho', e⟩
        rcases List.mem_cons.1 ho' with rfl | ho'
        · exact h2 e.symm
        · exact h1 ⟨o', ho', e⟩
theorem noteL_none {L : Lay} : ∀ {l : List Ob} {f : Int → Option (Int × Int)} {a : Int}, (¬ ∃ o ∈ l, adr L 1 o.pos = a) → noteL L l f a = f a
  | [], f, a, h => rfl
  | o :: l, f, a, h => by
    show noteL L l (lfS f (adr L 1 o.pos) (o.s, o.p)) a = _
    rw [noteL_none (fun ⟨o', ho', e⟩ => h ⟨o', List.mem_cons_of_mem _ ho', e⟩)]
    unfold lfS
    rw [if_neg (fun e => h ⟨o, by simp, e.symm⟩)]
theorem noteL_at {L : Lay} : ∀ {l : List Ob} {f : Int → Option (Int × Int)} {o : Ob}, (∀ a ∈ l, ∀ b ∈ l, adr L 1 a.pos = adr L 1 b.pos → a = b) → l.Nodup → o ∈ l → noteL L l f (adr L 1 o.pos) = some (o.s, o.p)
  | [], f, o, h, hn, ho => by simp at ho
  | c :: l, f, o, h, hn, ho => by
    show noteL L l (lfS f (adr L 1 c.pos) (c.s, c.p)) (adr L 1 o.pos) = _
    rcases List.mem_cons.1 ho with rfl | ho
    · rw [noteL_none]
      · unfold lfS
        rw [if_pos rfl]
      · rintro ⟨o', ho', e⟩
        have := h o' (List.mem_cons_of_mem _ ho') o (by simp) e
        subst this
        exact (List.nodup_cons.1 hn).1 ho'
    · exact noteL_at (fun a ha b hb => h a (List.mem_cons_of_mem _ ha) b (List.mem_cons_of_mem _ hb)) (List.nodup_cons.1 hn).2 ho
theorem adr_in {L : Lay} {p x : Int} (h : 0 ≤ x ∧ x < lenI L p) : adr L p x = firstI L p + x := if_pos h
theorem apart {L : Lay} (hr : layR L = true) {p q x y : Int} (hp : 1 ≤ p ∧ p ≤ 4) (hq : 1 ≤ q ∧ q ≤ 4) (hx : 0 ≤ x ∧ x < lenI L p) (hy : 0 ≤ y ∧ y < lenI L q) (e : firstI L p + x = firstI L q + y) : p = q ∧ x = y := by
  obtain ⟨r1, r2, r3, r4, r5, r6, r7⟩ := layR_t hr
  unfold firstI lenI at *
  rcases (show p = 1 ∨ p = 2 ∨ p = 3 ∨ p = 4 by omega) with rfl | rfl | rfl | rfl <;> rcases (show q = 1 ∨ q = 2 ∨ q = 3 ∨ q = 4 by omega) with rfl | rfl | rfl | rfl <;> rcases r5 with h5 | h5 <;> rw [h5] at e <;> simp at * <;> omega
theorem adr_pos {L : Lay} (hr : layR L = true) {p x : Int} (hp : 1 ≤ p ∧ p ≤ 4) (hx : 0 ≤ x ∧ x < lenI L p) : 1 ≤ firstI L p + x ∧ firstI L p + x < 9223372036854775808 := by
  obtain ⟨r1, r2, r3, r4, r5, r6, r7⟩ := layR_t hr
  unfold firstI lenI at *
  rcases (show p = 1 ∨ p = 2 ∨ p = 3 ∨ p = 4 by omega) with rfl | rfl | rfl | rfl <;> rcases r5 with h5 | h5 <;> rw [h5] <;> simp at * <;> omega
theorem lay_len (h : Hp) (p : Nat) (hp : 1 ≤ p ∧ p ≤ 4) : lenI h.lay p = (h.part p).length := by
  unfold lenI Hp.lay Hp.part
  rcases (show p = 1 ∨ p = 2 ∨ p = 3 ∨ p = 4 by omega) with rfl | rfl | rfl | rfl <;> simp
/-- What four walks found. -/
structure Found (h : Hp) (s : Fnd) : Prop where
  o1 : ∃ k, newF h.low = .ok s.o1 k
  o2 : ∃ k, newF h.high = .ok s.o2 k
  o3 : ∃ k, oldF h.old (shapesA s.lf h.old) = .ok s.o3 k
  o4 : ∃ k, oldF h.far (shapesA s.lf h.far) = .ok s.o4 k
  lf : s.lf = noteL h.lay s.o1 fun _ => none
  pf : s.pf = noteP h.lay 4 s.o4 (noteP h.lay 3 s.o3 (noteP h.lay 2 s.o2 (noteP h.lay 1 s.o1 fun _ => none)))
theorem runW_succ {h : Hp} {k : Nat} {s : Fnd} (e : runW h (k + 1) = some s) : ∃ s0 l j, runW h k = some s0 ∧ walkR h (k + 1) s0 = .ok l j ∧ s = s0.note h.lay (k + 1) l := by
  have e : (runW h k).bind (walkS h (k + 1)) = some s := e
  rcases hk : runW h k with _ | s0
  · rw [hk] at e; cases e
  · rw [hk] at e
    have e : walkS h (k + 1) s0 = some s := e
    unfold walkS at e
    split at e
    · rename_i l j hw
      cases e
      exact ⟨s0, l, j, rfl, hw, rfl⟩
    · cases e
theorem found_of {h : Hp} {s : Fnd} (e : runW h 4 = some s) : Found h s := by
  obtain ⟨s3, l4, j4, e3, w4, rfl⟩ := runW_succ e
  obtain ⟨s2, l3, j3, e2, w3, rfl⟩ := runW_succ e3
  obtain ⟨s1, l2, j2, e1, w2, rfl⟩ := runW_succ e2
  obtain ⟨s0, l1, j1, e0, w1, rfl⟩ := runW_succ e1
  cases e0
  exact ⟨⟨_, w1⟩, ⟨_, w2⟩, ⟨_, w3⟩, ⟨_, w4⟩, rfl, rfl⟩
theorem of_found {h : Hp} {s : Fnd} (f : Found h s) : runW h 4 = some s := by
  obtain ⟨o1, o2, o3, o4, pf, lf⟩ := s
  obtain ⟨⟨k1, e1⟩, ⟨k2, e2⟩, ⟨k3, e3⟩, ⟨k4, e4⟩, e5, e6⟩ := f
  dsimp only at e1 e2 e3 e4 e5 e6
  subst e5 e6
  have r1 : runW h 1 = some (Fnd.nil.note h.lay 1 o1) := by
    show walkS h 1 Fnd.nil = _
    unfold walkS
    rw [show walkR h 1 Fnd.nil = newF h.low from rfl, e1]
  have r2 : runW h 2 = some ((Fnd.nil.note h.lay 1 o1).note h.lay 2 o2) := by
    show (runW h 1).bind _ = _
    rw [r1]
    show walkS h 2 _ = _
    unfold walkS
    rw [show walkR h 2 (Fnd.nil.note h.lay 1 o1) = newF h.high from rfl, e2]
  have r3 : runW h 3 = some (((Fnd.nil.note h.lay 1 o1).note h.lay 2 o2).note h.lay 3 o3) := by
    show (runW h 2).bind _ = _
    rw [r2]
    show walkS h 3 _ = _
    unfold walkS
    rw [show walkR h 3 ((Fnd.nil.note h.lay 1 o1).note h.lay 2 o2) = oldF h.old (shapesA (noteL h.lay o1 fun _ => none) h.old) from rfl, e3]
  show (runW h 3).bind _ = _
  rw [r3]
  show walkS h 4 _ = _
  unfold walkS
  rw [show walkR h 4 (((Fnd.nil.note h.lay 1 o1).note h.lay 2 o2).note h.lay 3 o3) = oldF h.far (shapesA (noteL h.lay o1 fun _ => none) h.far) from rfl, e4]
  rfl
theorem Found.chain {h : Hp} {s : Fnd} (f : Found h s) (p : Nat) (hp : 1 ≤ p ∧ p ≤ 4) : ChainO (h.part p).length 0 (s.obs p) := by
  obtain ⟨⟨k1, e1⟩, ⟨k2, e2⟩, ⟨k3, e3⟩, ⟨k4, e4⟩, e5, e6⟩ := f
  unfold Hp.part Fnd.obs
  rcases (show p = 1 ∨ p = 2 ∨ p = 3 ∨ p = 4 by omega) with rfl | rfl | rfl | rfl
  · exact newF_chain e1
  · exact newF_chain e2
  · exact oldF_chain e3
  · exact oldF_chain e4
theorem Found.at {h : Hp} {s : Fnd} (f : Found h s) {p : Nat} (hp : 1 ≤ p ∧ p ≤ 4) {o : Ob} (ho : o ∈ s.obs p) : 0 ≤ o.pos ∧ o.pos < lenI h.lay p ∧ adr h.lay p o.pos = firstI h.lay p + o.pos := by
  have h1 := ((f.chain p hp).from o ho).2
  have h2 := lay_len h p hp
  have h3 : 0 ≤ o.pos ∧ o.pos < lenI h.lay p := by
    obtain ⟨a, b, c, d, e, g⟩ := h1
    omega
  exact ⟨h3.1, h3.2, adr_in h3⟩
/-- An address is noted just if an object stands there, with its part. -/
theorem Found.pf_iff {h : Hp} {s : Fnd} (f : Found h s) (hr : layR h.lay = true) (a q : Int) : s.pf a = some q ↔ ∃ p : Nat, q = p ∧ (1 ≤ p ∧ p ≤ 4) ∧ ∃ o ∈ s.obs p, firstI h.lay p + o.pos = a := by
  have key : ∀ (p p' : Nat) (o o' : Ob), 1 ≤ p ∧ p ≤ 4 → 1 ≤ p' ∧ p' ≤ 4 → o ∈ s.obs p → o' ∈ s.obs p' → adr h.lay p o.pos = a → firstI h.lay p' + o'.pos = a → p = p' := by
    intro p p' o o' hp hp' ho ho' e e'
    obtain ⟨a1, a2, a3⟩ := f.at hp ho
    obtain ⟨b1, b2, b3⟩ := f.at hp' ho'
    have := (apart hr (p := p) (q := p') (by omega) (by omega) ⟨a1, a2⟩ ⟨b1, b2⟩ (by rw [← a3, e, e'])).1
    omega
  rw [f.pf, noteP_val, noteP_val, noteP_val, noteP_val]
  constructor
  · intro e
    have fin : ∀ p : Nat, 1 ≤ p ∧ p ≤ 4 → (∃ o ∈ s.obs p, adr h.lay p o.pos = a) → ∃ p' : Nat, (p : Int) = p' ∧ (1 ≤ p' ∧ p' ≤ 4) ∧ ∃ o ∈ s.obs p', firstI h.lay p' + o.pos = a := fun p hp ⟨o, ho, e⟩ => ⟨p, rfl, hp, o, ho, by rw [← (f.at hp ho).2.2]; exact e⟩
    split at e
    · rename_i h4; cases e; exact fin 4 (by omega) h4
    · split at e
      · rename_i h4; cases e; exact fin 3 (by omega) h4
      · split at e
        · rename_i h4; cases e; exact fin 2 (by omega) h4
        · split at e
          · rename_i h4; cases e; exact fin 1 (by omega) h4
          · cases e
  · rintro ⟨p, rfl, hp, o, ho, e⟩
    have hin : ∃ o ∈ s.obs p, adr h.lay p o.pos = a := ⟨o, ho, by rw [(f.at hp ho).2.2]; exact e⟩
    have hno : ∀ p' : Nat, 1 ≤ p' ∧ p' ≤ 4 → p' ≠ p → ¬ ∃ o ∈ s.obs p', adr h.lay p' o.pos = a := fun p' hp' hne ⟨o', ho', e'⟩ => hne (key p' p o' o hp' hp ho' ho e' e)
    rcases (show p = 1 ∨ p = 2 ∨ p = 3 ∨ p = 4 by omega) with rfl | rfl | rfl | rfl
    · exact (if_neg (hno 4 (by omega) (by omega))).trans ((if_neg (hno 3 (by omega) (by omega))).trans ((if_neg (hno 2 (by omega) (by omega))).trans (if_pos hin)))
    · exact (if_neg (hno 4 (by omega) (by omega))).trans ((if_neg (hno 3 (by omega) (by omega))).trans (if_pos hin))
    · exact (if_neg (hno 4 (by omega) (by omega))).trans (if_pos hin)
    · exact if_pos hin
/-- So are the shapes of the objects of Low. -/
theorem Found.lf_iff {h : Hp} {s : Fnd} (f : Found h s) (a : Int) (x : Int × Int) : s.lf a = some x ↔ ∃ o ∈ s.o1, firstI h.lay 1 + o.pos = a ∧ x = (o.s, o.p) := by
  have hc : ChainO h.low.length 0 s.o1 := f.chain 1 (by omega)
  have h0 : ∀ o ∈ s.o1, adr h.lay 1 o.pos = firstI h.lay 1 + o.pos := fun o ho => (f.at (p := 1) (by omega) ho).2.2
  have h1 : ∀ a ∈ s.o1, ∀ b ∈ s.o1, adr h.lay 1 a.pos = adr h.lay 1 b.pos → a = b := fun a ha b hb e => by
    rw [h0 a ha, h0 b hb] at e
    exact hc.apart a ha b hb (by omega)
  have h2 : s.o1.Nodup := hc.nodup.imp fun h e => by subst e; omega
  rw [f.lf]
  constructor
  · intro e
    by_cases h3 : ∃ o ∈ s.o1, adr h.lay 1 o.pos = a
    · obtain ⟨o, ho, rfl⟩ := h3
      rw [noteL_at h1 h2 ho] at e
      cases e
      exact ⟨o, ho, (h0 o ho).symm, rfl⟩
    · rw [noteL_none h3] at e
      cases e
  · rintro ⟨o, ho, rfl, rfl⟩
    rw [← h0 o ho]
    exact noteL_at h1 h2 ho
end Go.Proofs.YtpgjploaliefdaaGreat.cp
