/- Layer 11, plain: what a look at a heap finds. No conditions. -/
import Derived.Test.YtpgjploaliefdaaGreatHa
import Derived.Test.YtpgjploaliefdaaGreatG07
import Derived.Test.YtpgjploaliefdaaGreatMp
namespace Go.Proofs.YtpgjploaliefdaaGreat.cp
open Go hp ob hd
set_option linter.unusedVariables false
set_option linter.unusedSimpArgs false
structure Hp where
 base : Int
 cap : Int
 tt : Int
 cyc : Bool
 scan : Int
 low : List Int
 high : List Int
 old : List Int
 far : List Int
 roots : List Int
def Hp.lay (h : Hp) : Lay := ⟨h.base, h.cap, h.tt, h.low.length, h.high.length, h.old.length, h.far.length⟩
def Hp.part (h : Hp) (p : Nat) : List Int := if p = 1 then h.low else if p = 2 then h.high else if p = 3 then h.old else h.far
structure Fnd where
 o1 : List Ob
 o2 : List Ob
 o3 : List Ob
 o4 : List Ob
 pf : Int → Option Int
 lf : Int → Option (Int × Int)
def Fnd.obs (s : Fnd) (p : Nat) : List Ob := if p = 1 then s.o1 else if p = 2 then s.o2 else if p = 3 then s.o3 else s.o4
def Fnd.nil : Fnd := ⟨[], [], [], [], fun _ => none, fun _ => none⟩
def adr (L : Lay) (p at_ : Int) : Int := if 0 ≤ at_ ∧ at_ < lenI L p then firstI L p + at_ else 0
def pfS (f : Int → Option Int) (a q : Int) : Int → Option Int := fun x => if x = a then some q else f x
def lfS (f : Int → Option (Int × Int)) (a : Int) (q : Int × Int) : Int → Option (Int × Int) := fun x => if x = a then some q else f x
def noteP (L : Lay) (p : Int) : List Ob → (Int → Option Int) → Int → Option Int
 | [], f => f
 | o :: l, f => noteP L p l (pfS f (adr L p o.pos) p)
def noteL (L : Lay) : List Ob → (Int → Option (Int × Int)) → Int → Option (Int × Int)
 | [], f => f
 | o :: l, f => noteL L l (lfS f (adr L 1 o.pos) (o.s, o.p))
def Fnd.note (s : Fnd) (L : Lay) (p : Nat) (l : List Ob) : Fnd :=
 ⟨if p = 1 then l else s.o1, if p = 2 then l else s.o2, if p = 3 then l else s.o3, if p = 4 then l else s.o4, noteP L p l s.pf, if p = 1 then noteL L l s.lf else s.lf⟩
def shapesF (lf : Int → Option (Int × Int)) (zs : List Int) : Nat → Nat → List (Int × Int) → List (Int × Int)
 | 0, _, acc => acc
 | f + 1, at_, acc => if at_ < zs.length then
   (if adE (zs.getD at_ 0) = 0 then
    (match lf (adV (zs.getD at_ 0)) with
    | none => acc
    | some sp => shapesF lf zs f (at_ + 1 + sp.1.toNat) (acc ++ [sp]))
   else if unE (zs.getD at_ 0) = 0 then shapesF lf zs f (at_ + 1 + (unS (zs.getD at_ 0)).toNat) acc else acc)
  else acc
def shapesA (lf : Int → Option (Int × Int)) (zs : List Int) : List (Int × Int) := shapesF lf zs (zs.length + 1) 0 []
def pointsB (pf : Int → Option Int) (x a b : Int) : Bool := decide (x = 0) || (decide (adE x = 0) && (match pf (adV x) with | none => false | some q => decide (a ≤ q ∧ q ≤ b)))
def ptrsB (P : Int → Int → Bool) (zs : List Int) (o : Ob) (n : Nat) : Bool := (List.range n).all fun i => P (o.pos + 1 + i) (zs.getD (o.pos.toNat + 1 + i) 0)
def pointersB (P : Int → Int → Bool) (zs : List Int) (os : List Ob) : Bool := os.all fun o => o.g || ptrsB P zs o o.p.toNat
def waitN (os : List Ob) : Int := os.foldl (fun n o => if o.g then n else n + (1 + o.s)) 0
def walkR (h : Hp) (p : Nat) (s : Fnd) : Res := if p ≤ 2 then newF (h.part p) else oldF (h.part p) (shapesA s.lf (h.part p))
def walkS (h : Hp) (p : Nat) (s : Fnd) : Option Fnd :=
 match walkR h p s with
 | .ok l _ => some (s.note h.lay p l)
 | .err _ _ => none
def runW (h : Hp) : Nat → Option Fnd
 | 0 => some Fnd.nil
 | k + 1 => (runW h k).bind (walkS h (k + 1))
theorem runW_none {h : Hp} {k : Nat} (e : runW h k = none) : ∀ {n : Nat}, k ≤ n → runW h n = none
 | 0, hn => by obtain rfl : k = 0 := by omega
               exact e
 | n + 1, hn => by
  rcases Nat.lt_or_ge n k with h1 | h1
  ·obtain rfl : k = n + 1 := by omega
   exact e
  ·show (runW h n).bind _ = none
   rw [runW_none e h1]; rfl
def copyGo (pf : Int → Option Int) : List Ob → (Int → Bool) → Nat → Option Nat
 | [], t, n => some n
 | o :: l, t, n => if o.g then (if (pf o.t).getD 0 = 1 ∧ t o.t = false then copyGo pf l (fun x => decide (x = o.t) || t x) (n + 1) else none) else copyGo pf l t n
def boundedB (h : Hp) : Bool := layR h.lay && decide (h.roots.length ≤ 16 ∧ 0 ≤ h.scan ∧ h.scan ≤ h.low.length)
def restingB (h : Hp) : Bool := if h.cyc then decide (h.scan < h.low.length) else decide (h.old.length = 0 ∧ h.far.length = 0 ∧ h.scan = h.low.length)
def copiedB (h : Hp) (s : Fnd) : Bool := !h.cyc || decide (copyGo s.pf (s.o3 ++ s.o4) (fun _ => false) 0 = some s.o1.length)
def settledB (h : Hp) (s : Fnd) : Bool := h.roots.all (fun x => pointsB s.pf x 1 2) && (pointersB (fun _ x => pointsB s.pf x 1 2) h.high s.o2 && pointersB (fun at_ x => decide (h.scan ≤ at_) || pointsB s.pf x 1 2) h.low s.o1)
def unscannedB (h : Hp) (s : Fnd) : Bool := pointersB (fun at_ x => decide (at_ < h.scan) || pointsB s.pf x 1 4) h.low s.o1
def leftB (h : Hp) (s : Fnd) : Bool := pointersB (fun _ x => pointsB s.pf x 3 4) h.old s.o3 && pointersB (fun _ x => pointsB s.pf x 3 4) h.far s.o4
def roomyB (h : Hp) (s : Fnd) : Bool := decide (h.low.length + h.high.length + waitN (s.o3 ++ s.o4) ≤ h.cap)
def ruleF (h : Hp) (i : Nat) (s : Fnd) : Option Fnd :=
 if i = 0 then (if boundedB h then some s else none) else if i = 1 then (if restingB h then some s else none) else if i = 2 then runW h 4 else if i = 3 then (if copiedB h s then some s else none)
 else if i = 4 then (if settledB h s then some s else none) else if i = 5 then (if unscannedB h s then some s else none) else if i = 6 then (if leftB h s then some s else none) else (if roomyB h s then some s else none)
def looks (h : Hp) : Nat → Option Fnd
 | 0 => some Fnd.nil
 | k + 1 => (looks h k).bind (ruleF h k)
theorem looks_none {h : Hp} {k : Nat} (e : looks h k = none) : ∀ {n : Nat}, k ≤ n → looks h n = none
 | 0, hn => by obtain rfl : k = 0 := by omega
               exact e
 | n + 1, hn => by
  rcases Nat.lt_or_ge n k with h1 | h1
  ·obtain rfl : k = n + 1 := by omega
   exact e
  ·show (looks h n).bind _ = _
   rw [looks_none e h1]; rfl
theorem looks_some {h : Hp} {k : Nat} {s : Fnd} (e : looks h (k + 1) = some s) : ∃ s0, looks h k = some s0 ∧ ruleF h k s0 = some s := by
 have e : (looks h k).bind (ruleF h k) = some s := e
 rcases hk : looks h k with _ | s0
 ·rw [hk] at e; cases e
 ·rw [hk] at e
  exact ⟨s0, rfl, e⟩
def lookF (h : Hp) : Option Fnd := looks h 8
def FitB (n : Nat) (o : Ob) : Prop := 0 ≤ o.pos ∧ 0 ≤ o.s ∧ o.s ≤ 255 ∧ 0 ≤ o.p ∧ o.p ≤ o.s ∧ o.pos + 1 + o.s ≤ n
theorem walkF_fit {bg : Nat → Nat → Int → Option (Ob × Nat)} {zs : List Int} {len : Nat} (hbg : ∀ k pos x o k', bg k pos x = some (o, k') → o.pos = pos ∧ 0 ≤ o.s ∧ o.s ≤ 255 ∧ 0 ≤ o.p ∧ o.p ≤ o.s) :
  ∀ {f k pos : Nat} {acc l : List Ob} {k2 : Nat}, (∀ o ∈ acc, FitB len o) → acc.length ≤ pos → walkF bg zs len f k pos acc = .ok l k2 → (∀ o ∈ l, FitB len o) ∧ (pos ≤ len → l.length ≤ len)
 | 0, k, pos, acc, l, k2, ha, hn, h => by cases h
 | f + 1, k, pos, acc, l, k2, ha, hn, h => by
  by_cases hp : pos < len
  ·rw [walkF_step hp] at h
   split at h
   ·cases h
   ·rename_i o k' hb
    obtain ⟨h1, h2, h3, h4, h5⟩ := hbg _ _ _ _ _ hb
    split at h
    ·cases h
    ·rename_i hfit
     split at h
     ·have := walkF_fit hbg (acc := acc ++ [o]) (fun o' ho' => by
       rcases List.mem_append.1 ho' with h6 | h6
       ·exact ha _ h6
       ·simp at h6; subst h6
        exact ⟨by omega, h2, h3, h4, h5, by omega⟩) (by simp; omega) h
      exact ⟨this.1, fun _ => this.2 (by omega)⟩
     ·cases h
  ·rw [walkF_end hp] at h
   cases h
   exact ⟨ha, fun h => by omega⟩
theorem bgN_fit (k pos : Nat) (x : Int) (o : Ob) (k' : Nat) (h : bgN k pos x = some (o, k')) : o.pos = pos ∧ 0 ≤ o.s ∧ o.s ≤ 255 ∧ 0 ≤ o.p ∧ o.p ≤ o.s := by
 unfold bgN at h
 split at h
 ·rename_i hu
  cases h
  have h2 := hu
  simp only [unOk, Bool.and_eq_true] at h2
  obtain ⟨h3, h4, h5, h6⟩ := rightB_t h2.2
  refine ⟨rfl, ?_⟩
  simp only [unS, unP, hu, if_true]
  exact ⟨h3, h4, h5, h6⟩
 ·cases h
theorem bgO_fit (n : Nat) (ss : List (Int × Int)) (k pos : Nat) (x : Int) (o : Ob) (k' : Nat) (h : bgO n ss k pos x = some (o, k')) : o.pos = pos ∧ 0 ≤ o.s ∧ o.s ≤ 255 ∧ 0 ≤ o.p ∧ o.p ≤ o.s := by
 unfold bgO at h
 split at h
 ·split at h
  ·rename_i hu
   cases h
   obtain ⟨h3, h4, h5, h6⟩ := rightB_t hu.2
   exact ⟨rfl, h3, h4, h5, h6⟩
  ·cases h
 ·exact bgN_fit _ _ _ _ _ h
theorem newF_fit {zs : List Int} {l : List Ob} {k : Nat} (h : newF zs = .ok l k) : (∀ o ∈ l, FitB zs.length o) ∧ l.length ≤ zs.length := by
 have := walkF_fit bgN_fit (acc := []) (fun o ho => by simp at ho) (Nat.zero_le _) h
 exact ⟨this.1, this.2 (Nat.zero_le _)⟩
theorem oldRes_ok {n k j : Nat} {a l : List Ob} (h : oldRes n (.ok a k) = .ok l j) : l = a := by
 by_cases hk : k < n
 ·rw [show oldRes n (.ok a k) = .err 3 k from by simp [oldRes, hk]] at h; cases h
 ·rw [show oldRes n (.ok a k) = .ok a k from by simp [oldRes, hk]] at h; cases h; rfl
theorem oldF_fit {zs : List Int} {ss : List (Int × Int)} {l : List Ob} {k : Nat} (h : oldF zs ss = .ok l k) : (∀ o ∈ l, FitB zs.length o) ∧ l.length ≤ zs.length := by
 unfold oldF at h
 generalize hw : walkF (bgO ss.length ss) zs zs.length (zs.length + 1) 0 0 [] = r at h
 rcases r with ⟨l', k'⟩ | ⟨c, k'⟩
 ·obtain rfl := oldRes_ok h
  have := walkF_fit (bgO_fit _ _) (acc := []) (fun o ho => by simp at ho) (Nat.zero_le _) hw
  exact ⟨this.1, this.2 (Nat.zero_le _)⟩
 ·cases h
theorem walkR_fit {h : Hp} {p : Nat} {s : Fnd} {l : List Ob} {k : Nat} (e : walkR h p s = .ok l k) : (∀ o ∈ l, FitB (h.part p).length o) ∧ l.length ≤ (h.part p).length := by
 unfold walkR at e
 split at e
 ·exact newF_fit e
 ·exact oldF_fit e
theorem noteP_rg {L : Lay} {p : Int} : ∀ {l : List Ob} {f : Int → Option Int} {a q : Int}, noteP L p l f a = some q → q = p ∨ f a = some q
 | [], f, a, q, h => .inr h
 | o :: l, f, a, q, h => by
  rcases noteP_rg (l := l) h with h1 | h1
  ·exact .inl h1
  ·unfold pfS at h1
   split at h1
   ·cases h1; exact .inl rfl
   ·exact .inr h1
theorem noteL_rg {L : Lay} {n : Nat} : ∀ {l : List Ob} {f : Int → Option (Int × Int)} {a : Int} {q : Int × Int}, (∀ o ∈ l, FitB n o) → (∀ a q, f a = some q → 0 ≤ q.1 ∧ q.1 ≤ 255) → noteL L l f a = some q → 0 ≤ q.1 ∧ q.1 ≤ 255
 | [], f, a, q, hl, hf, h => hf _ _ h
 | o :: l, f, a, q, hl, hf, h => by
  refine noteL_rg (l := l) (fun o' h' => hl _ (List.mem_cons_of_mem _ h')) (fun a' q' h' => ?_) h
  unfold lfS at h'
  split at h'
  ·cases h'
   have := hl o (by simp)
   exact ⟨this.2.1, this.2.2.1⟩
  ·exact hf _ _ h'
end Go.Proofs.YtpgjploaliefdaaGreat.cp
namespace Go.Proofs.YtpgjploaliefdaaGreat.cp
open Go hp ob hd
set_option linter.unusedVariables false
set_option linter.unusedSimpArgs false
def ChainO (len : Nat) : Nat → List Ob → Prop
 | pos, [] => pos = len
 | pos, o :: l => o.pos = pos ∧ (0 ≤ o.s ∧ o.s ≤ 255 ∧ 0 ≤ o.p ∧ o.p ≤ o.s) ∧ pos + 1 + o.s.toNat ≤ len ∧ ChainO len (pos + 1 + o.s.toNat) l
theorem walkF_chain {bg : Nat → Nat → Int → Option (Ob × Nat)} {zs : List Int} {len : Nat} (hbg : ∀ k pos x o k', bg k pos x = some (o, k') → o.pos = pos ∧ 0 ≤ o.s ∧ o.s ≤ 255 ∧ 0 ≤ o.p ∧ o.p ≤ o.s) :
  ∀ {f k pos : Nat} {acc l : List Ob} {k2 : Nat}, pos ≤ len → walkF bg zs len f k pos acc = .ok l k2 → ∃ l', l = acc ++ l' ∧ ChainO len pos l'
 | 0, k, pos, acc, l, k2, hn, h => by cases h
 | f + 1, k, pos, acc, l, k2, hn, h => by
  by_cases hp : pos < len
  ·rw [walkF_step hp] at h
   split at h
   ·cases h
   ·rename_i o k' hb
    obtain ⟨h1, h2, h3, h4, h5⟩ := hbg _ _ _ _ _ hb
    split at h
    ·cases h
    ·rename_i hfit
     split at h
     ·obtain ⟨l', rfl, hc⟩ := walkF_chain hbg (acc := acc ++ [o]) (by omega) h
      exact ⟨o :: l', by simp, h1, ⟨h2, h3, h4, h5⟩, by omega, hc⟩
     ·cases h
  ·rw [walkF_end hp] at h
   cases h
   exact ⟨[], by simp, (by show pos = len; omega)⟩
theorem newF_chain {zs : List Int} {l : List Ob} {k : Nat} (h : newF zs = .ok l k) : ChainO zs.length 0 l := by
 obtain ⟨l', rfl, hc⟩ := walkF_chain bgN_fit (Nat.zero_le _) h
 exact hc
theorem oldF_chain {zs : List Int} {ss : List (Int × Int)} {l : List Ob} {k : Nat} (h : oldF zs ss = .ok l k) : ChainO zs.length 0 l := by
 unfold oldF at h
 generalize hw : walkF (bgO ss.length ss) zs zs.length (zs.length + 1) 0 0 [] = r at h
 rcases r with ⟨l', k'⟩ | ⟨c, k'⟩
 ·obtain rfl := oldRes_ok h
  obtain ⟨l', rfl, hc⟩ := walkF_chain (bgO_fit _ _) (Nat.zero_le _) hw
  exact hc
 ·cases h
theorem walkR_chain {h : Hp} {p : Nat} {s : Fnd} {l : List Ob} {k : Nat} (e : walkR h p s = .ok l k) : ChainO (h.part p).length 0 l := by
 unfold walkR at e
 split at e
 ·exact newF_chain e
 ·exact oldF_chain e
theorem ChainO.from {len : Nat} : ∀ {pos : Nat} {l : List Ob}, ChainO len pos l → ∀ o ∈ l, (pos : Int) ≤ o.pos ∧ FitB len o
 | pos, [], h, o, ho => by simp at ho
 | pos, a :: l, ⟨h1, h2, h3, h4⟩, o, ho => by
  rcases List.mem_cons.1 ho with rfl | ho
  ·exact ⟨by omega, by omega, h2.1, h2.2.1, h2.2.2.1, h2.2.2.2, by omega⟩
  ·have := h4.from o ho
   exact ⟨by omega, this.2⟩
theorem ChainO.apart {len : Nat} : ∀ {pos : Nat} {l : List Ob}, ChainO len pos l → ∀ a ∈ l, ∀ b ∈ l, a.pos = b.pos → a = b
 | pos, [], h, a, ha, b, hb, e => by simp at ha
 | pos, c :: l, ⟨h1, h2, h3, h4⟩, a, ha, b, hb, e => by
  rcases List.mem_cons.1 ha with e1 | ha1 <;> rcases List.mem_cons.1 hb with e2 | hb1
  ·rw [e1, e2]
  ·have := (h4.from b hb1).1
   rw [e1] at e
   omega
  ·have := (h4.from a ha1).1
   rw [e2] at e
   omega
  ·exact h4.apart a ha1 b hb1 e
theorem ChainO.nodup {len : Nat} : ∀ {pos : Nat} {l : List Ob}, ChainO len pos l → l.Pairwise fun a b => a.pos < b.pos
 | pos, [], h => List.Pairwise.nil
 | pos, c :: l, ⟨h1, h2, h3, h4⟩ => by
  refine List.pairwise_cons.2 ⟨fun b hb => ?_, h4.nodup⟩
  have := (h4.from b hb).1
  omega
open Classical in
theorem noteP_val {L : Lay} {p : Int} : ∀ {l : List Ob} {f : Int → Option Int} {a : Int}, noteP L p l f a = if ∃ o ∈ l, adr L p o.pos = a then some p else f a
 | [], f, a => by simp [noteP]
 | o :: l, f, a => by
  show noteP L p l (pfS f (adr L p o.pos) p) a = _
  rw [noteP_val]
  by_cases h1 : ∃ o ∈ l, adr L p o.pos = a
  ·obtain ⟨o', ho', e⟩ := h1
   rw [if_pos ⟨o', ho', e⟩, if_pos ⟨o', List.mem_cons_of_mem _ ho', e⟩]
  ·rw [if_neg h1]
   unfold pfS
   by_cases h2 : a = adr L p o.pos
   ·rw [if_pos h2, if_pos ⟨o, by simp, h2.symm⟩]
   ·rw [if_neg h2, if_neg]
    rintro ⟨o', ho', e⟩
    rcases List.mem_cons.1 ho' with rfl | ho'
    ·exact h2 e.symm
    ·exact h1 ⟨o', ho', e⟩
theorem noteL_none {L : Lay} : ∀ {l : List Ob} {f : Int → Option (Int × Int)} {a : Int}, (¬ ∃ o ∈ l, adr L 1 o.pos = a) → noteL L l f a = f a
 | [], f, a, h => rfl
 | o :: l, f, a, h => by
  show noteL L l (lfS f (adr L 1 o.pos) (o.s, o.p)) a = _
  rw [noteL_none (fun ⟨o', ho', e⟩ => h ⟨o', List.mem_cons_of_mem _ ho', e⟩)]
  unfold lfS
  rw [if_neg (fun e => h ⟨o, by simp, e.symm⟩)]
theorem noteL_at {L : Lay} : ∀ {l : List Ob} {f : Int → Option (Int × Int)} {o : Ob}, (∀ a ∈ l, ∀ b ∈ l, adr L 1 a.pos = adr L 1 b.pos → a = b) → l.Nodup → o ∈ l → noteL L l f (adr L 1 o.pos) = some (o.s, o.p)
 | [], f, o, h, hn, ho => by simp at ho
 | c :: l, f, o, h, hn, ho => by
  show noteL L l (lfS f (adr L 1 c.pos) (c.s, c.p)) (adr L 1 o.pos) = _
  rcases List.mem_cons.1 ho with rfl | ho
  ·rw [noteL_none]
   ·unfold lfS
    rw [if_pos rfl]
   ·rintro ⟨o', ho', e⟩
    have := h o' (List.mem_cons_of_mem _ ho') o (by simp) e
    subst this
    exact (List.nodup_cons.1 hn).1 ho'
  ·exact noteL_at (fun a ha b hb => h a (List.mem_cons_of_mem _ ha) b (List.mem_cons_of_mem _ hb)) (List.nodup_cons.1 hn).2 ho
theorem adr_in {L : Lay} {p x : Int} (h : 0 ≤ x ∧ x < lenI L p) : adr L p x = firstI L p + x := if_pos h
theorem apart {L : Lay} (hr : layR L = true) {p q x y : Int} (hp : 1 ≤ p ∧ p ≤ 4) (hq : 1 ≤ q ∧ q ≤ 4) (hx : 0 ≤ x ∧ x < lenI L p) (hy : 0 ≤ y ∧ y < lenI L q) (e : firstI L p + x = firstI L q + y) : p = q ∧ x = y := by
 obtain ⟨r1, r2, r3, r4, r5, r6, r7⟩ := layR_t hr
 unfold firstI lenI at *
 rcases (show p = 1 ∨ p = 2 ∨ p = 3 ∨ p = 4 by omega) with rfl | rfl | rfl | rfl <;> rcases (show q = 1 ∨ q = 2 ∨ q = 3 ∨ q = 4 by omega) with rfl | rfl | rfl | rfl <;> rcases r5 with h5 | h5 <;> rw [h5] at e <;> simp at * <;> omega
theorem adr_pos {L : Lay} (hr : layR L = true) {p x : Int} (hp : 1 ≤ p ∧ p ≤ 4) (hx : 0 ≤ x ∧ x < lenI L p) : 1 ≤ firstI L p + x ∧ firstI L p + x < 9223372036854775808 := by
 obtain ⟨r1, r2, r3, r4, r5, r6, r7⟩ := layR_t hr
 unfold firstI lenI at *
 rcases (show p = 1 ∨ p = 2 ∨ p = 3 ∨ p = 4 by omega) with rfl | rfl | rfl | rfl <;> rcases r5 with h5 | h5 <;> rw [h5] <;> simp at * <;> omega
theorem lay_len (h : Hp) (p : Nat) (hp : 1 ≤ p ∧ p ≤ 4) : lenI h.lay p = (h.part p).length := by
 unfold lenI Hp.lay Hp.part
 rcases (show p = 1 ∨ p = 2 ∨ p = 3 ∨ p = 4 by omega) with rfl | rfl | rfl | rfl <;> simp
structure Found (h : Hp) (s : Fnd) : Prop where
 o1 : ∃ k, newF h.low = .ok s.o1 k
 o2 : ∃ k, newF h.high = .ok s.o2 k
 o3 : ∃ k, oldF h.old (shapesA s.lf h.old) = .ok s.o3 k
 o4 : ∃ k, oldF h.far (shapesA s.lf h.far) = .ok s.o4 k
 lf : s.lf = noteL h.lay s.o1 fun _ => none
 pf : s.pf = noteP h.lay 4 s.o4 (noteP h.lay 3 s.o3 (noteP h.lay 2 s.o2 (noteP h.lay 1 s.o1 fun _ => none)))
theorem runW_succ {h : Hp} {k : Nat} {s : Fnd} (e : runW h (k + 1) = some s) : ∃ s0 l j, runW h k = some s0 ∧ walkR h (k + 1) s0 = .ok l j ∧ s = s0.note h.lay (k + 1) l := by
 have e : (runW h k).bind (walkS h (k + 1)) = some s := e
 rcases hk : runW h k with _ | s0
 ·rw [hk] at e; cases e
 ·rw [hk] at e
  have e : walkS h (k + 1) s0 = some s := e
  unfold walkS at e
  split at e
  ·rename_i l j hw
   cases e
   exact ⟨s0, l, j, rfl, hw, rfl⟩
  ·cases e
theorem found_of {h : Hp} {s : Fnd} (e : runW h 4 = some s) : Found h s := by
 obtain ⟨s3, l4, j4, e3, w4, rfl⟩ := runW_succ e
 obtain ⟨s2, l3, j3, e2, w3, rfl⟩ := runW_succ e3
 obtain ⟨s1, l2, j2, e1, w2, rfl⟩ := runW_succ e2
 obtain ⟨s0, l1, j1, e0, w1, rfl⟩ := runW_succ e1
 cases e0
 exact ⟨⟨_, w1⟩, ⟨_, w2⟩, ⟨_, w3⟩, ⟨_, w4⟩, rfl, rfl⟩
theorem of_found {h : Hp} {s : Fnd} (f : Found h s) : runW h 4 = some s := by
 obtain ⟨o1, o2, o3, o4, pf, lf⟩ := s
 obtain ⟨⟨k1, e1⟩, ⟨k2, e2⟩, ⟨k3, e3⟩, ⟨k4, e4⟩, e5, e6⟩ := f
 dsimp only at e1 e2 e3 e4 e5 e6
 subst e5 e6
 have r1 : runW h 1 = some (Fnd.nil.note h.lay 1 o1) := by
  show walkS h 1 Fnd.nil = _
  unfold walkS
  rw [show walkR h 1 Fnd.nil = newF h.low from rfl, e1]
 have r2 : runW h 2 = some ((Fnd.nil.note h.lay 1 o1).note h.lay 2 o2) := by
  show (runW h 1).bind _ = _
  rw [r1]
  show walkS h 2 _ = _
  unfold walkS
  rw [show walkR h 2 (Fnd.nil.note h.lay 1 o1) = newF h.high from rfl, e2]
 have r3 : runW h 3 = some (((Fnd.nil.note h.lay 1 o1).note h.lay 2 o2).note h.lay 3 o3) := by
  show (runW h 2).bind _ = _
  rw [r2]
  show walkS h 3 _ = _
  unfold walkS
  rw [show walkR h 3 ((Fnd.nil.note h.lay 1 o1).note h.lay 2 o2) = oldF h.old (shapesA (noteL h.lay o1 fun _ => none) h.old) from rfl, e3]
 show (runW h 3).bind _ = _
 rw [r3]
 show walkS h 4 _ = _
 unfold walkS
 rw [show walkR h 4 (((Fnd.nil.note h.lay 1 o1).note h.lay 2 o2).note h.lay 3 o3) = oldF h.far (shapesA (noteL h.lay o1 fun _ => none) h.far) from rfl, e4]
 rfl
theorem Found.chain {h : Hp} {s : Fnd} (f : Found h s) (p : Nat) (hp : 1 ≤ p ∧ p ≤ 4) : ChainO (h.part p).length 0 (s.obs p) := by
 obtain ⟨⟨k1, e1⟩, ⟨k2, e2⟩, ⟨k3, e3⟩, ⟨k4, e4⟩, e5, e6⟩ := f
 unfold Hp.part Fnd.obs
 rcases (show p = 1 ∨ p = 2 ∨ p = 3 ∨ p = 4 by omega) with rfl | rfl | rfl | rfl
 ·exact newF_chain e1
 ·exact newF_chain e2
 ·exact oldF_chain e3
 ·exact oldF_chain e4
theorem Found.at {h : Hp} {s : Fnd} (f : Found h s) {p : Nat} (hp : 1 ≤ p ∧ p ≤ 4) {o : Ob} (ho : o ∈ s.obs p) : 0 ≤ o.pos ∧ o.pos < lenI h.lay p ∧ adr h.lay p o.pos = firstI h.lay p + o.pos := by
 have h1 := ((f.chain p hp).from o ho).2
 have h2 := lay_len h p hp
 have h3 : 0 ≤ o.pos ∧ o.pos < lenI h.lay p := by
  obtain ⟨a, b, c, d, e, g⟩ := h1
  omega
 exact ⟨h3.1, h3.2, adr_in h3⟩
theorem Found.pf_iff {h : Hp} {s : Fnd} (f : Found h s) (hr : layR h.lay = true) (a q : Int) : s.pf a = some q ↔ ∃ p : Nat, q = p ∧ (1 ≤ p ∧ p ≤ 4) ∧ ∃ o ∈ s.obs p, firstI h.lay p + o.pos = a := by
 have key : ∀ (p p' : Nat) (o o' : Ob), 1 ≤ p ∧ p ≤ 4 → 1 ≤ p' ∧ p' ≤ 4 → o ∈ s.obs p → o' ∈ s.obs p' → adr h.lay p o.pos = a → firstI h.lay p' + o'.pos = a → p = p' := by
  intro p p' o o' hp hp' ho ho' e e'
  obtain ⟨a1, a2, a3⟩ := f.at hp ho
  obtain ⟨b1, b2, b3⟩ := f.at hp' ho'
  have := (apart hr (p := p) (q := p') (by omega) (by omega) ⟨a1, a2⟩ ⟨b1, b2⟩ (by rw [← a3, e, e'])).1
  omega
 rw [f.pf, noteP_val, noteP_val, noteP_val, noteP_val]
 constructor
 ·intro e
  have fin : ∀ p : Nat, 1 ≤ p ∧ p ≤ 4 → (∃ o ∈ s.obs p, adr h.lay p o.pos = a) → ∃ p' : Nat, (p : Int) = p' ∧ (1 ≤ p' ∧ p' ≤ 4) ∧ ∃ o ∈ s.obs p', firstI h.lay p' + o.pos = a := fun p hp ⟨o, ho, e⟩ => ⟨p, rfl, hp, o, ho, by rw [← (f.at hp ho).2.2]; exact e⟩
  split at e
  ·rename_i h4; cases e; exact fin 4 (by omega) h4
  ·split at e
   ·rename_i h4; cases e; exact fin 3 (by omega) h4
   ·split at e
    ·rename_i h4; cases e; exact fin 2 (by omega) h4
    ·split at e
     ·rename_i h4; cases e; exact fin 1 (by omega) h4
     ·cases e
 ·rintro ⟨p, rfl, hp, o, ho, e⟩
  have hin : ∃ o ∈ s.obs p, adr h.lay p o.pos = a := ⟨o, ho, by rw [(f.at hp ho).2.2]; exact e⟩
  have hno : ∀ p' : Nat, 1 ≤ p' ∧ p' ≤ 4 → p' ≠ p → ¬ ∃ o ∈ s.obs p', adr h.lay p' o.pos = a := fun p' hp' hne ⟨o', ho', e'⟩ => hne (key p' p o' o hp' hp ho' ho e' e)
  rcases (show p = 1 ∨ p = 2 ∨ p = 3 ∨ p = 4 by omega) with rfl | rfl | rfl | rfl
  ·exact (if_neg (hno 4 (by omega) (by omega))).trans ((if_neg (hno 3 (by omega) (by omega))).trans ((if_neg (hno 2 (by omega) (by omega))).trans (if_pos hin)))
  ·exact (if_neg (hno 4 (by omega) (by omega))).trans ((if_neg (hno 3 (by omega) (by omega))).trans (if_pos hin))
  ·exact (if_neg (hno 4 (by omega) (by omega))).trans (if_pos hin)
  ·exact if_pos hin
theorem Found.lf_iff {h : Hp} {s : Fnd} (f : Found h s) (a : Int) (x : Int × Int) : s.lf a = some x ↔ ∃ o ∈ s.o1, firstI h.lay 1 + o.pos = a ∧ x = (o.s, o.p) := by
 have hc : ChainO h.low.length 0 s.o1 := f.chain 1 (by omega)
 have h0 : ∀ o ∈ s.o1, adr h.lay 1 o.pos = firstI h.lay 1 + o.pos := fun o ho => (f.at (p := 1) (by omega) ho).2.2
 have h1 : ∀ a ∈ s.o1, ∀ b ∈ s.o1, adr h.lay 1 a.pos = adr h.lay 1 b.pos → a = b := fun a ha b hb e => by
  rw [h0 a ha, h0 b hb] at e
  exact hc.apart a ha b hb (by omega)
 have h2 : s.o1.Nodup := hc.nodup.imp fun h e => by subst e; omega
 rw [f.lf]
 constructor
 ·intro e
  by_cases h3 : ∃ o ∈ s.o1, adr h.lay 1 o.pos = a
  ·obtain ⟨o, ho, rfl⟩ := h3
   rw [noteL_at h1 h2 ho] at e
   cases e
   exact ⟨o, ho, (h0 o ho).symm, rfl⟩
  ·rw [noteL_none h3] at e
   cases e
 ·rintro ⟨o, ho, rfl, rfl⟩
  rw [← h0 o ho]
  exact noteL_at h1 h2 ho
end Go.Proofs.YtpgjploaliefdaaGreat.cp
namespace Go.Proofs.YtpgjploaliefdaaGreat.ck
open Go Go.RowKit hp ob hd cp mp
set_option linter.unusedVariables false
set_option linter.unusedSimpArgs false
structure Hv where
 l : Value
 h : Value
 o : Value
 f : Value
 r : Value
def hpV (h : Hp) (v : Hv) : Value := .agg #[.int .u64 h.base, .int .i64 h.cap, .int .i64 h.tt, .bool h.cyc, .int .i64 h.scan, v.l, v.h, v.o, v.f, v.r]
structure HIn (W : World) (h : Hp) (v : Hv) : Prop where
 base : U64 h.base
 cap : I64 h.cap
 tt : I64 h.tt
 scan : I64 h.scan
 low : NumsIn W v.l h.low
 high : NumsIn W v.h h.high
 old : NumsIn W v.o h.old
 far : NumsIn W v.f h.far
 roots : NumsIn W v.r h.roots
 slow : Small h.low
 shigh : Small h.high
 sold : Small h.old
 sfar : Small h.far
 sroots : Small h.roots
theorem HIn.tr {W w : World} {h : Hp} {v : Hv} (a : HIn W h v) (hb : Below W.heap.size W w) : HIn w h v :=
 ⟨a.base, a.cap, a.tt, a.scan, a.low.tr hb, a.high.tr hb, a.old.tr hb, a.far.tr hb, a.roots.tr hb, a.slow, a.shigh, a.sold, a.sfar, a.sroots⟩
theorem nums_len {W : World} {v : Value} {zs : List Int} (h : NumsIn W v zs) : zs.length < 1000000000000 := by
 obtain ⟨_, _, _, _, _, _, _, h1, _⟩ := h
 exact h1.2
theorem HIn.ok {W : World} {h : Hp} {v : Hv} (a : HIn W h v) : h.lay.ok := by
 have h1 := nums_len a.low
 have h2 := nums_len a.high
 have h3 := nums_len a.old
 have h4 := nums_len a.far
 refine ⟨a.base, a.cap, a.tt, ?_, ?_, ?_, ?_⟩ <;> (unfold I64 Hp.lay; simp only; omega)
def shV (sp : Int × Int) : Value := .agg #[.int .i64 sp.1, .int .i64 sp.2]
def pfV (f : Int → Option Int) : Int → Option Value := fun a => (f a).map fun q => .int .i64 q
def lfV (f : Int → Option (Int × Int)) : Int → Option Value := fun a => (f a).map shV
theorem pfV_set (f : Int → Option Int) (a q : Int) : upd (pfV f) a (.int .i64 q) = pfV (pfS f a q) := by
 funext x
 unfold upd pfV pfS
 split <;> rfl
theorem lfV_set (f : Int → Option (Int × Int)) (a : Int) (q : Int × Int) : upd (lfV f) a (shV q) = lfV (lfS f a q) := by
 funext x
 unfold upd lfV lfS
 split <;> rfl
structure Ov where
 a : Value
 b : Value
 c : Value
 d : Value
def stCells (h : Hp) (v : Hv) (ov : Ov) (bp bl : Nat) : Array Value :=
 #[.int .u64 h.base, .int .i64 h.cap, .int .i64 h.tt, .bool h.cyc, .int .i64 h.scan, v.l, v.h, v.o, v.f, v.r,
  .int .u64 h.base, .int .i64 h.cap, .int .i64 h.tt, .int .i64 h.low.length, .int .i64 h.high.length, .int .i64 h.old.length, .int .i64 h.far.length,
  ov.a, ov.b, ov.c, ov.d, .map (some bp), .map (some bl)]
structure Pl where
 b : Nat
 bp : Nat
 bl : Nat
 B : Nat
structure PlOk (n : Nat) (p : Pl) : Prop where
 b0 : n ≤ p.b
 p0 : n ≤ p.bp
 l0 : n ≤ p.bl
 b1 : p.b < p.B
 p1 : p.bp < p.B
 l1 : p.bl < p.B
 bp : p.b ≠ p.bp
 bl : p.b ≠ p.bl
 pl : p.bp ≠ p.bl
structure St (w0 w : World) (p : Pl) (h : Hp) (v : Hv) (s : Fnd) (ov : Ov) : Prop where
 hin : HIn w0 h v
 bel : Below w0.heap.size w0 w
 ok : PlOk w0.heap.size p
 B : p.B ≤ w.heap.size
 blk : Blk w p.b (stCells h v ov p.bp p.bl) 122
 o1 : ObsAt w p.B ov.a s.o1
 o2 : ObsAt w p.B ov.b s.o2
 o3 : ObsAt w p.B ov.c s.o3
 o4 : ObsAt w p.B ov.d s.o4
 pm : ∃ n, n ≤ s.o1.length + s.o2.length + s.o3.length + s.o4.length ∧ MapIs Tryz.prog 24 w p.bp n (pfV s.pf)
 lm : ∃ n, n ≤ s.o1.length ∧ MapIs Tryz.prog 24 w p.bl n (lfV s.lf)
 f1 : (∀ o ∈ s.o1, FitB h.low.length o) ∧ s.o1.length ≤ h.low.length
 f2 : (∀ o ∈ s.o2, FitB h.high.length o) ∧ s.o2.length ≤ h.high.length
 f3 : (∀ o ∈ s.o3, FitB h.old.length o) ∧ s.o3.length ≤ h.old.length
 f4 : (∀ o ∈ s.o4, FitB h.far.length o) ∧ s.o4.length ≤ h.far.length
 rg : ∀ a q, s.pf a = some q → 1 ≤ q ∧ q ≤ 4
 lr : ∀ a q, s.lf a = some q → 0 ≤ q.1 ∧ q.1 ≤ 255
theorem obs_kept {W w : World} {B : Nat} {v : Value} {l : List Ob} {r : Nat} (h : ObsAt W B v l) (hg : W.grownBy w (some r)) (hr : r < B) : ObsAt w B v l := by
 refine World.ownsRow.kept h hg ?_
 rcases hv : v.ownBlock with _ | k
 ·exact .inl rfl
 ·refine .inr fun e => ?_
  have := World.ownsRow.lt h k hv
  cases e
  omega
variable {w0 w W : World} {p : Pl} {h : Hp} {v : Hv} {s : Fnd} {ov : Ov}
theorem below_of {A B : World} {n r : Nat} (hg : A.grownBy B (some r)) (hn : n ≤ A.heap.size) (hr : n ≤ r) : Below n A B :=
 ⟨hg.os, hg.tape, hg.output, hg.size, fun k hk => hg.block k (by omega) (fun e => by cases e; omega)⟩
theorem St.tr (a : St w0 W p h v s ov) (hb : Below W.heap.size W w) : St w0 w p h v s ov := by
 obtain ⟨n1, h1, m1⟩ := a.pm
 obtain ⟨n2, h2, m2⟩ := a.lm
 exact ⟨a.hin, kp_tr a.bel hb, a.ok, Nat.le_trans a.B hb.size, a.blk.tr hb, obs_tr a.o1 hb, obs_tr a.o2 hb, obs_tr a.o3 hb, obs_tr a.o4 hb, ⟨n1, h1, m1.tr hb⟩, ⟨n2, h2, m2.tr hb⟩, a.f1, a.f2, a.f3, a.f4, a.rg, a.lr⟩
theorem St.alloc (a : St w0 W p h v s ov) (o : Obj) : St w0 (W.alloc o) p h v s ov := a.tr ((Below.refl _ _).alloc (Nat.le_refl _) _)
theorem St.drew (a : St w0 W p h v s ov) : St w0 W.drew p h v s ov := a.tr (Below.refl _ _).drew
theorem St.now (a : St w0 W p h v s ov) : HIn W h v := a.hin.tr a.bel
theorem Hp.part_cases {P : List Int → Prop} (h : Hp) (q : Nat) (h1 : P h.low) (h2 : P h.high) (h3 : P h.old) (h4 : P h.far) : P (h.part q) := by
 unfold Hp.part
 repeat' split
 all_goals assumption
def Hv.part (v : Hv) (q : Nat) : Value := if q = 1 then v.l else if q = 2 then v.h else if q = 3 then v.o else v.f
def Ov.part (v : Ov) (q : Nat) : Value := if q = 1 then v.a else if q = 2 then v.b else if q = 3 then v.c else v.d
theorem HIn.part (a : HIn W h v) (q : Nat) : NumsIn W (v.part q) (h.part q) ∧ Small (h.part q) := by
 unfold Hp.part Hv.part
 repeat' split
 ·exact ⟨a.low, a.slow⟩
 ·exact ⟨a.high, a.shigh⟩
 ·exact ⟨a.old, a.sold⟩
 ·exact ⟨a.far, a.sfar⟩
theorem St.obs (a : St w0 W p h v s ov) (q : Nat) : ObsAt W p.B (ov.part q) (s.obs q) ∧ (∀ o ∈ s.obs q, FitB (h.part q).length o) ∧ (s.obs q).length ≤ (h.part q).length := by
 unfold Ov.part Fnd.obs Hp.part
 repeat' split
 ·exact ⟨a.o1, a.f1⟩
 ·exact ⟨a.o2, a.f2⟩
 ·exact ⟨a.o3, a.f3⟩
 ·exact ⟨a.o4, a.f4⟩
end Go.Proofs.YtpgjploaliefdaaGreat.ck
namespace Go.Proofs.YtpgjploaliefdaaGreat.cp
open Go hp ob hd
set_option linter.unusedVariables false
set_option linter.unusedSimpArgs false
theorem walkF_tg {bg : Nat → Nat → Int → Option (Ob × Nat)} {zs : List Int} {len : Nat} (hz : ∀ i, 0 ≤ zs.getD i 0 ∧ zs.getD i 0 < 18446744073709551616) (hbg : ∀ k pos x o k', 0 ≤ x ∧ x < 18446744073709551616 → bg k pos x = some (o, k') → 0 ≤ o.t ∧ o.t < 18446744073709551616) :
  ∀ {f k pos : Nat} {acc l : List Ob} {k2 : Nat}, (∀ o ∈ acc, 0 ≤ o.t ∧ o.t < 18446744073709551616) → walkF bg zs len f k pos acc = .ok l k2 → ∀ o ∈ l, 0 ≤ o.t ∧ o.t < 18446744073709551616
 | 0, k, pos, acc, l, k2, ha, h => by cases h
 | f + 1, k, pos, acc, l, k2, ha, h => by
  by_cases hp : pos < len
  ·rw [walkF_step hp] at h
   split at h
   ·cases h
   ·rename_i o k' hb
    have h1 := hbg _ _ _ _ _ (hz pos) hb
    split at h
    ·cases h
    ·split at h
     ·exact walkF_tg hz hbg (acc := acc ++ [o]) (fun o' ho' => by
       rcases List.mem_append.1 ho' with h6 | h6
       ·exact ha _ h6
       ·simp at h6; subst h6; exact h1) h
     ·cases h
  ·rw [walkF_end hp] at h
   cases h
   exact ha
theorem oldF_tg {zs : List Int} {ss : List (Int × Int)} {l : List Ob} {k : Nat} (hz : ∀ i, 0 ≤ zs.getD i 0 ∧ zs.getD i 0 < 18446744073709551616) (h : oldF zs ss = .ok l k) : ∀ o ∈ l, 0 ≤ o.t ∧ o.t < 18446744073709551616 := by
 unfold oldF at h
 generalize hw : walkF (bgO ss.length ss) zs zs.length (zs.length + 1) 0 0 [] = r at h
 rcases r with ⟨l', k'⟩ | ⟨c, k'⟩
 ·obtain rfl := oldRes_ok h
  refine walkF_tg hz (fun k pos x o k' hx hb => ?_) (acc := []) (fun o ho => by simp at ho) hw
  unfold bgO at hb
  split at hb
  ·split at hb
   ·cases hb
    show 0 ≤ adV x ∧ adV x < _
    unfold adV
    split <;> omega
   ·cases hb
  ·unfold bgN at hb
   split at hb
   ·cases hb
    exact ⟨Int.le_refl _, (show (0 : Int) < 18446744073709551616 by decide)⟩
   ·cases hb
 ·cases h
theorem looks_two {h : Hp} {s : Fnd} (e : looks h 2 = some s) : s = Fnd.nil ∧ layR h.lay = true := by
 obtain ⟨s1, e1, r1⟩ := looks_some e
 obtain ⟨s0, e0, r0⟩ := looks_some e1
 cases e0
 have r0 : (if boundedB h then some Fnd.nil else none) = some s1 := r0
 have r1 : (if restingB h then some s1 else none) = some s := r1
 split at r0
 ·rename_i hb
  cases r0
  split at r1
  ·cases r1
   refine ⟨rfl, ?_⟩
   unfold boundedB at hb
   rw [Bool.and_eq_true] at hb
   exact hb.1
  ·cases r1
 ·cases r0
theorem looks_found {h : Hp} {s : Fnd} : ∀ {k : Nat}, looks h (k + 3) = some s → runW h 4 = some s
 | 0, e => by
  obtain ⟨s0, e0, r0⟩ := looks_some e
  exact r0
 | k + 1, e => by
  obtain ⟨s0, e0, r0⟩ := looks_some e
  have : s0 = s := by
   unfold ruleF at r0
   rw [if_neg (by omega), if_neg (by omega), if_neg (by omega)] at r0
   repeat' split at r0
   all_goals first | (cases r0; rfl) | cases r0
  subst this
  exact looks_found e0
end Go.Proofs.YtpgjploaliefdaaGreat.cp
namespace Go.Proofs.YtpgjploaliefdaaGreat.im
open Go hp ob hd cp
set_option linter.unusedVariables false
set_option linter.unusedSimpArgs false
theorem shapesF_acc {lf : Int → Option (Int × Int)} {zs : List Int} : ∀ (f at_ : Nat) (acc : List (Int × Int)), shapesF lf zs f at_ acc = acc ++ shapesF lf zs f at_ []
 | 0, at_, acc => by simp [shapesF]
 | f + 1, at_, acc => by
  unfold shapesF
  split
  ·split
   ·split
    ·simp
    ·rename_i sp _
     rw [shapesF_acc f _ (acc ++ [sp]), shapesF_acc f _ ([] ++ [sp])]
     simp
   ·split
    ·exact shapesF_acc f _ acc
    ·simp
  ·simp
theorem old_lf_go {lf : Int → Option (Int × Int)} {zs : List Int} {ss : List (Int × Int)} : ∀ {f k pos : Nat} {acc l : List Ob} {k2 : Nat}, ss.drop k = shapesF lf zs f pos [] → (∀ o ∈ acc, o.g = true → lf o.t = some (o.s, o.p)) → walkF (bgO ss.length ss) zs zs.length f k pos acc = .ok l k2 → ∀ o ∈ l, o.g = true → lf o.t = some (o.s, o.p)
 | 0, k, pos, acc, l, k2, _, ha, h => by cases h
 | f + 1, k, pos, acc, l, k2, hd, ha, h => by
  by_cases hp : pos < zs.length
  ·rw [walkF_step hp] at h
   split at h
   ·cases h
   ·rename_i o k' hb
    split at h
    ·cases h
    ·split at h
     ·have hd2 := hd
      unfold shapesF at hd2
      rw [if_pos hp] at hd2
      unfold bgO at hb
      by_cases hae : adE (zs.getD pos 0) = 0
      ·rw [if_pos hae] at hb hd2
       split at hb
       ·rename_i hk
        cases hb
        have hkl : k < ss.length := hk.1
        have hd3 : ss.drop k = ss.getD k (0, 0) :: ss.drop (k + 1) := by
         rw [List.drop_eq_getElem_cons hkl, List.getD_eq_getElem?_getD, List.getElem?_eq_getElem hkl]
         rfl
        rw [hd3] at hd2
        split at hd2
        ·cases hd2
        ·rename_i sp hlf
         rw [shapesF_acc] at hd2
         simp only [List.nil_append, List.singleton_append, List.cons.injEq] at hd2
         refine old_lf_go (acc := acc ++ [_]) ?_ (fun o' ho' hg => ?_) h
         ·rw [hd2.1]; exact hd2.2
         ·rcases List.mem_append.1 ho' with h6 | h6
          ·exact ha _ h6 hg
          ·simp at h6
           subst h6
           show lf (adV (zs.getD pos 0)) = some ((ss.getD k (0, 0)).1, (ss.getD k (0, 0)).2)
           rw [hlf, hd2.1]
       ·cases hb
      ·rw [if_neg hae] at hb hd2
       unfold bgN at hb
       split at hb
       ·rename_i hu
        cases hb
        rw [if_pos (by unfold unE; rw [if_pos hu])] at hd2
        refine old_lf_go (acc := acc ++ [_]) hd2 (fun o' ho' hg => ?_) h
        rcases List.mem_append.1 ho' with h6 | h6
        ·exact ha _ h6 hg
        ·simp at h6
         subst h6
         cases hg
       ·cases hb
     ·cases h
  ·rw [walkF_end hp] at h
   cases h
   exact ha
theorem old_lf {lf : Int → Option (Int × Int)} {zs : List Int} {l : List Ob} {k : Nat} (h : oldF zs (shapesA lf zs) = .ok l k) : ∀ o ∈ l, o.g = true → lf o.t = some (o.s, o.p) := by
 unfold oldF at h
 generalize hw : walkF (bgO (shapesA lf zs).length (shapesA lf zs)) zs zs.length (zs.length + 1) 0 0 [] = r at h
 rcases r with ⟨l', k'⟩ | ⟨c, k'⟩
 ·obtain rfl := oldRes_ok h
  exact old_lf_go (acc := []) (by rw [List.drop_zero]; rfl) (fun o ho => by simp at ho) hw
 ·cases h
end Go.Proofs.YtpgjploaliefdaaGreat.im
namespace Go.Proofs.YtpgjploaliefdaaGreat.rh
open Go hp ob hd cp
set_option linter.unusedVariables false
set_option linter.unusedSimpArgs false
structure Rh where
 nodes : List (List Int × List Int)
 roots : List Int
 cls : List Int
 base : Int
 slack : Int
 scan : Int
 tt : Int
def nN (x : Rh) : Nat := min x.nodes.length 10
def gPtrs (x : Rh) (i : Nat) : List Int := (((x.nodes.getD i ([], [])).1).take 4).map fun c => pickI c ((nN x : Int) + 1) - 1
def gData (x : Rh) (i : Nat) : List Int := ((x.nodes.getD i ([], [])).2).take 4
def gRoots (x : Rh) : List Int := if x.roots = [] then [(nN x : Int) - 1] else (x.roots.take 5).map fun c => pickI c ((nN x : Int) + 1) - 1
def slN (x : Rh) (i : Nat) : Nat := (gPtrs x i).length + (gData x i).length
def clC (x : Rh) (i : Nat) : Int := if x.cls = [] then (i : Int) else x.cls.getD (i % x.cls.length) 0
def clK (x : Rh) (c : Bool) (i : Nat) : Nat := if (pickI (clC x i) 3).toNat = 2 ∧ c = false then 1 else (pickI (clC x i) 3).toNat
def clF (x : Rh) (i : Nat) : Bool := decide (pickI (Int.tdiv (clC x i) 3) 2 = 1)
def hpt (x : Rh) (c : Bool) (i : Nat) : Nat := if clK x c i < 2 then 2 - clK x c i else 0
def opt (x : Rh) (c : Bool) (i : Nat) : Nat := if 0 < clK x c i ∧ c = true then (if clF x i then 4 else 3) else 0
def offs (z : Nat → Nat) (q : Nat → Nat) (p : Nat) : Nat → Nat
 | 0 => 0
 | i + 1 => offs z q p i + if q i = p then 1 + z i else 0
def hof (x : Rh) (c : Bool) (p i : Nat) : Nat := offs (slN x) (hpt x c) p i
def oof (x : Rh) (c : Bool) (p i : Nat) : Nat := offs (slN x) (opt x c) p i
def capN (x : Rh) (c : Bool) : Nat := max (hof x c 1 (nN x) + hof x c 2 (nN x) + hof x c 0 (nN x)) (oof x c 3 (nN x) + oof x c 4 (nN x)) + (pickI x.slack 12).toNat
def scanN (x : Rh) (c : Bool) : Nat := if c = true ∧ 0 < hof x c 1 (nN x) then (pickI x.scan (hof x c 1 (nN x))).toNat else hof x c 1 (nN x)
def layL (x : Rh) (c : Bool) : Lay := ⟨1 + x.base % (9223372036854775808 - 2 * capN x c), capN x c, pickI x.tt 2, hof x c 1 (nN x), hof x c 2 (nN x), oof x c 3 (nN x), oof x c 4 (nN x)⟩
def refP (L : Lay) (p a : Nat) : Int := if p = 0 then 0 else 2 * (firstI L p + a) + 1
def hrf (x : Rh) (c : Bool) (j : Nat) : Int := refP (layL x c) (hpt x c j) (hof x c (hpt x c j) j)
def orf (x : Rh) (c : Bool) (j : Nat) : Int := refP (layL x c) (opt x c j) (oof x c (opt x c j) j)
def slotV (x : Rh) (c : Bool) (p at_ : Nat) (tg : Int) (tw : Int) : Int :=
 if tg < 0 then 0 else if 2 < p then orf x c tg.toNat
 else if (p = 1 ∧ scanN x c ≤ at_) ∧ (hpt x c tg.toNat = 0 ∨ (0 < opt x c tg.toNat ∧ tw.tmod 2 = 0)) then orf x c tg.toNat else hrf x c tg.toNat
def wr (n : Int) : Int := IntKind.i64.wrap n
def slotsV (x : Rh) (c : Bool) (p a : Nat) (tw : Int) (k : Nat) : List Int → List Int
 | [] => []
 | t :: l => slotV x c p (a + 1 + k) t (wr (tw + k)) :: slotsV x c p a tw (k + 1) l
def hPc (x : Rh) (c : Bool) (i : Nat) : Pc := ⟨packV (slN x i) (gPtrs x i).length, slN x i, (gPtrs x i).length, false, slotsV x c (hpt x c i) (hof x c (hpt x c i) i) (wr (x.slack + i)) 0 (gPtrs x i) ++ gData x i⟩
def oPc (x : Rh) (c : Bool) (i : Nat) : Pc := if 0 < hpt x c i then ⟨hrf x c i, slN x i, (gPtrs x i).length, true, List.replicate (slN x i) 0⟩
 else ⟨packV (slN x i) (gPtrs x i).length, slN x i, (gPtrs x i).length, false, slotsV x c (opt x c i) (oof x c (opt x c i) i) 0 0 (gPtrs x i) ++ gData x i⟩
def pieces (q : Nat → Nat) (P : Nat → Pc) (p n : Nat) : List Pc := (List.range n).flatMap fun i => if q i = p then [P i] else []
def hpcs (x : Rh) (c : Bool) (p n : Nat) : List Pc := pieces (hpt x c) (hPc x c) p n
def opcs (x : Rh) (c : Bool) (p n : Nat) : List Pc := pieces (opt x c) (oPc x c) p n
def rootV (x : Rh) (c : Bool) (r : Int) : Int := if 0 ≤ r then hrf x c r.toNat else 0
def heapP (x : Rh) (c : Bool) : Hp := ⟨(layL x c).base, (layL x c).cap, (layL x c).tt, c, scanN x c, wordsOf (hpcs x c 1 (nN x)), wordsOf (hpcs x c 2 (nN x)), wordsOf (opcs x c 3 (nN x)), wordsOf (opcs x c 4 (nN x)), (gRoots x).map (rootV x c)⟩
def heapF (x : Rh) : Hp := if hof x true 1 (nN x) = 0 then heapP x false else heapP x true
structure RhOk (x : Rh) : Prop where
 base : U64 x.base
 data : ∀ n ∈ x.nodes, ∀ d ∈ n.2, U64 d
theorem pieces_succ (q : Nat → Nat) (P : Nat → Pc) (p n : Nat) : pieces q P p (n + 1) = pieces q P p n ++ if q n = p then [P n] else [] := by
 unfold pieces
 rw [List.range_succ, List.flatMap_append]
 simp
theorem words_pieces {z : Nat → Nat} {q : Nat → Nat} {P : Nat → Pc} (h : ∀ i, (P i).s = z i ∧ (P i).ys.length = z i) (p : Nat) : ∀ n, (wordsOf (pieces q P p n)).length = offs z q p n
 | 0 => rfl
 | n + 1 => by
  rw [pieces_succ, wordsOf_app, List.length_append, words_pieces h p n]
  show _ = _ + _
  congr 1
  split
  ·simp [wordsOf, (h n).2]; omega
  ·rfl
theorem slotsV_len (x : Rh) (c : Bool) (p a : Nat) (tw : Int) : ∀ (l : List Int) (k : Nat), (slotsV x c p a tw k l).length = l.length
 | [], k => rfl
 | t :: l, k => by simp [slotsV, slotsV_len x c p a tw l (k + 1)]
theorem hPc_s (x : Rh) (c : Bool) (i : Nat) : (hPc x c i).s = slN x i ∧ (hPc x c i).ys.length = slN x i := by
 refine ⟨rfl, ?_⟩
 show (slotsV _ _ _ _ _ _ _ ++ gData x i).length = _
 rw [List.length_append, slotsV_len]
 rfl
theorem oPc_s (x : Rh) (c : Bool) (i : Nat) : (oPc x c i).s = slN x i ∧ (oPc x c i).ys.length = slN x i := by
 unfold oPc
 split
 ·exact ⟨rfl, by simp⟩
 ·refine ⟨rfl, ?_⟩
  show (slotsV _ _ _ _ _ _ _ ++ gData x i).length = _
  rw [List.length_append, slotsV_len]
  rfl
theorem hlen (x : Rh) (c : Bool) (p n : Nat) : (wordsOf (hpcs x c p n)).length = hof x c p n := words_pieces (hPc_s x c) p n
theorem olen (x : Rh) (c : Bool) (p n : Nat) : (wordsOf (opcs x c p n)).length = oof x c p n := words_pieces (oPc_s x c) p n
theorem heapP_lay (x : Rh) (c : Bool) : (heapP x c).lay = layL x c := by
 unfold Hp.lay heapP
 simp only [hlen, olen]
 rfl
theorem slN_le (x : Rh) (i : Nat) : slN x i ≤ 8 := by
 unfold slN gPtrs gData
 simp only [List.length_map, List.length_take]
 omega
theorem offs_mono (z q : Nat → Nat) (p : Nat) {i j : Nat} (h : i ≤ j) : offs z q p i ≤ offs z q p j := by
 induction j with
 | zero => obtain rfl : i = 0 := by omega
           exact Nat.le_refl _
 | succ j ih =>
  rcases Nat.lt_or_ge i (j + 1) with h1 | h1
  ·exact Nat.le_trans (ih (by omega)) (Nat.le_add_right _ _)
  ·obtain rfl : i = j + 1 := by omega
   exact Nat.le_refl _
theorem offs_lt {z q : Nat → Nat} {p i n : Nat} (h : i < n) (hq : q i = p) : offs z q p i + 1 + z i ≤ offs z q p n := by
 have : offs z q p (i + 1) ≤ offs z q p n := offs_mono z q p h
 have e : offs z q p (i + 1) = offs z q p i + (1 + z i) := by show _ + _ = _; rw [if_pos hq]
 omega
theorem offs_sum (z q : Nat → Nat) (hz : ∀ i, z i ≤ 8) (ps : List Nat) (hp : ps.Nodup) : ∀ n, (ps.map fun p => offs z q p n).sum ≤ 9 * n
 | 0 => by
  have : ∀ l : List Nat, (l.map fun p => offs z q p 0).sum = 0 := fun l => by
   induction l with
   | nil => rfl
   | cons a l ih => rw [List.map_cons, List.sum_cons, ih]; rfl
  rw [this]
  exact Nat.le_refl _
 | n + 1 => by
  have ih := offs_sum z q hz ps hp n
  have key : ∀ l : List Nat, l.Nodup → (l.map fun p => offs z q p (n + 1)).sum ≤ (l.map fun p => offs z q p n).sum + if q n ∈ l then 1 + z n else 0 := by
   intro l hl
   induction l with
   | nil => simp
   | cons a l ih =>
    have h1 := ih (List.nodup_cons.1 hl).2
    have h2 := (List.nodup_cons.1 hl).1
    have e : offs z q a (n + 1) = offs z q a n + if q n = a then 1 + z n else 0 := rfl
    simp only [List.map_cons, List.sum_cons, e]
    by_cases h3 : q n = a
    ·have h4 : ¬ q n ∈ l := by rw [h3]; exact h2
     rw [if_neg h4] at h1
     rw [if_pos h3, if_pos (by rw [h3]; exact List.mem_cons_self)]
     omega
    ·rw [if_neg h3]
     by_cases h4 : q n ∈ l
     ·rw [if_pos h4] at h1
      rw [if_pos (List.mem_cons_of_mem _ h4)]
      omega
     ·rw [if_neg h4] at h1
      omega
  have := key ps hp
  have hz1 := hz n
  split at this <;> omega
theorem nN_le (x : Rh) : nN x ≤ 10 := Nat.min_le_right _ _
theorem hof_le (x : Rh) (c : Bool) : hof x c 1 (nN x) + hof x c 2 (nN x) + hof x c 0 (nN x) ≤ 90 := by
 have := offs_sum (slN x) (hpt x c) (slN_le x) [1, 2, 0] (by decide) (nN x)
 have h1 := nN_le x
 simp only [List.map_cons, List.map_nil, List.sum_cons, List.sum_nil] at this
 unfold hof
 omega
theorem oof_le (x : Rh) (c : Bool) : oof x c 3 (nN x) + oof x c 4 (nN x) ≤ 90 := by
 have := offs_sum (slN x) (opt x c) (slN_le x) [3, 4] (by decide) (nN x)
 have h1 := nN_le x
 simp only [List.map_cons, List.map_nil, List.sum_cons, List.sum_nil] at this
 unfold oof
 omega
theorem cap_le (x : Rh) (c : Bool) : capN x c ≤ 101 := by
 have h1 := hof_le x c
 have h2 := oof_le x c
 have h3 := pickI_in x.slack (n := 12) (by decide)
 unfold capN
 omega
theorem lay_right {x : Rh} (hx : 0 ≤ x.base) (c : Bool) : layR (layL x c) = true := by
 have h1 := cap_le x c
 have h2 := pickI_in x.tt (n := 2) (by decide)
 have h3 : 0 ≤ x.base % (9223372036854775808 - 2 * (capN x c : Int)) ∧ x.base % (9223372036854775808 - 2 * (capN x c : Int)) < 9223372036854775808 - 2 * (capN x c : Int) := ⟨Int.emod_nonneg _ (by omega), Int.emod_lt_of_pos _ (by omega)⟩
 have h4 : hof x c 1 (nN x) + hof x c 2 (nN x) ≤ capN x c := by unfold capN; omega
 have h5 : oof x c 3 (nN x) + oof x c 4 (nN x) ≤ capN x c := by unfold capN; omega
 unfold layR layL
 simp only [decide_eq_true_eq]
 omega
theorem scan_le (x : Rh) (c : Bool) : scanN x c ≤ hof x c 1 (nN x) ∧ (c = true → 0 < hof x c 1 (nN x) → scanN x c < hof x c 1 (nN x)) ∧ (c = false → scanN x c = hof x c 1 (nN x)) := by
 unfold scanN
 split
 ·rename_i h
  have := pickI_in x.scan (n := (hof x c 1 (nN x) : Int)) (by omega)
  refine ⟨by omega, fun _ _ => by omega, fun e => by rw [e] at h; cases h.1⟩
 ·rename_i h
  exact ⟨Nat.le_refl _, fun h1 h2 => absurd ⟨h1, h2⟩ h, fun _ => rfl⟩
end Go.Proofs.YtpgjploaliefdaaGreat.rh
