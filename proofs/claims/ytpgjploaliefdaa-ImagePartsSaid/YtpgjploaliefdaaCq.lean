/- Layer 11, plain: objects stand one behind the other; which address is whose. No conditions. -/
import Derived.Test.YtpgjploaliefdaaCp
namespace Go.Proofs.Ytpgjploaliefdaa.cp
open Go Go.Proofs.Ytpgjploaliefdaa.hp Go.Proofs.Ytpgjploaliefdaa.ob Go.Proofs.Ytpgjploaliefdaa.hd
set_option linter.unusedVariables false
set_option linter.unusedSimpArgs false
/-- Objects that stand one behind the other, from a place on, up to the end. -/
def ChainO (len : Nat) : Nat → List Ob → Prop
  | pos, [] => pos = len
  | pos, o :: l => o.pos = pos ∧ (0 ≤ o.s ∧ o.s ≤ 255 ∧ 0 ≤ o.p ∧ o.p ≤ o.s) ∧ pos + 1 + o.s.toNat ≤ len ∧ ChainO len (pos + 1 + o.s.toNat) l
theorem walkF_chain {bg : Nat → Nat → Int → Option (Ob × Nat)} {zs : List Int} {len : Nat} (hbg : ∀ k pos x o k', bg k pos x = some (o, k') → o.pos = pos ∧ 0 ≤ o.s ∧ o.s ≤ 255 ∧ 0 ≤ o.p ∧ o.p ≤ o.s) :
    ∀ {f k pos : Nat} {acc l : List Ob} {k2 : Nat}, pos ≤ len → walkF bg zs len f k pos acc = .ok l k2 → ∃ l', l = acc ++ l' ∧ ChainO len pos l'
  | 0, k, pos, acc, l, k2, hn, h => by cases h
  | f + 1, k, pos, acc, l, k2, hn, h => by
    by_cases hp : pos < len
    · rw [walkF_step hp] at h
      split at h
      · cases h
      · rename_i o k' hb
        obtain ⟨h1, h2, h3, h4, h5⟩ := hbg _ _ _ _ _ hb
        split at h
        · cases h
        · rename_i hfit
          split at h
          · obtain ⟨l', rfl, hc⟩ := walkF_chain hbg (acc := acc ++ [o]) (by omega) h
            exact ⟨o :: l', by simp, h1, ⟨h2, h3, h4, h5⟩, by omega, hc⟩
          · cases h
    · rw [walkF_end hp] at h
      cases h
      exact ⟨[], by simp, (by show pos = len; omega)⟩
theorem newF_chain {zs : List Int} {l : List Ob} {k : Nat} (h : newF zs = .ok l k) : ChainO zs.length 0 l := by
  obtain ⟨l', rfl, hc⟩ := walkF_chain bgN_fit (Nat.zero_le _) h
  exact hc
theorem oldF_chain {zs : List Int} {ss : List (Int × Int)} {l : List Ob} {k : Nat} (h : oldF zs ss = .ok l k) : ChainO zs.length 0 l := by
  unfold oldF at h
  generalize hw : walkF (bgO ss.length ss) zs zs.length (zs.length + 1) 0 0 [] = r at h
  rcases r with ⟨l', k'⟩ | ⟨c, k'⟩
  · obtain rfl := oldRes_ok h
    obtain ⟨l', rfl, hc⟩ := walkF_chain (bgO_fit _ _) (Nat.zero_le _) hw
    exact hc
  · cases h
theorem walkR_chain {h : Hp} {p : Nat} {s : Fnd} {l : List Ob} {k : Nat} (e : walkR h p s = .ok l k) : ChainO (h.part p).length 0 l := by
  unfold walkR at e
  split at e
  · exact newF_chain e
  · exact oldF_chain e
theorem ChainO.from {len : Nat} : ∀ {pos : Nat} {l : List Ob}, ChainO len pos l → ∀ o ∈ l, (pos : Int) ≤ o.pos ∧ FitB len o
  | pos, [], h, o, ho => by simp at ho
  | pos, a :: l, ⟨h1, h2, h3, h4⟩, o, ho => by
    rcases List.mem_cons.1 ho with rfl | ho
    · exact ⟨by omega, by omega, h2.1, h2.2.1, h2.2.2.1, h2.2.2.2, by omega⟩
    · have := h4.from o ho
      exact ⟨by omega, this.2⟩
theorem ChainO.apart {len : Nat} : ∀ {pos : Nat} {l : List Ob}, ChainO len pos l → ∀ a ∈ l, ∀ b ∈ l, a.pos = b.pos → a = b
  | pos, [], h, a, ha, b, hb, e => by simp at ha
  | pos, c :: l, ⟨h1, h2, h3, h4⟩, a, ha, b, hb, e => by
    rcases List.mem_cons.1 ha with e1 | ha1 <;> rcases List.mem_cons.1 hb with e2 | hb1
    · rw [e1, e2]
    · have := (h4.from b hb1).1
      rw [e1] at e
      omega
    · have := (h4.from a ha1).1
      rw [e2] at e
      omega
    · exact h4.apart a ha1 b hb1 e
theorem ChainO.nodup {len : Nat} : ∀ {pos : Nat} {l : List Ob}, ChainO len pos l → l.Pairwise fun a b => a.pos < b.pos
  | pos, [], h => List.Pairwise.nil
  | pos, c :: l, ⟨h1, h2, h3, h4⟩ => by
    refine List.pairwise_cons.2 ⟨fun b hb => ?_, h4.nodup⟩
    have := (h4.from b hb).1
    omega
open Classical in
theorem noteP_val {L : Lay} {p : Int} : ∀ {l : List Ob} {f : Int → Option Int} {a : Int}, noteP L p l f a = if ∃ o ∈ l, adr L p o.pos = a then some p else f a
  | [], f, a => by simp [noteP]
  | o :: l, f, a => by
    show noteP L p l (pfS f (adr L p o.pos) p) a = _
    rw [noteP_val]
    by_cases h1 : ∃ o ∈ l, adr L p o.pos = a
    · obtain ⟨o', ho', e⟩ := h1
      rw [if_pos ⟨o', ho', e⟩, if_pos ⟨o', List.mem_cons_of_mem _ ho', e⟩]
    · rw [if_neg h1]
      unfold pfS
      by_cases h2 : a = adr L p o.pos
      · rw [if_pos h2, if_pos ⟨o, by simp, h2.symm⟩]
      · rw [if_neg h2, if_neg]
        rintro ⟨o', ho', e⟩
        rcases List.mem_cons.1 ho' with rfl | ho'
        · exact h2 e.symm
        · exact h1 ⟨o', ho', e⟩
theorem noteL_none {L : Lay} : ∀ {l : List Ob} {f : Int → Option (Int × Int)} {a : Int}, (¬ ∃ o ∈ l, adr L 1 o.pos = a) → noteL L l f a = f a
  | [], f, a, h => rfl
  | o :: l, f, a, h => by
    show noteL L l (lfS f (adr L 1 o.pos) (o.s, o.p)) a = _
    rw [noteL_none (fun ⟨o', ho', e⟩ => h ⟨o', List.mem_cons_of_mem _ ho', e⟩)]
    unfold lfS
    rw [if_neg (fun e => h ⟨o, by simp, e.symm⟩)]
theorem noteL_at {L : Lay} : ∀ {l : List Ob} {f : Int → Option (Int × Int)} {o : Ob}, (∀ a ∈ l, ∀ b ∈ l, adr L 1 a.pos = adr L 1 b.pos → a = b) → l.Nodup → o ∈ l → noteL L l f (adr L 1 o.pos) = some (o.s, o.p)
  | [], f, o, h, hn, ho => by simp at ho
  | c :: l, f, o, h, hn, ho => by
    show noteL L l (lfS f (adr L 1 c.pos) (c.s, c.p)) (adr L 1 o.pos) = _
    rcases List.mem_cons.1 ho with rfl | ho
    · rw [noteL_none]
      · unfold lfS
        rw [if_pos rfl]
      · rintro ⟨o', ho', e⟩
        have := h o' (List.mem_cons_of_mem _ ho') o (by simp) e
        subst this
        exact (List.nodup_cons.1 hn).1 ho'
    · exact noteL_at (fun a ha b hb => h a (List.mem_cons_of_mem _ ha) b (List.mem_cons_of_mem _ hb)) (List.nodup_cons.1 hn).2 ho
theorem adr_in {L : Lay} {p x : Int} (h : 0 ≤ x ∧ x < lenI L p) : adr L p x = firstI L p + x := if_pos h
theorem apart {L : Lay} (hr : layR L = true) {p q x y : Int} (hp : 1 ≤ p ∧ p ≤ 4) (hq : 1 ≤ q ∧ q ≤ 4) (hx : 0 ≤ x ∧ x < lenI L p) (hy : 0 ≤ y ∧ y < lenI L q) (e : firstI L p + x = firstI L q + y) : p = q ∧ x = y := by
  obtain ⟨r1, r2, r3, r4, r5, r6, r7⟩ := layR_t hr
  unfold firstI lenI at *
  rcases (show p = 1 ∨ p = 2 ∨ p = 3 ∨ p = 4 by omega) with rfl | rfl | rfl | rfl <;> rcases (show q = 1 ∨ q = 2 ∨ q = 3 ∨ q = 4 by omega) with rfl | rfl | rfl | rfl <;> rcases r5 with h5 | h5 <;> rw [h5] at e <;> simp at * <;> omega
theorem adr_pos {L : Lay} (hr : layR L = true) {p x : Int} (hp : 1 ≤ p ∧ p ≤ 4) (hx : 0 ≤ x ∧ x < lenI L p) : 1 ≤ firstI L p + x ∧ firstI L p + x < 9223372036854775808 := by
  obtain ⟨r1, r2, r3, r4, r5, r6, r7⟩ := layR_t hr
  unfold firstI lenI at *
  rcases (show p = 1 ∨ p = 2 ∨ p = 3 ∨ p = 4 by omega) with rfl | rfl | rfl | rfl <;> rcases r5 with h5 | h5 <;> rw [h5] <;> simp at * <;> omega
theorem lay_len (h : Hp) (p : Nat) (hp : 1 ≤ p ∧ p ≤ 4) : lenI h.lay p = (h.part p).length := by
  unfold lenI Hp.lay Hp.part
  rcases (show p = 1 ∨ p = 2 ∨ p = 3 ∨ p = 4 by omega) with rfl | rfl | rfl | rfl <;> simp
/-- What four walks found. -/
structure Found (h : Hp) (s : Fnd) : Prop where
  o1 : ∃ k, newF h.low = .ok s.o1 k
  o2 : ∃ k, newF h.high = .ok s.o2 k
  o3 : ∃ k, oldF h.old (shapesA s.lf h.old) = .ok s.o3 k
  o4 : ∃ k, oldF h.far (shapesA s.lf h.far) = .ok s.o4 k
  lf : s.lf = noteL h.lay s.o1 fun _ => none
  pf : s.pf = noteP h.lay 4 s.o4 (noteP h.lay 3 s.o3 (noteP h.lay 2 s.o2 (noteP h.lay 1 s.o1 fun _ => none)))
theorem runW_succ {h : Hp} {k : Nat} {s : Fnd} (e : runW h (k + 1) = some s) : ∃ s0 l j, runW h k = some s0 ∧ walkR h (k + 1) s0 = .ok l j ∧ s = s0.note h.lay (k + 1) l := by
  have e : (runW h k).bind (walkS h (k + 1)) = some s := e
  rcases hk : runW h k with _ | s0
  · rw [hk] at e; cases e
  · rw [hk] at e
    have e : walkS h (k + 1) s0 = some s := e
    unfold walkS at e
    split at e
    · rename_i l j hw
      cases e
      exact ⟨s0, l, j, rfl, hw, rfl⟩
    · cases e
theorem found_of {h : Hp} {s : Fnd} (e : runW h 4 = some s) : Found h s := by
  obtain ⟨s3, l4, j4, e3, w4, rfl⟩ := runW_succ e
  obtain ⟨s2, l3, j3, e2, w3, rfl⟩ := runW_succ e3
  obtain ⟨s1, l2, j2, e1, w2, rfl⟩ := runW_succ e2
  obtain ⟨s0, l1, j1, e0, w1, rfl⟩ := runW_succ e1
  cases e0
  exact ⟨⟨_, w1⟩, ⟨_, w2⟩, ⟨_, w3⟩, ⟨_, w4⟩, rfl, rfl⟩
theorem of_found {h : Hp} {s : Fnd} (f : Found h s) : runW h 4 = some s := by
  obtain ⟨o1, o2, o3, o4, pf, lf⟩ := s
  obtain ⟨⟨k1, e1⟩, ⟨k2, e2⟩, ⟨k3, e3⟩, ⟨k4, e4⟩, e5, e6⟩ := f
  dsimp only at e1 e2 e3 e4 e5 e6
  subst e5 e6
  have r1 : runW h 1 = some (Fnd.nil.note h.lay 1 o1) := by
    show walkS h 1 Fnd.nil = _
    unfold walkS
    rw [show walkR h 1 Fnd.nil = newF h.low from rfl, e1]
  have r2 : runW h 2 = some ((Fnd.nil.note h.lay 1 o1).note h.lay 2 o2) := by
    show (runW h 1).bind _ = _
    rw [r1]
    show walkS h 2 _ = _
    unfold walkS
    rw [show walkR h 2 (Fnd.nil.note h.lay 1 o1) = newF h.high from rfl, e2]
  have r3 : runW h 3 = some (((Fnd.nil.note h.lay 1 o1).note h.lay 2 o2).note h.lay 3 o3) := by
    show (runW h 2).bind _ = _
    rw [r2]
    show walkS h 3 _ = _
    unfold walkS
    rw [show walkR h 3 ((Fnd.nil.note h.lay 1 o1).note h.lay 2 o2) = oldF h.old (shapesA (noteL h.lay o1 fun _ => none) h.old) from rfl, e3]
  show (runW h 3).bind _ = _
  rw [r3]
  show walkS h 4 _ = _
  unfold walkS
  rw [show walkR h 4 (((Fnd.nil.note h.lay 1 o1).note h.lay 2 o2).note h.lay 3 o3) = oldF h.far (shapesA (noteL h.lay o1 fun _ => none) h.far) from rfl, e4]
  rfl
theorem Found.chain {h : Hp} {s : Fnd} (f : Found h s) (p : Nat) (hp : 1 ≤ p ∧ p ≤ 4) : ChainO (h.part p).length 0 (s.obs p) := by
  obtain ⟨⟨k1, e1⟩, ⟨k2, e2⟩, ⟨k3, e3⟩, ⟨k4, e4⟩, e5, e6⟩ := f
  unfold Hp.part Fnd.obs
  rcases (show p = 1 ∨ p = 2 ∨ p = 3 ∨ p = 4 by omega) with rfl | rfl | rfl | rfl
  · exact newF_chain e1
  · exact newF_chain e2
  · exact oldF_chain e3
  · exact oldF_chain e4
theorem Found.at {h : Hp} {s : Fnd} (f : Found h s) {p : Nat} (hp : 1 ≤ p ∧ p ≤ 4) {o : Ob} (ho : o ∈ s.obs p) : 0 ≤ o.pos ∧ o.pos < lenI h.lay p ∧ adr h.lay p o.pos = firstI h.lay p + o.pos := by
  have h1 := ((f.chain p hp).from o ho).2
  have h2 := lay_len h p hp
  have h3 : 0 ≤ o.pos ∧ o.pos < lenI h.lay p := by
    obtain ⟨a, b, c, d, e, g⟩ := h1
    omega
  exact ⟨h3.1, h3.2, adr_in h3⟩
/-- An address is noted just if an object stands there, with its part. -/
theorem Found.pf_iff {h : Hp} {s : Fnd} (f : Found h s) (hr : layR h.lay = true) (a q : Int) : s.pf a = some q ↔ ∃ p : Nat, q = p ∧ (1 ≤ p ∧ p ≤ 4) ∧ ∃ o ∈ s.obs p, firstI h.lay p + o.pos = a := by
  have key : ∀ (p p' : Nat) (o o' : Ob), 1 ≤ p ∧ p ≤ 4 → 1 ≤ p' ∧ p' ≤ 4 → o ∈ s.obs p → o' ∈ s.obs p' → adr h.lay p o.pos = a → firstI h.lay p' + o'.pos = a → p = p' := by
    intro p p' o o' hp hp' ho ho' e e'
    obtain ⟨a1, a2, a3⟩ := f.at hp ho
    obtain ⟨b1, b2, b3⟩ := f.at hp' ho'
    have := (apart hr (p := p) (q := p') (by omega) (by omega) ⟨a1, a2⟩ ⟨b1, b2⟩ (by rw [← a3, e, e'])).1
    omega
  rw [f.pf, noteP_val, noteP_val, noteP_val, noteP_val]
  constructor
  · intro e
    have fin : ∀ p : Nat, 1 ≤ p ∧ p ≤ 4 → (∃ o ∈ s.obs p, adr h.lay p o.pos = a) → ∃ p' : Nat, (p : Int) = p' ∧ (1 ≤ p' ∧ p' ≤ 4) ∧ ∃ o ∈ s.obs p', firstI h.lay p' + o.pos = a := fun p hp ⟨o, ho, e⟩ => ⟨p, rfl, hp, o, ho, by rw [← (f.at hp ho).2.2]; exact e⟩
    split at e
    · rename_i h4; cases e; exact fin 4 (by omega) h4
    · split at e
      · rename_i h4; cases e; exact fin 3 (by omega) h4
      · split at e
        · rename_i h4; cases e; exact fin 2 (by omega) h4
        · split at e
          · rename_i h4; cases e; exact fin 1 (by omega) h4
          · cases e
  · rintro ⟨p, rfl, hp, o, ho, e⟩
    have hin : ∃ o ∈ s.obs p, adr h.lay p o.pos = a := ⟨o, ho, by rw [(f.at hp ho).2.2]; exact e⟩
    have hno : ∀ p' : Nat, 1 ≤ p' ∧ p' ≤ 4 → p' ≠ p → ¬ ∃ o ∈ s.obs p', adr h.lay p' o.pos = a := fun p' hp' hne ⟨o', ho', e'⟩ => hne (key p' p o' o hp' hp ho' ho e' e)
    rcases (show p = 1 ∨ p = 2 ∨ p = 3 ∨ p = 4 by omega) with rfl | rfl | rfl | rfl
    · exact (if_neg (hno 4 (by omega) (by omega))).trans ((if_neg (hno 3 (by omega) (by omega))).trans ((if_neg (hno 2 (by omega) (by omega))).trans (if_pos hin)))
    · exact (if_neg (hno 4 (by omega) (by omega))).trans ((if_neg (hno 3 (by omega) (by omega))).trans (if_pos hin))
    · exact (if_neg (hno 4 (by omega) (by omega))).trans (if_pos hin)
    · exact if_pos hin
/-- So are the shapes of the objects of Low. -/
theorem Found.lf_iff {h : Hp} {s : Fnd} (f : Found h s) (a : Int) (x : Int × Int) : s.lf a = some x ↔ ∃ o ∈ s.o1, firstI h.lay 1 + o.pos = a ∧ x = (o.s, o.p) := by
  have hc : ChainO h.low.length 0 s.o1 := f.chain 1 (by omega)
  have h0 : ∀ o ∈ s.o1, adr h.lay 1 o.pos = firstI h.lay 1 + o.pos := fun o ho => (f.at (p := 1) (by omega) ho).2.2
  have h1 : ∀ a ∈ s.o1, ∀ b ∈ s.o1, adr h.lay 1 a.pos = adr h.lay 1 b.pos → a = b := fun a ha b hb e => by
    rw [h0 a ha, h0 b hb] at e
    exact hc.apart a ha b hb (by omega)
  have h2 : s.o1.Nodup := hc.nodup.imp fun h e => by subst e; omega
  rw [f.lf]
  constructor
  · intro e
    by_cases h3 : ∃ o ∈ s.o1, adr h.lay 1 o.pos = a
    · obtain ⟨o, ho, rfl⟩ := h3
      rw [noteL_at h1 h2 ho] at e
      cases e
      exact ⟨o, ho, (h0 o ho).symm, rfl⟩
    · rw [noteL_none h3] at e
      cases e
  · rintro ⟨o, ho, rfl, rfl⟩
    rw [← h0 o ho]
    exact noteL_at h1 h2 ho
end Go.Proofs.Ytpgjploaliefdaa.cp
